/- Levels under valuations, forms, and what one comparison of forms tells: no program in sight. -/
import Derived.Test.YtifoglinlcfelaaGreatDoorAbMp
set_option linter.unusedSimpArgs false
set_option linter.unusedVariables false
set_option linter.deprecated false
namespace Go.Ab
def Lv.val (v : ByteArray → Nat) : Lv → Nat
 | .zero => 0
 | .succ l => l.val v + 1
 | .max a b => Nat.max (a.val v) (b.val v)
 | .imax a b => if b.val v = 0 then 0 else Nat.max (a.val v) (b.val v)
 | .param s => v s
def Lv.pars : Lv → List ByteArray
 | .zero => []
 | .succ l => l.pars
 | .max a b => a.pars ++ b.pars
 | .imax a b => a.pars ++ b.pars
 | .param s => [s]
def Lv.sucs : Lv → Nat
 | .zero => 0
 | .succ l => l.sucs + 1
 | .max a b => a.sucs + b.sucs
 | .imax a b => a.sucs + b.sucs
 | .param _ => 0
def one (os : ByteArray → Bool) (p : ByteArray) : Nat := if os p then 1 else 0
theorem one_le (os : ByteArray → Bool) (p : ByteArray) : one os p ≤ 1 := by unfold one; split <;> omega
structure Fits (zs os : ByteArray → Bool) (v : ByteArray → Nat) : Prop where
 z : ∀ p, zs p = true → v p = 0
 o : ∀ p, os p = true → 1 ≤ v p
theorem Fits.one {zs os : ByteArray → Bool} {v : ByteArray → Nat} (h : Fits zs os v) (p : ByteArray) : Go.Ab.one os p ≤ v p := by
 unfold Go.Ab.one
 split
 ·rename_i hp; exact h.o p hp
 ·omega
structure Fm where
 n : Nat
 f : ByteArray → Option Nat
structure Fm.Is (F : Fm) (os : ByteArray → Bool) (v : ByteArray → Nat) (x : Nat) : Prop where
 n : F.n ≤ x
 le : ∀ p k, F.f p = some k → k + v p ≤ x + one os p
 at_ : x = F.n ∨ ∃ p k, F.f p = some k ∧ k + v p = x + one os p
structure FmOk (l : Lv) (zs os : ByteArray → Bool) (F : Fm) : Prop where
 ge : ∀ p k, F.f p = some k → k ≤ F.n
 one : ∀ p k, F.f p = some k → os p = true → 1 ≤ k
 par : ∀ p k, F.f p = some k → p ∈ l.pars ∧ zs p = false
 top : F.n ≤ l.sucs + 1
 val : ∀ v, Fits zs os v → F.Is os v (l.val v)
def Fm.nil : Fm := ⟨0, fun _ => none⟩
def joinO (up : Nat) : Option Nat → Option Nat → Option Nat
 | a, none => a
 | none, some b => some (b + up)
 | some a, some b => some (Nat.max a (b + up))
def Fm.join (F G : Fm) (up : Nat) : Fm := ⟨Nat.max F.n (G.n + up), fun p => joinO up (F.f p) (G.f p)⟩
theorem joinO_from {up : Nat} {a b : Option Nat} {k : Nat} (h : joinO up a b = some k) : a = some k ∨ ∃ y, b = some y ∧ k = y + up := by
 match a, b with
 | a, none => exact .inl h
 | none, some b => simp [joinO] at h; exact .inr ⟨b, rfl, h.symm⟩
 | some a, some b =>
  simp only [joinO, Option.some.injEq] at h
  rcases Nat.le_total a (b + up) with h1 | h1
  ·rw [show Nat.max a (b + up) = b + up from Nat.max_eq_right h1] at h
   exact .inr ⟨b, rfl, h.symm⟩
  ·rw [show Nat.max a (b + up) = a from Nat.max_eq_left h1] at h
   exact .inl (by rw [h])
theorem joinO_left {up : Nat} {a b : Option Nat} {x : Nat} (h : a = some x) : ∃ k, joinO up a b = some k ∧ x ≤ k := by
 subst h
 cases b with
 | none => exact ⟨x, rfl, Nat.le_refl _⟩
 | some b => exact ⟨_, rfl, Nat.le_max_left _ _⟩
theorem joinO_right {up : Nat} {a b : Option Nat} {y : Nat} (h : b = some y) : ∃ k, joinO up a b = some k ∧ y + up ≤ k := by
 subst h
 cases a with
 | none => exact ⟨y + up, rfl, Nat.le_refl _⟩
 | some a => exact ⟨_, rfl, Nat.le_max_right _ _⟩
theorem Fm.Is.join {F G : Fm} {os : ByteArray → Bool} {v : ByteArray → Nat} {x y : Nat} (hv : ∀ p, one os p ≤ v p) (h : F.Is os v x) (k : G.Is os v y) (up : Nat) : (F.join G up).Is os v (Nat.max x (y + up)) := by
 have m1 : x ≤ Nat.max x (y + up) := Nat.le_max_left _ _
 have m2 : y + up ≤ Nat.max x (y + up) := Nat.le_max_right _ _
 refine ⟨Nat.max_le.2 ⟨Nat.le_trans h.n m1, Nat.le_trans (Nat.add_le_add_right k.n _) m2⟩, fun p c hp => ?_, ?_⟩
 ·rcases joinO_from hp with hp | ⟨b, hb, rfl⟩
  ·have := h.le p c hp; omega
  ·have := k.le p b hb; omega
 ·rcases Nat.le_total x (y + up) with hxy | hxy
  ·rw [show Nat.max x (y + up) = y + up from Nat.max_eq_right hxy]
   rcases k.at_ with h1 | ⟨p, c, h1, h2⟩
   ·left
    have := h.n
    show y + up = Nat.max F.n (G.n + up)
    rw [show Nat.max F.n (G.n + up) = G.n + up from Nat.max_eq_right (by omega), h1]
   ·obtain ⟨c', h3, h4⟩ := joinO_right (up := up) (a := F.f p) h1
    right
    refine ⟨p, c', h3, ?_⟩
    rcases joinO_from h3 with h5 | ⟨b, h5, h6⟩
    ·have := h.le p c' h5; have := hv p; omega
    ·rw [h1] at h5
     obtain rfl := Option.some.inj h5
     omega
  ·rw [show Nat.max x (y + up) = x from Nat.max_eq_left hxy]
   rcases h.at_ with h1 | ⟨p, c, h1, h2⟩
   ·left
    have := k.n
    show x = Nat.max F.n (G.n + up)
    rw [show Nat.max F.n (G.n + up) = F.n from Nat.max_eq_left (by omega), h1]
   ·obtain ⟨c', h3, h4⟩ := joinO_left (up := up) (b := G.f p) h1
    right
    refine ⟨p, c', h3, ?_⟩
    rcases joinO_from h3 with h5 | ⟨b, h5, h6⟩
    ·rw [h1] at h5
     obtain rfl := Option.some.inj h5
     omega
    ·have := k.le p b h5; have := hv p; omega
theorem Fm.nil_is (os : ByteArray → Bool) (v : ByteArray → Nat) : Fm.nil.Is os v 0 := ⟨Nat.le_refl _, fun _ _ h => by simp [Fm.nil] at h, .inl rfl⟩
structure Part (l : Lv) (zs os : ByteArray → Bool) (F : Fm) (val : (ByteArray → Nat) → Nat) (top : Nat) : Prop where
 ge : ∀ p k, F.f p = some k → k ≤ F.n
 one : ∀ p k, F.f p = some k → os p = true → 1 ≤ k
 par : ∀ p k, F.f p = some k → p ∈ l.pars ∧ zs p = false
 top : F.n ≤ top
 val : ∀ v, Fits zs os v → F.Is os v (val v)
theorem Part.nil (l : Lv) (zs os : ByteArray → Bool) : Part l zs os Fm.nil (fun _ => 0) 0 :=
 ⟨fun _ _ h => by simp [Fm.nil] at h, fun _ _ h => by simp [Fm.nil] at h, fun _ _ h => by simp [Fm.nil] at h, Nat.le_refl _, fun v _ => Fm.nil_is os v⟩
theorem Part.join {l c : Lv} {zs os : ByteArray → Bool} {F G : Fm} {val : (ByteArray → Nat) → Nat} {top top' : Nat} (h : Part l zs os F val top) (k : FmOk c zs os G) (hc : ∀ p ∈ c.pars, p ∈ l.pars) (up : Nat)
  (ht1 : top ≤ top') (ht2 : c.sucs + 1 + up ≤ top') : Part l zs os (F.join G up) (fun v => Nat.max (val v) (c.val v + up)) top' := by
 refine ⟨fun p x hp => ?_, fun p x hp ho => ?_, fun p x hp => ?_, ?_, fun v hv => (h.val v hv).join (fun p => hv.one p) (k.val v hv) up⟩
 ·have m1 : F.n ≤ Nat.max F.n (G.n + up) := Nat.le_max_left _ _
  have m2 : G.n + up ≤ Nat.max F.n (G.n + up) := Nat.le_max_right _ _
  show x ≤ Nat.max F.n (G.n + up)
  rcases joinO_from hp with hp | ⟨b, hb, rfl⟩
  ·have := h.ge p x hp; omega
  ·have := k.ge p b hb; omega
 ·rcases joinO_from hp with hp | ⟨b, hb, rfl⟩
  ·exact h.one p x hp ho
  ·have := k.one p b hb ho; omega
 ·rcases joinO_from hp with hp | ⟨b, hb, rfl⟩
  ·exact h.par p x hp
  ·exact ⟨hc p (k.par p b hb).1, (k.par p b hb).2⟩
 ·have := h.top
  have := k.top
  exact Nat.max_le.2 ⟨by omega, by omega⟩
theorem Part.ok {l : Lv} {zs os : ByteArray → Bool} {F : Fm} {val : (ByteArray → Nat) → Nat} {top : Nat} (h : Part l zs os F val top) (ht : top ≤ l.sucs + 1) (hv : ∀ v, Fits zs os v → val v = l.val v) : FmOk l zs os F :=
 ⟨h.ge, h.one, h.par, Nat.le_trans h.top ht, fun v k => by rw [← hv v k]; exact h.val v k⟩
def Fm.leq (F G : Fm) : Prop := (∀ p k, F.f p = some k → ∃ m, G.f p = some m ∧ k ≤ m) ∧ F.n ≤ G.n
theorem leq_worth {a b : Lv} {zs os : ByteArray → Bool} {F G : Fm} (hF : FmOk a zs os F) (hG : FmOk b zs os G) (h : F.leq G) {v : ByteArray → Nat} (hv : Fits zs os v) : a.val v ≤ b.val v := by
 have h1 := hF.val v hv
 have h2 := hG.val v hv
 rcases h1.at_ with h3 | ⟨p, k, h3, h4⟩
 ·rw [h3]; exact Nat.le_trans h.2 h2.n
 ·obtain ⟨m, h5, h6⟩ := h.1 p k h3
  have := h2.le p m h5
  omega
def least (os : ByteArray → Bool) : ByteArray → Nat := fun p => one os p
def great (os : ByteArray → Bool) (B : Nat) (p : ByteArray) : ByteArray → Nat := fun q => if q = p then B else one os q
theorem least_worth {a : Lv} {zs os : ByteArray → Bool} {F : Fm} (hF : FmOk a zs os F) (hv : Fits zs os (least os)) : a.val (least os) = F.n := by
 have h1 := hF.val _ hv
 have h0 := h1.n
 rcases h1.at_ with h2 | ⟨p, k, h2, h3⟩
 ·exact h2
 ·have := hF.ge p k h2
  have : least os p = one os p := rfl
  omega
theorem leq_of_tests {a b : Lv} {zs os : ByteArray → Bool} {F G : Fm} (hF : FmOk a zs os F) (hG : FmOk b zs os G) (hz : ∀ p, zs p = true → os p = false) {B : Nat} (hB : b.sucs + 2 ≤ B)
  (h0 : a.val (least os) ≤ b.val (least os)) (h1 : ∀ p, zs p = false → a.val (great os B p) ≤ b.val (great os B p)) : F.leq G := by
 have f0 : Fits zs os (least os) := ⟨fun p hp => by simp [least, one, hz p hp], fun p hp => by simp [least, one, hp]⟩
 refine ⟨fun p k hp => ?_, by rw [least_worth hF f0, least_worth hG f0] at h0; exact h0⟩
 have hzp := (hF.par p k hp).2
 have fB : Fits zs os (great os B p) := by
  refine ⟨fun q hq => ?_, fun q hq => ?_⟩
  ·have : q ≠ p := by rintro rfl; rw [hzp] at hq; simp at hq
   simp [great, this, one, hz q hq]
  ·unfold great
   split
   ·omega
   ·simp [one, hq]
 have h2 := h1 p hzp
 have h3 := (hF.val _ fB).le p k hp
 have h4 := hG.val _ fB
 have gp : great os B p p = B := by simp [great]
 have htop := hG.top
 have hone : k + B - one os p ≥ B := by
  unfold one
  split
  ·rename_i ho; have := hF.one p k hp ho; omega
  ·omega
 have ho1 := one_le os p
 rw [gp] at h3
 rcases h4.at_ with h5 | ⟨q, m, h5, h6⟩
 ·omega
 ·by_cases hq : q = p
  ·subst hq
   rw [gp] at h6
   exact ⟨m, h5, by omega⟩
  ·have gq : great os B p q = one os q := by simp [great, hq]
   rw [gq] at h6
   have := hG.ge q m h5
   omega
theorem leq_iff {a b : Lv} {zs os : ByteArray → Bool} {F G : Fm} (hF : FmOk a zs os F) (hG : FmOk b zs os G) (hz : ∀ p, zs p = true → os p = false) : F.leq G ↔ ∀ v, Fits zs os v → a.val v ≤ b.val v := by
 refine ⟨fun h v hv => leq_worth hF hG h hv, fun h => leq_of_tests hF hG hz (B := b.sucs + 2) (Nat.le_refl _) (h _ ?_) (fun p hp => h _ ?_)⟩
 ·exact ⟨fun p hp => by simp [least, one, hz p hp], fun p hp => by simp [least, one, hp]⟩
 ·refine ⟨fun q hq => ?_, fun q hq => ?_⟩
  ·have : q ≠ p := by rintro rfl; rw [hp] at hq; simp at hq
   simp [great, this, one, hz q hq]
  ·unfold great
   split
   ·omega
   ·simp [one, hq]
theorem param_form {s : ByteArray} {zs os : ByteArray → Bool} (h : zs s = false) : FmOk (.param s) zs os ⟨one os s, fun p => if p = s then some (one os s) else none⟩ := by
 refine ⟨fun p k hp => ?_, fun p k hp ho => ?_, fun p k hp => ?_, by have := one_le os s; simp [Lv.sucs]; omega, fun v hv => ⟨hv.one s, fun p k hp => ?_, .inr ⟨s, one os s, by simp, by simp [Lv.val]; omega⟩⟩⟩
 ·simp only at hp
  split at hp
  ·obtain rfl := Option.some.inj hp; exact Nat.le_refl _
  ·simp at hp
 ·simp only at hp
  split at hp
  ·rename_i hps
   obtain rfl := Option.some.inj hp
   subst hps
   simp [Go.Ab.one, ho]
  ·simp at hp
 ·simp only at hp
  split at hp
  ·rename_i hps; subst hps; exact ⟨by simp [Lv.pars], h⟩
  ·simp at hp
 ·simp only at hp
  split at hp
  ·rename_i hps
   obtain rfl := Option.some.inj hp
   subst hps
   simp [Lv.val]; omega
  ·simp at hp
theorem param_zero {s : ByteArray} {zs os : ByteArray → Bool} (h : zs s = true) : FmOk (.param s) zs os Fm.nil :=
 (Part.nil (.param s) zs os).ok (Nat.zero_le _) fun v hv => by simp [Lv.val, hv.z s h]
theorem zero_form (zs os : ByteArray → Bool) : FmOk .zero zs os Fm.nil := (Part.nil .zero zs os).ok (Nat.zero_le _) fun _ _ => rfl
theorem succ_form {l : Lv} {zs os : ByteArray → Bool} {F : Fm} (h : FmOk l zs os F) : FmOk (.succ l) zs os (Fm.nil.join F 1) :=
 ((Part.nil (.succ l) zs os).join h (fun _ hp => hp) 1 (Nat.zero_le _) (Nat.le_refl _)).ok (by simp [Lv.sucs]) fun v _ => by simp [Lv.val]
theorem max_form {a b : Lv} {zs os : ByteArray → Bool} {F G : Fm} (h : FmOk a zs os F) (k : FmOk b zs os G) : FmOk (.max a b) zs os ((Fm.nil.join F 0).join G 0) :=
 (((Part.nil (.max a b) zs os).join h (fun _ hp => List.mem_append_left _ hp) 0 (Nat.zero_le _) (Nat.le_refl _)).join k (fun _ hp => List.mem_append_right _ hp) 0 (top' := a.sucs + b.sucs + 1) (by omega) (by omega)).ok (by simp [Lv.sucs])
  fun v _ => by simp [Lv.val]
theorem imax_none {a b : Lv} {zs os : ByteArray → Bool} {G : Fm} (k : FmOk b zs os G) (h0 : G.n = 0) (hf : ∀ p, G.f p = none) : FmOk (.imax a b) zs os Fm.nil :=
 (Part.nil (.imax a b) zs os).ok (Nat.zero_le _) fun v hv => by
  have hb : b.val v = 0 := by
   rcases (k.val v hv).at_ with h1 | ⟨p, c, h1, _⟩
   ·rw [h1, h0]
   ·rw [hf p] at h1; simp at h1
  simp [Lv.val, hb]
theorem imax_form {a b : Lv} {zs os : ByteArray → Bool} {F G : Fm} (h : FmOk a zs os F) (k : FmOk b zs os G) (h0 : G.n ≠ 0) : FmOk (.imax a b) zs os ((Fm.nil.join G 0).join F 0) :=
 (((Part.nil (.imax a b) zs os).join k (fun _ hp => List.mem_append_right _ hp) 0 (Nat.zero_le _) (Nat.le_refl _)).join h (fun _ hp => List.mem_append_left _ hp) 0 (top' := a.sucs + b.sucs + 1) (by omega) (by omega)).ok (by simp [Lv.sucs])
  fun v hv => by
   have hb : b.val v ≠ 0 := by have := (k.val v hv).n; omega
   simp [Lv.val, hb, Nat.max_comm]
theorem full_form (zs os : ByteArray → Bool) (hc : ∀ p, zs p = false → os p = true) : ∀ l : Lv, ∃ F, FmOk l zs os F
 | .zero => ⟨_, zero_form zs os⟩
 | .succ l => by obtain ⟨F, h⟩ := full_form zs os hc l; exact ⟨_, succ_form h⟩
 | .max a b => by obtain ⟨F, h⟩ := full_form zs os hc a; obtain ⟨G, k⟩ := full_form zs os hc b; exact ⟨_, max_form h k⟩
 | .imax a b => by
  obtain ⟨F, h⟩ := full_form zs os hc a
  obtain ⟨G, k⟩ := full_form zs os hc b
  by_cases h0 : G.n = 0
  ·refine ⟨_, imax_none k h0 fun p => ?_⟩
   cases hp : G.f p with
   | none => rfl
   | some c =>
    have := k.one p c hp (hc p (k.par p c hp).2)
    have := k.ge p c hp
    omega
  ·exact ⟨_, imax_form h k h0⟩
 | .param s => by
  cases hz : zs s with
  | true => exact ⟨_, param_zero hz⟩
  | false => exact ⟨_, param_form hz⟩
def Lv.Leq (a b : Lv) : Prop := ∀ v, a.val v ≤ b.val v
theorem leq_three {a b : Lv} {B : Nat} (hB : b.sucs + 2 ≤ B) (h : ∀ v : ByteArray → Nat, (∀ p, v p = 0 ∨ v p = 1 ∨ v p = B) → a.val v ≤ b.val v) : a.Leq b := by
 intro v
 obtain ⟨F, hF⟩ := full_form (fun p => v p == 0) (fun p => !(v p == 0)) (fun p hp => by have hp' : (v p == 0) = false := hp; show (!(v p == 0)) = true; rw [hp']; rfl) a
 obtain ⟨G, hG⟩ := full_form (fun p => v p == 0) (fun p => !(v p == 0)) (fun p hp => by have hp' : (v p == 0) = false := hp; show (!(v p == 0)) = true; rw [hp']; rfl) b
 have hv : Fits (fun p => v p == 0) (fun p => !(v p == 0)) v := ⟨fun p hp => by simpa using hp, fun p hp => by simp at hp; omega⟩
 refine leq_worth hF hG (leq_of_tests hF hG (fun p hp => by have hp' : (v p == 0) = true := hp; show (!(v p == 0)) = false; rw [hp']; rfl) hB (h _ fun p => ?_) (fun p _ => h _ fun q => ?_)) hv
 ·unfold least one
  split
  ·exact .inr (.inl rfl)
  ·exact .inl rfl
 ·unfold great
  split
  ·exact .inr (.inr rfl)
  ·unfold one
   split
   ·exact .inr (.inl rfl)
   ·exact .inl rfl
end Go.Ab
