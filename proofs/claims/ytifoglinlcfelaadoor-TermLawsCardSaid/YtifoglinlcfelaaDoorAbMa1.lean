/- AbMa1: printed by program: functions of the program as plain Lean, and the equations. -/
import Derived.Test.YtifoglinlcfelaaDoorAbMp
import Derived.Test.YtifoglinlcfelaaDoorLvG
import Derived.Test.YtifoglinlcfelaaDoorAbWk4
set_option linter.unusedSimpArgs false
set_option linter.unusedVariables false
set_option linter.deprecated false
section
namespace Go.Ab
def Lv.val (v : ByteArray → Nat) : Lv → Nat
 | .zero => 0
 | .succ l => l.val v + 1
 | .max a b => Nat.max (a.val v) (b.val v)
 | .imax a b => if b.val v = 0 then 0 else Nat.max (a.val v) (b.val v)
 | .param s => v s
def Lv.pars : Lv → List ByteArray
 | .zero => []
 | .succ l => l.pars
 | .max a b => a.pars ++ b.pars
 | .imax a b => a.pars ++ b.pars
 | .param s => [s]
def Lv.sucs : Lv → Nat
 | .zero => 0
 | .succ l => l.sucs + 1
 | .max a b => a.sucs + b.sucs
 | .imax a b => a.sucs + b.sucs
 | .param _ => 0
def one (os : ByteArray → Bool) (p : ByteArray) : Nat := if os p then 1 else 0
structure Fits (zs os : ByteArray → Bool) (v : ByteArray → Nat) : Prop where
 z : ∀ p, zs p = true → v p = 0
 o : ∀ p, os p = true → 1 ≤ v p
theorem Fits.one {zs os : ByteArray → Bool} {v : ByteArray → Nat} (h : Fits zs os v) (p : ByteArray) : Go.Ab.one os p ≤ v p := by
 unfold Go.Ab.one
 split
 ·rename_i hp; exact h.o p hp
 ·omega
structure Fm where
 n : Nat
 f : ByteArray → Option Nat
structure Fm.Is (F : Fm) (os : ByteArray → Bool) (v : ByteArray → Nat) (x : Nat) : Prop where
 n : F.n ≤ x
 le : ∀ p k, F.f p = some k → k + v p ≤ x + one os p
 at_ : x = F.n ∨ ∃ p k, F.f p = some k ∧ k + v p = x + one os p
structure FmOk (l : Lv) (zs os : ByteArray → Bool) (F : Fm) : Prop where
 ge : ∀ p k, F.f p = some k → k ≤ F.n
 one : ∀ p k, F.f p = some k → os p = true → 1 ≤ k
 par : ∀ p k, F.f p = some k → p ∈ l.pars ∧ zs p = false
 top : F.n ≤ l.sucs + 1
 val : ∀ v, Fits zs os v → F.Is os v (l.val v)
def Fm.nil : Fm := ⟨0, fun _ => none⟩
theorem Fm.nil_is (os : ByteArray → Bool) (v : ByteArray → Nat) : Fm.nil.Is os v 0 := ⟨Nat.le_refl _, fun _ _ h => by simp [Fm.nil] at h, .inl rfl⟩
structure Part (l : Lv) (zs os : ByteArray → Bool) (F : Fm) (val : (ByteArray → Nat) → Nat) (top : Nat) : Prop where
 ge : ∀ p k, F.f p = some k → k ≤ F.n
 one : ∀ p k, F.f p = some k → os p = true → 1 ≤ k
 par : ∀ p k, F.f p = some k → p ∈ l.pars ∧ zs p = false
 top : F.n ≤ top
 val : ∀ v, Fits zs os v → F.Is os v (val v)
theorem Part.nil (l : Lv) (zs os : ByteArray → Bool) : Part l zs os Fm.nil (fun _ => 0) 0 :=
 ⟨fun _ _ h => by simp [Fm.nil] at h, fun _ _ h => by simp [Fm.nil] at h, fun _ _ h => by simp [Fm.nil] at h, Nat.le_refl _, fun v _ => Fm.nil_is os v⟩
theorem Part.ok {l : Lv} {zs os : ByteArray → Bool} {F : Fm} {val : (ByteArray → Nat) → Nat} {top : Nat} (h : Part l zs os F val top) (ht : top ≤ l.sucs + 1) (hv : ∀ v, Fits zs os v → val v = l.val v) : FmOk l zs os F :=
 ⟨h.ge, h.one, h.par, Nat.le_trans h.top ht, fun v k => by rw [← hv v k]; exact h.val v k⟩
def Fm.leq (F G : Fm) : Prop := (∀ p k, F.f p = some k → ∃ m, G.f p = some m ∧ k ≤ m) ∧ F.n ≤ G.n
def great (os : ByteArray → Bool) (B : Nat) (p : ByteArray) : ByteArray → Nat := fun q => if q = p then B else one os q
end Go.Ab
end
section
namespace Go.Ab.Mk
open Go.Proofs Go.Ab
theorem tl_inj {s t : ByteArray} (h : s.toList = t.toList) : s = t := by
 rw [ByteArray.toList_eq, ByteArray.toList_eq] at h
 apply ByteArray.ext
 exact Array.toList_inj.1 h
theorem tok_size (s : ByteArray) (p : Nat) : (tokV s p).t.size ≤ s.size := by
  have h0 : (ByteArray.mk #[]).size = 0 := rfl
  have he : ∀ i q, (s.extract i q).size ≤ s.size := fun i q => by rw [ByteArray.size_extract]; omega
  have he0 : (ByteArray.mk #[]).size ≤ s.size := by rw [h0]; exact Nat.zero_le _
  unfold tokV tokAt
  generalize scan isBlank s p = i
  cases i == s.size
  · simp only [cond_false]
    cases byteAt s i == 40
    · cases byteAt s i == 41
      · cases nmByte (byteAt s i) true
        · cases (byteAt s i == 35 || isDigit (byteAt s i))
          · exact he0
          · simp only [cond_false, cond_true, numTok]
            generalize (bif byteAt s i == 35 then i + 1 else i) = d
            cases scan isDigit s (i + 1) == d
            · cases decide (scan isDigit s (i + 1) - d > 5)
              · cases (decide (scan isDigit s (i + 1) - d > 1) && byteAt s d == 48)
                · exact he _ _
                · exact he0
              · exact he0
            · exact he0
        · simp only [cond_false, cond_true, nmTok]
          cases decide (scan (nmByte · false) s (i + 1) - i > 40)
          · exact he _ _
          · exact he0
      · exact he _ _
    · exact he _ _
  · exact he0
theorem rlevel_names (s : ByteArray) : ∀ (n : Nat) (st : RS), ∀ x ∈ (rlevelV n s st).1.pars, 0 < x.size ∧ x.size ≤ s.size
 | 0, st => by simp [rlevelV, Lv.pars]
 | n + 1, st => by
  have ih := rlevel_names s n
  unfold rlevelV
  cases st.c != 0
  case true => simp [Lv.pars]
  cases strIs (tokV s st.p).t [48]
  case true => simp [Lv.pars]
  cases h1 : isNameV (tokV s st.p).t
  case true =>
   intro x hx
   simp only [cond_false, cond_true, Lv.pars, List.mem_singleton] at hx
   subst hx
   simp only [isNameV, Bool.and_eq_true, Bool.not_eq_true'] at h1
   exact ⟨isNo_size h1.1, tok_size s st.p⟩
  cases strIs (tokV s st.p).t [40]
  case false => simp [Lv.pars]
  simp only [cond_false, cond_true, lvP]
  have two : ∀ (f : Lv → Lv → Lv) (st : RS), (∀ a b, (f a b).pars = a.pars ++ b.pars) → ∀ x ∈ (lv2 (rlevelV n s) s f st).1.pars, 0 < x.size ∧ x.size ≤ s.size := by
   intro f st hf x hx
   simp only [lv2, hf, List.mem_append] at hx
   rcases hx with hx | hx
   ·exact ih _ x hx
   ·exact ih _ x hx
  cases strIs (tokV s (rnextV s st).2.p).t [115]
  case true => exact ih _
  cases strIs (tokV s (rnextV s st).2.p).t [109, 97, 120]
  case true => exact two .max _ fun _ _ => rfl
  cases strIs (tokV s (rnextV s st).2.p).t [105, 109, 97, 120]
  case true => exact two .imax _ fun _ _ => rfl
  simp [Lv.pars]
end Go.Ab.Mk
end
section
namespace Go.Ab.Mk
open Go.Proofs Go.Ab
theorem scan_all {f : Int → Bool} {s : ByteArray} : ∀ (k i : Nat), s.size - i = k → ∀ j, i ≤ j → j < scan f s i → f (byteAt s j) = true
 | k, i, hk, j, h1, h2 => by
  by_cases h : i < s.size ∧ f (byteAt s i) = true
  ·rw [scan_go h.1 h.2] at h2
   rcases Nat.eq_or_lt_of_le h1 with rfl | h1
   ·exact h.2
   ·exact scan_all (k - 1) (i + 1) (by omega) j h1 h2
  ·rw [scan_stop h] at h2; omega
theorem byteAt_ext {s : ByteArray} {i q j : Nat} (h : i + j < q) (hq : q ≤ s.size) : byteAt (s.extract i q) j = byteAt s (i + j) := by
 have h1 : (s.extract i q).data.toList.getD j 0 = s.data.toList.getD (i + j) 0 := by
  rw [ByteArray.data_extract]
  simp only [List.getD, Array.getElem?_toList, Array.getElem?_extract]
  have hq' : q ≤ s.data.size := hq
  rw [if_pos (by omega)]
 simp only [byteAt, h1]
end Go.Ab.Mk
end
section
namespace Go.Ab.Mk
open Go.Proofs Go.Ab
structure NameOk (t : ByteArray) : Prop where
 pos : 0 < t.size
 few : t.size ≤ 40
 first : nmByte (byteAt t 0) true = true
 rest : ∀ i, 0 < i → i < t.size → nmByte (byteAt t i) false = true
theorem byteAt_ge {s : ByteArray} {i : Nat} (h : s.size ≤ i) : byteAt s i = 0 := by
 have h' : s.data.toList.length ≤ i := by rw [Array.length_toList]; exact h
 unfold byteAt
 rw [List.getD_eq_getElem?_getD, List.getElem?_eq_none h']
 rfl
theorem isNameV_no (t : ByteArray) (h : t.size = 0) : isNameV t = false := by
 have : t = ByteArray.mk #[] := by apply ByteArray.ext; exact Array.eq_empty_of_size_eq_zero h
 subst this
 simp [isNameV, isNo]
theorem tok_name {s : ByteArray} {p : Nat} (h : isNameV (tokV s p).t = true) : NameOk (tokV s p).t := by
  unfold tokV at h ⊢
  generalize scan isBlank s p = i at h ⊢
  unfold tokAt at h ⊢
  have no : isNameV (Tok.no i).t = false := isNameV_no _ rfl
  have no' : isNameV (ByteArray.mk #[]) = false := isNameV_no _ rfl
  by_cases hi : i < s.size
  case neg =>
    exfalso
    cases he : i == s.size with
    | true => rw [he, cond_true] at h; rw [no'] at h; simp at h
    | false =>
      have hb : byteAt s i = 0 := byteAt_ge (by omega)
      have e1 : nmByte 0 true = false := by decide
      have e2 : isDigit 0 = false := by decide
      rw [he, hb, e1, e2] at h
      simp only [cond_false, show ((0 : Int) == 40) = false from rfl, show ((0 : Int) == 41) = false from rfl, show ((0 : Int) == 35) = false from rfl, Bool.or_false, no] at h
      simp at h
  have he : (i == s.size) = false := by simp; omega
  rw [he] at h ⊢
  simp only [cond_false] at h ⊢
  have bx : ∀ q, i < q → q ≤ s.size → byteAt (s.extract i q) 0 = byteAt s i := fun q h1 h2 => by have := byteAt_ext (s := s) (i := i) (q := q) (j := 0) (by omega) h2; simpa using this
  have one : nmByte (byteAt s i) true = false → ∀ q, i < q → q ≤ s.size → isNameV (s.extract i q) = false := fun hn q h1 h2 => by
    unfold isNameV
    rw [bx q h1 h2, hn, Bool.and_false]
  cases h40 : byteAt s i == 40 with
  | true =>
    exfalso
    rw [h40, cond_true] at h
    rw [one (by rw [beq_iff_eq.1 h40]; decide) (i + 1) (by omega) (by omega)] at h
    simp at h
  | false =>
    rw [h40] at h
    simp only [cond_false] at h ⊢
    cases h41 : byteAt s i == 41 with
    | true =>
      exfalso
      rw [h41, cond_true] at h
      rw [one (by rw [beq_iff_eq.1 h41]; decide) (i + 1) (by omega) (by omega)] at h
      simp at h
    | false =>
      rw [h41] at h
      simp only [cond_false] at h ⊢
      cases hn : nmByte (byteAt s i) true with
      | true =>
        rw [hn, cond_true] at h
        simp only [cond_true]
        have g1 := le_scan (nmByte · false) s (i + 1)
        have g2 := scan_le (f := (nmByte · false)) (s := s) (i := i + 1) (by omega)
        have g3 := scan_all (f := (nmByte · false)) (s := s) _ (i + 1) rfl
        generalize scan (nmByte · false) s (i + 1) = q at h g1 g2 g3 ⊢
        unfold nmTok at h ⊢
        cases hq : decide (q - i > 40) with
        | true => rw [hq, cond_true, no] at h; simp at h
        | false =>
          simp only [cond_false]
          have hq' := of_decide_eq_false hq
          have hz : (s.extract i q).size = q - i := by rw [ByteArray.size_extract]; omega
          refine ⟨by omega, by omega, by rw [bx q (by omega) g2]; exact hn, fun j h1 h2 => ?_⟩
          rw [byteAt_ext (by omega) g2]
          exact g3 (i + j) (by omega) (by omega)
      | false =>
        exfalso
        rw [hn] at h
        simp only [cond_false] at h
        cases hd : (byteAt s i == 35 || isDigit (byteAt s i)) with
        | false => rw [hd, cond_false, no] at h; simp at h
        | true =>
          rw [hd, cond_true] at h
          have g1 := le_scan isDigit s (i + 1)
          have g2 := scan_le (f := isDigit) (s := s) (i := i + 1) (by omega)
          generalize scan isDigit s (i + 1) = q at h g1 g2
          simp only [numTok] at h
          generalize (bif byteAt s i == 35 then i + 1 else i) = d at h
          cases h1 : q == d
          · rw [h1, cond_false] at h
            cases h2 : decide (q - d > 5)
            · rw [h2, cond_false] at h
              cases h3 : (decide (q - d > 1) && byteAt s d == 48)
              · rw [h3, cond_false, one hn q (by omega) g2] at h; simp at h
              · rw [h3, cond_true, no] at h; simp at h
            · rw [h2, cond_true, no] at h; simp at h
          · rw [h1, cond_true, no] at h; simp at h
theorem rlevel_named (s : ByteArray) : ∀ (n : Nat) (st : RS), ∀ x ∈ (rlevelV n s st).1.pars, NameOk x
 | 0, st => by simp [rlevelV, Lv.pars]
 | n + 1, st => by
  have ih := rlevel_named s n
  unfold rlevelV
  cases st.c != 0
  case true => simp [Lv.pars]
  cases strIs (tokV s st.p).t [48]
  case true => simp [Lv.pars]
  cases h1 : isNameV (tokV s st.p).t
  case true =>
   intro x hx
   simp only [cond_false, cond_true, Lv.pars, List.mem_singleton] at hx
   subst hx
   exact tok_name h1
  cases strIs (tokV s st.p).t [40]
  case false => simp [Lv.pars]
  simp only [cond_false, cond_true, lvP]
  have two : ∀ (f : Lv → Lv → Lv) (st : RS), (∀ a b, (f a b).pars = a.pars ++ b.pars) → ∀ x ∈ (lv2 (rlevelV n s) s f st).1.pars, NameOk x := by
   intro f st hf x hx
   simp only [lv2, hf, List.mem_append] at hx
   rcases hx with hx | hx
   ·exact ih _ x hx
   ·exact ih _ x hx
  cases strIs (tokV s (rnextV s st).2.p).t [115]
  case true => exact ih _
  cases strIs (tokV s (rnextV s st).2.p).t [109, 97, 120]
  case true => exact two .max _ fun _ _ => rfl
  cases strIs (tokV s (rnextV s st).2.p).t [105, 109, 97, 120]
  case true => exact two .imax _ fun _ _ => rfl
  simp [Lv.pars]
def At (s : ByteArray) (p : Nat) (Y : List UInt8) : Prop := ∃ X, s = ba (X ++ Y) ∧ p = X.length
theorem At.byte {s : ByteArray} {p : Nat} {Y : List UInt8} (h : At s p Y) (j : Nat) : byteAt s (p + j) = ((Y.getD j 0).toNat : Int) := by
 obtain ⟨X, rfl, rfl⟩ := h
 simp [byteAt, ba, List.getD, List.getElem?_append_right]
theorem At.size {s : ByteArray} {p : Nat} {Y : List UInt8} (h : At s p Y) : s.size = p + Y.length := by
 obtain ⟨X, rfl, rfl⟩ := h
 simp [ba_size]
theorem At.drop {s : ByteArray} {p : Nat} {A Y : List UInt8} (h : At s p (A ++ Y)) : At s (p + A.length) Y := by
 obtain ⟨X, rfl, rfl⟩ := h
 exact ⟨X ++ A, by rw [List.append_assoc], by simp⟩
theorem At.ext {s : ByteArray} {p : Nat} {A Y : List UInt8} (h : At s p (A ++ Y)) : s.extract p (p + A.length) = ba A := by
 obtain ⟨X, rfl, rfl⟩ := h
 apply tl_inj
 rw [ByteArray.toList_eq, ByteArray.toList_eq, ByteArray.data_extract, Array.toList_extract]
 simp [ba]
theorem At.head {s : ByteArray} {p : Nat} {c : UInt8} {Y : List UInt8} (h : At s p (c :: Y)) : byteAt s p = (c.toNat : Int) := h.byte 0
theorem At.tail {s : ByteArray} {p : Nat} {c : UInt8} {Y : List UInt8} (h : At s p (c :: Y)) : At s (p + 1) Y := At.drop (A := [c]) h
def Sep (Z : List UInt8) : Prop := Z = [] ∨ ∃ c Z', Z = c :: Z' ∧ (c = 32 ∨ c = 41)
theorem Sep.stop {s : ByteArray} {q : Nat} {Z : List UInt8} (h : Sep Z) (ha : At s q Z) (f : Int → Bool) (h1 : f 32 = false) (h2 : f 41 = false) : ¬ (q < s.size ∧ f (byteAt s q) = true) := by
 rcases h with rfl | ⟨c, Z', rfl, hc⟩
 ·have := ha.size
  simp at this
  omega
 ·rintro ⟨_, hf⟩
  rw [ha.head] at hf
  rcases hc with rfl | rfl
  ·rw [show (((32 : UInt8).toNat : Nat) : Int) = 32 from rfl, h1] at hf; simp at hf
  ·rw [show (((41 : UInt8).toNat : Nat) : Int) = 41 from rfl, h2] at hf; simp at hf
theorem scan_to {f : Int → Bool} {s : ByteArray} {q : Nat} (hq : q ≤ s.size) (hs : ¬ (q < s.size ∧ f (byteAt s q) = true)) : ∀ (k i : Nat), i + k = q → (∀ j, i ≤ j → j < q → f (byteAt s j) = true) → scan f s i = q
 | 0, i, h, _ => by
  obtain rfl : i = q := by omega
  exact scan_stop hs
 | k + 1, i, h, ha => by
  rw [scan_go (by omega) (ha i (Nat.le_refl _) (by omega))]
  exact scan_to hq hs k (i + 1) (by omega) fun j h1 h2 => ha j (by omega) h2
theorem tok_blank {s : ByteArray} {p : Nat} {Y : List UInt8} (h : At s p (32 :: Y)) : tokV s p = tokV s (p + 1) := by
 have hz := h.size
 unfold tokV
 rw [scan_go (by simp at hz; omega) (by rw [h.head]; rfl)]
theorem tok_here {s : ByteArray} {p : Nat} (h : isBlank (byteAt s p) = false) : tokV s p = tokAt s p := by
 unfold tokV
 rw [scan_stop fun ⟨_, hf⟩ => by rw [h] at hf; simp at hf]
theorem ne_end {s : ByteArray} {p : Nat} {c : UInt8} {Y : List UInt8} (h : At s p (c :: Y)) : (p == s.size) = false := by
 have := h.size
 simp at this
 simp; omega
theorem tok_open {s : ByteArray} {p : Nat} {Y : List UInt8} (h : At s p (40 :: Y)) : tokV s p = ⟨ba [40], p, true⟩ := by
 rw [tok_here (by rw [h.head]; rfl)]
 have e : byteAt s p = 40 := h.head
 have ex : s.extract p (p + 1) = ba [40] := At.ext (A := [40]) h
 unfold tokAt
 rw [ne_end h, e, ex]
 rfl
theorem tok_close {s : ByteArray} {p : Nat} {Y : List UInt8} (h : At s p (41 :: Y)) : tokV s p = ⟨ba [41], p, true⟩ := by
 rw [tok_here (by rw [h.head]; rfl)]
 have e : byteAt s p = 41 := h.head
 have ex : s.extract p (p + 1) = ba [41] := At.ext (A := [41]) h
 unfold tokAt
 rw [ne_end h, e, ex]
 rfl
theorem tok_end {s : ByteArray} {p : Nat} (h : At s p []) : tokV s p = ⟨ba [], p, true⟩ := by
 have hz : s.size = p := h.size
 have : tokV s p = tokAt s p := by
  unfold tokV
  rw [scan_stop fun ⟨hf, _⟩ => by omega]
 rw [this]
 unfold tokAt
 rw [show (p == s.size) = true by simp [hz]]
 rfl
theorem tok_nought {s : ByteArray} {p : Nat} {Z : List UInt8} (h : At s p (48 :: Z)) (hZ : Sep Z) : tokV s p = ⟨ba [48], p, true⟩ := by
 rw [tok_here (by rw [h.head]; rfl)]
 have e : byteAt s p = 48 := h.head
 have ex : s.extract p (p + 1) = ba [48] := At.ext (A := [48]) h
 have hz := h.tail.size
 have sc : scan isDigit s (p + 1) = p + 1 := scan_stop (hZ.stop h.tail isDigit rfl rfl)
 unfold tokAt
 rw [ne_end h, e, sc]
 have e2 : ((p + 1) - p) = 1 := by omega
 simp only [cond_false, cond_true, numTok, e2, show ((48 : Int) == 40) = false from rfl, show ((48 : Int) == 41) = false from rfl, show nmByte 48 true = false from rfl, show isDigit 48 = true from rfl, Bool.or_true, show ((48 : Int) == 35) = false from rfl,
  show (p + 1 == p) = false by simp, show decide (1 > 5) = false from rfl, show decide (1 > 1) = false from rfl, Bool.false_and, ex]
theorem nm_facts {x : Int} (h : nmByte x true = true) : isBlank x = false ∧ (x == 40) = false ∧ (x == 41) = false := by
 simp only [nmByte, isLetter, Bool.not_true, Bool.false_and, Bool.or_false, Bool.or_eq_true, Bool.and_eq_true, decide_eq_true_eq, beq_iff_eq] at h
 simp only [isBlank, Bool.or_eq_false_iff, beq_eq_false_iff_ne]
 omega
theorem tok_word {s : ByteArray} {p : Nat} {w Z : List UInt8} (h : At s p (w ++ Z)) (hw : NameOk (ba w)) (hZ : Sep Z) : tokV s p = ⟨ba w, p, true⟩ := by
  have hpos := hw.pos
  have hfew := hw.few
  rw [ba_size] at hpos hfew
  have bw : ∀ j, j < w.length → byteAt s (p + j) = byteAt (ba w) j := by
    intro j hj
    rw [h.byte j]
    simp [byteAt, ba, List.getD, List.getElem?_append_left hj]
  have b0 : byteAt s p = byteAt (ba w) 0 := bw 0 hpos
  have hz := h.size
  rw [List.length_append] at hz
  obtain ⟨f1, f2, f3⟩ := nm_facts hw.first
  rw [tok_here (by rw [b0]; exact f1)]
  have sc : scan (nmByte · false) s (p + 1) = p + w.length := scan_to (by omega) (hZ.stop h.drop (nmByte · false) rfl rfl) (w.length - 1) (p + 1) (by omega) fun j h1 h2 => by
    have := bw (j - p) (by omega)
    rw [show p + (j - p) = j by omega] at this
    show nmByte (byteAt s j) false = true
    rw [this]
    exact hw.rest _ (by omega) (by rw [ba_size]; omega)
  have ex : s.extract p (p + w.length) = ba w := h.ext
  unfold tokAt
  rw [show (p == s.size) = false by simp; omega, b0, f2, f3, hw.first]
  simp only [cond_false, cond_true, sc, nmTok, show decide (p + w.length - p > 40) = false by simp; omega, ex]
theorem rnext_ok {s : ByteArray} {q p : Nat} {t : ByteArray} {a : Int} (h : tokV s q = ⟨t, p, true⟩) (ht : isNo t = false) : rnextV s ⟨q, 0, a⟩ = (t, ⟨p + t.size, 0, a⟩) := by
 unfold rnextV
 simp only [h, ht, Bool.not_true, Bool.or_self, cond_false, bne_self_eq_false]
theorem rtake_ok {s : ByteArray} {q p : Nat} {t w : ByteArray} {a : Int} (h : tokV s q = ⟨t, p, true⟩) (ht : t.toList = w.toList) : rtakeV s ⟨q, 0, a⟩ w = ⟨p + t.size, 0, a⟩ := by
 unfold rtakeV
 simp only [h, ht, beq_self_eq_true, Bool.not_true, Bool.or_self, cond_false, cond_true]
theorem strIs_bb {a b : List UInt8} : strIs (ba a) b = (a == b) := by
 unfold strIs
 rw [ByteArray.toList_eq, ByteArray.toList_eq]
 simp [ba]
theorem isNo_eq {a : List UInt8} : isNo (ba a) = (a == []) := by
 unfold isNo
 rw [ByteArray.toList_eq, ByteArray.toList_eq]
 simp [ba]
theorem nameOk_ne {w : List UInt8} (h : NameOk (ba w)) : w ≠ [] := by
 rintro rfl
 have := h.pos
 simp [ba_size] at this
theorem nameOk_is {w : List UInt8} (h : NameOk (ba w)) : isNameV (ba w) = true ∧ strIs (ba w) [48] = false := by
 refine ⟨?_, ?_⟩
 ·unfold isNameV
  rw [isNo_eq, h.first]
  simp [nameOk_ne h]
 ·rw [strIs_bb]
  cases hw : w == [48] with
  | false => rfl
  | true =>
   have := h.first
   rw [beq_iff_eq.1 hw] at this
   simp [show nmByte (byteAt (ba [48]) 0) true = false from rfl] at this
theorem word_s : NameOk (ba [115]) := ⟨by decide, by decide, rfl, fun i h1 h2 => by rw [ba_size] at h2; simp at h2; omega⟩
theorem word_max : NameOk (ba [109, 97, 120]) := ⟨by decide, by decide, rfl, fun i h1 h2 => by
 rw [ba_size] at h2
 have : i = 1 ∨ i = 2 := by simp at h2; omega
 rcases this with rfl | rfl <;> rfl⟩
theorem word_imax : NameOk (ba [105, 109, 97, 120]) := ⟨by decide, by decide, rfl, fun i h1 h2 => by
 rw [ba_size] at h2
 have : i = 1 ∨ i = 2 ∨ i = 3 := by simp at h2; omega
 rcases this with rfl | rfl | rfl <;> rfl⟩
theorem sep_close (Z : List UInt8) : Sep (41 :: Z) := .inr ⟨41, Z, rfl, .inr rfl⟩
theorem sep_blank (Z : List UInt8) : Sep (32 :: Z) := .inr ⟨32, Z, rfl, .inl rfl⟩
theorem open_noName : isNameV (ba [40]) = false := by unfold isNameV; rw [isNo_eq]; rfl
theorem rt_head {s : ByteArray} {q p : Nat} {w Y : List UInt8} {a : Int} (hw : NameOk (ba w)) (h : At s p (40 :: (w ++ 32 :: Y))) (hq : tokV s q = tokV s p) (n : Nat) :
  rlevelV (n + 1) s ⟨q, 0, a⟩ = lvP (rlevelV n s) s ⟨p + 1, 0, a⟩ ∧ tokV s (p + 1) = ⟨ba w, p + 1, true⟩ ∧ At s (p + 1 + w.length) (32 :: Y) := by
 have t0 := hq.trans (tok_open h)
 have hn := rnext_ok (a := a) t0 (by rw [isNo_eq]; rfl)
 have ht := tok_word h.tail hw (sep_blank Y)
 refine ⟨?_, ht, h.tail.drop⟩
 rw [rlevelV]
 simp only [t0, hn, bne_self_eq_false, cond_false, strIs_bb, show (([40] : List UInt8) == [48]) = false from rfl, open_noName, beq_self_eq_true, cond_true, ba_size]
 rfl
theorem rt : ∀ (l : Lv) (n : Nat) {s : ByteArray} {q p : Nat} {Z : List UInt8} {a : Int}, At s p (printL l ++ Z) → tokV s q = tokV s p → Sep Z → (∀ x ∈ l.pars, NameOk x) → l.size ≤ n →
  rlevelV n s ⟨q, 0, a⟩ = (l, ⟨p + (printL l).length, 0, a⟩)
 | l, 0, _, _, _, _, _, _, _, _, _, hn => by have := l.size_pos; omega
 | .zero, n + 1, s, q, p, Z, a, h, hq, hZ, hp, hn => by
  have t0 := hq.trans (tok_nought h hZ)
  rw [rlevelV]
  simp only [t0, bne_self_eq_false, cond_false, strIs_bb, beq_self_eq_true, cond_true, rnext_ok (a := a) t0 (by rw [isNo_eq]; rfl), ba_size, printL]
 | .param x, n + 1, s, q, p, Z, a, h, hq, hZ, hp, hn => by
  have hx : NameOk (ba x.data.toList) := by rw [ba_of]; exact hp x (by simp [Lv.pars])
  have key : ∀ w, NameOk (ba w) → At s p (w ++ Z) → rlevelV (n + 1) s ⟨q, 0, a⟩ = (.param (ba w), ⟨p + w.length, 0, a⟩) := by
   intro w hw h
   have t0 := hq.trans (tok_word h hw hZ)
   obtain ⟨i1, i2⟩ := nameOk_is hw
   have hno : isNo (ba w) = false := by rw [isNo_eq]; simp [nameOk_ne hw]
   rw [rlevelV]
   simp only [t0, bne_self_eq_false, cond_false, i2, i1, cond_true, rnext_ok (a := a) t0 hno, ba_size]
  have := key x.data.toList hx h
  rw [ba_of] at this
  exact this
 | .succ l, n + 1, s, q, p, Z, a, h, hq, hZ, hp, hn => by
  simp only [Lv.size] at hn
  have h' : At s p (40 :: ([115] ++ 32 :: (printL l ++ 41 :: Z))) := by
   have : (printL (.succ l) ++ Z : List UInt8) = 40 :: ([115] ++ 32 :: (printL l ++ 41 :: Z)) := by simp [printL]
   rw [← this]; exact h
  obtain ⟨e1, e2, e3⟩ := rt_head (a := a) word_s h' hq n
  have hn2 := rnext_ok (a := a) e2 (by rw [isNo_eq]; rfl)
  have h3 := rt l n (a := a) e3.tail (tok_blank e3) (sep_close Z) hp (by omega)
  have h4 := rtake_ok (w := ba [41]) (a := a) (tok_close e3.tail.drop) rfl
  rw [e1]
  unfold lvP lv1
  simp only [e2, strIs_bb, beq_self_eq_true, cond_true, hn2, ba_size, h3, h4]
  simp [printL]
  omega
 | .max x y, n + 1, s, q, p, Z, a, h, hq, hZ, hp, hn => by
  simp only [Lv.size] at hn
  have h' : At s p (40 :: ([109, 97, 120] ++ 32 :: (printL x ++ 32 :: (printL y ++ 41 :: Z)))) := by
   have : (printL (.max x y) ++ Z : List UInt8) = 40 :: ([109, 97, 120] ++ 32 :: (printL x ++ 32 :: (printL y ++ 41 :: Z))) := by simp [printL]
   rw [← this]; exact h
  obtain ⟨e1, e2, e3⟩ := rt_head (a := a) word_max h' hq n
  have hn2 := rnext_ok (a := a) e2 (by rw [isNo_eq]; rfl)
  have h3 := rt x n (a := a) e3.tail (tok_blank e3) (sep_blank _) (fun z hz => hp z (List.mem_append_left _ hz)) (by omega)
  have h5 := rt y n (a := a) e3.tail.drop.tail (tok_blank e3.tail.drop) (sep_close Z) (fun z hz => hp z (List.mem_append_right _ hz)) (by omega)
  have h4 := rtake_ok (w := ba [41]) (a := a) (tok_close e3.tail.drop.tail.drop) rfl
  rw [e1]
  unfold lvP lv2
  simp only [e2, strIs_bb, show (([109, 97, 120] : List UInt8) == [115]) = false from rfl, cond_false, beq_self_eq_true, cond_true, hn2, ba_size, h3, h5, h4]
  simp [printL]
  omega
 | .imax x y, n + 1, s, q, p, Z, a, h, hq, hZ, hp, hn => by
  simp only [Lv.size] at hn
  have h' : At s p (40 :: ([105, 109, 97, 120] ++ 32 :: (printL x ++ 32 :: (printL y ++ 41 :: Z)))) := by
   have : (printL (.imax x y) ++ Z : List UInt8) = 40 :: ([105, 109, 97, 120] ++ 32 :: (printL x ++ 32 :: (printL y ++ 41 :: Z))) := by simp [printL]
   rw [← this]; exact h
  obtain ⟨e1, e2, e3⟩ := rt_head (a := a) word_imax h' hq n
  have hn2 := rnext_ok (a := a) e2 (by rw [isNo_eq]; rfl)
  have h3 := rt x n (a := a) e3.tail (tok_blank e3) (sep_blank _) (fun z hz => hp z (List.mem_append_left _ hz)) (by omega)
  have h5 := rt y n (a := a) e3.tail.drop.tail (tok_blank e3.tail.drop) (sep_close Z) (fun z hz => hp z (List.mem_append_right _ hz)) (by omega)
  have h4 := rtake_ok (w := ba [41]) (a := a) (tok_close e3.tail.drop.tail.drop) rfl
  rw [e1]
  unfold lvP lv2
  simp only [e2, strIs_bb, show (([105, 109, 97, 120] : List UInt8) == [115]) = false from rfl, show (([105, 109, 97, 120] : List UInt8) == [109, 97, 120]) = false from rfl, cond_false, beq_self_eq_true, cond_true, hn2, ba_size, h3, h5, h4]
  simp [printL]
  omega
theorem size_print : ∀ l : Lv, (∀ x ∈ l.pars, NameOk x) → l.size ≤ (printL l).length
 | .zero, _ => by simp [Lv.size, printL]
 | .param x, h => by have := (h x (by simp [Lv.pars])).pos; simp only [Lv.size, printL]; rw [Array.length_toList]; exact this
 | .succ l, h => by have := size_print l h; simp [Lv.size, printL]; omega
 | .max a b, h => by have h1 := size_print a fun z hz => h z (List.mem_append_left _ hz); have h2 := size_print b fun z hz => h z (List.mem_append_right _ hz); simp [Lv.size, printL]; omega
 | .imax a b, h => by have h1 := size_print a fun z hz => h z (List.mem_append_left _ hz); have h2 := size_print b fun z hz => h z (List.mem_append_right _ hz); simp [Lv.size, printL]; omega
end Go.Ab.Mk
end
section
namespace Go.Ab.Mk
open Go.Proofs Go.Ab
def numFrom (s : ByteArray) (i : Nat) (acc : Nat) : Nat := if i < s.size then numFrom s (i + 1) (10 * acc + ((byteAt s i).toNat - 48)) else acc
termination_by s.size - i
theorem numFrom_go {s : ByteArray} {i acc : Nat} (h : i < s.size) : numFrom s i acc = numFrom s (i + 1) (10 * acc + ((byteAt s i).toNat - 48)) := by rw [numFrom, if_pos h]
theorem numFrom_end {s : ByteArray} {i acc : Nat} (h : ¬ i < s.size) : numFrom s i acc = acc := by rw [numFrom, if_neg h]
def numV (s : ByteArray) : Nat := numFrom s 0 0
structure Digits (s : ByteArray) : Prop where
 pos : 0 < s.size
 few : s.size ≤ 5
 all : ∀ i, i < s.size → isDigit (byteAt s i) = true
theorem Digits.byte {s : ByteArray} (h : Digits s) {i : Nat} (hi : i < s.size) : ∃ n : Nat, byteAt s i = (n : Int) ∧ 48 ≤ n ∧ n ≤ 57 := by
 have := h.all i hi
 simp only [isDigit, Bool.and_eq_true, decide_eq_true_eq] at this
 exact ⟨(byteAt s i).toNat, by omega, by omega, by omega⟩
theorem tok_num {s : ByteArray} {p : Nat} (hp : p ≤ s.size) (hok : (tokV s p).ok = true) (h0 : isNo (tokV s p).t = false) (h35 : byteAt (tokV s p).t 0 = 35) : Digits ((tokV s p).t.extract 1 (tokV s p).t.size) := by
  have h1 := le_scan isBlank s p
  have h2 := scan_le (f := isBlank) hp
  unfold tokV at hok h0 h35 ⊢
  generalize scan isBlank s p = i at h1 h2 hok h0 h35 ⊢
  by_cases hi : i = s.size
  · have : tokAt s i = ⟨ByteArray.mk #[], i, true⟩ := by unfold tokAt; simp [hi]
    rw [this] at h0; simp [isNo] at h0
  · have hlt : i < s.size := by omega
    have hz := isNo_size h0
    -- the token begins where it lies
    have hb : ∀ q, i + 1 ≤ q → q ≤ s.size → byteAt (s.extract i q) 0 = byteAt s i := fun q hq1 hq2 => byteAt_ext (by omega) hq2
    unfold tokAt at hok h0 h35 hz ⊢
    have hib : (i == s.size) = false := by simpa using hi
    simp only [hib, cond_false] at hok h0 h35 hz ⊢
    cases e40 : byteAt s i == 40
    case true =>
      simp only [e40, cond_true] at hok h0 h35 hz ⊢
      rw [hb _ (Nat.le_refl _) (by omega)] at h35
      simp only [beq_iff_eq] at e40; omega
    cases e41 : byteAt s i == 41
    case true =>
      simp only [e40, e41, cond_true, cond_false] at hok h0 h35 hz ⊢
      rw [hb _ (Nat.le_refl _) (by omega)] at h35
      simp only [beq_iff_eq] at e41; omega
    simp only [e40, e41, cond_false] at hok h0 h35 hz ⊢
    cases enm : nmByte (byteAt s i) true
    case true =>
      simp only [enm, cond_true] at hok h0 h35 hz ⊢
      have g1 := le_scan (nmByte · false) s (i + 1)
      have g2 := scan_le (f := (nmByte · false)) (s := s) (i := i + 1) (by omega)
      generalize scan (nmByte · false) s (i + 1) = q at g1 g2 hok h0 h35 hz ⊢
      unfold nmTok at hok h0 h35 hz ⊢
      cases e : decide (q - i > 40)
      · simp only [e, cond_false] at hok h0 h35 hz ⊢
        rw [hb q g1 g2] at h35
        rw [h35] at enm
        exact absurd enm (by decide)
      · simp [e, Tok.no] at hok
    simp only [enm, cond_false] at hok h0 h35 hz ⊢
    cases e35 : (byteAt s i == 35 || isDigit (byteAt s i))
    case false => simp [e35, Tok.no] at hok
    simp only [e35, cond_true] at hok h0 h35 hz ⊢
    have g1 := le_scan isDigit s (i + 1)
    have g2 := scan_le (f := isDigit) (s := s) (i := i + 1) (by omega)
    have g3 := scan_all (f := isDigit) (s := s) _ (i + 1) rfl
    generalize scan isDigit s (i + 1) = q at g1 g2 g3 hok h0 h35 hz ⊢
    have hok' : (numTok s i q (byteAt s i)) = ⟨s.extract i q, i, true⟩ ∧ (byteAt s i = 35 → 1 ≤ q - (i + 1) ∧ q - (i + 1) ≤ 5) := by
      simp only [numTok] at hok ⊢
      generalize hd : (bif byteAt s i == 35 then i + 1 else i) = d at hok ⊢
      cases c1 : q == d
      · cases c2 : decide (q - d > 5)
        · cases c3 : (decide (q - d > 1) && byteAt s d == 48)
          · refine ⟨rfl, fun h => ?_⟩
            simp only [h, beq_self_eq_true, cond_true] at hd
            subst hd
            simp at c1 c2
            omega
          · simp [c1, c2, c3, Tok.no] at hok
        · simp [c1, c2, Tok.no] at hok
      · simp [c1, Tok.no] at hok
    rw [hok'.1] at h35 ⊢
    simp only at h35 ⊢
    rw [hb q g1 g2] at h35
    obtain ⟨f1, f2⟩ := hok'.2 h35
    have hsz : (s.extract i q).size = q - i := by rw [ByteArray.size_extract]; omega
    have hsz2 : ((s.extract i q).extract 1 (s.extract i q).size).size = q - (i + 1) := by rw [ByteArray.size_extract]; omega
    refine ⟨by rw [hsz2]; omega, by rw [hsz2]; omega, fun j hj => ?_⟩
    rw [hsz2] at hj
    rw [byteAt_ext (by rw [hsz]; omega) (Nat.le_refl _), byteAt_ext (by omega) g2]
    exact g3 _ (by omega) (by omega)
theorem num_lt {s : ByteArray} (h : Digits s) : ∀ (k i acc : Nat), s.size - i = k → numFrom s i acc + 1 ≤ (acc + 1) * 10 ^ k
 | 0, i, acc, hk => by rw [numFrom_end (by omega)]; simp
 | k + 1, i, acc, hk => by
  rw [numFrom_go (by omega)]
  have := num_lt h k (i + 1) (10 * acc + ((byteAt s i).toNat - 48)) (by omega)
  obtain ⟨n, h1, h2, h3⟩ := h.byte (i := i) (by omega)
  refine Nat.le_trans this ?_
  rw [h1, Nat.pow_succ, Nat.mul_comm (10 ^ k) 10, ← Nat.mul_assoc]
  refine Nat.mul_le_mul_right _ ?_
  simp; omega
def wordIx (t : ByteArray) : Nat :=
 bif strIs t [115, 111, 114, 116] then 1 else bif strIs t [99, 111, 110, 115, 116] then 2 else bif strIs t [97, 112, 112] then 3 else
 bif strIs t [108, 97, 109] then 4 else bif strIs t [112, 105] then 5 else bif strIs t [108, 101, 116] then 6 else 0
def rnameV (s : ByteArray) (st : RS) : ByteArray × RS :=
 let k := tokV s st.p
 let st1 := bif !k.ok || !isNameV k.t then rfailV st k.at_ else st
 bif st1.c != 0 then (ByteArray.mk #[], st1) else (k.t, ⟨k.at_ + k.t.size, st1.c, st1.a⟩)
def rlvsV : Nat → ByteArray → RS → List Lv × RS
 | 0, _, st => ([], st)
 | n + 1, s, st =>
  bif st.c != 0 then ([], st) else
  bif strIs (tokV s st.p).t [41] then ([], st) else
  let x := rlevelV (s.size + 1) s st
  let y := rlvsV n s x.2
  (x.1 :: y.1, y.2)
def tm2 (rec : RS → Tm × RS) (s : ByteArray) (f : Tm → Tm → Tm) (st : RS) : Tm × RS := (f (rec st).1 (rec (rec st).2).1, rtakeV s (rec (rec st).2).2 (ba [41]))
def tm3 (rec : RS → Tm × RS) (s : ByteArray) (f : Tm → Tm → Tm → Tm) (st : RS) : Tm × RS :=
 (f (rec st).1 (rec (rec st).2).1 (rec (rec (rec st).2).2).1, rtakeV s (rec (rec (rec st).2).2).2 (ba [41]))
def tmB (rec : RS → Tm × RS) (s : ByteArray) (k : Nat) (st : RS) : Tm × RS :=
 match k with
 | 1 => (.sort (rlevelV (s.size + 1) s st).1, rtakeV s (rlevelV (s.size + 1) s st).2 (ba [41]))
 | 2 => (.const (rnameV s st).1 (rlvsV (s.size + 10) s (rnameV s st).2).1, rtakeV s (rlvsV (s.size + 10) s (rnameV s st).2).2 (ba [41]))
 | 3 => tm2 rec s .app st
 | 4 => tm2 rec s .lam st
 | 5 => tm2 rec s .pi st
 | _ => tm3 rec s .letin st
def tmP (rec : RS → Tm × RS) (s : ByteArray) (st : RS) : Tm × RS :=
 bif wordIx (tokV s st.p).t == 0 then (.var 0, rfailV st (tokV s st.p).at_) else tmB rec s (wordIx (tokV s st.p).t) (rnextV s st).2
def badTok (k : Tok) : Bool := !k.ok || (isNo k.t || (!(byteAt k.t 0 == 35) && !strIs k.t [40]))
def rtermV : Nat → ByteArray → RS → Tm × RS
 | 0, _, st => (.var 0, st)
 | n + 1, s, st =>
  bif st.c != 0 then (.var 0, st) else
  bif badTok (tokV s st.p) then (.var 0, rfailV st (tokV s st.p).at_) else
  bif strIs (tokV s st.p).t [40] then tmP (rtermV n s) s (rnextV s st).2 else
  (.var (numV ((tokV s st.p).t.extract 1 (tokV s st.p).t.size)), (rnextV s st).2)
theorem rterm_stuck {n : Nat} {s : ByteArray} {st : RS} (h : st.c ≠ 0) : rtermV n s st = (.var 0, st) := by
 cases n with
 | zero => rfl
 | succ n =>
  have h2 : (st.c != 0) = true := by simpa using h
  rw [rtermV, h2]; rfl
theorem rlvs_stuck {n : Nat} {s : ByteArray} {st : RS} (h : st.c ≠ 0) : rlvsV n s st = ([], st) := by
 cases n with
 | zero => rfl
 | succ n =>
  have h2 : (st.c != 0) = true := by simpa using h
  rw [rlvsV, h2]; rfl
structure Gone (s : ByteArray) (st st' : RS) : Prop where
 le : st'.p ≤ s.size
 ok : st'.c = 0 → st.c = 0 ∧ st.p ≤ st'.p
structure Goes (s : ByteArray) (st st' : RS) : Prop where
 le : st'.p ≤ s.size
 ok : st'.c = 0 → st.c = 0 ∧ st.p < st'.p
theorem Goes.gone {s : ByteArray} {a b : RS} (h : Goes s a b) : Gone s a b := ⟨h.le, fun e => ⟨(h.ok e).1, Nat.le_of_lt (h.ok e).2⟩⟩
theorem Goes.trans {s : ByteArray} {a b c : RS} (h : Goes s a b) (k : Gone s b c) : Goes s a c := ⟨k.le, fun e => ⟨(h.ok (k.ok e).1).1, by have := (h.ok (k.ok e).1).2; have := (k.ok e).2; omega⟩⟩
theorem Gone.trans {s : ByteArray} {a b c : RS} (h : Gone s a b) (k : Gone s b c) : Gone s a c := ⟨k.le, fun e => ⟨(h.ok (k.ok e).1).1, by have := (h.ok (k.ok e).1).2; have := (k.ok e).2; omega⟩⟩
theorem Gone.refl {s : ByteArray} {a : RS} (h : a.p ≤ s.size) : Gone s a a := ⟨h, fun e => ⟨e, Nat.le_refl _⟩⟩
theorem rfail_gone {s : ByteArray} {st : RS} (h : st.p ≤ s.size) (i : Nat) : Goes s st (rfailV st i) := ⟨by rw [rfail_p]; exact h, fun e => absurd e (rfail_c _ _)⟩
theorem rnext_goes {s : ByteArray} {st : RS} (h : st.p ≤ s.size) : Goes s st (rnextV s st).2 := by
 obtain ⟨a, b⟩ := rnext_p h
 refine ⟨a, fun e => ?_⟩
 obtain ⟨c, d, f⟩ := b e
 have := isNo_size d
 have := (tokV_ok s h).ge
 exact ⟨c, by omega⟩
theorem rtake_gone {s : ByteArray} {st : RS} (h : st.p ≤ s.size) (w : ByteArray) : Gone s st (rtakeV s st w) := by
 obtain ⟨k1, k2, k3⟩ := tokV_ok s h
 unfold rtakeV
 by_cases hc : st.c = 0
 ·simp only
  cases hx : (!(tokV s st.p).ok || !((tokV s st.p).t.toList == w.toList))
  ·simp only [cond_false, hc, beq_self_eq_true, cond_true]
   exact ⟨by simpa using k2, fun _ => ⟨hc, by simp only; omega⟩⟩
  ·have hf : ((rfailV st (tokV s st.p).at_).c == 0) = false := by simpa using rfail_c st (tokV s st.p).at_
   simp only [cond_true, hf, cond_false]
   exact (rfail_gone h _).gone
 ·have h1 : (st.c == 0) = false := by simpa using hc
  have : rfailV st (tokV s st.p).at_ = st := by unfold rfailV; rw [h1]; rfl
  simp only [this]
  cases (!(tokV s st.p).ok || !((tokV s st.p).t.toList == w.toList)) <;> simp only [cond_true, cond_false, h1] <;> exact Gone.refl h
theorem rname_goes {s : ByteArray} {st : RS} (h : st.p ≤ s.size) : Goes s st (rnameV s st).2 := by
 obtain ⟨k1, k2, k3⟩ := tokV_ok s h
 unfold rnameV
 by_cases hc : st.c = 0
 ·simp only
  cases hx : (!(tokV s st.p).ok || !isNameV (tokV s st.p).t)
  ·simp only [cond_false, hc, bne_self_eq_false]
   refine ⟨by simpa using k2, fun _ => ⟨hc, ?_⟩⟩
   simp only [Bool.or_eq_false_iff, Bool.not_eq_false', isNameV, Bool.and_eq_true, Bool.not_eq_true'] at hx
   have := isNo_size hx.2.1
   simp only; omega
  ·have hf : ((rfailV st (tokV s st.p).at_).c != 0) = true := by simpa using rfail_c st (tokV s st.p).at_
   simp only [cond_true, hf]
   exact rfail_gone h _
 ·have h1 : (st.c == 0) = false := by simpa using hc
  have h2 : (st.c != 0) = true := by simpa using hc
  have : rfailV st (tokV s st.p).at_ = st := by unfold rfailV; rw [h1]; rfl
  simp only [this]
  cases (!(tokV s st.p).ok || !isNameV (tokV s st.p).t) <;> simp only [cond_true, cond_false, h2] <;> exact ⟨h, fun e => absurd e hc⟩
theorem rlevel_goes {s : ByteArray} {st : RS} (h : st.p ≤ s.size) : Goes s st (rlevelV (s.size + 1) s st).2 := by
 have := rlevel_took s (s.size + 1) st h (.inr (by omega))
 exact ⟨this.le, fun e => ⟨(this.ok e).1, (this.ok e).2.2.2.1⟩⟩
theorem rlvs_gone (s : ByteArray) : ∀ (n : Nat) (st : RS), st.p ≤ s.size → Gone s st (rlvsV n s st).2
 | 0, st, h => Gone.refl h
 | n + 1, st, h => by
  unfold rlvsV
  cases st.c != 0
  ·cases strIs (tokV s st.p).t [41]
   ·exact (rlevel_goes h).gone.trans (rlvs_gone s n _ (rlevel_goes h).le)
   ·exact Gone.refl h
  ·exact Gone.refl h
theorem rterm_goes (s : ByteArray) : ∀ (n : Nat) (st : RS), st.p ≤ s.size → (st.c ≠ 0 ∨ s.size - st.p < n) → Goes s st (rtermV n s st).2
 | 0, st, hp, hn => ⟨hp, fun h => by rcases hn with hn | hn; exact absurd h hn; omega⟩
 | n + 1, st, hp, hn => by
  by_cases hc : st.c = 0
  case neg => rw [rterm_stuck hc]; exact ⟨hp, fun h => absurd h hc⟩
  have hc' : (st.c != 0) = false := by simp [hc]
  have g1 := rnext_goes hp
  simp only [rtermV, hc', cond_false]
  cases badTok (tokV s st.p)
  case true => exact rfail_gone hp _
  cases strIs (tokV s st.p).t [40]
  case false => exact g1
  simp only [cond_true, cond_false, tmP]
  cases wordIx (tokV s (rnextV s st).2.p).t == 0
  case true => exact g1.trans (rfail_gone g1.le _).gone
  have g2 := g1.trans (rnext_goes g1.le).gone
  simp only [cond_false]
  have hn2 : ∀ st', Goes s st st' → st'.c ≠ 0 ∨ s.size - st'.p < n := by
   intro st' h
   by_cases hz : st'.c = 0
   ·have := (h.ok hz).2
    have := h.le
    rcases hn with hn | hn
    ·exact absurd hc hn
    ·right; omega
   ·exact .inl hz
  generalize (rnextV s (rnextV s st).2).2 = st2 at g2
  have k1 : Goes s st (rtermV n s st2).2 := g2.trans (rterm_goes s n st2 g2.le (hn2 _ g2)).gone
  have k2 : Goes s st (rtermV n s (rtermV n s st2).2).2 := k1.trans (rterm_goes s n _ k1.le (hn2 _ k1)).gone
  have k3 : Goes s st (rtermV n s (rtermV n s (rtermV n s st2).2).2).2 := k2.trans (rterm_goes s n _ k2.le (hn2 _ k2)).gone
  unfold tmB
  split
  ·have := g2.trans (rlevel_goes g2.le).gone
   exact this.trans (rtake_gone this.le _)
  ·have := (g2.trans (rname_goes g2.le).gone)
   have := this.trans (rlvs_gone s (s.size + 10) _ this.le)
   exact this.trans (rtake_gone this.le _)
  ·exact k2.trans (rtake_gone k2.le _)
  ·exact k2.trans (rtake_gone k2.le _)
  ·exact k2.trans (rtake_gone k2.le _)
  ·exact k3.trans (rtake_gone k3.le _)
def tparseV (s : ByteArray) : Tm × Int × Int :=
 bif decide ((s.size : Int) > 20000) then (.var 0, 2, 0) else
 let x := rtermV (s.size + 1) s ⟨0, 0, 0⟩
 let d := rdoneV s x.2
 bif d.c != 0 then (.var 0, d.c, d.a) else (x.1, d.c, d.a)
end Go.Ab.Mk
end
section
namespace Go.Ab.Mk
open Go.Proofs Go.Ab
def letV (c : Int) : Bool := (decide ((IntKind.wrap .u8 ((BitVec.ofInt (IntKind.bits .u8) c ||| BitVec.ofInt (IntKind.bits .u8) (32 : Int)).toNat : Int)) ≥ (97 : Int)) && decide ((IntKind.wrap .u8 ((BitVec.ofInt (IntKind.bits .u8) c ||| BitVec.ofInt (IntKind.bits .u8) (32 : Int)).toNat : Int)) ≤ (122 : Int))) || c == 95
theorem letV_all : (List.range 256).all (fun n => letV (n : Int) == isLetter (n : Int)) = true := by decide +kernel
theorem letV_eq {n : Nat} (h : n < 256) : letV (n : Int) = isLetter (n : Int) := by
 have := List.all_eq_true.1 letV_all n (by simpa using h)
 simpa using this
theorem byteAt_lt (s : ByteArray) (i : Nat) : ∃ n : Nat, n < 256 ∧ byteAt s i = (n : Int) := ⟨(s.data.toList.getD i 0).toNat, UInt8.toNat_lt _, rfl⟩
theorem letter_law (n : Nat) (h : n < 256) (σ : Sto) : lim C 64 [(.int .u8 n, false)] σ = some (.ret [(.bool (isLetter n), false)], σ) :=
 letter_lim (n := 0) <| by
  rw [← letV_eq h]
  simp only [letter, letterF, letV]
  cases decide ((IntKind.wrap .u8 ((BitVec.ofInt (IntKind.bits .u8) (n : Int) ||| BitVec.ofInt (IntKind.bits .u8) (32 : Int)).toNat : Int)) ≥ (97 : Int)) <;> cases decide ((IntKind.wrap .u8 ((BitVec.ofInt (IntKind.bits .u8) (n : Int) ||| BitVec.ofInt (IntKind.bits .u8) (32 : Int)).toNat : Int)) ≤ (122 : Int)) <;> cases (n : Int) == 95 <;> rfl
theorem digit_law (c : Int) (σ : Sto) : lim C 66 [(.int .u8 c, false)] σ = some (.ret [(.bool (isDigit c), false)], σ) :=
 digit_lim (n := 0) <| by
  simp only [digit, digitF, isDigit, ge_iff_le]
  cases decide (48 ≤ c) <;> cases decide (c ≤ 57) <;> rfl
theorem sblank_law (c : Int) (σ : Sto) : lim C 63 [(.int .u8 c, false)] σ = some (.ret [(.bool (isBlank c), false)], σ) :=
 sblank_lim (n := 0) <| by
  simp only [sblank, sblankF, isBlank]
  cases c == 32 <;> cases c == 9 <;> cases c == 10 <;> rfl
theorem snmb_law (n : Nat) (h : n < 256) (σ : Sto) : lim C 65 [(.int .u8 n, false)] σ = some (.ret [(.bool (nmByte n false), false)], σ) :=
 snmb_lim (n := 0) <| by
  simp only [snmb, snmbF, callK_ret1 (letter_law n h σ), callK_ret1 (digit_law _ σ), List.getD_cons_zero, V.asBool, Option.bind_some, nmByte]
  cases isLetter n <;> cases isDigit n <;> cases (n : Int) == 46 <;> cases (n : Int) == 39 <;> rfl
structure SC where
 at_ : Nat
 tok : ByteArray
 pos : Nat
def SC.cells (s : ByteArray) (st : SC) : List Cell := [(.str s, false), (.int .i64 st.at_, false), (.str st.tok, false), (.int .i64 st.pos, false)]
section
variable {σ : Sto} {r : Nat} {s : ByteArray} {st : SC} {t : TypeId}
theorem sg0 (hr : r < σ.length) : memGet (σ.set r (st.cells s)) (.ptr t r 0) false 1 = some (.str s) := by simp [memGet, hr, gather, SC.cells]
theorem sg1 (hr : r < σ.length) : memGet (σ.set r (st.cells s)) (.ptr t r 1) false 1 = some (.int .i64 st.at_) := by simp [memGet, hr, gather, SC.cells]
theorem sg2 (hr : r < σ.length) : memGet (σ.set r (st.cells s)) (.ptr t r 2) false 1 = some (.str st.tok) := by simp [memGet, hr, gather, SC.cells]
theorem sg3 (hr : r < σ.length) : memGet (σ.set r (st.cells s)) (.ptr t r 3) false 1 = some (.int .i64 st.pos) := by simp [memGet, hr, gather, SC.cells]
theorem ss1 (hr : r < σ.length) (x : Nat) : memSet (σ.set r (st.cells s)) (.ptr t r 1) [(.int .i64 x, false)] = some (σ.set r (SC.cells s { st with at_ := x })) := by
 simp [memSet, hr, setCells, SC.cells]
theorem ss2 (hr : r < σ.length) (x : ByteArray) : memSet (σ.set r (st.cells s)) (.ptr t r 2) [(.str x, false)] = some (σ.set r (SC.cells s { st with tok := x })) := by
 simp [memSet, hr, setCells, SC.cells]
theorem ss3 (hr : r < σ.length) (x : Nat) : memSet (σ.set r (st.cells s)) (.ptr t r 3) [(.int .i64 x, false)] = some (σ.set r (SC.cells s { st with pos := x })) := by
 simp [memSet, hr, setCells, SC.cells]
end
theorem srun_loop (call : CallF) (n : Nat) {σ : Sto} {r : Nat} (hr : r < σ.length) {s : ByteArray} (hs : s.size < 2 ^ 61) {st : SC} {fn : FuncId} {f : Int → Bool}
  (hf : ∀ k : Nat, k < 256 → call fn [(.int .u8 k, false)] (σ.set r (st.cells s)) = some (.ret [(.bool (f k), false)], σ.set r (st.cells s))) :
  ∀ (m i : Nat), i ≤ s.size → s.size - i < m → srunl0 call n m r i (.func (.func fn) [] []) (σ.set r (st.cells s)) = some (.ret [(.int .i64 (scan f s i), false)], σ.set r (st.cells s))
 | 0, i, _, hm => by omega
 | m + 1, i, hi, hm => by
  show sruns0 call (srunl0 call n m) r i (.func (.func fn) [] []) (σ.set r (st.cells s)) = _
  unfold sruns0
  simp only [sg0 hr, Option.bind_some, V.asStr, V.asFunc, List.map_nil, List.nil_append, List.append_nil, Int.toNat_natCast]
  by_cases h1 : i < s.size
  ·obtain ⟨k, hk, hb⟩ := byteAt_lt s i
   rw [hb, dlt h1, d0]
   simp only [cond_true, Bool.and_self, grd, Option.bind_some, callK_ret1 (hf k hk), List.getD_cons_zero, V.asBool, wrap_succ (show i < 2 ^ 61 by omega)]
   cases hfk : f k with
   | true =>
    rw [scan_go h1 (by rw [hb]; exact hfk)]
    exact srun_loop call n hr hs hf m (i + 1) (by omega) (by omega)
   | false =>
    rw [scan_stop (fun hh => by rw [hb, hfk] at hh; simp at hh)]
    rfl
  ·rw [dnlt h1, scan_stop (fun hh => h1 hh.1)]; rfl
theorem srun_law {σ : Sto} {r : Nat} (hr : r < σ.length) {s : ByteArray} (hs : s.size < 2 ^ 61) {st : SC} {fn : FuncId} {f : Int → Bool}
  (hf : ∀ (k : Nat) (σ : Sto), k < 256 → lim C fn [(.int .u8 k, false)] σ = some (.ret [(.bool (f k), false)], σ)) {i : Nat} (hi : i ≤ s.size) :
  lim C 62 [(.ptr 84 r 0, false), (.int .i64 i, false), (.func (.func fn) [] [], false)] (σ.set r (st.cells s)) = some (.ret [(.int .i64 (scan f s i), false)], σ.set r (st.cells s)) :=
 srun_lim (n := s.size + 1) (srun_loop (lim C) (s.size + 1) hr hs (fun k hk => hf k _ hk) (s.size + 1) i hi (by omega))
def stepOf (p : Nat) (k : Tok) : SC := bif k.ok then ⟨k.at_ + k.t.size, k.t, k.at_⟩ else ⟨p, ByteArray.mk #[0], k.at_⟩
def stepV (s : ByteArray) (p : Nat) : SC := stepOf p (tokV s p)
theorem wneg (n : Nat) : decide (((n : Nat) : Int) < (0 : Int)) = false := by simp
theorem nm_true (c : Int) : nmByte c true = isLetter c := by simp [nmByte]
theorem step_law {σ : Sto} {r : Nat} (hr : r < σ.length) {s : ByteArray} (hs : s.size < 2 ^ 61) {st : SC} (hp : st.at_ ≤ s.size) :
    lim C 43 [(.ptr 84 r 0, false)] (σ.set r (st.cells s)) = some (.ret [], σ.set r ((stepV s st.at_).cells s)) :=
  sstep_lim (n := 0) <| by
    have h1 := srun_law hr hs (st := st) (fn := 63) (f := isBlank) (fun k σ _ => sblank_law k σ) hp
    have hge := le_scan isBlank s st.at_
    have hle := scan_le (f := isBlank) hp
    unfold stepV tokV
    simp only [sstep, sstepF, sg1 hr, Option.bind_some, callK_ret1 h1, List.getD_cons_zero]
    generalize scan isBlank s st.at_ = i at hge hle
    have fi : ∀ x : Int, V.fits (.int .i64 x) false 1 = true := fun _ => rfl
    have h2 : ∀ j, j ≤ s.size → lim C 62 [(.ptr 84 r 0, false), (.int .i64 j, false), (.func (.func 65) [] [], false)] (σ.set r (SC.cells s { st with pos := i })) = some (.ret [(.int .i64 (scan (nmByte · false) s j), false)], σ.set r (SC.cells s { st with pos := i })) :=
      fun j hj => srun_law hr hs (st := { st with pos := i }) (fn := 65) (f := (nmByte · false)) (fun k σ hk => snmb_law k hk σ) hj
    have h3 : ∀ j, j ≤ s.size → lim C 62 [(.ptr 84 r 0, false), (.int .i64 j, false), (.func (.func 66) [] [], false)] (σ.set r (SC.cells s { st with pos := i })) = some (.ret [(.int .i64 (scan isDigit s j), false)], σ.set r (SC.cells s { st with pos := i })) :=
      fun j hj => srun_law hr hs (st := { st with pos := i }) (fn := 66) (f := isDigit) (fun k σ _ => digit_law k σ) hj
    simp only [fi, grd, cond_true, Option.bind_some, ss3 hr, sg0 hr, sg3 hr, V.asStr, V.asInt, if_true, Int.toNat_natCast, beqN]
    unfold tokAt
    by_cases hi : i = s.size
    · simp only [hi, beq_self_eq_true, cond_true, ss2 hr, ss1 hr, Option.bind_some, stepOf]
      rfl
    · have hib : (i == s.size) = false := by simpa using hi
      have hlt : i < s.size := by omega
      have w1 : IntKind.wrap .i64 ((i : Int) + 1) = ((i + 1 : Nat) : Int) := wrap_succ (by omega)
      simp only [hib, cond_false, d0, dlt hlt, Bool.and_self, cond_true, Option.bind_some, w1, wneg]
      obtain ⟨b, hb, hbe⟩ := byteAt_lt s i
      have b1 : (decide ((i : Int) ≤ ((i + 1 : Nat) : Int)) && decide (((i + 1 : Nat) : Int) ≤ (s.size : Int))) = true := by simp; omega
      have es : i + (s.extract i (i + 1)).size = i + 1 := ext_size s (by omega) (by omega)
      have hl := letter_law b hb (σ.set r (SC.cells s { st with pos := i }))
      have hd := digit_law (b : Int) (σ.set r (SC.cells s { st with pos := i }))
      have hscan1 : isLetter b = true → scan (nmByte · false) s i = scan (nmByte · false) s (i + 1) := fun h => scan_go hlt (by rw [hbe]; simp [nmByte, h])
      have hscan2 : isDigit b = true → scan isDigit s i = scan isDigit s (i + 1) := fun h => scan_go hlt (by rw [hbe]; exact h)
      have g1 := le_scan (nmByte · false) s (i + 1)
      have g2 := scan_le (f := (nmByte · false)) (s := s) (i := i + 1) (by omega)
      have g3 := le_scan isDigit s (i + 1)
      have g4 := scan_le (f := isDigit) (s := s) (i := i + 1) (by omega)
      have no : ∀ x, stepOf st.at_ (Tok.no i) = ({ at_ := st.at_, tok := ByteArray.mk #[0], pos := i } : SC) ∨ x := fun _ => .inl rfl
      have h2' := h2 i (by omega)
      have h3' := h3 i (by omega)
      have h3'' := h3 (i + 1) (by omega)
      rw [hbe]
      simp only [ss2 hr, ss1 hr, Option.bind_some, Bool.true_and, bnd2 (show i ≤ i + 1 by omega) (show i + 1 ≤ s.size by omega), Int.toNat_natCast, grd, cond_true, callK_ret1 hl, callK_ret1 hd, List.getD_cons_zero, sg0 hr, sg3 hr, callK_ret1 h2', callK_ret1 h3', callK_ret1 h3'', nm_true, V.asBool, V.asInt, V.asStr, if_true, w1]
      cases e40 : (b : Int) == 40
      case true => simp only [cond_true, stepOf, es]
      cases e41 : (b : Int) == 41
      case true => simp only [cond_true, cond_false, stepOf, es]
      cases el : isLetter b
      case true =>
        rw [hscan1 el]
        generalize scan (nmByte · false) s (i + 1) = q at g1 g2
        have h40 : ((40 : Int)) = ((40 : Nat) : Int) := rfl
        have eq1 : i + (s.extract i q).size = q := ext_size s (by omega) g2
        simp only [cond_true, cond_false, V.asBool, V.asInt, V.asStr, if_true, grd, sg0 hr, sg3 hr, fi, wneg, d0, Option.bind_some, wrap_sub (show i ≤ q by omega) (show q < 2 ^ 61 by omega), h40, dgt, wneg, Bool.true_and, bnd2 (show i ≤ q by omega) g2, Int.toNat_natCast, ss2 hr, ss1 hr, nmTok]
        cases decide (q - i > 40)
        · simp only [cond_false, stepOf, eq1, cond_true]
        · rfl
      have h5 : ((5 : Int)) = ((5 : Nat) : Int) := rfl
      have h1' : ((1 : Int)) = ((1 : Nat) : Int) := rfl
      have w1' : IntKind.wrap .i64 ((i : Int) + ((1 : Nat) : Int)) = ((i + 1 : Nat) : Int) := w1
      have h0' : ((0 : Int)) = ((0 : Nat) : Int) := rfl
      cases e35 : (b : Int) == 35
      case true =>
        generalize scan isDigit s (i + 1) = q at g3 g4
        have eq1 : i + (s.extract i q).size = q := ext_size s (by omega) g4
        simp only [cond_true, cond_false, V.asBool, V.asInt, V.asStr, if_true, grd, sg0 hr, sg3 hr, fi, wneg, d0, Option.bind_some, wrap_sub (show i + 1 ≤ q by omega) (show q < 2 ^ 61 by omega), h5, h1', w1', dgt, Bool.true_and, bnd2 (show i ≤ q by omega) g4, Int.toNat_natCast, ss2 hr, ss1 hr, numTok, e35, Bool.true_or]
        have hz : ((((q - (i + 1) : Nat) : Int)) == 0) = (q == i + 1) := by rw [Bool.eq_iff_iff, beq_iff_eq, beq_iff_eq]; omega
        rw [hz]
        by_cases hq : q = i + 1
        · subst hq; simp only [beq_self_eq_true, cond_true]; rfl
        · have hq' : (q == i + 1) = false := by simpa using hq
          have hlt1 : i + 1 < s.size := by omega
          simp only [hq', cond_false, d0, Bool.true_and, decide_eq_true (show s.size > i + 1 from hlt1), Option.bind_some, cond_true]
          cases decide (q - (i + 1) > 5) <;> cases decide (q - (i + 1) > 1) <;> cases byteAt s (i + 1) == 48 <;> (first | rfl | simp only [cond_true, cond_false, stepOf, eq1, Bool.and_self, Bool.and_false, Bool.false_and, Bool.and_true])
      cases edg : isDigit b
      case true =>
        rw [hscan2 edg]
        generalize scan isDigit s (i + 1) = q at g3 g4
        have eq1 : i + (s.extract i q).size = q := ext_size s (by omega) g4
        simp only [cond_true, cond_false, V.asBool, V.asInt, V.asStr, if_true, grd, sg0 hr, sg3 hr, fi, wneg, d0, Option.bind_some, wrap_sub (show i ≤ q by omega) (show q < 2 ^ 61 by omega), h5, h1', dgt, Bool.true_and, bnd2 (show i ≤ q by omega) g4, Int.toNat_natCast, ss2 hr, ss1 hr, numTok, e35, Bool.or_true]
        have hz : ((((q - i : Nat) : Int)) == 0) = false := by simp; omega
        have hq' : (q == i) = false := by simp; omega
        rw [hz]
        simp only [hq', cond_false, hbe, decide_eq_true (show s.size > i from hlt), cond_true, Option.bind_some]
        cases decide (q - i > 5) <;> cases decide (q - i > 1) <;> cases (b : Int) == 48 <;> (first | rfl | simp only [cond_true, cond_false, stepOf, eq1, Bool.and_self, Bool.and_false, Bool.false_and, Bool.and_true])
      simp only [cond_false, V.asBool, Option.bind_some, Bool.or_false, stepOf, Tok.no]
end Go.Ab.Mk
end
section
namespace Go.Ab.Mk
open Go.Proofs Go.Ab
def fcell (c a : Int) : List Cell := [(.int .i64 c, false), (.int .i64 a, false)]
theorem sfail_law {σ : Sto} {r : Nat} (hr : r < σ.length) {s : ByteArray} (st : SC) :
  lim C 46 [(.ptr 84 r 0, false)] (σ.set r (st.cells s)) = some (.pan (.iface 58 (.ptr 31 σ.length 0)), σ.set r (st.cells s) ++ [fcell 1 st.pos]) :=
 sfail_lim (n := 0) <| by
  simp only [sfail, sfailF, sg3 hr, Option.bind_some, List.length_set]
  rfl
theorem stepTok {s : ByteArray} {p : Nat} (hp : p ≤ s.size) {w : List UInt8} (hw : w ≠ []) (hw0 : w ≠ [0]) : strIs (stepV s p).tok w = strIs (tokV s p).t w := by
 unfold stepV stepOf
 cases hk : (tokV s p).ok
 ·have h1 := (tokV_ok s hp).no hk
  have e1 : strIs (ByteArray.mk #[0]) w = false := by
   rw [strIs, ByteArray.toList_eq, ByteArray.toList_eq]
   simp only [ba, beq_eq_false_iff_ne, ne_eq]
   exact fun h => hw0 h.symm
  have e2 : strIs (tokV s p).t w = false := by
   rw [strIs, beq_eq_false_iff_ne]
   intro h
   simp only [isNo, beq_iff_eq] at h1
   rw [h1, ByteArray.toList_eq, ByteArray.toList_eq] at h
   exact hw h.symm
  simp only [cond_false]
  rw [e1, e2]
 ·rfl
theorem strIs_ok {s : ByteArray} {p : Nat} (hp : p ≤ s.size) {w : List UInt8} (hw : w ≠ []) (h : strIs (tokV s p).t w = true) : (tokV s p).ok = true ∧ isNo (tokV s p).t = false := by
 have hz := strIs_size h
 have hl : 0 < w.length := List.length_pos_iff.2 hw
 have hn : isNo (tokV s p).t = false := by
  cases hn : isNo (tokV s p).t with
  | false => rfl
  | true =>
   have : strIs (tokV s p).t [] = true := hn
   have h0 := strIs_size this
   simp only [List.length_nil] at h0; omega
 refine ⟨?_, hn⟩
 cases hk : (tokV s p).ok with
 | true => rfl
 | false => have := (tokV_ok s hp).no hk; rw [this] at hn; simp at hn
theorem name_ok {s : ByteArray} {p : Nat} (hp : p ≤ s.size) (h : isNameV (tokV s p).t = true) : (tokV s p).ok = true ∧ isNo (tokV s p).t = false := by
 have hn : isNo (tokV s p).t = false := by
  cases hn : isNo (tokV s p).t with
  | false => rfl
  | true => simp [isNameV, hn] at h
 refine ⟨?_, hn⟩
 cases hk : (tokV s p).ok with
 | true => rfl
 | false => have := (tokV_ok s hp).no hk; rw [this] at hn; simp at hn
theorem rnext_at {s : ByteArray} {p : Nat} (h : (tokV s p).ok = true ∧ isNo (tokV s p).t = false) : (rnextV s ⟨p, 0, 0⟩).2 = ⟨(stepV s p).at_, 0, 0⟩ := by
 unfold rnextV stepV stepOf
 simp [h.1, h.2]
theorem step_at_le {s : ByteArray} {p : Nat} (hp : p ≤ s.size) : (stepV s p).at_ ≤ s.size := by
 have h := tokV_ok s hp
 unfold stepV stepOf
 cases (tokV s p).ok
 ·exact hp
 ·exact h.le
theorem step_pos (s : ByteArray) (p : Nat) : (stepV s p).pos = (tokV s p).at_ := by unfold stepV stepOf; cases (tokV s p).ok <;> rfl
theorem step_tok {s : ByteArray} {p : Nat} (h : (tokV s p).ok = true) : (stepV s p).tok = (tokV s p).t := by unfold stepV stepOf; rw [h]; rfl
theorem step_lt {s : ByteArray} {p : Nat} (hp : p ≤ s.size) (h : (tokV s p).ok = true ∧ isNo (tokV s p).t = false) : p < (stepV s p).at_ := by
 have hk := tokV_ok s hp
 have := isNo_size h.2
 have := hk.ge
 unfold stepV stepOf
 rw [h.1]
 simp only [cond_true]
 omega
theorem step_law' {σ : Sto} {r : Nat} (hr : r < σ.length) {s : ByteArray} (hs : s.size < 2 ^ 61) {p : Nat} (hp : p ≤ s.size) :
  lim C 43 [(.ptr 84 r 0, false)] (σ.set r ((stepV s p).cells s)) = some (.ret [], σ.set r ((stepV s (stepV s p).at_).cells s)) := step_law hr hs (step_at_le hp)
theorem callK_panic {call : CallF} {f : FuncId} {args : List Cell} {σ σ' : Sto} {n : Nat} {K : List Cell → Sto → Option Res} {KP : V → Sto → Option Res} {v : V} (h : call f args σ = some (.pan v, σ')) :
  callK call f args σ n K KP = KP v σ' := callK_pan h
theorem stake_law {σ : Sto} {r : Nat} (hr : r < σ.length) {s : ByteArray} (hs : s.size < 2 ^ 61) {p : Nat} (hp : p ≤ s.size) {w : List UInt8} (hw : w ≠ []) (hw0 : w ≠ [0]) :
  ((rtakeV s ⟨p, 0, 0⟩ (ba w)).c = 0 ∧ rtakeV s ⟨p, 0, 0⟩ (ba w) = ⟨(stepV s p).at_, 0, 0⟩ ∧ lim C 47 [(.ptr 84 r 0, false), (.str (ba w), false)] (σ.set r ((stepV s p).cells s)) = some (.ret [], σ.set r ((stepV s (stepV s p).at_).cells s))) ∨
  ((rtakeV s ⟨p, 0, 0⟩ (ba w)).c = 1 ∧ lim C 47 [(.ptr 84 r 0, false), (.str (ba w), false)] (σ.set r ((stepV s p).cells s)) = some (.pan (.iface 58 (.ptr 31 σ.length 0)), σ.set r ((stepV s p).cells s) ++ [fcell 1 (rtakeV s ⟨p, 0, 0⟩ (ba w)).a])) := by
 have h1 := stepTok hp hw hw0
 cases h : strIs (tokV s p).t w
 ·right
  have ht : ((stepV s p).tok.toList == (ba w).toList) = false := by rw [← h, ← h1]; rfl
  have ht2 : ((tokV s p).t.toList == (ba w).toList) = false := h
  have hv : rtakeV s ⟨p, 0, 0⟩ (ba w) = ⟨p, 1, (tokV s p).at_⟩ := by
   unfold rtakeV rfailV
   simp [ht2]
  rw [hv]
  refine ⟨rfl, stake_lim (n := 0) ?_⟩
  have hf := sfail_law hr (s := s) (stepV s p)
  simp only [stake, stakeF, sg2 hr, Option.bind_some, V.asStr, ht, Bool.not_false, cond_true, callK_panic hf, step_pos]
 ·left
  have hok := strIs_ok hp hw h
  have ht : ((stepV s p).tok.toList == (ba w).toList) = true := by rw [← h, ← h1]; rfl
  have ht2 : ((tokV s p).t.toList == (ba w).toList) = true := h
  have hv : rtakeV s ⟨p, 0, 0⟩ (ba w) = ⟨(stepV s p).at_, 0, 0⟩ := by
   unfold rtakeV rfailV stepV stepOf
   simp [ht2, hok.1]
  rw [hv]
  refine ⟨rfl, rfl, stake_lim (n := 0) ?_⟩
  simp only [stake, stakeF, sg2 hr, Option.bind_some, V.asStr, ht, Bool.not_true, cond_false, callK_ret0 (step_law' hr hs hp)]
theorem sname_law {σ : Sto} {r : Nat} (hr : r < σ.length) {s : ByteArray} (hs : s.size < 2 ^ 61) {p : Nat} (hp : p ≤ s.size) :
    lim C 50 [(.ptr 84 r 0, false)] (σ.set r ((stepV s p).cells s)) =
      (bif isNameV (tokV s p).t then some (.ret [(.str (tokV s p).t, false)], σ.set r ((stepV s (stepV s p).at_).cells s))
       else some (.pan (.iface 58 (.ptr 31 σ.length 0)), σ.set r ((stepV s p).cells s) ++ [fcell 1 (tokV s p).at_])) := by
  have hf := sfail_law hr (s := s) (stepV s p)
  rw [step_pos] at hf
  have e0 : ∀ t : ByteArray, (t.toList == (ByteArray.mk #[]).toList) = isNo t := fun _ => rfl
  cases hk : (tokV s p).ok
  · have hno := (tokV_ok s hp).no hk
    have hn : isNameV (tokV s p).t = false := by simp [isNameV, hno]
    have htk : (stepV s p).tok = ByteArray.mk #[0] := by unfold stepV stepOf; rw [hk]; rfl
    have hl := letter_law 0 (by omega) (σ.set r ((stepV s p).cells s))
    rw [hn]
    refine sname_lim (n := 0) ?_
    have hb0 : byteAt (ByteArray.mk #[0]) 0 = ((0 : Nat) : Int) := rfl
    have hn0 : isNo (ByteArray.mk #[0]) = false := by rw [isNo, ByteArray.toList_eq, ByteArray.toList_eq]; rfl
    simp only [sname, snameF, sg2 hr, Option.bind_some, V.asStr, e0, htk, hn0, cond_false, Int.toNat_zero, hb0, callK_ret1 hl, List.getD_cons_zero, V.asBool, callK_panic hf]
    rfl
  · have htk := step_tok hk
    cases hno : isNo (tokV s p).t
    · have hz := isNo_size hno
      obtain ⟨b, hb, hbe⟩ := byteAt_lt (tokV s p).t 0
      have hl := letter_law b hb (σ.set r ((stepV s p).cells s))
      have hn : isNameV (tokV s p).t = isLetter b := by simp [isNameV, hno, hbe, nmByte]
      have hz' : decide ((0 : Int) < ((tokV s p).t.size : Int)) = true := by simp; omega
      rw [hn]
      cases hlb : isLetter b
      · refine sname_lim (n := 0) ?_
        rw [hlb] at hl
        simp only [sname, snameF, sg2 hr, Option.bind_some, V.asStr, e0, htk, hno, cond_false, Int.toNat_zero, hbe, hz', callK_ret1 hl, List.getD_cons_zero, V.asBool, callK_panic hf, grd, cond_true, Bool.and_true, Bool.not_false]
        rfl
      · refine sname_lim (n := 0) ?_
        rw [hlb] at hl
        simp only [sname, snameF, sg2 hr, Option.bind_some, V.asStr, e0, htk, hno, cond_false, Int.toNat_zero, hbe, hz', callK_ret1 hl, List.getD_cons_zero, V.asBool, grd, cond_true, Bool.and_true, Bool.not_true, callK_ret0 (step_law' hr hs hp)]
        rfl
    · have hn : isNameV (tokV s p).t = false := by simp [isNameV, hno]
      rw [hn]
      refine sname_lim (n := 0) ?_
      simp only [sname, snameF, sg2 hr, Option.bind_some, V.asStr, e0, htk, hno, cond_true, callK_panic hf]
      try rfl
theorem send_law {σ : Sto} {r : Nat} (hr : r < σ.length) {s : ByteArray} {p : Nat} (hp : p ≤ s.size) :
  ((rdoneV s ⟨p, 0, 0⟩).c = 0 ∧ lim C 28 [(.ptr 84 r 0, false)] (σ.set r ((stepV s p).cells s)) = some (.ret [], σ.set r ((stepV s p).cells s))) ∨
  ((rdoneV s ⟨p, 0, 0⟩).c = 1 ∧ lim C 28 [(.ptr 84 r 0, false)] (σ.set r ((stepV s p).cells s)) = some (.pan (.iface 58 (.ptr 31 σ.length 0)), σ.set r ((stepV s p).cells s) ++ [fcell 1 (rdoneV s ⟨p, 0, 0⟩).a])) := by
 have hf := sfail_law hr (s := s) (stepV s p)
 rw [step_pos] at hf
 have e0 : ∀ t : ByteArray, (t.toList == (ByteArray.mk #[]).toList) = isNo t := fun _ => rfl
 have hn0 : isNo (ByteArray.mk #[0]) = false := by rw [isNo, ByteArray.toList_eq, ByteArray.toList_eq]; rfl
 cases hk : (tokV s p).ok
 ·right
  have hno := (tokV_ok s hp).no hk
  have htk : (stepV s p).tok = ByteArray.mk #[0] := by unfold stepV stepOf; rw [hk]; rfl
  have hv : rdoneV s ⟨p, 0, 0⟩ = ⟨p, 1, (tokV s p).at_⟩ := by unfold rdoneV rfailV; simp [hk]
  rw [hv]
  refine ⟨rfl, send_lim (n := 0) ?_⟩
  simp only [send, sendF, sg2 hr, Option.bind_some, V.asStr, e0, htk, hn0, Bool.not_false, cond_true, callK_panic hf]
 ·have htk := step_tok hk
  cases hno : isNo (tokV s p).t
  ·right
   have hv : rdoneV s ⟨p, 0, 0⟩ = ⟨p, 1, (tokV s p).at_⟩ := by unfold rdoneV rfailV; simp [hno]
   rw [hv]
   refine ⟨rfl, send_lim (n := 0) ?_⟩
   simp only [send, sendF, sg2 hr, Option.bind_some, V.asStr, e0, htk, hno, Bool.not_false, cond_true, callK_panic hf]
  ·left
   have hv : rdoneV s ⟨p, 0, 0⟩ = ⟨p, 0, 0⟩ := by unfold rdoneV; simp [hk, hno]
   rw [hv]
   refine ⟨rfl, send_lim (n := 0) ?_⟩
   simp only [send, sendF, sg2 hr, Option.bind_some, V.asStr, e0, htk, hno, Bool.not_true, cond_false]
def LvOk (s : ByteArray) (σ : Sto) (r p : Nat) (x : Lv × RS) : Prop :=
 (x.2.c = 0 ∧ x.2.a = 0 ∧ x.2.p ≤ s.size ∧ p < x.2.p ∧ lim C 49 [(.ptr 84 r 0, false)] (σ.set r ((stepV s p).cells s)) = some (.ret [(.agg [.int .i64 x.1.kind, .str x.1.name, .slice 3 74 x.1.args], false)], σ.set r ((stepV s x.2.p).cells s))) ∨
 (x.2.c = 1 ∧ ∃ cs, lim C 49 [(.ptr 84 r 0, false)] (σ.set r ((stepV s p).cells s)) = some (.pan (.iface 58 (.ptr 31 σ.length 0)), σ.set r cs ++ [fcell 1 x.2.a]))
theorem rs_eta {st : RS} (h1 : st.c = 0) (h2 : st.a = 0) : st = ⟨st.p, 0, 0⟩ := by cases st; simp_all
theorem rtake_stuck {s : ByteArray} {st : RS} {w : ByteArray} (hc : st.c ≠ 0) : rtakeV s st w = st := by
 have h1 : (st.c == 0) = false := by simpa using hc
 unfold rtakeV rfailV
 simp only [h1, cond_false]
 cases (!(tokV s st.p).ok || !((tokV s st.p).t.toList == w.toList)) <;> simp only [cond_true, cond_false, h1]
theorem slevel_law {s : ByteArray} (hs : s.size < 2 ^ 61) : ∀ (n p : Nat) (σ : Sto) (r : Nat), r < σ.length → p ≤ s.size → s.size - p < n → LvOk s σ r p (rlevelV n s ⟨p, 0, 0⟩)
 | 0, p, σ, r, hr, hp, hn => by omega
 | n + 1, p, σ, r, hr, hp, hn => by
  have e48 : ∀ t : ByteArray, (t.toList == (ByteArray.mk #[48]).toList) = strIs t [48] := fun _ => rfl
  have e40 : ∀ t : ByteArray, (t.toList == (ByteArray.mk #[40]).toList) = strIs t [40] := fun _ => rfl
  have e115 : ∀ t : ByteArray, (t.toList == (ByteArray.mk #[115]).toList) = strIs t [115] := fun _ => rfl
  have emax : ∀ t : ByteArray, (t.toList == (ByteArray.mk #[109, 97, 120]).toList) = strIs t [109, 97, 120] := fun _ => rfl
  have eimax : ∀ t : ByteArray, (t.toList == (ByteArray.mk #[105, 109, 97, 120]).toList) = strIs t [105, 109, 97, 120] := fun _ => rfl
  have e41 : ByteArray.mk #[41] = ba [41] := rfl
  have hr1 : room (0 + 1) = true := by decide
  have hr2 : room (1 + 1) = true := by decide
  have t48 := stepTok hp (w := [48]) (by simp) (by simp)
  have t40 := stepTok hp (w := [40]) (by simp) (by simp)
  have hst := step_law' hr hs hp
  have hsle := step_at_le hp
  have key : ∀ (x : Lv × RS), rlevelV (n + 1) s ⟨p, 0, 0⟩ = x → (∀ res, slevel (lim C) 0 r (σ.set r ((stepV s p).cells s)) = some res → lim C 49 [(.ptr 84 r 0, false)] (σ.set r ((stepV s p).cells s)) = some res) := fun x _ res h => slevel_lim (n := 0) h
  have run : ∀ res, slevel (lim C) 0 r (σ.set r ((stepV s p).cells s)) = some res → lim C 49 [(.ptr 84 r 0, false)] (σ.set r ((stepV s p).cells s)) = some res := fun res h => slevel_lim (n := 0) h
  simp only [rlevelV, bne_self_eq_false, cond_false]
  cases h0 : strIs (tokV s p).t [48]
  case true =>
   have hok := strIs_ok hp (by simp) h0
   left
   simp only [cond_true]
   rw [rnext_at hok]
   refine ⟨rfl, rfl, hsle, step_lt hp hok, run _ ?_⟩
   rw [h0] at t48
   simp only [slevel, slevelF, sg2 hr, Option.bind_some, V.asStr, e48, t48, cond_true, callK_ret0 hst]
   rfl
  rw [h0] at t48
  simp only [cond_false]
  have hname := sname_law hr hs hp
  cases h1 : isNameV (tokV s p).t
  case true =>
   have hok := name_ok hp h1
   have h40f : strIs (tokV s p).t [40] = false := by
    cases h2 : strIs (tokV s p).t [40] with
    | false => rfl
    | true =>
     exfalso
     simp only [strIs, beq_iff_eq, isNameV, Bool.and_eq_true] at h2 h1
     have : byteAt (tokV s p).t 0 = 40 := by
      rw [ByteArray.toList_eq, ByteArray.toList_eq] at h2
      simp only [byteAt, h2, ba]; rfl
     rw [this] at h1
     exact absurd h1.2 (by decide)
   left
   simp only [cond_true]
   rw [rnext_at hok]
   rw [h1] at hname
   rw [h40f] at t40
   refine ⟨rfl, rfl, hsle, step_lt hp hok, run _ ?_⟩
   simp only [slevel, slevelF, sg2 hr, Option.bind_some, V.asStr, e48, t48, e40, t40, cond_false, callK_ret1 (hname.trans (cond_true ..)), List.getD_cons_zero]
   rfl
  rw [h1] at hname
  simp only [cond_false]
  cases h2 : strIs (tokV s p).t [40]
  case false =>
   right
   simp only [cond_false]
   rw [h2] at t40
   refine ⟨by simp [rfailV], (stepV s p).cells s, run _ ?_⟩
   simp only [slevel, slevelF, sg2 hr, Option.bind_some, V.asStr, e48, t48, e40, t40, cond_false, callK_panic (hname.trans (cond_false ..))]
   simp [rfailV]
  have hok := strIs_ok hp (by simp) h2
  have hlt := step_lt hp hok
  simp only [cond_true]
  rw [rnext_at hok]
  rw [h2] at t40
  generalize hp1 : (stepV s p).at_ = p1 at hst hsle hlt
  have u115 := stepTok hsle (w := [115]) (by simp) (by simp)
  have umax := stepTok hsle (w := [109, 97, 120]) (by simp) (by simp)
  have uimax := stepTok hsle (w := [105, 109, 97, 120]) (by simp) (by simp)
  have hst1 := step_law' hr hs hsle
  have hsle1 := step_at_le hsle
  unfold lvP
  have hf1 := sfail_law hr (s := s) (stepV s p1)
  rw [step_pos] at hf1
  simp only [slevel, slevelF, sg2 hr, Option.bind_some, V.asStr, e48, t48, e40, t40, cond_false, cond_true, callK_ret0 hst, e115, u115, emax, umax, eimax, uimax, e41, hr1, hr2, callK_panic hf1] at run
  -- what a first child comes to
  have first : (tokV s p1).ok = true ∧ isNo (tokV s p1).t = false → LvOk s σ r (stepV s p1).at_ (rlevelV n s ⟨(stepV s p1).at_, 0, 0⟩) := fun h => slevel_law hs n _ σ r hr hsle1 (by have := step_lt hsle h; omega)
  cases h3 : strIs (tokV s p1).t [115]
  case true =>
   have hok1 := strIs_ok hsle (by simp) h3
   have hlt1 := step_lt hsle hok1
   simp only [cond_true, lv1]
   simp only [h3, cond_true, callK_ret0 hst1] at run
   rw [rnext_at hok1]
   have hx := first hok1
   generalize rlevelV n s ⟨(stepV s p1).at_, 0, 0⟩ = X at hx
   rcases hx with ⟨x1, x2, x3, x4, x5⟩ | ⟨x1, cs, x2⟩
   ·rw [rs_eta x1 x2]
    rcases stake_law hr hs x3 (w := [41]) (by simp) (by simp) with ⟨_, y2, y3⟩ | ⟨y1, y2⟩
    ·left
     rw [y2]
     have z := step_at_le x3
     have z2 := le_scan
     refine ⟨rfl, rfl, z, ?_, run _ ?_⟩
     ·have hk := (tokV_ok s x3).ge
      have : X.2.p ≤ (stepV s X.2.p).at_ := by
       have := (tokV_ok s x3)
       unfold stepV stepOf
       cases (tokV s X.2.p).ok <;> simp only [cond_true, cond_false] <;> omega
      simp only
      omega
     ·simp only [callK_ret1 x5, List.getD_cons_zero, fits_lv, cell_lv, grd, Bool.and_self, cond_true, Option.bind_some, callK_ret0 y3]
      rfl
    ·right
     refine ⟨y1, (stepV s X.2.p).cells s, run _ ?_⟩
     simp only [callK_ret1 x5, List.getD_cons_zero, fits_lv, cell_lv, grd, Bool.and_self, cond_true, Option.bind_some, callK_panic y2]
   ·right
    rw [rtake_stuck (by rw [x1]; simp)]
    refine ⟨x1, cs, run _ ?_⟩
    simp only [callK_panic x2]
  simp only [h3, cond_false] at run ⊢
  have two : ∀ (f : Lv → Lv → Lv) (B : Option Res), (tokV s p1).ok = true ∧ isNo (tokV s p1).t = false →
    (∀ (a b : Lv) (σ1 σ2 σ3 : Sto), lim C 49 [(.ptr 84 r 0, false)] (σ.set r ((stepV s (stepV s p1).at_).cells s)) = some (.ret [(.agg [.int .i64 a.kind, .str a.name, .slice 3 74 a.args], false)], σ1) →
     lim C 49 [(.ptr 84 r 0, false)] σ1 = some (.ret [(.agg [.int .i64 b.kind, .str b.name, .slice 3 74 b.args], false)], σ2) → lim C 47 [(.ptr 84 r 0, false), (.str (ba [41]), false)] σ2 = some (.ret [], σ3) →
     B = some (.ret [(.agg [.int .i64 (f a b).kind, .str (f a b).name, .slice 3 74 (f a b).args], false)], σ3)) →
    (∀ (v : V) (σ1 : Sto), lim C 49 [(.ptr 84 r 0, false)] (σ.set r ((stepV s (stepV s p1).at_).cells s)) = some (.pan v, σ1) → B = some (.pan v, σ1)) →
    (∀ (a : Lv) (v : V) (σ1 σ2 : Sto), lim C 49 [(.ptr 84 r 0, false)] (σ.set r ((stepV s (stepV s p1).at_).cells s)) = some (.ret [(.agg [.int .i64 a.kind, .str a.name, .slice 3 74 a.args], false)], σ1) →
     lim C 49 [(.ptr 84 r 0, false)] σ1 = some (.pan v, σ2) → B = some (.pan v, σ2)) →
    (∀ (a b : Lv) (v : V) (σ1 σ2 σ3 : Sto), lim C 49 [(.ptr 84 r 0, false)] (σ.set r ((stepV s (stepV s p1).at_).cells s)) = some (.ret [(.agg [.int .i64 a.kind, .str a.name, .slice 3 74 a.args], false)], σ1) →
     lim C 49 [(.ptr 84 r 0, false)] σ1 = some (.ret [(.agg [.int .i64 b.kind, .str b.name, .slice 3 74 b.args], false)], σ2) → lim C 47 [(.ptr 84 r 0, false), (.str (ba [41]), false)] σ2 = some (.pan v, σ3) →
     B = some (.pan v, σ3)) →
    (∀ res, B = some res → lim C 49 [(.ptr 84 r 0, false)] (σ.set r ((stepV s p).cells s)) = some res) → LvOk s σ r p (lv2 (rlevelV n s) s f (rnextV s ⟨p1, 0, 0⟩).2) := by
   intro f B hok1 hB1 hB2 hB3 hB4 hrun
   have hlt1 := step_lt hsle hok1
   simp only [lv2]
   rw [rnext_at hok1]
   have hx := first hok1
   generalize rlevelV n s ⟨(stepV s p1).at_, 0, 0⟩ = X at hx
   rcases hx with ⟨x1, x2, x3, x4, x5⟩ | ⟨x1, cs, x2⟩
   ·rw [rs_eta x1 x2]
    have hy := slevel_law hs n X.2.p σ r hr x3 (by omega)
    generalize rlevelV n s ⟨X.2.p, 0, 0⟩ = Y at hy
    rcases hy with ⟨y1, y2, y3, y4, y5⟩ | ⟨y1, cs, y2⟩
    ·rw [rs_eta y1 y2]
     rcases stake_law hr hs y3 (w := [41]) (by simp) (by simp) with ⟨_, w2, w3⟩ | ⟨w1, w2⟩
     ·left
      rw [w2]
      have z := step_at_le y3
      refine ⟨rfl, rfl, z, ?_, hrun _ ?_⟩
      ·have : Y.2.p ≤ (stepV s Y.2.p).at_ := by
        have := (tokV_ok s y3)
        have := this.ge
        unfold stepV stepOf
        cases (tokV s Y.2.p).ok <;> simp only [cond_true, cond_false] <;> omega
       simp only
       omega
      ·exact hB1 _ _ _ _ _ x5 y5 w3
     ·right
      refine ⟨w1, (stepV s Y.2.p).cells s, hrun _ ?_⟩
      exact hB4 _ _ _ _ _ _ x5 y5 w2
    ·right
     rw [rtake_stuck (by rw [y1]; simp)]
     refine ⟨y1, cs, hrun _ ?_⟩
     exact hB3 _ _ _ _ x5 y2
   ·right
    have hst : rlevelV n s X.2 = (.zero, X.2) := rlevel_stuck (by rw [x1]; simp)
    rw [hst, rtake_stuck (by rw [x1]; simp)]
    refine ⟨x1, cs, hrun _ ?_⟩
    exact hB2 _ _ x2
  cases h4 : strIs (tokV s p1).t [109, 97, 120]
  case true =>
   have hok1 := strIs_ok hsle (by simp) h4
   simp only [h4, cond_true, callK_ret0 hst1] at run ⊢
   refine two .max _ hok1 (fun a b σ1 σ2 σ3 k1 k2 k3 => ?_) (fun v σ1 k1 => ?_) (fun a v σ1 σ2 k1 k2 => ?_) (fun a b v σ1 σ2 σ3 k1 k2 k3 => ?_) run
   ·simp only [callK_ret1 k1, callK_ret1 k2, callK_ret0 k3, List.getD_cons_zero, fits_lv, cell_lv, grd, Bool.and_self, cond_true, Option.bind_some]; rfl
   ·simp only [callK_panic k1]
   ·simp only [callK_ret1 k1, callK_panic k2, List.getD_cons_zero, fits_lv, grd, Bool.and_self, cond_true, Option.bind_some]
   ·simp only [callK_ret1 k1, callK_ret1 k2, callK_panic k3, List.getD_cons_zero, fits_lv, grd, Bool.and_self, cond_true, Option.bind_some]
  simp only [h4, cond_false] at run ⊢
  cases h5 : strIs (tokV s p1).t [105, 109, 97, 120]
  case true =>
   have hok1 := strIs_ok hsle (by simp) h5
   simp only [h5, cond_true, callK_ret0 hst1] at run ⊢
   refine two .imax _ hok1 (fun a b σ1 σ2 σ3 k1 k2 k3 => ?_) (fun v σ1 k1 => ?_) (fun a v σ1 σ2 k1 k2 => ?_) (fun a b v σ1 σ2 σ3 k1 k2 k3 => ?_) run
   ·simp only [callK_ret1 k1, callK_ret1 k2, callK_ret0 k3, List.getD_cons_zero, fits_lv, cell_lv, grd, Bool.and_self, cond_true, Option.bind_some]; rfl
   ·simp only [callK_panic k1]
   ·simp only [callK_ret1 k1, callK_panic k2, List.getD_cons_zero, fits_lv, grd, Bool.and_self, cond_true, Option.bind_some]
   ·simp only [callK_ret1 k1, callK_ret1 k2, callK_panic k3, List.getD_cons_zero, fits_lv, grd, Bool.and_self, cond_true, Option.bind_some]
  simp only [h5, cond_false] at run ⊢
  right
  refine ⟨by simp [rfailV], (stepV s p1).cells s, run _ ?_⟩
  simp [rfailV]
end Go.Ab.Mk
end
section
namespace Go.Ab.Mk
open Go.Proofs Go.Ab
theorem wrapI {x : Int} (h0 : 0 ≤ x) (h1 : x < 2 ^ 62) : IntKind.wrap .i64 x = x := by
 obtain ⟨n, rfl⟩ := Int.eq_ofNat_of_zero_le h0
 exact wrap_nat (by omega)
theorem wrapU {x : Int} (h0 : 0 ≤ x) (h1 : x < 256) : IntKind.wrap .u8 x = x := by
 unfold IntKind.wrap
 simp [IntKind.bits, IntKind.signed] <;> omega
theorem number_loop (call : CallF) (n : Nat) {t : ByteArray} (ht : Digits t) (σ : Sto) :
  ∀ (m i acc : Nat), i ≤ t.size → t.size - i < m → acc + 1 ≤ 10 ^ i → numberl0 call n m t acc i σ = some (.ret [(.int .i64 (numFrom t i acc), false)], σ)
 | 0, i, _, _, hm, _ => by omega
 | m + 1, i, acc, hi, hm, ha => by
  show numbers0 call (numberl0 call n m) t acc i σ = _
  unfold numbers0
  have hf := ht.few
  by_cases hlt : i < t.size
  ·obtain ⟨b, hb, h1, h2⟩ := ht.byte hlt
   have hp : (10 : Nat) ^ i ≤ 10 ^ 4 := Nat.pow_le_pow_right (by omega) (by omega)
   have hp2 : acc + 1 ≤ 10000 := Nat.le_trans ha hp
   rw [d0, dlt hlt]
   simp only [cond_true, Bool.and_self, grd, Option.bind_some, Int.toNat_natCast, hb]
   have e1 : IntKind.wrap .u8 ((b : Int) - 48) = ((b - 48 : Nat) : Int) := by rw [wrapU (by omega) (by omega)]; omega
   have e2 : IntKind.wrap .i64 ((b - 48 : Nat) : Int) = ((b - 48 : Nat) : Int) := wrap_nat (by omega)
   have e3 : IntKind.wrap .i64 (10 * (acc : Int)) = ((10 * acc : Nat) : Int) := by rw [wrapI (by omega) (by omega)]; omega
   have e4 : IntKind.wrap .i64 (((10 * acc : Nat) : Int) + ((b - 48 : Nat) : Int)) = ((10 * acc + (b - 48) : Nat) : Int) := by rw [wrapI (by omega) (by omega)]; omega
   rw [e1, e2, e3, e4, wrap_succ (show i < 2 ^ 61 by omega), numFrom_go hlt, hb, Int.toNat_natCast]
   exact number_loop call n ht σ m (i + 1) _ (by omega) (by omega) (by rw [Nat.pow_succ]; omega)
  ·rw [dnlt hlt, numFrom_end hlt]; rfl
theorem number_law {t : ByteArray} (ht : Digits t) (σ : Sto) : lim C 54 [(.str t, false)] σ = some (.ret [(.int .i64 (numV t), false)], σ) :=
 number_lim (n := t.size + 1) <| number_loop (lim C) (t.size + 1) ht σ (t.size + 1) 0 0 (by omega) (by omega) (by simp)
theorem bytesV_get {s : ByteArray} {i : Nat} (h : i < s.size) : (bytesV s).getD i [] = [.int .u8 (byteAt s i)] := by
 have h' : i < s.data.toList.length := h
 have e : s.data.toList.getD i 0 = s.data.toList[i] := by rw [List.getD_eq_getElem?_getD, List.getElem?_eq_getElem h']; rfl
 simp only [byteAt, e, bytesV, List.getD, List.getElem?_map, List.getElem?_eq_getElem h']
 rfl
theorem bytesV_len (s : ByteArray) : (bytesV s).length = s.size := by simp [bytesV]
theorem iatoi_loop (call : CallF) (n : Nat) {t : ByteArray} (ht : Digits t) (σ : Sto) :
  ∀ (m i acc : Nat), i ≤ t.size → t.size - i < m → acc + 1 ≤ 10 ^ i → iatoil0 call n m t acc (bytesV t) t.size i σ = some (.ret [(.int .i64 (numFrom t i acc), false), (.nilIface, false)], σ)
 | 0, i, _, _, hm, _ => by omega
 | m + 1, i, acc, hi, hm, ha => by
  show iatois0 call (iatoil0 call n m) t acc (bytesV t) t.size i σ = _
  unfold iatois0
  have hf := ht.few
  have hz := ht.pos
  by_cases hlt : i < t.size
  ·obtain ⟨b, hb, h1, h2⟩ := ht.byte hlt
   have hp : (10 : Nat) ^ i ≤ 10 ^ 4 := Nat.pow_le_pow_right (by omega) (by omega)
   have hp2 : acc + 1 ≤ 10000 := Nat.le_trans ha hp
   have e1 : IntKind.wrap .u8 ((b : Int) - 48) = ((b - 48 : Nat) : Int) := by rw [wrapU (by omega) (by omega)]; omega
   have e2 : IntKind.wrap .i64 ((b - 48 : Nat) : Int) = ((b - 48 : Nat) : Int) := wrap_nat (by omega)
   have e3 : IntKind.wrap .i64 ((acc : Int) * 10) = ((10 * acc : Nat) : Int) := by rw [wrapI (by omega) (by omega)]; omega
   have e4 : IntKind.wrap .i64 (((10 * acc : Nat) : Int) + ((b - 48 : Nat) : Int)) = ((10 * acc + (b - 48) : Nat) : Int) := by rw [wrapI (by omega) (by omega)]; omega
   have e5 : decide (((b - 48 : Nat) : Int) > 9) = false := by simp; omega
   rw [bytesV_len, d0, dlt hlt]
   simp only [cond_true, Bool.and_self, grd, Option.bind_some, Int.toNat_natCast, bytesV_get hlt, List.getD_cons_zero, V.asInt, if_true, hb, e1, e2, e3, e4, e5, cond_false, wrap_succ (show i < 2 ^ 61 by omega)]
   rw [numFrom_go hlt, hb, Int.toNat_natCast]
   exact iatoi_loop call n ht σ m (i + 1) _ (by omega) (by omega) (by rw [Nat.pow_succ]; omega)
  ·obtain ⟨b, hb, h1, h2⟩ := ht.byte hz
   have e45 : ((b : Int) == 45) = false := by simp; omega
   have ez : decide ((0 : Int) < (t.size : Int)) = true := by simp; omega
   rw [dnlt hlt, numFrom_end hlt]
   simp only [cond_false, Int.toNat_zero, hb, e45, Int.le_refl, decide_true, Bool.true_and, ez, grd, cond_true, Option.bind_some]
theorem iatoi_law {t : ByteArray} (ht : Digits t) (σ : Sto) : lim C 68 [(.str t, false)] σ = some (.ret [(.int .i64 (numV t), false), (.nilIface, false)], σ) :=
 iatoi_lim (n := t.size + 1) <| by
  have hf := ht.few
  have hz := ht.pos
  obtain ⟨b, hb, h1, h2⟩ := ht.byte hz
  have e45 : ((b : Int) == 45) = false := by simp; omega
  have e43 : ((b : Int) == 43) = false := by simp; omega
  have ez : decide ((0 : Int) < (t.size : Int)) = true := by simp; omega
  have e19 : decide ((t.size : Int) < 19) = true := by simp; omega
  have hl := iatoi_loop (lim C) (t.size + 1) ht σ (t.size + 1) 0 0 (by omega) (by omega) (by simp)
  simp only [iatoi, iatoiF, ez, e19, cond_true, cond_false, Int.toNat_zero, hb, e45, e43, Int.le_refl, decide_true, Bool.true_and, grd, Option.bind_some, bytesV_len]
  exact hl
theorem atoi_law {t : ByteArray} (ht : Digits t) (σ : Sto) : lim C 45 [(.str t, false)] σ = some (.ret [(.int .i64 (numV t), false), (.nilIface, false)], σ) :=
 atoi_lim (n := 0) <| by
  have hl := iatoi_law ht σ
  simp only [atoi, atoiF, callK_ret2 hl, List.getD_cons_zero, List.getD_cons_succ, V.ifaceNil, Option.bind_some, Bool.not_true, cond_false]
def hashed (t : ByteArray) : Bool := !isNo t && byteAt t 0 == 35
theorem hashed_size {t : ByteArray} (h : hashed t = true) : 0 < t.size := by
 simp only [hashed, Bool.and_eq_true, Bool.not_eq_true'] at h
 exact isNo_size h.1
theorem isNo_of_size {t : ByteArray} (h : t.size = 0) : isNo t = true := by
 cases hn : isNo t with
 | true => rfl
 | false => have := isNo_size hn; omega
theorem extract_one {t : ByteArray} (h : 0 < t.size) : (t.extract 0 1).toList = [t.data.toList.getD 0 0] := by
 have h' : 0 < t.data.toList.length := h
 rw [ByteArray.toList_eq, ByteArray.data_extract, Array.toList_extract]
 generalize t.data.toList = l at h' ⊢
 match l, h' with
 | x :: xs, _ => rfl
theorem hasPrefix_law (t : ByteArray) (σ : Sto) : lim C 74 [(.str t, false), (.str (ByteArray.mk #[35]), false)] σ = some (.ret [(.bool (hashed t), false)], σ) :=
 hasPrefix_lim (n := 0) <| by
  have e1 : (ByteArray.mk #[35]).size = 1 := rfl
  by_cases hz : 0 < t.size
  ·have hd : decide ((t.size : Int) ≥ ((1 : Nat) : Int)) = true := by simp; omega
   have hd2 : decide (((1 : Nat) : Int) ≤ (t.size : Int)) = true := by simp; omega
   have hn : isNo t = false := by
    cases hn : isNo t with
    | false => rfl
    | true =>
     simp only [isNo, beq_iff_eq] at hn
     rw [ByteArray.toList_eq, ByteArray.toList_eq] at hn
     have h' : 0 < t.data.toList.length := hz
     rw [hn] at h'
     simp at h'
   have hr : ((t.extract 0 1).toList == (ByteArray.mk #[35]).toList) = (byteAt t 0 == 35) := by
    rw [extract_one hz, ByteArray.toList_eq]
    simp only [byteAt]
    rw [Bool.eq_iff_iff]
    simp only [beq_iff_eq, List.cons.injEq, and_true]
    constructor
    ·intro h; rw [h]; rfl
    ·intro h
     apply UInt8.toNat_inj.1
     have : (UInt8.toNat 35 : Int) = 35 := rfl
     omega
   have e0 : ((0 : Int) ≤ ((1 : Nat) : Int)) := by omega
   simp only [hasPrefix, hasPrefixF, e1, hd, hd2, cond_true, Int.le_refl, decide_true, Bool.true_and, grd, Option.bind_some, Int.toNat_zero, Int.toNat_natCast, hr, hashed, hn, Bool.not_false, decide_eq_true e0]
  ·have hd : decide ((t.size : Int) ≥ ((1 : Nat) : Int)) = false := by simp; omega
   have hn : isNo t = true := isNo_of_size (by omega)
   simp only [hasPrefix, hasPrefixF, e1, hd, cond_false, hashed, hn, Bool.not_true, Bool.false_and]
theorem cutPrefix1_law (t : ByteArray) (σ : Sto) : lim C 67 [(.str t, false), (.str (ByteArray.mk #[35]), false)] σ =
  some (.ret [(.str (bif hashed t then t.extract 1 t.size else t), false), (.bool (hashed t), false)], σ) :=
 cutPrefix1_lim (n := 0) <| by
  have e1 : (ByteArray.mk #[35]).size = 1 := rfl
  have hp := hasPrefix_law t σ
  simp only [cutPrefix1, cutPrefix1F, callK_ret1 hp, List.getD_cons_zero, V.asBool, Option.bind_some]
  cases hh : hashed t
  ·rfl
  ·have hz := hashed_size hh
   have hd2 : decide (((1 : Nat) : Int) ≤ (t.size : Int)) = true := by simp; omega
   have e0 : ((0 : Int) ≤ ((1 : Nat) : Int)) := by omega
   simp only [e1, Bool.not_true, cond_false, cond_true, hd2, Int.le_refl, decide_true, Bool.true_and, grd, Option.bind_some, Int.toNat_natCast, decide_eq_true e0]
theorem cutPrefix_law (t : ByteArray) (σ : Sto) : lim C 44 [(.str t, false), (.str (ByteArray.mk #[35]), false)] σ =
  some (.ret [(.str (bif hashed t then t.extract 1 t.size else t), false), (.bool (hashed t), false)], σ) :=
 cutPrefix_lim (n := 0) <| by
  have hp := cutPrefix1_law t σ
  simp only [cutPrefix, cutPrefixF, callK_ret2 hp, List.getD_cons_zero, List.getD_cons_succ]
def wsort : List UInt8 := [115, 111, 114, 116]
def wconst : List UInt8 := [99, 111, 110, 115, 116]
def wapp : List UInt8 := [97, 112, 112]
def wlam : List UInt8 := [108, 97, 109]
def wpi : List UInt8 := [112, 105]
def wlet : List UInt8 := [108, 101, 116]
theorem strIs_eq {t : ByteArray} {l : List UInt8} (h : strIs t l = true) : t = ba l := by
 rw [strIs, beq_iff_eq, ByteArray.toList_eq, ByteArray.toList_eq] at h
 apply ByteArray.ext
 exact Array.toList_inj.1 h
theorem strIs_ba (a b : List UInt8) : strIs (ba a) b = (a == b) := by rw [strIs, ByteArray.toList_eq, ByteArray.toList_eq]; rfl
theorem word_cases (t : ByteArray) :
  (wordIx t = 0 ∧ strIs t wsort = false ∧ strIs t wconst = false ∧ strIs t wapp = false ∧ strIs t wlam = false ∧ strIs t wpi = false ∧ strIs t wlet = false) ∨
  (wordIx t = 1 ∧ strIs t wsort = true ∧ strIs t wconst = false ∧ strIs t wapp = false ∧ strIs t wlam = false ∧ strIs t wpi = false ∧ strIs t wlet = false) ∨
  (wordIx t = 2 ∧ strIs t wsort = false ∧ strIs t wconst = true ∧ strIs t wapp = false ∧ strIs t wlam = false ∧ strIs t wpi = false ∧ strIs t wlet = false) ∨
  (wordIx t = 3 ∧ strIs t wsort = false ∧ strIs t wconst = false ∧ strIs t wapp = true ∧ strIs t wlam = false ∧ strIs t wpi = false ∧ strIs t wlet = false) ∨
  (wordIx t = 4 ∧ strIs t wsort = false ∧ strIs t wconst = false ∧ strIs t wapp = false ∧ strIs t wlam = true ∧ strIs t wpi = false ∧ strIs t wlet = false) ∨
  (wordIx t = 5 ∧ strIs t wsort = false ∧ strIs t wconst = false ∧ strIs t wapp = false ∧ strIs t wlam = false ∧ strIs t wpi = true ∧ strIs t wlet = false) ∨
  (wordIx t = 6 ∧ strIs t wsort = false ∧ strIs t wconst = false ∧ strIs t wapp = false ∧ strIs t wlam = false ∧ strIs t wpi = false ∧ strIs t wlet = true) := by
 unfold wordIx
 have f1 : [115, 111, 114, 116] = wsort := rfl
 have f2 : [99, 111, 110, 115, 116] = wconst := rfl
 have f3 : [97, 112, 112] = wapp := rfl
 have f4 : [108, 97, 109] = wlam := rfl
 have f5 : [112, 105] = wpi := rfl
 have f6 : [108, 101, 116] = wlet := rfl
 rw [f1, f2, f3, f4, f5, f6]
 cases h1 : strIs t wsort
 case true => rw [strIs_eq h1]; simp only [strIs_ba]; decide
 cases h2 : strIs t wconst
 case true => rw [strIs_eq h2]; simp only [strIs_ba]; decide
 cases h3 : strIs t wapp
 case true => rw [strIs_eq h3]; simp only [strIs_ba]; decide
 cases h4 : strIs t wlam
 case true => rw [strIs_eq h4]; simp only [strIs_ba]; decide
 cases h5 : strIs t wpi
 case true => rw [strIs_eq h5]; simp only [strIs_ba]; decide
 cases h6 : strIs t wlet
 case true => decide
 exact .inl ⟨rfl, rfl, rfl, rfl, rfl, rfl, rfl⟩
theorem wordIx_le (t : ByteArray) : wordIx t ≤ 6 := by
 rcases word_cases t with h | h | h | h | h | h | h <;> (rw [h.1]; decide)
theorem wordIx_ok {s : ByteArray} {p : Nat} (hp : p ≤ s.size) (h : wordIx (tokV s p).t ≠ 0) : (tokV s p).ok = true ∧ isNo (tokV s p).t = false := by
 rcases word_cases (tokV s p).t with k | k | k | k | k | k | k
 ·exact absurd k.1 h
 ·exact strIs_ok hp (by decide) k.2.1
 ·exact strIs_ok hp (by decide) k.2.2.1
 ·exact strIs_ok hp (by decide) k.2.2.2.1
 ·exact strIs_ok hp (by decide) k.2.2.2.2.1
 ·exact strIs_ok hp (by decide) k.2.2.2.2.2.1
 ·exact strIs_ok hp (by decide) k.2.2.2.2.2.2
def words6 : List ByteArray := [ba wsort, ba wconst, ba wapp, ba wlam, ba wpi, ba wlet]
theorem idx_words (t : ByteArray) : idx t words6 0 = (wordIx t : Int) - 1 := by
 have e : ∀ l : List UInt8, (t.toList == (ba l).toList) = strIs t l := fun _ => rfl
 unfold words6
 simp only [idx, e]
 rcases word_cases t with ⟨h0, h1, h2, h3, h4, h5, h6⟩ | ⟨h0, h1, h2, h3, h4, h5, h6⟩ | ⟨h0, h1, h2, h3, h4, h5, h6⟩ | ⟨h0, h1, h2, h3, h4, h5, h6⟩ | ⟨h0, h1, h2, h3, h4, h5, h6⟩ | ⟨h0, h1, h2, h3, h4, h5, h6⟩ | ⟨h0, h1, h2, h3, h4, h5, h6⟩ <;> simp [h0, h1, h2, h3, h4, h5, h6]
end Go.Ab.Mk
end
section
namespace Go.Ab.Mk
open Go.Proofs Go.Ab
theorem rname_law {σ : Sto} {r : Nat} {s : ByteArray} {st : RS} (h : σ[r]? = some (st.cells s)) (hs : s.size < 2 ^ 61) (hp : st.p ≤ s.size) :
  lim C 56 [(.ptr 69 r 0, false)] σ = some (.ret [(.str (rnameV s st).1, false)], σ.set r ((rnameV s st).2.cells s)) :=
 rname_lim (n := 0) <| by
  obtain ⟨hk1, hk2, hk3⟩ := tokV_ok s hp
  have ht := token_law h hs hp
  have hi := isName_law (tokV s st.p).t σ
  have hw : IntKind.wrap .i64 (((tokV s st.p).at_ : Int) + ((tokV s st.p).t.size : Int)) = (((tokV s st.p).at_ + (tokV s st.p).t.size : Nat) : Int) := wrap_add (by omega)
  have fin : ∀ st1 : RS, ∀ σ1 : Sto, σ1[r]? = some (st1.cells s) → st1.p = st.p → σ1 = σ.set r (st1.cells s) →
    (bif st1.c != 0 then some (End.ret [(V.str (ByteArray.mk #[]), false)], σ1) else
     (memSet σ1 (.ptr 69 r 1) [(.int .i64 (IntKind.wrap .i64 (((tokV s st.p).at_ : Int) + ((tokV s st.p).t.size : Int))), false)]).bind fun m => some (End.ret [(V.str (tokV s st.p).t, false)], m)) =
    some (.ret [(.str (bif st1.c != 0 then (ByteArray.mk #[], st1) else ((tokV s st.p).t, (⟨(tokV s st.p).at_ + (tokV s st.p).t.size, st1.c, st1.a⟩ : RS))).1, false)],
     σ.set r ((bif st1.c != 0 then (ByteArray.mk #[], st1) else ((tokV s st.p).t, (⟨(tokV s st.p).at_ + (tokV s st.p).t.size, st1.c, st1.a⟩ : RS))).2.cells s)) := by
   intro st1 σ1 h1 hp1 hσ
   rw [hw, rset1 h1]
   cases st1.c != 0
   ·simp only [cond_false, Option.bind_some]
    rw [hσ, List.set_set]
   ·simp only [cond_true]
    rw [hσ]
  simp only [rname, rnameF, callK_ret3 ht rfl, tok0, tok1, tok2, callK_ret1 hi, List.getD_cons_zero, V.asBool, V.asStr, V.asInt, if_true, Option.bind_some, rnameV]
  have hf := rfail_law h (tokV s st.p).at_
  have hg : (σ.set r ((rfailV st (tokV s st.p).at_).cells s))[r]? = some ((rfailV st (tokV s st.p).at_).cells s) := set_get h
  have hfp : (rfailV st (tokV s st.p).at_).p = st.p := rfail_p _ _
  cases hok : (tokV s st.p).ok
  ·simp only [Bool.not_false, cond_true, Bool.true_or, callK_ret0 hf, rd2 hg, Option.bind_some, V.asInt, if_true]
   exact fin _ _ hg hfp rfl
  ·simp only [Bool.not_true, cond_false, Bool.false_or]
   cases hno : isNameV (tokV s st.p).t
   ·simp only [Bool.not_false, cond_true, callK_ret0 hf, rd2 hg, Option.bind_some, V.asInt, if_true]
    exact fin _ _ hg hfp rfl
   ·simp only [Bool.not_true, cond_false, rd2 h, Option.bind_some, V.asInt, if_true]
    exact fin _ _ h rfl (rset_same h).symm
def peekV (s : ByteArray) (st : RS) : ByteArray := bif (tokV s st.p).ok && st.c == 0 then (tokV s st.p).t else ByteArray.mk #[]
theorem rpeek_law {σ : Sto} {r : Nat} {s : ByteArray} {st : RS} (h : σ[r]? = some (st.cells s)) (hs : s.size < 2 ^ 61) (hp : st.p ≤ s.size) :
  lim C 57 [(.ptr 69 r 0, false)] σ = some (.ret [(.str (peekV s st), false)], σ) :=
 rpeek_lim (n := 0) <| by
  have ht := token_law h hs hp
  simp only [rpeek, rpeekF, callK_ret3 ht rfl, tok0, tok1, tok2, V.asBool, V.asInt, if_true, rd2 h, Option.bind_some, peekV]
  have e : (st.c != 0) = !(st.c == 0) := rfl
  rw [e]
  cases (tokV s st.p).ok <;> cases st.c == 0 <;> rfl
theorem peek_close {s : ByteArray} {st : RS} (hp : st.p ≤ s.size) (hc : st.c = 0) : ((peekV s st).toList == (ByteArray.mk #[41]).toList) = strIs (tokV s st.p).t [41] := by
 unfold peekV
 have e : ∀ t : ByteArray, (t.toList == (ByteArray.mk #[41]).toList) = strIs t [41] := fun _ => rfl
 rw [e]
 cases hk : (tokV s st.p).ok
 ·have h1 := (tokV_ok s hp).no hk
  have : strIs (tokV s st.p).t [41] = false := by
   cases h2 : strIs (tokV s st.p).t [41] with
   | false => rfl
   | true => have := (strIs_ok hp (by simp) h2).1; rw [hk] at this; simp at this
  rw [this, hc]
  simp only [Bool.false_and, cond_false]
  rw [strIs, ByteArray.toList_eq, ByteArray.toList_eq]; rfl
 ·simp [hc]
theorem tm_fits (t : Tm) : V.fits t.val true 5 = true := rfl
theorem tm_cell (t : Tm) : [V.cell t.val 0, V.cell t.val 1, V.cell t.val 2, V.cell t.val 3, V.cell t.val 4] = t.enc := by rw [t.enc_eq]; rfl
theorem set_setN {σ : Sto} {r : Nat} {a b : List Cell} : (σ.set r a).set r b = σ.set r b := List.set_set ..
section
variable {N : Nat} {r : Nat} {σ σ' : Sto}
theorem rargs_end {t0 t1 : Int} {t2 : ByteArray} {t3 t4 : List (List V)} {o0 o1 : Int} {o2 : V} {o3 o4 : List (List V)} {m : Nat} {n : Int}
  (h : lim C 58 [(.ptr 69 r 0, false), (.str (ba [41]), false)] σ = some (.ret [], σ')) :
  rterml1 (lim C) N (m + 1) r n n t0 t1 t2 t3 t4 o0 o1 o2 o3 o4 σ = some (.ret [(.agg [.int .i64 o0, .int .i64 o1, o2, .slice 3 74 o3, .slice 5 29 o4], false)], σ') := by
 show rterms1 (lim C) (rterml1 (lim C) N m) r n n t0 t1 t2 t3 t4 o0 o1 o2 o3 o4 σ = _
 unfold rterms1
 have e : decide (n < n) = false := by simp
 have e41 : ByteArray.mk #[41] = ba [41] := rfl
 simp only [e, cond_false, e41, callK_ret0 h]
theorem rargs_go {t0 t1 : Int} {t2 : ByteArray} {t3 t4 : List (List V)} {o0 o1 : Int} {o2 : V} {o3 o4 : List (List V)} {m : Nat} {n i : Int} {x : Tm} (hlt : i < n)
  (h : lim C 33 [(.ptr 69 r 0, false)] σ = some (.ret [(x.val, false)], σ')) (hr : room (o4.length + 1) = true) :
  rterml1 (lim C) N (m + 1) r n i t0 t1 t2 t3 t4 o0 o1 o2 o3 o4 σ = rterml1 (lim C) N m r n (IntKind.wrap .i64 (i + 1)) t0 t1 t2 t3 t4 o0 o1 o2 o3 (o4 ++ [x.enc]) σ' := by
 show rterms1 (lim C) (rterml1 (lim C) N m) r n i t0 t1 t2 t3 t4 o0 o1 o2 o3 o4 σ = _
 unfold rterms1
 simp only [decide_eq_true hlt, cond_true, callK_ret1 h, List.getD_cons_zero, tm_fits, tm_cell, grd, Bool.and_self, Option.bind_some, hr]
end
theorem rlvs_run {N : Nat} (hN : 0 < N) {r : Nat} {s : ByteArray} (hs : s.size ≤ 20000) {t0 t1 : Int} {t2 : ByteArray} {t3 t4 : List (List V)} {o0 o1 : Int} {o2 : V} :
  ∀ (m : Nat) (ls : List Lv) (st : RS) (σ : Sto), σ[r]? = some (st.cells s) → st.p ≤ s.size → ((st.c ≠ 0 ∧ 0 < m) ∨ (ls.length + (s.size - st.p) ≤ 20000 ∧ s.size - st.p + 1 < m)) →
   rterml2 (lim C) N m r 0 t0 t1 t2 t3 t4 o0 o1 o2 (ls.map Lv.enc) [] σ =
    some (.ret [(.agg [.int .i64 o0, .int .i64 o1, o2, .slice 3 74 ((ls ++ (rlvsV m s st).1).map Lv.enc), .slice 5 29 []], false)], σ.set r ((rtakeV s (rlvsV m s st).2 (ba [41])).cells s))
 | 0, _, _, _, _, _, hm => by omega
 | m + 1, ls, st, σ, h, hp, hm => by
  have hs' : s.size < 2 ^ 61 := by omega
  show rterms2 (lim C) (rterml1 (lim C) N N) (rterml2 (lim C) N m) r 0 t0 t1 t2 t3 t4 o0 o1 o2 (ls.map Lv.enc) [] σ = _
  unfold rterms2
  have ht := rtake_law h hs' hp (ba [41])
  have hend : rterml1 (lim C) N N r 0 (0 : Int) t0 t1 t2 t3 t4 o0 o1 o2 (ls.map Lv.enc) [] σ = some (.ret [(.agg [.int .i64 o0, .int .i64 o1, o2, .slice 3 74 (ls.map Lv.enc), .slice 5 29 []], false)], σ.set r ((rtakeV s st (ba [41])).cells s)) := by
   obtain ⟨k, rfl⟩ : ∃ k, N = k + 1 := ⟨N - 1, by omega⟩
   exact rargs_end ht
  simp only [rd2 h, Option.bind_some, V.asInt, if_true]
  by_cases hc : st.c = 0
  case neg =>
   have h1 : (st.c == 0) = false := by simpa using hc
   rw [rlvs_stuck hc]
   simp only [h1, cond_false, hend, List.append_nil]
  have hpk := rpeek_law h hs' hp
  obtain ⟨hb, hm⟩ : ls.length + (s.size - st.p) ≤ 20000 ∧ s.size - st.p + 1 < m + 1 := by
   rcases hm with hm | hm
   ·exact absurd hc hm.1
   ·exact hm
  have h1 : (st.c == 0) = true := by simpa using hc
  have h2 : (st.c != 0) = false := by simp [hc]
  simp only [h1, cond_true, callK_ret1 hpk, List.getD_cons_zero, V.asStr, Option.bind_some, peek_close hp hc, rlvsV, h2, cond_false]
  cases h3 : strIs (tokV s st.p).t [41]
  case true => simp only [Bool.not_true, cond_false, hend, cond_true, List.append_nil]
  have hx := rlevel_law hs' (s.size + 1) st σ h hp (.inr (by omega)) (by omega)
  have hgo := rlevel_goes (s := s) (st := st) hp
  have htk := rlevel_took s (s.size + 1) st hp (.inr (by omega))
  have hroom : room (List.length (ls.map Lv.enc) + 1) = true := room_ok (by simp; omega)
  have hg : (σ.set r ((rlevelV (s.size + 1) s st).2.cells s))[r]? = some ((rlevelV (s.size + 1) s st).2.cells s) := set_get h
  simp only [Bool.not_false, cond_true, callK_ret1 hx, List.getD_cons_zero, fits_lv, cell_lv, grd, Bool.and_self, Option.bind_some, hroom, cond_false]
  have em : List.map Lv.enc ls ++ [(rlevelV (s.size + 1) s st).1.enc] = List.map Lv.enc (ls ++ [(rlevelV (s.size + 1) s st).1]) := by simp
  rw [em]
  have ih := rlvs_run hN hs (t0 := t0) (t1 := t1) (t2 := t2) (t3 := t3) (t4 := t4) (o0 := o0) (o1 := o1) (o2 := o2) m (ls ++ [(rlevelV (s.size + 1) s st).1]) _ _ hg hgo.le (by
   by_cases hz : (rlevelV (s.size + 1) s st).2.c = 0
   ·have hlt := (hgo.ok hz).2
    have hle := hgo.le
    right
    refine ⟨?_, ?_⟩
    ·rw [List.length_append]; simp only [List.length_cons, List.length_nil]; omega
    ·omega
   ·exact .inl ⟨hz, by omega⟩)
  rw [ih, set_setN]
  simp
end Go.Ab.Mk
end
section
namespace Go.Ab.Mk
open Go.Proofs Go.Ab
def words7 : List ByteArray := ByteArray.mk #[] :: words6
def strIs' (a b : ByteArray) : Bool := a.toList == b.toList
theorem rwords_step {N m r : Nat} {w : ByteArray} {wat : V} {k : Int} {i : Nat} (hi : i < 7) {t0 t1 : Int} {t2 : ByteArray} {t3 t4 : List (List V)} {σ : Sto} :
  rterml0 (lim C) N (m + 1) r (.str w) wat k i t0 t1 t2 t3 t4 σ = rterml0 (lim C) N m r (.str w) wat (bif strIs' (words7.getD i (ByteArray.mk #[])) w then (i : Int) else k) ((i + 1 : Nat) : Int) t0 t1 t2 t3 t4 σ := by
 show rterms0 (lim C) (rterml1 (lim C) N N) (rterml2 (lim C) N N) (rterml0 (lim C) N m) r (.str w) wat k i t0 t1 t2 t3 t4 σ = _
 unfold rterms0
 have e : V.asSlice (V.slice 1 9 [[V.str (ByteArray.mk #[])], [V.str (ByteArray.mk #[115, 111, 114, 116])], [V.str (ByteArray.mk #[99, 111, 110, 115, 116])], [V.str (ByteArray.mk #[97, 112, 112])], [V.str (ByteArray.mk #[108, 97, 109])], [V.str (ByteArray.mk #[112, 105])], [V.str (ByteArray.mk #[108, 101, 116])]]) 1 9 = some (strs words7) := rfl
 have hl : (strs words7).length = 7 := rfl
 have hi' : i < words7.length := hi
 have hs : (strs words7).getD (Int.toNat (i : Int)) [] = [V.str words7[i]] := by rw [Int.toNat_natCast]; exact strs_get hi'
 have hw : words7.getD i (ByteArray.mk #[]) = words7[i] := by rw [List.getD_eq_getElem?_getD, List.getElem?_eq_getElem hi']; rfl
 have hd : decide ((i : Int) < ((7 : Nat) : Int)) = true := by simp; omega
 simp only [e, Option.bind_some, hl, hd, cond_true, d0, Bool.and_self, grd, hs, List.getD_cons_zero, V.asStr, wrap_succ (show i < 2 ^ 61 by omega), hw, strIs']
 cases words7[i].toList == w.toList <;> rfl
theorem strIs'_ba (l : List UInt8) (w : ByteArray) : strIs' (ba l) w = strIs w l := by
 unfold strIs' strIs
 rw [Bool.eq_iff_iff, beq_iff_eq, beq_iff_eq]; exact eq_comm
theorem rwords_run {N m r : Nat} {w : ByteArray} {wat : V} {t0 t1 : Int} {t2 : ByteArray} {t3 t4 : List (List V)} {σ : Sto} :
  rterml0 (lim C) N (m + 7) r (.str w) wat 0 1 t0 t1 t2 t3 t4 σ = rterms0 (lim C) (rterml1 (lim C) N N) (rterml2 (lim C) N N) (rterml0 (lim C) N m) r (.str w) wat (wordIx w) ((7 : Nat) : Int) t0 t1 t2 t3 t4 σ := by
 show rterml0 (lim C) N (m + 1 + 1 + 1 + 1 + 1 + 1 + 1) r (.str w) wat 0 ((1 : Nat) : Int) t0 t1 t2 t3 t4 σ = _
 rw [rwords_step (by omega), rwords_step (by omega), rwords_step (by omega), rwords_step (by omega), rwords_step (by omega), rwords_step (by omega)]
 have e1 : words7.getD 1 (ByteArray.mk #[]) = ba wsort := rfl
 have e2 : words7.getD (1 + 1) (ByteArray.mk #[]) = ba wconst := rfl
 have e3 : words7.getD (1 + 1 + 1) (ByteArray.mk #[]) = ba wapp := rfl
 have e4 : words7.getD (1 + 1 + 1 + 1) (ByteArray.mk #[]) = ba wlam := rfl
 have e5 : words7.getD (1 + 1 + 1 + 1 + 1) (ByteArray.mk #[]) = ba wpi := rfl
 have e6 : words7.getD (1 + 1 + 1 + 1 + 1 + 1) (ByteArray.mk #[]) = ba wlet := rfl
 simp only [e1, e2, e3, e4, e5, e6, strIs'_ba]
 have hk : (bif strIs w wlet then (((1 + 1 + 1 + 1 + 1 + 1 : Nat)) : Int) else bif strIs w wpi then ((1 + 1 + 1 + 1 + 1 : Nat) : Int) else bif strIs w wlam then ((1 + 1 + 1 + 1 : Nat) : Int) else bif strIs w wapp then ((1 + 1 + 1 : Nat) : Int) else bif strIs w wconst then ((1 + 1 : Nat) : Int) else bif strIs w wsort then ((1 : Nat) : Int) else 0) = (wordIx w : Int) := by
  rcases word_cases w with ⟨h0, h1, h2, h3, h4, h5, h6⟩ | ⟨h0, h1, h2, h3, h4, h5, h6⟩ | ⟨h0, h1, h2, h3, h4, h5, h6⟩ | ⟨h0, h1, h2, h3, h4, h5, h6⟩ | ⟨h0, h1, h2, h3, h4, h5, h6⟩ | ⟨h0, h1, h2, h3, h4, h5, h6⟩ | ⟨h0, h1, h2, h3, h4, h5, h6⟩ <;> simp [h0, h1, h2, h3, h4, h5, h6]
 rw [hk]
 rfl
theorem rparts_run {N r : Nat} {s : ByteArray} (hs : s.size ≤ 20000) (hN : N = s.size + 10) {n : Nat} {m : Nat} {w : ByteArray} {wat : Nat} {k : Nat} (hk6 : k ≤ 6) {t0 t1 : Int} {t2 : ByteArray} {t3 t4 : List (List V)} {st : RS} {σ : Sto}
  (h : σ[r]? = some (st.cells s)) (hp : st.p ≤ s.size) (hn2 : ∀ st', Goes s st st' → st'.c ≠ 0 ∨ s.size - st'.p < n)
  (rec : ∀ (st' : RS) (σ' : Sto), σ'[r]? = some (st'.cells s) → st'.p ≤ s.size → (st'.c ≠ 0 ∨ s.size - st'.p < n) → lim C 33 [(.ptr 69 r 0, false)] σ' = some (.ret [((rtermV n s st').1.val, false)], σ'.set r ((rtermV n s st').2.cells s))) :
  rterms0 (lim C) (rterml1 (lim C) N N) (rterml2 (lim C) N N) (rterml0 (lim C) N m) r (.str w) (.int .i64 wat) k ((7 : Nat) : Int) t0 t1 t2 t3 t4 σ =
   bif k == 0 then some (.ret [((Tm.var 0).val, false)], σ.set r ((rfailV st wat).cells s)) else
    some (.ret [((tmB (rtermV n s) s k (rnextV s st).2).1.val, false)], σ.set r ((tmB (rtermV n s) s k (rnextV s st).2).2.cells s)) := by
 have hs' : s.size < 2 ^ 61 := by omega
 unfold rterms0
 have e : V.asSlice (V.slice 1 9 [[V.str (ByteArray.mk #[])], [V.str (ByteArray.mk #[115, 111, 114, 116])], [V.str (ByteArray.mk #[99, 111, 110, 115, 116])], [V.str (ByteArray.mk #[97, 112, 112])], [V.str (ByteArray.mk #[108, 97, 109])], [V.str (ByteArray.mk #[112, 105])], [V.str (ByteArray.mk #[108, 101, 116])]]) 1 9 = some (strs words7) := rfl
 have hl : (strs words7).length = 7 := rfl
 have hd : decide (((7 : Nat) : Int) < ((7 : Nat) : Int)) = false := by simp
 have hf := rfail_law h wat
 have hnx := rnext_law h hs' hp
 have g1 := rnext_goes (s := s) (st := st) hp
 have hg1 : (σ.set r ((rnextV s st).2.cells s))[r]? = some ((rnextV s st).2.cells s) := set_get h
 simp only [e, Option.bind_some, hl, hd, cond_false, callK_ret0 hf, callK_ret1 hnx]
 generalize (rnextV s st).2 = st2 at g1 hg1 ⊢
 have r1 : room (0 + 1) = true := by decide
 obtain ⟨N', rfl⟩ : ∃ N', N = N' + 5 := ⟨N - 5, by omega⟩
 have two : ∀ (f : Tm → Tm → Tm) (o0 : Int), (∀ a b, (f a b).val = .agg [.int .i64 o0, .int .i64 0, .str (ByteArray.mk #[]), .slice 3 74 [], .slice 5 29 [a.enc, b.enc]]) →
   rterml1 (lim C) (N' + 5) (N' + 5) r 2 0 t0 t1 t2 t3 t4 o0 0 (.str (ByteArray.mk #[])) [] [] (σ.set r (st2.cells s)) =
    some (.ret [((tm2 (rtermV n s) s f st2).1.val, false)], σ.set r ((tm2 (rtermV n s) s f st2).2.cells s)) := by
  intro f o0 hf
  have ha := rec _ _ hg1 g1.le (hn2 _ g1)
  rw [set_setN] at ha
  have ga : Goes s st (rtermV n s st2).2 := g1.trans (rterm_goes s n st2 g1.le (hn2 _ g1)).gone
  have hga : (σ.set r ((rtermV n s st2).2.cells s))[r]? = some ((rtermV n s st2).2.cells s) := set_get h
  have hb := rec _ _ hga ga.le (hn2 _ ga)
  rw [set_setN] at hb
  have gb : Goes s st (rtermV n s (rtermV n s st2).2).2 := ga.trans (rterm_goes s n _ ga.le (hn2 _ ga)).gone
  have hgb : (σ.set r ((rtermV n s (rtermV n s st2).2).2.cells s))[r]? = some ((rtermV n s (rtermV n s st2).2).2.cells s) := set_get h
  have ht := rtake_law hgb hs' gb.le (ba [41])
  rw [set_setN] at ht
  have w1 : IntKind.wrap .i64 ((0 : Int) + 1) = 1 := by decide
  have w2 : IntKind.wrap .i64 ((1 : Int) + 1) = 2 := by decide
  show rterml1 (lim C) (N' + 5) (N' + 2 + 1 + 1 + 1) r 2 0 t0 t1 t2 t3 t4 o0 0 (.str (ByteArray.mk #[])) [] [] (σ.set r (st2.cells s)) = _
  rw [rargs_go (by omega) ha (room_ok (by simp)), w1, rargs_go (by omega) hb (room_ok (by simp)), w2, rargs_end ht]
  simp only [tm2, hf]
  rfl
 have three : ∀ (f : Tm → Tm → Tm → Tm) (o0 : Int), (∀ a b c, (f a b c).val = .agg [.int .i64 o0, .int .i64 0, .str (ByteArray.mk #[]), .slice 3 74 [], .slice 5 29 [a.enc, b.enc, c.enc]]) →
   rterml1 (lim C) (N' + 5) (N' + 5) r 3 0 t0 t1 t2 t3 t4 o0 0 (.str (ByteArray.mk #[])) [] [] (σ.set r (st2.cells s)) =
    some (.ret [((tm3 (rtermV n s) s f st2).1.val, false)], σ.set r ((tm3 (rtermV n s) s f st2).2.cells s)) := by
  intro f o0 hf
  have ha := rec _ _ hg1 g1.le (hn2 _ g1)
  rw [set_setN] at ha
  have ga : Goes s st (rtermV n s st2).2 := g1.trans (rterm_goes s n st2 g1.le (hn2 _ g1)).gone
  have hga : (σ.set r ((rtermV n s st2).2.cells s))[r]? = some ((rtermV n s st2).2.cells s) := set_get h
  have hb := rec _ _ hga ga.le (hn2 _ ga)
  rw [set_setN] at hb
  have gb : Goes s st (rtermV n s (rtermV n s st2).2).2 := ga.trans (rterm_goes s n _ ga.le (hn2 _ ga)).gone
  have hgb : (σ.set r ((rtermV n s (rtermV n s st2).2).2.cells s))[r]? = some ((rtermV n s (rtermV n s st2).2).2.cells s) := set_get h
  have hc := rec _ _ hgb gb.le (hn2 _ gb)
  rw [set_setN] at hc
  have gc : Goes s st (rtermV n s (rtermV n s (rtermV n s st2).2).2).2 := gb.trans (rterm_goes s n _ gb.le (hn2 _ gb)).gone
  have hgc : (σ.set r ((rtermV n s (rtermV n s (rtermV n s st2).2).2).2.cells s))[r]? = some ((rtermV n s (rtermV n s (rtermV n s st2).2).2).2.cells s) := set_get h
  have ht := rtake_law hgc hs' gc.le (ba [41])
  rw [set_setN] at ht
  have w1 : IntKind.wrap .i64 ((0 : Int) + 1) = 1 := by decide
  have w2 : IntKind.wrap .i64 ((1 : Int) + 1) = 2 := by decide
  have w3 : IntKind.wrap .i64 ((2 : Int) + 1) = 3 := by decide
  show rterml1 (lim C) (N' + 5) (N' + 1 + 1 + 1 + 1 + 1) r 3 0 t0 t1 t2 t3 t4 o0 0 (.str (ByteArray.mk #[])) [] [] (σ.set r (st2.cells s)) = _
  rw [rargs_go (by omega) ha (room_ok (by simp)), w1, rargs_go (by omega) hb (room_ok (by simp)), w2, rargs_go (by omega) hc (room_ok (by simp)), w3, rargs_end ht]
  simp only [tm3, hf]
  rfl
 match k, hk6 with
 | 0, _ => rfl
 | 1, _ =>
  have hx := rlevel_law hs' (s.size + 1) st2 _ hg1 g1.le (.inr (by omega)) (by omega)
  rw [set_setN] at hx
  have gx := g1.trans (rlevel_goes g1.le).gone
  have hgx : (σ.set r ((rlevelV (s.size + 1) s st2).2.cells s))[r]? = some ((rlevelV (s.size + 1) s st2).2.cells s) := set_get h
  have ht := rtake_law hgx hs' gx.le (ba [41])
  rw [set_setN] at ht
  have e1 : (((1 : Nat) : Int) == 0) = false := rfl
  have e2 : (((1 : Nat) : Int) == 1) = true := rfl
  have e3 : ((1 : Nat) == 0) = false := rfl
  simp only [e1, e2, e3, cond_false, cond_true, callK_ret1 hx, List.getD_cons_zero, fits_lv, cell_lv, grd, Bool.and_self, Option.bind_some, r1]
  rw [rargs_end ht]
  rfl
 | 2, _ =>
  have hx := rname_law hg1 hs' g1.le
  rw [set_setN] at hx
  have gx := g1.trans (rname_goes g1.le).gone
  have hgx : (σ.set r ((rnameV s st2).2.cells s))[r]? = some ((rnameV s st2).2.cells s) := set_get h
  have e1 : (((2 : Nat) : Int) == 0) = false := rfl
  have e2 : (((2 : Nat) : Int) == 1) = false := rfl
  have e3 : ((2 : Nat) == 0) = false := rfl
  have e4 : (((2 : Nat) : Int) == 2) = true := rfl
  have ef : ∀ b : ByteArray, V.fits (.str b) false 1 = true := fun _ => rfl
  simp only [e1, e2, e3, e4, cond_false, cond_true, callK_ret1 hx, List.getD_cons_zero, ef, grd, Option.bind_some]
  have hr := rlvs_run (N := N' + 5) (by omega) hs (t0 := t0) (t1 := t1) (t2 := t2) (t3 := t3) (t4 := t4) (o0 := ((2 : Nat) : Int)) (o1 := 0) (o2 := .str (rnameV s st2).1) (N' + 5) [] _ _ hgx gx.le (.inr ⟨by have := gx.le; simp; omega, by omega⟩)
  rw [set_setN] at hr
  simp only [List.map_nil, List.nil_append] at hr
  rw [hr, hN]
  rfl
 | 3, _ => exact two .app 3 (fun _ _ => rfl)
 | 4, _ => exact two .lam 4 (fun _ _ => rfl)
 | 5, _ => exact two .pi 5 (fun _ _ => rfl)
 | 6, _ => exact three .letin 6 (fun _ _ _ => rfl)
theorem rterm_law {r : Nat} {s : ByteArray} (hs : s.size ≤ 20000) : ∀ (n : Nat) (st : RS) (σ : Sto), σ[r]? = some (st.cells s) → st.p ≤ s.size → (st.c ≠ 0 ∨ s.size - st.p < n) →
  lim C 33 [(.ptr 69 r 0, false)] σ = some (.ret [((rtermV n s st).1.val, false)], σ.set r ((rtermV n s st).2.cells s))
 | n, st, σ, h, hp, hn => rterm_lim (n := s.size + 10) <| by
  have hs' : s.size < 2 ^ 61 := by omega
  have ht := token_law h hs' hp
  simp only [rterm, rtermF, callK_ret3 ht rfl, tok0, tok1, tok2, rd2 h, V.asInt, if_true, Option.bind_some]
  by_cases hc : st.c = 0
  case neg =>
   have h2 : (st.c != 0) = true := by simpa using hc
   rw [rterm_stuck hc]
   simp only [h2, cond_true, rset_same h]
   rfl
  obtain ⟨n, rfl⟩ : ∃ k, n = k + 1 := ⟨n - 1, by rcases hn with hn | hn; exact absurd hc hn; omega⟩
  have g1 := rnext_goes (s := s) (st := st) hp
  have hc' : (st.c != 0) = false := by simp [hc]
  have hf := rfail_law h (tokV s st.p).at_
  have hnx := rnext_law h hs' hp
  have e40 : ∀ t : ByteArray, (t.toList == (ByteArray.mk #[40]).toList) = strIs t [40] := fun _ => rfl
  have e0 : ∀ t : ByteArray, (t.toList == (ByteArray.mk #[]).toList) = isNo t := fun _ => rfl
  have e35 : ∀ x : Int, (x != 35) = !(x == 35) := fun _ => rfl
  have hg1 : (σ.set r ((rnextV s st).2.cells s))[r]? = some ((rnextV s st).2.cells s) := set_get h
  have ht2 := token_law hg1 hs' g1.le
  have hn2 : ∀ st', Goes s (rnextV s st).2 st' → st'.c ≠ 0 ∨ s.size - st'.p < n := by
   intro st' h'
   have h := g1.trans h'.gone
   by_cases hz : st'.c = 0
   ·have := (h.ok hz).2
    have := h.le
    rcases hn with hn | hn
    ·exact absurd hc hn
    ·right; omega
   ·exact .inl hz
  have hw := rwords_run (N := s.size + 10) (m := s.size + 3) (r := r) (w := (tokV s (rnextV s st).2.p).t) (wat := .int .i64 (tokV s (rnextV s st).2.p).at_) (t0 := 0) (t1 := 0) (t2 := ByteArray.mk #[]) (t3 := []) (t4 := []) (σ := σ.set r ((rnextV s st).2.cells s))
  have hq := rparts_run (r := r) hs (N := s.size + 10) rfl (n := n) (m := s.size + 3) (w := (tokV s (rnextV s st).2.p).t) (wat := (tokV s (rnextV s st).2.p).at_) (k := wordIx (tokV s (rnextV s st).2.p).t) (wordIx_le _) (t0 := 0) (t1 := 0) (t2 := ByteArray.mk #[]) (t3 := []) (t4 := []) hg1 g1.le hn2
   (fun st' σ' k1 k2 k3 => rterm_law hs n st' σ' k1 k2 k3)
  rw [hq, set_setN, set_setN] at hw
  simp only [hc', cond_false, V.asBool, V.asStr, Option.bind_some, callK_ret0 hf, callK_ret1 hnx, e40, e0, e35, callK_ret3 ht2 rfl, tok0, tok1]
  have hw' : rterml0 (lim C) (s.size + 10) (s.size + 10) r (.str (tokV s (rnextV s st).2.p).t) (.int .i64 (tokV s (rnextV s st).2.p).at_) 0 1 0 0 (ByteArray.mk #[]) [] [] (σ.set r ((rnextV s st).2.cells s)) = _ := hw
  rw [hw']
  simp only [rtermV, hc', cond_false, badTok, tmP]
  clear hw hw' hq
  cases hok : (tokV s st.p).ok
  case false => rfl
  cases hno : isNo (tokV s st.p).t
  case true => rfl
  have hz := isNo_size hno
  have hz' : decide ((0 : Int) < ((tokV s st.p).t.size : Int)) = true := by simp; omega
  have hz2 : decide ((1 : Int) ≤ ((tokV s st.p).t.size : Int)) = true := by simp; omega
  simp only [Bool.not_true, cond_false, Int.le_refl, decide_true, Bool.true_and, hz', grd, cond_true, Option.bind_some, Int.toNat_zero, Bool.false_or]
  cases h40 : strIs (tokV s st.p).t [40]
  case true =>
   simp only [Bool.not_true, cond_false, Bool.and_false, cond_true]
   cases (byteAt (tokV s st.p).t 0 == 35) <;> simp only [Bool.not_true, Bool.not_false, cond_true, cond_false] <;> cases (wordIx (tokV s (rnextV s st).2.p).t == 0) <;> rfl
  cases h35 : byteAt (tokV s st.p).t 0 == 35
  case false => rfl
  have hdg := tok_num hp hok hno (by simpa using h35)
  have hnum := number_law hdg (σ.set r ((rnextV s st).2.cells s))
  have e01 : decide ((0 : Int) ≤ 1) = true := by decide
  have f1 : ∀ x : Int, V.fits (.int .i64 x) false 1 = true := fun _ => rfl
  have t1 : Int.toNat 1 = 1 := rfl
  simp only [Bool.not_true, Bool.not_false, cond_false, cond_true, hz2, e01, t1, Bool.and_self, Bool.and_true, Int.toNat_natCast, callK_ret1 hnum, List.getD_cons_zero, f1, Option.bind_some, Bool.false_and]
  rfl
end Go.Ab.Mk
end
section
set_option maxRecDepth 100000
namespace Go.Ab.Ma
open Go.Proofs Go.Ab
open List (getD)
open IntKind (wrap)
noncomputable def lift1F (call : CallF) (b a : Int) (c : ByteArray) (d e : LL) (f : Int) (g h : Nat) (σ : Sto) : Option Res :=
 (memGet σ (V.ptr 3 g 0) false 1).bind fun m1 =>
 (V.asInt m1 .i64).bind fun i2 =>
 bif (decide (a ≥ (wrap .i64 (i2 + f)))) then
 (memGet σ (V.ptr 3 h 0) false 1).bind fun m3 =>
 (V.asInt m3 .i64).bind fun i4 =>
 some (.ret [(V.agg [V.int .i64 b, V.int .i64 (wrap .i64 (a + i4)), V.str c, V.slice 3 74 d, V.slice 5 29 e], false)], σ)
 else
 some (.ret [(V.agg [V.int .i64 b, V.int .i64 a, V.str c, V.slice 3 74 d, V.slice 5 29 e], false)], σ)
noncomputable def lift1 (call : CallF) (n : Nat) (a b : Int) (c : ByteArray) (d e : LL) (f : Int) (g h : Nat) (σ : Sto) : Option Res := lift1F call a b c d e f g h σ
theorem lift1_eqF (call : CallF) (n : Nat) (a b : Int) (c : ByteArray) (d e : LL) (f : Int) (g h : Nat) (σ : Sto) : afun C lift1D call n [(V.agg [V.int .i64 a, V.int .i64 b, V.str c, V.slice 3 74 d, V.slice 5 29 e], false), (V.int .i64 f, false), (V.ptr 3 g 0, false), (V.ptr 3 h 0, false)] σ =
  lift1F call a b c d e f g h σ := by kernel_rfl
theorem lift1_eq (call : CallF) (n : Nat) (a b : Int) (c : ByteArray) (d e : LL) (f : Int) (g h : Nat) (σ : Sto) : afun C lift1D call n [(V.agg [V.int .i64 a, V.int .i64 b, V.str c, V.slice 3 74 d, V.slice 5 29 e], false), (V.int .i64 f, false), (V.ptr 3 g 0, false), (V.ptr 3 h 0, false)] σ = lift1 call n a b c d e f g h σ := lift1_eqF call n a b c d e f g h σ
theorem lift1_lim {n : Nat} {a : Int} {b : Int} {c : ByteArray} {e : LL} {f : LL} {g : Int} {i : Nat} {j : Nat} {b0 b1 b2 b3 : Bool} {σ : Sto} {r : Res} (h : lift1 (lim C) n a b c e f g i j σ = some r) : lim C 23 [(V.agg [V.int .i64 a, V.int .i64 b, V.str c, V.slice 3 74 e, V.slice 5 29 f], b0), (V.int .i64 g, b1), (V.ptr 3 i 0, b2), (V.ptr 3 j 0, b3)] σ = some r :=
 lim_of (d := lift1D) (by kernel_rfl) (by kernel_rfl) n (show afun C lift1D (lim C) n [(V.agg [V.int .i64 a, V.int .i64 b, V.str c, V.slice 3 74 e, V.slice 5 29 f], false), (V.int .i64 g, false), (V.ptr 3 i 0, false), (V.ptr 3 j 0, false)] σ = some r from (lift1_eq (lim C) n a b c e f g i j σ).trans h)
end Go.Ab.Ma
end
