/- Without fuel: what a call comes to at any depth of fuel, as one function; a function's run over it is met at some depth. -/
import Derived.Test.YtcpdcpgblcapeaaDoorAbGen
set_option linter.unusedSimpArgs false
set_option linter.unusedVariables false
set_option linter.deprecated false
namespace Go.Ab

/-- What the limit says, the family says from some place on. -/
def Conv {α : Type} (x : Nat → Option α) (l : Option α) : Prop := ∀ r, l = some r → ∃ k, ∀ j, k ≤ j → x j = some r

theorem Conv.none {α : Type} (x : Nat → Option α) : Conv x none := fun r h => by simp at h
theorem Conv.const {α : Type} (l : Option α) : Conv (fun _ => l) l := fun r h => ⟨0, fun _ _ => h⟩
theorem Conv.bindC {α β : Type} (o : Option α) {g : Nat → α → Option β} {f : α → Option β} (h : ∀ a, Conv (fun k => g k a) (f a)) : Conv (fun k => o.bind (g k)) (o.bind f) := by
  cases o with
  | none => exact Conv.none _
  | some a => exact h a
theorem Conv.bind {α β : Type} {o : Nat → Option α} {ol : Option α} {g : Nat → α → Option β} {f : α → Option β} (ho : Conv o ol) (h : ∀ a, Conv (fun k => g k a) (f a)) : Conv (fun k => (o k).bind (g k)) (ol.bind f) := by
  intro r hr
  cases hol : ol with
  | none => simp [hol] at hr
  | some a =>
    rw [hol] at hr
    obtain ⟨k1, h1⟩ := ho a hol
    obtain ⟨k2, h2⟩ := h a r hr
    exact ⟨max k1 k2, fun j hj => by show (o j).bind (g j) = _; rw [h1 j (by omega)]; exact h2 j (by omega)⟩
theorem Conv.ite {α : Type} (p : Prop) [Decidable p] {a b : Nat → Option α} {al bl : Option α} (ha : Conv a al) (hb : Conv b bl) : Conv (fun k => if p then a k else b k) (if p then al else bl) := by
  by_cases hp : p
  · simp only [if_pos hp]; exact ha
  · simp only [if_neg hp]; exact hb
theorem Conv.cond {α : Type} (p : Bool) {a b : Nat → Option α} {al bl : Option α} (ha : Conv a al) (hb : Conv b bl) : Conv (fun k => bif p then a k else b k) (bif p then al else bl) := by
  cases p
  · exact hb
  · exact ha

section
variable {C : Ctx} {H : Hints} {ck : Nat → CallF} {cl : CallF}

theorem apply_conv (hc : ∀ f a σ, Conv (fun k => ck k f a σ) (cl f a σ)) (dst : Option Nat) (st : St) {Ks : Nat → Out → Option Res} {Kl : Out → Option Res} (hK : ∀ o, Conv (fun k => Ks k o) (Kl o)) (e : Eff) :
    Conv (fun k => apply H (ck k) dst st (Ks k) e) (apply H cl dst st Kl e) := by
  cases e with
  | val x => exact hK _
  | getL r o n agg steal =>
    simp only [apply]
    refine Conv.ite _ ?_ ?_
    · exact Conv.ite _ (Conv.ite _ (hK _) (Conv.none _)) (Conv.none _)
    · exact Conv.bindC _ fun v => hK _
  | setL r o cs => exact Conv.ite _ (hK _) (Conv.none _)
  | newL cs =>
    cases dst with
    | none => exact Conv.none _
    | some d => exact Conv.ite _ (hK _) (Conv.none _)
  | getS p n agg => exact Conv.bindC _ fun v => hK _
  | takeS p => exact Conv.bindC _ fun v => hK _
  | setS p cs => exact Conv.bindC _ fun v => hK _
  | newS t cs =>
    cases dst with
    | none => exact Conv.none _
    | some d => exact hK _
  | tupTake r i =>
    simp only [apply]
    split
    · split
      · exact hK _
      · exact Conv.none _
    · exact Conv.none _
  | call f args n =>
    intro r hr
    simp only [apply] at hr ⊢
    split at hr
    · simp at hr
    · rename_i r1 hr1
      obtain ⟨k1, h1⟩ := hc f args st.sto r1 hr1
      have hrest : Conv (fun k => match r1.1 with
          | .ret vs => if vs.length = n then (grd (toksOk H dst n vs)).bind fun _ => Ks k (.next ({ st with sto := r1.2 }.put dst (resV H dst n vs))) else none
          | .pan v => Ks k (.pan v { st with sto := r1.2 })) (match r1.1 with
          | .ret vs => if vs.length = n then (grd (toksOk H dst n vs)).bind fun _ => Kl (.next ({ st with sto := r1.2 }.put dst (resV H dst n vs))) else none
          | .pan v => Kl (.pan v { st with sto := r1.2 })) := by
        split
        · exact Conv.ite _ (Conv.bindC _ fun _ => hK _) (Conv.none _)
        · exact hK _
      obtain ⟨k2, h2⟩ := hrest r hr
      refine ⟨max k1 k2, fun j hj => ?_⟩
      have h3 : ck j f args st.sto = some r1 := h1 j (by omega)
      rw [h3]
      exact h2 j (by omega)
  | pan v => exact hK _

theorem aop_conv (hc : ∀ f a σ, Conv (fun k => ck k f a σ) (cl f a σ)) (o : Oper) (st : St) {Ks : Nat → Out → Option Res} {Kl : Out → Option Res} (hK : ∀ o, Conv (fun k => Ks k o) (Kl o)) :
    Conv (fun k => aop C H (ck k) o st (Ks k)) (aop C H cl o st Kl) := by
  simp only [aop, actK_eq]
  exact Conv.bindC _ fun e => apply_conv hc _ _ hK e

theorem aops_conv (hc : ∀ f a σ, Conv (fun k => ck k f a σ) (cl f a σ)) (dr : Option (List (List Nat))) (ops : Array Oper) :
    ∀ (l : List Nat) (st : St) {Ks : Nat → Out → Option Res} {Kl : Out → Option Res} (_ : ∀ o, Conv (fun k => Ks k o) (Kl o)), Conv (fun k => aops C H (ck k) dr ops l st (Ks k)) (aops C H cl dr ops l st Kl)
  | [], st, Ks, Kl, hK => hK _
  | i :: rest, st, Ks, Kl, hK => by
    have step : ∀ (o : Oper) (st : St), Conv (fun k => aop C H (ck k) o st fun out => match out with | .next st => aops C H (ck k) dr ops rest st (Ks k) | .pan v st => (grd (panOk dr i rest)).bind fun _ => Ks k (.pan v st))
        (aop C H cl o st fun out => match out with | .next st => aops C H cl dr ops rest st Kl | .pan v st => (grd (panOk dr i rest)).bind fun _ => Kl (.pan v st)) := by
      intro o st
      refine aop_conv hc o st fun out => ?_
      cases out with
      | next st => exact aops_conv hc dr ops rest st hK
      | pan v st => exact Conv.bindC _ fun _ => hK _
    simp only [aops]
    split
    · exact Conv.none _
    · refine Conv.bindC _ fun _ => ?_
      split
      · exact step _ _
      · split
        · exact Conv.none _
        · split
          · refine Conv.bindC _ fun b => Conv.cond _ ?_ ?_
            · exact Conv.ite _ (step _ _) (aops_conv hc dr ops rest _ hK)
            · exact Conv.ite _ (aops_conv hc dr ops rest _ hK) (step _ _)
          · exact aops_conv hc dr ops rest _ hK
          · exact Conv.none _

theorem aloop_conv {body : Nat → St → (Ex → St → Option Res) → Option Res} {bodyl : St → (Ex → St → Option Res) → Option Res} (keep : List Nat)
    (hb : ∀ st (Ks : Nat → Ex → St → Option Res) (Kl : Ex → St → Option Res), (∀ ex st, Conv (fun k => Ks k ex st) (Kl ex st)) → Conv (fun k => body k st (Ks k)) (bodyl st Kl)) :
    ∀ (n : Nat) (ns : Nat → Nat) (_ : ∃ k0, ∀ k, k0 ≤ k → n ≤ ns k) (st : St) (Ks : Nat → Ex → St → Option Res) (Kl : Ex → St → Option Res), (∀ ex st, Conv (fun k => Ks k ex st) (Kl ex st)) →
      Conv (fun k => aloop (body k) keep (ns k) st (Ks k)) (aloop bodyl keep n st Kl)
  | 0, ns, hn, st, Ks, Kl, hK => Conv.none _
  | n + 1, ns, ⟨k0, hn⟩, st, Ks, Kl, hK => by
    have key : Conv (fun k => body k st (kloop keep (fun st' => aloop (body k) keep (ns k - 1) st' (Ks k)) (Ks k))) (bodyl st (kloop keep (fun st' => aloop bodyl keep n st' Kl) Kl)) := by
      refine hb st (fun k => kloop keep (fun st' => aloop (body k) keep (ns k - 1) st' (Ks k)) (Ks k)) _ fun ex st' => ?_
      cases ex with
      | normal => exact aloop_conv keep hb n (fun k => ns k - 1) ⟨k0, fun k hk => by have := hn k hk; omega⟩ _ Ks Kl hK
      | exit i => exact hK _ _
      | ret => exact hK _ _
      | pan v => exact hK _ _
    intro r hr
    obtain ⟨k1, h1⟩ := key r hr
    refine ⟨max k0 k1, fun j hj => ?_⟩
    have h2 := hn j (by omega)
    obtain ⟨m, hm⟩ : ∃ m, ns j = m + 1 := ⟨ns j - 1, by omega⟩
    have h3 : body j st (kloop keep (fun st' => aloop (body j) keep (ns j - 1) st' (Ks j)) (Ks j)) = some r := h1 j (by omega)
    show aloop (body j) keep (ns j) st (Ks j) = some r
    rw [hm] at h3 ⊢
    exact h3

theorem aexec_conv (hc : ∀ f a σ, Conv (fun k => ck k f a σ) (cl f a σ)) {n : Nat} {ns : Nat → Nat} (hn : ∃ k0, ∀ k, k0 ≤ k → n ≤ ns k) :
    ∀ (c : Code) (id : Nat) (st : St) (Ks : Nat → Ex → St → Option Res) (Kl : Ex → St → Option Res), (∀ ex st, Conv (fun k => Ks k ex st) (Kl ex st)) →
      Conv (fun k => aexec C H (ck k) (ns k) c id st (Ks k)) (aexec C H cl n c id st Kl)
  | .skip, _, st, Ks, Kl, hK => hK _ _
  | .label l, _, st, Ks, Kl, hK => hK _ _
  | .region id ops draw, _, st, Ks, Kl, hK => by
    have fin : ∀ out, Conv (fun k => match out with | Out.next st => Ks k .normal st | .pan v st => Ks k (.pan v) st) (match out with | .next st => Kl .normal st | .pan v st => Kl (.pan v) st) := by
      intro out
      cases out <;> exact hK _ _
    simp only [aexec]
    refine Conv.ite _ ?_ ?_
    · exact Conv.bindC _ fun _ => aops_conv hc _ _ _ _ fin
    · exact aops_conv hc _ _ _ _ fin
  | .seq x y, id, st, Ks, Kl, hK => by
    simp only [aexec]
    refine aexec_conv hc hn x 0 st (fun k => kseq (fun st' => aexec C H (ck k) (ns k) y 0 st' (Ks k)) (Ks k)) _ fun ex st' => ?_
    cases ex with
    | normal => exact aexec_conv hc hn y 0 st' Ks Kl hK
    | exit i => exact hK _ _
    | ret => exact hK _ _
    | pan v => exact hK _ _
  | .cond c x y, id, st, Ks, Kl, hK => by
    simp only [aexec]
    split
    · split
      · exact Conv.bindC _ fun b => Conv.cond _ (aexec_conv hc hn x 0 _ Ks Kl hK) (aexec_conv hc hn y 0 _ Ks Kl hK)
      · exact Conv.none _
    · exact Conv.ite _ (aexec_conv hc hn x 0 _ Ks Kl hK) (aexec_conv hc hn y 0 _ Ks Kl hK)
    · exact Conv.none _
  | .block i body, id, st, Ks, Kl, hK => by
    simp only [aexec]
    refine aexec_conv hc hn body i st (fun k => kblk i (Ks k)) _ fun ex st' => ?_
    cases ex with
    | normal => exact hK _ _
    | exit j => simp only [kblk]; exact Conv.ite _ (hK _ _) (hK _ _)
    | ret => exact hK _ _
    | pan v => exact hK _ _
  | .loop body, id, st, Ks, Kl, hK => by
    simp only [aexec]
    exact aloop_conv (body := fun k st K => aexec C H (ck k) (ns k) body 0 st K) (H.keep id) (fun st Ks Kl hK => aexec_conv hc hn body 0 st Ks Kl hK) n ns hn _ Ks Kl hK
  | .exit i, id, st, Ks, Kl, hK => hK _ _
  | .ret, id, st, Ks, Kl, hK => hK _ _
  | .rangeFunc .., id, st, Ks, Kl, hK => Conv.none _
  | .scope .., id, st, Ks, Kl, hK => Conv.none _
  | .goto _, id, st, Ks, Kl, hK => Conv.none _
  | .refuse _, id, st, Ks, Kl, hK => Conv.none _

theorem afun_conv (hc : ∀ f a σ, Conv (fun k => ck k f a σ) (cl f a σ)) {n : Nat} {ns : Nat → Nat} (hn : ∃ k0, ∀ k, k0 ≤ k → n ≤ ns k) (d : FDef) (args : List Cell) (σ : Sto) :
    Conv (fun k => afun C d (ck k) (ns k) args σ) (afun C d cl n args σ) := by
  simp only [afun]
  exact Conv.ite _ (aexec_conv hc hn _ _ _ (fun _ => kfin C d) (kfin C d) fun ex st => Conv.const _) (Conv.none _)

theorem acall_mono1 : ∀ (n m : Nat) (f : FuncId) (args : List Cell) (σ : Sto) (r : Res), n ≤ m → acall C n f args σ = some r → acall C m f args σ = some r
  | 0, m, f, args, σ, r, hm, h => by simp [acall] at h
  | n + 1, 0, f, args, σ, r, hm, h => by omega
  | n + 1, m + 1, f, args, σ, r, hm, h => by
    simp only [acall] at h ⊢
    split
    · rename_i s hs
      rw [hs] at h
      exact h
    · rename_i hs
      rw [hs] at h
      simp only at h
      split
      · rename_i d hd
        rw [hd] at h
        simp only at h
        obtain ⟨k, hk⟩ := afun_conv (ck := fun _ => acall C m) (ns := fun _ => m) (fun f a σ r hr => ⟨0, fun j _ => acall_mono1 n m f a σ r (by omega) hr⟩) ⟨0, fun k _ => (by omega : n ≤ m)⟩ d (maskArgs d.hints.own 0 args) σ r h
        exact hk k (Nat.le_refl _)
      · rename_i hd
        rw [hd] at h
        simp at h

/-- What a call comes to, at whatever depth. -/
noncomputable def lim (C : Ctx) : CallF := fun f args σ => open Classical in if h : ∃ r n, acall C n f args σ = some r then some h.choose else none

theorem lim_iff {f : FuncId} {args : List Cell} {σ : Sto} {r : Res} : lim C f args σ = some r ↔ ∃ n, acall C n f args σ = some r := by
  unfold lim
  constructor
  · intro h
    split at h
    · rename_i hx
      obtain rfl := Option.some.inj h
      exact hx.choose_spec
    · simp at h
  · rintro ⟨n, hn⟩
    have hx : ∃ r n, acall C n f args σ = some r := ⟨r, n, hn⟩
    rw [dif_pos hx]
    obtain ⟨m, hm⟩ := hx.choose_spec
    have h1 := acall_mono1 n (max n m) f args σ r (by omega) hn
    have h2 := acall_mono1 m (max n m) f args σ _ (by omega) hm
    exact h2.symm.trans h1

theorem lim_conv (f : FuncId) (a : List Cell) (σ : Sto) : Conv (fun k => acall C k f a σ) (lim C f a σ) := by
  intro r hr
  obtain ⟨n, hn⟩ := lim_iff.1 hr
  exact ⟨n, fun j hj => acall_mono1 n j f a σ r hj hn⟩

/-- A function's own run, over the limit. -/
theorem lim_of {f : FuncId} {d : FDef} (hx : C.ext f = none) (hd : C.fdef f = some d) (n : Nat) {args : List Cell} {σ : Sto} {r : Res} (h : afun C d (lim C) n (maskArgs d.hints.own 0 args) σ = some r) : lim C f args σ = some r := by
  obtain ⟨k, hk⟩ := afun_conv (ck := acall C) (ns := id) (n := n) lim_conv ⟨n, fun k hk => hk⟩ d (maskArgs d.hints.own 0 args) σ r h
  exact lim_iff.2 ⟨k + 1, by simp only [acall, hx, hd]; exact hk k (Nat.le_refl _)⟩
theorem lim_ext {f : FuncId} {s : List Cell → Sto → Option Res} (hx : C.ext f = some s) {args : List Cell} {σ : Sto} {r : Res} (h : s args σ = some r) : lim C f args σ = some r :=
  lim_iff.2 ⟨1, by simp only [acall, hx]; exact h⟩

theorem lim_ok {P : Program} (hC : CtxOk P C) (hX : ExtOk P C) : CallOk P C (lim C) := by
  intro f args σ r h
  obtain ⟨n, hn⟩ := lim_iff.1 h
  exact acall_sound hC hX n f args σ r hn
end
end Go.Ab
