/- LevelOrders: for every script the law returns true, and the script reads afterwards as it read before. -/
import Derived.Test.YtcpdcpgblcapeaaLvO4
import Derived.Test.YtcpdcpgblcapeaaRows
import Derived.Test.YtcpdcpgblcapeaaChecked
import Derived.WalkKit
import Derived.ProofKit
import Derived.OpenShut
import Derived.Deep.DeepHandedRow
import Derived.Lib.LaidTab
set_option linter.unusedSimpArgs false
set_option linter.unusedVariables false
set_option linter.deprecated false
namespace Go.Proofs.Ytcpdcpgblcapeaa.LvO
open Go.ChangeShapes Go.WideShapes Go.ChangeAt Go.RowKit Go.Ab Go.Ab.Mk

theorem extOk : ExtOk Try.prog C := by
  intro f s h
  have h' : (if f = 7 then some Mk.leqS else none) = some s := h
  split at h'
  · rename_i hf
    obtain rfl := Option.some.inj h'
    rw [hf]
    exact leqC_ok (fun args w => Try.call7 args w)
  · simp at h'

theorem own : ownKnob Try.prog.godebug = none := by kernel_rfl
theorem opTy : OpTy Try.prog 22 25 3 9 where
  hS := Try.underlying22
  hOp := ⟨_, Try.underlying25, by kernel_rfl⟩
  hInt := Try.underlying3
  hStr := Try.underlying9
  cOp := by kernel_rfl
  cInt := by kernel_rfl
  cStr := by kernel_rfl

set_option maxRecDepth 100000 in
/-- What the whole gives, for every argument and every world. -/
theorem contract (H : Type) (enc : TypeId × Value → H) (W : World) (base : Nat) (args : Array Value) (ds gs : List (DataW H)) (before : List MemPlace)
    (hval : ∀ (j : Nat) t v, Try.f3.params[j]? = some t → args[j]? = some v → Value.okWide Try.prog W .any base t v)
    (hW : DataW.Whole enc Try.prog Try.f3.params.toList Rows.levelOrdersSpec.vars false W args.toList ds gs before)
    (hw : (DataW.weightsEach Try.prog (Try.f3.params.toList ++ []) (ds ++ gs)).all (· ≤ reachBytes) = true) :
    Calls Try.prog 3 args W fun e W' => ∃ v, e = .returned v ∧ Rows.levelOrdersSpec.post enc Try.prog Try.f3 false true false false W args v W' := by
  obtain ⟨p, q, hA, hV, _, _, _⟩ := id hW
  rw [Try.params3] at hA hval hw
  obtain ⟨v0, vs0, d0, ds0, p0, q0, hargs, rfl, rfl, h0, r0⟩ := trodAll_cons hA
  obtain ⟨rfl, rfl, rfl⟩ := trodAll_nil r0
  obtain rfl : args = #[v0] := by cases args; simp_all
  obtain ⟨rfl, rfl⟩ := trodVars_none hV
  obtain ⟨L, B0, hrel, _, _, hdat⟩ := script_rel opTy (hval 0 22 v0 rfl rfl) h0
  have hS : SInv C.glob (G0 W B0) W [] := G0_sinv (by
    intro g cs hg
    have hg' : none = some cs := hg
    simp at hg')
  obtain ⟨hlen, hsz⟩ := script_sized opTy (of_decide_eq_true (by kernel_rfl)) hdat hw
  obtain ⟨σ', hlim⟩ := levelOrders_law L (by omega) (fun o ho => ⟨by have := (hsz o ho).1; omega, by have := (hsz o ho).2.1; omega⟩) []
  have hcall := ((lim_ok ctxOk extOk) _ _ _ _ hlim).2 (G0 W B0) W [v0] hS (G0_clean _ _ _) rfl (fun i c x hc hx => by
    match i with
    | 0 => simp at hc hx; subst hc; subst hx; exact ⟨hrel _ (Nat.le_refl _), fun ho => by simp at ho⟩
    | i + 1 => simp at hc)
  refine hcall.mono fun e W' ⟨G', hE, _, hend⟩ => ?_
  obtain ⟨cs, hcl, he, hcr⟩ := hend
  obtain ⟨x, rfl⟩ : ∃ x, cs = [x] := by
    match cs, hcl with
    | [x], _ => exact ⟨x, rfl⟩
  have hx := rel_bool (hcr 0 _ x rfl rfl).1
  subst hx
  exact ⟨.bool true, he, post_true Try.params3 (by kernel_rfl) Try.underlying4 rfl rfl (by kernel_rfl) (by kernel_rfl) (of_decide_eq_true (by kernel_rfl)) hW hE⟩

noncomputable def laidWorld (os : Os) : World := World.holding Try.prog os ⟨#[], #[], []⟩
theorem laid_met (os : Os) : laidMet Try.prog Rows.levelOrdersRow.laid ((laidWorld os).forCall (fun _ _ => 0) ⟨#[], #[.slice none 0 0], []⟩).memory :=
  laidMet_of_run' 8 (by kernel_rfl) (by kernel_rfl)
theorem reads (os : Os) {H : Type} (enc : TypeId × Value → H) : ∃ places, DataW.whole enc Try.prog ((laidWorld os).forCall (fun _ _ => 0) ⟨#[], #[.slice none 0 0], []⟩).memory Try.f3.params.toList Rows.levelOrdersSpec.vars false #[Value.slice none 0 0].toList 8 = some ([.nil], [], places) :=
  ⟨[], by kernel_rfl⟩

set_option maxRecDepth 100000 in
theorem lifted (os : Os) (started : os.Started) (H : Type) (enc : TypeId × Value → H) (F : Stop.Interp) :
    ReturnsInHanded {} Try.checked os 3 .any ((OpenSpec.ofChange Rows.levelOrdersSpec).preRow enc Try.prog Try.f3 Rows.levelOrdersRow.domain false Rows.levelOrdersRow.laid) (((OpenSpec.ofChange Rows.levelOrdersSpec).at F).post enc Try.prog Try.f3 false true false false) := by
  obtain ⟨places, hx⟩ := reads os enc
  refine returnsInHanded_of_row (C := Try.checked) (s := OpenSpec.ofChange Rows.levelOrdersSpec) own started (by kernel_rfl) Try.func3
    (witness_row_at (enc := enc) (C := Try.checked) false (laidWorld os) #[.slice none 0 0] rfl (by kernel_rfl) (by kernel_rfl) (by kernel_rfl)
      (OpenSpec.preRow_of_cond 8 hx (by kernel_rfl) (fun k hk => by cases hk) (by kernel_rfl) (laid_met os))) ?_
  intro W base args ds gs before hval hW _ _ hw hL _ _
  exact contract H enc W base args ds gs before hval hW hw

theorem said : Rows.LevelOrdersSaid :=
  OpenClaim.holds_of_cond 3 Try.f3 rfl rfl rfl rfl rfl rfl rfl ⟨rfl, rfl, rfl, rfl, rfl⟩ rfl rfl rfl rfl rfl (by kernel_rfl) Try.func3 (by kernel_rfl)
    (of_decide_eq_true (by kernel_rfl)) (by unfold Func.isWrapper; first | (rw [if_pos (by decide +kernel)]; kernel_rfl) | (rw [if_neg (by decide +kernel)]; exact ⟨rfl, rfl⟩))
    (fun os started H enc _ F => by rw [OpenClaim.pre_eq_preRow]; exact lifted os started H enc F)
#print axioms said
end Go.Proofs.Ytcpdcpgblcapeaa.LvO
