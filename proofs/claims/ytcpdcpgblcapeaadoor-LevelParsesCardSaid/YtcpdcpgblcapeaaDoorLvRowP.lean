/- LevelParses: for every script the law returns true, and the script reads afterwards as it read before. -/
import Derived.Test.YtcpdcpgblcapeaaDoorLvV
import Derived.Test.YtcpdcpgblcapeaaDoorAbRow
import Derived.Test.YtcpdcpgblcapeaaDoorAbMkX
import Derived.Test.YtcpdcpgblcapeaaDoorCards
import Derived.Test.YtcpdcpgblcapeaaDoorTie
import Derived.WalkKit
import Derived.ProofKit
import Derived.OpenShut
import Derived.Deep.DeepHandedRow
import Derived.Lib.LaidTab
import Derived.LaidLaws
import Derived.LaidHandle
import Derived.RowKitTokens
import Derived.ChangeVars
set_option linter.unusedSimpArgs false
set_option linter.unusedVariables false
set_option linter.deprecated false
namespace Go.Proofs.YtcpdcpgblcapeaaDoor.LvP
open Go.ChangeShapes Go.WideShapes Go.ChangeAt Go.RowKit Go.Ab

theorem extOk : ExtOk Tryd.prog Mk.C := by
  intro f s h
  have h' : (if f = 57 then some (copyCheckS 63) else if f = 31 then some (bldStringS 63 5) else none) = some s := h
  split at h'
  · rename_i hf
    obtain rfl := Option.some.inj h'
    rw [hf]
    exact copyCheck_ok Mk.ctxOk (fun args w => Tryd.call57 args w) Go.Proofs.Mk.copyCheck_used Go.Proofs.Mk.copyCheck_fresh
  · split at h'
    · rename_i hf
      obtain rfl := Option.some.inj h'
      rw [hf]
      exact bldString_ok Mk.ctxOk (fun args w => Tryd.call31 args w) Go.Proofs.Mk.bldString
    · simp at h'

theorem same_ok {C' : Ctx} (hg : C'.glob = Mk.C.glob) (f : FuncId) : CallOk Tryd.prog C' (fun g args σ => if g = f then lim Mk.C f args σ else none) := by
  intro g args σ r h
  simp only at h
  split at h
  · rename_i hf
    subst hf
    rw [hg]
    exact lim_ok Mk.ctxOk extOk _ _ _ _ h
  · simp at h
theorem lim_okQ {C' : Ctx} (hg : C'.glob = Mk.C.glob) : CallOk Tryd.prog C' (lim Mk.C) := by
  intro g args σ r h
  rw [hg]
  exact lim_ok Mk.ctxOk extOk _ _ _ _ h
theorem extOkQ : ExtOk Tryd.prog Mq.C := by
  intro f s h
  have h' : (if f = 16 then some (Mk.parseS (lim Mk.C)) else if f = 40 then some Mk.codeS else if f = 9 then some (lim Mk.C 9) else if f = 22 then some (lim Mk.C 22) else none) = some s := h
  split at h'
  · rename_i hf
    obtain rfl := Option.some.inj h'
    rw [hf]
    exact parse_ok (lim_okQ rfl) (fun args w => Tryd.call16 args w)
  · split at h'
    · rename_i hf
      obtain rfl := Option.some.inj h'
      rw [hf]
      exact code_ok rfl (fun args w => Tryd.call40 args w)
    · split at h'
      · rename_i hf
        obtain rfl := Option.some.inj h'
        rw [hf]
        exact same_ok rfl _
      · split at h'
        · rename_i hf
          obtain rfl := Option.some.inj h'
          rw [hf]
          exact same_ok rfl _
        · simp at h'

theorem own : ownKnob Tryd.prog.godebug = none := by kernel_rfl
theorem et : Tryd.prog.globalNamed "errors.errorType" = some 1 := by kernel_rfl
theorem rt : (Tryd.prog.cutTypes.find? (·.1 == "internal/reflectlite.rtype")).map (·.2) = some 113 := by kernel_rfl
theorem oneRow : ((List.range 153).filter fun t => Tryd.prog.rowNamed t [101, 114, 114, 111, 114]) = [44] := by kernel_rfl
theorem typesSize : Tryd.prog.types.size = 153 := by kernel_rfl
theorem opTy : OpTy Tryd.prog 22 25 3 9 where
  hS := Tryd.underlying22
  hOp := ⟨_, Tryd.underlying25, by kernel_rfl⟩
  hInt := Tryd.underlying3
  hStr := Tryd.underlying9
  cOp := by kernel_rfl
  cInt := by kernel_rfl
  cStr := by kernel_rfl

/-- The variable's one cell. -/
theorem handle_of_laid {W : World} (h : laidMetH Tryd.prog Rows.levelParsesRow.laid W) : W.cell? ⟨1, 0, none⟩ = some Mk.hv := by
  have h' : laidMet Tryd.prog [] W ∧ handlesMet Tryd.prog Rows.levelParsesRow.laid W := h
  obtain ⟨name, u, ty, e1, e2, e3, e4, e5⟩ := h'.2 _ (List.mem_singleton.2 rfl)
  have en : name = [101, 114, 114, 111, 114] := (Option.some.inj e1).symm
  subst en
  obtain rfl := Option.some.inj (rt.symm.trans e2)
  have hm : ty ∈ (List.range 153).filter fun t => Tryd.prog.rowNamed t [101, 114, 114, 111, 114] := List.mem_filter.2 ⟨List.mem_range.2 (by rw [← typesSize]; exact e3), e4⟩
  rw [oneRow] at hm
  obtain rfl := List.mem_singleton.1 hm
  have hh : typeHandle Tryd.prog 44 = .pointer (some ⟨2, 44, none⟩) := by kernel_rfl
  rw [hh] at e5
  have e6 := World.var?_cell et e5 0
  simp at e6
  exact e6

set_option maxRecDepth 100000 in
/-- What the whole gives, for every argument and every world that holds the table. -/
theorem contract (H : Type) (enc : TypeId × Value → H) (W : World) (base : Nat) (args : Array Value) (ds gs : List (DataW H)) (before : List MemPlace)
    (hval : ∀ (j : Nat) t v, Tryd.f4.params[j]? = some t → args[j]? = some v → Value.okWide Tryd.prog W .any base t v)
    (hW : DataW.Whole enc Tryd.prog Tryd.f4.params.toList Rows.levelParsesSpec.vars false W args.toList ds gs before) (hL : laidMetH Tryd.prog Rows.levelParsesRow.laid W)
    (hw : (DataW.weightsEach Tryd.prog (Tryd.f4.params.toList ++ []) (ds ++ gs)).all (· ≤ reachBytes) = true) :
    Calls Tryd.prog 4 args W fun e W' => ∃ v, e = .returned v ∧ Rows.levelParsesSpec.post enc Tryd.prog Tryd.f4 false true false false W args v W' := by
  obtain ⟨p, q, hA, hV, _, _, _⟩ := id hW
  rw [Tryd.params4] at hA hval hw
  obtain ⟨v0, vs0, d0, ds0, p0, q0, hargs, rfl, rfl, h0, r0⟩ := trodAll_cons hA
  obtain ⟨rfl, rfl, rfl⟩ := trodAll_nil r0
  obtain rfl : args = #[v0] := by cases args; simp_all
  obtain ⟨rfl, rfl⟩ := trodVars_none hV
  obtain ⟨L, B0, hrel, _, _, hdat⟩ := script_rel opTy (hval 0 22 v0 rfl rfl) h0
  have hc := handle_of_laid hL
  have h1lt := World.block_lt_of_cell? _ _ hc
  have hS : SInv Mq.C.glob (G0 W (max B0 1)) W [] := G0_sinv (by
    intro g cs hg
    have hg' : (if g = 1 then some [V.lit Mk.hv] else none) = some cs := hg
    split at hg'
    · rename_i h0
      obtain rfl := Option.some.inj hg'
      rw [h0]
      refine Rel.eptr 1 [V.lit Mk.hv] 0 1 0 [Mk.hv] rfl rfl ?_ ?_ ?_
      · show 0 + 1 ≤ if 1 < W.heap.size then max B0 1 else 0
        rw [if_pos h1lt]; exact Nat.le_max_right _ _
      · intro i c hc'
        match i with
        | 0 => simp at hc'; subst hc'; exact ⟨hc, rfl⟩
        | i + 1 => simp at hc'
      · intro i v c hv hc'
        match i with
        | 0 => simp at hv hc'; subst hv; subst hc'; exact .lit _ rfl
        | i + 1 => simp at hv
    · simp at hg')
  obtain ⟨hlen, hsz⟩ := script_sized opTy (of_decide_eq_true (by kernel_rfl)) hdat hw
  obtain ⟨σ', hlim⟩ := Mq.levelParses_law L (by omega) (fun o ho => ⟨by have := (hsz o ho).1; omega, by have := (hsz o ho).2.1; omega⟩) []
  have hcall := ((lim_ok Mq.ctxOk extOkQ) _ _ _ _ hlim).2 (G0 W (max B0 1)) W [v0] hS (G0_clean _ _ _) rfl (fun i c x hc hx => by
    match i with
    | 0 => simp at hc hx; subst hc; subst hx; exact ⟨hrel _ (Nat.le_max_left _ _), fun ho => by simp at ho⟩
    | i + 1 => simp at hc)
  refine hcall.mono fun e W' ⟨G', hE, _, hend⟩ => ?_
  obtain ⟨cs, hcl, he, hcr⟩ := hend
  obtain ⟨x, rfl⟩ : ∃ x, cs = [x] := by
    match cs, hcl with
    | [x], _ => exact ⟨x, rfl⟩
  have hx := rel_bool (hcr 0 _ x rfl rfl).1
  subst hx
  exact ⟨.bool true, he, post_true Tryd.params4 (by kernel_rfl) Tryd.underlying4 rfl rfl (by kernel_rfl) (by kernel_rfl) (of_decide_eq_true (by kernel_rfl)) hW hE⟩

/-- A world for the witness: the settled one, the variable's cell laid. -/
noncomputable def laidWorld (os : Os) : World :=
  { World.holding Tryd.prog os ⟨#[], #[], []⟩ with heap := (World.holding Tryd.prog os ⟨#[], #[], []⟩).heap.modify 1 fun
      | .cells _ t frozen => .cells #[Mk.hv] t frozen
      | o => o }
theorem laid_met (os : Os) : laidMetH Tryd.prog Rows.levelParsesRow.laid ((laidWorld os).forCall (fun _ _ => 0) ⟨#[], #[.slice none 0 0], []⟩).memory :=
  laidMetH_of_parts (laidMet_nil _ _) (by kernel_rfl)
theorem reads (os : Os) {H : Type} (enc : TypeId × Value → H) : ∃ places, DataW.whole enc Tryd.prog ((laidWorld os).forCall (fun _ _ => 0) ⟨#[], #[.slice none 0 0], []⟩).memory Tryd.f4.params.toList Rows.levelParsesSpec.vars false #[Value.slice none 0 0].toList 8 = some ([.nil], [], places) :=
  ⟨[], by kernel_rfl⟩

set_option maxRecDepth 100000 in
theorem lifted (os : Os) (started : os.Started) (H : Type) (enc : TypeId × Value → H) (F : Stop.Interp) :
    ReturnsInHanded {} Tryd.checked os 4 .any ((OpenSpec.ofChange Rows.levelParsesSpec).preRow enc Tryd.prog Tryd.f4 Rows.levelParsesRow.domain false Rows.levelParsesRow.laid) (((OpenSpec.ofChange Rows.levelParsesSpec).at F).post enc Tryd.prog Tryd.f4 false true false false) := by
  obtain ⟨places, hx⟩ := reads os enc
  refine returnsInHanded_of_row (C := Tryd.checked) (s := OpenSpec.ofChange Rows.levelParsesSpec) own started (by kernel_rfl) Tryd.func4
    (witness_row_at (enc := enc) (C := Tryd.checked) false (laidWorld os) #[.slice none 0 0] rfl (by kernel_rfl) (by kernel_rfl) (by kernel_rfl)
      (OpenSpec.preRow_of_cond 8 hx (by kernel_rfl) (fun k hk => by cases hk) (by kernel_rfl) (laid_met os))) ?_
  intro W base args ds gs before hval hW _ _ hw hL _ _
  exact contract H enc W base args ds gs before hval hW hL hw

theorem said : Rows.LevelParsesSaid :=
  OpenClaim.holds_of_cond 4 Tryd.f4 rfl rfl rfl rfl rfl rfl rfl ⟨rfl, rfl, rfl, rfl, rfl⟩ rfl rfl rfl rfl rfl (by kernel_rfl) Tryd.func4 (by kernel_rfl)
    (of_decide_eq_true (by kernel_rfl)) (by unfold Func.isWrapper; first | (rw [if_pos (by decide +kernel)]; kernel_rfl) | (rw [if_neg (by decide +kernel)]; exact ⟨rfl, rfl⟩))
    (fun os started H enc _ F => by rw [OpenClaim.pre_eq_preRow]; exact lifted os started H enc F)

/-- No parameter wants a stand-in; the program's own looks are off. -/
theorem plain (f : FuncId) (fn : Func) (hf : Tryd.pinned.checked.prog.funcNamed "provekernel/provekernellaw.LevelParses" = some f) (hfn : Tryd.pinned.checked.prog.funcs[f]? = some fn) :
    true = Tryd.pinned.checked.prog.looks [] ∧ ∀ (j : Nat) t, fn.params[j]? = some t → Tryd.pinned.checked.prog.wantsStandIn t = false := by
  obtain rfl : f = 4 := Option.some.inj ((show Tryd.prog.funcNamed "provekernel/provekernellaw.LevelParses" = some 4 by kernel_rfl).symm.trans hf) |>.symm
  obtain rfl : fn = Tryd.f4 := (Option.some.inj (Tryd.func4.symm.trans hfn)).symm
  refine ⟨by kernel_rfl, fun j t ht => ?_⟩
  rw [Tryd.params4] at ht
  obtain rfl : t = 22 := by simpa using Array.mem_of_getElem? ht
  exact (show Tryd.prog.wantsStandIn 22 = false by kernel_rfl)

theorem card : Rows.LevelParsesCardSaid :=
  Claim7.holds_tied_plain_at .later [] _ _ _ _ said (fun _ h => by cases h) (by kernel_rfl) (fun _ h => by cases h) levelParses_row_tie rfl ⟨rfl, rfl⟩ (by kernel_rfl) rfl plain (by kernel_rfl)
#print axioms card
end Go.Proofs.YtcpdcpgblcapeaaDoor.LvP
