/- LevelWorthy: for every script the law returns true, and the script reads afterwards as it read before. -/
import Derived.Test.YtcpdcpgblcapeaaDoorAbMkX
import Derived.Test.YtcpdcpgblcapeaaDoorCards
import Derived.Test.YtcpdcpgblcapeaaDoorTie
import Derived.WalkKit
import Derived.ProofKit
import Derived.OpenShut
import Derived.Deep.DeepHandedRow
import Derived.Lib.LaidTab
set_option linter.unusedSimpArgs false
set_option linter.unusedVariables false
set_option linter.deprecated false
namespace Go.Proofs.YtcpdcpgblcapeaaDoor.LvW
open Go.ChangeShapes Go.WideShapes Go.ChangeAt Go.RowKit Go.Ab

theorem extOk : ExtOk Tryd.prog Mk.C := by
  intro f s h
  have h' : (if f = 57 then some (copyCheckS 63) else if f = 31 then some (bldStringS 63 5) else if f = 13 then some Mk.leqS else none) = some s := h
  split at h'
  · rename_i hf
    obtain rfl := Option.some.inj h'
    rw [hf]
    exact copyCheck_ok Mk.ctxOk (fun args w => Tryd.call57 args w) Go.Proofs.Mk.copyCheck_used Go.Proofs.Mk.copyCheck_fresh
  · split at h'
    · rename_i hf
      obtain rfl := Option.some.inj h'
      rw [hf]
      exact bldString_ok Mk.ctxOk (fun args w => Tryd.call31 args w) Go.Proofs.Mk.bldString
    · split at h'
      · rename_i hf
        obtain rfl := Option.some.inj h'
        rw [hf]
        exact leqC_ok (fun args w => Tryd.call13 args w)
      · simp at h'
theorem same_ok {C' : Ctx} (hg : C'.glob = Mk.C.glob) (f : FuncId) : CallOk Tryd.prog C' (fun g args σ => if g = f then lim Mk.C f args σ else none) := by
  intro g args σ r h
  simp only at h
  split at h
  · rename_i hf
    subst hf
    rw [hg]
    exact lim_ok Mk.ctxOk extOk _ _ _ _ h
  · simp at h
theorem lim_okQ {C' : Ctx} (hg : C'.glob = Mk.C.glob) : CallOk Tryd.prog C' (lim Mk.C) := by
  intro g args σ r h
  rw [hg]
  exact lim_ok Mk.ctxOk extOk _ _ _ _ h
theorem extOkQ : ExtOk Tryd.prog Mq.C := by
  intro f s h
  have h' : (if f = 16 then some (Mk.parseS (lim Mk.C)) else if f = 9 then some (lim Mk.C 9) else if f = 10 then some (lim Mk.C 10) else if f = 11 then some (lim Mk.C 11) else if f = 12 then some (lim Mk.C 12) else if f = 13 then some (lim Mk.C 13) else if f = 14 then some (lim Mk.C 14) else if f = 15 then some (lim Mk.C 15) else none) = some s := h
  split at h'
  · rename_i hf
    obtain rfl := Option.some.inj h'
    rw [hf]
    exact parse_ok (lim_okQ rfl) (fun args w => Tryd.call16 args w)
  all_goals (repeat' (split at h'))
  all_goals first
    | (rename_i hf; obtain rfl := Option.some.inj h'; rw [hf]; exact same_ok rfl _)
    | (simp at h')

theorem own : ownKnob Tryd.prog.godebug = none := by kernel_rfl
theorem gTab : Tryd.prog.globalNamed "provekernel/level.words" = some 0 := by kernel_rfl
theorem gTabType : (Tryd.prog.globals[0]?).map (·.type) = some 86 := by kernel_rfl
theorem opTy : OpTy Tryd.prog 22 25 3 9 where
  hS := Tryd.underlying22
  hOp := ⟨_, Tryd.underlying25, by kernel_rfl⟩
  hInt := Tryd.underlying3
  hStr := Tryd.underlying9
  cOp := by kernel_rfl
  cInt := by kernel_rfl
  cStr := by kernel_rfl

theorem int_in {n : Int} (h : (Lit.int .i64 n).wf = true) : -(2 ^ 63) ≤ n ∧ n < 2 ^ 63 := by
  simp only [Lit.wf, Bool.and_eq_true, decide_eq_true_eq] at h
  have h1 : IntKind.min .i64 = -(2 ^ 63) := by decide
  have h2 : IntKind.max .i64 = 2 ^ 63 - 1 := by decide
  rw [h1, h2] at h
  omega
def wordsV : List ByteArray := [ByteArray.mk #[], ByteArray.mk #[115], ByteArray.mk #[109, 97, 120], ByteArray.mk #[105, 109, 97, 120]]
/-- The table's cells hold its four words. -/
theorem table {W : World} (h : laidMetH Tryd.prog Rows.levelWorthyRow.laid W) : W.var? Tryd.prog "provekernel/level.words" = some (wordsV.map Value.string).toArray := by
  have h' : laidMet Tryd.prog [("provekernel/level.words", Rows.laid_provekernel_level_words)] W := h
  obtain ⟨ps, ⟨g', t', cs, fuel, p, q, hg', ht', hvar, hd, _, _⟩, _⟩ := h'
  obtain rfl := Option.some.inj (gTab.symm.trans hg')
  obtain rfl := Option.some.inj (gTabType.symm.trans ht')
  rw [hvar]
  congr 1
  apply Array.ext'
  refine strTab (t := 86) (e := 9) Tryd.underlying86 Tryd.underlying9 (by kernel_rfl) (by kernel_rfl) wordsV ?_ hd
  rfl

theorem cellT {W : World} (h : laidMetH Tryd.prog Rows.levelWorthyRow.laid W) : (∀ i s, wordsV[i]? = some s → W.cell? ⟨0, i, none⟩ = some (.string s)) ∧ 0 < W.heap.size := by
  have ht := table h
  have key : ∀ i s, wordsV[i]? = some s → W.cell? ⟨0, i, none⟩ = some (.string s) := by
    intro i s hs
    have := World.var?_cell gTab ht i
    rw [this]
    simp [hs]
  refine ⟨key, ?_⟩
  have := key 0 _ rfl
  exact World.block_lt_of_cell? _ _ this

set_option maxRecDepth 100000 in
/-- What the whole gives, for every argument and every world that holds the table. -/
theorem contract (H : Type) (enc : TypeId × Value → H) (W : World) (base : Nat) (args : Array Value) (ds gs : List (DataW H)) (before : List MemPlace)
    (hval : ∀ (j : Nat) t v, Tryd.f5.params[j]? = some t → args[j]? = some v → Value.okWide Tryd.prog W .any base t v)
    (hW : DataW.Whole enc Tryd.prog Tryd.f5.params.toList Rows.levelWorthySpec.vars false W args.toList ds gs before) (hL : laidMetH Tryd.prog Rows.levelWorthyRow.laid W)
    (hw : (DataW.weightsEach Tryd.prog (Tryd.f5.params.toList ++ []) (ds ++ gs)).all (· ≤ reachBytes) = true) :
    Calls Tryd.prog 5 args W fun e W' => ∃ v, e = .returned v ∧ Rows.levelWorthySpec.post enc Tryd.prog Tryd.f5 false true false false W args v W' := by
  obtain ⟨p, q, hA, hV, _, _, _⟩ := id hW
  rw [Tryd.params5] at hA hval hw
  obtain ⟨v0, vs0, d0, ds0, p0, q0, hargs, rfl, rfl, h0, r0⟩ := trodAll_cons hA
  obtain ⟨rfl, rfl, rfl⟩ := trodAll_nil r0
  obtain rfl : args = #[v0] := by cases args; simp_all
  obtain ⟨rfl, rfl⟩ := trodVars_none hV
  obtain ⟨L, B0, hrel, _, hfit, hdat⟩ := script_rel opTy (hval 0 22 v0 rfl rfl) h0
  obtain ⟨hc, h0lt⟩ := cellT hL
  have hS : SInv Mq.C.glob (G0 W (max B0 4)) W [] := G0_sinv (by
    intro g cs hg
    have hg' : (if g = 0 then some (wordsV.map V.str) else none) = some cs := hg
    split at hg'
    · rename_i h0
      obtain rfl := Option.some.inj hg'
      rw [h0]
      exact tab_rel hc h0lt (Nat.le_max_right _ _)
    · simp at hg')
  obtain ⟨hlen, hsz⟩ := script_sized opTy (of_decide_eq_true (by kernel_rfl)) hdat hw
  obtain ⟨σ', hlim⟩ := Mq.levelWorthy_law L (by omega) (fun o ho => ⟨by have := (hsz o ho).1; omega, by have := (hsz o ho).2.1; omega⟩) (fun o ho => ⟨int_in (hfit o ho).a, int_in (hfit o ho).b⟩) []
  have hcall := ((lim_ok Mq.ctxOk extOkQ) _ _ _ _ hlim).2 (G0 W (max B0 4)) W [v0] hS (G0_clean _ _ _) rfl (fun i c x hc hx => by
    match i with
    | 0 => simp at hc hx; subst hc; subst hx; exact ⟨hrel _ (Nat.le_max_left _ _), fun ho => by simp at ho⟩
    | i + 1 => simp at hc)
  refine hcall.mono fun e W' ⟨G', hE, _, hend⟩ => ?_
  obtain ⟨cs, hcl, he, hcr⟩ := hend
  obtain ⟨x, rfl⟩ : ∃ x, cs = [x] := by
    match cs, hcl with
    | [x], _ => exact ⟨x, rfl⟩
  have hx := rel_bool (hcr 0 _ x rfl rfl).1
  subst hx
  exact ⟨.bool true, he, post_true Tryd.params5 (by kernel_rfl) Tryd.underlying4 rfl rfl (by kernel_rfl) (by kernel_rfl) (of_decide_eq_true (by kernel_rfl)) hW hE⟩

/-- A world for the witness: the settled one, the table holding what its initialiser lays. -/
noncomputable def laidWorld (os : Os) : World :=
  { World.holding Tryd.prog os ⟨#[], #[], []⟩ with heap := (World.holding Tryd.prog os ⟨#[], #[], []⟩).heap.modify 0 fun
      | .cells _ t frozen => .cells #[.string (ByteArray.mk #[]), .string (ByteArray.mk #[115]), .string (ByteArray.mk #[109, 97, 120]), .string (ByteArray.mk #[105, 109, 97, 120])] t frozen
      | o => o }
theorem laid_met (os : Os) : laidMet Tryd.prog Rows.levelWorthyRow.laid ((laidWorld os).forCall (fun _ _ => 0) ⟨#[], #[.slice none 0 0], []⟩).memory :=
  laidMet_of_run' 8 (by kernel_rfl) (by kernel_rfl)
theorem reads (os : Os) {H : Type} (enc : TypeId × Value → H) : ∃ places, DataW.whole enc Tryd.prog ((laidWorld os).forCall (fun _ _ => 0) ⟨#[], #[.slice none 0 0], []⟩).memory Tryd.f5.params.toList Rows.levelWorthySpec.vars false #[Value.slice none 0 0].toList 8 = some ([.nil], [], places) :=
  ⟨[], by kernel_rfl⟩

set_option maxRecDepth 100000 in
theorem lifted (os : Os) (started : os.Started) (H : Type) (enc : TypeId × Value → H) (F : Stop.Interp) :
    ReturnsInHanded {} Tryd.checked os 5 .any ((OpenSpec.ofChange Rows.levelWorthySpec).preRow enc Tryd.prog Tryd.f5 Rows.levelWorthyRow.domain false Rows.levelWorthyRow.laid) (((OpenSpec.ofChange Rows.levelWorthySpec).at F).post enc Tryd.prog Tryd.f5 false true false false) := by
  obtain ⟨places, hx⟩ := reads os enc
  refine returnsInHanded_of_row (C := Tryd.checked) (s := OpenSpec.ofChange Rows.levelWorthySpec) own started (by kernel_rfl) Tryd.func5
    (witness_row_at (enc := enc) (C := Tryd.checked) false (laidWorld os) #[.slice none 0 0] rfl (by kernel_rfl) (by kernel_rfl) (by kernel_rfl)
      (OpenSpec.preRow_of_cond 8 hx (by kernel_rfl) (fun k hk => by cases hk) (by kernel_rfl) (laid_met os))) ?_
  intro W base args ds gs before hval hW _ _ hw hL _ _
  exact contract H enc W base args ds gs before hval hW hL hw

theorem said : Rows.LevelWorthySaid :=
  OpenClaim.holds_of_cond 5 Tryd.f5 rfl rfl rfl rfl rfl rfl rfl ⟨rfl, rfl, rfl, rfl, rfl⟩ rfl rfl rfl rfl rfl (by kernel_rfl) Tryd.func5 (by kernel_rfl)
    (of_decide_eq_true (by kernel_rfl)) (by unfold Func.isWrapper; first | (rw [if_pos (by decide +kernel)]; kernel_rfl) | (rw [if_neg (by decide +kernel)]; exact ⟨rfl, rfl⟩))
    (fun os started H enc _ F => by rw [OpenClaim.pre_eq_preRow]; exact lifted os started H enc F)

/-- No parameter wants a stand-in; the program's own looks are off. -/
theorem plain (f : FuncId) (fn : Func) (hf : Tryd.pinned.checked.prog.funcNamed "provekernel/provekernellaw.LevelWorthy" = some f) (hfn : Tryd.pinned.checked.prog.funcs[f]? = some fn) :
    true = Tryd.pinned.checked.prog.looks [] ∧ ∀ (j : Nat) t, fn.params[j]? = some t → Tryd.pinned.checked.prog.wantsStandIn t = false := by
  obtain rfl : f = 5 := Option.some.inj ((show Tryd.prog.funcNamed "provekernel/provekernellaw.LevelWorthy" = some 5 by kernel_rfl).symm.trans hf) |>.symm
  obtain rfl : fn = Tryd.f5 := (Option.some.inj (Tryd.func5.symm.trans hfn)).symm
  refine ⟨by kernel_rfl, fun j t ht => ?_⟩
  rw [Tryd.params5] at ht
  obtain rfl : t = 22 := by simpa using Array.mem_of_getElem? ht
  exact (show Tryd.prog.wantsStandIn 22 = false by kernel_rfl)

theorem card : Rows.LevelWorthyCardSaid :=
  Claim7.holds_tied_plain_at .later [] _ _ _ _ said (fun _ h => by cases h) (by kernel_rfl) (fun _ h => by cases h) levelWorthy_row_tie rfl ⟨rfl, rfl⟩ (by kernel_rfl) rfl plain (by kernel_rfl)
#print axioms card
end Go.Proofs.YtcpdcpgblcapeaaDoor.LvW
