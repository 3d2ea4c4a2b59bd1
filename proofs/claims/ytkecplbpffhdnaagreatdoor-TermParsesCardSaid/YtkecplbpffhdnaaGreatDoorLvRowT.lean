/- TermParses: for every script the law returns true, and the script reads afterwards as it read before. -/
import Derived.Test.YtkecplbpffhdnaaGreatDoorLvTg
import Derived.Test.YtkecplbpffhdnaaGreatDoorCards
import Derived.Test.YtkecplbpffhdnaaGreatDoorTie
import Derived.WalkKit
import Derived.ProofKit
import Derived.OpenShut
import Derived.Deep.DeepHandedRow
import Derived.Deep.DeepWitnessRowRef
import Derived.Lib.LaidTab
import Derived.Lay
import Derived.LaidLaws
import Derived.LaidHandle
import Derived.LaidSub
import Derived.RowKitTokens
import Derived.ChangeVars
set_option linter.unusedSimpArgs false
set_option linter.unusedVariables false
set_option linter.deprecated false
namespace Go.Proofs.YtkecplbpffhdnaaGreatDoor.LvTP
open Go.ChangeShapes Go.WideShapes Go.ChangeAt Go.RowKit Go.Ab

theorem extOk : ExtOk Tryz.prog Mk.C := by
  intro f s h
  have h' : none = some s := h
  simp at h'
theorem same_ok {C' : Ctx} (hg : C'.glob = Mk.C.glob) (f : FuncId) : CallOk Tryz.prog C' (fun g args σ => if g = f then lim Mk.C f args σ else none) := by
  intro g args σ r h
  simp only at h
  split at h
  · rename_i hf
    subst hf
    rw [hg]
    exact lim_ok Mk.ctxOk extOk _ _ _ _ h
  · simp at h
theorem lim_okQ {C' : Ctx} (hg : C'.glob = Mk.C.glob) : CallOk Tryz.prog C' (lim Mk.C) := by
  intro g args σ r h
  rw [hg]
  exact lim_ok Mk.ctxOk extOk _ _ _ _ h
theorem extOkQ : ExtOk Tryz.prog Mq.C := by
  intro f s h
  have h' : (if f = 7 then some (Mk.tparseS (lim Mk.C)) else if f = 26 then some Mk.codeS else if f = 8 then some (lim Mk.C 8) else if f = 10 then some (lim Mk.C 10) else none) = some s := h
  split at h'
  · rename_i hf
    obtain rfl := Option.some.inj h'
    rw [hf]
    exact tparse_ok (lim_okQ rfl) (fun args w => Tryz.call7 args w)
  · split at h'
    · rename_i hf
      obtain rfl := Option.some.inj h'
      rw [hf]
      exact code_ok rfl (fun args w => Tryz.call26 args w)
    · split at h'
      · rename_i hf
        obtain rfl := Option.some.inj h'
        rw [hf]
        exact same_ok rfl _
      · split at h'
        · rename_i hf
          obtain rfl := Option.some.inj h'
          rw [hf]
          exact same_ok rfl _
        · simp at h'

theorem own : ownKnob Tryz.prog.godebug = none := by kernel_rfl
theorem et : Tryz.prog.globalNamed "errors.errorType" = some 2 := by kernel_rfl
theorem rt : (Tryz.prog.cutTypes.find? (·.1 == "internal/reflectlite.rtype")).map (·.2) = some 135 := by kernel_rfl
theorem oneRow : ((List.range 209).filter fun t => Tryz.prog.rowNamed t [101, 114, 114, 111, 114]) = [32] := by kernel_rfl
theorem typesSize : Tryz.prog.types.size = 209 := by kernel_rfl
theorem gA : Tryz.prog.globalNamed "provekernel/term.words" = some 0 := by kernel_rfl
theorem gAT : (Tryz.prog.globals[0]?).map (·.type) = some 88 := by kernel_rfl
theorem gS : Tryz.prog.globalNamed "provekernel/provekernelref.words" = some 1 := by kernel_rfl
theorem gST : (Tryz.prog.globals[1]?).map (·.type) = some 49 := by kernel_rfl
theorem opTy : OpTy Tryz.prog 22 25 3 9 where
  hS := Tryz.underlying22
  hOp := ⟨_, Tryz.underlying25, by kernel_rfl⟩
  hInt := Tryz.underlying3
  hStr := Tryz.underlying9
  cOp := by kernel_rfl
  cInt := by kernel_rfl
  cStr := by kernel_rfl

/-- The variables that are plain data. -/
def plainLaid : List (String × DataW Unit) := Rows.termParsesRow.laid.filter fun x => x.2.handleName?.isNone
/-- A listed variable's reading. -/
theorem read_of {P : Program} {W : World} {name : String} {d : DataW Unit} : ∀ {l : List (String × DataW Unit)} {ps : List MemPlace}, DataW.LaidVars P W l ps → (name, d) ∈ l →
    ∃ g t cs fuel p, P.globalNamed name = some g ∧ (P.globals[g]?).map (·.type) = some t ∧ W.var? P name = some cs ∧ DataW.trod (fun _ => ()) P W 0 (fun _ => true) false fuel t cs.toList = some (d, p)
  | [], _, _, h => by simp at h
  | (n, e) :: l, ps, hL, h => by
    obtain ⟨g, t, cs, fuel, p, q, h1, h2, h3, h4, h5, _⟩ := hL
    rcases List.mem_cons.1 h with h | h
    · simp only [Prod.mk.injEq] at h
      obtain ⟨rfl, rfl⟩ := h
      exact ⟨g, t, cs, fuel, p, h1, h2, h3, h4⟩
    · exact read_of h5 h
theorem plain_of {W : World} (h : laidMetH Tryz.prog Rows.termParsesRow.laid W) : laidMet Tryz.prog plainLaid W := by
  exact (laidMetH_iff.1 h).1

def words7V : List ByteArray := [ByteArray.mk #[], ByteArray.mk #[115, 111, 114, 116], ByteArray.mk #[99, 111, 110, 115, 116], ByteArray.mk #[97, 112, 112], ByteArray.mk #[108, 97, 109], ByteArray.mk #[112, 105], ByteArray.mk #[108, 101, 116]]
/-- The table's cells hold its words. -/
theorem cellsA {W : World} (h : laidMetH Tryz.prog Rows.termParsesRow.laid W) : (∀ i s, words7V[i]? = some s → W.cell? ⟨0, i, none⟩ = some (.string s)) ∧ 0 < W.heap.size := by
  obtain ⟨ps, hL, _⟩ := plain_of h
  obtain ⟨g', t', cs, fuel, p, hg', ht', hvar, hd⟩ := read_of (name := "provekernel/term.words") (d := Rows.laid_provekernel_term_words) hL (by unfold plainLaid; simp [Rows.termParsesRow]; rfl)
  obtain rfl := Option.some.inj (gA.symm.trans hg')
  obtain rfl := Option.some.inj (gAT.symm.trans ht')
  have hcs : cs.toList = words7V.map Value.string := strTab (t := 88) (e := 9) Tryz.underlying88 Tryz.underlying9 (by kernel_rfl) (by kernel_rfl) words7V rfl hd
  have hcs' : cs = (words7V.map Value.string).toArray := by apply Array.ext'; rw [hcs]
  rw [hcs'] at hvar
  have key : ∀ i s, words7V[i]? = some s → W.cell? ⟨0, i, none⟩ = some (.string s) := by
    intro i s hs
    have := World.var?_cell gA hvar i
    rw [this]
    simp [hs]
  exact ⟨key, World.block_lt_of_cell? _ _ (key 0 _ rfl)⟩
/-- The variable holds a slice of the words. -/
theorem cellsS {W : World} (h : laidMetH Tryz.prog Rows.termParsesRow.laid W) : ∃ b off cap, W.cell? ⟨1, 0, none⟩ = some (.slice (some ⟨b, off, none⟩) words7V.length cap) ∧ 1 < W.heap.size ∧
    words7V.length ≤ cap ∧ b < W.heap.size ∧ ∀ i s, words7V[i]? = some s → W.cell? ⟨b, off + i, none⟩ = some (.string s) := by
  obtain ⟨ps, hL, _⟩ := plain_of h
  obtain ⟨g', t', cs, fuel, p, hg', ht', hvar, hd⟩ := read_of (name := "provekernel/provekernelref.words") (d := Rows.laid_provekernel_provekernelref_words) hL (by unfold plainLaid; simp [Rows.termParsesRow]; rfl)
  obtain rfl := Option.some.inj (gS.symm.trans hg')
  obtain rfl := Option.some.inj (gST.symm.trans ht')
  obtain ⟨b, off, cap, hcs, h1, h2, h3⟩ := strSlice (t := 49) (e := 9) Tryz.underlying49 Tryz.underlying9 (by kernel_rfl) words7V (by decide) rfl hd
  have hcs' : cs = #[.slice (some ⟨b, off, none⟩) words7V.length cap] := by apply Array.ext'; rw [hcs]
  rw [hcs'] at hvar
  have hc : W.cell? ⟨1, 0, none⟩ = some (.slice (some ⟨b, off, none⟩) words7V.length cap) := by
    have := World.var?_cell gS hvar 0
    rw [this]; rfl
  exact ⟨b, off, cap, hc, World.block_lt_of_cell? _ _ hc, h1, h2, h3⟩
/-- The handle's one cell. -/
theorem handle_of_laid {W : World} (h : laidMetH Tryz.prog Rows.termParsesRow.laid W) : W.cell? ⟨2, 0, none⟩ = some Mk.hv := by
  have h' := (laidMetH_iff.1 h).2
  obtain ⟨name, u, ty, e1, e2, e3, e4, e5⟩ := h' ("errors.errorType", Rows.laid_errors_errorType) (List.mem_filter.2 ⟨by simp [Rows.termParsesRow], by decide⟩)
  have en : name = [101, 114, 114, 111, 114] := (Option.some.inj e1).symm
  subst en
  obtain rfl := Option.some.inj (rt.symm.trans e2)
  have hm : ty ∈ (List.range 209).filter fun t => Tryz.prog.rowNamed t [101, 114, 114, 111, 114] := List.mem_filter.2 ⟨List.mem_range.2 (by rw [← typesSize]; exact e3), e4⟩
  rw [oneRow] at hm
  obtain rfl := List.mem_singleton.1 hm
  have hh : typeHandle Tryz.prog 32 = .pointer (some ⟨10, 32, none⟩) := by kernel_rfl
  rw [hh] at e5
  have e6 := World.var?_cell et e5 0
  simp at e6
  exact e6

set_option maxRecDepth 100000 in
/-- What the whole gives, for every argument and every world that holds the variables. -/
theorem contract (H : Type) (enc : TypeId × Value → H) (W : World) (base : Nat) (args : Array Value) (ds gs : List (DataW H)) (before : List MemPlace)
    (hval : ∀ (j : Nat) t v, Tryz.f3.params[j]? = some t → args[j]? = some v → Value.okWide Tryz.prog W .any base t v)
    (hW : DataW.Whole enc Tryz.prog Tryz.f3.params.toList Rows.termParsesSpec.vars false W args.toList ds gs before) (hL : laidMetH Tryz.prog Rows.termParsesRow.laid W)
    (hw : (DataW.weightsEach Tryz.prog (Tryz.f3.params.toList ++ []) (ds ++ gs)).all (· ≤ reachBytes) = true) :
    Calls Tryz.prog 3 args W fun e W' => ∃ v, e = .returned v ∧ Rows.termParsesSpec.post enc Tryz.prog Tryz.f3 false true false false W args v W' := by
  obtain ⟨p, q, hA, hV, _, _, _⟩ := id hW
  rw [Tryz.params3] at hA hval hw
  obtain ⟨v0, vs0, d0, ds0, p0, q0, hargs, rfl, rfl, h0, r0⟩ := trodAll_cons hA
  obtain ⟨rfl, rfl, rfl⟩ := trodAll_nil r0
  obtain rfl : args = #[v0] := by cases args; simp_all
  obtain ⟨rfl, rfl⟩ := trodVars_none hV
  obtain ⟨L, B0, hrel, _, _, hdat⟩ := script_rel opTy (hval 0 22 v0 rfl rfl) h0
  have hc := handle_of_laid hL
  have h1lt := World.block_lt_of_cell? _ _ hc
  obtain ⟨hcA, hltA⟩ := cellsA hL
  obtain ⟨b, off, cap, hcS, hltS, hcapS, hbS, hwS⟩ := cellsS hL
  have hS : SInv Mq.C.glob (G0 W (max B0 (off + 7))) W [] := G0_sinv (by
    intro g cs hg
    have hg' : (if g = 0 then some (words7V.map V.str) else if g = 1 then some [V.slice 1 9 (words7V.map fun s => [V.str s])] else if g = 2 then some [V.lit Mk.hv] else none) = some cs := hg
    split at hg'
    · rename_i h0
      obtain rfl := Option.some.inj hg'
      rw [h0]
      exact tab_rel hcA hltA (by show 7 ≤ max B0 (off + 7); omega)
    · split at hg'
      · rename_i h0
        obtain rfl := Option.some.inj hg'
        rw [h0]
        exact strSlice_rel hcS hltS hbS hcapS hwS (by omega) (by show off + 7 ≤ max B0 (off + 7); omega)
      · split at hg'
        · rename_i h0
          obtain rfl := Option.some.inj hg'
          rw [h0]
          refine Rel.eptr 1 [V.lit Mk.hv] 0 2 0 [Mk.hv] rfl rfl ?_ ?_ ?_
          · show 0 + 1 ≤ if 2 < W.heap.size then max B0 (off + 7) else 0
            rw [if_pos h1lt]; omega
          · intro i c hc'
            match i with
            | 0 => simp at hc'; subst hc'; exact ⟨hc, rfl⟩
            | i + 1 => simp at hc'
          · intro i v c hv hc'
            match i with
            | 0 => simp at hv hc'; subst hv; subst hc'; exact .lit _ rfl
            | i + 1 => simp at hv
        · simp at hg')
  obtain ⟨hlen, hsz⟩ := script_sized opTy (of_decide_eq_true (by kernel_rfl)) hdat hw
  obtain ⟨σ', hlim⟩ := Mq.termParses_law L (by omega) (fun o ho => ⟨by have := (hsz o ho).1; omega, by have := (hsz o ho).2.1; omega⟩) []
  have hcall := ((lim_ok Mq.ctxOk extOkQ) _ _ _ _ hlim).2 (G0 W (max B0 (off + 7))) W [v0] hS (G0_clean _ _ _) rfl (fun i c x hc hx => by
    match i with
    | 0 => simp at hc hx; subst hc; subst hx; exact ⟨hrel _ (Nat.le_max_left _ _), fun ho => by simp at ho⟩
    | i + 1 => simp at hc)
  refine hcall.mono fun e W' ⟨G', hE, _, hend⟩ => ?_
  obtain ⟨cs, hcl, he, hcr⟩ := hend
  obtain ⟨x, rfl⟩ : ∃ x, cs = [x] := by
    match cs, hcl with
    | [x], _ => exact ⟨x, rfl⟩
  have hx := rel_bool (hcr 0 _ x rfl rfl).1
  subst hx
  exact ⟨.bool true, he, post_true Tryz.params3 (by kernel_rfl) Tryz.underlying4 rfl rfl (by kernel_rfl) (by kernel_rfl) (of_decide_eq_true (by kernel_rfl)) hW hE⟩

/-- A world for the witness: the settled one, the handle and the other variables laid. -/
noncomputable def baseWorld (os : Os) : World :=
  { World.holding Tryz.prog os ⟨#[], #[], []⟩ with heap := (World.holding Tryz.prog os ⟨#[], #[], []⟩).heap.modify 2 fun
      | .cells _ t frozen => .cells #[Mk.hv] t frozen
      | o => o }
noncomputable def laidWorld (os : Os) : World := (baseWorld os).layVars Tryz.prog plainLaid
theorem laid_plain (os : Os) : laidMet Tryz.prog plainLaid ((laidWorld os).forCall (fun _ _ => 0) ⟨#[], #[.slice none 0 0], []⟩).memory := by
  have e1 : (plainLaid.filter fun x => (plainLaid.map (·.1)).contains x.1) = plainLaid := List.filter_eq_self.2 fun x hx => List.contains_iff_mem.2 (List.mem_map.2 ⟨x, hx, rfl⟩)
  have e2 : (plainLaid.filter fun x => !(plainLaid.map (·.1)).contains x.1) = [] := List.filter_eq_nil_iff.2 fun x hx => by rw [List.contains_iff_mem.2 (List.mem_map.2 ⟨x, hx, rfl⟩)]; simp
  have h : laidMet Tryz.prog plainLaid (laidWorld os) := laidMet_layVars (w0 := baseWorld os) (plainLaid.map (·.1)) [] (by rw [e1]; rfl) (by rw [e1]; kernel_rfl) (by rw [e1]; kernel_rfl) (by rw [e2]; exact LaidIn.none)
  exact h.of_heap (by simp [World.memory, World.forCall, Input.heap])
theorem laid_met (os : Os) : laidMetH Tryz.prog Rows.termParsesRow.laid ((laidWorld os).forCall (fun _ _ => 0) ⟨#[], #[.slice none 0 0], []⟩).memory :=
  laidMetH_of_parts (laid_plain os) (by kernel_rfl)
theorem reads (os : Os) {H : Type} (enc : TypeId × Value → H) : ∃ places, DataW.whole enc Tryz.prog ((laidWorld os).forCall (fun _ _ => 0) ⟨#[], #[.slice none 0 0], []⟩).memory Tryz.f3.params.toList Rows.termParsesSpec.vars false #[Value.slice none 0 0].toList 8 = some ([.nil], [], places) :=
  ⟨[], by kernel_rfl⟩

set_option maxRecDepth 100000 in
theorem lifted (os : Os) (started : os.Started) (H : Type) (enc : TypeId × Value → H) (F : Stop.Interp) :
    ReturnsInHanded {} Tryz.checked os 3 .any ((OpenSpec.ofChange Rows.termParsesSpec).preRow enc Tryz.prog Tryz.f3 Rows.termParsesRow.domain false Rows.termParsesRow.laid) (((OpenSpec.ofChange Rows.termParsesSpec).at F).post enc Tryz.prog Tryz.f3 false true false false) := by
  obtain ⟨places, hx⟩ := reads os enc
  refine returnsInHanded_of_row (C := Tryz.checked) (s := OpenSpec.ofChange Rows.termParsesSpec) own started (by kernel_rfl) Tryz.func3
    (witness_row_atRef (enc := enc) (C := Tryz.checked) false (laidWorld os) #[.slice none 0 0] (World.layVars_os _ _ _) (by kernel_rfl) (by kernel_rfl) (by kernel_rfl)
      (OpenSpec.preRow_of_cond 8 hx (by kernel_rfl) (fun k hk => by cases hk) (by kernel_rfl) (laid_met os))) ?_
  intro W base args ds gs before hval hW _ _ hw hL _ _
  exact contract H enc W base args ds gs before hval hW hL hw

theorem said : Rows.TermParsesSaid :=
  OpenClaim.holds_of_cond 3 Tryz.f3 rfl rfl rfl rfl rfl rfl rfl ⟨rfl, rfl, rfl, rfl, rfl⟩ rfl rfl rfl rfl rfl (by kernel_rfl) Tryz.func3 (by kernel_rfl)
    (of_decide_eq_true (by kernel_rfl)) (by unfold Func.isWrapper; first | (rw [if_pos (by decide +kernel)]; kernel_rfl) | (rw [if_neg (by decide +kernel)]; exact ⟨rfl, rfl⟩))
    (fun os started H enc _ F => by rw [OpenClaim.pre_eq_preRow]; exact lifted os started H enc F)

/-- No parameter wants a stand-in; the program's own looks are off. -/
theorem plain (f : FuncId) (fn : Func) (hf : Tryz.pinned.checked.prog.funcNamed "provekernel/provekernellaw.TermParses" = some f) (hfn : Tryz.pinned.checked.prog.funcs[f]? = some fn) :
    true = Tryz.pinned.checked.prog.looks [] ∧ ∀ (j : Nat) t, fn.params[j]? = some t → Tryz.pinned.checked.prog.wantsStandIn t = false := by
  obtain rfl : f = 3 := Option.some.inj ((show Tryz.prog.funcNamed "provekernel/provekernellaw.TermParses" = some 3 by kernel_rfl).symm.trans hf) |>.symm
  obtain rfl : fn = Tryz.f3 := (Option.some.inj (Tryz.func3.symm.trans hfn)).symm
  refine ⟨by kernel_rfl, fun j t ht => ?_⟩
  rw [Tryz.params3] at ht
  obtain rfl : t = 22 := by simpa using Array.mem_of_getElem? ht
  exact (show Tryz.prog.wantsStandIn 22 = false by kernel_rfl)

theorem card : Rows.TermParsesCardSaid :=
  Claim7.holds_tied_plain_at .later [] _ _ _ _ said (fun _ h => by cases h) (by kernel_rfl) (fun _ h => by cases h) termParses_row_tie rfl ⟨rfl, rfl⟩ (by kernel_rfl) rfl plain (by kernel_rfl)
#print axioms card
end Go.Proofs.YtkecplbpffhdnaaGreatDoor.LvTP
