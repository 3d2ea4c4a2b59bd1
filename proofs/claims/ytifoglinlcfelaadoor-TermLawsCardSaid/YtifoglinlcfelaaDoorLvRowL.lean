/- TermLaws: for every script the law returns true, and the script reads afterwards as it read before. -/
import Derived.Test.YtifoglinlcfelaaDoorAbMkX
import Derived.Test.YtifoglinlcfelaaDoorCards
import Derived.Test.YtifoglinlcfelaaDoorTie
import Derived.WalkKit
import Derived.ProofKit
import Derived.OpenShut
import Derived.Deep.DeepHandedRow
import Derived.Deep.DeepWitnessRowRef
import Derived.Lib.LaidTab
import Derived.Lay
import Derived.LaidLaws
import Derived.LaidSub
import Derived.RowKitTokens
import Derived.ChangeVars
set_option linter.unusedSimpArgs false
set_option linter.unusedVariables false
set_option linter.deprecated false
namespace Go.Proofs.YtifoglinlcfelaaDoor.LvL
open Go.ChangeShapes Go.WideShapes Go.ChangeAt Go.RowKit Go.Ab
theorem extOkA : ExtOk Tryd.prog Ma.C := by
 intro f s h
 have h' : none = some s := h
 simp at h'
theorem limA {C' : Ctx} (hg : C'.glob = Ma.C.glob) : CallOk Tryd.prog C' (lim Ma.C) := by
 intro g args σ r h
 rw [hg]
 exact lim_ok Ma.ctxOk extOkA _ _ _ _ h
theorem extOkB : ExtOk Tryd.prog Mb.C := by
 intro f s h
 have h' : (if f = 42 then some (Mk.walkS (lim Ma.C)) else none) = some s := h
 split at h'
 ·rename_i hf
  obtain rfl := Option.some.inj h'
  rw [hf]
  exact walkC_ok (limA rfl) (fun args w => Tryd.call42 args w)
 ·simp at h'
theorem limB {C' : Ctx} (hg : C'.glob = Mb.C.glob) : CallOk Tryd.prog C' (lim Mb.C) := by
 intro g args σ r h
 rw [hg]
 exact lim_ok Mb.ctxOk extOkB _ _ _ _ h
theorem oneB {C' : Ctx} (hg : C'.glob = Mb.C.glob) (f : FuncId) : CallOk Tryd.prog C' (fun g args σ => if g = f then lim Mb.C f args σ else none) := by
 intro g args σ r h
 simp only at h
 split at h
 ·rename_i hf
  subst hf
  rw [hg]
  exact lim_ok Mb.ctxOk extOkB _ _ _ _ h
 ·simp at h
theorem extOk : ExtOk Tryd.prog Mk.C := by
 intro f s h
 have h' : (if f = 42 then some (Mk.walkS (lim Mb.C)) else if f = 10 then some (lim Mb.C 10) else if f = 38 then some Mk.textA else if f = 12 then some Mk.spineS else if f = 59 then some (copyCheckS 53) else if f = 20 then some (bldStringS 53 5) else none) = some s := h
 split at h'
 ·rename_i hf
  obtain rfl := Option.some.inj h'
  rw [hf]
  exact walkC_ok (limB rfl) (fun args w => Tryd.call42 args w)
 split at h'
 ·rename_i hf
  obtain rfl := Option.some.inj h'
  rw [hf]
  exact oneB rfl _
 split at h'
 ·rename_i hf
  obtain rfl := Option.some.inj h'
  rw [hf]
  exact itoaC_ok rfl (fun args w => Tryd.call38 args w)
 split at h'
 ·rename_i hf
  obtain rfl := Option.some.inj h'
  rw [hf]
  exact spineC_ok (fun args w => Tryd.call12 args w)
 split at h'
 ·rename_i hf
  obtain rfl := Option.some.inj h'
  rw [hf]
  exact copyCheck_ok Mk.ctxOk (fun args w => Tryd.call59 args w) Go.Proofs.Mk.copyCheck_used Go.Proofs.Mk.copyCheck_fresh
 split at h'
 ·rename_i hf
  obtain rfl := Option.some.inj h'
  rw [hf]
  exact bldString_ok Mk.ctxOk (fun args w => Tryd.call20 args w) Go.Proofs.Mk.bldString
 ·simp at h'
theorem lim_okQ {C' : Ctx} (hg : C'.glob = Mk.C.glob) : CallOk Tryd.prog C' (lim Mk.C) := by
 intro g args σ r h
 rw [hg]
 exact lim_ok Mk.ctxOk extOk _ _ _ _ h
theorem same_ok {C' : Ctx} (hg : C'.glob = Mk.C.glob) (f : FuncId) : CallOk Tryd.prog C' (fun g args σ => if g = f then lim Mk.C f args σ else none) := by
 intro g args σ r h
 simp only at h
 split at h
 ·rename_i hf
  subst hf
  rw [hg]
  exact lim_ok Mk.ctxOk extOk _ _ _ _ h
 ·simp at h
theorem some_of {f i : FuncId} {s : List Cell → Sto → Option Res} {rest : Option (List Cell → Sto → Option Res)} (h : (if f = i then some (lim Mk.C i) else rest) = some s) : s = lim Mk.C f ∨ rest = some s := by
 split at h
 ·rename_i hf
  subst hf
  exact .inl (Option.some.inj h).symm
 ·exact .inr h
theorem extOkQ : ExtOk Tryd.prog Mq.C := by
 intro f s h
 have h' : (if f = 11 then some (Mk.tparseS (lim Mk.C)) else if f = 5 then some (lim Mk.C 5) else if f = 6 then some (lim Mk.C 6) else if f = 7 then some (lim Mk.C 7) else if f = 8 then some (lim Mk.C 8) else if f = 9 then some (lim Mk.C 9) else if f = 10 then some (lim Mk.C 10) else if f = 12 then some (lim Mk.C 12) else if f = 13 then some (lim Mk.C 13) else if f = 14 then some (lim Mk.C 14) else none) = some s := h
 split at h'
 ·rename_i hf
  obtain rfl := Option.some.inj h'
  rw [hf]
  exact tparse_ok (lim_okQ rfl) (fun args w => Tryd.call11 args w)
 have key : s = lim Mk.C f := by
  iterate 9 (rcases some_of h' with h' | h'; exact h')
  simp at h'
 subst key
 exact same_ok rfl f
theorem own : ownKnob Tryd.prog.godebug = none := by kernel_rfl
theorem gA : Tryd.prog.globalNamed "provekernel/term.words" = some 0 := by kernel_rfl
theorem gAT : (Tryd.prog.globals[0]?).map (·.type) = some 78 := by kernel_rfl
theorem gL : Tryd.prog.globalNamed "provekernel/level.words" = some 2 := by kernel_rfl
theorem gLT : (Tryd.prog.globals[2]?).map (·.type) = some 104 := by kernel_rfl
theorem gS : Tryd.prog.globalNamed "provekernel/provekernelref.words" = some 1 := by kernel_rfl
theorem gST : (Tryd.prog.globals[1]?).map (·.type) = some 89 := by kernel_rfl
theorem gP : Tryd.prog.globalNamed "internal/strconv.uint64pow10" = some 5 := by kernel_rfl
theorem gPT : (Tryd.prog.globals[5]?).map (·.type) = some 126 := by kernel_rfl
theorem opTy : OpTy Tryd.prog 22 25 3 9 where
 hS := Tryd.underlying22
 hOp := ⟨_, Tryd.underlying25, by kernel_rfl⟩
 hInt := Tryd.underlying3
 hStr := Tryd.underlying9
 cOp := by kernel_rfl
 cInt := by kernel_rfl
 cStr := by kernel_rfl
theorem read_of {P : Program} {W : World} {name : String} {d : DataW Unit} : ∀ {l : List (String × DataW Unit)} {ps : List MemPlace}, DataW.LaidVars P W l ps → (name, d) ∈ l →
  ∃ g t cs fuel p, P.globalNamed name = some g ∧ (P.globals[g]?).map (·.type) = some t ∧ W.var? P name = some cs ∧ DataW.trod (fun _ => ()) P W 0 (fun _ => true) false fuel t cs.toList = some (d, p)
 | [], _, _, h => by simp at h
 | (n, e) :: l, ps, hL, h => by
  obtain ⟨g, t, cs, fuel, p, q, h1, h2, h3, h4, h5, _⟩ := hL
  rcases List.mem_cons.1 h with h | h
  ·simp only [Prod.mk.injEq] at h
   obtain ⟨rfl, rfl⟩ := h
   exact ⟨g, t, cs, fuel, p, h1, h2, h3, h4⟩
  ·exact read_of h5 h
theorem plain_of {W : World} (h : laidMetH Tryd.prog Rows.termLawsRow.laid W) : laidMet Tryd.prog Rows.termLawsRow.laid W := h
theorem var_heap {P : Program} {W : World} {name : String} {g : Nat} {cs : Array Value} (hg : P.globalNamed name = some g) (h : W.var? P name = some cs) : ∃ el fr, W.heap[g]? = some (.cells cs el fr) := by
 unfold World.var? at h
 rw [hg, Option.bind_some] at h
 split at h
 ·rename_i c el fr he
  obtain rfl := Option.some.inj h
  exact ⟨el, fr, he⟩
 ·simp at h
def words7V : List ByteArray := [ByteArray.mk #[], ByteArray.mk #[115, 111, 114, 116], ByteArray.mk #[99, 111, 110, 115, 116], ByteArray.mk #[97, 112, 112], ByteArray.mk #[108, 97, 109], ByteArray.mk #[112, 105], ByteArray.mk #[108, 101, 116]]
def words4V : List ByteArray := [ByteArray.mk #[], ByteArray.mk #[115], ByteArray.mk #[109, 97, 120], ByteArray.mk #[105, 109, 97, 120]]
structure Holds (W : World) (g : Nat) (cs : List Value) : Prop where
 heap : ∃ el fr, W.heap[g]? = some (.cells cs.toArray el fr)
theorem Holds.lt {W : World} {g : Nat} {cs : List Value} (h : Holds W g cs) : g < W.heap.size := by
 obtain ⟨el, fr, h⟩ := h.heap
 exact (Array.getElem?_eq_some_iff.1 h).1
theorem Holds.cell {W : World} {g : Nat} {cs : List Value} (h : Holds W g cs) (i : Nat) : W.cell? ⟨g, i, none⟩ = cs[i]? := by
 obtain ⟨el, fr, h⟩ := h.heap
 simp [World.cell?, h]
theorem holdsA {W : World} (h : laidMetH Tryd.prog Rows.termLawsRow.laid W) : Holds W 0 (words7V.map Value.string) := by
 obtain ⟨ps, hL, _⟩ := plain_of h
 obtain ⟨g', t', cs, fuel, p, hg', ht', hvar, hd⟩ := read_of (name := "provekernel/term.words") (d := Rows.laid_provekernel_term_words) hL (by simp [Rows.termLawsRow])
 obtain rfl := Option.some.inj (gA.symm.trans hg')
 obtain rfl := Option.some.inj (gAT.symm.trans ht')
 have hcs : cs.toList = words7V.map Value.string := strTab (t := 78) (e := 9) Tryd.underlying78 Tryd.underlying9 (by kernel_rfl) (by kernel_rfl) words7V rfl hd
 have hcs' : cs = (words7V.map Value.string).toArray := by apply Array.ext'; rw [hcs]
 rw [hcs'] at hvar
 exact ⟨var_heap gA hvar⟩
theorem holdsL {W : World} (h : laidMetH Tryd.prog Rows.termLawsRow.laid W) : Holds W 2 (words4V.map Value.string) := by
 obtain ⟨ps, hL, _⟩ := plain_of h
 obtain ⟨g', t', cs, fuel, p, hg', ht', hvar, hd⟩ := read_of (name := "provekernel/level.words") (d := Rows.laid_provekernel_level_words) hL (by simp [Rows.termLawsRow])
 obtain rfl := Option.some.inj (gL.symm.trans hg')
 obtain rfl := Option.some.inj (gLT.symm.trans ht')
 have hcs : cs.toList = words4V.map Value.string := strTab (t := 104) (e := 9) Tryd.underlying104 Tryd.underlying9 (by kernel_rfl) (by kernel_rfl) words4V rfl hd
 have hcs' : cs = (words4V.map Value.string).toArray := by apply Array.ext'; rw [hcs]
 rw [hcs'] at hvar
 exact ⟨var_heap gL hvar⟩
theorem holdsP {W : World} (h : laidMetH Tryd.prog Rows.termLawsRow.laid W) : Holds W 5 (Go.Lib.pow10Tab.map fun z => Value.int .u64 z) := by
 obtain ⟨ps, hL, _⟩ := plain_of h
 obtain ⟨g', t', cs, fuel, p, hg', ht', hvar, hd⟩ := read_of (name := "internal/strconv.uint64pow10") (d := Rows.laid_internal_strconv_uint64pow10) hL (by simp [Rows.termLawsRow])
 obtain rfl := Option.some.inj (gP.symm.trans hg')
 obtain rfl := Option.some.inj (gPT.symm.trans ht')
 have hd' : DataW.trod (fun _ => ()) Tryd.prog W 0 (fun _ => true) false fuel 126 cs.toList = some (Go.Lib.tabData .u64 Go.Lib.pow10Tab, p) := hd
 have hcs : cs.toList = Go.Lib.pow10Tab.map fun z => Value.int .u64 z := Go.Lib.cells_of_tab (e := 113) Tryd.underlying126 Tryd.underlying113 (by kernel_rfl) (by kernel_rfl) hd'
 have hcs' : cs = (Go.Lib.pow10Tab.map fun z => Value.int .u64 z).toArray := by apply Array.ext'; rw [hcs]
 rw [hcs'] at hvar
 exact ⟨var_heap gP hvar⟩
theorem holdsS {W : World} (h : laidMetH Tryd.prog Rows.termLawsRow.laid W) : ∃ b off cap, Holds W 1 [.slice (some ⟨b, off, none⟩) words7V.length cap] ∧
  words7V.length ≤ cap ∧ b < W.heap.size ∧ ∀ i s, words7V[i]? = some s → W.cell? ⟨b, off + i, none⟩ = some (.string s) := by
 obtain ⟨ps, hL, _⟩ := plain_of h
 obtain ⟨g', t', cs, fuel, p, hg', ht', hvar, hd⟩ := read_of (name := "provekernel/provekernelref.words") (d := Rows.laid_provekernel_provekernelref_words) hL (by simp [Rows.termLawsRow])
 obtain rfl := Option.some.inj (gS.symm.trans hg')
 obtain rfl := Option.some.inj (gST.symm.trans ht')
 obtain ⟨b, off, cap, hcs, h1, h2, h3⟩ := strSlice (t := 89) (e := 9) Tryd.underlying89 Tryd.underlying9 (by kernel_rfl) words7V (by decide) rfl hd
 have hcs' : cs = #[.slice (some ⟨b, off, none⟩) words7V.length cap] := by apply Array.ext'; rw [hcs]
 rw [hcs'] at hvar
 exact ⟨b, off, cap, ⟨var_heap gS hvar⟩, h1, h2, h3⟩
theorem num_rel {W : World} {B : Nat} {g : Nat} {zs : List Int} {k : IntKind} (h : Holds W g (zs.map fun z => Value.int k z)) (hB : zs.length ≤ B) :
  Rel (G0 W B) W (.eptr (zs.map fun z => V.int k z).length (zs.map fun z => V.int k z) 0) (.pointer (some ⟨g, 0, none⟩)) := by
 have := Rel.eptr (G := G0 W B) (w := W) (zs.map fun z => V.int k z).length (zs.map fun z => V.int k z) 0 g 0 (zs.map fun z => Value.int k z) rfl (by simp) (by simp only [G0, if_pos h.lt, List.length_map]; omega)
  (fun i c hc => by
   refine ⟨by rw [Nat.zero_add, h.cell]; exact hc, ?_⟩
   simp only [List.getElem?_map, Option.map_eq_some_iff] at hc
   obtain ⟨s, hs, rfl⟩ := hc
   rfl)
  (fun i v c hv hc => by
   simp only [List.getElem?_map, Option.map_eq_some_iff] at hv hc
   obtain ⟨s, hs, rfl⟩ := hv
   obtain ⟨s', hs', rfl⟩ := hc
   rw [hs] at hs'
   obtain rfl := Option.some.inj hs'
   exact .int _ _)
 simpa using this
theorem holds_str {W : World} {g : Nat} {ss : List ByteArray} (h : Holds W g (ss.map Value.string)) : ∀ i s, ss[i]? = some s → W.cell? ⟨g, i, none⟩ = some (.string s) := fun i s hs => by rw [h.cell]; simp [hs]
theorem holds_size {W : World} {g B : Nat} {cs : List Value} {n : Nat} (h : Holds W g cs) (hB : 0 < B) (hn : cs.length = n) : 0 < B ∧ ∃ cv el fr, W.heap[g]? = some (.cells cv el fr) ∧ cv.size = n := by
 obtain ⟨el, fr, h⟩ := h.heap
 exact ⟨hB, _, el, fr, h, by simpa using hn⟩
theorem sinv {W : World} (hL : laidMetH Tryd.prog Rows.termLawsRow.laid W) : ∃ B1, ∀ B, B1 ≤ B → SInv Mq.C.glob (G0 W B) W [] := by
 have hA := holdsA hL
 have hW := holdsL hL
 have hP := holdsP hL
 obtain ⟨b, off, cap, hS, hcapS, hbS, hwS⟩ := holdsS hL
 have hp : (Go.Lib.pow10Tab).length = 20 := by decide
 refine ⟨off + 20, fun B hB => G0_sinv ?_ ?_⟩
 ·intro g cs hg
  have hg' : (if g = 0 then some (words7V.map V.str) else if g = 1 then some [V.slice 1 9 (words7V.map fun s => [V.str s])] else if g = 2 then some (words4V.map V.str) else if g = 5 then some (Go.Lib.pow10Tab.map fun z => V.int .u64 z) else none) = some cs := hg
  split at hg'
  ·rename_i h0
   obtain rfl := Option.some.inj hg'
   rw [h0]
   exact tab_rel (holds_str hA) hA.lt (by show 7 ≤ B; omega)
  split at hg'
  ·rename_i h0
   obtain rfl := Option.some.inj hg'
   rw [h0]
   exact strSlice_rel (hS.cell 0) hS.lt hbS hcapS hwS (by omega) (by show off + 7 ≤ B; omega)
  split at hg'
  ·rename_i h0
   obtain rfl := Option.some.inj hg'
   rw [h0]
   exact tab_rel (holds_str hW) hW.lt (by show 4 ≤ B; omega)
  split at hg'
  ·rename_i h0
   obtain rfl := Option.some.inj hg'
   rw [h0]
   exact num_rel hP (by omega)
  ·simp at hg'
 ·intro g cs hg
  have hg' : (if g = 0 then some (words7V.map V.str) else if g = 1 then some [V.slice 1 9 (words7V.map fun s => [V.str s])] else if g = 2 then some (words4V.map V.str) else if g = 5 then some (Go.Lib.pow10Tab.map fun z => V.int .u64 z) else none) = some cs := hg
  split at hg'
  ·rename_i h0
   obtain rfl := Option.some.inj hg'
   rw [h0]
   exact holds_size hA (by omega) (by simp)
  split at hg'
  ·rename_i h0
   obtain rfl := Option.some.inj hg'
   rw [h0]
   exact holds_size hS (by omega) rfl
  split at hg'
  ·rename_i h0
   obtain rfl := Option.some.inj hg'
   rw [h0]
   exact holds_size hW (by omega) (by simp)
  split at hg'
  ·rename_i h0
   obtain rfl := Option.some.inj hg'
   rw [h0]
   exact holds_size hP (by omega) (by simp)
  ·simp at hg'
set_option maxRecDepth 100000 in
theorem contract (H : Type) (enc : TypeId × Value → H) (W : World) (base : Nat) (args : Array Value) (ds gs : List (DataW H)) (before : List MemPlace)
    (hval : ∀ (j : Nat) t v, Tryd.f3.params[j]? = some t → args[j]? = some v → Value.okWide Tryd.prog W .any base t v)
    (hW : DataW.Whole enc Tryd.prog Tryd.f3.params.toList Rows.termLawsSpec.vars false W args.toList ds gs before) (hL : laidMetH Tryd.prog Rows.termLawsRow.laid W)
    (hw : (DataW.weightsEach Tryd.prog (Tryd.f3.params.toList ++ []) (ds ++ gs)).all (· ≤ reachBytes) = true) :
    Calls Tryd.prog 3 args W fun e W' => ∃ v, e = .returned v ∧ Rows.termLawsSpec.post enc Tryd.prog Tryd.f3 false true false false W args v W' := by
  obtain ⟨p, q, hA, hV, _, _, _⟩ := id hW
  rw [Tryd.params3] at hA hval hw
  obtain ⟨v0, vs0, d0, ds0, p0, q0, hargs, rfl, rfl, h0, r0⟩ := trodAll_cons hA
  obtain ⟨rfl, rfl, rfl⟩ := trodAll_nil r0
  obtain rfl : args = #[v0] := by cases args; simp_all
  obtain ⟨rfl, rfl⟩ := trodVars_none hV
  obtain ⟨L, B0, hrel, _, hfit, hdat⟩ := script_rel opTy (hval 0 22 v0 rfl rfl) h0
  obtain ⟨B1, hS⟩ := sinv hL
  have hS := hS (max B0 B1) (Nat.le_max_right _ _)
  obtain ⟨hlen, hsz⟩ := script_sized opTy (of_decide_eq_true (by kernel_rfl)) hdat hw
  obtain ⟨σ', hlim⟩ := Mq.termLaws_law L (by omega) (fun o ho => ⟨by have := (hsz o ho).1; omega, by have := (hsz o ho).2.1; omega, (hfit o ho).a⟩) []
  have hcall := ((lim_ok Mq.ctxOk extOkQ) _ _ _ _ hlim).2 (G0 W (max B0 B1)) W [v0] hS (G0_clean _ _ _) rfl (fun i c x hc hx => by
    match i with
    | 0 => simp at hc hx; subst hc; subst hx; exact ⟨hrel _ (Nat.le_max_left _ _), fun ho => by simp at ho⟩
    | i + 1 => simp at hc)
  refine hcall.mono fun e W' ⟨G', hE, _, hend⟩ => ?_
  obtain ⟨cs, hcl, he, hcr⟩ := hend
  obtain ⟨x, rfl⟩ : ∃ x, cs = [x] := by
    match cs, hcl with
    | [x], _ => exact ⟨x, rfl⟩
  have hx := rel_bool (hcr 0 _ x rfl rfl).1
  subst hx
  exact ⟨.bool true, he, post_true Tryd.params3 (by kernel_rfl) Tryd.underlying4 rfl rfl (by kernel_rfl) (by kernel_rfl) (of_decide_eq_true (by kernel_rfl)) hW hE⟩
noncomputable def laidWorld (os : Os) : World := (World.holding Tryd.prog os ⟨#[], #[], []⟩).layVars Tryd.prog Rows.termLawsRow.laid
theorem laid_met (os : Os) : laidMetH Tryd.prog Rows.termLawsRow.laid ((laidWorld os).forCall (fun _ _ => 0) ⟨#[], #[.slice none 0 0], []⟩).memory := by
 have e1 : (Rows.termLawsRow.laid.filter fun x => (Rows.termLawsRow.laid.map (·.1)).contains x.1) = Rows.termLawsRow.laid := List.filter_eq_self.2 fun x hx => List.contains_iff_mem.2 (List.mem_map.2 ⟨x, hx, rfl⟩)
 have e2 : (Rows.termLawsRow.laid.filter fun x => !(Rows.termLawsRow.laid.map (·.1)).contains x.1) = [] := List.filter_eq_nil_iff.2 fun x hx => by rw [List.contains_iff_mem.2 (List.mem_map.2 ⟨x, hx, rfl⟩)]; simp
 have h : laidMet Tryd.prog Rows.termLawsRow.laid (laidWorld os) := laidMet_layVars (w0 := World.holding Tryd.prog os ⟨#[], #[], []⟩) (Rows.termLawsRow.laid.map (·.1)) [] (by rw [e1]; rfl) (by rw [e1]; kernel_rfl) (by rw [e1]; kernel_rfl) (by rw [e2]; exact LaidIn.none)
 have h2 : laidMet Tryd.prog Rows.termLawsRow.laid ((laidWorld os).forCall (fun _ _ => 0) ⟨#[], #[.slice none 0 0], []⟩).memory := h.of_heap (by simp [World.memory, World.forCall, Input.heap])
 exact h2
theorem reads (os : Os) {H : Type} (enc : TypeId × Value → H) : ∃ places, DataW.whole enc Tryd.prog ((laidWorld os).forCall (fun _ _ => 0) ⟨#[], #[.slice none 0 0], []⟩).memory Tryd.f3.params.toList Rows.termLawsSpec.vars false #[Value.slice none 0 0].toList 8 = some ([.nil], [], places) :=
 ⟨[], by kernel_rfl⟩
set_option maxRecDepth 100000 in
theorem lifted (os : Os) (started : os.Started) (H : Type) (enc : TypeId × Value → H) (F : Stop.Interp) :
  ReturnsInHanded {} Tryd.checked os 3 .any ((OpenSpec.ofChange Rows.termLawsSpec).preRow enc Tryd.prog Tryd.f3 Rows.termLawsRow.domain false Rows.termLawsRow.laid) (((OpenSpec.ofChange Rows.termLawsSpec).at F).post enc Tryd.prog Tryd.f3 false true false false) := by
 obtain ⟨places, hx⟩ := reads os enc
 refine returnsInHanded_of_row (C := Tryd.checked) (s := OpenSpec.ofChange Rows.termLawsSpec) own started (by kernel_rfl) Tryd.func3
  (witness_row_atRef (enc := enc) (C := Tryd.checked) false (laidWorld os) #[.slice none 0 0] (World.layVars_os _ _ _) (by kernel_rfl) (by kernel_rfl) (by kernel_rfl)
   (OpenSpec.preRow_of_cond 8 hx (by kernel_rfl) (fun k hk => by cases hk) (by kernel_rfl) (laid_met os))) ?_
 intro W base args ds gs before hval hW _ _ hw hL _ _
 exact contract H enc W base args ds gs before hval hW hL hw
theorem said : Rows.TermLawsSaid :=
 OpenClaim.holds_of_cond 3 Tryd.f3 rfl rfl rfl rfl rfl rfl rfl ⟨rfl, rfl, rfl, rfl, rfl⟩ rfl rfl rfl rfl rfl (by kernel_rfl) Tryd.func3 (by kernel_rfl)
  (of_decide_eq_true (by kernel_rfl)) (by unfold Func.isWrapper; first | (rw [if_pos (by decide +kernel)]; kernel_rfl) | (rw [if_neg (by decide +kernel)]; exact ⟨rfl, rfl⟩))
  (fun os started H enc _ F => by rw [OpenClaim.pre_eq_preRow]; exact lifted os started H enc F)
theorem plain (f : FuncId) (fn : Func) (hf : Tryd.pinned.checked.prog.funcNamed "provekernel/provekernellaw.TermLaws" = some f) (hfn : Tryd.pinned.checked.prog.funcs[f]? = some fn) :
  true = Tryd.pinned.checked.prog.looks [] ∧ ∀ (j : Nat) t, fn.params[j]? = some t → Tryd.pinned.checked.prog.wantsStandIn t = false := by
 obtain rfl : f = 3 := Option.some.inj ((show Tryd.prog.funcNamed "provekernel/provekernellaw.TermLaws" = some 3 by kernel_rfl).symm.trans hf) |>.symm
 obtain rfl : fn = Tryd.f3 := (Option.some.inj (Tryd.func3.symm.trans hfn)).symm
 refine ⟨by kernel_rfl, fun j t ht => ?_⟩
 rw [Tryd.params3] at ht
 obtain rfl : t = 22 := by simpa using Array.mem_of_getElem? ht
 exact (show Tryd.prog.wantsStandIn 22 = false by kernel_rfl)
theorem card : Rows.TermLawsCardSaid :=
 Claim7.holds_tied_plain_at .later [] _ _ _ _ said (fun _ h => by cases h) (by kernel_rfl) (fun _ h => by cases h) termLaws_row_tie rfl ⟨rfl, rfl⟩ (by kernel_rfl) rfl plain (by kernel_rfl)
#print axioms card
end Go.Proofs.YtifoglinlcfelaaDoor.LvL
