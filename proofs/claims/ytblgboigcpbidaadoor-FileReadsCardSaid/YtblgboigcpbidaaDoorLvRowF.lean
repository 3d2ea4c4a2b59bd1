/- FileReads: for every script the law returns true, and the script reads afterwards as it read before. -/
import Derived.Test.YtblgboigcpbidaaDoorAbMkY
import Derived.Test.YtblgboigcpbidaaDoorAbMk1
import Derived.Test.YtblgboigcpbidaaDoorCards
import Derived.Test.YtblgboigcpbidaaDoorTie
import Derived.WalkKit
import Derived.ProofKit
import Derived.OpenShut
import Derived.Deep.DeepHandedRow
import Derived.Deep.DeepWitnessRowRef
import Derived.Lib.LaidTab
import Derived.Lay
import Derived.LaidLaws
import Derived.Stop.LaidErr
import Derived.LaidSub
import Derived.RowKitTokens
import Derived.ChangeVars
set_option linter.unusedSimpArgs false
set_option linter.unusedVariables false
set_option linter.deprecated false
namespace Go.Proofs.YtblgboigcpbidaaDoor.LvFR
open Go.ChangeShapes Go.WideShapes Go.ChangeAt Go.RowKit Go.Ab
theorem extOk : ExtOk Tryd.prog Mk.C := by
 intro f s h
 have h' : (if f = 22 then some Mk.textA else if f = 18 then some Mk.atoiA else if f = 21 then some Mk.joinA else if f = 15 then some Mk.kindsA else if f = 20 then some (copyCheckS 53) else if f = 12 then some (bldStringE 53 5) else none) = some s := h
 split at h'
 ·rename_i hf
  obtain rfl := Option.some.inj h'
  rw [hf]
  exact itoaC_ok rfl (fun args w => Tryd.call22 args w)
 split at h'
 ·rename_i hf
  obtain rfl := Option.some.inj h'
  rw [hf]
  exact atoiC_ok rfl (fun args w => Tryd.call18 args w)
 split at h'
 ·rename_i hf
  obtain rfl := Option.some.inj h'
  rw [hf]
  exact joinC_ok (fun args w => Tryd.call21 args w)
 split at h'
 ·rename_i hf
  obtain rfl := Option.some.inj h'
  rw [hf]
  exact kindsC_ok (fun args w => Tryd.call15 args w)
 split at h'
 ·rename_i hf
  obtain rfl := Option.some.inj h'
  rw [hf]
  exact copyCheck_ok Mk.ctxOk (fun args w => Tryd.call20 args w) Go.Proofs.Mk.copyCheck_used Go.Proofs.Mk.copyCheck_fresh
 split at h'
 ·rename_i hf
  obtain rfl := Option.some.inj h'
  rw [hf]
  exact bldStringE_ok (bldString_ok Mk.ctxOk (fun args w => Tryd.call12 args w) Go.Proofs.Mk.bldString) (fun args w => Tryd.call12 args w) Go.Proofs.Mk.bldEmpty
 ·simp at h'
theorem lim_okQ {C' : Ctx} (hg : C'.glob = Mk.C.glob) : CallOk Tryd.prog C' (lim Mk.C) := by
 intro g args σ r h
 rw [hg]
 exact lim_ok Mk.ctxOk extOk _ _ _ _ h
theorem same_ok {C' : Ctx} (hg : C'.glob = Mk.C.glob) (f : FuncId) : CallOk Tryd.prog C' (fun g args σ => if g = f then lim Mk.C f args σ else none) := by
 intro g args σ r h
 simp only at h
 split at h
 ·rename_i hf
  subst hf
  rw [hg]
  exact lim_ok Mk.ctxOk extOk _ _ _ _ h
 ·simp at h
theorem extOkQ : ExtOk Tryd.prog Mq.C := by
 intro f s h
 have h' : (if f = 4 then some (Mk.fparseS (lim Mk.C)) else if f = 5 then some (lim Mk.C 5) else none) = some s := h
 split at h'
 ·rename_i hf
  obtain rfl := Option.some.inj h'
  rw [hf]
  exact fparse_ok (lim_okQ rfl) (fun args w => Tryd.call4 args w)
 split at h'
 ·rename_i hf
  obtain rfl := Option.some.inj h'
  rw [hf]
  exact same_ok rfl _
 ·simp at h'
theorem own : ownKnob Tryd.prog.godebug = none := by kernel_rfl
theorem gA : Tryd.prog.globalNamed "provekernel/term.words" = some 0 := by kernel_rfl
theorem gAT : (Tryd.prog.globals[0]?).map (·.type) = some 74 := by kernel_rfl
theorem gL : Tryd.prog.globalNamed "provekernel/level.words" = some 5 := by kernel_rfl
theorem gLT : (Tryd.prog.globals[5]?).map (·.type) = some 119 := by kernel_rfl
theorem gP : Tryd.prog.globalNamed "internal/strconv.uint64pow10" = some 4 := by kernel_rfl
theorem gPT : (Tryd.prog.globals[4]?).map (·.type) = some 114 := by kernel_rfl
theorem gE : Tryd.prog.globalNamed "strconv.ErrSyntax" = some 1 := by kernel_rfl
theorem gET : (Tryd.prog.globals[1]?).map (·.type) = some 25 := by kernel_rfl
theorem opTy : OpTy Tryd.prog 22 29 3 9 where
 hS := Tryd.underlying22
 hOp := ⟨_, Tryd.underlying29, by kernel_rfl⟩
 hInt := Tryd.underlying3
 hStr := Tryd.underlying9
 cOp := by kernel_rfl
 cInt := by kernel_rfl
 cStr := by kernel_rfl
theorem read_of {P : Program} {W : World} {name : String} {d : DataW Unit} : ∀ {l : List (String × DataW Unit)} {ps : List MemPlace}, DataW.LaidVars P W l ps → (name, d) ∈ l →
  ∃ g t cs fuel p, P.globalNamed name = some g ∧ (P.globals[g]?).map (·.type) = some t ∧ W.var? P name = some cs ∧ DataW.trod (fun _ => ()) P W 0 (fun _ => true) false fuel t cs.toList = some (d, p)
 | [], _, _, h => by simp at h
 | (n, e) :: l, ps, hL, h => by
  obtain ⟨g, t, cs, fuel, p, q, h1, h2, h3, h4, h5, _⟩ := hL
  rcases List.mem_cons.1 h with h | h
  ·simp only [Prod.mk.injEq] at h
   obtain ⟨rfl, rfl⟩ := h
   exact ⟨g, t, cs, fuel, p, h1, h2, h3, h4⟩
  ·exact read_of h5 h
theorem plain_of {W : World} (h : laidMetH Tryd.prog Rows.fileReadsRow.laid W) : laidMet Tryd.prog Rows.fileReadsRow.laid W := h
theorem var_heap {P : Program} {W : World} {name : String} {g : Nat} {cs : Array Value} (hg : P.globalNamed name = some g) (h : W.var? P name = some cs) : ∃ el fr, W.heap[g]? = some (.cells cs el fr) := by
 unfold World.var? at h
 rw [hg, Option.bind_some] at h
 split at h
 ·rename_i c el fr he
  obtain rfl := Option.some.inj h
  exact ⟨el, fr, he⟩
 ·simp at h
def words7V : List ByteArray := [ByteArray.mk #[], ByteArray.mk #[115, 111, 114, 116], ByteArray.mk #[99, 111, 110, 115, 116], ByteArray.mk #[97, 112, 112], ByteArray.mk #[108, 97, 109], ByteArray.mk #[112, 105], ByteArray.mk #[108, 101, 116]]
def words4V : List ByteArray := [ByteArray.mk #[], ByteArray.mk #[115], ByteArray.mk #[109, 97, 120], ByteArray.mk #[105, 109, 97, 120]]
structure Holds (W : World) (g : Nat) (cs : List Value) : Prop where
 heap : ∃ el fr, W.heap[g]? = some (.cells cs.toArray el fr)
theorem Holds.lt {W : World} {g : Nat} {cs : List Value} (h : Holds W g cs) : g < W.heap.size := by
 obtain ⟨el, fr, h⟩ := h.heap
 exact (Array.getElem?_eq_some_iff.1 h).1
theorem Holds.cell {W : World} {g : Nat} {cs : List Value} (h : Holds W g cs) (i : Nat) : W.cell? ⟨g, i, none⟩ = cs[i]? := by
 obtain ⟨el, fr, h⟩ := h.heap
 simp [World.cell?, h]
theorem holdsA {W : World} (h : laidMetH Tryd.prog Rows.fileReadsRow.laid W) : Holds W 0 (words7V.map Value.string) := by
 obtain ⟨ps, hL, _⟩ := plain_of h
 obtain ⟨g', t', cs, fuel, p, hg', ht', hvar, hd⟩ := read_of (name := "provekernel/term.words") (d := Rows.laid_provekernel_term_words) hL (by simp [Rows.fileReadsRow])
 obtain rfl := Option.some.inj (gA.symm.trans hg')
 obtain rfl := Option.some.inj (gAT.symm.trans ht')
 have hcs : cs.toList = words7V.map Value.string := strTab (t := 74) (e := 9) Tryd.underlying74 Tryd.underlying9 (by kernel_rfl) (by kernel_rfl) words7V rfl hd
 have hcs' : cs = (words7V.map Value.string).toArray := by apply Array.ext'; rw [hcs]
 rw [hcs'] at hvar
 exact ⟨var_heap gA hvar⟩
theorem holdsL {W : World} (h : laidMetH Tryd.prog Rows.fileReadsRow.laid W) : Holds W 5 (words4V.map Value.string) := by
 obtain ⟨ps, hL, _⟩ := plain_of h
 obtain ⟨g', t', cs, fuel, p, hg', ht', hvar, hd⟩ := read_of (name := "provekernel/level.words") (d := Rows.laid_provekernel_level_words) hL (by simp [Rows.fileReadsRow])
 obtain rfl := Option.some.inj (gL.symm.trans hg')
 obtain rfl := Option.some.inj (gLT.symm.trans ht')
 have hcs : cs.toList = words4V.map Value.string := strTab (t := 119) (e := 9) Tryd.underlying119 Tryd.underlying9 (by kernel_rfl) (by kernel_rfl) words4V rfl hd
 have hcs' : cs = (words4V.map Value.string).toArray := by apply Array.ext'; rw [hcs]
 rw [hcs'] at hvar
 exact ⟨var_heap gL hvar⟩
theorem holdsP {W : World} (h : laidMetH Tryd.prog Rows.fileReadsRow.laid W) : Holds W 4 (Go.Lib.pow10Tab.map fun z => Value.int .u64 z) := by
 obtain ⟨ps, hL, _⟩ := plain_of h
 obtain ⟨g', t', cs, fuel, p, hg', ht', hvar, hd⟩ := read_of (name := "internal/strconv.uint64pow10") (d := Rows.laid_internal_strconv_uint64pow10) hL (by simp [Rows.fileReadsRow])
 obtain rfl := Option.some.inj (gP.symm.trans hg')
 obtain rfl := Option.some.inj (gPT.symm.trans ht')
 have hd' : DataW.trod (fun _ => ()) Tryd.prog W 0 (fun _ => true) false fuel 114 cs.toList = some (Go.Lib.tabData .u64 Go.Lib.pow10Tab, p) := hd
 have hcs : cs.toList = Go.Lib.pow10Tab.map fun z => Value.int .u64 z := Go.Lib.cells_of_tab (e := 91) Tryd.underlying114 Tryd.underlying91 (by kernel_rfl) (by kernel_rfl) hd'
 have hcs' : cs = (Go.Lib.pow10Tab.map fun z => Value.int .u64 z).toArray := by apply Array.ext'; rw [hcs]
 rw [hcs'] at hvar
 exact ⟨var_heap gP hvar⟩
theorem holdsE {W : World} (h : laidMetH Tryd.prog Rows.fileReadsRow.laid W) : ∃ a, Holds W 1 [.iface 109 (.pointer (some a))] := by
 have hr : ∀ u, Tryd.prog.typeName? 3 u = some ("*" ++ "errors.errorString") → u = 109 := typeName_ptr_named (by kernel_rfl) (by kernel_rfl) (by decide)
 have hl := plain_of h
 obtain ⟨a, s, hvar, _⟩ := laid_sentinel hl.tail.tail.tail.tail gE gET Tryd.underlying25 hr Tryd.underlying109 Tryd.underlying111 rfl rfl Tryd.underlying9 (by kernel_rfl) (by kernel_rfl)
 exact ⟨a, ⟨var_heap gE hvar⟩⟩
theorem num_rel {W : World} {B : Nat} {g : Nat} {zs : List Int} {k : IntKind} (h : Holds W g (zs.map fun z => Value.int k z)) (hB : zs.length ≤ B) :
  Rel (G0 W B) W (.eptr (zs.map fun z => V.int k z).length (zs.map fun z => V.int k z) 0) (.pointer (some ⟨g, 0, none⟩)) := by
 have := Rel.eptr (G := G0 W B) (w := W) (zs.map fun z => V.int k z).length (zs.map fun z => V.int k z) 0 g 0 (zs.map fun z => Value.int k z) rfl (by simp) (by simp only [G0, if_pos h.lt, List.length_map]; omega)
  (fun i c hc => by
   refine ⟨by rw [Nat.zero_add, h.cell]; exact hc, ?_⟩
   simp only [List.getElem?_map, Option.map_eq_some_iff] at hc
   obtain ⟨s, hs, rfl⟩ := hc
   rfl)
  (fun i v c hv hc => by
   simp only [List.getElem?_map, Option.map_eq_some_iff] at hv hc
   obtain ⟨s, hs, rfl⟩ := hv
   obtain ⟨s', hs', rfl⟩ := hc
   rw [hs] at hs'
   obtain rfl := Option.some.inj hs'
   exact .int _ _)
 simpa using this
theorem holds_str {W : World} {g : Nat} {ss : List ByteArray} (h : Holds W g (ss.map Value.string)) : ∀ i s, ss[i]? = some s → W.cell? ⟨g, i, none⟩ = some (.string s) := fun i s hs => by rw [h.cell]; simp [hs]
theorem holds_size {W : World} {g B : Nat} {cs : List Value} {n : Nat} (h : Holds W g cs) (hB : 0 < B) (hn : cs.length = n) : 0 < B ∧ ∃ cv el fr, W.heap[g]? = some (.cells cv el fr) ∧ cv.size = n := by
 obtain ⟨el, fr, h⟩ := h.heap
 exact ⟨hB, _, el, fr, h, by simpa using hn⟩
theorem sinv {W : World} (hL : laidMetH Tryd.prog Rows.fileReadsRow.laid W) : ∃ B1, ∀ B, B1 ≤ B → SInv Mq.C.glob (G0 W B) W [] := by
 have hA := holdsA hL
 have hW := holdsL hL
 have hP := holdsP hL
 obtain ⟨ea, hE⟩ := holdsE hL
 have hp : (Go.Lib.pow10Tab).length = 20 := by decide
 refine ⟨20, fun B hB => G0_sinv ?_ ?_⟩
 ·intro g cs hg
  have hg' : (if g = 0 then some (words7V.map V.str) else if g = 5 then some (words4V.map V.str) else if g = 4 then some (Go.Lib.pow10Tab.map fun z => V.int .u64 z) else if g = 1 then some [V.iface 109 V.any] else none) = some cs := hg
  split at hg'
  ·rename_i h0
   obtain rfl := Option.some.inj hg'
   rw [h0]
   exact tab_rel (holds_str hA) hA.lt (by show 7 ≤ B; omega)
  split at hg'
  ·rename_i h0
   obtain rfl := Option.some.inj hg'
   rw [h0]
   exact tab_rel (holds_str hW) hW.lt (by show 4 ≤ B; omega)
  split at hg'
  ·rename_i h0
   obtain rfl := Option.some.inj hg'
   rw [h0]
   exact num_rel hP (by omega)
  split at hg'
  ·rename_i h0
   obtain rfl := Option.some.inj hg'
   rw [h0]
   refine Rel.eptr 1 [V.iface 109 V.any] 0 1 0 [.iface 109 (.pointer (some ea))] rfl rfl ?_ ?_ ?_
   ·show 0 + 1 ≤ if 1 < W.heap.size then B else 0
    rw [if_pos hE.lt]; omega
   ·intro i c hc'
    match i with
    | 0 => simp at hc'; subst hc'; exact ⟨by rw [hE.cell]; rfl, rfl⟩
    | i + 1 => simp at hc'
   ·intro i v c hv hc'
    match i with
    | 0 => simp at hv hc'; subst hv; subst hc'; exact .iface _ _ _ (.any _ rfl)
    | i + 1 => simp at hv
  ·simp at hg'
 ·intro g cs hg
  have hg' : (if g = 0 then some (words7V.map V.str) else if g = 5 then some (words4V.map V.str) else if g = 4 then some (Go.Lib.pow10Tab.map fun z => V.int .u64 z) else if g = 1 then some [V.iface 109 V.any] else none) = some cs := hg
  split at hg'
  ·rename_i h0
   obtain rfl := Option.some.inj hg'
   rw [h0]
   exact holds_size hA (by omega) (by simp)
  split at hg'
  ·rename_i h0
   obtain rfl := Option.some.inj hg'
   rw [h0]
   exact holds_size hW (by omega) (by simp)
  split at hg'
  ·rename_i h0
   obtain rfl := Option.some.inj hg'
   rw [h0]
   exact holds_size hP (by omega) (by simp)
  split at hg'
  ·rename_i h0
   obtain rfl := Option.some.inj hg'
   rw [h0]
   exact holds_size hE (by omega) rfl
  ·simp at hg'
set_option maxRecDepth 100000 in
theorem contract (H : Type) (enc : TypeId × Value → H) (W : World) (base : Nat) (args : Array Value) (ds gs : List (DataW H)) (before : List MemPlace)
    (hval : ∀ (j : Nat) t v, Tryd.f3.params[j]? = some t → args[j]? = some v → Value.okWide Tryd.prog W .any base t v)
    (hW : DataW.Whole enc Tryd.prog Tryd.f3.params.toList Rows.fileReadsSpec.vars false W args.toList ds gs before) (hL : laidMetH Tryd.prog Rows.fileReadsRow.laid W)
    (hw : (DataW.weightsEach Tryd.prog (Tryd.f3.params.toList ++ []) (ds ++ gs)).all (· ≤ reachBytes) = true) :
    Calls Tryd.prog 3 args W fun e W' => ∃ v, e = .returned v ∧ Rows.fileReadsSpec.post enc Tryd.prog Tryd.f3 false true false false W args v W' := by
  obtain ⟨p, q, hA, hV, _, _, _⟩ := id hW
  rw [Tryd.params3] at hA hval hw
  obtain ⟨v0, vs0, d0, ds0, p0, q0, hargs, rfl, rfl, h0, r0⟩ := trodAll_cons hA
  obtain ⟨rfl, rfl, rfl⟩ := trodAll_nil r0
  obtain rfl : args = #[v0] := by cases args; simp_all
  obtain ⟨rfl, rfl⟩ := trodVars_none hV
  obtain ⟨L, B0, hrel, _, _, hdat⟩ := script_rel opTy (hval 0 22 v0 rfl rfl) h0
  obtain ⟨B1, hS⟩ := sinv hL
  have hS := hS (max B0 B1) (Nat.le_max_right _ _)
  obtain ⟨hlen, hsz⟩ := script_sized opTy (of_decide_eq_true (by kernel_rfl)) hdat hw
  obtain ⟨σ', hlim⟩ := Mq.fileReads_law L (by omega) (fun o ho => by have := (hsz o ho).1; omega) []
  have hcall := ((lim_ok Mq.ctxOk extOkQ) _ _ _ _ hlim).2 (G0 W (max B0 B1)) W [v0] hS (G0_clean _ _ _) rfl (fun i c x hc hx => by
    match i with
    | 0 => simp at hc hx; subst hc; subst hx; exact ⟨hrel _ (Nat.le_max_left _ _), fun ho => by simp at ho⟩
    | i + 1 => simp at hc)
  refine hcall.mono fun e W' ⟨G', hE, _, hend⟩ => ?_
  obtain ⟨cs, hcl, he, hcr⟩ := hend
  obtain ⟨x, rfl⟩ : ∃ x, cs = [x] := by
    match cs, hcl with
    | [x], _ => exact ⟨x, rfl⟩
  have hx := rel_bool (hcr 0 _ x rfl rfl).1
  subst hx
  exact ⟨.bool true, he, post_true Tryd.params3 (by kernel_rfl) Tryd.underlying4 rfl rfl (by kernel_rfl) (by kernel_rfl) (of_decide_eq_true (by kernel_rfl)) hW hE⟩
noncomputable def laidWorld (os : Os) : World := (World.holding Tryd.prog os ⟨#[], #[], []⟩).layVars Tryd.prog Rows.fileReadsRow.laid
theorem laid_met (os : Os) : laidMetH Tryd.prog Rows.fileReadsRow.laid ((laidWorld os).forCall (fun _ _ => 0) ⟨#[], #[.slice none 0 0], []⟩).memory := by
 have e1 : (Rows.fileReadsRow.laid.filter fun x => (Rows.fileReadsRow.laid.map (·.1)).contains x.1) = Rows.fileReadsRow.laid := List.filter_eq_self.2 fun x hx => List.contains_iff_mem.2 (List.mem_map.2 ⟨x, hx, rfl⟩)
 have e2 : (Rows.fileReadsRow.laid.filter fun x => !(Rows.fileReadsRow.laid.map (·.1)).contains x.1) = [] := List.filter_eq_nil_iff.2 fun x hx => by rw [List.contains_iff_mem.2 (List.mem_map.2 ⟨x, hx, rfl⟩)]; simp
 have h : laidMet Tryd.prog Rows.fileReadsRow.laid (laidWorld os) := laidMet_layVars (w0 := World.holding Tryd.prog os ⟨#[], #[], []⟩) (Rows.fileReadsRow.laid.map (·.1)) [] (by rw [e1]; rfl) (by rw [e1]; kernel_rfl) (by rw [e1]; kernel_rfl) (by rw [e2]; exact LaidIn.none)
 have h2 : laidMet Tryd.prog Rows.fileReadsRow.laid ((laidWorld os).forCall (fun _ _ => 0) ⟨#[], #[.slice none 0 0], []⟩).memory := h.of_heap (by simp [World.memory, World.forCall, Input.heap])
 exact h2
theorem reads (os : Os) {H : Type} (enc : TypeId × Value → H) : ∃ places, DataW.whole enc Tryd.prog ((laidWorld os).forCall (fun _ _ => 0) ⟨#[], #[.slice none 0 0], []⟩).memory Tryd.f3.params.toList Rows.fileReadsSpec.vars false #[Value.slice none 0 0].toList 8 = some ([.nil], [], places) :=
 ⟨[], by kernel_rfl⟩
set_option maxRecDepth 100000 in
theorem lifted (os : Os) (started : os.Started) (H : Type) (enc : TypeId × Value → H) (F : Stop.Interp) :
  ReturnsInHanded {} Tryd.checked os 3 .any ((OpenSpec.ofChange Rows.fileReadsSpec).preRow enc Tryd.prog Tryd.f3 Rows.fileReadsRow.domain false Rows.fileReadsRow.laid) (((OpenSpec.ofChange Rows.fileReadsSpec).at F).post enc Tryd.prog Tryd.f3 false true false false) := by
 obtain ⟨places, hx⟩ := reads os enc
 refine returnsInHanded_of_row (C := Tryd.checked) (s := OpenSpec.ofChange Rows.fileReadsSpec) own started (by kernel_rfl) Tryd.func3
  (witness_row_atRef (enc := enc) (C := Tryd.checked) false (laidWorld os) #[.slice none 0 0] (World.layVars_os _ _ _) (by kernel_rfl) (by kernel_rfl) (by kernel_rfl)
   (OpenSpec.preRow_of_cond 8 hx (by kernel_rfl) (fun k hk => by cases hk) (by kernel_rfl) (laid_met os))) ?_
 intro W base args ds gs before hval hW _ _ hw hL _ _
 exact contract H enc W base args ds gs before hval hW hL hw
theorem said : Rows.FileReadsSaid :=
 OpenClaim.holds_of_cond 3 Tryd.f3 rfl rfl rfl rfl rfl rfl rfl ⟨rfl, rfl, rfl, rfl, rfl⟩ rfl rfl rfl rfl rfl (by kernel_rfl) Tryd.func3 (by kernel_rfl)
  (of_decide_eq_true (by kernel_rfl)) (by unfold Func.isWrapper; first | (rw [if_pos (by decide +kernel)]; kernel_rfl) | (rw [if_neg (by decide +kernel)]; exact ⟨rfl, rfl⟩))
  (fun os started H enc _ F => by rw [OpenClaim.pre_eq_preRow]; exact lifted os started H enc F)
theorem plain (f : FuncId) (fn : Func) (hf : Tryd.pinned.checked.prog.funcNamed "provekernel/provekernellaw.FileReads" = some f) (hfn : Tryd.pinned.checked.prog.funcs[f]? = some fn) :
  true = Tryd.pinned.checked.prog.looks [] ∧ ∀ (j : Nat) t, fn.params[j]? = some t → Tryd.pinned.checked.prog.wantsStandIn t = false := by
 obtain rfl : f = 3 := Option.some.inj ((show Tryd.prog.funcNamed "provekernel/provekernellaw.FileReads" = some 3 by kernel_rfl).symm.trans hf) |>.symm
 obtain rfl : fn = Tryd.f3 := (Option.some.inj (Tryd.func3.symm.trans hfn)).symm
 refine ⟨by kernel_rfl, fun j t ht => ?_⟩
 rw [Tryd.params3] at ht
 obtain rfl : t = 22 := by simpa using Array.mem_of_getElem? ht
 exact (show Tryd.prog.wantsStandIn 22 = false by kernel_rfl)
theorem card : Rows.FileReadsCardSaid :=
 Claim7.holds_tied_plain_at .later [] _ _ _ _ said (fun _ h => by cases h) (by kernel_rfl) (fun _ h => by cases h) fileReads_row_tie rfl ⟨rfl, rfl⟩ (by kernel_rfl) rfl plain (by kernel_rfl)
#print axioms card
end Go.Proofs.YtblgboigcpbidaaDoor.LvFR
