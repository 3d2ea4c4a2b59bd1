/- Files: for every script the law returns true, and the script reads afterwards as it read before. -/
import Derived.Test.YtblgboigcpbidaaGreatDoorAbMkY
import Derived.Test.YtblgboigcpbidaaGreatDoorAbMk1
import Derived.Test.YtblgboigcpbidaaGreatDoorCards
import Derived.Test.YtblgboigcpbidaaGreatDoorTie
import Derived.WalkKit
import Derived.ProofKit
import Derived.OpenShut
import Derived.Deep.DeepHandedRow
import Derived.Deep.DeepWitnessRowRef
import Derived.Lib.LaidTab
import Derived.Lay
import Derived.LaidLaws
import Derived.LaidHandle
import Derived.Stop.LaidErr
import Derived.LaidSub
import Derived.RowKitTokens
import Derived.ChangeVars
set_option linter.unusedSimpArgs false
set_option linter.unusedVariables false
set_option linter.deprecated false
namespace Go.Proofs.YtblgboigcpbidaaGreatDoor.LvFS
open Go.ChangeShapes Go.WideShapes Go.ChangeAt Go.RowKit Go.Ab
theorem extOk : ExtOk Tryz.prog Mk.C := by
 intro f s h
 have h' : (if f = 24 then some Mk.textA else if f = 27 then some Mk.textA else if f = 34 then some Mk.atoiA else if f = 23 then some Mk.joinA else if f = 31 then some Mk.kindsA else if f = 40 then some (copyCheckS 63) else if f = 22 then some (bldStringE 63 5) else none) = some s := h
 split at h'
 ·rename_i hf
  obtain rfl := Option.some.inj h'
  rw [hf]
  exact itoaC_ok rfl (fun args w => Tryz.call24 args w)
 split at h'
 ·rename_i hf
  obtain rfl := Option.some.inj h'
  rw [hf]
  exact digitsC_ok (fun args w => Tryz.call27 args w)
 split at h'
 ·rename_i hf
  obtain rfl := Option.some.inj h'
  rw [hf]
  exact atoiC_ok rfl (fun args w => Tryz.call34 args w)
 split at h'
 ·rename_i hf
  obtain rfl := Option.some.inj h'
  rw [hf]
  exact joinC_ok (fun args w => Tryz.call23 args w)
 split at h'
 ·rename_i hf
  obtain rfl := Option.some.inj h'
  rw [hf]
  exact kindsC_ok (fun args w => Tryz.call31 args w)
 split at h'
 ·rename_i hf
  obtain rfl := Option.some.inj h'
  rw [hf]
  exact copyCheck_ok Mk.ctxOk (fun args w => Tryz.call40 args w) Go.Proofs.Mk.copyCheck_used Go.Proofs.Mk.copyCheck_fresh
 split at h'
 ·rename_i hf
  obtain rfl := Option.some.inj h'
  rw [hf]
  exact bldStringE_ok (bldString_ok Mk.ctxOk (fun args w => Tryz.call22 args w) Go.Proofs.Mk.bldString) (fun args w => Tryz.call22 args w) Go.Proofs.Mk.bldEmpty
 ·simp at h'
theorem lim_okQ {C' : Ctx} (hg : C'.glob = Mk.C.glob) : CallOk Tryz.prog C' (lim Mk.C) := by
 intro g args σ r h
 rw [hg]
 exact lim_ok Mk.ctxOk extOk _ _ _ _ h
theorem same_ok {C' : Ctx} (hg : C'.glob = Mk.C.glob) (f : FuncId) : CallOk Tryz.prog C' (fun g args σ => if g = f then lim Mk.C f args σ else none) := by
 intro g args σ r h
 simp only at h
 split at h
 ·rename_i hf
  subst hf
  rw [hg]
  exact lim_ok Mk.ctxOk extOk _ _ _ _ h
 ·simp at h
theorem some_of {f i : FuncId} {s : List Cell → Sto → Option Res} {rest : Option (List Cell → Sto → Option Res)} (h : (if f = i then some (lim Mk.C i) else rest) = some s) : s = lim Mk.C f ∨ rest = some s := by
 split at h
 ·rename_i hf
  subst hf
  exact .inl (Option.some.inj h).symm
 ·exact .inr h
theorem extOkQ : ExtOk Tryz.prog Mq.C := by
 intro f s h
 have h' : (if f = 5 then some (Mk.fparseS (lim Mk.C)) else if f = 19 then some Mk.codeS else if f = 6 then some (lim Mk.C 6) else if f = 8 then some (lim Mk.C 8) else if f = 9 then some (lim Mk.C 9) else if f = 10 then some (lim Mk.C 10) else if f = 11 then some (lim Mk.C 11) else if f = 12 then some (lim Mk.C 12) else if f = 13 then some (lim Mk.C 13) else none) = some s := h
 split at h'
 ·rename_i hf
  obtain rfl := Option.some.inj h'
  rw [hf]
  exact fparse_ok (lim_okQ rfl) (fun args w => Tryz.call5 args w)
 split at h'
 ·rename_i hf
  obtain rfl := Option.some.inj h'
  rw [hf]
  exact code_ok rfl (fun args w => Tryz.call19 args w)
 have key : s = lim Mk.C f := by
  iterate 7 (rcases some_of h' with h' | h'; exact h')
  simp at h'
 subst key
 exact same_ok rfl f
theorem own : ownKnob Tryz.prog.godebug = none := by kernel_rfl
theorem et : Tryz.prog.globalNamed "errors.errorType" = some 2 := by kernel_rfl
theorem rt : (Tryz.prog.cutTypes.find? (·.1 == "internal/reflectlite.rtype")).map (·.2) = some 129 := by kernel_rfl
theorem oneRow : ((List.range 204).filter fun t => Tryz.prog.rowNamed t [101, 114, 114, 111, 114]) = [29] := by kernel_rfl
theorem typesSize : Tryz.prog.types.size = 204 := by kernel_rfl
theorem gA : Tryz.prog.globalNamed "provekernel/term.words" = some 1 := by kernel_rfl
theorem gAT : (Tryz.prog.globals[1]?).map (·.type) = some 99 := by kernel_rfl
theorem gL : Tryz.prog.globalNamed "provekernel/level.words" = some 7 := by kernel_rfl
theorem gLT : (Tryz.prog.globals[7]?).map (·.type) = some 165 := by kernel_rfl
theorem gS : Tryz.prog.globalNamed "provekernel/provekernelref.words" = some 0 := by kernel_rfl
theorem gST : (Tryz.prog.globals[0]?).map (·.type) = some 40 := by kernel_rfl
theorem gP : Tryz.prog.globalNamed "internal/strconv.uint64pow10" = some 6 := by kernel_rfl
theorem gPT : (Tryz.prog.globals[6]?).map (·.type) = some 160 := by kernel_rfl
theorem gE : Tryz.prog.globalNamed "strconv.ErrSyntax" = some 3 := by kernel_rfl
theorem gET : (Tryz.prog.globals[3]?).map (·.type) = some 29 := by kernel_rfl
theorem opTy : OpTy Tryz.prog 22 25 3 9 where
 hS := Tryz.underlying22
 hOp := ⟨_, Tryz.underlying25, by kernel_rfl⟩
 hInt := Tryz.underlying3
 hStr := Tryz.underlying9
 cOp := by kernel_rfl
 cInt := by kernel_rfl
 cStr := by kernel_rfl
theorem read_of {P : Program} {W : World} {name : String} {d : DataW Unit} : ∀ {l : List (String × DataW Unit)} {ps : List MemPlace}, DataW.LaidVars P W l ps → (name, d) ∈ l →
  ∃ g t cs fuel p, P.globalNamed name = some g ∧ (P.globals[g]?).map (·.type) = some t ∧ W.var? P name = some cs ∧ DataW.trod (fun _ => ()) P W 0 (fun _ => true) false fuel t cs.toList = some (d, p)
 | [], _, _, h => by simp at h
 | (n, e) :: l, ps, hL, h => by
  obtain ⟨g, t, cs, fuel, p, q, h1, h2, h3, h4, h5, _⟩ := hL
  rcases List.mem_cons.1 h with h | h
  ·simp only [Prod.mk.injEq] at h
   obtain ⟨rfl, rfl⟩ := h
   exact ⟨g, t, cs, fuel, p, h1, h2, h3, h4⟩
  ·exact read_of h5 h
def plainLaid : List (String × DataW Unit) := Rows.filesRow.laid.filter fun x => x.2.handleName?.isNone
theorem plainLaid_eq : plainLaid = [("math/bits.deBruijn32tab", Rows.laid_math_bits_deBruijn32tab), ("math/bits.deBruijn64tab", Rows.laid_math_bits_deBruijn64tab), ("internal/strconv.uint64pow10", Rows.laid_internal_strconv_uint64pow10), ("provekernel/provekernelref.words", Rows.laid_provekernel_provekernelref_words), ("strconv.ErrRange", Rows.laid_strconv_ErrRange), ("strconv.ErrSyntax", Rows.laid_strconv_ErrSyntax), ("provekernel/level.words", Rows.laid_provekernel_level_words), ("provekernel/term.words", Rows.laid_provekernel_term_words)] := by kernel_rfl
theorem plain_of {W : World} (h : laidMetH Tryz.prog Rows.filesRow.laid W) : laidMet Tryz.prog plainLaid W := (laidMetH_iff.1 h).1
theorem var_heap {P : Program} {W : World} {name : String} {g : Nat} {cs : Array Value} (hg : P.globalNamed name = some g) (h : W.var? P name = some cs) : ∃ el fr, W.heap[g]? = some (.cells cs el fr) := by
 unfold World.var? at h
 rw [hg, Option.bind_some] at h
 split at h
 ·rename_i c el fr he
  obtain rfl := Option.some.inj h
  exact ⟨el, fr, he⟩
 ·simp at h
def words7V : List ByteArray := [ByteArray.mk #[], ByteArray.mk #[115, 111, 114, 116], ByteArray.mk #[99, 111, 110, 115, 116], ByteArray.mk #[97, 112, 112], ByteArray.mk #[108, 97, 109], ByteArray.mk #[112, 105], ByteArray.mk #[108, 101, 116]]
def words4V : List ByteArray := [ByteArray.mk #[], ByteArray.mk #[115], ByteArray.mk #[109, 97, 120], ByteArray.mk #[105, 109, 97, 120]]
structure Holds (W : World) (g : Nat) (cs : List Value) : Prop where
 heap : ∃ el fr, W.heap[g]? = some (.cells cs.toArray el fr)
theorem Holds.lt {W : World} {g : Nat} {cs : List Value} (h : Holds W g cs) : g < W.heap.size := by
 obtain ⟨el, fr, h⟩ := h.heap
 exact (Array.getElem?_eq_some_iff.1 h).1
theorem Holds.cell {W : World} {g : Nat} {cs : List Value} (h : Holds W g cs) (i : Nat) : W.cell? ⟨g, i, none⟩ = cs[i]? := by
 obtain ⟨el, fr, h⟩ := h.heap
 simp [World.cell?, h]
theorem holdsA {W : World} (h : laidMetH Tryz.prog Rows.filesRow.laid W) : Holds W 1 (words7V.map Value.string) := by
 obtain ⟨ps, hL, _⟩ := plain_of h
 obtain ⟨g', t', cs, fuel, p, hg', ht', hvar, hd⟩ := read_of (name := "provekernel/term.words") (d := Rows.laid_provekernel_term_words) hL (by rw [plainLaid_eq]; simp)
 obtain rfl := Option.some.inj (gA.symm.trans hg')
 obtain rfl := Option.some.inj (gAT.symm.trans ht')
 have hcs : cs.toList = words7V.map Value.string := strTab (t := 99) (e := 9) Tryz.underlying99 Tryz.underlying9 (by kernel_rfl) (by kernel_rfl) words7V rfl hd
 have hcs' : cs = (words7V.map Value.string).toArray := by apply Array.ext'; rw [hcs]
 rw [hcs'] at hvar
 exact ⟨var_heap gA hvar⟩
theorem holdsL {W : World} (h : laidMetH Tryz.prog Rows.filesRow.laid W) : Holds W 7 (words4V.map Value.string) := by
 obtain ⟨ps, hL, _⟩ := plain_of h
 obtain ⟨g', t', cs, fuel, p, hg', ht', hvar, hd⟩ := read_of (name := "provekernel/level.words") (d := Rows.laid_provekernel_level_words) hL (by rw [plainLaid_eq]; simp)
 obtain rfl := Option.some.inj (gL.symm.trans hg')
 obtain rfl := Option.some.inj (gLT.symm.trans ht')
 have hcs : cs.toList = words4V.map Value.string := strTab (t := 165) (e := 9) Tryz.underlying165 Tryz.underlying9 (by kernel_rfl) (by kernel_rfl) words4V rfl hd
 have hcs' : cs = (words4V.map Value.string).toArray := by apply Array.ext'; rw [hcs]
 rw [hcs'] at hvar
 exact ⟨var_heap gL hvar⟩
theorem holdsP {W : World} (h : laidMetH Tryz.prog Rows.filesRow.laid W) : Holds W 6 (Go.Lib.pow10Tab.map fun z => Value.int .u64 z) := by
 obtain ⟨ps, hL, _⟩ := plain_of h
 obtain ⟨g', t', cs, fuel, p, hg', ht', hvar, hd⟩ := read_of (name := "internal/strconv.uint64pow10") (d := Rows.laid_internal_strconv_uint64pow10) hL (by rw [plainLaid_eq]; simp)
 obtain rfl := Option.some.inj (gP.symm.trans hg')
 obtain rfl := Option.some.inj (gPT.symm.trans ht')
 have hd' : DataW.trod (fun _ => ()) Tryz.prog W 0 (fun _ => true) false fuel 160 cs.toList = some (Go.Lib.tabData .u64 Go.Lib.pow10Tab, p) := hd
 have hcs : cs.toList = Go.Lib.pow10Tab.map fun z => Value.int .u64 z := Go.Lib.cells_of_tab (e := 144) Tryz.underlying160 Tryz.underlying144 (by kernel_rfl) (by kernel_rfl) hd'
 have hcs' : cs = (Go.Lib.pow10Tab.map fun z => Value.int .u64 z).toArray := by apply Array.ext'; rw [hcs]
 rw [hcs'] at hvar
 exact ⟨var_heap gP hvar⟩
theorem holdsE {W : World} (h : laidMetH Tryz.prog Rows.filesRow.laid W) : ∃ a, Holds W 3 [.iface 171 (.pointer (some a))] := by
 have hr : ∀ u, Tryz.prog.typeName? 3 u = some ("*" ++ "errors.errorString") → u = 171 := typeName_ptr_named (by kernel_rfl) (by kernel_rfl) (by decide)
 have hl := plainLaid_eq ▸ plain_of h
 obtain ⟨a, s, hvar, _⟩ := laid_sentinel hl.tail.tail.tail.tail.tail gE gET Tryz.underlying29 hr Tryz.underlying171 Tryz.underlying173 rfl rfl Tryz.underlying9 (by kernel_rfl) (by kernel_rfl)
 exact ⟨a, ⟨var_heap gE hvar⟩⟩
theorem holdsS {W : World} (h : laidMetH Tryz.prog Rows.filesRow.laid W) : ∃ b off cap, Holds W 0 [.slice (some ⟨b, off, none⟩) words7V.length cap] ∧
  words7V.length ≤ cap ∧ b < W.heap.size ∧ ∀ i s, words7V[i]? = some s → W.cell? ⟨b, off + i, none⟩ = some (.string s) := by
 obtain ⟨ps, hL, _⟩ := plain_of h
 obtain ⟨g', t', cs, fuel, p, hg', ht', hvar, hd⟩ := read_of (name := "provekernel/provekernelref.words") (d := Rows.laid_provekernel_provekernelref_words) hL (by rw [plainLaid_eq]; simp)
 obtain rfl := Option.some.inj (gS.symm.trans hg')
 obtain rfl := Option.some.inj (gST.symm.trans ht')
 obtain ⟨b, off, cap, hcs, h1, h2, h3⟩ := strSlice (t := 40) (e := 9) Tryz.underlying40 Tryz.underlying9 (by kernel_rfl) words7V (by decide) rfl hd
 have hcs' : cs = #[.slice (some ⟨b, off, none⟩) words7V.length cap] := by apply Array.ext'; rw [hcs]
 rw [hcs'] at hvar
 exact ⟨b, off, cap, ⟨var_heap gS hvar⟩, h1, h2, h3⟩
theorem holdsH {W : World} (h : laidMetH Tryz.prog Rows.filesRow.laid W) : Holds W 2 [Mk.hv] := by
 have h' := (laidMetH_iff.1 h).2
 obtain ⟨name, u, ty, e1, e2, e3, e4, e5⟩ := h' ("errors.errorType", Rows.laid_errors_errorType) (List.mem_filter.2 ⟨by simp [Rows.filesRow], by decide⟩)
 have en : name = [101, 114, 114, 111, 114] := (Option.some.inj e1).symm
 subst en
 obtain rfl := Option.some.inj (rt.symm.trans e2)
 have hm : ty ∈ (List.range 204).filter fun t => Tryz.prog.rowNamed t [101, 114, 114, 111, 114] := List.mem_filter.2 ⟨List.mem_range.2 (by rw [← typesSize]; exact e3), e4⟩
 rw [oneRow] at hm
 obtain rfl := List.mem_singleton.1 hm
 have hh : typeHandle Tryz.prog 29 = .pointer (some ⟨10, 29, none⟩) := by kernel_rfl
 rw [hh] at e5
 exact ⟨var_heap et e5⟩
theorem num_rel {W : World} {B : Nat} {g : Nat} {zs : List Int} {k : IntKind} (h : Holds W g (zs.map fun z => Value.int k z)) (hB : zs.length ≤ B) :
  Rel (G0 W B) W (.eptr (zs.map fun z => V.int k z).length (zs.map fun z => V.int k z) 0) (.pointer (some ⟨g, 0, none⟩)) := by
 have := Rel.eptr (G := G0 W B) (w := W) (zs.map fun z => V.int k z).length (zs.map fun z => V.int k z) 0 g 0 (zs.map fun z => Value.int k z) rfl (by simp) (by simp only [G0, if_pos h.lt, List.length_map]; omega)
  (fun i c hc => by
   refine ⟨by rw [Nat.zero_add, h.cell]; exact hc, ?_⟩
   simp only [List.getElem?_map, Option.map_eq_some_iff] at hc
   obtain ⟨s, hs, rfl⟩ := hc
   rfl)
  (fun i v c hv hc => by
   simp only [List.getElem?_map, Option.map_eq_some_iff] at hv hc
   obtain ⟨s, hs, rfl⟩ := hv
   obtain ⟨s', hs', rfl⟩ := hc
   rw [hs] at hs'
   obtain rfl := Option.some.inj hs'
   exact .int _ _)
 simpa using this
theorem holds_str {W : World} {g : Nat} {ss : List ByteArray} (h : Holds W g (ss.map Value.string)) : ∀ i s, ss[i]? = some s → W.cell? ⟨g, i, none⟩ = some (.string s) := fun i s hs => by rw [h.cell]; simp [hs]
theorem holds_size {W : World} {g B : Nat} {cs : List Value} {n : Nat} (h : Holds W g cs) (hB : 0 < B) (hn : cs.length = n) : 0 < B ∧ ∃ cv el fr, W.heap[g]? = some (.cells cv el fr) ∧ cv.size = n := by
 obtain ⟨el, fr, h⟩ := h.heap
 exact ⟨hB, _, el, fr, h, by simpa using hn⟩
theorem sinv {W : World} (hL : laidMetH Tryz.prog Rows.filesRow.laid W) : ∃ B1, ∀ B, B1 ≤ B → SInv Mq.C.glob (G0 W B) W [] := by
 have hA := holdsA hL
 have hW := holdsL hL
 have hP := holdsP hL
 have hH := holdsH hL
 obtain ⟨ea, hE⟩ := holdsE hL
 obtain ⟨b, off, cap, hS, hcapS, hbS, hwS⟩ := holdsS hL
 have hp : (Go.Lib.pow10Tab).length = 20 := by decide
 refine ⟨off + 20, fun B hB => G0_sinv ?_ ?_⟩
 ·intro g cs hg
  have hg' : (if g = 1 then some (words7V.map V.str) else if g = 0 then some [V.slice 1 9 (words7V.map fun s => [V.str s])] else if g = 7 then some (words4V.map V.str) else if g = 6 then some (Go.Lib.pow10Tab.map fun z => V.int .u64 z) else if g = 3 then some [V.iface 171 V.any] else if g = 2 then some [V.lit Mk.hv] else none) = some cs := hg
  split at hg'
  ·rename_i h0
   obtain rfl := Option.some.inj hg'
   rw [h0]
   exact tab_rel (holds_str hA) hA.lt (by show 7 ≤ B; omega)
  split at hg'
  ·rename_i h0
   obtain rfl := Option.some.inj hg'
   rw [h0]
   exact strSlice_rel (hS.cell 0) hS.lt hbS hcapS hwS (by omega) (by show off + 7 ≤ B; omega)
  split at hg'
  ·rename_i h0
   obtain rfl := Option.some.inj hg'
   rw [h0]
   exact tab_rel (holds_str hW) hW.lt (by show 4 ≤ B; omega)
  split at hg'
  ·rename_i h0
   obtain rfl := Option.some.inj hg'
   rw [h0]
   exact num_rel hP (by omega)
  split at hg'
  ·rename_i h0
   obtain rfl := Option.some.inj hg'
   rw [h0]
   refine Rel.eptr 1 [V.iface 171 V.any] 0 3 0 [.iface 171 (.pointer (some ea))] rfl rfl ?_ ?_ ?_
   ·show 0 + 1 ≤ if 3 < W.heap.size then B else 0
    rw [if_pos hE.lt]; omega
   ·intro i c hc'
    match i with
    | 0 => simp at hc'; subst hc'; exact ⟨by rw [hE.cell]; rfl, rfl⟩
    | i + 1 => simp at hc'
   ·intro i v c hv hc'
    match i with
    | 0 => simp at hv hc'; subst hv; subst hc'; exact .iface _ _ _ (.any _ rfl)
    | i + 1 => simp at hv
  split at hg'
  ·rename_i h0
   obtain rfl := Option.some.inj hg'
   rw [h0]
   refine Rel.eptr 1 [V.lit Mk.hv] 0 2 0 [Mk.hv] rfl rfl ?_ ?_ ?_
   ·show 0 + 1 ≤ if 2 < W.heap.size then B else 0
    rw [if_pos hH.lt]; omega
   ·intro i c hc'
    match i with
    | 0 => simp at hc'; subst hc'; exact ⟨by rw [hH.cell]; rfl, rfl⟩
    | i + 1 => simp at hc'
   ·intro i v c hv hc'
    match i with
    | 0 => simp at hv hc'; subst hv; subst hc'; exact .lit _ rfl
    | i + 1 => simp at hv
  ·simp at hg'
 ·intro g cs hg
  have hg' : (if g = 1 then some (words7V.map V.str) else if g = 0 then some [V.slice 1 9 (words7V.map fun s => [V.str s])] else if g = 7 then some (words4V.map V.str) else if g = 6 then some (Go.Lib.pow10Tab.map fun z => V.int .u64 z) else if g = 3 then some [V.iface 171 V.any] else if g = 2 then some [V.lit Mk.hv] else none) = some cs := hg
  split at hg'
  ·rename_i h0
   obtain rfl := Option.some.inj hg'
   rw [h0]
   exact holds_size hA (by omega) (by simp)
  split at hg'
  ·rename_i h0
   obtain rfl := Option.some.inj hg'
   rw [h0]
   exact holds_size hS (by omega) rfl
  split at hg'
  ·rename_i h0
   obtain rfl := Option.some.inj hg'
   rw [h0]
   exact holds_size hW (by omega) (by simp)
  split at hg'
  ·rename_i h0
   obtain rfl := Option.some.inj hg'
   rw [h0]
   exact holds_size hP (by omega) (by simp)
  split at hg'
  ·rename_i h0
   obtain rfl := Option.some.inj hg'
   rw [h0]
   exact holds_size hE (by omega) rfl
  split at hg'
  ·rename_i h0
   obtain rfl := Option.some.inj hg'
   rw [h0]
   exact holds_size hH (by omega) rfl
  ·simp at hg'
set_option maxRecDepth 100000 in
theorem contract (H : Type) (enc : TypeId × Value → H) (W : World) (base : Nat) (args : Array Value) (ds gs : List (DataW H)) (before : List MemPlace)
    (hval : ∀ (j : Nat) t v, Tryz.f3.params[j]? = some t → args[j]? = some v → Value.okWide Tryz.prog W .any base t v)
    (hW : DataW.Whole enc Tryz.prog Tryz.f3.params.toList Rows.filesSpec.vars false W args.toList ds gs before) (hL : laidMetH Tryz.prog Rows.filesRow.laid W)
    (hw : (DataW.weightsEach Tryz.prog (Tryz.f3.params.toList ++ []) (ds ++ gs)).all (· ≤ reachBytes) = true) :
    Calls Tryz.prog 3 args W fun e W' => ∃ v, e = .returned v ∧ Rows.filesSpec.post enc Tryz.prog Tryz.f3 false true false false W args v W' := by
  obtain ⟨p, q, hA, hV, _, _, _⟩ := id hW
  rw [Tryz.params3] at hA hval hw
  obtain ⟨v0, vs0, d0, ds0, p0, q0, hargs, rfl, rfl, h0, r0⟩ := trodAll_cons hA
  obtain ⟨rfl, rfl, rfl⟩ := trodAll_nil r0
  obtain rfl : args = #[v0] := by cases args; simp_all
  obtain ⟨rfl, rfl⟩ := trodVars_none hV
  obtain ⟨L, B0, hrel, _, _, hdat⟩ := script_rel opTy (hval 0 22 v0 rfl rfl) h0
  obtain ⟨B1, hS⟩ := sinv hL
  have hS := hS (max B0 B1) (Nat.le_max_right _ _)
  obtain ⟨hlen, hsz⟩ := script_sized opTy (of_decide_eq_true (by kernel_rfl)) hdat hw
  obtain ⟨σ', hlim⟩ := Mq.files_law L (by omega) (fun o ho => by have := (hsz o ho).1; omega) []
  have hcall := ((lim_ok Mq.ctxOk extOkQ) _ _ _ _ hlim).2 (G0 W (max B0 B1)) W [v0] hS (G0_clean _ _ _) rfl (fun i c x hc hx => by
    match i with
    | 0 => simp at hc hx; subst hc; subst hx; exact ⟨hrel _ (Nat.le_max_left _ _), fun ho => by simp at ho⟩
    | i + 1 => simp at hc)
  refine hcall.mono fun e W' ⟨G', hE, _, hend⟩ => ?_
  obtain ⟨cs, hcl, he, hcr⟩ := hend
  obtain ⟨x, rfl⟩ : ∃ x, cs = [x] := by
    match cs, hcl with
    | [x], _ => exact ⟨x, rfl⟩
  have hx := rel_bool (hcr 0 _ x rfl rfl).1
  subst hx
  exact ⟨.bool true, he, post_true Tryz.params3 (by kernel_rfl) Tryz.underlying4 rfl rfl (by kernel_rfl) (by kernel_rfl) (of_decide_eq_true (by kernel_rfl)) hW hE⟩
noncomputable def baseWorld (os : Os) : World :=
 { World.holding Tryz.prog os ⟨#[], #[], []⟩ with heap := (World.holding Tryz.prog os ⟨#[], #[], []⟩).heap.modify 2 fun
   | .cells _ t frozen => .cells #[Mk.hv] t frozen
   | o => o }
noncomputable def laidWorld (os : Os) : World := (baseWorld os).layVars Tryz.prog plainLaid
theorem laid_plain (os : Os) : laidMet Tryz.prog plainLaid ((laidWorld os).forCall (fun _ _ => 0) ⟨#[], #[.slice none 0 0], []⟩).memory := by
 have e1 : (plainLaid.filter fun x => (plainLaid.map (·.1)).contains x.1) = plainLaid := List.filter_eq_self.2 fun x hx => List.contains_iff_mem.2 (List.mem_map.2 ⟨x, hx, rfl⟩)
 have e2 : (plainLaid.filter fun x => !(plainLaid.map (·.1)).contains x.1) = [] := List.filter_eq_nil_iff.2 fun x hx => by rw [List.contains_iff_mem.2 (List.mem_map.2 ⟨x, hx, rfl⟩)]; simp
 have h : laidMet Tryz.prog plainLaid (laidWorld os) := laidMet_layVars (w0 := baseWorld os) (plainLaid.map (·.1)) [] (by rw [e1]; rfl) (by rw [e1]; kernel_rfl) (by rw [e1]; kernel_rfl) (by rw [e2]; exact LaidIn.none)
 exact h.of_heap (by simp [World.memory, World.forCall, Input.heap])
theorem laid_met (os : Os) : laidMetH Tryz.prog Rows.filesRow.laid ((laidWorld os).forCall (fun _ _ => 0) ⟨#[], #[.slice none 0 0], []⟩).memory :=
 laidMetH_of_parts (laid_plain os) (by kernel_rfl)
theorem reads (os : Os) {H : Type} (enc : TypeId × Value → H) : ∃ places, DataW.whole enc Tryz.prog ((laidWorld os).forCall (fun _ _ => 0) ⟨#[], #[.slice none 0 0], []⟩).memory Tryz.f3.params.toList Rows.filesSpec.vars false #[Value.slice none 0 0].toList 8 = some ([.nil], [], places) :=
 ⟨[], by kernel_rfl⟩
set_option maxRecDepth 100000 in
theorem lifted (os : Os) (started : os.Started) (H : Type) (enc : TypeId × Value → H) (F : Stop.Interp) :
  ReturnsInHanded {} Tryz.checked os 3 .any ((OpenSpec.ofChange Rows.filesSpec).preRow enc Tryz.prog Tryz.f3 Rows.filesRow.domain false Rows.filesRow.laid) (((OpenSpec.ofChange Rows.filesSpec).at F).post enc Tryz.prog Tryz.f3 false true false false) := by
 obtain ⟨places, hx⟩ := reads os enc
 refine returnsInHanded_of_row (C := Tryz.checked) (s := OpenSpec.ofChange Rows.filesSpec) own started (by kernel_rfl) Tryz.func3
  (witness_row_atRef (enc := enc) (C := Tryz.checked) false (laidWorld os) #[.slice none 0 0] (World.layVars_os _ _ _) (by kernel_rfl) (by kernel_rfl) (by kernel_rfl)
   (OpenSpec.preRow_of_cond 8 hx (by kernel_rfl) (fun k hk => by cases hk) (by kernel_rfl) (laid_met os))) ?_
 intro W base args ds gs before hval hW _ _ hw hL _ _
 exact contract H enc W base args ds gs before hval hW hL hw
theorem said : Rows.FilesSaid :=
 OpenClaim.holds_of_cond 3 Tryz.f3 rfl rfl rfl rfl rfl rfl rfl ⟨rfl, rfl, rfl, rfl, rfl⟩ rfl rfl rfl rfl rfl (by kernel_rfl) Tryz.func3 (by kernel_rfl)
  (of_decide_eq_true (by kernel_rfl)) (by unfold Func.isWrapper; first | (rw [if_pos (by decide +kernel)]; kernel_rfl) | (rw [if_neg (by decide +kernel)]; exact ⟨rfl, rfl⟩))
  (fun os started H enc _ F => by rw [OpenClaim.pre_eq_preRow]; exact lifted os started H enc F)
theorem plain (f : FuncId) (fn : Func) (hf : Tryz.pinned.checked.prog.funcNamed "provekernel/provekernellaw.Files" = some f) (hfn : Tryz.pinned.checked.prog.funcs[f]? = some fn) :
  true = Tryz.pinned.checked.prog.looks [] ∧ ∀ (j : Nat) t, fn.params[j]? = some t → Tryz.pinned.checked.prog.wantsStandIn t = false := by
 obtain rfl : f = 3 := Option.some.inj ((show Tryz.prog.funcNamed "provekernel/provekernellaw.Files" = some 3 by kernel_rfl).symm.trans hf) |>.symm
 obtain rfl : fn = Tryz.f3 := (Option.some.inj (Tryz.func3.symm.trans hfn)).symm
 refine ⟨by kernel_rfl, fun j t ht => ?_⟩
 rw [Tryz.params3] at ht
 obtain rfl : t = 22 := by simpa using Array.mem_of_getElem? ht
 exact (show Tryz.prog.wantsStandIn 22 = false by kernel_rfl)
theorem card : Rows.FilesCardSaid :=
 Claim7.holds_tied_plain_at .later [] _ _ _ _ said (fun _ h => by cases h) (by kernel_rfl) (fun _ h => by cases h) files_row_tie rfl ⟨rfl, rfl⟩ (by kernel_rfl) rfl plain (by kernel_rfl)
#print axioms card
end Go.Proofs.YtblgboigcpbidaaGreatDoor.LvFS
