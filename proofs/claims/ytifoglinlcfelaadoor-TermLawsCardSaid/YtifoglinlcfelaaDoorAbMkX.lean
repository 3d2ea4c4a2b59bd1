/- strings.Builder in this seat: copyCheck and String, walked. -/
import Derived.Test.YtifoglinlcfelaaDoorAbMp
import Derived.ChangeShapes
import Derived.ChangeArms
import Derived.Carry
import Derived.ProofKit
import Derived.Lib.LaidTab
import Derived.Test.YtifoglinlcfelaaDoorAbMq1
import Derived.Test.YtifoglinlcfelaaDoorAbMk2
import Derived.Deep.LoopGhost
import Derived.OwnWalk
import Derived.Shelf.SlicesQ.Reverse
import Derived.Test.YtifoglinlcfelaaDoorProg
import Derived.WalkKit
import Derived.Lib.Builder
import Derived.Lib.UnsafeStr
import Derived.Lib.Walk
import Derived.Laws.Externs
import Derived.Lib.Slices
set_option linter.unusedSimpArgs false
set_option linter.unusedVariables false
set_option linter.deprecated false
section
namespace Go.Ab
open Go.ChangeShapes Go.WideShapes
def G0 (w : World) (B : Nat) : Gh := { N := 0, μ := id, lim := fun i => if i < w.heap.size then B else 0, owner := fun _ => none, ty := fun _ => 0 }
theorem G0_wf (w : World) (B : Nat) : WF (G0 w B) w := fun i hi => ⟨if_neg (by omega), rfl⟩
theorem below_of_ext {w w' : World} {B : Nat} {G' : Gh} (h : Ext (G0 w B) w G' w') : RowKit.Below w.heap.size w w' := ⟨h.os, h.tape, h.output, h.size, fun k hk => (h.old k hk rfl).1⟩
theorem G0_clean (w : World) (B n : Nat) : Clean (G0 w B) n := fun i p hp => by simp [G0] at hp
theorem G0_sinv {gl : Nat → Option (List V)} {w : World} {B : Nat} (h : ∀ (g : Nat) (cs : List V), gl g = some cs → Rel (G0 w B) w (.eptr cs.length cs 0) (.pointer (some ⟨g, 0, none⟩))) (hs : ∀ (g : Nat) (cs : List V), gl g = some cs → 0 < B ∧ ∃ cv el fr, w.heap[g]? = some (.cells cv el fr) ∧ cv.size = cs.length) : SInv gl (G0 w B) w [] :=
 ⟨G0_wf w B, h, rfl, fun b hb => by simp at hb, fun b cs hb => by simp at hb, fun g cs hg => (by
  obtain ⟨k0, cv, el, fr, k1, k2⟩ := hs g cs hg
  refine ⟨rfl, ?_, cv, el, fr, k1, k2⟩
  show 0 < if g < w.heap.size then B else 0
  rw [if_pos (Array.getElem?_eq_some_iff.1 k1).1]
  exact k0)⟩
structure OpV where
 k : Int
 s : ByteArray
 t : ByteArray
 u : ByteArray
 a : Int
 b : Int
def OpV.enc (o : OpV) : List V := [.int .i64 o.k, .str o.s, .str o.t, .str o.u, .int .i64 o.a, .int .i64 o.b]
def OpV.vals (o : OpV) : List Value := [.int .i64 o.k, .string o.s, .string o.t, .string o.u, .int .i64 o.a, .int .i64 o.b]
structure OpV.Fits (o : OpV) : Prop where
 s : o.s.size ≤ maxLen
 t : o.t.size ≤ maxLen
 u : o.u.size ≤ maxLen
 a : (Lit.int .i64 o.a).wf = true
 b : (Lit.int .i64 o.b).wf = true
def OpV.data {H : Type} (o : OpV) : DataW H := .agg [.lit (.int .i64 o.k), .lit (.string o.s.data.toList), .lit (.string o.t.data.toList), .lit (.string o.u.data.toList), .lit (.int .i64 o.a), .lit (.int .i64 o.b)]
section
variable {H : Type} {enc : TypeId × Value → H} {P : Program} {W : World} {sp : Nat → Bool} {held : Bool}
structure OpTy (P : Program) (tS tOp tInt tStr : TypeId) : Prop where
 hS : P.underlying tS = some (.slice tOp)
 hOp : ∃ fs, P.underlying tOp = some (.struct fs) ∧ fs.toList.map (fun f => (f.type, f.offset)) = [(tInt, 0), (tStr, 1), (tStr, 2), (tStr, 3), (tInt, 4), (tInt, 5)]
 hInt : P.underlying tInt = some (.int .i64)
 hStr : P.underlying tStr = some .string
 cOp : P.cellsOf tOp = 6
 cInt : P.cellsOf tInt = 1
 cStr : P.cellsOf tStr = 1
theorem op_read {tS tOp tInt tStr : TypeId} (T : OpTy P tS tOp tInt tStr) {n : Nat} {cs : List Value} {x : DataW H × List MemPlace} (h : DataW.trod enc P W 0 sp held n tOp cs = some x) :
  ∃ o : OpV, cs = o.vals ∧ o.Fits ∧ x.1 = o.data := by
 obtain ⟨fs, hu, hf⟩ := T.hOp
 obtain ⟨xs, m, _, hx, hl, hxl, hall⟩ := DataW.trod_struct hu h
 rw [T.cOp] at hl
 have hfl : fs.toList.length = 6 := by have := congrArg List.length hf; simpa using this
 have fget : ∀ (i : Nat) (ty : TypeId) (off : Nat), (fs.toList.map (fun f => (f.type, f.offset)))[i]? = some (ty, off) → DataW.trod enc P W 0 sp held m ty ((cs.drop off).take (P.cellsOf ty)) = xs[i]? := by
  intro i ty off hi
  simp only [List.getElem?_map, Option.map_eq_some_iff] at hi
  obtain ⟨f, h1, h2⟩ := hi
  have := hall i f (by simpa using h1)
  simp only [Prod.mk.injEq] at h2
  rw [h2.1, h2.2] at this
  exact this
 obtain ⟨c0, c1, c2, c3, c4, c5, rfl⟩ : ∃ c0 c1 c2 c3 c4 c5, cs = [c0, c1, c2, c3, c4, c5] := by
  match cs, hl with
  | [c0, c1, c2, c3, c4, c5], _ => exact ⟨c0, c1, c2, c3, c4, c5, rfl⟩
 ·have hxs : xs.length = 6 := by rw [hxl]; simpa using hfl
  obtain ⟨x0, x1, x2, x3, x4, x5, rfl⟩ : ∃ x0 x1 x2 x3 x4 x5, xs = [x0, x1, x2, x3, x4, x5] := by
   match xs, hxs with
   | [x0, x1, x2, x3, x4, x5], _ => exact ⟨x0, x1, x2, x3, x4, x5, rfl⟩
  have e0 := fget 0 tInt 0 (by rw [hf]; rfl)
  have e1 := fget 1 tStr 1 (by rw [hf]; rfl)
  have e2 := fget 2 tStr 2 (by rw [hf]; rfl)
  have e3 := fget 3 tStr 3 (by rw [hf]; rfl)
  have e4 := fget 4 tInt 4 (by rw [hf]; rfl)
  have e5 := fget 5 tInt 5 (by rw [hf]; rfl)
  rw [T.cInt] at e0 e4 e5
  rw [T.cStr] at e1 e2 e3
  ·obtain ⟨n0, h0, y0, _⟩ := DataW.trod_int T.hInt (e0.trans rfl)
   obtain ⟨s1, h1, y1, g1⟩ := DataW.trod_string T.hStr (e1.trans rfl)
   obtain ⟨s2, h2, y2, g2⟩ := DataW.trod_string T.hStr (e2.trans rfl)
   obtain ⟨s3, h3, y3, g3⟩ := DataW.trod_string T.hStr (e3.trans rfl)
   obtain ⟨n4, h4, y4, g4⟩ := DataW.trod_int T.hInt (e4.trans rfl)
   obtain ⟨n5, h5, y5, g5⟩ := DataW.trod_int T.hInt (e5.trans rfl)
   simp at h0 h1 h2 h3 h4 h5
   subst h0 h1 h2 h3 h4 h5
   refine ⟨⟨n0, s1, s2, s3, n4, n5⟩, rfl, ⟨g1, g2, g3, g4, g5⟩, ?_⟩
   rw [hx, y0, y1, y2, y3, y4, y5]
   rfl
theorem script_rel {tS tOp tInt tStr : TypeId} (T : OpTy P tS tOp tInt tStr) {b0 : Nat} {v : Value} {d : DataW H} {ps : List MemPlace} (hval : Value.okWide P W .any b0 tS v) (h : DataW.Trod enc P W 0 sp held tS v d ps) :
  ∃ (L : List OpV) (B0 : Nat), (∀ B, B0 ≤ B → Rel (G0 W B) W (.slice 6 tOp (L.map OpV.enc)) v) ∧ L.length ≤ maxLen ∧ (∀ o ∈ L, o.Fits) ∧ ((d = .nil ∧ L = []) ∨ ∃ rest, d = .slice (L.map OpV.data) rest) := by
 obtain ⟨fuel, hd⟩ := h
 rcases DataW.trod_slice T.hS hd with ⟨h0, h1⟩ | ⟨a, len, cap, elems, rest, n, _, hcs, hx, _, hlc, hm, hlen, hel, _, _⟩
 ·have hv : v = .slice none 0 0 := by
   have hk : Value.okWide P W .any b0 tS v := hval
   unfold Value.okWide at hk
   rw [T.hS] at hk
   cases v <;> simp [Value.cells] at h0 <;> first | exact congr (congr (congrArg Value.slice h0.1) h0.2.1) h0.2.2 | skip
   all_goals (simp [Cell.okWide, Cell.ok, T.hS] at hk)
  subst hv
  simp only [Prod.mk.injEq] at h1
  exact ⟨[], 0, fun B _ => .snil _ _, Nat.zero_le _, by simp, .inl ⟨h1.1, rfl⟩⟩
 ·have hv : v = .slice (some a) len cap := by
   have hk : Value.okWide P W .any b0 tS v := hval
   unfold Value.okWide at hk
   rw [T.hS] at hk
   cases v <;> simp [Value.cells] at hcs <;> first | exact congr (congr (congrArg Value.slice hcs.1) hcs.2.1) hcs.2.2 | skip
   all_goals (simp [Cell.okWide, Cell.ok, T.hS] at hk)
  subst hv
  have hk : Cell.ok P W .any b0 tS (.slice (some a) len cap) := by
   have hk : Value.okWide P W .any b0 tS (.slice (some a) len cap) := hval
   unfold Value.okWide at hk
   rw [T.hS] at hk
   simpa [Cell.okWide, T.hS] using hk
  simp only [Cell.ok, T.hS] at hk
  obtain ⟨_, _, _, hsp, row, cells, hshape, _⟩ := hk
  obtain ⟨b, off, spot⟩ := a
  simp only at hsp hshape
  subst hsp
  have hblt : b < W.heap.size := by
   rcases Nat.lt_or_ge b W.heap.size with h | h
   ·exact h
   ·simp [World.shape?, Array.getElem?_eq_none h] at hshape
  have each : ∀ i, i < len → ∃ o : OpV, o.Fits ∧ (elems[i]?).map (·.1) = some o.data ∧ ∀ j, j < 6 → W.cell? ⟨b, off + i * 6 + j, none⟩ = o.vals[j]? := by
   intro i hi
   have he := hel i hi
   obtain ⟨y, hy⟩ : ∃ y, elems[i]? = some y := ⟨elems[i], List.getElem?_eq_getElem (by omega)⟩
   rw [hy, Option.bind_eq_some_iff, T.cOp, add_plain] at he
   obtain ⟨cs, hc, ht⟩ := he
   obtain ⟨o, rfl, hf, hdat⟩ := op_read T ht
   refine ⟨o, hf, by rw [hy, ← hdat]; rfl, fun j hj => ?_⟩
   have := (World.cells?_some hc).2.2 j hj
   rw [add_plain] at this
   exact this
  classical
  let f : Nat → OpV := fun i => if h : i < len then (each i h).choose else ⟨0, default, default, default, 0, 0⟩
  have hf : ∀ i, i < len → (f i).Fits ∧ (elems[i]?).map (·.1) = some (f i).data ∧ ∀ j, j < 6 → W.cell? ⟨b, off + i * 6 + j, none⟩ = (f i).vals[j]? := by
   intro i hi
   simp only [f, dif_pos hi]
   exact (each i hi).choose_spec
  refine ⟨(List.range len).map f, off + len * 6, fun B hB => ?_, by simp; omega, fun o ho => ?_, .inr ⟨rest.map (·.1), ?_⟩⟩
  ·have := Rel.slice (G := G0 W B) (w := W) 6 tOp (((List.range len).map f).map OpV.enc) b off cap (((List.range len).map f).map OpV.vals) (by simp) (by simpa using hlc)
    (by simp only [G0, List.length_map, List.length_range, if_pos hblt]; exact hB)
    (fun i e he => by
     simp only [List.getElem?_map, Option.map_eq_some_iff] at he
     obtain ⟨_, _, rfl⟩ := he
     rfl)
    (fun i e he => by
     simp only [List.getElem?_map, Option.map_eq_some_iff] at he
     obtain ⟨_, _, rfl⟩ := he
     rfl)
    (fun i j x c hx hc => by
     simp only [List.getElem?_map, Option.map_eq_some_iff] at hx
     obtain ⟨o, ⟨k, hk, rfl⟩, rfl⟩ := hx
     obtain ⟨hk1, hk2⟩ := List.getElem?_eq_some_iff.1 hk
     simp only [List.length_range] at hk1
     simp only [List.getElem_range] at hk2
     subst hk2
     have hj : j < 6 := by have := (List.getElem?_eq_some_iff.1 hc).1; exact this
     refine ⟨by rw [(hf i hk1).2.2 j hj]; exact hc, ?_⟩
     match j, hj with
     | 0, _ => simp [OpV.vals] at hc; subst hc; rfl
     | 1, _ => simp [OpV.vals] at hc; subst hc; rfl
     | 2, _ => simp [OpV.vals] at hc; subst hc; rfl
     | 3, _ => simp [OpV.vals] at hc; subst hc; rfl
     | 4, _ => simp [OpV.vals] at hc; subst hc; rfl
     | 5, _ => simp [OpV.vals] at hc; subst hc; rfl)
    (fun i j e x v c he hx hv hc => by
     simp only [List.getElem?_map, Option.map_eq_some_iff] at he hx
     obtain ⟨o, ⟨k, hk, rfl⟩, rfl⟩ := hx
     obtain ⟨o', ⟨k', hk', rfl⟩, rfl⟩ := he
     rw [hk] at hk'
     obtain rfl := Option.some.inj hk'
     match j with
     | 0 => simp [OpV.vals, OpV.enc] at hc hv; subst hc; subst hv; exact .int _ _
     | 1 => simp [OpV.vals, OpV.enc] at hc hv; subst hc; subst hv; exact .str _
     | 2 => simp [OpV.vals, OpV.enc] at hc hv; subst hc; subst hv; exact .str _
     | 3 => simp [OpV.vals, OpV.enc] at hc hv; subst hc; subst hv; exact .str _
     | 4 => simp [OpV.vals, OpV.enc] at hc hv; subst hc; subst hv; exact .int _ _
     | 5 => simp [OpV.vals, OpV.enc] at hc hv; subst hc; subst hv; exact .int _ _
     | j + 6 => simp [OpV.vals] at hc)
   simpa using this
  ·simp only [List.mem_map, List.mem_range] at ho
   obtain ⟨i, hi, rfl⟩ := ho
   exact (hf i hi).1
  ·simp only [Prod.mk.injEq] at hx
   rw [hx.1]
   congr 1
   apply List.ext_getElem?
   intro i
   by_cases hi : i < len
   ·rw [List.getElem?_map, (hf i hi).2.1]
    simp [hi]
   ·rw [List.getElem?_eq_none (by simp; omega), List.getElem?_eq_none (by simp; omega)]
theorem op_weights {tS tOp tInt tStr : TypeId} (T : OpTy P tS tOp tInt tStr) (o : OpV) : (o.data : DataW H).weights P tOp = [o.s.data.toList.length, o.t.data.toList.length, o.u.data.toList.length] := by
 obtain ⟨fs, hu, hf⟩ := T.hOp
 have ht : fs.toList.map (·.type) = [tInt, tStr, tStr, tStr, tInt, tInt] := by
  have := congrArg (List.map Prod.fst) hf
  rw [List.map_map] at this
  exact this
 simp only [OpV.data, DataW.weights, hu, ht, DataW.weightsEach]
 rfl
theorem weightsAll_mem {tOp : TypeId} : ∀ {l : List (DataW H)} {d : DataW H} {n : Nat}, d ∈ l → n ∈ d.weights P tOp → n ∈ DataW.weightsAll P tOp l
 | [], _, _, h, _ => by simp at h
 | x :: l, d, n, h, hn => by
  simp only [DataW.weightsAll, List.mem_append]
  rcases List.mem_cons.1 h with rfl | h
  ·exact .inl hn
  ·exact .inr (weightsAll_mem h hn)
theorem script_sized {tS tOp tInt tStr : TypeId} (T : OpTy P tS tOp tInt tStr) (hb : 0 < P.bytesOf tOp) {L : List OpV} {d : DataW H} (hd : (d = .nil ∧ L = []) ∨ ∃ rest, d = .slice (L.map OpV.data) rest)
    (h : (DataW.weightsEach P [tS] [d]).all (· ≤ reachBytes) = true) : L.length < 2 ^ 47 ∧ ∀ o ∈ L, o.s.size < 2 ^ 47 ∧ o.t.size < 2 ^ 47 ∧ o.u.size < 2 ^ 47 := by
  have hr : reachBytes < 2 ^ 47 := by decide
  rcases hd with ⟨_, rfl⟩ | ⟨rest, rfl⟩
  · exact ⟨by simp, by simp⟩
  · rw [List.all_eq_true] at h
    simp only [DataW.weightsEach, DataW.weights, T.hS, List.append_nil] at h
    refine ⟨?_, fun o ho => ?_⟩
    · have := h _ (List.mem_cons_self ..)
      simp only [decide_eq_true_eq, List.length_map] at this
      have h2 : L.length * 1 ≤ (L.length + rest.length) * P.bytesOf tOp := Nat.mul_le_mul (Nat.le_add_right _ _) hb
      omega
    · have key : ∀ n ∈ (o.data : DataW H).weights P tOp, n ≤ reachBytes := by
        intro n hn
        have := h n (List.mem_cons_of_mem _ (List.mem_append_left _ (weightsAll_mem (List.mem_map_of_mem ho) hn)))
        simpa using this
      rw [op_weights T o] at key
      have k1 := key o.s.data.toList.length (by simp)
      have k2 := key o.t.data.toList.length (by simp)
      have k3 := key o.u.data.toList.length (by simp)
      rw [Array.length_toList] at k1 k2 k3
      exact ⟨Nat.lt_of_le_of_lt k1 hr, Nat.lt_of_le_of_lt k2 hr, Nat.lt_of_le_of_lt k3 hr⟩
theorem strTab {base : Nat} {fuel : Nat} {t e : TypeId} {n : Nat} {cs : List Value} {p : List MemPlace} {d : DataW H}
  (ht : P.underlying t = some (.array n e)) (he : P.underlying e = some .string) (hce : P.cellsOf e = 1) (hct : P.cellsOf t = n) (ss : List ByteArray) (hd : d = .agg (ss.map fun s => .lit (.string s.data.toList)))
  (h : DataW.trod enc P W base sp held fuel t cs = some (d, p)) : cs = ss.map Value.string := by
 subst hd
 cases fuel with
 | zero => simp [DataW.trod] at h
 | succ fuel =>
  simp only [DataW.trod, ht, hce, hct, Nat.mul_one] at h
  split at h
  ·rename_i hl
   obtain ⟨xs, hm, hx⟩ := Option.map_eq_some_iff.1 h
   have hxs : xs.map (·.1) = ss.map fun s => (DataW.lit (.string s.data.toList) : DataW H) := by
    have := congrArg Prod.fst hx
    simpa using this
   have hxl : xs.length = n := by simpa using Lib.mapM_length hm
   have hsl : ss.length = n := by
    have := congrArg List.length hxs
    simp at this
    omega
   apply List.ext_getElem?
   intro i
   by_cases hi : i < n
   ·obtain ⟨y, hy, hy2⟩ := Lib.mapM_at hm i i (by simp [hi])
    obtain ⟨s, h1, h2, _⟩ := DataW.trod_string he hy2
    have hci : cs[i]? = some (.string s) := by
     have hlt : i < cs.length := by omega
     have : (cs.drop i).take 1 = [cs[i]] := by
      rw [List.drop_eq_getElem_cons hlt]; rfl
     rw [this] at h1
     rw [List.getElem?_eq_getElem hlt]
     simpa using h1
    have hs : (xs.map (·.1))[i]? = some (DataW.lit (.string s.data.toList)) := by rw [List.getElem?_map, hy, h2]; rfl
    rw [hxs, List.getElem?_map, Option.map_eq_some_iff] at hs
    obtain ⟨s', h3, h4⟩ := hs
    have h5 : s'.data.toList = s.data.toList := by simpa using h4
    have : s' = s := by
     apply ByteArray.ext
     exact Array.toList_inj.1 h5
    rw [hci, List.getElem?_map, h3, this]; rfl
   ·rw [List.getElem?_eq_none (by omega), List.getElem?_eq_none (by simp; omega)]
  ·simp at h
theorem tab_rel {B : Nat} {g : Nat} {ss : List ByteArray} (hg : ∀ i s, ss[i]? = some s → W.cell? ⟨g, i, none⟩ = some (.string s)) (hlt : g < W.heap.size) (hB : ss.length ≤ B) :
  Rel (G0 W B) W (.eptr (ss.map V.str).length (ss.map V.str) 0) (.pointer (some ⟨g, 0, none⟩)) := by
 have := Rel.eptr (G := G0 W B) (w := W) (ss.map V.str).length (ss.map V.str) 0 g 0 (ss.map Value.string) rfl (by simp) (by simp only [G0, if_pos hlt, List.length_map]; omega)
  (fun i c hc => by
   simp only [List.getElem?_map, Option.map_eq_some_iff] at hc
   obtain ⟨s, hs, rfl⟩ := hc
   exact ⟨by rw [Nat.zero_add]; exact hg i s hs, rfl⟩)
  (fun i v c hv hc => by
   simp only [List.getElem?_map, Option.map_eq_some_iff] at hv hc
   obtain ⟨s, hs, rfl⟩ := hv
   obtain ⟨s', hs', rfl⟩ := hc
   rw [hs] at hs'
   obtain rfl := Option.some.inj hs'
   exact .str _)
 simpa using this
theorem strSlice {base : Nat} {fuel : Nat} {t e : TypeId} {cs : List Value} {p : List MemPlace} {d : DataW H}
  (ht : P.underlying t = some (.slice e)) (he : P.underlying e = some .string) (hce : P.cellsOf e = 1) (ss : List ByteArray) (hne : 0 < ss.length) (hd : d = .slice (ss.map fun s => .lit (.string s.data.toList)) [])
  (h : DataW.trod enc P W base sp held fuel t cs = some (d, p)) :
  ∃ b off cap, cs = [.slice (some ⟨b, off, none⟩) ss.length cap] ∧ ss.length ≤ cap ∧ b < W.heap.size ∧ ∀ i s, ss[i]? = some s → W.cell? ⟨b, off + i, none⟩ = some (.string s) := by
 subst hd
 rcases DataW.trod_slice ht h with ⟨_, h1⟩ | ⟨a, len, cap, elems, rest, n, _, hcs, hx, _, hlc, hm, hlen, hel, _, _⟩
 ·simp at h1
 ·simp only [Prod.mk.injEq] at hx
  have hx1 := hx.1
  injection hx1 with hx1 hx2
  have hlen2 : ss.length = len := by
   have := congrArg List.length hx1
   simp only [List.length_map] at this
   omega
  have each : ∀ i s, ss[i]? = some s → W.cell? (a.add i) = some (.string s) := by
   intro i s hs
   have hi : i < ss.length := (List.getElem?_eq_some_iff.1 hs).1
   have hei := hel i (by omega)
   obtain ⟨y, hy⟩ : ∃ y, elems[i]? = some y := ⟨elems[i], List.getElem?_eq_getElem (by omega)⟩
   rw [hy, Option.bind_eq_some_iff, hce, Nat.mul_one] at hei
   obtain ⟨c1, hc, htr⟩ := hei
   obtain ⟨s', g1, g2, _⟩ := DataW.trod_string he htr
   have hcc := (World.cells?_some hc).2.2 0 (by omega)
   have hdat : (elems.map (·.1))[i]? = some (DataW.lit (.string s'.data.toList)) := by rw [List.getElem?_map, hy, g2]; rfl
   rw [← hx1, List.getElem?_map, hs] at hdat
   have h5 : s.data.toList = s'.data.toList := by simpa using hdat
   have : s = s' := by
    apply ByteArray.ext
    exact Array.toList_inj.1 h5
   rw [this]
   have e0 : (a.add i).add 0 = a.add i := by simp [Addr.add]
   rw [e0] at hcc
   have g1' : c1 = [.string s'] := by simpa using g1
   rw [hcc, g1']; rfl
  have h0 := each 0 ss[0] (List.getElem?_eq_getElem hne)
  obtain ⟨b, off, spot⟩ := a
  have hsp : spot = none := by
   have e0 : (⟨b, off, spot⟩ : Addr).add 0 = ⟨b, off, spot⟩ := by simp [Addr.add]
   rw [e0] at h0
   unfold World.cell? at h0
   split at h0
   ·cases spot with
    | none => rfl
    | some z => simp at h0
   ·simp at h0
  subst hsp
  refine ⟨b, off, cap, by rw [hlen2]; exact hcs, by omega, ?_, fun i s hs => ?_⟩
  ·have e0 : (⟨b, off, none⟩ : Addr).add 0 = ⟨b, off, none⟩ := by simp [Addr.add]
   rw [e0] at h0
   exact World.block_lt_of_cell? _ _ h0
  ·have := each i s hs
   rw [add_plain] at this
   exact this
theorem strSlice_rel {B : Nat} {g : Nat} {ss : List ByteArray} {b off cap : Nat} {e : TypeId} (hg : W.cell? ⟨g, 0, none⟩ = some (.slice (some ⟨b, off, none⟩) ss.length cap)) (hlt : g < W.heap.size) (hb : b < W.heap.size) (hcap : ss.length ≤ cap)
  (hc : ∀ i s, ss[i]? = some s → W.cell? ⟨b, off + i, none⟩ = some (.string s)) (hB1 : 1 ≤ B) (hB : off + ss.length ≤ B) :
  Rel (G0 W B) W (.eptr 1 [V.slice 1 e (ss.map fun s => [V.str s])] 0) (.pointer (some ⟨g, 0, none⟩)) := by
 have hr : Rel (G0 W B) W (.slice 1 e (ss.map fun s => [V.str s])) (.slice (some ⟨b, off, none⟩) ss.length cap) := by
  have := Rel.slice (G := G0 W B) (w := W) 1 e (ss.map fun s => [V.str s]) b off cap (ss.map fun s => [Value.string s]) (by simp) (by simpa using hcap)
   (by simp only [G0, List.length_map, if_pos hb]; omega)
   (fun i e he => by
    simp only [List.getElem?_map, Option.map_eq_some_iff] at he
    obtain ⟨_, _, rfl⟩ := he
    rfl)
   (fun i e he => by
    simp only [List.getElem?_map, Option.map_eq_some_iff] at he
    obtain ⟨_, _, rfl⟩ := he
    rfl)
   (fun i j x c hx hcc => by
    simp only [List.getElem?_map, Option.map_eq_some_iff] at hx
    obtain ⟨s, hs, rfl⟩ := hx
    match j with
    | 0 => simp at hcc; subst hcc; exact ⟨by rw [show off + i * 1 + 0 = off + i by omega]; exact hc i s hs, rfl⟩
    | j + 1 => simp at hcc)
   (fun i j e x v c he hx hv hcc => by
    simp only [List.getElem?_map, Option.map_eq_some_iff] at he hx
    obtain ⟨s, hs, rfl⟩ := hx
    obtain ⟨s', hs', rfl⟩ := he
    rw [hs] at hs'
    obtain rfl := Option.some.inj hs'
    match j with
    | 0 => simp at hcc hv; subst hcc; subst hv; exact .str _
    | j + 1 => simp at hcc)
  simpa using this
 refine Rel.eptr 1 [V.slice 1 e (ss.map fun s => [V.str s])] 0 g 0 [.slice (some ⟨b, off, none⟩) ss.length cap] rfl rfl ?_ ?_ ?_
 ·show 0 + 1 ≤ if g < W.heap.size then B else 0
  rw [if_pos hlt]; omega
 ·intro i c hc'
  match i with
  | 0 => simp at hc'; subst hc'; exact ⟨hg, rfl⟩
  | i + 1 => simp at hc'
 ·intro i v c hv hc'
  match i with
  | 0 => simp at hv hc'; subst hv; subst hc'; exact hr
  | i + 1 => simp at hv
theorem post_true {f : Func} {s : ChangeSpec} {tS : TypeId} {W' : World} {G' : Gh} {B : Nat} {v : Value} {d : DataW H} {before : List MemPlace} {tB : TypeId}
  (hp : f.params = #[tS]) (hr : f.resultTypes = #[tB]) (hB : P.underlying tB = some .bool) (hvars : s.vars = []) (hfn : s.fn H [d] = { results := [.lit (.bool true)], args := [d] })
  (hl : laidOutB P = true) (hrr : P.readableRec tS = true) (hrow : tS < P.types.size)
  (hW : DataW.Whole enc P f.params.toList s.vars false W [v] [d] [] before) (hE : Ext (G0 W B) W G' W') :
  s.post enc P f false true false false W #[v] (.bool true) W' := by
 have hb := below_of_ext hE
 have hlt := hW.lt
 obtain ⟨p, q, hA, hV, hpq, hz, hn⟩ := id hW
 rw [hp] at hA
 obtain ⟨v0, vs0, d0, ds0, p0, q0, hargs, hds, hps, h0, r0⟩ := trodAll_cons hA
 obtain ⟨rfl, rfl, rfl⟩ := trodAll_nil r0
 simp only [List.cons.injEq, and_true] at hargs hds
 subst hargs; subst hds
 rw [hvars] at hV
 obtain ⟨_, rfl⟩ := trodVars_none hV
 simp only [List.append_nil] at hps hpq
 subst hps; subst hpq
 have hres : ∀ (b : Nat) (sp : Nat → Bool) (hd : Bool), DataW.TrodAll enc P W' b sp hd f.resultTypes.toList ((Value.bool true).resultList f.resultTypes.size) (s.fn H ([d] ++ [])).results [] := by
  intro b sp hd
  rw [List.append_nil, hfn, hr]
  exact trodAll_mk1 ⟨1, by simp [DataW.trod, hB, Value.cells]⟩
 refine ⟨[d], [], before, [], before, [], hW, hres _ _ _, ?_, ?_, hb.frame _, fun h => by cases h⟩
 ·rw [List.append_nil, hfn, hp]
  exact trodAll_mk1 (RowKit.Below.trod hl hrr hrow h0 hb fun x hx => hlt x hx)
 ·rw [hvars, List.append_nil, hfn]; exact rfl
end
end Go.Ab
end
section
namespace Go.Ab.Mq
open Go.Proofs Go.Ab Go.Ab.Mk Go.Proofs.Mk
set_option maxHeartbeats 4000000
set_option maxRecDepth 100000
theorem uc5 (t : Tm) : V.agg [V.cell t.val 0, V.cell t.val 1, V.cell t.val 2, V.cell t.val 3, V.cell t.val 4] = t.val := rfl
theorem asB (b : Bool) : V.asBool (.bool b) = some b := rfl
theorem asI (n : Int) : V.asInt (.int .i64 n) .i64 = some n := rfl
theorem asS (s : ByteArray) : V.asStr (.str s) = some s := rfl
theorem gT : grd true = some () := rfl
structure FineT (t : Tm) : Prop where
 mass : t.mass ≤ 80000
 ok : Mk.TOk t
 ne : ∀ l ∈ t.all, printL l ≠ []
theorem fineT_of {s : ByteArray} (h : (tparseV s).2.1 = 0) : FineT (tparseV s).1 := by
 obtain ⟨h1, r⟩ := tparse_read h
 have m := r.mass
 exact ⟨by omega, tok_read h, fun l hl => (r.all l hl).1⟩
structure Pr (t : Tm) : Prop where
 top : t.top < 10 ^ 12
 wide : t.wide < 2 ^ 32
 ne : ∀ l ∈ t.all, printL l ≠ []
 len : (printT t).length < 2 ^ 33
theorem Pr.of {t : Tm} (h1 : t.top < 10 ^ 12) (h2 : t.wide < 2 ^ 32) (h3 : ∀ l ∈ t.all, printL l ≠ []) (h4 : Named t) (h5 : t.parts ≤ 1000000) : Pr t :=
 ⟨h1, h2, h3, by have := print_parts h1 h4; omega⟩
theorem FineT.pr {t : Tm} (h : FineT t) : Pr t := Pr.of (by have := h.ok.top; omega) (by have := wide_mass t; have := h.mass; omega) h.ne ⟨h.ok.lv, h.ok.names⟩ (by have := parts_mass t; have := h.mass; omega)
theorem printQ {t : Tm} (h : Pr t) (σ : Sto) : ∃ σ', lim Mq.C 8 [(t.val, false)] σ = some (.ret [(.str (ba (printT t)), false)], σ') := by
 obtain ⟨σ', h4⟩ := tprint_law t (by have := h.top; omega) h.wide h.ne h.len σ
 exact ⟨σ', lim_ext (C := Mq.C) (f := 8) (s := lim Mk.C 8) (by kernel_rfl) h4⟩
theorem liftQ (t : Tm) {n f : Nat} (ht : t.top < 2 ^ 50) (hd : t.depth < 2 ^ 49) (hn : n < 2 ^ 50) (hf : f < 2 ^ 50) (σ : Sto) : ∃ σ', lim Mq.C 10 [(t.val, false), (.int .i64 n, false), (.int .i64 f, false)] σ = some (.ret [((liftT n t f).val, false)], σ') := by
 obtain ⟨τ, h⟩ := tlift_law t ht hd hn hf σ
 exact ⟨_, lim_ext (C := Mq.C) (f := 10) (s := lim Mk.C 10) (by kernel_rfl) h⟩
theorem substQ (t v : Tm) (ht : t.top < 2 ^ 50) (hd : t.depth < 2 ^ 49) (hv : v.top < 2 ^ 50) (hvd : v.depth < 2 ^ 49) (σ : Sto) : ∃ σ', lim Mq.C 9 [(t.val, false), (v.val, false)] σ = some (.ret [((substT v t 0).val, false)], σ') := by
 obtain ⟨τ, h⟩ := tsubst_law t v ht hd hv hvd σ
 exact ⟨_, lim_ext (C := Mq.C) (f := 9) (s := lim Mk.C 9) (by kernel_rfl) h⟩
theorem parseQ (s : ByteArray) (hs : s.size < 2 ^ 61) (σ : Sto) : ∃ err σ', lim Mq.C 11 [(.str s, false)] σ = some (.ret [((tparseV s).1.val, false), (err, false)], σ') ∧ ((tparseV s).2.1 = 0 → err = .nilIface) := by
 obtain ⟨err, σ', h1, _, h2⟩ := tparse_law2 s hs σ
 exact ⟨err, σ', lim_ext (C := Mq.C) (f := 11) (s := tparseS (lim Mk.C)) (by kernel_rfl) h1, h2⟩
def tF : Tm := .lam (.var 0) (.app (.var 0) (.var 1))
def vF : Tm := .var 3
theorem ok_plain {t : Tm} (h : t.top < 100000) (h1 : t.all = []) (h2 : t.names = []) : Mk.TOk t := ⟨h, fun l hl => by rw [h1] at hl; simp at hl, fun x hx => by rw [h2] at hx; simp at hx⟩
theorem pr_plain {t : Tm} (h : t.top < 100000) (h1 : t.all = []) (h2 : t.names = []) (h3 : t.wide < 2 ^ 32) (h4 : t.parts ≤ 1000000) : Pr t :=
 Pr.of (by omega) h3 (fun l hl => by rw [h1] at hl; simp at hl) ⟨(ok_plain h h1 h2).lv, (ok_plain h h1 h2).names⟩ h4
theorem sF : ByteArray.mk #[40, 108, 97, 109, 32, 35, 48, 32, 40, 97, 112, 112, 32, 35, 48, 32, 35, 49, 41, 41] = ba (printT tF) := by
 simp [tF, printT, ksL, wlam, wapp, dd_lt, ba]
theorem sV : ByteArray.mk #[35, 51] = ba (printT vF) := by simp [vF, printT, dd_lt, ba]
theorem sS : ByteArray.mk #[40, 108, 97, 109, 32, 35, 51, 32, 40, 97, 112, 112, 32, 35, 48, 32, 35, 52, 41, 41] = ba (printT (substT vF tF 0)) := by
 simp [tF, vF, substT, liftT, printT, ksL, wlam, wapp, dd_lt, ba]
theorem sL : ByteArray.mk #[40, 108, 97, 109, 32, 35, 50, 32, 40, 97, 112, 112, 32, 35, 48, 32, 35, 51, 41, 41] = ba (printT (liftT 2 tF 0)) := by
 simp [tF, liftT, printT, ksL, wlam, wapp, dd_lt, ba]
theorem termFacts_law (σ : Sto) : ∃ σ', lim Mq.C 4 [] σ = some (.ret [(.bool true, false)], σ') := by
 have hF : (printT tF).length ≤ 20000 := by simp [tF, printT, ksL, wlam, wapp, dd_lt]
 have hV : (printT vF).length ≤ 20000 := by simp [vF, printT, dd_lt]
 have r1 := tparse_print (t := tF) (ok_plain (by decide) rfl rfl) hF
 have r2 := tparse_print (t := vF) (ok_plain (by decide) rfl rfl) hV
 obtain ⟨e1, σ1, h1, n1⟩ := parseQ (ba (printT tF)) (by rw [ba_size]; omega) σ
 obtain ⟨e2, σ2, h2, n2⟩ := parseQ (ba (printT vF)) (by rw [ba_size]; omega) σ1
 rw [r1] at h1 n1
 rw [r2] at h2 n2
 obtain rfl := n1 rfl
 obtain rfl := n2 rfl
 rw [← sF] at h1
 rw [← sV] at h2
 obtain ⟨σ3, h3⟩ := substQ tF vF (by decide) (by decide) (by decide) (by decide) σ2
 obtain ⟨σ4, h4⟩ := printQ (t := substT vF tF 0) (pr_plain (by decide) rfl rfl (by decide) (by decide)) σ3
 obtain ⟨σ5, h5⟩ := liftQ tF (n := 2) (f := 0) (by decide) (by decide) (by decide) (by decide) σ4
 obtain ⟨σ6, h6⟩ := printQ (t := liftT 2 tF 0) (pr_plain (by decide) rfl rfl (by decide) (by decide)) σ5
 rw [← sS] at h4
 rw [← sL] at h6
 have hg : ∀ {c : Cell} {cs : List Cell}, (c :: cs).getD 0 cellD = c := fun {_ _} => rfl
 have hg1 : ∀ {c d : Cell} {cs : List Cell}, (c :: d :: cs).getD 1 cellD = d := fun {_ _ _} => rfl
 have nn : V.ifaceNil .nilIface = some true := rfl
 refine ⟨σ6, termFacts_lim (n := 0) ?_⟩
 simp only [termFacts, termFactsF]
 refine (callK_ret2 h1).trans ?_
 simp only [hg, hg1, tm_fits, gT, Option.bind_some, uc5]
 refine (callK_ret2 h2).trans ?_
 simp only [hg, hg1, tm_fits, gT, Option.bind_some, uc5, nn, Bool.not_true, cond_false]
 refine (callK_ret1 h3).trans ?_
 simp only [hg]
 refine (callK_ret1 h4).trans ?_
 refine (callK_ret1 h5).trans ?_
 simp only [hg]
 refine (callK_ret1 h6).trans ?_
 simp only [hg, asS, Option.bind_some, beq_self_eq_true, cond_true]
structure OpFine (o : OpV) : Prop where
 s : o.s.size < 2 ^ 59
 t : o.t.size < 2 ^ 59
 a : (Lit.int .i64 o.a).wf = true
theorem termLaws_loop (N : Nat) {L : List OpV} (hb : L.length < 2 ^ 60) (hs : ∀ o ∈ L, OpFine o) :
  ∀ (m i : Nat) (σ : Sto), i ≤ L.length → L.length - i < m → ∃ σ', termLawsl0 (lim Mq.C) N m (L.map OpV.enc) (.bool true) i σ = some (.ret [(.bool true, false)], σ')
 | 0, i, _, _, hm => by omega
 | m + 1, i, σ, hi, hm => by
  show ∃ σ', termLawss0 (lim Mq.C) (termLawsl0 (lim Mq.C) N m) (L.map OpV.enc) (.bool true) i σ = _
  by_cases hlt : i < L.length
  case neg =>
   unfold termLawss0
   rw [List.length_map, dnlt hlt]
   exact ⟨σ, rfl⟩
  have f := hs _ (List.getElem_mem hlt)
  have hget : (L.map OpV.enc).getD (Int.toNat (i : Int)) [] = L[i].enc := by simp [hlt]
  have hbig : decide ((i : Int) < 1152921504606846976) = true := by simp; omega
  have ih := fun σ => termLaws_loop N hb hs m (i + 1) σ (by omega) (by omega)
  have hi1 := wrap_succ (show i < 2 ^ 61 by omega)
  have d1 : L[i].enc.getD 1 V.any = .str L[i].s := rfl
  have d2 : L[i].enc.getD 2 V.any = .str L[i].t := rfl
  have d4 : L[i].enc.getD 4 V.any = .int .i64 L[i].a := rfl
  have hg : ∀ {c : Cell} {cs : List Cell}, (c :: cs).getD 0 cellD = c := fun {_ _} => rfl
  have hg1 : ∀ {c d : Cell} {cs : List Cell}, (c :: d :: cs).getD 1 cellD = d := fun {_ _ _} => rfl
  have f2 : ∀ x y : Int, V.fits (.agg [.int .i64 x, .int .i64 y]) true 2 = true := fun _ _ => rfl
  have c0 : ∀ x y : Int, V.cell (.agg [.int .i64 x, .int .i64 y]) 0 = .int .i64 x := fun _ _ => rfl
  have nn : V.ifaceNil .nilIface = some true := rfl
  obtain ⟨c1, a1, σ1, h1, k1⟩ := fitting_law L[i].s (by have := f.s; omega) σ
  obtain ⟨c2, a2, σ2, h2, k2⟩ := fitting_law L[i].t (by have := f.t; omega) σ1
  have q1 := lim_ext (C := Mq.C) (f := 5) (s := lim Mk.C 5) (by kernel_rfl) h1
  have q2 := lim_ext (C := Mq.C) (f := 5) (s := lim Mk.C 5) (by kernel_rfl) h2
  have start : ∀ r, ((bif c1 != 0 then termLawsl0 (lim Mq.C) N m (L.map OpV.enc) (.bool true) ((i + 1 : Nat) : Int) σ2 else r) = r) ∨ True := fun _ => .inr trivial
  unfold termLawss0
  rw [List.length_map]
  simp only [dlt hlt, hbig, d0, cond_true, asB, gT, Option.bind_some, Bool.and_self, hget, d1, d2, d4, hi1]
  rw [callK_ret2 q1]
  simp only [hg, hg1, tm_fits, f2, gT, Option.bind_some]
  rw [callK_ret2 q2]
  simp only [hg, hg1, tm_fits, f2, gT, Option.bind_some, c0, asI, uc5]
  by_cases e1 : c1 = 0
  case neg =>
   rw [show (c1 != 0) = true by simpa using e1, cond_true]
   exact ih σ2
  rw [show (c1 != 0) = false by simpa using e1, cond_false]
  by_cases e2 : c2 = 0
  case neg =>
   rw [show (c2 != 0) = true by simpa using e2, cond_true]
   exact ih σ2
  rw [show (c2 != 0) = false by simpa using e2, cond_false]
  have hx := fineT_of (k1 e1)
  have hy := fineT_of (k2 e2)
  generalize (tparseV L[i].s).1 = x at hx ⊢
  generalize (tparseV L[i].t).1 = y at hy ⊢
  clear h1 h2 q1 q2 k1 k2 start
  obtain ⟨mu, h3, hmu⟩ := much_lawE x y hx.mass hy.mass σ2
  have q3 := lim_ext (C := Mq.C) (f := 6) (s := lim Mk.C 6) (by kernel_rfl) h3
  rw [callK_ret1 q3]
  simp only [hg, asB, Option.bind_some]
  cases mu with
  | true => rw [cond_true]; exact ih σ2
  | false =>
  obtain ⟨px, pz⟩ := hmu rfl
  rw [cond_false]
  obtain ⟨n, hn, hn6⟩ := limitV_nat f.a
  have q4 := lim_ext (C := Mq.C) (f := 7) (s := lim Mk.C 7) (by kernel_rfl) (limit_law L[i].a σ2)
  rw [hn] at q4
  have xm := hx.mass
  have ym := hy.mass
  have xt := hx.ok.top
  have yt := hy.ok.top
  have xd := depth_mass x
  have yd := depth_mass y
  have xw := wide_mass x
  have yw := wide_mass y
  have xp := parts_mass x
  have yp := parts_mass y
  obtain ⟨σ5, q5⟩ := printQ hx.pr σ2
  obtain ⟨σ6, q6⟩ := liftQ x (n := 1) (f := 0) (by omega) (by omega) (by omega) (by omega) σ5
  obtain ⟨l1, l2, l3, l4⟩ := lift_wd 1 x 0
  obtain ⟨σ7, q7⟩ := substQ (liftT 1 x 0) y (by omega) (by omega) (by omega) (by omega) σ6
  rw [subst_lift] at q7
  obtain ⟨σ8, q8⟩ := printQ hx.pr σ7
  have hlen := hx.pr.len
  obtain ⟨err, σ9, q9, nerr⟩ := parseQ (ba (printT x)) (by rw [ba_size]; omega) σ8
  have hc : Pr (tparseV (ba (printT x))).1 := by
   by_cases h : (printT x).length ≤ 20000
   ·rw [tparse_print hx.ok h]; exact hx.pr
   ·rw [tparseV_long h]; exact pr_plain (by decide) rfl rfl (by decide) (by decide)
  obtain ⟨σ10, q10⟩ := printQ hc σ9
  have hsp := spine_mass x
  have q11 := lim_ext (C := Mq.C) (f := 12) (s := lim Mk.C 12) (by kernel_rfl) (tspine_law x (by omega) σ10)
  have q12 := lim_ext (C := Mq.C) (f := 13) (s := lim Mk.C 13) (by kernel_rfl) (tapply_law x.head x.spine (by omega) σ10)
  rw [apply_spine] at q12
  obtain ⟨σ13, q13⟩ := printQ hx.pr σ10
  obtain ⟨σ14, q14⟩ := substQ x y (by omega) (by omega) (by omega) (by omega) σ13
  obtain ⟨z1, z2, z3, z4⟩ := subst_wd y x 0
  obtain ⟨σ15, q15⟩ := liftQ (substT y x 0) (n := 2) (f := n) (by omega) (by omega) (by omega) (by omega) σ14
  obtain ⟨w1, w2, w3, w4⟩ := lift_wd 2 (substT y x 0) n
  have hz : Pr (liftT 2 (substT y x 0) n) := by
   refine Pr.of (by omega) (by omega) (fun l hl => ?_) ⟨fun l hl => ?_, fun s hs => ?_⟩ (by rw [lift_parts]; omega)
   ·rw [w4] at hl
    rcases z4 l hl with h | h
    ·exact hx.ne l h
    ·exact hy.ne l h
   ·rw [w4] at hl
    rcases z4 l hl with h | h
    ·exact hx.ok.lv l h
    ·exact hy.ok.lv l h
   ·rw [lift_names] at hs
    rcases subst_names y x 0 s hs with h | h
    ·exact hx.ok.names s h
    ·exact hy.ok.names s h
  obtain ⟨σ16, q16⟩ := printQ hz σ15
  obtain ⟨σ17, q17⟩ := liftQ x (n := 2) (f := n + 1) (by omega) (by omega) (by omega) (by omega) σ16
  obtain ⟨σ18, q18⟩ := liftQ y (n := 2) (f := n) (by omega) (by omega) (by omega) (by omega) σ17
  obtain ⟨u1, u2, u3, u4⟩ := lift_wd 2 x (n + 1)
  obtain ⟨v1, v2, v3, v4⟩ := lift_wd 2 y n
  obtain ⟨σ19, q19⟩ := substQ (liftT 2 x (n + 1)) (liftT 2 y n) (by omega) (by omega) (by omega) (by omega) σ18
  have hls := lift_subst (c := 2) (n := n) y x 0
  rw [Nat.add_zero] at hls
  rw [← hls] at q19
  obtain ⟨σ20, q20⟩ := printQ hz σ19
  obtain ⟨τ21, h21⟩ := tclosed_law x (n := n) (by omega) (by omega) (by omega) σ20
  have q21 := lim_ext (C := Mq.C) (f := 14) (s := lim Mk.C 14) (by kernel_rfl) h21
  generalize σ20 ++ τ21 = σ21 at q21
  obtain ⟨σ22, q22⟩ := liftQ x (n := 3) (f := n) (by omega) (by omega) (by omega) (by omega) σ21
  obtain ⟨y1, y2, y3, y4⟩ := lift_wd 3 x n
  have hr : Pr (liftT 3 x n) := by
   refine Pr.of (by omega) (by omega) (fun l hl => ?_) ⟨fun l hl => ?_, fun s hs => ?_⟩ (by rw [lift_parts]; omega)
   ·rw [y4] at hl; exact hx.ne l hl
   ·rw [y4] at hl; exact hx.ok.lv l hl
   ·rw [lift_names] at hs; exact hx.ok.names s hs
  obtain ⟨σ23, q23⟩ := printQ hr σ22
  have hclosed : (!anyT (pClosed n) x 0) = true → liftT 3 x n = x := fun h => by
   have := lift_closed (c := 3) (n := n) x 0 (by simpa using h)
   rwa [Nat.add_zero] at this
  have wn : IntKind.wrap .i64 ((n : Int) + 1) = ((n + 1 : Nat) : Int) := wrap_succ (by omega)
  obtain ⟨σ', last⟩ := ih σ23
  refine ⟨σ', ?_⟩
  clear h3 q3 hmu ih
  refine (callK_ret1 q4).trans ?_
  simp only [hg]
  refine (callK_ret1 q5).trans ?_
  refine (callK_ret1 q6).trans ?_
  simp only [hg]
  refine (callK_ret1 q7).trans ?_
  simp only [hg]
  refine (callK_ret1 q8).trans ?_
  simp only [hg]
  refine (callK_ret2 q9).trans ?_
  simp only [hg, hg1, tm_fits, gT, Option.bind_some, uc5]
  refine (callK_ret1 q10).trans ?_
  refine (callK_ret2 q11).trans ?_
  simp only [hg, hg1, tm_fits, gT, Option.bind_some, uc5]
  refine (callK_ret1 q12).trans ?_
  simp only [hg]
  refine (callK_ret1 q13).trans ?_
  simp only [hg, asS, Option.bind_some, ba_size]
  by_cases hle : (printT x).length ≤ 20000
  ·rw [show decide ((((printT x).length : Nat) : Int) ≤ 20000) = true by simp; omega, cond_true]
   have hp := tparse_print hx.ok hle
   obtain rfl := nerr (by rw [hp])
   rw [hp]
   simp only [nn, Option.bind_some, Bool.not_true, cond_false]
   simp only [asS, Option.bind_some, beq_self_eq_true, Bool.not_true, cond_false]
   refine (callK_ret1 q14).trans ?_
   simp only [hg]
   refine (callK_ret1 q15).trans ?_
   simp only [hg]
   refine (callK_ret1 q16).trans ?_
   simp only [hg, asI, Option.bind_some, wn]
   refine (callK_ret1 q17).trans ?_
   refine (callK_ret1 q18).trans ?_
   simp only [hg]
   refine (callK_ret1 q19).trans ?_
   simp only [hg]
   refine (callK_ret1 q20).trans ?_
   refine (callK_ret1 q21).trans ?_
   refine (callK_ret1 q22).trans ?_
   simp only [hg]
   refine (callK_ret1 q23).trans ?_
   simp only [hg, asS, asB, Option.bind_some, beq_self_eq_true, Bool.not_true, cond_false]
   cases hcl : (!anyT (pClosed n) x 0) with
   | false => rw [cond_false]; exact last
   | true =>
    rw [cond_true, hclosed hcl]
    simp only [beq_self_eq_true, Bool.not_true, cond_false]
    exact last
  ·rw [show decide ((((printT x).length : Nat) : Int) ≤ 20000) = false by simp; omega, cond_false]
   simp only [asS, Option.bind_some, beq_self_eq_true, Bool.not_true, cond_false]
   refine (callK_ret1 q14).trans ?_
   simp only [hg]
   refine (callK_ret1 q15).trans ?_
   simp only [hg]
   refine (callK_ret1 q16).trans ?_
   simp only [hg, asI, Option.bind_some, wn]
   refine (callK_ret1 q17).trans ?_
   refine (callK_ret1 q18).trans ?_
   simp only [hg]
   refine (callK_ret1 q19).trans ?_
   simp only [hg]
   refine (callK_ret1 q20).trans ?_
   refine (callK_ret1 q21).trans ?_
   refine (callK_ret1 q22).trans ?_
   simp only [hg]
   refine (callK_ret1 q23).trans ?_
   simp only [hg, asS, asB, Option.bind_some, beq_self_eq_true, Bool.not_true, cond_false]
   cases hcl : (!anyT (pClosed n) x 0) with
   | false => rw [cond_false]; exact last
   | true =>
    rw [cond_true, hclosed hcl]
    simp only [beq_self_eq_true, Bool.not_true, cond_false]
    exact last
theorem termLaws_law (L : List OpV) (hb : L.length < 2 ^ 60) (hs : ∀ o ∈ L, OpFine o) (σ : Sto) :
  ∃ σ', lim Mq.C 3 [(.slice 6 25 (L.map OpV.enc), false)] σ = some (.ret [(.bool true, false)], σ') := by
 obtain ⟨σ1, h1⟩ := termFacts_law σ
 obtain ⟨σ', h⟩ := termLaws_loop (L.length + 1) hb hs (L.length + 1) 0 σ1 (by omega) (by omega)
 refine ⟨σ', termLaws_lim (n := L.length + 1) ?_⟩
 simp only [termLaws, termLawsF]
 refine (callK_ret1 h1).trans ?_
 exact h
end Go.Ab.Mq
end
section
namespace Go.Proofs
open Go.RowKit Go.Ab Go.Ab.Mk
set_option maxRecDepth 100000
set_option maxHeartbeats 1000000
def Mk.Row5 : Type := { x : List Value // x.length = 5 ∧ ∀ c ∈ x, c.oneCell' = true }
instance : Inhabited Mk.Row5 := ⟨⟨[.int .i64 0, .int .i64 0, .int .i64 0, .int .i64 0, .int .i64 0], rfl, by simp [Value.oneCell']⟩⟩
def Mk.rowT (t : Tm) (pl : Option Addr) (cl : Nat) (pa : Option Addr) (ca : Nat) : Mk.Row5 := ⟨[.int .i64 t.kind, .int .i64 t.num, .string t.name, .slice pl t.lvs.length cl, .slice pa t.kids.length ca], rfl, by simp [Value.oneCell']⟩
def Mk.revRen : Go.Shelf.Ren where
 f := fun x => match x with
  | 35 => 29
  | n => n
 t := fun x => match x with
  | 0 => 0
  | 3 => 3
  | 4 => 4
  | 22 => 27
  | 23 => 29
  | n => n
 g := fun n => n
theorem Mk.revLaid : SlLaysE0.n35 Tryd.prog Mk.revRen where
 mixed := by kernel_rfl
 f35 := ⟨ "slices.Reverse[[]provekernel/api.Term,provekernel/api.Term]", by kernel_rfl, Tryd.func29.trans (congrArg some rfl)⟩
 t0 := Tryd.underlying0
 a0 := fun _ => by kernel_rfl
 z0 := fun _ => by kernel_rfl
 v0 := fun _ => by kernel_rfl
 t3 := Tryd.underlying3
 a3 := fun _ => by kernel_rfl
 z3 := fun _ => by kernel_rfl
 v3 := fun _ => by kernel_rfl
 t4 := Tryd.underlying4
 a4 := fun _ => by kernel_rfl
 z4 := fun _ => by kernel_rfl
 v4 := fun _ => by kernel_rfl
 t22 := Tryd.underlying27
 a22 := fun _ => by kernel_rfl
 z22 := fun _ => by kernel_rfl
 v22 := fun _ => by kernel_rfl
theorem Mk.tmInfo : (Tryd.prog.info? 29).map (fun i => (i.zero, i.size, i.bytes)) = some (some (.agg #[.int .i64 0, .int .i64 0, .string ⟨#[]⟩, .slice none 0 0, .slice none 0 0]), 5, 80) := by kernel_rfl
def Mk.Flat (rows : List Mk.Row5) (xs : List Value) : Prop := xs.length = rows.length * 5 ∧ ∀ (i j : Nat) (x : Mk.Row5) (c : Value), rows[i]? = some x → x.val[j]? = some c → xs[i * 5 + j]? = some c
theorem Mk.Flat.nil : Mk.Flat [] [] := ⟨rfl, fun i j x c h => by simp at h⟩
theorem Mk.Flat.snoc {rows : List Mk.Row5} {xs : List Value} (h : Mk.Flat rows xs) (x : Mk.Row5) : Mk.Flat (rows ++ [x]) (xs ++ x.val) := by
 refine ⟨by rw [List.length_append, List.length_append, h.1, x.2.1, List.length_singleton]; omega, fun i j y c hy hc => ?_⟩
 have hj : j < 5 := by have := (List.getElem?_eq_some_iff.1 hc).1; rw [y.2.1] at this; exact this
 by_cases hi : i < rows.length
 ·rw [List.getElem?_append_left hi] at hy
  rw [List.getElem?_append_left (by rw [h.1]; omega)]
  exact h.2 i j y c hy hc
 ·rw [List.getElem?_append_right (by omega)] at hy
  obtain ⟨h1, h2⟩ := List.getElem?_eq_some_iff.1 hy
  simp only [List.length_singleton] at h1
  have h0 : i - rows.length = 0 := by omega
  simp only [h0, List.getElem_cons_zero] at h2
  subst h2
  rw [List.getElem?_append_right (by rw [h.1]; omega), h.1, show i * 5 + j - rows.length * 5 = j by omega]
  exact hc
theorem Mk.flat_holds {rows : List Mk.Row5} {xs : List Value} (h : Mk.Flat rows xs) {W : World} {g : Nat} {cur : Array Value} (hg : W.heap[g]? = some (.cells cur 29 (0, 0))) (htake : cur.toList.take (rows.length * 5) = xs) (hcap : rows.length * 5 ≤ cur.size) :
  Go.Sort.HoldsK (fun x : Mk.Row5 => x.val) 5 W g 0 rows.toArray := by
 intro j hj
 rw [Go.Sort.size_flatK, List.size_toArray] at hj
 refine ⟨?_, frozen_of hg _⟩
 have hi : j / 5 < rows.length := by omega
 have hx : rows[j / 5]? = some rows[j / 5] := List.getElem?_eq_getElem hi
 have hlt : j % 5 < (rows[j / 5]).val.length := by rw [(rows[j / 5]).2.1]; omega
 have hc := h.2 (j / 5) (j % 5) _ _ hx (List.getElem?_eq_getElem hlt)
 rw [show j / 5 * 5 + j % 5 = j by omega, ← htake, List.getElem?_take, if_pos hj, Array.getElem?_toList] at hc
 rw [cell_of hg, Nat.zero_add, hc, Go.Sort.get_flatK _ _ _ _ (by simpa using hj)]
 have e1 : rows.toArray[j / 5]! = rows[j / 5] := by rw [getElem!_pos rows.toArray (j / 5) (by simpa using hi)]; simp
 rw [e1]
 show some _ = some ((rows[j / 5]).val[j % 5]!)
 rw [getElem!_pos (rows[j / 5]).val (j % 5) hlt]
theorem Mk.rev_cells {rows : List Mk.Row5} {W : World} {g n : Nat} (hH : Go.Sort.HoldsK (fun x : Mk.Row5 => x.val) 5 W g 0 rows.toArray) (i j : Nat) (x : Mk.Row5) (c : Value) (hx : rows.reverse[i]? = some x) (hc : x.val[j]? = some c) :
  (Go.Sort.putRowK (fun x : Mk.Row5 => x.val) 5 (Go.Sort.ahead W n) g 0 rows.toArray.reverse).cell? ⟨g, i * 5 + j, none⟩ = some c := by
 obtain ⟨hi, hx'⟩ := List.getElem?_eq_some_iff.1 hx
 obtain ⟨hj, hc'⟩ := List.getElem?_eq_some_iff.1 hc
 rw [List.length_reverse] at hi
 rw [x.2.1] at hj
 have hs : (Go.Sort.flatK (fun x : Mk.Row5 => x.val) 5 rows.toArray.reverse).size = (Go.Sort.flatK (fun x : Mk.Row5 => x.val) 5 rows.toArray).size := by simp
 have h := Go.Sort.cell?_putRow id (Go.Sort.ahead W n) g 0 _ (Go.Sort.flatK (fun x : Mk.Row5 => x.val) 5 rows.toArray.reverse) hH hs (i * 5 + j) (by simp; omega)
 rw [Nat.zero_add] at h
 show (Go.Sort.putRow id (Go.Sort.ahead W n) g 0 _).cell? _ = _
 rw [h, Go.Sort.get_flatK _ _ _ _ (by simp; omega), show (i * 5 + j) / 5 = i by omega, show (i * 5 + j) % 5 = j by omega]
 have e1 : rows.toArray.reverse[i]! = x := by
  rw [getElem!_pos rows.toArray.reverse i (by simpa using hi), ← hx']
  simp
 rw [e1]
 show some (x.val[j]!) = some c
 rw [getElem!_pos x.val j (by rw [x.2.1]; exact hj), hc']
theorem Mk.rev_heap {rows : Array Mk.Row5} {W : World} {g n i : Nat} (h : i ≠ g) : (Go.Sort.putRowK (fun x : Mk.Row5 => x.val) 5 (Go.Sort.ahead W n) g 0 rows).heap[i]? = W.heap[i]? := by
 show (W.heap.modify g _)[i]? = _
 rw [Array.getElem?_modify, if_neg (fun e => h e.symm)]
theorem Mk.rev_near {rows : Array Mk.Row5} {W : World} {g n : Nat} : Near g g W (Go.Sort.putRowK (fun x : Mk.Row5 => x.val) 5 (Go.Sort.ahead W n) g 0 rows) :=
 ⟨rfl, rfl, rfl, by show (W.heap.modify g _).size = _; simp, fun i h _ => Mk.rev_heap h⟩
theorem _root_.Go.Ab.Mine.grown {n0 : Nat} {G : Gh} {w w' w'' : World} (h : Mine n0 G w w') (hw : WF G w) (hn : n0 ≤ w.heap.size) {row : Option Nat} (hg : w'.grownBy w'' row) (hr : ∀ k, row = some k → w.heap.size ≤ k) : Mine n0 G w w'' :=
 ⟨hg.os.trans h.os, hg.tape.trans h.tape, hg.output.trans h.output, Nat.le_trans h.size hg.size, fun i hi hne => (hg.block i (Nat.lt_of_lt_of_le hi h.size) (fun e => by have := hr i e.symm; omega)).trans (h.heap i hi hne)⟩
theorem Mk.row_done {C : Ctx} {σ : Sto} {G : Gh} {w W : World} {g : Nat} {t : Tm} {L : List Tm} {rows : List Mk.Row5} {cap : Nat} {h : Value}
  (hS : SInv C.glob G w σ) (hM : Mine w.heap.size G w W) (hg : w.heap.size ≤ g) (hgl : g < W.heap.size) (hlen : rows.length = L.length) (hcap : L.length ≤ cap)
  (hrel : ∀ (i : Nat) (t : Tm) (x : Mk.Row5), L[i]? = some t → rows[i]? = some x → Rel G w t.val (.agg x.val.toArray))
  (hcell : ∀ (i j : Nat) (x : Mk.Row5) (c : Value), rows[i]? = some x → x.val[j]? = some c → W.cell? ⟨g, i * 5 + j, none⟩ = some c) (hh : Rel G w t.val h) :
  ∃ G', Ext G w G' W ∧ SInv C.glob G' W σ ∧ Rel G' W t.val h ∧ Rel G' W (.slice 5 29 (L.map Tm.enc)) (.slice (some ⟨g, 0, none⟩) L.length cap) := by
 have og : Own1 w.heap.size G g := Own1.new hS.wf (Nat.le_refl _) hg
 have hSW := hM.sinv hS
 have up : ∀ v c, Rel G w v c → Rel (G.settle g ((L.map Tm.enc).length * 5)) W v c := fun v c h => Gh.settle_rel og.lim (hM.rel hS.wf h)
 refine ⟨G.settle g ((L.map Tm.enc).length * 5), ((hM.extB hS.wf (Nat.le_refl _)).trans (Gh.settle_ext og)).toExt, Gh.settle_sinv og hgl hSW, up _ _ hh, ?_⟩
 have e : L.length = (L.map Tm.enc).length := by simp
 rw [e]
 refine Rel.slice 5 _ (L.map Tm.enc) g 0 cap (rows.map fun x => x.val) (by simpa using hlen) (by simpa using hcap) ?_ (fun i x hx => ?_) (fun i x hx => ?_) (fun i j x c hi hj => ?_) (fun i j ev x v c he hi hv hc => ?_)
 ·show 0 + (L.map Tm.enc).length * 5 ≤ if g = g then (L.map Tm.enc).length * 5 else _
  rw [if_pos rfl]; omega
 ·rw [List.getElem?_map, Option.map_eq_some_iff] at hx
  obtain ⟨t, _, rfl⟩ := hx
  exact t.enc_len
 ·rw [List.getElem?_map, Option.map_eq_some_iff] at hx
  obtain ⟨y, _, rfl⟩ := hx
  exact y.2.1
 ·rw [List.getElem?_map, Option.map_eq_some_iff] at hi
  obtain ⟨y, hy, rfl⟩ := hi
  rw [Nat.zero_add]
  exact ⟨hcell i j y c hy hj, y.2.2 c (List.mem_of_getElem? hj)⟩
 ·rw [List.getElem?_map, Option.map_eq_some_iff] at hi he
  obtain ⟨y, hy, rfl⟩ := hi
  obtain ⟨u, hu, rfl⟩ := he
  have hr := hrel i u y hu hy
  have hval : u.val = .agg u.enc := by rw [u.enc_eq]; rfl
  rw [hval] at hr
  exact up _ _ ((rel_parts hr).2 j v c hv hc)
theorem Mk.row_none {C : Ctx} {σ : Sto} {G : Gh} {w W : World} {t : Tm} {h : Value} (hS : SInv C.glob G w σ) (hM : Mine w.heap.size G w W) (hh : Rel G w t.val h) :
  ∃ G', Ext G w G' W ∧ SInv C.glob G' W σ ∧ Rel G' W t.val h ∧ Rel G' W (.slice 5 29 (([] : List Tm).map Tm.enc)) (.slice none 0 0) :=
 ⟨G, (hM.extB hS.wf (Nat.le_refl _)).toExt, hM.sinv hS, hM.rel hS.wf hh, .snil _ _⟩
theorem Mk.spine_end5 {W : World} {B2 : Nat} {x0 x1 x2 x3 x4 v : Value} (h6 : W.heap[B2]? = some (.cells #[.int .i64 0, .int .i64 0, .string ⟨#[]⟩, .slice none 0 0, .slice none 0 0] 29 (0, 0)))
  {Q : Ending → World → Prop} {tmps : Array Value} (ht : tmps[2]? = some (.pointer (some ⟨B2, 0, none⟩))) (hv : tmps[3]? = some v)
  (hQ : Q (.returned (.tuple #[.agg #[x0, x1, x2, x3, x4], v])) (((((W.setCell ⟨B2, 0, none⟩ x0).setCell ⟨B2, 0 + 1, none⟩ x1).setCell ⟨B2, 0 + 2, none⟩ x2).setCell ⟨B2, 0 + 3, none⟩ x3).setCell ⟨B2, 0 + 4, none⟩ x4)) :
  bodyPost Tryd.prog Tryd.f12 Q .ret { tmps := tmps, defers := [] } (((((W.setCell ⟨B2, 0, none⟩ x0).setCell ⟨B2, 1, none⟩ x1).setCell ⟨B2, 2, none⟩ x2).setCell ⟨B2, 3, none⟩ x3).setCell ⟨B2, 4, none⟩ x4) := by
 have hr : (((((W.setCell ⟨B2, 0, none⟩ x0).setCell ⟨B2, 1, none⟩ x1).setCell ⟨B2, 2, none⟩ x2).setCell ⟨B2, 3, none⟩ x3).setCell ⟨B2, 4, none⟩ x4).heap[B2]? = some (.cells #[x0, x1, x2, x3, x4] 29 (0, 0)) :=
  heap_setCell_same _ _ _ _ _ _ (heap_setCell_same _ _ _ _ _ _ (heap_setCell_same _ _ _ _ _ _ (heap_setCell_same _ _ _ _ _ _ (heap_setCell_same _ _ _ _ _ _ h6))))
 generalize hW : (((((W.setCell ⟨B2, 0, none⟩ x0).setCell ⟨B2, 1, none⟩ x1).setCell ⟨B2, 2, none⟩ x2).setCell ⟨B2, 3, none⟩ x3).setCell ⟨B2, 4, none⟩ x4) = W' at hr
 have hQ' : Q (.returned (.tuple #[.agg #[x0, x1, x2, x3, x4], v])) W' := by rw [← hW]; exact hQ
 have k0 : W'.cell? ⟨B2, 0, none⟩ = some x0 := cell_of hr 0
 have k1 : W'.cell? ⟨B2, 1, none⟩ = some x1 := cell_of hr 1
 have k2 : W'.cell? ⟨B2, 2, none⟩ = some x2 := cell_of hr 2
 have k3 : W'.cell? ⟨B2, 3, none⟩ = some x3 := cell_of hr 3
 have k4 : W'.cell? ⟨B2, 4, none⟩ = some x4 := cell_of hr 4
 refine bodyPost_ret (v := .tuple #[.agg #[x0, x1, x2, x3, x4], v]) ?_ rfl hQ'
 simp [results, Tryd.results12, ht, hv, k0, k1, k2, k3, k4, go_sem]
end Go.Proofs
end
section
namespace Go.Proofs
open Go.RowKit Go.Ab Go.Ab.Mk
set_option maxRecDepth 100000
set_option maxHeartbeats 2000000
structure Mk.SpR (G : Gh) (w : World) (t : Tm) (B1 B2 : Nat) (s4 : Value) (wr : World) (u : Tm) (acc : List Tm) (rows : List Mk.Row5) (xs : List Value) (x : Mk.Row5) : Prop where
 head : t.head = u.head
 spine : t.spine = u.spine ++ acc.reverse
 mine : Mine w.heap.size G w wr
 b1 : wr.heap[B1]? = some (.cells x.val.toArray 29 (0, 0))
 b2 : wr.heap[B2]? = some (.cells #[.int .i64 0, .int .i64 0, .string ⟨#[]⟩, .slice none 0 0, .slice none 0 0] 29 (0, 0))
 cur : Rel G w u.val (.agg x.val.toArray)
 len : rows.length = acc.length
 rel : ∀ (i : Nat) (t : Tm) (x : Mk.Row5), acc[i]? = some t → rows[i]? = some x → Rel G w t.val (.agg x.val.toArray)
 flat : Mk.Flat rows xs
 own : wr.ownsRow (w.heap.size + 2) 29 5 s4 acc.length xs
 nil : acc = [] → s4 = .slice none 0 0
theorem Mk.spine_ok {C : Ctx} {σ : Sto} {G : Gh} {w : World} {t : Tm} {c : Value} (hS : SInv C.glob G w σ) (hr : Rel G w t.val c) (hsz : t.spine.length < 2 ^ 40) :
  Calls Tryd.prog 12 #[c] w fun e w' => ∃ G' h v, e = .returned (.tuple #[h, v]) ∧ Ext G w G' w' ∧ SInv C.glob G' w' σ ∧ Rel G' w' t.head.val h ∧ Rel G' w' (.slice 5 29 (t.spine.map Tm.enc)) v := by
 obtain ⟨pl, cl, pa, ca, rfl, hl, ha⟩ := Mk.tm_rel hr
 obtain ⟨i0, hi, hz0, hz1, hz2⟩ := info_parts Mk.tmInfo
 have H0 : Hid (SInv C.glob G w σ) := hS
 have hstart : Hid (Mk.SpR G w t w.heap.size (w.heap.size + 1) (.slice none 0 0) ((w.alloc (.cells #[.int .i64 t.kind, .int .i64 t.num, .string t.name, .slice pl t.lvs.length cl, .slice pa t.kids.length ca] 29)).alloc (.cells #[.int .i64 0, .int .i64 0, .string ⟨#[]⟩, .slice none 0 0, .slice none 0 0] 29)) t [] [] [] (Mk.rowT t pl cl pa ca)) :=
  ⟨rfl, by simp, ((Mine.refl _ G w).alloc _).alloc _, heap_after (heap_new rfl), heap_new (by simp), hr, rfl, fun i t x h => by simp at h, Mk.Flat.nil, World.ownsRow_nil _ _ _ _, fun _ => rfl⟩
 clear hl ha hr hS
 go_enter Tryd.func12, Tryd.ntmps12
 go_wp2_with fail
 go_loopg [4] t.spine.length (fun k s4 wr => ∃ u acc rows xs x, u.spine.length = k ∧ Mk.SpR G w t w.heap.size (w.heap.size + 1) s4 wr u acc rows xs x)
 case atStart => exact ⟨t, [], [], [], _, rfl, hstart.out⟩
 case round =>
  obtain ⟨u, acc, rows, xs, x, hk, hR⟩ := hrel
  clear hstart
  have hlt := Array.getElem?_eq_some_iff.1 hR.b1 |>.1
  have hlt2 := Array.getElem?_eq_some_iff.1 hR.b2 |>.1
  obtain ⟨pl2, cl2, pa2, ca2, hx, _, hkids⟩ := Mk.tm_rel hR.cur
  have hb1 := hR.b1
  injection hx with hx
  rw [hx] at hb1
  by_cases hk3 : u.kind = 3
  ·obtain ⟨a, b, rfl⟩ : ∃ a b, u = .app a b := by cases u <;> simp [Tm.kind] at hk3; exact ⟨_, _, rfl⟩
   have hspn : gk = a.spine.length + 1 := by rw [← hk]; simp [Tm.spine]
   have hacc : acc.length < 2 ^ 40 := by have h1 := congrArg List.length hR.spine; rw [List.length_append, List.length_reverse] at h1; omega
   obtain ⟨bb, off, rfl, hlim, hget⟩ := Mk.kids_rel (L := [a, b]) (by simp) hkids
   obtain ⟨y0, y1, y2, y3, y4, fa, ra⟩ := hget 0 a rfl
   obtain ⟨z0, z1, z2, z3, z4, fb, rb⟩ := hget 1 b rfl
   obtain ⟨apl, acl, apa, aca, ea, _, _⟩ := Mk.tm_rel ra
   obtain ⟨bpl, bcl, bpa, bca, eb, _, _⟩ := Mk.tm_rel rb
   injection ea with ea
   injection eb with eb
   simp only [Array.mk.injEq, List.cons.injEq, and_true] at ea eb
   obtain ⟨rfl, rfl, rfl, rfl, rfl⟩ := ea
   obtain ⟨rfl, rfl, rfl, rfl, rfl⟩ := eb
   have hcell : ∀ i o, o < G.lim i → wr.cell? ⟨i, o, none⟩ = w.cell? ⟨i, o, none⟩ := fun i o ho => by
    simp only [World.cell?]
    rw [hR.mine.heap i (lim_lt H0.out.wf ho) (fun hm => by have := hm.lim; omega)]
   have hbw : bb < w.heap.size := lim_lt H0.out.wf (o := off) (by simp at hlim; omega)
   have fa' : Mk.Five wr bb off _ _ _ _ _ := five_heap fa fun j hj => hcell _ _ (by simp at hlim; omega)
   have fb' : Mk.Five wr bb (off + 5) _ _ _ _ _ := five_heap (by simpa using fb) fun j hj => hcell _ _ (by simp at hlim; omega)
   have HA : Hid (Rel G w a.val (.agg #[.int .i64 a.kind, .int .i64 a.num, .string a.name, .slice apl a.lvs.length acl, .slice apa a.kids.length aca])) := ra
   have HB : Hid (Rel G w b.val (.agg #[.int .i64 b.kind, .int .i64 b.num, .string b.name, .slice bpl b.lvs.length bcl, .slice bpa b.kids.length bca])) := rb
   have hsz1 := hR.mine.size
   have k0 : wr.cell? ⟨w.heap.size, 0, none⟩ = some (.int .i64 3) := cell_of hb1 0
   have k4 : wr.cell? ⟨w.heap.size, 4, none⟩ = some (.slice (some ⟨bb, off, none⟩) 2 ca2) := cell_of hb1 4
   obtain ⟨g0, g1, g2, g3, g4⟩ := fb'
   have HR : Hid (Mk.SpR G w t w.heap.size (w.heap.size + 1) u4 wr (.app a b) acc rows xs x) := hR
   have HF : Hid (Mk.Five wr bb off (.int .i64 a.kind) (.int .i64 a.num) (.string a.name) (.slice apl a.lvs.length acl) (.slice apa a.kids.length aca)) := fa'
   have HB1 : Hid (wr.heap[w.heap.size]? = some (.cells #[.int .i64 3, .int .i64 0, .string ⟨#[]⟩, .slice pl2 0 cl2, .slice (some ⟨bb, off, none⟩) 2 ca2] 29 (0, 0))) := hb1
   clear fa fb fa' hcell hget hkids hlim hx hb1 ra rb hk3
   have hown := hR.own
   clear hR
   go_wp2_with (first
    | (at_builtin; refine wpList_append_own _ rfl _ _ 27 rfl (w.heap.size + 2) 29 i0 _ 5 80 Tryd.underlying27 hi hz0 hz1 hz2 rfl (by decide) _ _ _ rfl (hown.alloc _) ⟨wr.heap.size, 0, none⟩ 1 1 [.int .i64 b.kind, .int .i64 b.num, .string b.name, .slice bpl b.lvs.length bcl, .slice bpa b.kids.length bca] rfl rfl ?c1 ?c2 ?c3 ?c4 ?c5 ?_)
    | fail)
   case c1 =>
    intro j u hj
    have hn : (wr.alloc (.cells #[.int .i64 b.kind, .int .i64 b.num, .string b.name, .slice bpl b.lvs.length bcl, .slice bpa b.kids.length bca] 29)).heap[wr.heap.size]? = some (.cells #[.int .i64 b.kind, .int .i64 b.num, .string b.name, .slice bpl b.lvs.length bcl, .slice bpa b.kids.length bca] 29 (0, 0)) := heap_new rfl
    rw [Addr.add_lit, cell_of hn, Nat.zero_add, ← hj]
    simp
   case c2 => intro u hu; simp only [List.mem_cons, List.not_mem_nil, or_false] at hu; rcases hu with rfl | rfl | rfl | rfl | rfl <;> rfl
   case c3 => unfold maxLen; omega
   case c4 => omega
   case c5 => simp; omega
   ·intro v' w1 hown' hgrow hnil
    have hwf := H0.out.wf
    have hown1 := HR.out.own
    have hne : ∀ k, u4.ownBlock = some k → w.heap.size + 2 ≤ k := fun k hk => (hown1.lt k hk).1
    have hM1 : Mine w.heap.size G w w1 := (HR.out.mine.alloc _).grown hwf (Nat.le_refl _) hgrow (fun k hk => by have := hne k hk; omega)
    have kept : ∀ i, i < wr.heap.size → i < w.heap.size + 2 → w1.heap[i]? = wr.heap[i]? := fun i h1 h2 => (hgrow.block i (by simp; omega) (fun e => by have := hne i e.symm; omega)).trans (heap_alloc_lt h1)
    have hb1 := (kept _ hlt (by omega)).trans HB1.out
    have hb2 := (kept _ hlt2 (by omega)).trans HR.out.b2
    have fa1 : Mk.Five w1 bb off _ _ _ _ _ := five_heap HF.out fun j hj => cell_heap (kept bb (by omega) (by omega))
    obtain ⟨f0, f1, f2, f3, f4⟩ := fa1
    have k4 : w1.cell? ⟨w.heap.size, 4, none⟩ = some (.slice (some ⟨bb, off, none⟩) 2 ca2) := cell_of hb1 4
    have q0 : w1.cell? ⟨w.heap.size, 0, none⟩ = some (.int .i64 3) := cell_of hb1 0
    have q1 : w1.cell? ⟨w.heap.size, 1, none⟩ = some (.int .i64 0) := cell_of hb1 1
    have q2 : w1.cell? ⟨w.heap.size, 2, none⟩ = some (.string ⟨#[]⟩) := cell_of hb1 2
    have q3 : w1.cell? ⟨w.heap.size, 3, none⟩ = some (.slice pl2 0 cl2) := cell_of hb1 3
    have e0 := frozen_of hb1
    have HN : Hid (∀ X, Near w.heap.size w.heap.size w1 X → X.heap[w.heap.size]? = some (.cells #[.int .i64 a.kind, .int .i64 a.num, .string a.name, .slice apl a.lvs.length acl, .slice apa a.kids.length aca] 29 (0, 0)) → Mk.SpR G w t w.heap.size (w.heap.size + 1) v' X a (acc ++ [b]) (rows ++ [Mk.rowT b bpl bcl bpa bca]) (xs ++ [.int .i64 b.kind, .int .i64 b.num, .string b.name, .slice bpl b.lvs.length bcl, .slice bpa b.kids.length bca]) (Mk.rowT a apl acl apa aca)) := fun X hN hX => by
     have o1 : Own1 w.heap.size G w.heap.size := Own1.new hwf (Nat.le_refl _) (Nat.le_refl _)
     refine ⟨HR.out.head, ?_, hM1.trans (Mine.of_near hN o1 o1), hX, (hN.heap _ (by omega) (by omega)).trans hb2, HA.out, by simp [HR.out.len], ?_, HR.out.flat.snoc _, ?_, fun h => by simp at h⟩
     ·rw [HR.out.spine]
      simp [Tm.spine]
     ·intro i t' x' ht hx'
      by_cases hi' : i < acc.length
      ·rw [List.getElem?_append_left hi'] at ht
       rw [List.getElem?_append_left (by rw [HR.out.len]; exact hi')] at hx'
       exact HR.out.rel i t' x' ht hx'
      ·rw [List.getElem?_append_right (by omega)] at ht
       rw [List.getElem?_append_right (by rw [HR.out.len]; omega)] at hx'
       have hln := HR.out.len
       obtain ⟨h1, h2⟩ := List.getElem?_eq_some_iff.1 ht
       obtain ⟨h3, h4⟩ := List.getElem?_eq_some_iff.1 hx'
       simp only [List.length_singleton] at h1 h3
       have h0 : i - acc.length = 0 := by omega
       have h0' : i - rows.length = 0 := by omega
       simp only [h0, List.getElem_cons_zero] at h2
       simp only [h0', List.getElem_cons_zero] at h4
       subst h2
       subst h4
       exact HB.out
     ·rw [List.length_append, List.length_singleton]
      refine ⟨hown'.1, ?_⟩
      rcases hown'.2 with h | ⟨g, cap, cur, h1, h2, h3, h4⟩
      ·exact .inl h
      ·exact .inr ⟨g, cap, cur, h1, h2, (hN.heap g (by omega) (by omega)).trans h3, h4⟩
    clear hown' hgrow hnil hM1 kept hb2 g0 g1 g2 g3 g4 k0 hown hown1 hne
    have HB2 : Hid (w1.heap[w.heap.size]? = some (.cells #[.int .i64 3, .int .i64 0, .string ⟨#[]⟩, .slice pl2 0 cl2, .slice (some ⟨bb, off, none⟩) 2 ca2] 29 (0, 0))) := hb1
    clear hb1
    go_wp2_with fail
    go_roundg a.spine.length
    case measure => omega
    case rel =>
     refine ⟨a, _, _, _, _, rfl, HN.out _ (near5 w1 w.heap.size 0) ?_⟩
     exact heap_setCell_same _ _ _ _ _ _ (heap_setCell_same _ _ _ _ _ _ (heap_setCell_same _ _ _ _ _ _ (heap_setCell_same _ _ _ _ _ _ (heap_setCell_same _ _ _ _ _ _ HB2.out))))
  ·have k0 : wr.cell? ⟨w.heap.size, 0, none⟩ = some (.int .i64 u.kind) := cell_of hb1 0
   have HR : Hid (Mk.SpR G w t w.heap.size (w.heap.size + 1) u4 wr u acc rows xs x) := hR
   have HX : Hid (x.val.toArray = #[.int .i64 u.kind, .int .i64 u.num, .string u.name, .slice pl2 u.lvs.length cl2, .slice pa2 u.kids.length ca2]) := hx
   have hsp : u.spine = [] := by cases u <;> simp [Tm.kind] at hk3 <;> rfl
   have hhd : u.head = u := by cases u <;> simp [Tm.kind] at hk3 <;> rfl
   have HS : Hid (t.spine = acc.reverse ∧ t.head = u) := ⟨by rw [hR.spine, hsp]; rfl, by rw [hR.head, hhd]⟩
   by_cases hacc : acc = []
   ·subst hacc
    obtain rfl := hR.nil rfl
    clear hR hkids hx hsp hhd hk
    have q1 : wr.cell? ⟨w.heap.size, 1, none⟩ = some (.int .i64 u.num) := cell_of hb1 1
    have q2 : wr.cell? ⟨w.heap.size, 2, none⟩ = some (.string u.name) := cell_of hb1 2
    have q3 : wr.cell? ⟨w.heap.size, 3, none⟩ = some (.slice pl2 u.lvs.length cl2) := cell_of hb1 3
    have q4 : wr.cell? ⟨w.heap.size, 4, none⟩ = some (.slice pa2 u.kids.length ca2) := cell_of hb1 4
    have hb2 := HR.out.b2
    have e2 := frozen_of hb2
    have r0 : wr.cell? ⟨w.heap.size + 1, 0, none⟩ = some (.int .i64 0) := cell_of hb2 0
    have r1 : wr.cell? ⟨w.heap.size + 1, 1, none⟩ = some (.int .i64 0) := cell_of hb2 1
    have r2 : wr.cell? ⟨w.heap.size + 1, 2, none⟩ = some (.string ⟨#[]⟩) := cell_of hb2 2
    have r3 : wr.cell? ⟨w.heap.size + 1, 3, none⟩ = some (.slice none 0 0) := cell_of hb2 3
    have r4 : wr.cell? ⟨w.heap.size + 1, 4, none⟩ = some (.slice none 0 0) := cell_of hb2 4
    clear hb1 hb2
    go_wp2_with (go_at_call 29; refine (AnyQ.slices_Reverse_empty Mk.revLaid _ _ _).mono ?_; rintro e w2 ⟨rfl, rfl⟩)
    refine Mk.spine_end5 HR.out.b2 rfl rfl ?_
    have hx' := HX.out
    have hcur := HR.out.cur
    rw [hx'] at hcur
    have hN := near5 w2 (w.heap.size + 1) 0 (y0 := .int .i64 u.kind) (y1 := .int .i64 u.num) (y2 := .string u.name) (y3 := .slice pl2 u.lvs.length cl2) (y4 := .slice pa2 u.kids.length ca2)
    have o2 : Own1 w.heap.size G (w.heap.size + 1) := Own1.new H0.out.wf (Nat.le_refl _) (by omega)
    obtain ⟨G', p1, p2, p3, p4⟩ := Mk.row_none H0.out (HR.out.mine.trans (Mine.of_near hN o2 o2)) hcur
    rw [HS.out.2, HS.out.1]
    exact ⟨G', _, _, rfl, p1, p2, p3, p4⟩
   ·obtain ⟨g, cap, cur, rfl, hg1, hg2, hg3, hg4, hg5, hg6⟩ : ∃ g cap cur, u4 = .slice (some ⟨g, 0, none⟩) acc.length cap ∧ w.heap.size + 2 ≤ g ∧ wr.heap[g]? = some (.cells cur 29 (0, 0)) ∧ acc.length ≤ cap ∧ cap ≤ maxLen ∧ cur.size = cap * 5 ∧ cur.toList.take (acc.length * 5) = xs := by
     rcases hR.own.2 with ⟨_, h⟩ | h
     ·exact absurd (List.length_eq_zero_iff.1 h) hacc
     ·exact h
    have hHK := Mk.flat_holds hR.flat hg2 (by rw [hR.len]; exact hg6) (by rw [hR.len, hg5]; omega)
    have hrev := AnyQ.slices_Reverse (ρ := Mk.revRen) Mk.revLaid 5 (fun _ => by kernel_rfl) (fun _ => by kernel_rfl) (fun x : Mk.Row5 => x.val) (fun x => x.2.1) (fun x => x.2.2) g 0 cap rows.toArray wr hHK (by rw [List.size_toArray, hR.len]; unfold maxLen at hg4; omega)
    rw [List.size_toArray, hR.len] at hrev
    have hgl := (Array.getElem?_eq_some_iff.1 hg2).1
    have HG : Hid (w.heap.size + 2 ≤ g ∧ g < wr.heap.size ∧ acc.length ≤ cap ∧ Go.Sort.HoldsK (fun x : Mk.Row5 => x.val) 5 wr g 0 rows.toArray) := ⟨hg1, hgl, hg3, hHK⟩
    have hb2 := hR.b2
    have HV : Hid (Calls Tryd.prog 29 #[.slice (some ⟨g, 0, none⟩) acc.length cap] wr fun e w' => e = .returned (.tuple #[]) ∧ ∃ n, w' = Go.Sort.putRowK (fun x : Mk.Row5 => x.val) 5 (Go.Sort.ahead wr n) g 0 rows.toArray.reverse) := hrev
    have HB : Hid (wr.heap[w.heap.size]? = some (.cells #[.int .i64 u.kind, .int .i64 u.num, .string u.name, .slice pl2 u.lvs.length cl2, .slice pa2 u.kids.length ca2] 29 (0, 0)) ∧ wr.heap[w.heap.size + 1]? = some (.cells #[.int .i64 0, .int .i64 0, .string ⟨#[]⟩, .slice none 0 0, .slice none 0 0] 29 (0, 0))) := ⟨hb1, hb2⟩
    clear hR hkids hx hsp hhd hk hrev hb1 hb2 hHK hg2 hg3 hg4 hg5 hg6
    go_wp2_with (go_at_call 29; refine HV.out.mono ?_)
    rintro e w2 ⟨rfl, n, hw2⟩
    have hN0 : Near g g wr w2 := by rw [hw2]; exact Mk.rev_near
    have hb1 := (hN0.heap w.heap.size (by omega) (by omega)).trans HB.out.1
    have hb2 := (hN0.heap (w.heap.size + 1) (by omega) (by omega)).trans HB.out.2
    have HW : Hid (w2 = Go.Sort.putRowK (fun x : Mk.Row5 => x.val) 5 (Go.Sort.ahead wr n) g 0 rows.toArray.reverse) := hw2
    have HN0 : Hid (Near g g wr w2 ∧ w2.heap[w.heap.size + 1]? = some (.cells #[.int .i64 0, .int .i64 0, .string ⟨#[]⟩, .slice none 0 0, .slice none 0 0] 29 (0, 0))) := ⟨hN0, hb2⟩
    clear hw2 hN0 HV k0
    have q0 : w2.cell? ⟨w.heap.size, 0, none⟩ = some (.int .i64 u.kind) := cell_of hb1 0
    have q1 : w2.cell? ⟨w.heap.size, 1, none⟩ = some (.int .i64 u.num) := cell_of hb1 1
    have q2 : w2.cell? ⟨w.heap.size, 2, none⟩ = some (.string u.name) := cell_of hb1 2
    have q3 : w2.cell? ⟨w.heap.size, 3, none⟩ = some (.slice pl2 u.lvs.length cl2) := cell_of hb1 3
    have q4 : w2.cell? ⟨w.heap.size, 4, none⟩ = some (.slice pa2 u.kids.length ca2) := cell_of hb1 4
    have e2 := frozen_of hb2
    have r0 : w2.cell? ⟨w.heap.size + 1, 0, none⟩ = some (.int .i64 0) := cell_of hb2 0
    have r1 : w2.cell? ⟨w.heap.size + 1, 1, none⟩ = some (.int .i64 0) := cell_of hb2 1
    have r2 : w2.cell? ⟨w.heap.size + 1, 2, none⟩ = some (.string ⟨#[]⟩) := cell_of hb2 2
    have r3 : w2.cell? ⟨w.heap.size + 1, 3, none⟩ = some (.slice none 0 0) := cell_of hb2 3
    have r4 : w2.cell? ⟨w.heap.size + 1, 4, none⟩ = some (.slice none 0 0) := cell_of hb2 4
    clear hb1 hb2
    go_wp2_with fail
    refine Mk.spine_end5 HN0.out.2 rfl rfl ?_
    have hx' := HX.out
    have hcur := HR.out.cur
    rw [hx'] at hcur
    have hN := near5 w2 (w.heap.size + 1) 0 (y0 := .int .i64 u.kind) (y1 := .int .i64 u.num) (y2 := .string u.name) (y3 := .slice pl2 u.lvs.length cl2) (y4 := .slice pa2 u.kids.length ca2)
    have o2 : Own1 w.heap.size G (w.heap.size + 1) := Own1.new H0.out.wf (Nat.le_refl _) (by omega)
    have og : Own1 w.heap.size G g := Own1.new H0.out.wf (Nat.le_refl _) (by omega)
    have hlen := HR.out.len
    have hL : acc.length = acc.reverse.length := by simp
    obtain ⟨G', p1, p2, p3, p4⟩ := Mk.row_done (g := g) (L := acc.reverse) (rows := rows.reverse) (cap := cap) H0.out ((HR.out.mine.trans (Mine.of_near HN0.out.1 og og)).trans (Mine.of_near hN o2 o2)) (by omega) (by rw [hN.size, HN0.out.1.size]; exact HG.out.2.1) (by simp [hlen]) (by simpa using HG.out.2.2.1)
     (fun i t' x' ht hx' => by
      have h1 := (List.getElem?_eq_some_iff.1 ht).1
      rw [List.length_reverse] at h1
      rw [List.getElem?_reverse h1] at ht
      rw [List.getElem?_reverse (by omega)] at hx'
      rw [hlen] at hx'
      exact HR.out.rel _ t' x' ht hx')
     (fun i j x' c' hx' hc' => by
      have h1 := Mk.rev_cells (n := n) HG.out.2.2.2 i j x' c' hx' hc'
      rw [← HW.out] at h1
      rw [cell_heap (hN.heap g (by omega) (by omega))]
      exact h1) hcur
    rw [← hL] at p4
    rw [HS.out.2, HS.out.1]
    exact ⟨G', _, _, rfl, p1, p2, p3, p4⟩
theorem spineC_ok {C : Ctx} (henter : ∀ (args : Array Value) (w : World), (callFunc 12 args).run Tryd.prog w = .ok (.enter 12 args) w) :
  CallOk Tryd.prog C (fun g args σ => if g = 12 then Mk.spineS args σ else none) := by
 intro g args σ r h
 simp only at h
 split at h
 case isFalse => simp at h
 rename_i hg
 subst hg
 refine ⟨henter, fun G w vals hS hcl hlen hv => ?_⟩
 unfold Mk.spineS at h
 split at h
 case h_2 => simp at h
 rename_i v o1
 split at h
 case isFalse => simp at h
 rename_i hex
 have hsp := hex.choose_spec
 generalize hex.choose = t at h hsp
 obtain ⟨rfl, hsz⟩ := hsp
 obtain rfl := Option.some.inj h
 obtain ⟨c0, rfl⟩ : ∃ c0, vals = [c0] := by
  match vals, hlen with
  | [c0], _ => exact ⟨c0, rfl⟩
 have r0 := (hv 0 _ c0 rfl rfl).1
 simp only at r0
 refine (Mk.spine_ok (C := C) hS r0 hsz).mono ?_
 rintro e w' ⟨G', h, v, rfl, e2, s2, p3, p4⟩
 refine ⟨G', e2, s2, [h, v], rfl, by simp, fun i c x hc hx => ?_⟩
 match i with
 | 0 => simp at hc hx; subst hc; subst hx; exact ⟨p3, fun ho => by simp at ho⟩
 | 1 => simp at hc hx; subst hc; subst hx; exact ⟨p4, fun ho => by simp at ho⟩
 | i + 2 => simp at hc
end Go.Proofs
end
section
namespace Go.Proofs
open Go.RowKit Go.Ab
set_option maxHeartbeats 1000000 in
set_option maxRecDepth 100000 in
theorem Mk.copyCheck_used (b : Nat) (w : World) (h0 : w.cell? ⟨b, 0, none⟩ = some (.pointer (some ⟨b, 0, none⟩))) :
  Calls Tryd.prog 59 #[.pointer (some ⟨b, 0, none⟩)] w fun e w' => e = .returned (.tuple #[]) ∧ w' = w := by
 obtain ⟨j, hj, _⟩ := Option.map_eq_some_iff.1 (show (Tryd.prog.info? 53).map (·.size) = some 2 by kernel_rfl)
 go_enter Tryd.func59, Tryd.ntmps59
 go_wp2
 rw [Lib.run_neq_ptr_same w _ Tryd.underlying50 hj]
 go_wp2
 go_end0
 exact ⟨rfl, rfl⟩
set_option maxHeartbeats 1000000 in
set_option maxRecDepth 100000 in
theorem Mk.copyCheck_fresh (b : Nat) (w : World) (h0 : w.cell? ⟨b, 0, none⟩ = some (.pointer none)) (hsh : w.shape? b = some (53, 2)) (hfz : w.frozen? ⟨b, 0, none⟩ = false) :
  Calls Tryd.prog 59 #[.pointer (some ⟨b, 0, none⟩)] w fun e w' => e = .returned (.tuple #[]) ∧ w' = w.setCell ⟨b, 0, none⟩ (.pointer (some ⟨b, 0, none⟩)) := by
 obtain ⟨j, hj, hjs⟩ := Option.map_eq_some_iff.1 (show (Tryd.prog.info? 53).map (·.size) = some 2 by kernel_rfl)
 go_enter Tryd.func59, Tryd.ntmps59
 go_wp2
 rw [Lib.run_to_unsafe w ⟨b, 0, none⟩ Tryd.underlying50 Tryd.underlying101 hj (by rw [hjs]; decide) hsh (Nat.zero_lt_succ 1)]
 simp only [Result.andThen]
 rw [Oper.upon_value]
 go_wp2
 rw [run_callFunc_extern Tryd.func72 (by kernel_rfl) (by kernel_rfl) (by kernel_rfl) (e := Extern.AbiNoEscape.same) (by kernel_rfl)]
 rw [Lib.run_noEscape]
 simp only [Result.andThen]
 rw [Oper.upon_value]
 go_wp2
 rw [Lib.run_from_unsafe w ⟨b, 0, none⟩ Tryd.underlying101 Tryd.underlying50 hj hsh (by kernel_rfl)]
 simp only [Result.andThen]
 rw [Oper.upon_value]
 go_wp2
 go_end0
 exact ⟨rfl, rfl⟩
set_option maxHeartbeats 1000000 in
set_option maxRecDepth 100000 in
theorem Mk.bldString (b g cap cells : Nat) (l : List UInt8) (w : World) (h0 : l ≠ []) (hcap : l.length ≤ cap) (hlc : l.length ≤ cells) (_ : cap ≤ cells) (c1 : w.cell? ⟨b, 1, none⟩ = some (.slice (some ⟨g, 0, none⟩) l.length cap)) (hsh : w.shape? g = some (5, cells)) (h63 : l.length ≤ 9223372036854775807)
  (hcell : ∀ j x, l[j]? = some x → w.cell? ⟨g, j, none⟩ = some (.int .u8 x.toNat)) :
  Calls Tryd.prog 20 #[.pointer (some ⟨b, 0, none⟩)] w fun en w' => en = .returned (.string ⟨l.toArray⟩) ∧ w' = w.drew.freeze ⟨g, 0, none⟩ l.length := by
 have hl0 : l.length ≠ 0 := by simpa using h0
 have c1' : w.drew.cell? ⟨b, 1, none⟩ = some (.slice (some ⟨g, 0, none⟩) l.length cap) := c1
 have hSD : (Builtin.unsafeSliceData_ #[51] 81 #[.slice (some ⟨g, 0, none⟩) l.length cap]).run Tryd.prog w.drew = .ok (.pointer (some ⟨g, 0, none⟩)) w.drew :=
  Lib.run_unsafeSliceData_row _ _ _ _ _ _ (by omega)
 have hUS : (Builtin.unsafeString_ #[81, 3] 9 #[.pointer (some ⟨g, 0, none⟩), .int .i64 l.length]).run Tryd.prog w.drew = .ok (.string ⟨l.toArray⟩) (w.drew.freeze ⟨g, 0, none⟩ l.length) := by
  refine Lib.run_unsafeString_row w.drew 81 3 9 5 Tryd.underlying81 (by kernel_rfl) g cells hsh l h0 hlc h63 ?_
  intro j x hx
  have := hcell j x hx
  rw [add_plain, Nat.zero_add]
  exact this
 go_enter Tryd.func20, Tryd.ntmps20
 go_wp2
 go_region
 all_goals (go_wp2; go_ret; exact ⟨rfl, rfl⟩)
end Go.Proofs
end
