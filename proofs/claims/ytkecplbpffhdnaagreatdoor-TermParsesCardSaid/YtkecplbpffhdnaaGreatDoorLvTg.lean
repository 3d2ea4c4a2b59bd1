/- A row: what an argument reads as is laid as an abstract value; what is behind the call reads as before. The plain law of the whole: TermParses. -/
import Derived.Test.YtkecplbpffhdnaaGreatDoorAbMk0
import Derived.ChangeShapes
import Derived.ChangeArms
import Derived.Carry
import Derived.ProofKit
import Derived.Lib.LaidTab
import Derived.Test.YtkecplbpffhdnaaGreatDoorAbMq1
set_option linter.unusedSimpArgs false
set_option linter.unusedVariables false
set_option linter.deprecated false
section
namespace Go.Ab
open Go.ChangeShapes Go.WideShapes

/-- The beginning: all that lies there is settled, nobody holds anything. -/
def G0 (w : World) (B : Nat) : Gh := { N := 0, μ := id, lim := fun i => if i < w.heap.size then B else 0, owner := fun _ => none, ty := fun _ => 0 }
theorem G0_wf (w : World) (B : Nat) : WF (G0 w B) w := fun i hi => ⟨if_neg (by omega), rfl⟩
theorem below_of_ext {w w' : World} {B : Nat} {G' : Gh} (h : Ext (G0 w B) w G' w') : RowKit.Below w.heap.size w w' := ⟨h.os, h.tape, h.output, h.size, fun k hk => (h.old k hk rfl).1⟩
theorem G0_clean (w : World) (B n : Nat) : Clean (G0 w B) n := fun i p hp => by simp [G0] at hp
theorem G0_sinv {gl : Nat → Option (List V)} {w : World} {B : Nat} (h : ∀ (g : Nat) (cs : List V), gl g = some cs → Rel (G0 w B) w (.eptr cs.length cs 0) (.pointer (some ⟨g, 0, none⟩))) : SInv gl (G0 w B) w [] :=
  ⟨G0_wf w B, h, rfl, fun b hb => by simp at hb, fun b cs hb => by simp at hb⟩

/-- An Op's cells: five plain values and what they are. -/
structure OpV where
  k : Int
  s : ByteArray
  t : ByteArray
  u : ByteArray
  a : Int
  b : Int
def OpV.enc (o : OpV) : List V := [.int .i64 o.k, .str o.s, .str o.t, .str o.u, .int .i64 o.a, .int .i64 o.b]
def OpV.vals (o : OpV) : List Value := [.int .i64 o.k, .string o.s, .string o.t, .string o.u, .int .i64 o.a, .int .i64 o.b]
/-- What is known of an Op that can be read. -/
structure OpV.Fits (o : OpV) : Prop where
  s : o.s.size ≤ maxLen
  t : o.t.size ≤ maxLen
  u : o.u.size ≤ maxLen
  a : (Lit.int .i64 o.a).wf = true
  b : (Lit.int .i64 o.b).wf = true
/-- What an Op reads as. -/
def OpV.data {H : Type} (o : OpV) : DataW H := .agg [.lit (.int .i64 o.k), .lit (.string o.s.data.toList), .lit (.string o.t.data.toList), .lit (.string o.u.data.toList), .lit (.int .i64 o.a), .lit (.int .i64 o.b)]

section
variable {H : Type} {enc : TypeId × Value → H} {P : Program} {W : World} {sp : Nat → Bool} {held : Bool}

structure OpTy (P : Program) (tS tOp tInt tStr : TypeId) : Prop where
  hS : P.underlying tS = some (.slice tOp)
  hOp : ∃ fs, P.underlying tOp = some (.struct fs) ∧ fs.toList.map (fun f => (f.type, f.offset)) = [(tInt, 0), (tStr, 1), (tStr, 2), (tStr, 3), (tInt, 4), (tInt, 5)]
  hInt : P.underlying tInt = some (.int .i64)
  hStr : P.underlying tStr = some .string
  cOp : P.cellsOf tOp = 6
  cInt : P.cellsOf tInt = 1
  cStr : P.cellsOf tStr = 1

theorem op_read {tS tOp tInt tStr : TypeId} (T : OpTy P tS tOp tInt tStr) {n : Nat} {cs : List Value} {x : DataW H × List MemPlace} (h : DataW.trod enc P W 0 sp held n tOp cs = some x) :
    ∃ o : OpV, cs = o.vals ∧ o.Fits ∧ x.1 = o.data := by
  obtain ⟨fs, hu, hf⟩ := T.hOp
  obtain ⟨xs, m, _, hx, hl, hxl, hall⟩ := DataW.trod_struct hu h
  rw [T.cOp] at hl
  have hfl : fs.toList.length = 6 := by have := congrArg List.length hf; simpa using this
  have fget : ∀ (i : Nat) (ty : TypeId) (off : Nat), (fs.toList.map (fun f => (f.type, f.offset)))[i]? = some (ty, off) → DataW.trod enc P W 0 sp held m ty ((cs.drop off).take (P.cellsOf ty)) = xs[i]? := by
    intro i ty off hi
    simp only [List.getElem?_map, Option.map_eq_some_iff] at hi
    obtain ⟨f, h1, h2⟩ := hi
    have := hall i f (by simpa using h1)
    simp only [Prod.mk.injEq] at h2
    rw [h2.1, h2.2] at this
    exact this
  obtain ⟨c0, c1, c2, c3, c4, c5, rfl⟩ : ∃ c0 c1 c2 c3 c4 c5, cs = [c0, c1, c2, c3, c4, c5] := by
    match cs, hl with
    | [c0, c1, c2, c3, c4, c5], _ => exact ⟨c0, c1, c2, c3, c4, c5, rfl⟩
  · have hxs : xs.length = 6 := by rw [hxl]; simpa using hfl
    obtain ⟨x0, x1, x2, x3, x4, x5, rfl⟩ : ∃ x0 x1 x2 x3 x4 x5, xs = [x0, x1, x2, x3, x4, x5] := by
      match xs, hxs with
      | [x0, x1, x2, x3, x4, x5], _ => exact ⟨x0, x1, x2, x3, x4, x5, rfl⟩
    have e0 := fget 0 tInt 0 (by rw [hf]; rfl)
    have e1 := fget 1 tStr 1 (by rw [hf]; rfl)
    have e2 := fget 2 tStr 2 (by rw [hf]; rfl)
    have e3 := fget 3 tStr 3 (by rw [hf]; rfl)
    have e4 := fget 4 tInt 4 (by rw [hf]; rfl)
    have e5 := fget 5 tInt 5 (by rw [hf]; rfl)
    rw [T.cInt] at e0 e4 e5
    rw [T.cStr] at e1 e2 e3
    · obtain ⟨n0, h0, y0, _⟩ := DataW.trod_int T.hInt (e0.trans rfl)
      obtain ⟨s1, h1, y1, g1⟩ := DataW.trod_string T.hStr (e1.trans rfl)
      obtain ⟨s2, h2, y2, g2⟩ := DataW.trod_string T.hStr (e2.trans rfl)
      obtain ⟨s3, h3, y3, g3⟩ := DataW.trod_string T.hStr (e3.trans rfl)
      obtain ⟨n4, h4, y4, g4⟩ := DataW.trod_int T.hInt (e4.trans rfl)
      obtain ⟨n5, h5, y5, g5⟩ := DataW.trod_int T.hInt (e5.trans rfl)
      simp at h0 h1 h2 h3 h4 h5
      subst h0 h1 h2 h3 h4 h5
      refine ⟨⟨n0, s1, s2, s3, n4, n5⟩, rfl, ⟨g1, g2, g3, g4, g5⟩, ?_⟩
      rw [hx, y0, y1, y2, y3, y4, y5]
      rfl

theorem script_rel {tS tOp tInt tStr : TypeId} (T : OpTy P tS tOp tInt tStr) {b0 : Nat} {v : Value} {d : DataW H} {ps : List MemPlace} (hval : Value.okWide P W .any b0 tS v) (h : DataW.Trod enc P W 0 sp held tS v d ps) :
    ∃ (L : List OpV) (B0 : Nat), (∀ B, B0 ≤ B → Rel (G0 W B) W (.slice 6 tOp (L.map OpV.enc)) v) ∧ L.length ≤ maxLen ∧ (∀ o ∈ L, o.Fits) ∧ ((d = .nil ∧ L = []) ∨ ∃ rest, d = .slice (L.map OpV.data) rest) := by
  obtain ⟨fuel, hd⟩ := h
  rcases DataW.trod_slice T.hS hd with ⟨h0, h1⟩ | ⟨a, len, cap, elems, rest, n, _, hcs, hx, _, hlc, hm, hlen, hel, _, _⟩
  · have hv : v = .slice none 0 0 := by
      have hk : Value.okWide P W .any b0 tS v := hval
      unfold Value.okWide at hk
      rw [T.hS] at hk
      cases v <;> simp [Value.cells] at h0 <;> first | exact congr (congr (congrArg Value.slice h0.1) h0.2.1) h0.2.2 | skip
      all_goals (simp [Cell.okWide, Cell.ok, T.hS] at hk)
    subst hv
    simp only [Prod.mk.injEq] at h1
    exact ⟨[], 0, fun B _ => .snil _ _, Nat.zero_le _, by simp, .inl ⟨h1.1, rfl⟩⟩
  · have hv : v = .slice (some a) len cap := by
      have hk : Value.okWide P W .any b0 tS v := hval
      unfold Value.okWide at hk
      rw [T.hS] at hk
      cases v <;> simp [Value.cells] at hcs <;> first | exact congr (congr (congrArg Value.slice hcs.1) hcs.2.1) hcs.2.2 | skip
      all_goals (simp [Cell.okWide, Cell.ok, T.hS] at hk)
    subst hv
    have hk : Cell.ok P W .any b0 tS (.slice (some a) len cap) := by
      have hk : Value.okWide P W .any b0 tS (.slice (some a) len cap) := hval
      unfold Value.okWide at hk
      rw [T.hS] at hk
      simpa [Cell.okWide, T.hS] using hk
    simp only [Cell.ok, T.hS] at hk
    obtain ⟨_, _, _, hsp, row, cells, hshape, _⟩ := hk
    obtain ⟨b, off, spot⟩ := a
    simp only at hsp hshape
    subst hsp
    have hblt : b < W.heap.size := by
      rcases Nat.lt_or_ge b W.heap.size with h | h
      · exact h
      · simp [World.shape?, Array.getElem?_eq_none h] at hshape
    have each : ∀ i, i < len → ∃ o : OpV, o.Fits ∧ (elems[i]?).map (·.1) = some o.data ∧ ∀ j, j < 6 → W.cell? ⟨b, off + i * 6 + j, none⟩ = o.vals[j]? := by
      intro i hi
      have he := hel i hi
      obtain ⟨y, hy⟩ : ∃ y, elems[i]? = some y := ⟨elems[i], List.getElem?_eq_getElem (by omega)⟩
      rw [hy, Option.bind_eq_some_iff, T.cOp, add_plain] at he
      obtain ⟨cs, hc, ht⟩ := he
      obtain ⟨o, rfl, hf, hdat⟩ := op_read T ht
      refine ⟨o, hf, by rw [hy, ← hdat]; rfl, fun j hj => ?_⟩
      have := (World.cells?_some hc).2.2 j hj
      rw [add_plain] at this
      exact this
    classical
    let f : Nat → OpV := fun i => if h : i < len then (each i h).choose else ⟨0, default, default, default, 0, 0⟩
    have hf : ∀ i, i < len → (f i).Fits ∧ (elems[i]?).map (·.1) = some (f i).data ∧ ∀ j, j < 6 → W.cell? ⟨b, off + i * 6 + j, none⟩ = (f i).vals[j]? := by
      intro i hi
      simp only [f, dif_pos hi]
      exact (each i hi).choose_spec
    refine ⟨(List.range len).map f, off + len * 6, fun B hB => ?_, by simp; omega, fun o ho => ?_, .inr ⟨rest.map (·.1), ?_⟩⟩
    · have := Rel.slice (G := G0 W B) (w := W) 6 tOp (((List.range len).map f).map OpV.enc) b off cap (((List.range len).map f).map OpV.vals) (by simp) (by simpa using hlc)
        (by simp only [G0, List.length_map, List.length_range, if_pos hblt]; exact hB)
        (fun i e he => by
          simp only [List.getElem?_map, Option.map_eq_some_iff] at he
          obtain ⟨_, _, rfl⟩ := he
          rfl)
        (fun i e he => by
          simp only [List.getElem?_map, Option.map_eq_some_iff] at he
          obtain ⟨_, _, rfl⟩ := he
          rfl)
        (fun i j x c hx hc => by
          simp only [List.getElem?_map, Option.map_eq_some_iff] at hx
          obtain ⟨o, ⟨k, hk, rfl⟩, rfl⟩ := hx
          obtain ⟨hk1, hk2⟩ := List.getElem?_eq_some_iff.1 hk
          simp only [List.length_range] at hk1
          simp only [List.getElem_range] at hk2
          subst hk2
          have hj : j < 6 := by have := (List.getElem?_eq_some_iff.1 hc).1; exact this
          refine ⟨by rw [(hf i hk1).2.2 j hj]; exact hc, ?_⟩
          match j, hj with
          | 0, _ => simp [OpV.vals] at hc; subst hc; rfl
          | 1, _ => simp [OpV.vals] at hc; subst hc; rfl
          | 2, _ => simp [OpV.vals] at hc; subst hc; rfl
          | 3, _ => simp [OpV.vals] at hc; subst hc; rfl
          | 4, _ => simp [OpV.vals] at hc; subst hc; rfl
          | 5, _ => simp [OpV.vals] at hc; subst hc; rfl)
        (fun i j e x v c he hx hv hc => by
          simp only [List.getElem?_map, Option.map_eq_some_iff] at he hx
          obtain ⟨o, ⟨k, hk, rfl⟩, rfl⟩ := hx
          obtain ⟨o', ⟨k', hk', rfl⟩, rfl⟩ := he
          rw [hk] at hk'
          obtain rfl := Option.some.inj hk'
          match j with
          | 0 => simp [OpV.vals, OpV.enc] at hc hv; subst hc; subst hv; exact .int _ _
          | 1 => simp [OpV.vals, OpV.enc] at hc hv; subst hc; subst hv; exact .str _
          | 2 => simp [OpV.vals, OpV.enc] at hc hv; subst hc; subst hv; exact .str _
          | 3 => simp [OpV.vals, OpV.enc] at hc hv; subst hc; subst hv; exact .str _
          | 4 => simp [OpV.vals, OpV.enc] at hc hv; subst hc; subst hv; exact .int _ _
          | 5 => simp [OpV.vals, OpV.enc] at hc hv; subst hc; subst hv; exact .int _ _
          | j + 6 => simp [OpV.vals] at hc)
      simpa using this
    · simp only [List.mem_map, List.mem_range] at ho
      obtain ⟨i, hi, rfl⟩ := ho
      exact (hf i hi).1
    · simp only [Prod.mk.injEq] at hx
      rw [hx.1]
      congr 1
      apply List.ext_getElem?
      intro i
      by_cases hi : i < len
      · rw [List.getElem?_map, (hf i hi).2.1]
        simp [hi]
      · rw [List.getElem?_eq_none (by simp; omega), List.getElem?_eq_none (by simp; omega)]

theorem op_weights {tS tOp tInt tStr : TypeId} (T : OpTy P tS tOp tInt tStr) (o : OpV) : (o.data : DataW H).weights P tOp = [o.s.data.toList.length, o.t.data.toList.length, o.u.data.toList.length] := by
  obtain ⟨fs, hu, hf⟩ := T.hOp
  have ht : fs.toList.map (·.type) = [tInt, tStr, tStr, tStr, tInt, tInt] := by
    have := congrArg (List.map Prod.fst) hf
    rw [List.map_map] at this
    exact this
  simp only [OpV.data, DataW.weights, hu, ht, DataW.weightsEach]
  rfl
theorem weightsAll_mem {tOp : TypeId} : ∀ {l : List (DataW H)} {d : DataW H} {n : Nat}, d ∈ l → n ∈ d.weights P tOp → n ∈ DataW.weightsAll P tOp l
  | [], _, _, h, _ => by simp at h
  | x :: l, d, n, h, hn => by
    simp only [DataW.weightsAll, List.mem_append]
    rcases List.mem_cons.1 h with rfl | h
    · exact .inl hn
    · exact .inr (weightsAll_mem h hn)
/-- The sizes of what is handed in. -/
theorem script_sized {tS tOp tInt tStr : TypeId} (T : OpTy P tS tOp tInt tStr) (hb : 0 < P.bytesOf tOp) {L : List OpV} {d : DataW H} (hd : (d = .nil ∧ L = []) ∨ ∃ rest, d = .slice (L.map OpV.data) rest)
    (h : (DataW.weightsEach P [tS] [d]).all (· ≤ reachBytes) = true) : L.length < 2 ^ 47 ∧ ∀ o ∈ L, o.s.size < 2 ^ 47 ∧ o.t.size < 2 ^ 47 ∧ o.u.size < 2 ^ 47 := by
  have hr : reachBytes < 2 ^ 47 := by decide
  rcases hd with ⟨_, rfl⟩ | ⟨rest, rfl⟩
  · exact ⟨by simp, by simp⟩
  · rw [List.all_eq_true] at h
    simp only [DataW.weightsEach, DataW.weights, T.hS, List.append_nil] at h
    refine ⟨?_, fun o ho => ?_⟩
    · have := h _ (List.mem_cons_self ..)
      simp only [decide_eq_true_eq, List.length_map] at this
      have h2 : L.length * 1 ≤ (L.length + rest.length) * P.bytesOf tOp := Nat.mul_le_mul (Nat.le_add_right _ _) hb
      omega
    · have key : ∀ n ∈ (o.data : DataW H).weights P tOp, n ≤ reachBytes := by
        intro n hn
        have := h n (List.mem_cons_of_mem _ (List.mem_append_left _ (weightsAll_mem (List.mem_map_of_mem ho) hn)))
        simpa using this
      rw [op_weights T o] at key
      have k1 := key o.s.data.toList.length (by simp)
      have k2 := key o.t.data.toList.length (by simp)
      have k3 := key o.u.data.toList.length (by simp)
      rw [Array.length_toList] at k1 k2 k3
      exact ⟨Nat.lt_of_le_of_lt k1 hr, Nat.lt_of_le_of_lt k2 hr, Nat.lt_of_le_of_lt k3 hr⟩

/-- A table of strings. -/
theorem strTab {base : Nat} {fuel : Nat} {t e : TypeId} {n : Nat} {cs : List Value} {p : List MemPlace} {d : DataW H}
    (ht : P.underlying t = some (.array n e)) (he : P.underlying e = some .string) (hce : P.cellsOf e = 1) (hct : P.cellsOf t = n) (ss : List ByteArray) (hd : d = .agg (ss.map fun s => .lit (.string s.data.toList)))
    (h : DataW.trod enc P W base sp held fuel t cs = some (d, p)) : cs = ss.map Value.string := by
  subst hd
  cases fuel with
  | zero => simp [DataW.trod] at h
  | succ fuel =>
    simp only [DataW.trod, ht, hce, hct, Nat.mul_one] at h
    split at h
    · rename_i hl
      obtain ⟨xs, hm, hx⟩ := Option.map_eq_some_iff.1 h
      have hxs : xs.map (·.1) = ss.map fun s => (DataW.lit (.string s.data.toList) : DataW H) := by
        have := congrArg Prod.fst hx
        simpa using this
      have hxl : xs.length = n := by simpa using Lib.mapM_length hm
      have hsl : ss.length = n := by
        have := congrArg List.length hxs
        simp at this
        omega
      apply List.ext_getElem?
      intro i
      by_cases hi : i < n
      · obtain ⟨y, hy, hy2⟩ := Lib.mapM_at hm i i (by simp [hi])
        obtain ⟨s, h1, h2, _⟩ := DataW.trod_string he hy2
        have hci : cs[i]? = some (.string s) := by
          have hlt : i < cs.length := by omega
          have : (cs.drop i).take 1 = [cs[i]] := by
            rw [List.drop_eq_getElem_cons hlt]; rfl
          rw [this] at h1
          rw [List.getElem?_eq_getElem hlt]
          simpa using h1
        have hs : (xs.map (·.1))[i]? = some (DataW.lit (.string s.data.toList)) := by rw [List.getElem?_map, hy, h2]; rfl
        rw [hxs, List.getElem?_map, Option.map_eq_some_iff] at hs
        obtain ⟨s', h3, h4⟩ := hs
        have h5 : s'.data.toList = s.data.toList := by simpa using h4
        have : s' = s := by
          apply ByteArray.ext
          exact Array.toList_inj.1 h5
        rw [hci, List.getElem?_map, h3, this]; rfl
      · rw [List.getElem?_eq_none (by omega), List.getElem?_eq_none (by simp; omega)]
    · simp at h
/-- A table of strings, read as a context's variable. -/
theorem tab_rel {B : Nat} {g : Nat} {ss : List ByteArray} (hg : ∀ i s, ss[i]? = some s → W.cell? ⟨g, i, none⟩ = some (.string s)) (hlt : g < W.heap.size) (hB : ss.length ≤ B) :
    Rel (G0 W B) W (.eptr (ss.map V.str).length (ss.map V.str) 0) (.pointer (some ⟨g, 0, none⟩)) := by
  have := Rel.eptr (G := G0 W B) (w := W) (ss.map V.str).length (ss.map V.str) 0 g 0 (ss.map Value.string) rfl (by simp) (by simp only [G0, if_pos hlt, List.length_map]; omega)
    (fun i c hc => by
      simp only [List.getElem?_map, Option.map_eq_some_iff] at hc
      obtain ⟨s, hs, rfl⟩ := hc
      exact ⟨by rw [Nat.zero_add]; exact hg i s hs, rfl⟩)
    (fun i v c hv hc => by
      simp only [List.getElem?_map, Option.map_eq_some_iff] at hv hc
      obtain ⟨s, hs, rfl⟩ := hv
      obtain ⟨s', hs', rfl⟩ := hc
      rw [hs] at hs'
      obtain rfl := Option.some.inj hs'
      exact .str _)
  simpa using this
/-- A slice of strings that is laid: where its row lies. -/
theorem strSlice {base : Nat} {fuel : Nat} {t e : TypeId} {cs : List Value} {p : List MemPlace} {d : DataW H}
    (ht : P.underlying t = some (.slice e)) (he : P.underlying e = some .string) (hce : P.cellsOf e = 1) (ss : List ByteArray) (hne : 0 < ss.length) (hd : d = .slice (ss.map fun s => .lit (.string s.data.toList)) [])
    (h : DataW.trod enc P W base sp held fuel t cs = some (d, p)) :
    ∃ b off cap, cs = [.slice (some ⟨b, off, none⟩) ss.length cap] ∧ ss.length ≤ cap ∧ b < W.heap.size ∧ ∀ i s, ss[i]? = some s → W.cell? ⟨b, off + i, none⟩ = some (.string s) := by
  subst hd
  rcases DataW.trod_slice ht h with ⟨_, h1⟩ | ⟨a, len, cap, elems, rest, n, _, hcs, hx, _, hlc, hm, hlen, hel, _, _⟩
  · simp at h1
  · simp only [Prod.mk.injEq] at hx
    have hx1 := hx.1
    injection hx1 with hx1 hx2
    have hlen2 : ss.length = len := by
      have := congrArg List.length hx1
      simp only [List.length_map] at this
      omega
    have each : ∀ i s, ss[i]? = some s → W.cell? (a.add i) = some (.string s) := by
      intro i s hs
      have hi : i < ss.length := (List.getElem?_eq_some_iff.1 hs).1
      have hei := hel i (by omega)
      obtain ⟨y, hy⟩ : ∃ y, elems[i]? = some y := ⟨elems[i], List.getElem?_eq_getElem (by omega)⟩
      rw [hy, Option.bind_eq_some_iff, hce, Nat.mul_one] at hei
      obtain ⟨c1, hc, htr⟩ := hei
      obtain ⟨s', g1, g2, _⟩ := DataW.trod_string he htr
      have hcc := (World.cells?_some hc).2.2 0 (by omega)
      have hdat : (elems.map (·.1))[i]? = some (DataW.lit (.string s'.data.toList)) := by rw [List.getElem?_map, hy, g2]; rfl
      rw [← hx1, List.getElem?_map, hs] at hdat
      have h5 : s.data.toList = s'.data.toList := by simpa using hdat
      have : s = s' := by
        apply ByteArray.ext
        exact Array.toList_inj.1 h5
      rw [this]
      have e0 : (a.add i).add 0 = a.add i := by simp [Addr.add]
      rw [e0] at hcc
      have g1' : c1 = [.string s'] := by simpa using g1
      rw [hcc, g1']; rfl
    have h0 := each 0 ss[0] (List.getElem?_eq_getElem hne)
    obtain ⟨b, off, spot⟩ := a
    have hsp : spot = none := by
      have e0 : (⟨b, off, spot⟩ : Addr).add 0 = ⟨b, off, spot⟩ := by simp [Addr.add]
      rw [e0] at h0
      unfold World.cell? at h0
      split at h0
      · cases spot with
        | none => rfl
        | some z => simp at h0
      · simp at h0
    subst hsp
    refine ⟨b, off, cap, by rw [hlen2]; exact hcs, by omega, ?_, fun i s hs => ?_⟩
    · have e0 : (⟨b, off, none⟩ : Addr).add 0 = ⟨b, off, none⟩ := by simp [Addr.add]
      rw [e0] at h0
      exact World.block_lt_of_cell? _ _ h0
    · have := each i s hs
      rw [add_plain] at this
      exact this
/-- It is read as a context's variable. -/
theorem strSlice_rel {B : Nat} {g : Nat} {ss : List ByteArray} {b off cap : Nat} {e : TypeId} (hg : W.cell? ⟨g, 0, none⟩ = some (.slice (some ⟨b, off, none⟩) ss.length cap)) (hlt : g < W.heap.size) (hb : b < W.heap.size) (hcap : ss.length ≤ cap)
    (hc : ∀ i s, ss[i]? = some s → W.cell? ⟨b, off + i, none⟩ = some (.string s)) (hB1 : 1 ≤ B) (hB : off + ss.length ≤ B) :
    Rel (G0 W B) W (.eptr 1 [V.slice 1 e (ss.map fun s => [V.str s])] 0) (.pointer (some ⟨g, 0, none⟩)) := by
  have hr : Rel (G0 W B) W (.slice 1 e (ss.map fun s => [V.str s])) (.slice (some ⟨b, off, none⟩) ss.length cap) := by
    have := Rel.slice (G := G0 W B) (w := W) 1 e (ss.map fun s => [V.str s]) b off cap (ss.map fun s => [Value.string s]) (by simp) (by simpa using hcap)
      (by simp only [G0, List.length_map, if_pos hb]; omega)
      (fun i e he => by
        simp only [List.getElem?_map, Option.map_eq_some_iff] at he
        obtain ⟨_, _, rfl⟩ := he
        rfl)
      (fun i e he => by
        simp only [List.getElem?_map, Option.map_eq_some_iff] at he
        obtain ⟨_, _, rfl⟩ := he
        rfl)
      (fun i j x c hx hcc => by
        simp only [List.getElem?_map, Option.map_eq_some_iff] at hx
        obtain ⟨s, hs, rfl⟩ := hx
        match j with
        | 0 => simp at hcc; subst hcc; exact ⟨by rw [show off + i * 1 + 0 = off + i by omega]; exact hc i s hs, rfl⟩
        | j + 1 => simp at hcc)
      (fun i j e x v c he hx hv hcc => by
        simp only [List.getElem?_map, Option.map_eq_some_iff] at he hx
        obtain ⟨s, hs, rfl⟩ := hx
        obtain ⟨s', hs', rfl⟩ := he
        rw [hs] at hs'
        obtain rfl := Option.some.inj hs'
        match j with
        | 0 => simp at hcc hv; subst hcc; subst hv; exact .str _
        | j + 1 => simp at hcc)
    simpa using this
  refine Rel.eptr 1 [V.slice 1 e (ss.map fun s => [V.str s])] 0 g 0 [.slice (some ⟨b, off, none⟩) ss.length cap] rfl rfl ?_ ?_ ?_
  · show 0 + 1 ≤ if g < W.heap.size then B else 0
    rw [if_pos hlt]; omega
  · intro i c hc'
    match i with
    | 0 => simp at hc'; subst hc'; exact ⟨hg, rfl⟩
    | i + 1 => simp at hc'
  · intro i v c hv hc'
    match i with
    | 0 => simp at hv hc'; subst hv; subst hc'; exact hr
    | i + 1 => simp at hv
/-- What is behind a call that returns true and leaves all that was there. -/
theorem post_true {f : Func} {s : ChangeSpec} {tS : TypeId} {W' : World} {G' : Gh} {B : Nat} {v : Value} {d : DataW H} {before : List MemPlace} {tB : TypeId}
    (hp : f.params = #[tS]) (hr : f.resultTypes = #[tB]) (hB : P.underlying tB = some .bool) (hvars : s.vars = []) (hfn : s.fn H [d] = { results := [.lit (.bool true)], args := [d] })
    (hl : laidOutB P = true) (hrr : P.readableRec tS = true) (hrow : tS < P.types.size)
    (hW : DataW.Whole enc P f.params.toList s.vars false W [v] [d] [] before) (hE : Ext (G0 W B) W G' W') :
    s.post enc P f false true false false W #[v] (.bool true) W' := by
  have hb := below_of_ext hE
  have hlt := hW.lt
  obtain ⟨p, q, hA, hV, hpq, hz, hn⟩ := id hW
  rw [hp] at hA
  obtain ⟨v0, vs0, d0, ds0, p0, q0, hargs, hds, hps, h0, r0⟩ := trodAll_cons hA
  obtain ⟨rfl, rfl, rfl⟩ := trodAll_nil r0
  simp only [List.cons.injEq, and_true] at hargs hds
  subst hargs; subst hds
  rw [hvars] at hV
  obtain ⟨_, rfl⟩ := trodVars_none hV
  simp only [List.append_nil] at hps hpq
  subst hps; subst hpq
  have hres : ∀ (b : Nat) (sp : Nat → Bool) (hd : Bool), DataW.TrodAll enc P W' b sp hd f.resultTypes.toList ((Value.bool true).resultList f.resultTypes.size) (s.fn H ([d] ++ [])).results [] := by
    intro b sp hd
    rw [List.append_nil, hfn, hr]
    exact trodAll_mk1 ⟨1, by simp [DataW.trod, hB, Value.cells]⟩
  refine ⟨[d], [], before, [], before, [], hW, hres _ _ _, ?_, ?_, hb.frame _, fun h => by cases h⟩
  · rw [List.append_nil, hfn, hp]
    exact trodAll_mk1 (RowKit.Below.trod hl hrr hrow h0 hb fun x hx => hlt x hx)
  · rw [hvars, List.append_nil, hfn]; exact rfl
end
end Go.Ab
end
section
namespace Go.Ab.Mq
open Go.Proofs Go.Ab Go.Ab.Mk

theorem faulty_law {err : V} {σ : Sto} {c a : Int} (h : ErrOk err σ c a) : lim Mq.C 9 [(err, false), (.agg [.int .i64 c, .int .i64 a], false)] σ = some (.ret [(.bool true, false)], σ) :=
  faulty_lim (n := 0) <| by
    have hg : ∀ {c : Cell} {cs : List Cell}, (c :: cs).getD 0 cellD = c := fun {_ _} => rfl
    have hg1 : ∀ {c d : Cell} {cs : List Cell}, (c :: d :: cs).getD 1 cellD = d := fun {_ _ _} => rfl
    rcases h with ⟨rfl, rfl⟩ | ⟨b, rfl, hb⟩
    · have h40 : lim Mq.C 26 [(.nilIface, false)] σ = some (.ret [(.int .i64 0, false), (.int .i64 0, false)], σ) := lim_ext (s := codeS) (by kernel_rfl) rfl
      simp only [faulty, faultyF, callK_ret2 h40, hg, hg1, V.asInt, if_true, Option.bind_some, beq_self_eq_true, cond_true]
    · have h40 : lim Mq.C 26 [(.iface 54 (.ptr 36 b 0), false)] σ = some (.ret [(.int .i64 c, false), (.int .i64 a, false)], σ) := lim_ext (s := codeS) (by kernel_rfl) (by simp [codeS, hb, fcell])
      simp only [faulty, faultyF, callK_ret2 h40, hg, hg1, V.asInt, if_true, Option.bind_some, beq_self_eq_true, cond_true]
      cases c == 0 <;> rfl

theorem uncellT (t : Tm) : V.agg [V.cell t.val 0, V.cell t.val 1, V.cell t.val 2, V.cell t.val 3, V.cell t.val 4] = t.val := rfl
theorem uncellF (c a : Int) : V.agg [V.cell (.agg [.int .i64 c, .int .i64 a]) 0, V.cell (.agg [.int .i64 c, .int .i64 a]) 1] = V.agg [.int .i64 c, .int .i64 a] := rfl

theorem termParsed_law (s : ByteArray) (hs : s.size < 2 ^ 59) (σ : Sto) : ∃ σ', lim Mq.C 5 [(.str s, false)] σ = some (.ret [(.bool true, false)], σ') := by
  obtain ⟨err, σ1, h1, he⟩ := tparse_law s (by omega) σ
  obtain ⟨σ2, h2⟩ := parseTerm_law s (by omega) σ1
  have hw := tparse_wide s
  have hg : ∀ {c : Cell} {cs : List Cell}, (c :: cs).getD 0 cellD = c := fun {_ _} => rfl
  have hg1 : ∀ {c d : Cell} {cs : List Cell}, (c :: d :: cs).getD 1 cellD = d := fun {_ _ _} => rfl
  have f2 : ∀ x y : Int, V.fits (.agg [.int .i64 x, .int .i64 y]) true 2 = true := fun _ _ => rfl
  have h7 := lim_ext (C := Mq.C) (f := 7) (s := tparseS (lim Mk.C)) (by kernel_rfl) h1
  have h8 := lim_ext (C := Mq.C) (f := 8) (s := lim Mk.C 8) (by kernel_rfl) h2
  have h24 := faulty_law (he.more σ2)
  have h10 := lim_ext (C := Mq.C) (f := 10) (s := lim Mk.C 10) (by kernel_rfl) (sameTerm_law (σ1 ++ σ2) (tparseV s).1 (by omega))
  refine ⟨σ1 ++ σ2, termParsed_lim (n := 0) ?_⟩
  simp only [termParsed, termParsedF, callK_ret2 h7, hg, hg1, tm_fits, f2, grd, cond_true, Option.bind_some, callK_ret2 h8, uncellF, uncellT, callK_ret1 h24, callK_ret1 h10, V.asBool]

theorem termParses_loop (n : Nat) {L : List OpV} (hb : L.length < 2 ^ 60) (hs : ∀ o ∈ L, o.s.size < 2 ^ 59 ∧ o.t.size < 2 ^ 59) :
    ∀ (m i : Nat) (σ : Sto), i ≤ L.length → L.length - i < m → ∃ σ', termParsesl0 (lim Mq.C) n m (L.map OpV.enc) i σ = some (.ret [(.bool true, false)], σ')
  | 0, i, _, _, hm => by omega
  | m + 1, i, σ, hi, hm => by
    show ∃ σ', termParsess0 (lim Mq.C) (termParsesl0 (lim Mq.C) n m) (L.map OpV.enc) i σ = _
    unfold termParsess0
    rw [List.length_map]
    by_cases hlt : i < L.length
    · obtain ⟨σ1, h1⟩ := termParsed_law L[i].s (hs _ (List.getElem_mem hlt)).1 σ
      obtain ⟨σ2, h2⟩ := termParsed_law L[i].t (hs _ (List.getElem_mem hlt)).2 σ1
      have hget : (L.map OpV.enc).getD (Int.toNat (i : Int)) [] = L[i].enc := by simp [hlt]
      have hc1 : L[i].enc.getD 1 V.any = .str L[i].s := rfl
      have hc2 : L[i].enc.getD 2 V.any = .str L[i].t := rfl
      have hbig : decide ((i : Int) < 1152921504606846976) = true := by simp; omega
      obtain ⟨σ3, h3⟩ := termParses_loop n hb hs m (i + 1) σ2 (by omega) (by omega)
      refine ⟨σ3, ?_⟩
      rw [d0, dlt hlt, hbig, hget, hc1, hc2]
      simp only [cond_true, Bool.and_self, grd, Option.bind_some, callK_ret1 h1, callK_ret1 h2, List.getD_cons_zero, V.asBool, Bool.not_true, cond_false, wrap_succ (show i < 2 ^ 61 by omega)]
      exact h3
    · rw [dnlt hlt]; exact ⟨σ, rfl⟩
theorem termParses_law (L : List OpV) (hb : L.length < 2 ^ 60) (hs : ∀ o ∈ L, o.s.size < 2 ^ 59 ∧ o.t.size < 2 ^ 59) (σ : Sto) :
    ∃ σ', lim Mq.C 3 [(.slice 6 25 (L.map OpV.enc), false)] σ = some (.ret [(.bool true, false)], σ') := by
  obtain ⟨σ', h⟩ := termParses_loop (L.length + 1) hb hs (L.length + 1) 0 σ (by omega) (by omega)
  exact ⟨σ', termParses_lim (n := L.length + 1) h⟩
end Go.Ab.Mq
end
