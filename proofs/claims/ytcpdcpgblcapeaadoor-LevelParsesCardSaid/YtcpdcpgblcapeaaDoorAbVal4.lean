/- Literals, loads of settled cells, appends. -/
import Derived.Test.YtcpdcpgblcapeaaDoorAbVal3
set_option linter.unusedSimpArgs false
set_option linter.unusedVariables false
set_option linter.deprecated false
namespace Go.Ab
section
variable {P : Program} {C : Ctx} {H : Hints} {G : Gh} {lam : Nat → Nat} {a : Act} {w : World} {st : St}

theorem mapM_some' {α β : Type} {f : α → Option β} : ∀ (l : List α), (∀ x, x ∈ l → (f x).isSome = true) → ∃ r, l.mapM f = some r ∧ r.length = l.length ∧ ∀ (i : Nat) x, l[i]? = some x → r[i]? = f x
  | [], _ => ⟨[], rfl, rfl, by simp⟩
  | x :: l, h => by
    obtain ⟨r, h1, h2, h3⟩ := mapM_some' l fun y hy => h y (by simp [hy])
    obtain ⟨y, hy⟩ := Option.isSome_iff_exists.1 (h x (by simp))
    refine ⟨y :: r, by simp [List.mapM_cons, hy, h1], by simp [h2], fun i z hz => ?_⟩
    cases i with
    | zero => simp at hz; subst hz; simp [hy]
    | succ i => simp at hz; simpa using h3 i z hz

theorem cells_agg {z : Value} {n : Nat} : True := trivial

theorem val_build (hC : CtxOk P C) (h : Inv C.glob G lam a w st) {o : Oper} {t : TypeId} {parts : Array (Nat × Operand)} {y : RV} (ho : o.op = .build t parts) (ha : act C H o st.regs = some (.val y)) : VOk P C H G lam a w st o y := by
  simp only [act, ho] at ha
  obtain ⟨i, hi, h1⟩ := bind2 ha
  clear ha
  have hT := hC.T t i hi
  obtain ⟨d1, hd1, hk1⟩ := hT.desc
  have fin : ∀ (cs : List V) (xs : Array Value) (ow : Bool), P.built t (parts.toList.map fun x => (x.1, a.eval x.2)) = some xs → CellsRel G w cs xs.toList → (ow = true → TightC cs xs.toList) → VOk P C H G lam a w st o (.val (.agg cs) ow) := by
    intro cs xs ow hb hc ht
    refine VOk.pure h (.agg xs) ?_ fun d => ⟨?_, fun ho => by intro i k et x hx hy; exact ht ho i k et x hx (by simpa using hy)⟩
    · rw [← parts_map] at hb
      simp [execOp, ho, run_build w t _ xs hb]
    · have := Rel.agg (G := G) (w := w) cs xs.toList hc.1 (fun i x hx => by
        have hlt : i < cs.length := by rw [← hc.1]; exact (List.getElem?_eq_some_iff.1 hx).1
        exact (hc.2 i _ x (List.getElem?_eq_getElem hlt) hx).2) (fun i v x hv hx => (hc.2 i v x hv hx).1)
      simpa using this
  split at h1
  · rename_i fs hfs
    rw [hfs] at hk1
    obtain ⟨fields, rfl, hm⟩ := kok_struct hk1
    obtain ⟨info, z, e1, e2, e3, e4, e5⟩ := zero_rel hT (by simp [hfs]) G w
    split at h1
    · rename_i hall
      obtain ⟨cs, hcs, h2⟩ := bind2 h1
      obtain rfl := Eff.val.inj (Option.some.inj h2)
      have hsome : ∀ x, x ∈ fields.toList → ((P.info? x.type).map fun i => (x.offset, i.size)).isSome = true := by
        intro x hx
        rw [List.all_eq_true] at hall
        have := hall (x.offset, x.type) (by rw [← hm]; exact List.mem_map.2 ⟨x, hx, rfl⟩)
        obtain ⟨ti, hti⟩ := Option.isSome_iff_exists.1 this
        obtain ⟨inf, hinf, _⟩ := (hC.T _ _ hti).info
        simp [hinf]
      obtain ⟨places, p1, p2, p3⟩ := mapM_some' fields.toList hsome
      obtain ⟨xs', f1, f2, _, f4⟩ := fill_ok h _ (places.toArray[·]?) (fun j p hp => by
        obtain ⟨q, hq, hp⟩ := bind2 hp
        simp only [Option.map_eq_some_iff] at hp
        obtain ⟨fi, hfi, rfl⟩ := hp
        rw [← hm, List.getElem?_map, Option.map_eq_some_iff] at hq
        obtain ⟨fd, hfd, rfl⟩ := hq
        obtain ⟨inf, hinf, hsz, _⟩ := (hC.T _ _ hfi).info
        have := p3 j fd hfd
        simp only [hinf, Option.map_some, hsz] at this
        simpa using this) parts.toList i.zero cs z.cells hcs e3
      exact fin cs xs' _ (by simp only [Program.built, e1, hd1, e2, p1]; exact f1) f2 fun ho => f4 (by simp only [Bool.and_eq_true] at ho; exact ho.2) e5
    · simp at h1
  · rename_i len e hkk
    rw [hkk] at hk1
    obtain rfl := kok_array hk1
    obtain ⟨info, z, e1, e2, e3, e4, e5⟩ := zero_rel hT (by simp [hkk]) G w
    obtain ⟨ei, hei, h2⟩ := bind2 h1
    obtain ⟨cs, hcs, h3⟩ := bind2 h2
    obtain rfl := Eff.val.inj (Option.some.inj h3)
    obtain ⟨inf, hinf, hsz, _⟩ := (hC.T _ _ hei).info
    obtain ⟨xs', f1, f2, _, f4⟩ := fill_ok h _ (fun j => some (j * inf.size, inf.size)) (fun j p hp => by
      simp only [Option.some.injEq] at hp
      subst hp
      simp [hsz]) parts.toList i.zero cs z.cells hcs e3
    exact fin cs xs' false (by simp only [Program.built, e1, hd1, e2, hinf]; exact f1) f2 (by simp)
  · simp at h1

theorem gather_e {k : Nat} {e : List V} {o n : Nat} {ag : Bool} {v : V} (h : memGet [] (.eptr k e o) ag n = some v) : o + n ≤ k ∧ ((ag = true ∧ v = .agg ((List.range n).map fun i => e.getD (o + i) .any)) ∨ (ag = false ∧ n = 1 ∧ v = e.getD o .any)) := by
  simp only [memGet] at h
  split at h
  · rename_i h1
    refine ⟨h1, ?_⟩
    split at h
    · rename_i h2
      exact .inl ⟨h2, (Option.some.inj h).symm⟩
    · rename_i h2
      split at h
      · exact .inr ⟨by simpa using h2, ‹_›, (Option.some.inj h).symm⟩
      · simp at h
  · simp at h

/-- Cells read together. -/
theorem load_cells {t : TypeId} {i : TI} (hT : TOk P t i) (b o : Nat) (f : Nat → V) (xs : List Value) (hl : xs.length = i.size)
    (h : ∀ (j : Nat) x, xs[j]? = some x → w.cell? ⟨b, o + j, none⟩ = some x ∧ x.oneCell' = true ∧ Rel G w (f j) x) (hs : i.agg = false → i.size = 1) :
    ∃ c, (loadVar t ⟨b, o, none⟩).run P w = .ok c w ∧ Rel G w (if i.agg then .agg ((List.range i.size).map f) else f 0) c := by
  refine ⟨_, run_loadVar_of hT b o xs hl (fun j c hc => (h j c hc).1) hs, ?_⟩
  cases hag : i.agg with
  | true =>
    simp only [if_true]
    refine .agg _ _ (by simp [hl]) (fun j x hx => (h j x hx).2.1) (fun j v x hv hx => ?_)
    obtain ⟨_, rfl⟩ := range_get hv
    exact (h j x hx).2.2
  | false =>
    simp only [Bool.false_eq_true, if_false]
    have := hs hag
    match xs, hl with
    | [x], _ => exact (h 0 x rfl).2.2
    | [], hl => simp at hl; omega
    | _ :: _ :: _, hl => simp at hl; omega

theorem rel_eptr_load {t : TypeId} {i : TI} (hT : TOk P t i) {k : Nat} {e : List V} {o : Nat} {c : Value} (hr : Rel G w (.eptr k e o) c) {v : V} {σ : Sto} (hv : memGet σ (.eptr k e o) i.agg i.size = some v) :
    ∃ x, (Instr.loadAt t c).run P w = .ok x w ∧ Rel G w v x := by
  have hv' : memGet [] (.eptr k e o) i.agg i.size = some v := hv
  obtain ⟨h1, h2⟩ := gather_e hv'
  cases hr with
  | eptr _ _ _ b off cs g1 g2 g3 g4 g5 =>
    have hcl : ∀ j, j < i.size → ∃ x, cs[o + j]? = some x := fun j hj => ⟨_, List.getElem?_eq_getElem (by omega)⟩
    obtain ⟨x, e1, e2⟩ := load_cells (P := P) (G := G) (w := w) hT b (off + o) (fun j => e.getD (o + j) .any) ((cs.drop o).take i.size) (by simp; omega) (fun j x hx => by
      rw [List.getElem?_take] at hx
      split at hx
      · rw [List.getElem?_drop] at hx
        obtain ⟨q1, q2⟩ := g4 _ x hx
        refine ⟨by rw [Nat.add_assoc]; exact q1, q2, ?_⟩
        have hlt : o + j < e.length := by omega
        rw [List.getD_eq_getElem?_getD, List.getElem?_eq_getElem hlt]
        exact g5 _ _ x (List.getElem?_eq_getElem hlt) hx
      · simp at hx) (fun hh => by rcases h2 with ⟨h2, _⟩ | ⟨_, h2, _⟩; · simp [hh] at h2
                                  · exact h2)
    refine ⟨x, by simp [Instr.loadAt, Instr.sureAddr, e1], ?_⟩
    rcases h2 with ⟨q1, rfl⟩ | ⟨q1, q2, rfl⟩
    · rw [if_pos q1] at e2; exact e2
    · rw [if_neg (by simp [q1])] at e2; exact e2

theorem val_load (hC : CtxOk P C) (h : Inv C.glob G lam a w st) {o : Oper} {t : TypeId} {x : Operand} {y : RV} (ho : o.op = .load t x) (ha : act C H o st.regs = some (.val y)) : VOk P C H G lam a w st o y := by
  simp only [act, ho] at ha
  obtain ⟨i, hi, h1⟩ := bind2 ha
  clear ha
  split at h1
  · simp at h1
  · rename_i k e of ow _ hx
    obtain ⟨v, hv, h2⟩ := bind2 h1
    obtain rfl := Eff.val.inj (Option.some.inj h2)
    obtain ⟨c, e1, e2⟩ := rel_eptr_load (P := P) (hC.T t i hi) (eval_rel h hx).1 hv
    exact VOk.val h c (by simp [execOp, ho, e1]) e2
  · split at h1
    · split at h1 <;> simp at h1
    · simp at h1
  · simp at h1

theorem replZero_length (n : Nat) (z : List V) : (replZero n z).length = n * z.length := by
  induction n with
  | zero => simp [replZero]
  | succ n ih => simp [replZero, ih, Nat.succ_mul, Nat.add_comm]

theorem replZero_get (n : Nat) (z : List V) (i : Nat) (h : i < n * z.length) : (replZero n z)[i]? = z[i % z.length]? := by
  induction n generalizing i with
  | zero => simp at h
  | succ n ih =>
    simp only [replZero]
    by_cases hi : i < z.length
    · rw [List.getElem?_append_left hi, Nat.mod_eq_of_lt hi]
    · rw [List.getElem?_append_right (by omega)]
      rw [Nat.succ_mul] at h
      rw [ih _ (by omega), Nat.mod_eq_sub_mod (a := i) (by omega)]

theorem chunks_length (k n : Nat) (l : List V) : (chunks k n l).length = n := by
  induction n generalizing l with
  | zero => rfl
  | succ n ih => simp [chunks, ih]

theorem chunks_get (k n : Nat) (l : List V) (i : Nat) (e : List V) (h : (chunks k n l)[i]? = some e) : e = (l.drop (i * k)).take k := by
  induction n generalizing l i with
  | zero => simp [chunks] at h
  | succ n ih =>
    cases i with
    | zero => simp [chunks] at h; simp [h]
    | succ i =>
      simp only [chunks, List.getElem?_cons_succ] at h
      rw [ih _ _ h, List.drop_drop, Nat.succ_mul, Nat.add_comm]

theorem chunksV_length {α : Type} (k n : Nat) (l : List α) : True := trivial

/-- A new row of settled cells. -/
theorem newRow_rel {k n : Nat} {cs : List V} {xs : Array Value} (h : CellsRel G w cs xs.toList) (wf : WF G w) (el : TypeId) (hl : cs.length = n * k) (po : Option Place) (et : TypeId) :
    Rel (G.new w (n * k) po) (w.alloc (.cells xs el)) (.slice k et (chunks k n cs)) (.slice (some ⟨w.heap.size, 0, none⟩) n n) := by
  have hx := Ext.alloc wf (.cells xs el) (n * k) po
  have hlen := h.1
  simp only [Array.length_toList] at hlen
  have hcl := chunks_length k n cs
  have key : ∀ i, i < n → i * k + k ≤ n * k := by
    intro i hi
    have : (i + 1) * k ≤ n * k := Nat.mul_le_mul_right _ (by omega)
    rw [Nat.succ_mul] at this
    exact this
  have := Rel.slice (G := G.new w (n * k) po) (w := w.alloc (.cells xs el)) k et (chunks k n cs) w.heap.size 0 n ((List.range n).map fun i => (xs.toList.drop (i * k)).take k)
    (by simp [hcl]) (by rw [hcl]; exact Nat.le_refl _) (by rw [hcl]; show _ ≤ upd G.lim w.heap.size (n * k) w.heap.size; simp) (fun i e he => by
      have hi : i < n := by rw [← hcl]; exact (List.getElem?_eq_some_iff.1 he).1
      rw [chunks_get k n cs i e he]
      have := key i hi
      simp; omega) (fun i x hx => by
      obtain ⟨hi, hx⟩ := List.getElem?_eq_some_iff.1 hx
      simp at hi hx
      subst hx
      have := key i hi
      simp; omega) (fun i j x c hx hc => by
      obtain ⟨hi, hx⟩ := List.getElem?_eq_some_iff.1 hx
      simp at hi hx
      subst hx
      rw [List.getElem?_take] at hc
      split at hc
      · rw [List.getElem?_drop] at hc
        simp only [Array.getElem?_toList] at hc
        refine ⟨by rw [World.cell?_alloc_new, Nat.zero_add]; exact hc, ?_⟩
        have hlt : i * k + j < cs.length := by have := key i hi; omega
        exact (h.2 _ _ c (List.getElem?_eq_getElem hlt) (by simpa using hc)).2
      · simp at hc) (fun i j e x v c he hx' hv hc => by
      obtain ⟨hi, hx'⟩ := List.getElem?_eq_some_iff.1 hx'
      simp at hi hx'
      subst hx'
      rw [chunks_get k n cs i e he] at hv
      rw [List.getElem?_take] at hc hv
      split at hc
      · rw [if_pos ‹_›, List.getElem?_drop] at hv
        rw [List.getElem?_drop] at hc
        exact ((h.2 _ v c hv (by simpa using hc)).1).mono hx
      · simp at hc)
  rw [hcl] at this
  exact this

theorem val_buildSlice (hC : CtxOk P C) (h : Inv C.glob G lam a w st) {o : Oper} {t : TypeId} {n : Nat} {parts : Array (Nat × Operand)} {y : RV} (ho : o.op = .buildSlice t n parts) (ha : act C H o st.regs = some (.val y)) : VOk P C H G lam a w st o y := by
  simp only [act, ho] at ha
  obtain ⟨i, hi, h1⟩ := bind2 ha
  clear ha
  have hT := hC.T t i hi
  obtain ⟨d1, hd1, hk1⟩ := hT.desc
  split at h1
  · rename_i e hkk
    rw [hkk] at hk1
    obtain rfl := kok_slice hk1
    obtain ⟨ei, hei, h2⟩ := bind2 h1
    split at h2
    · rename_i hle
      obtain ⟨cs, hcs, h3⟩ := bind2 h2
      obtain rfl := Eff.val.inj (Option.some.inj h3)
      have hTe := hC.T e ei hei
      by_cases htup : ∃ m, ei.kind = .tuple m
      · obtain ⟨m, hm⟩ := htup
        have := hle.2
        simp [TI.isTup, hm] at this
      · have hle := hle.1
        obtain ⟨info, z, e1, e2, e3, e4, _⟩ := zero_rel hTe (fun m hm => htup ⟨m, hm⟩) G w
        have hzl : z.cells.size = ei.size := by have := e3.1; simp only [Array.length_toList] at this; omega
        have hz : CellsRel G w (replZero n ei.zero) (((Array.range (n * ei.size)).map (fun j => (if n * ei.size = 0 then #[] else z.cells)[j % (if n * ei.size = 0 then #[] else z.cells).size]!)).toList) := by
          refine ⟨by simp [replZero_length, e4], fun j v x hv hx => ?_⟩
          obtain ⟨hj, hx⟩ := List.getElem?_eq_some_iff.1 hx
          simp at hj
          have hne : ¬ n * ei.size = 0 := by omega
          simp [hne] at hx
          rw [replZero_get _ _ _ (by rw [e4]; exact hj)] at hv
          rw [e4] at hv
          have hpos : 0 < ei.size := Nat.pos_of_ne_zero (fun h0 => hne (by rw [h0]; simp))
          have hmod : j % ei.size < z.cells.size := by rw [hzl]; exact Nat.mod_lt _ hpos
          refine e3.2 (j % ei.size) v x hv ?_
          rw [← hx, hzl]
          simp [hmod]
        obtain ⟨xs', f1, f2, f3, _⟩ := fill_ok h (fun j => some (j * ei.size, ei.size, e)) (fun j => some (j * ei.size, ei.size)) (fun j p hp => by
          simp only [Option.some.injEq] at hp; subst hp; rfl) parts.toList (replZero n ei.zero) cs _ hcs hz
        have hrow := newRow_rel (k := ei.size) (n := n) f2 h.sto.wf e (by rw [f3, replZero_length, e4]) (some (.reg (o.dst.getD 0))) e
        have hxl : n * ei.size ≤ xs'.size := by have := f2.1; simp only [Array.length_toList] at this; rw [this, f3, replZero_length, e4]; exact Nat.le_refl _
        refine ⟨.slice (some ⟨w.heap.size, 0, none⟩) n n, w.alloc (.cells xs' e), G.new w (n * ei.size) (some (.reg (o.dst.getD 0))), ?_, Ext.alloc h.sto.wf _ _ _, (h.alloc _ _ _).clear _, fun d hd => ⟨hrow, fun _ => ⟨rfl, rfl, by show upd G.owner w.heap.size _ w.heap.size = _; rw [hd]; simp, by show upd G.lim w.heap.size _ w.heap.size = _; simp, xs', (0, 0), heap_alloc_new _ _, hxl, Nat.zero_le _⟩⟩⟩
        have hzv : (zeroValue e).run P w = .ok z w := by simp [zeroValue, run_typeInfo_of e1, e2]
        have hle' : ¬ n * ei.size > 2 ^ 24 := by omega
        simp only [execOp, ho, Instr.buildSlice, Sem.run_bind, run_underlying_of hd1, Result.andThen_ok, run_sizeOf_of hTe, if_neg hle', parts_map]
        by_cases hne : n * ei.size = 0
        · have h0 : ∀ f : Nat → Value, (Array.range (n * ei.size)).map f = #[] := by intro f; rw [hne]; simp
          rw [h0] at f1
          simp only [h0]
          simp [hne, f1, newRow]
        · simp only [hne, if_false] at f1 ⊢
          simp only [Sem.run_bind, hzv, Result.andThen_ok, Sem.run_pure, f1]
          simp [newRow]
    · simp at h2
  · simp at h1
end
end Go.Ab
