/- Operations that read and write cells, and calls: the abstract one is met by the real one. -/
import Derived.Test.YtcpdcpgblcapeaaDoorAbApp
set_option linter.unusedSimpArgs false
set_option linter.unusedVariables false
set_option linter.deprecated false
namespace Go.Ab
section
variable {P : Program} {C : Ctx} {H : Hints} {G : Gh} {lam : Nat → Nat} {a : Act} {w : World} {st : St}

def NP (C : Ctx) (G : Gh) (w : World) (out : Out) (a' : Act) (w' : World) : Prop := ∃ st' G' lam', out = .next st' ∧ Ext G w G' w' ∧ Inv C.glob G' lam' a' w' st'
def QP (C : Ctx) (G : Gh) (w : World) (out : Out) (e : Exit) (a' : Act) (w' : World) : Prop :=
  ∃ v st' c G', out = .pan v st' ∧ e = .panic [{ v := c, recovered := false }] ∧ Rel G' w' v c ∧ Ext G w G' w' ∧ SInv C.glob G' w' st'.sto ∧ a'.defers = []

theorem setCells_length (cs : List Cell) (o : Nat) (xs : List Cell) : (setCells cs o xs).length = cs.length := by
  induction xs generalizing cs o with
  | nil => rfl
  | cons x xs ih => simp [setCells, ih]

theorem setCells_get (cs : List Cell) (o : Nat) (xs : List Cell) (j : Nat) (h : o + xs.length ≤ cs.length) :
    (setCells cs o xs)[j]? = if o ≤ j ∧ j < o + xs.length then xs[j - o]? else cs[j]? := by
  induction xs generalizing cs o with
  | nil => simp [setCells]; intro h1 h2; omega
  | cons x xs ih =>
    simp only [List.length_cons] at h
    rw [setCells, ih (cs.set o x) (o + 1) (by simp; omega)]
    by_cases h1 : o + 1 ≤ j ∧ j < o + 1 + xs.length
    · rw [if_pos h1, if_pos (by simp; omega), show j - o = (j - (o + 1)) + 1 by omega, List.getElem?_cons_succ]
    · rw [if_neg h1]
      by_cases h2 : j = o
      · subst h2
        rw [if_pos (by simp), List.getElem?_set]
        simp; omega
      · rw [if_neg (by simp; omega), List.getElem?_set, if_neg (by omega)]

/-- Cells written into a block that stands for abstract cells. -/
theorem write_block {r0 : Nat} {p : Place} {q : Nat → Place} {cs : List Cell} (wf : WF G w) (h : BlkOk G w r0 p q cs) (hpq : ∀ j, q j ≠ p) (o : Nat) (vs : List Value) (ns : List Cell) (hl : vs.length = ns.length) (ho : o + ns.length ≤ cs.length)
    (hv : ∀ (j : Nat) c x, ns[j]? = some c → vs[j]? = some x → CRel G w (q (o + j)) c x ∧ x.oneCell' = true) :
    (storeCells ⟨r0, o, none⟩ vs).run P w = .ok () (putCells w r0 o vs) ∧ Ext G w G (putCells w r0 o vs) ∧ (∀ fl : Place → Prop, ¬ fl p → Keeps G w G (putCells w r0 o vs) fl) ∧ WF G (putCells w r0 o vs) ∧
    BlkOk G (putCells w r0 o vs) r0 p q (setCells cs o ns) := by
  obtain ⟨cv, el, h1, h2, h3, h4, h5⟩ := h
  have hh := putCells_heap w r0 o vs
  obtain ⟨z1, z2, z3, z4⟩ := putCells_rest w r0 o vs
  have hnew : (putCells w r0 o vs).heap[r0]? = some (.cells (setA cv o vs) el (0, 0)) := by rw [hh, if_pos rfl, h1]; rfl
  have hother : ∀ i, i ≠ r0 → (putCells w r0 o vs).heap[i]? = w.heap[i]? := fun i hi => by rw [hh, if_neg hi]
  have hE : Ext G w G (putCells w r0 o vs) := by
    refine ⟨Nat.le_refl _, fun _ _ => rfl, fun _ _ => rfl, fun _ => Nat.le_refl _, fun b o' ho' => ?_, z2, z3, z4, by rw [z1]; exact Nat.le_refl _, fun i _ hi => ⟨hother i ?_, rfl, hi⟩⟩
    · have hb : b ≠ r0 := by rintro rfl; rw [h4] at ho'; omega
      simp only [World.cell?]; rw [hother b hb]
    · rintro rfl; rw [h3] at hi; simp at hi
  refine ⟨?_, hE, fun fl hf => ⟨fun i p' hp' hf' => ⟨hother i ?_, rfl, hp'⟩⟩, fun i hi => wf i (by rw [z1] at hi; exact hi), setA cv o vs, el, hnew, by rw [setA_size, setCells_length]; exact h2, h3, h4, fun j c x hc hx => ?_⟩
  · have := run_storeCells_plain (P := P) vs w r0 o 0 cv el (0, 0) h1 (by omega) (Nat.zero_le _) (fun v hv' => by
      obtain ⟨j, hj, hvj⟩ := List.mem_iff_getElem.1 hv'
      have hj' : j < ns.length := by omega
      exact (hv j _ v (List.getElem?_eq_getElem hj') (by rw [List.getElem?_eq_getElem hj, hvj])).2)
    simpa using this
  · rintro rfl
    rw [h3] at hp'
    obtain rfl := Option.some.inj hp'
    exact hf hf'
  · rw [setCells_get _ _ _ _ ho] at hc
    rw [setA_get _ _ _ _ (by omega)] at hx
    have tr : ∀ {c : Cell} {x : Value}, CRel G w (q j) c x → CRel G (putCells w r0 o vs) (q j) c x := fun hcr =>
      hcr.move hE fun _ i hi => ⟨hother i (by rintro rfl; rw [h3] at hi; exact hpq j (Option.some.inj hi).symm), rfl, hi⟩
    by_cases hj : o ≤ j ∧ j < o + ns.length
    · rw [if_pos hj] at hc
      rw [if_pos (by omega)] at hx
      obtain ⟨e1, e2⟩ := hv _ c x hc hx
      rw [show o + (j - o) = j by omega] at e1
      exact ⟨tr e1, e2⟩
    · rw [if_neg hj] at hc
      rw [if_neg (by omega)] at hx
      obtain ⟨e1, e2⟩ := h5 j c x hc hx
      exact ⟨tr e1, e2⟩

/-- The cells of a value laid into a block: what is known of them. -/
theorem cellsO_rel {v : V} {c : Value} {ag ow : Bool} {n : Nat} (h : Rel G w v c) (hf : v.fits ag n = true) (q : Nat → Place) (hq : ow = true → Own G w (q 0) v c) :
    (cellsO v ow ag n).length = n ∧ c.cells.toList.length = n ∧ ∀ (j : Nat) d x, (cellsO v ow ag n)[j]? = some d → c.cells.toList[j]? = some x → CRel G w (q j) d x ∧ x.oneCell' = true := by
  obtain ⟨⟨e1, e2⟩, e3, e4⟩ := cellsN_rel h hf
  cases ag with
  | true =>
    simp only [cellsO, cellsN, if_true] at *
    refine ⟨by simp, by simp [e3], fun j d x hd hx => ?_⟩
    obtain ⟨hj, hd⟩ := List.getElem?_eq_some_iff.1 hd
    simp at hj hd
    subst hd
    obtain ⟨g1, g2⟩ := e2 j (v.cell j) x (by simp [hj]) hx
    refine ⟨⟨g1, fun ho => ?_⟩, g2⟩
    simp only [Bool.and_eq_true] at ho
    have hown := hq ho.1
    rcases rel_fits h hf with ⟨_, cs, xs, rfl, rfl, h1, h2⟩ | ⟨hh, _⟩
    · have hc : cs[j]? = some ((V.agg cs).cell j) := by
        have hlt : j < cs.length := by omega
        simp [V.cell, hlt]
      show Own G w (q j) ((V.agg cs).cell j) x
      obtain ⟨k, et, hk⟩ : ∃ k et, (V.agg cs).cell j = .slice k et [] := by
        have := ho.2
        unfold V.isNo at this
        split at this
        · rename_i k et hv; exact ⟨k, et, hv⟩
        · simp at this
      have ht : Tight x := hown j k et x (by rw [hc, hk]) (by simpa [Value.cells] using hx)
      rw [hk]
      unfold Own
      split
      · exact ht.elim
      · first | contradiction | trivial
      · trivial
    · simp at hh
  | false =>
    simp only [cellsO, cellsN, Bool.false_eq_true, if_false] at *
    refine ⟨by simpa using e4, by simp [e3], fun j d x hd hx => ?_⟩
    cases j with
    | succ j => simp at hd
    | zero =>
      simp at hd
      subst hd
      obtain ⟨g1, g2⟩ := e2 0 v x (by simp) hx
      refine ⟨⟨g1, fun ho => ?_⟩, g2⟩
      have hx' : x = c := by
        rcases rel_fits h hf with ⟨hh, _⟩ | ⟨_, _, h1⟩
        · simp at hh
        · have hc : c.cells = #[c] := by cases c <;> simp_all [Value.cells, Value.oneCell']
          rw [hc] at hx; simp at hx; exact hx.symm
      subst hx'
      exact hq ho

/-- A token on its way out of a register. -/
theorem take_token {o : Oper} {t : TypeId} {x : Operand} {c : Cell} (h : Inv C.glob G lam a w st) (hc : ck C st.regs t x = some c) (hcl : (clearOf H o) = tmpOf x) (q : Place) :
    ∃ G', Ext G w G' w ∧ Inv C.glob G' lam a w (st.clear (clearOf H o)) ∧ Rel G' w c.1 (a.eval x) ∧ (c.2 = true → Own G' w q c.1 (a.eval x)) ∧ G'.N = G.N := by
  obtain ⟨h1, h2⟩ := ck_rel h hc
  cases hb : c.2 with
  | false => exact ⟨G, Ext.refl _ _, h.clear _, h1, fun ho => by simp at ho, rfl⟩
  | true =>
    rcases h2 hb with ⟨r, rfl, h3⟩ | h3
    · obtain ⟨G', e1, e2, e3, e4⟩ := (h.clear (clearOf H o)).token (q := q) h3 (clear_not_flagged _ _ (by rw [hcl]; simp [tmpOf])) (by simp) (by simp)
      exact ⟨G', e1, e2, h1.mono e1, fun _ => e3, e4⟩
    · exact ⟨G, Ext.refl _ _, h.clear _, h1, fun _ => h3 q, rfl⟩

theorem gather_some {cs : List Cell} {o n : Nat} {ag : Bool} {v : V} (h : gather cs o n ag = some v) : o + n ≤ cs.length ∧ ((ag = true ∧ v = .agg ((List.range n).map fun i => (cs.getD (o + i) cellD).1)) ∨ (ag = false ∧ n = 1 ∧ v = (cs.getD o cellD).1)) := by
  simp only [gather] at h
  split at h
  · rename_i h1
    refine ⟨h1, ?_⟩
    split at h
    · exact .inl ⟨‹_›, (Option.some.inj h).symm⟩
    · split at h
      · exact .inr ⟨by simpa using ‹¬ ag = true›, ‹_›, (Option.some.inj h).symm⟩
      · simp at h
  · simp at h

/-- Cells of a block read together. -/
theorem gather_rel {t : TypeId} {i : TI} (hT : TOk P t i) {r0 : Nat} {p : Place} {q : Nat → Place} {cs : List Cell} (h : BlkOk G w r0 p q cs ∨ cs = []) {o : Nat} {v : V} (hv : gather cs o i.size i.agg = some v) :
    ∃ x, (loadVar t ⟨r0, o, none⟩).run P w = .ok x w ∧ Rel G w v x := by
  obtain ⟨h1, h2⟩ := gather_some hv
  rcases h with ⟨cv, el, g1, g2, g3, g4, g5⟩ | rfl
  · obtain ⟨x, e1, e2⟩ := load_cells (P := P) (G := G) (w := w) hT r0 o (fun j => (cs.getD (o + j) cellD).1) ((cv.toList.drop o).take i.size) (by simp; omega) (fun j x hx => by
      rw [List.getElem?_take] at hx
      split at hx
      · rw [List.getElem?_drop] at hx
        have hx' : cv[o + j]? = some x := by simpa using hx
        have hlt : o + j < cs.length := by omega
        rw [List.getD_eq_getElem?_getD, List.getElem?_eq_getElem hlt]
        obtain ⟨w1, w2⟩ := g5 (o + j) _ x (List.getElem?_eq_getElem hlt) hx'
        exact ⟨by rw [cell?_of_heap g1]; exact hx', w2, w1.1⟩
      · simp at hx) (fun hh => by rcases h2 with ⟨h2, _⟩ | ⟨_, h2, _⟩; · simp [hh] at h2
                                  · exact h2)
    refine ⟨x, e1, ?_⟩
    rcases h2 with ⟨q1, rfl⟩ | ⟨q1, q2, rfl⟩
    · rw [if_pos q1] at e2; exact e2
    · rw [if_neg (by simp [q1])] at e2; exact e2
  · simp only [List.length_nil] at h1
    have h0 : i.size = 0 := by omega
    rcases h2 with ⟨q1, rfl⟩ | ⟨q1, q2, rfl⟩
    · refine ⟨.agg #[], ?_, ?_⟩
      · have := run_loadVar_of (w := w) hT r0 o [] (by simp [h0]) (by simp) (fun hh => by simp [hh] at q1)
        rw [if_pos q1] at this
        exact this
      · rw [h0]
        exact .agg [] [] rfl (by simp) (by simp)
    · omega

theorem locs_ok (h : Inv C.glob G lam a w st) (r : Nat) : BlkOk G w (lam r) (.box r) (fun j => .lc r j) (st.locs.getD r []) ∨ st.locs.getD r [] = [] := by
  rw [List.getD_eq_getElem?_getD]
  cases hl : st.locs[r]? with
  | none => exact .inr rfl
  | some cs =>
    by_cases hcs : cs = []
    · exact .inr hcs
    · exact .inl (h.locs r cs hl hcs)

/-- One block of the frame's own is written; all else stays. -/
theorem Inv.setLoc (h : Inv C.glob G lam a w st) {r : Nat} {w' : World} {cs : List Cell} (e : Ext G w G w') (k : Keeps G w G w' (fun p => p ≠ .box r)) (wf : WF G w') (hb : BlkOk G w' (lam r) (.box r) (fun j => .lc r j) cs) :
    Inv C.glob G lam a w' { st with locs := st.locs.set r cs } where
  defers := h.defers
  len := h.len
  lenl := by simp [h.lenl]
  regs r' x hx := (h.regs r' x hx).move e k (fun v hv => by simp) (fun cs i v hv hi => by simp)
  locs r' cs' hc hne := by
    simp only [List.getElem?_set] at hc
    split at hc
    · rename_i hr
      subst hr
      split at hc
      · obtain rfl := Option.some.inj hc; exact hb
      · simp at hc
    · rename_i hr
      exact (h.locs r' cs' hc hne).move e k (by simp; exact fun hh => hr hh.symm) (fun j v hv => by simp)
  sto := h.sto.move e k wf rfl (fun b _ => by simp) (fun b cs j v hb hv => by simp)

/-- One block of the store is written; all else stays. -/
theorem Inv.setSto (h : Inv C.glob G lam a w st) {b : Nat} {w' : World} {cs : List Cell} (hb : b < st.sto.length) (e : Ext G w G w') (k : Keeps G w G w' (fun p => p ≠ .blk b)) (wf : WF G w') (hk : BlkOk G w' (G.μ b) (.blk b) (fun j => .gc b j) cs) (ht : ∃ cv fr, w'.heap[G.μ b]? = some (.cells cv (G.ty b) fr)) :
    Inv C.glob G lam a w' { st with sto := st.sto.set b cs } where
  defers := h.defers
  len := h.len
  lenl := h.lenl
  regs r' x hx := (h.regs r' x hx).move e k (fun v hv => by simp) (fun cs i v hv hi => by simp)
  locs r' cs' hc hne := (h.locs r' cs' hc hne).move e k (by simp) (fun j v hv => by simp)
  sto := by
    refine ⟨wf, fun g cs hg => (h.sto.glob g cs hg).mono e, by simp [h.sto.N], fun b' hb' => ?_, fun b' cs' hc => ?_⟩
    · simp only [List.length_set] at hb'
      by_cases hbb : b' = b
      · subst hbb; exact ht
      · obtain ⟨cv, fr, h1⟩ := h.sto.typed b' hb'
        obtain ⟨_, _, _, _, h3, _⟩ := h.sto.blk b' st.sto[b'] (List.getElem?_eq_getElem hb')
        exact ⟨cv, fr, by rw [(k.blocks _ _ h3 (by simp; exact hbb)).1]; exact h1⟩
    simp only [List.getElem?_set] at hc
    split at hc
    · rename_i hr
      subst hr
      obtain rfl := Option.some.inj hc
      exact hk
    · rename_i hr
      exact (h.sto.blk b' cs' hc).move e k (by simp; exact fun hh => hr hh.symm) (fun j v hv => by simp)

end
end Go.Ab
