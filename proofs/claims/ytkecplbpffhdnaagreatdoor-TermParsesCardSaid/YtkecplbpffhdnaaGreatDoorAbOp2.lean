/- New blocks, tuples, panics, calls. -/
import Derived.Test.YtkecplbpffhdnaaGreatDoorAbOp
set_option linter.unusedSimpArgs false
set_option linter.unusedVariables false
set_option linter.deprecated false
namespace Go.Ab
section
variable {P : Program} {C : Ctx} {H : Hints} {call : CallF} {G : Gh} {lam : Nat → Nat} {a : Act} {w : World} {st : St}

theorem crel_alloc {p : Place} {c : Cell} {x : Value} (wf : WF G w) (h : CRel G w p c x) {G' : Gh} {o : Obj} (e : Ext G w G' (w.alloc o)) (hl : ∀ i, i < w.heap.size → G'.lim i = G.lim i ∧ G'.owner i = G.owner i) : CRel G' (w.alloc o) p c x :=
  h.move e fun _ i hi => by
    have := owner_lt wf hi
    obtain ⟨h1, h2⟩ := hl i this
    exact ⟨heap_alloc_lt this, h1, by rw [h2]; exact hi⟩

/-- A new block of the frame's own. -/
theorem Inv.newLoc (h : Inv C.glob G lam a w st) {d : Nat} (hno : ∀ (r : Nat) x, st.regs[r]? = some x → isLptr d x = false) (cs : List Cell) (xs : Array Value) (el : TypeId) (hl : xs.size = cs.length)
    (hx : ∀ (j : Nat) c x, cs[j]? = some c → xs[j]? = some x → CRel G w (.lc d j) c x ∧ x.oneCell' = true) :
    Ext G w (G.new w 0 (some (.box d))) (w.alloc (.cells xs el)) ∧ Inv C.glob (G.new w 0 (some (.box d))) (upd lam d w.heap.size) a (w.alloc (.cells xs el)) { st with locs := st.locs.set d cs } := by
  have hE := Ext.alloc h.sto.wf (.cells xs el) 0 (some (.box d))
  have hI := h.alloc (.cells xs el) 0 (some (.box d))
  refine ⟨hE, hI.defers, hI.len, by simpa using hI.lenl, fun r x hr => ?_, fun r cs' hc hne => ?_, hI.sto⟩
  · have := hI.regs r x hr
    have hn := hno r x hr
    cases x with
    | lptr r' o' =>
      simp [isLptr] at hn
      simp only [RRel] at this ⊢
      rw [upd_other _ _ hn]
      exact this
    | dead => trivial
    | val v ow => exact this
    | tup cs => exact this
  · simp only [List.getElem?_set] at hc
    split at hc
    · rename_i hd
      subst hd
      split at hc
      · obtain rfl := Option.some.inj hc
        rw [upd_same]
        refine ⟨xs, el, heap_alloc_new _ _, hl, by show upd G.owner _ _ _ = _; simp, by show upd G.lim _ _ _ = _; simp, fun j c x hc hx' => ?_⟩
        obtain ⟨e1, e2⟩ := hx j c x hc hx'
        exact ⟨crel_alloc h.sto.wf e1 hE fun i hi => ⟨upd_other _ _ (by omega), upd_other _ _ (by omega)⟩, e2⟩
      · simp at hc
    · rename_i hd
      rw [upd_other _ _ (fun hh => hd hh.symm)]
      exact hI.locs r cs' hc hne

/-- A new block of the store. -/
theorem Inv.newSto (h : Inv C.glob G lam a w st) (cs : List Cell) (xs : Array Value) (el : TypeId) (hl : xs.size = cs.length)
    (hx : ∀ (j : Nat) c x, cs[j]? = some c → xs[j]? = some x → CRel G w (.gc st.sto.length j) c x ∧ x.oneCell' = true) :
    ∃ G', Ext G w G' (w.alloc (.cells xs el)) ∧ Inv C.glob G' lam a (w.alloc (.cells xs el)) { st with sto := st.sto ++ [cs] } ∧ G'.N = st.sto.length + 1 ∧ G'.μ st.sto.length = w.heap.size ∧ G'.ty st.sto.length = el := by
  let G1 := G.new w 0 (some (.blk st.sto.length))
  let G' : Gh := { G1 with N := st.sto.length + 1, μ := upd G.μ st.sto.length w.heap.size, ty := upd G.ty st.sto.length el }
  have hN := h.sto.N
  have hE0 := Ext.alloc h.sto.wf (.cells xs el) 0 (some (.blk st.sto.length))
  have hE : Ext G w G' (w.alloc (.cells xs el)) :=
    ⟨by show G.N ≤ st.sto.length + 1; omega, fun b hb => upd_other _ _ (by omega), fun b hb => upd_other _ _ (by omega), hE0.lim, hE0.cell, rfl, rfl, rfl, hE0.size, hE0.old⟩
  have hK : ∀ fl : Place → Prop, Keeps G w G' (w.alloc (.cells xs el)) fl := fun fl => ⟨fun i q hq _ => by
    have := owner_lt h.sto.wf hq
    exact ⟨heap_alloc_lt this, upd_other _ _ (by omega), by show upd G.owner _ _ i = _; rw [upd_other _ _ (by omega)]; exact hq⟩⟩
  have hWF : WF G' (w.alloc (.cells xs el)) := fun i hi => h.sto.wf.alloc (.cells xs el) 0 (some (.blk st.sto.length)) i hi
  refine ⟨G', hE, ⟨h.defers, h.len, h.lenl, fun r x hr => (h.regs r x hr).move hE (hK fun _ => True) (fun _ _ => trivial) (fun _ _ _ _ _ => trivial),
    fun r cs' hc hne => (h.locs r cs' hc hne).move hE (hK fun _ => True) trivial (fun _ _ _ => trivial), hWF, fun g cs hg => (h.sto.glob g cs hg).mono hE, by simp [G'], fun b hb => ?_, fun b cs' hb => ?_⟩, rfl, by simp [G'], by simp [G']⟩
  · show ∃ cv fr, (w.alloc (.cells xs el)).heap[upd G.μ st.sto.length w.heap.size b]? = some (.cells cv (upd G.ty st.sto.length el b) fr)
    by_cases hlt : b < st.sto.length
    · rw [upd_other _ _ (by omega), upd_other _ _ (by omega)]
      obtain ⟨cv, fr, q1⟩ := h.sto.typed b hlt
      obtain ⟨_, _, _, _, q3, _⟩ := h.sto.blk b st.sto[b] (List.getElem?_eq_getElem hlt)
      exact ⟨cv, fr, by rw [heap_alloc_lt (owner_lt h.sto.wf q3)]; exact q1⟩
    · have hb0 : b = st.sto.length := by simp at hb; omega
      subst hb0
      rw [upd_same, upd_same]
      exact ⟨xs, _, heap_alloc_new _ _⟩
  by_cases hlt : b < st.sto.length
  · rw [List.getElem?_append_left hlt] at hb
    show BlkOk G' _ (upd G.μ st.sto.length w.heap.size b) _ _ _
    rw [upd_other _ _ (by omega)]
    exact (h.sto.blk b cs' hb).move hE (hK fun _ => True) trivial (fun _ _ _ => trivial)
  · rw [List.getElem?_append_right (by omega)] at hb
    have hb0 : b = st.sto.length := by
      have := (List.getElem?_eq_some_iff.1 hb).1
      simp at this; omega
    subst hb0
    simp at hb
    subst hb
    show BlkOk G' _ (upd G.μ st.sto.length w.heap.size st.sto.length) _ _ _
    rw [upd_same]
    refine ⟨xs, el, heap_alloc_new _ _, hl, by show upd G.owner _ _ _ = _; simp, by show upd G.lim _ _ _ = _; simp, fun j c x hc hx' => ?_⟩
    obtain ⟨e1, e2⟩ := hx j c x hc hx'
    exact ⟨crel_alloc h.sto.wf e1 hE fun i hi => ⟨upd_other _ _ (by omega), upd_other _ _ (by omega)⟩, e2⟩

/-- What a new block is filled with: zeros, or a value that is boxed. -/
theorem fresh_cells (hC : CtxOk P C) {o : Oper} {cs : List Cell} (h : Inv C.glob G lam a w st) (hc : (∃ t i, o.op = .alloc t ∧ C.T t = some i ∧ i.isTup = false ∧ cs = i.zero.map fun v => (v, v.isSl)) ∨ ∃ t x i c, o.op = .box t x ∧ C.T t = some i ∧ ck C st.regs t x = some c ∧ c.1.fits i.agg i.size = true ∧ cs = cellsO c.1 c.2 i.agg i.size) (q : Nat → Place) :
    ∃ xs el G1, (execOp a.eval o).run P w = .ok (.value (.pointer (some ⟨w.heap.size, 0, none⟩))) (w.alloc (.cells xs el)) ∧ xs.size = cs.length ∧ Ext G w G1 w ∧ Inv C.glob G1 lam a w (st.clear (clearOf H o)) ∧ G1.N = G.N ∧
      (∀ (j : Nat) c x, cs[j]? = some c → xs[j]? = some x → CRel G1 w (q j) c x ∧ x.oneCell' = true) ∧ (o.op = .alloc el ∨ ∃ x, o.op = .box el x) := by
  rcases hc with ⟨t, i, ho, hi, htup, rfl⟩ | ⟨t, x, i, c, ho, hi, hck, hf, rfl⟩
  · have hT := hC.T t i hi
    rcases hT.zero with ⟨n, hn⟩ | ⟨info, z, e1, e2, e3, e4, e5⟩
    · simp [TI.isTup, hn] at htup
    · refine ⟨z.cells, t, G, ?_, by simp only [Array.length_toList] at e3; simp [e3], Ext.refl _ _, h.clear _, rfl, fun j c x hc hx => ?_, .inl ho⟩
      · have hz : (zeroValue t).run P w = .ok z w := by simp [zeroValue, run_typeInfo_of e1, e2]
        simp [execOp, ho, Instr.alloc, hz, newVar, newRow]
      · simp only [List.getElem?_map, Option.map_eq_some_iff] at hc
        obtain ⟨v, hv, rfl⟩ := hc
        obtain ⟨w1, w2, w3⟩ := zmatch_rel (e5 j v x hv (by simpa using hx)) G w
        exact ⟨⟨w1, fun _ => w2 _⟩, w3⟩
  · have hcl : clearOf H o = tmpOf x := by simp [clearOf, ho]
    obtain ⟨G1, x1, x2, x3, x4, x5⟩ := take_token h hck hcl (q 0)
    obtain ⟨k1, k2, k3⟩ := cellsO_rel x3 hf q (fun h1 => x4 h1)
    refine ⟨(a.eval x).cells, t, G1, by simp [execOp, ho, Instr.box, newVar, newRow], by rw [k1]; simpa using k2, x1, x2, x5, fun j c x hc hx => k3 j c x hc (by simpa using hx), .inr ⟨x, ho⟩⟩

theorem eff_newL (hC : CtxOk P C) {o : Oper} {cs : List Cell} (ha : act C H o st.regs = some (.newL cs)) {K : Out → Option Res} {res : Res}
    (hk : apply H call o.dst (st.clear (clearOf H o)) K (.newL cs) = some res) : ∃ out, K out = some res ∧ Sound1 P C o st out := by
  have hinv := act_inv ha
  simp only [apply] at hk
  split at hk
  · rename_i d hd
    split at hk
    · rename_i hcond
      obtain ⟨hlt, hne, hall⟩ := hcond
      refine ⟨_, hk, fun G lam a w h => ?_⟩
      obtain ⟨xs, el, G1, r1, r2, r3, r4, r5, r6, _⟩ := fresh_cells (P := P) (H := H) hC h hinv (fun j => .lc d j)
      obtain ⟨y1, y2⟩ := r4.newLoc (d := d) (fun r x hx => by
        rw [List.all_eq_true] at hall
        have := hall x (List.mem_iff_getElem?.2 ⟨r, hx⟩)
        simpa using this) cs xs el r2 r6
      refine upon_value r1 ⟨_, _, upd lam d w.heap.size, rfl, r3.trans y1, ?_⟩
      rw [hd]
      exact y2.put (some d) (.lptr d 0) _ fun d' hd' => by simp [RRel]
    · simp at hk
  · simp at hk

theorem eff_newS (hC : CtxOk P C) {o : Oper} {t : TypeId} {cs : List Cell} (ha : act C H o st.regs = some (.newS t cs)) {K : Out → Option Res} {res : Res}
    (hk : apply H call o.dst (st.clear (clearOf H o)) K (.newS t cs) = some res) : ∃ out, K out = some res ∧ Sound1 P C o st out := by
  have hinv := act_inv ha
  simp only [apply] at hk
  split at hk
  · rename_i d hd
    refine ⟨_, hk, fun G lam a w h => ?_⟩
    obtain ⟨xs, el, G1, r1, r2, r3, r4, r5, r6, r7⟩ := fresh_cells (P := P) (H := H) hC h hinv.1 (fun j => .gc st.sto.length j)
    have hel : el = t := by
      rcases hinv.2 with e1 | ⟨_, e1⟩ <;> rcases r7 with e2 | ⟨_, e2⟩ <;> (rw [e1] at e2; cases e2) <;> rfl
    obtain ⟨G', y1, y2, y3, y4, y5⟩ := r4.newSto cs xs el r2 r6
    refine upon_value r1 ⟨_, G', lam, rfl, r3.trans y1, ?_⟩
    rw [hd]
    refine y2.put (some d) (.val (.ptr t st.sto.length 0) false) _ fun d' hd' => ⟨?_, fun ho => by simp at ho⟩
    have hs : (st.clear (clearOf H o)).sto.length = st.sto.length := rfl
    rw [hs] at y3 y4 y5
    rw [← y4]
    exact .ptr _ _ _ (by omega) (y5.trans hel)
  · simp at hk

theorem eff_tupTake {o : Oper} {r i : Nat} (ha : act C H o st.regs = some (.tupTake r i)) {K : Out → Option Res} {res : Res}
    (hk : apply H call o.dst (st.clear (clearOf H o)) K (.tupTake r i) = some res) : ∃ out, K out = some res ∧ Sound1 P C o st out := by
  have ho := act_inv ha
  simp only at ho
  rw [noclear (by simp [clearOf, ho])] at hk
  simp only [apply] at hk
  split at hk
  · rename_i cs hcs
    split at hk
    · rename_i c hc
      refine ⟨_, hk, fun G lam a w h => ?_⟩
      have hr := eval_reg h r
      rw [hcs] at hr
      obtain ⟨xs, e1, e2, e3⟩ := hr
      have hi : i < xs.length := by rw [e2]; exact (List.getElem?_eq_some_iff.1 hc).1
      have hx : xs[i]? = some xs[i] := List.getElem?_eq_getElem hi
      have hcr := e3 i c _ hc hx
      have hrun : (execOp a.eval o).run P w = .ok (.value xs[i]) w := by
        simp [execOp, ho, e1, Instr.extract, hx]
      -- the token leaves the tuple
      have hI' : Inv C.glob G lam a w (st.setReg r (.tup (cs.set i (c.1, false)))) := by
        have := h.put none (.dead) undef (by simp)
        refine ⟨h.defers, by simp [St.setReg, h.len], by simp [St.setReg, h.lenl], fun r' x hx' => ?_, h.locs, h.sto⟩
        simp only [St.setReg, List.getElem?_set] at hx'
        split at hx'
        · rename_i hr'
          subst hr'
          split at hx'
          · obtain rfl := Option.some.inj hx'
            refine ⟨xs, e1, by simp [e2], fun j y v hy hv => ?_⟩
            rw [List.getElem?_set] at hy
            split at hy
            · rename_i hj
              subst hj
              split at hy
              · obtain rfl := Option.some.inj hy
                exact ⟨(e3 i c v hc hv).1, fun ho => by simp at ho⟩
              · simp at hy
            · exact e3 j y v hy hv
          · simp at hx'
        · exact h.regs r' x hx'
      obtain ⟨v, ow⟩ := c
      cases ow with
      | false => exact upon_value hrun ⟨_, G, lam, rfl, Ext.refl _ _, hI'.put o.dst _ _ fun d _ => ⟨hcr.1, fun ho => by simp at ho⟩⟩
      | true =>
        have hnf : ¬ St.flagged (st.setReg r (.tup (cs.set i (v, false)))) (.tup r i) := by
          rintro ⟨cs', v', hcs', hv'⟩
          simp only [St.setReg, List.getElem?_set, if_true] at hcs'
          split at hcs'
          · simp at hcs'
            subst hcs'
            rw [List.getElem?_set] at hv'
            simp at hv'
          · simp at hcs'
        obtain ⟨G', x1, x2, x3, x4⟩ := hI'.token (q := .reg (o.dst.getD 0)) (hcr.2 rfl) hnf (by simp) (by simp)
        refine upon_value hrun ⟨_, G', lam, rfl, x1, x2.put o.dst _ _ fun d hd => ⟨hcr.1.mono x1, fun _ => ?_⟩⟩
        rw [hd] at x3; exact x3
    · simp at hk
  · simp at hk

theorem eff_pan {o : Oper} {v : V} (ha : act C H o st.regs = some (.pan v)) {K : Out → Option Res} {res : Res}
    (hk : apply H call o.dst (st.clear (clearOf H o)) K (.pan v) = some res) : ∃ out, K out = some res ∧ Sound1 P C o st out := by
  obtain ⟨x, ho, hv, t, u, rfl⟩ := act_inv ha
  simp only [apply] at hk
  refine ⟨_, hk, fun G lam a w h => ?_⟩
  have hr := vk_rel h hv
  have hst : (st.clear (clearOf H o)).sto = st.sto := rfl
  generalize hc : a.eval x = c at hr
  cases hr with
  | iface _ _ c hu =>
    unfold Oper.wp
    have : (execOp a.eval o).run P w = .halt (.panic (.iface t c)) w := by
      simp [execOp, ho, hc, Instr.panic]
    rw [this]
    exact ⟨_, _, .iface t c, G, rfl, rfl, .iface _ _ _ hu, Ext.refl _ _, h.sto, h.defers⟩

/-- What is related stays so, whoever holds which block. -/
theorem rel_owner {G : Gh} {w : World} {v : V} {c : Value} (h : Rel G w v c) (o : Nat → Option Place) : Rel { G with owner := o } w v c := by
  induction h with
  | any c h => exact .any c h
  | bool b => exact .bool b
  | int k n => exact .int k n
  | str s => exact .str s
  | nilp => exact .nilp
  | ptr t b o hb ht => exact .ptr (G := { G with owner := _ }) t b o hb ht
  | eptr k e o b off cs h1 h2 h3 h4 _ ih => exact .eptr k e o b off cs h1 h2 h3 h4 ih
  | nils => exact .nils
  | snil k e => exact .snil k e
  | slice k et es b off c cs h1 h2 h3 h4 h5 h6 _ ih => exact .slice k et es b off c cs h1 h2 h3 h4 h5 h6 ih
  | func fn first cap f c h1 h2 _ _ ih1 ih2 => exact .func fn first cap f c h1 h2 ih1 ih2
  | nilFunc => exact .nilFunc
  | iface t v c _ ih => exact .iface t v c ih
  | nilIface => exact .nilIface
  | agg cs xs h1 h2 _ ih => exact .agg cs xs h1 h2 ih
  | lit c h => exact .lit c h

theorem own_all {v : V} {c : Value} (h : ∀ p, Own G w p v c) (G' : Gh) (w' : World) (q : Place) : Own G' w' q v c := by
  unfold Own at *
  split
  · rename_i k et es ad n cp
    obtain ⟨_, _, h0, _⟩ := h (.box 0)
    obtain ⟨_, _, h1, _⟩ := h (.box 1)
    rw [h0] at h1; simp at h1
  · exact h (.box 0)
  · trivial

/-- The registers of a call's arguments, by their places. -/
def argIdx : List Operand → Nat → Option Nat
  | [], _ => none
  | x :: xs, t => match x with
    | .tmp r => if r = t then some 0 else (argIdx xs t).map (· + 1)
    | _ => (argIdx xs t).map (· + 1)

theorem argIdx_lt : ∀ {l : List Operand} {t k : Nat}, argIdx l t = some k → k < l.length
  | [], _, _, h => by simp [argIdx] at h
  | x :: xs, t, k, h => by
    simp only [argIdx] at h
    have key : (argIdx xs t).map (· + 1) = some k → k < (x :: xs).length := by
      intro h
      obtain ⟨j, hj, rfl⟩ := Option.map_eq_some_iff.1 h
      have := argIdx_lt hj
      simp; omega
    cases x with
    | tmp r =>
      simp only at h
      split at h
      · simp at h; subst h; simp
      · exact key h
    | _ => exact key h

theorem argIdx_mem : ∀ {l : List Operand} {t k : Nat}, argIdx l t = some k → (l.flatMap tmpOf).contains t = true
  | [], _, _, h => by simp [argIdx] at h
  | x :: xs, t, k, h => by
    simp only [argIdx] at h
    have key : (argIdx xs t).map (· + 1) = some k → ((x :: xs).flatMap tmpOf).contains t = true := by
      intro h
      obtain ⟨j, hj, rfl⟩ := Option.map_eq_some_iff.1 h
      have := argIdx_mem hj
      simp only [List.contains_iff_mem] at this ⊢
      simp only [List.flatMap_cons, List.mem_append]
      exact .inr this
    cases x with
    | tmp r =>
      simp only at h
      split at h
      · rename_i hr
        simp [tmpOf, hr]
      · exact key h
    | _ => exact key h

theorem argIdx_of : ∀ {l : List Operand} {t k : Nat}, distinct (l.flatMap tmpOf) = true → l[k]? = some (.tmp t) → argIdx l t = some k
  | [], _, _, _, h => by simp at h
  | x :: xs, t, k, hd, h => by
    cases k with
    | zero =>
      simp at h
      subst h
      simp [argIdx]
    | succ k =>
      simp at h
      have hd' : distinct (xs.flatMap tmpOf) = true := by
        cases x with
        | tmp r => simp [tmpOf, distinct] at hd; exact hd.2
        | _ => simpa [tmpOf] using hd
      have ih := argIdx_of hd' h
      cases x with
      | tmp r =>
        have hne : r ≠ t := by
          rintro rfl
          have hm := argIdx_mem ih
          simp [tmpOf, distinct] at hd
          simp only [List.contains_iff_mem, List.mem_flatMap] at hm
          obtain ⟨y, hy, hty⟩ := hm
          exact hd.1 y hy hty
        simp [argIdx, hne, ih]
      | _ => simp [argIdx, ih]

/-- Who holds what while a callee runs. -/
def calleeOwner (o : Nat → Option Place) (args : List Operand) (n : Nat) : Nat → Option Place := fun i => match o i with
  | some (.blk b) => some (.blk b)
  | some (.gc b j) => some (.gc b j)
  | some (.reg t) => (argIdx args t).map fun k => .reg (n + k)
  | _ => none

/-- .. and when it has returned. -/
def backOwner (d n : Nat) : Option Place → Option Place
  | some (.blk b) => some (.blk b)
  | some (.gc b j) => some (.gc b j)
  | some (.res j) => some (if n = 1 then .reg d else .tup d j)
  | _ => none

theorem eff_call (hcall : CallOk P C call) {o : Oper} {f : FuncId} {args : List Cell} {n : Nat} (ha : act C H o st.regs = some (.call f args n)) {K : Out → Option Res} {res : Res}
    (hk : apply H call o.dst (st.clear (clearOf H o)) K (.call f args n) = some res) : ∃ out, K out = some res ∧ Sound1 P C o st out := by
  obtain ⟨c, g, gv, first, cap, as, ho, hb, hg, rfl, hsz, hdist, has, hargs, hn⟩ := act_inv ha
  have hcl : clearOf H o = c.args.toList.flatMap tmpOf := by simp [clearOf, ho, hb]
  simp only [apply] at hk
  have hsto : (st.clear (clearOf H o)).sto = st.sto := rfl
  rw [hsto] at hk
  cases hr : call f args st.sto with
  | none => rw [hr] at hk; simp at hk
  | some r =>
    rw [hr] at hk
    simp only at hk
    obtain ⟨hent, hcon⟩ := hcall f args st.sto r hr
    -- what is common to both ends
    have common : ∀ G lam a w, Inv C.glob G lam a w st → ∀ (K' : Act → World → Prop) (Q' : Exit → Act → World → Prop),
        (∀ en w' G' Gc, Gc = { G with owner := calleeOwner G.owner c.args.toList first.length } → Ext G w Gc w → Ext Gc w G' w' → SInv C.glob G' w' r.2 → EndRel G' w' r.1 en →
          match en with
          | .returned v => K' (a.put o.dst v) w'
          | .panicked chain => Q' (.panic chain) a w'
          | .outgrown => LetsOut Q') → o.wp P a w K' Q' := by
      intro G lam a w h K' Q' hfin
      have hgr := vk_rel h hg
      generalize hge : a.eval g = gval at hgr
      cases hgr with
      | func _ _ _ fv cv f1 f2 f3 f4 =>
        obtain ⟨k1, k2⟩ := argCells_rel h _ _ has
        let Gc : Gh := { G with owner := calleeOwner G.owner c.args.toList first.length }
        have hGcn : ∀ i, G.owner i = none → Gc.owner i = none := fun i hi => by simp [Gc, calleeOwner, hi]
        have hEc : Ext G w Gc w := ⟨Nat.le_refl _, fun _ _ => rfl, fun _ _ => rfl, fun _ => Nat.le_refl _, fun _ _ _ => rfl, rfl, rfl, rfl, Nat.le_refl _, fun i _ hi => ⟨rfl, rfl, hGcn i hi⟩⟩
        have hlz : (c.args.toList.zip c.argTypes.toList).length = c.args.size := by simp [hsz]
        have hlen : as.length = c.args.size := by rw [k1, hlz]
        have hS : SInv C.glob Gc w st.sto := by
          refine ⟨fun i hi => ⟨(h.sto.wf i hi).1, hGcn i (h.sto.wf i hi).2⟩, fun g cs hg => (h.sto.glob g cs hg).mono hEc, h.sto.N, h.sto.typed, fun b cs hbc => ?_⟩
          obtain ⟨cvv, el, g1, g2, g3, g4, g5⟩ := h.sto.blk b cs hbc
          refine ⟨cvv, el, g1, g2, by show calleeOwner G.owner _ _ (G.μ b) = _; simp [calleeOwner, g3], g4, fun j cc x hc hx => ?_⟩
          obtain ⟨e1, e2⟩ := g5 j cc x hc hx
          exact ⟨e1.move hEc fun _ i hi => ⟨rfl, rfl, by show calleeOwner _ _ _ _ = _; simp [calleeOwner, hi]⟩, e2⟩
        have hclean : Clean Gc args.length := by
          intro i p hp
          have hp' : calleeOwner G.owner c.args.toList first.length i = some p := hp
          unfold calleeOwner at hp'
          split at hp'
          · simp at hp'; exact .inl ⟨_, hp'.symm⟩
          · simp at hp'; exact .inr (.inl ⟨_, _, hp'.symm⟩)
          · obtain ⟨k, hk', rfl⟩ := Option.map_eq_some_iff.1 hp'
            refine .inr (.inr ⟨_, ?_, rfl⟩)
            have := argIdx_lt hk'
            rw [hargs]; simp [hlen]
            simp at this; omega
          · simp at hp'
        have hvals : (fv ++ c.args.toList.map a.eval ++ cv).length = args.length := by rw [hargs]; simp [f1, f2, hlen]
        have hcr : ∀ (i : Nat) cc x, args[i]? = some cc → (fv ++ c.args.toList.map a.eval ++ cv)[i]? = some x → CRel Gc w (.reg i) cc x := by
          intro i cc x hc hx
          rw [hargs] at hc
          by_cases c1 : i < first.length
          · rw [List.append_assoc, List.getElem?_append_left (by simpa using c1)] at hc
            rw [List.append_assoc, List.getElem?_append_left (by omega)] at hx
            rw [List.getElem?_map, Option.map_eq_some_iff] at hc
            obtain ⟨v, hv, rfl⟩ := hc
            exact ⟨(f3 i v x hv hx).mono hEc, fun ho => by simp at ho⟩
          · by_cases c2 : i < first.length + as.length
            · rw [List.getElem?_append_left (by simp; omega), List.getElem?_append_right (by simp; omega)] at hc
              rw [List.getElem?_append_left (by simp; omega), List.getElem?_append_right (by omega), f1] at hx
              simp only [List.length_map] at hc
              rw [List.getElem?_map, Option.map_eq_some_iff] at hx
              obtain ⟨y, hy, rfl⟩ := hx
              have hyi : i - first.length < c.argTypes.toList.length := by
                have := (List.getElem?_eq_some_iff.1 hy).1
                simp at this ⊢; omega
              have hz : (c.args.toList.zip c.argTypes.toList)[i - first.length]? = some (y, c.argTypes.toList[i - first.length]) := by
                rw [List.getElem?_zip_eq_some]
                exact ⟨hy, List.getElem?_eq_getElem hyi⟩
              obtain ⟨e1, e2⟩ := k2 _ cc _ hc hz
              refine ⟨e1.mono hEc, fun hoo => ?_⟩
              rcases e2 hoo with ⟨t, ht, e3⟩ | e3
              · simp only at ht e3
                subst ht
                refine e3.move fun j hj => ⟨rfl, rfl, ?_⟩
                show calleeOwner _ _ _ _ = _
                simp [calleeOwner, hj, argIdx_of hdist hy]
                omega
              · exact own_all e3 _ _ _
            · rw [List.getElem?_append_right (by simp; omega)] at hc
              rw [List.getElem?_append_right (by simp; omega)] at hx
              simp only [List.length_append, List.length_map] at hc hx
              rw [List.getElem?_map, Option.map_eq_some_iff] at hc
              obtain ⟨v, hv, rfl⟩ := hc
              refine ⟨(f4 _ v x hv ?_).mono hEc, fun ho => by simp at ho⟩
              rw [← hx]
              congr 1
              simp [f1, hlen]
        have hC := hcon Gc w _ hS hclean hvals hcr
        unfold Oper.wp
        have hrun : (execOp a.eval o).run P w = .ok (.enter f (fv ++ c.args.toList.map a.eval ++ cv).toArray) w := by
          have harr : fv.toArray ++ c.args.map a.eval ++ cv.toArray = (fv ++ c.args.toList.map a.eval ++ cv).toArray := by
            apply Array.ext'; simp
          simp [execOp, ho, resolve, hb, hge, Deferred.ofValue, invoke, hent]
        rw [hrun]
        exact hC.mono fun en w' ⟨G', x1, x2, x3⟩ => by
          have := hfin en w' G' Gc rfl hEc x1 x2 x3
          cases en <;> exact this
    cases hr1 : r.1 with
    | pan v =>
      rw [hr1] at hk
      simp only at hk
      refine ⟨_, hk, fun G lam a w h => common G lam a w h _ _ fun en w' G' Gc hGc e1 e2 e3 e4 => ?_⟩
      rw [hr1] at e4
      obtain ⟨cc, rfl, hcc⟩ := e4
      exact ⟨v, _, cc, G', rfl, rfl, hcc, e1.trans e2, e3, h.defers⟩
    | ret vs =>
      rw [hr1] at hk
      simp only at hk
      split at hk
      · rename_i hvn
        obtain ⟨x, hx, hk⟩ := bind2 hk
        refine ⟨_, hk, fun G lam a w h => common G lam a w h _ _ fun en w' G' Gc hGc e1 e2 e3 e4 => ?_⟩
        rw [hr1] at e4
        obtain ⟨cs, hcs, rfl, hrel⟩ := e4
        simp only
        -- the ghost behind the call
        let d := o.dst.getD 0
        let G2 : Gh := { G' with owner := fun i => if i < w.heap.size ∧ Gc.owner i = none then G.owner i else backOwner d n (G'.owner i) }
        have hGco : Gc.owner = calleeOwner G.owner c.args.toList first.length := by rw [hGc]
        have hGcl : Gc.lim = G.lim := by rw [hGc]
        have hGcm : Gc.μ = G.μ := by rw [hGc]
        have hGcN : Gc.N = G.N := by rw [hGc]
        have hGcn : ∀ i, G.owner i = none → Gc.owner i = none := fun i hi => by rw [hGco]; simp [calleeOwner, hi]
        have hE : Ext G w G2 w' := by
          have ht := e1.trans e2
          refine ⟨ht.N, ht.μ, ht.ty, ht.lim, ht.cell, ht.os, ht.tape, ht.output, ht.size, fun i hi ho' => ?_⟩
          obtain ⟨q1, q2, _⟩ := ht.old i hi ho'
          refine ⟨q1, q2, ?_⟩
          show (if i < w.heap.size ∧ Gc.owner i = none then G.owner i else _) = none
          rw [if_pos ⟨hi, hGcn i ho'⟩, ho']
        -- what is the frame's own stays
        have hloc : ∀ i p, G.owner i = some p → calleeOwner G.owner c.args.toList first.length i = none → w'.heap[i]? = w.heap[i]? ∧ G2.lim i = G.lim i ∧ G2.owner i = some p := by
          intro i p hp hco
          have hi := owner_lt h.sto.wf hp
          rw [← hGco] at hco
          obtain ⟨q1, q2, _⟩ := e2.old i hi hco
          refine ⟨q1, by show G'.lim i = _; rw [q2, hGcl], ?_⟩
          show (if i < w.heap.size ∧ Gc.owner i = none then G.owner i else _) = some p
          rw [if_pos ⟨hi, hco⟩, hp]
        let fl : Place → Prop := fun p => match p with
          | .reg t => (c.args.toList.flatMap tmpOf).contains t = false
          | .tup _ _ => True
          | .lc _ _ => True
          | .box _ => True
          | _ => False
        have hKeep : Keeps G w G2 w' fl := by
          refine ⟨fun i p hp hfl => hloc i p hp ?_⟩
          cases p with
          | reg t =>
            have hfl' : (c.args.toList.flatMap tmpOf).contains t = false := hfl
            have : argIdx c.args.toList t = none := by
              cases hai : argIdx c.args.toList t with
              | none => rfl
              | some k => rw [argIdx_mem hai] at hfl'; simp at hfl'
            simp [calleeOwner, hp, this]
          | tup => simp [calleeOwner, hp]
          | lc => simp [calleeOwner, hp]
          | box => simp [calleeOwner, hp]
          | gc => exact hfl.elim
          | blk => exact hfl.elim
          | res => exact hfl.elim
        -- what the callee's ghost says, read by the caller
        have hback : ∀ i p, G'.owner i = some p → G2.owner i = backOwner d n (some p) := by
          intro i p hp
          show (if i < w.heap.size ∧ Gc.owner i = none then G.owner i else _) = _
          rw [if_neg, hp]
          rintro ⟨q1, q2⟩
          obtain ⟨_, _, q3⟩ := e2.old i q1 q2
          rw [hp] at q3; simp at q3
        have hcrel : ∀ {p q : Place} {cc : Cell} {y : Value}, CRel G' w' p cc y → backOwner d n (some p) = some q → CRel G2 w' q cc y := by
          intro p q cc y hcc hpq
          exact ⟨rel_owner hcc.1 _, fun ho => (hcc.2 ho).move fun i hi => ⟨rfl, rfl, by rw [hback i p hi, hpq]⟩⟩
        have hS2 : SInv C.glob G2 w' r.2 := by
          refine ⟨fun i hi => ⟨(e3.wf i hi).1, ?_⟩, fun g cs hg => rel_owner (e3.glob g cs hg) _, e3.N, e3.typed, fun b cs hbc => ?_⟩
          · show (if i < w.heap.size ∧ Gc.owner i = none then G.owner i else _) = none
            rw [if_neg (by have := e2.size; omega), (e3.wf i hi).2]
            rfl
          · obtain ⟨cvv, el, g1, g2, g3, g4, g5⟩ := e3.blk b cs hbc
            exact ⟨cvv, el, g1, g2, by rw [hback _ _ g3]; rfl, g4, fun j cc x hc hx => ⟨hcrel (g5 j cc x hc hx).1 rfl, (g5 j cc x hc hx).2⟩⟩
        have hI := h.clear (clearOf H o)
        have hI2 : Inv C.glob G2 lam a w' { st.clear (clearOf H o) with sto := r.2 } := by
          refine ⟨h.defers, hI.len, hI.lenl, fun r' y hy => (hI.regs r' y hy).move hE hKeep (fun v hv => ?_) (fun _ _ _ _ _ => trivial), fun r' cs' hc hne => (hI.locs r' cs' hc hne).move hE hKeep trivial (fun _ _ _ => trivial), hS2⟩
          subst hv
          show (c.args.toList.flatMap tmpOf).contains r' = false
          cases hcon : (c.args.toList.flatMap tmpOf).contains r' with
          | false => rfl
          | true =>
            exfalso
            exact clear_not_flagged (st := st) (clearOf H o) r' (by rw [hcl]; exact hcon) ⟨v, hy⟩
        refine ⟨_, G2, lam, rfl, hE, hI2.put o.dst (resV H o.dst n vs) _ fun d' hd' => ?_⟩
        have hdd : d = d' := by show o.dst.getD 0 = d'; rw [hd']; rfl
        have hall := grd_some hx
        unfold toksOk at hall
        rw [List.all_eq_true] at hall
        generalize hx0 : resV H o.dst n vs = x
        have hx := hx0
        unfold resV at hx
        have hall' : ∀ i, i < n → tokF H o.dst i = true → (vs.getD i cellD).2 = true := by
          intro i hi hf
          have := hall i (List.mem_range.2 hi)
          simpa [hf] using this
        by_cases hn1 : n = 1
        · rw [if_pos hn1] at hx
          subst hx
          match vs, cs, hvn, hcs with
          | [c0], [x0], _, _ =>
            have := hrel 0 c0 x0 rfl rfl
            have hc := hcrel (q := .reg d) this (by simp [backOwner, hn1])
            rw [hdd] at hc
            refine ⟨hc.1, fun ho => hc.2 ?_⟩
            exact hall' 0 (by omega) ho
          | [], _, hvn, _ => simp at hvn; omega
          | _ :: _ :: _, _, hvn, _ => simp at hvn; omega
          | [_], [], _, hcs => simp at hcs
          | [_], _ :: _ :: _, _, hcs => simp at hcs
        · rw [if_neg hn1] at hx
          subst hx
          refine ⟨cs, ?_, by simp [hcs, hvn], fun i y v hy hv => ?_⟩
          · rw [dif_neg (by simp; omega)]
          · obtain ⟨hi, hy⟩ := List.getElem?_eq_some_iff.1 hy
            simp at hi hy
            subst hy
            have hiv : i < vs.length := by omega
            have hgd : vs.getD i cellD = vs[i] := getD_cell hiv
            have := hrel i vs[i] v (List.getElem?_eq_getElem hiv) hv
            have hc := hcrel (q := .tup d i) this (by simp [backOwner, hn1])
            rw [hdd] at hc
            rw [← hgd] at hc
            simp only [List.getD_eq_getElem?_getD] at hc hall'
            exact ⟨hc.1, fun ho => hc.2 (hall' i hi ho)⟩
      · simp at hk
end
end Go.Ab
