/- Without fuel: what a call comes to at any depth of fuel, as one function; a function's run over it is met at some depth. -/
import Derived.Test.YtifoglinlcfelaaDoorAbOp
import Derived.Test.YtifoglinlcfelaaDoorAbVal
import Derived.Orders
import Derived.KernelRfl
set_option linter.unusedSimpArgs false
set_option linter.unusedVariables false
set_option linter.deprecated false
section
namespace Go.Ab
section
variable {P : Program} {C : Ctx} {H : Hints} {call : CallF} {G : Gh} {lam : Nat → Nat} {a : Act} {w : World} {st : St}
theorem crel_alloc {p : Place} {c : Cell} {x : Value} (wf : WF G w) (h : CRel G w p c x) {G' : Gh} {o : Obj} (e : Ext G w G' (w.alloc o)) (hl : ∀ i, i < w.heap.size → G'.lim i = G.lim i ∧ G'.owner i = G.owner i) : CRel G' (w.alloc o) p c x :=
 h.move e fun _ i hi => by
  have := owner_lt wf hi
  obtain ⟨h1, h2⟩ := hl i this
  exact ⟨heap_alloc_lt this, h1, by rw [h2]; exact hi⟩
theorem Inv.newLoc (h : Inv C.glob G lam a w st) {d : Nat} (hno : ∀ (r : Nat) x, st.regs[r]? = some x → isLptr d x = false) (cs : List Cell) (xs : Array Value) (el : TypeId) (hl : xs.size = cs.length)
  (hx : ∀ (j : Nat) c x, cs[j]? = some c → xs[j]? = some x → CRel G w (.lc d j) c x ∧ x.oneCell' = true) :
  Ext G w (G.new w 0 (some (.box d))) (w.alloc (.cells xs el)) ∧ Inv C.glob (G.new w 0 (some (.box d))) (upd lam d w.heap.size) a (w.alloc (.cells xs el)) { st with locs := st.locs.set d cs } := by
 have hE := Ext.alloc h.sto.wf (.cells xs el) 0 (some (.box d))
 have hI := h.alloc (.cells xs el) 0 (some (.box d))
 refine ⟨hE, hI.defers, hI.len, by simpa using hI.lenl, fun r x hr => ?_, fun r cs' hc hne => ?_, hI.sto⟩
 ·have := hI.regs r x hr
  have hn := hno r x hr
  cases x with
  | lptr r' o' =>
   simp [isLptr] at hn
   simp only [RRel] at this ⊢
   rw [upd_other _ _ hn]
   exact this
  | dead => trivial
  | val v ow => exact this
  | tup cs => exact this
 ·simp only [List.getElem?_set] at hc
  split at hc
  ·rename_i hd
   subst hd
   split at hc
   ·obtain rfl := Option.some.inj hc
    rw [upd_same]
    refine ⟨xs, el, heap_alloc_new _ _, hl, by show upd G.owner _ _ _ = _; simp, by show upd G.lim _ _ _ = _; simp, fun j c x hc hx' => ?_⟩
    obtain ⟨e1, e2⟩ := hx j c x hc hx'
    exact ⟨crel_alloc h.sto.wf e1 hE fun i hi => ⟨upd_other _ _ (by omega), upd_other _ _ (by omega)⟩, e2⟩
   ·simp at hc
  ·rename_i hd
   rw [upd_other _ _ (fun hh => hd hh.symm)]
   exact hI.locs r cs' hc hne
theorem Inv.newSto (h : Inv C.glob G lam a w st) (cs : List Cell) (xs : Array Value) (el : TypeId) (hl : xs.size = cs.length)
  (hx : ∀ (j : Nat) c x, cs[j]? = some c → xs[j]? = some x → CRel G w (.gc st.sto.length j) c x ∧ x.oneCell' = true) :
  ∃ G', Ext G w G' (w.alloc (.cells xs el)) ∧ Inv C.glob G' lam a (w.alloc (.cells xs el)) { st with sto := st.sto ++ [cs] } ∧ G'.N = st.sto.length + 1 ∧ G'.μ st.sto.length = w.heap.size ∧ G'.ty st.sto.length = el := by
 let G1 := G.new w 0 (some (.blk st.sto.length))
 let G' : Gh := { G1 with N := st.sto.length + 1, μ := upd G.μ st.sto.length w.heap.size, ty := upd G.ty st.sto.length el }
 have hN := h.sto.N
 have hE0 := Ext.alloc h.sto.wf (.cells xs el) 0 (some (.blk st.sto.length))
 have hE : Ext G w G' (w.alloc (.cells xs el)) :=
  ⟨by show G.N ≤ st.sto.length + 1; omega, fun b hb => upd_other _ _ (by omega), fun b hb => upd_other _ _ (by omega), hE0.lim, hE0.cell, rfl, rfl, rfl, hE0.size, hE0.old⟩
 have hK : ∀ fl : Place → Prop, Keeps G w G' (w.alloc (.cells xs el)) fl := fun fl => ⟨fun i q hq _ => by
  have := owner_lt h.sto.wf hq
  exact ⟨heap_alloc_lt this, upd_other _ _ (by omega), by show upd G.owner _ _ i = _; rw [upd_other _ _ (by omega)]; exact hq⟩⟩
 have hWF : WF G' (w.alloc (.cells xs el)) := fun i hi => h.sto.wf.alloc (.cells xs el) 0 (some (.blk st.sto.length)) i hi
 refine ⟨G', hE, ⟨h.defers, h.len, h.lenl, fun r x hr => (h.regs r x hr).move hE (hK fun _ => True) (fun _ _ => trivial) (fun _ _ _ _ _ => trivial),
  fun r cs' hc hne => (h.locs r cs' hc hne).move hE (hK fun _ => True) trivial (fun _ _ _ => trivial), hWF, fun g cs hg => (h.sto.glob g cs hg).mono hE, by simp [G'], fun b hb => ?_, fun b cs' hb => ?_, h.sto.gsz.mono hE⟩, rfl, by simp [G'], by simp [G']⟩
 ·show ∃ cv fr, (w.alloc (.cells xs el)).heap[upd G.μ st.sto.length w.heap.size b]? = some (.cells cv (upd G.ty st.sto.length el b) fr)
  by_cases hlt : b < st.sto.length
  ·rw [upd_other _ _ (by omega), upd_other _ _ (by omega)]
   obtain ⟨cv, fr, q1⟩ := h.sto.typed b hlt
   obtain ⟨_, _, _, _, q3, _⟩ := h.sto.blk b st.sto[b] (List.getElem?_eq_getElem hlt)
   exact ⟨cv, fr, by rw [heap_alloc_lt (owner_lt h.sto.wf q3)]; exact q1⟩
  ·have hb0 : b = st.sto.length := by simp at hb; omega
   subst hb0
   rw [upd_same, upd_same]
   exact ⟨xs, _, heap_alloc_new _ _⟩
 by_cases hlt : b < st.sto.length
 ·rw [List.getElem?_append_left hlt] at hb
  show BlkOk G' _ (upd G.μ st.sto.length w.heap.size b) _ _ _
  rw [upd_other _ _ (by omega)]
  exact (h.sto.blk b cs' hb).move hE (hK fun _ => True) trivial (fun _ _ _ => trivial)
 ·rw [List.getElem?_append_right (by omega)] at hb
  have hb0 : b = st.sto.length := by
   have := (List.getElem?_eq_some_iff.1 hb).1
   simp at this; omega
  subst hb0
  simp at hb
  subst hb
  show BlkOk G' _ (upd G.μ st.sto.length w.heap.size st.sto.length) _ _ _
  rw [upd_same]
  refine ⟨xs, el, heap_alloc_new _ _, hl, by show upd G.owner _ _ _ = _; simp, by show upd G.lim _ _ _ = _; simp, fun j c x hc hx' => ?_⟩
  obtain ⟨e1, e2⟩ := hx j c x hc hx'
  exact ⟨crel_alloc h.sto.wf e1 hE fun i hi => ⟨upd_other _ _ (by omega), upd_other _ _ (by omega)⟩, e2⟩
theorem fresh_cells (hC : CtxOk P C) {o : Oper} {cs : List Cell} (h : Inv C.glob G lam a w st) (hc : (∃ t i, o.op = .alloc t ∧ C.T t = some i ∧ i.isTup = false ∧ cs = i.zero.map fun v => (v, v.isSl)) ∨ ∃ t x i c, o.op = .box t x ∧ C.T t = some i ∧ ck C st.regs t x = some c ∧ c.1.fits i.agg i.size = true ∧ cs = cellsO c.1 c.2 i.agg i.size) (q : Nat → Place) :
  ∃ xs el G1, (execOp a.eval o).run P w = .ok (.value (.pointer (some ⟨w.heap.size, 0, none⟩))) (w.alloc (.cells xs el)) ∧ xs.size = cs.length ∧ Ext G w G1 w ∧ Inv C.glob G1 lam a w (st.clear (clearOf H o)) ∧ G1.N = G.N ∧
   (∀ (j : Nat) c x, cs[j]? = some c → xs[j]? = some x → CRel G1 w (q j) c x ∧ x.oneCell' = true) ∧ (o.op = .alloc el ∨ ∃ x, o.op = .box el x) := by
 rcases hc with ⟨t, i, ho, hi, htup, rfl⟩ | ⟨t, x, i, c, ho, hi, hck, hf, rfl⟩
 ·have hT := hC.T t i hi
  rcases hT.zero with ⟨n, hn⟩ | ⟨info, z, e1, e2, e3, e4, e5⟩
  ·simp [TI.isTup, hn] at htup
  ·refine ⟨z.cells, t, G, ?_, by simp only [Array.length_toList] at e3; simp [e3], Ext.refl _ _, h.clear _, rfl, fun j c x hc hx => ?_, .inl ho⟩
   ·have hz : (zeroValue t).run P w = .ok z w := by simp [zeroValue, run_typeInfo_of e1, e2]
    simp [execOp, ho, Instr.alloc, hz, newVar, newRow]
   ·simp only [List.getElem?_map, Option.map_eq_some_iff] at hc
    obtain ⟨v, hv, rfl⟩ := hc
    obtain ⟨w1, w2, w3⟩ := zmatch_rel (e5 j v x hv (by simpa using hx)) G w
    exact ⟨⟨w1, fun _ => w2 _⟩, w3⟩
 ·have hcl : clearOf H o = tmpOf x := by simp [clearOf, ho]
  obtain ⟨G1, x1, x2, x3, x4, x5⟩ := take_token h hck hcl (q 0)
  obtain ⟨k1, k2, k3⟩ := cellsO_rel x3 hf q (fun h1 => x4 h1)
  refine ⟨(a.eval x).cells, t, G1, by simp [execOp, ho, Instr.box, newVar, newRow], by rw [k1]; simpa using k2, x1, x2, x5, fun j c x hc hx => k3 j c x hc (by simpa using hx), .inr ⟨x, ho⟩⟩
theorem eff_newL (hC : CtxOk P C) {o : Oper} {cs : List Cell} (ha : act C H o st.regs = some (.newL cs)) {K : Out → Option Res} {res : Res}
  (hk : apply H call o.dst (st.clear (clearOf H o)) K (.newL cs) = some res) : ∃ out, K out = some res ∧ Sound1 P C o st out := by
 have hinv := act_inv ha
 simp only [apply] at hk
 split at hk
 ·rename_i d hd
  split at hk
  ·rename_i hcond
   obtain ⟨hlt, hne, hall⟩ := hcond
   refine ⟨_, hk, fun G lam a w h => ?_⟩
   obtain ⟨xs, el, G1, r1, r2, r3, r4, r5, r6, _⟩ := fresh_cells (P := P) (H := H) hC h hinv (fun j => .lc d j)
   obtain ⟨y1, y2⟩ := r4.newLoc (d := d) (fun r x hx => by
    rw [List.all_eq_true] at hall
    have := hall x (List.mem_iff_getElem?.2 ⟨r, hx⟩)
    simpa using this) cs xs el r2 r6
   refine upon_value r1 ⟨_, _, upd lam d w.heap.size, rfl, r3.trans y1, ?_⟩
   rw [hd]
   exact y2.put (some d) (.lptr d 0) _ fun d' hd' => by simp [RRel]
  ·simp at hk
 ·simp at hk
theorem eff_newS (hC : CtxOk P C) {o : Oper} {t : TypeId} {cs : List Cell} (ha : act C H o st.regs = some (.newS t cs)) {K : Out → Option Res} {res : Res}
  (hk : apply H call o.dst (st.clear (clearOf H o)) K (.newS t cs) = some res) : ∃ out, K out = some res ∧ Sound1 P C o st out := by
 have hinv := act_inv ha
 simp only [apply] at hk
 split at hk
 ·rename_i d hd
  refine ⟨_, hk, fun G lam a w h => ?_⟩
  obtain ⟨xs, el, G1, r1, r2, r3, r4, r5, r6, r7⟩ := fresh_cells (P := P) (H := H) hC h hinv.1 (fun j => .gc st.sto.length j)
  have hel : el = t := by
   rcases hinv.2 with e1 | ⟨_, e1⟩ <;> rcases r7 with e2 | ⟨_, e2⟩ <;> (rw [e1] at e2; cases e2) <;> rfl
  obtain ⟨G', y1, y2, y3, y4, y5⟩ := r4.newSto cs xs el r2 r6
  refine upon_value r1 ⟨_, G', lam, rfl, r3.trans y1, ?_⟩
  rw [hd]
  refine y2.put (some d) (.val (.ptr t st.sto.length 0) false) _ fun d' hd' => ⟨?_, fun ho => by simp at ho⟩
  have hs : (st.clear (clearOf H o)).sto.length = st.sto.length := rfl
  rw [hs] at y3 y4 y5
  rw [← y4]
  exact .ptr _ _ _ (by omega) (y5.trans hel)
 ·simp at hk
theorem eff_tupTake {o : Oper} {r i : Nat} (ha : act C H o st.regs = some (.tupTake r i)) {K : Out → Option Res} {res : Res}
  (hk : apply H call o.dst (st.clear (clearOf H o)) K (.tupTake r i) = some res) : ∃ out, K out = some res ∧ Sound1 P C o st out := by
 have ho := act_inv ha
 simp only at ho
 rw [noclear (by simp [clearOf, ho])] at hk
 simp only [apply] at hk
 split at hk
 ·rename_i cs hcs
  split at hk
  ·rename_i c hc
   refine ⟨_, hk, fun G lam a w h => ?_⟩
   have hr := eval_reg h r
   rw [hcs] at hr
   obtain ⟨xs, e1, e2, e3⟩ := hr
   have hi : i < xs.length := by rw [e2]; exact (List.getElem?_eq_some_iff.1 hc).1
   have hx : xs[i]? = some xs[i] := List.getElem?_eq_getElem hi
   have hcr := e3 i c _ hc hx
   have hrun : (execOp a.eval o).run P w = .ok (.value xs[i]) w := by
    simp [execOp, ho, e1, Instr.extract, hx]
   -- the token leaves the tuple
   have hI' : Inv C.glob G lam a w (st.setReg r (.tup (cs.set i (c.1, false)))) := by
    have := h.put none (.dead) undef (by simp)
    refine ⟨h.defers, by simp [St.setReg, h.len], by simp [St.setReg, h.lenl], fun r' x hx' => ?_, h.locs, h.sto⟩
    simp only [St.setReg, List.getElem?_set] at hx'
    split at hx'
    ·rename_i hr'
     subst hr'
     split at hx'
     ·obtain rfl := Option.some.inj hx'
      refine ⟨xs, e1, by simp [e2], fun j y v hy hv => ?_⟩
      rw [List.getElem?_set] at hy
      split at hy
      ·rename_i hj
       subst hj
       split at hy
       ·obtain rfl := Option.some.inj hy
        exact ⟨(e3 i c v hc hv).1, fun ho => by simp at ho⟩
       ·simp at hy
      ·exact e3 j y v hy hv
     ·simp at hx'
    ·exact h.regs r' x hx'
   obtain ⟨v, ow⟩ := c
   cases ow with
   | false => exact upon_value hrun ⟨_, G, lam, rfl, Ext.refl _ _, hI'.put o.dst _ _ fun d _ => ⟨hcr.1, fun ho => by simp at ho⟩⟩
   | true =>
    have hnf : ¬ St.flagged (st.setReg r (.tup (cs.set i (v, false)))) (.tup r i) := by
     rintro ⟨cs', v', hcs', hv'⟩
     simp only [St.setReg, List.getElem?_set, if_true] at hcs'
     split at hcs'
     ·simp at hcs'
      subst hcs'
      rw [List.getElem?_set] at hv'
      simp at hv'
     ·simp at hcs'
    obtain ⟨G', x1, x2, x3, x4⟩ := hI'.token (q := .reg (o.dst.getD 0)) (hcr.2 rfl) hnf (by simp) (by simp)
    refine upon_value hrun ⟨_, G', lam, rfl, x1, x2.put o.dst _ _ fun d hd => ⟨hcr.1.mono x1, fun _ => ?_⟩⟩
    rw [hd] at x3; exact x3
  ·simp at hk
 ·simp at hk
theorem eff_pan {o : Oper} {v : V} (ha : act C H o st.regs = some (.pan v)) {K : Out → Option Res} {res : Res}
  (hk : apply H call o.dst (st.clear (clearOf H o)) K (.pan v) = some res) : ∃ out, K out = some res ∧ Sound1 P C o st out := by
 obtain ⟨x, ho, hv, t, u, rfl⟩ := act_inv ha
 simp only [apply] at hk
 refine ⟨_, hk, fun G lam a w h => ?_⟩
 have hr := vk_rel h hv
 have hst : (st.clear (clearOf H o)).sto = st.sto := rfl
 generalize hc : a.eval x = c at hr
 cases hr with
 | iface _ _ c hu =>
  unfold Oper.wp
  have : (execOp a.eval o).run P w = .halt (.panic (.iface t c)) w := by
   simp [execOp, ho, hc, Instr.panic]
  rw [this]
  exact ⟨_, _, .iface t c, G, rfl, rfl, .iface _ _ _ hu, Ext.refl _ _, h.sto, h.defers⟩
theorem rel_owner {G : Gh} {w : World} {v : V} {c : Value} (h : Rel G w v c) (o : Nat → Option Place) : Rel { G with owner := o } w v c := by
 induction h with
 | any c h => exact .any c h
 | bool b => exact .bool b
 | int k n => exact .int k n
 | str s => exact .str s
 | nilp => exact .nilp
 | ptr t b o hb ht => exact .ptr (G := { G with owner := _ }) t b o hb ht
 | eptr k e o b off cs h1 h2 h3 h4 _ ih => exact .eptr k e o b off cs h1 h2 h3 h4 ih
 | nils => exact .nils
 | snil k e => exact .snil k e
 | slice k et es b off c cs h1 h2 h3 h4 h5 h6 _ ih => exact .slice k et es b off c cs h1 h2 h3 h4 h5 h6 ih
 | func fn first cap f c h1 h2 _ _ ih1 ih2 => exact .func fn first cap f c h1 h2 ih1 ih2
 | nilFunc => exact .nilFunc
 | iface t v c _ ih => exact .iface t v c ih
 | nilIface => exact .nilIface
 | agg cs xs h1 h2 _ ih => exact .agg cs xs h1 h2 ih
 | lit c h => exact .lit c h
theorem own_all {v : V} {c : Value} (h : ∀ p, Own G w p v c) (G' : Gh) (w' : World) (q : Place) : Own G' w' q v c := by
 unfold Own at *
 split
 ·rename_i k et es ad n cp
  obtain ⟨_, _, h0, _⟩ := h (.box 0)
  obtain ⟨_, _, h1, _⟩ := h (.box 1)
  rw [h0] at h1; simp at h1
 ·exact h (.box 0)
 ·trivial
def argIdx : List Operand → Nat → Option Nat
  | [], _ => none
  | x :: xs, t => match x with
    | .tmp r => if r = t then some 0 else (argIdx xs t).map (· + 1)
    | _ => (argIdx xs t).map (· + 1)
theorem argIdx_lt : ∀ {l : List Operand} {t k : Nat}, argIdx l t = some k → k < l.length
  | [], _, _, h => by simp [argIdx] at h
  | x :: xs, t, k, h => by
    simp only [argIdx] at h
    have key : (argIdx xs t).map (· + 1) = some k → k < (x :: xs).length := by
      intro h
      obtain ⟨j, hj, rfl⟩ := Option.map_eq_some_iff.1 h
      have := argIdx_lt hj
      simp; omega
    cases x with
    | tmp r =>
      simp only at h
      split at h
      · simp at h; subst h; simp
      · exact key h
    | _ => exact key h
theorem argIdx_mem : ∀ {l : List Operand} {t k : Nat}, argIdx l t = some k → (l.flatMap tmpOf).contains t = true
  | [], _, _, h => by simp [argIdx] at h
  | x :: xs, t, k, h => by
    simp only [argIdx] at h
    have key : (argIdx xs t).map (· + 1) = some k → ((x :: xs).flatMap tmpOf).contains t = true := by
      intro h
      obtain ⟨j, hj, rfl⟩ := Option.map_eq_some_iff.1 h
      have := argIdx_mem hj
      simp only [List.contains_iff_mem] at this ⊢
      simp only [List.flatMap_cons, List.mem_append]
      exact .inr this
    cases x with
    | tmp r =>
      simp only at h
      split at h
      · rename_i hr
        simp [tmpOf, hr]
      · exact key h
    | _ => exact key h
theorem argIdx_of : ∀ {l : List Operand} {t k : Nat}, distinct (l.flatMap tmpOf) = true → l[k]? = some (.tmp t) → argIdx l t = some k
 | [], _, _, _, h => by simp at h
 | x :: xs, t, k, hd, h => by
  cases k with
  | zero =>
   simp at h
   subst h
   simp [argIdx]
  | succ k =>
   simp at h
   have hd' : distinct (xs.flatMap tmpOf) = true := by
    cases x with
    | tmp r => simp [tmpOf, distinct] at hd; exact hd.2
    | _ => simpa [tmpOf] using hd
   have ih := argIdx_of hd' h
   cases x with
   | tmp r =>
    have hne : r ≠ t := by
     rintro rfl
     have hm := argIdx_mem ih
     simp [tmpOf, distinct] at hd
     simp only [List.contains_iff_mem, List.mem_flatMap] at hm
     obtain ⟨y, hy, hty⟩ := hm
     exact hd.1 y hy hty
    simp [argIdx, hne, ih]
   | _ => simp [argIdx, ih]
def calleeOwner (o : Nat → Option Place) (args : List Operand) (n : Nat) : Nat → Option Place := fun i => match o i with
 | some (.blk b) => some (.blk b)
 | some (.gc b j) => some (.gc b j)
 | some (.reg t) => (argIdx args t).map fun k => .reg (n + k)
 | _ => none
def backOwner (d n : Nat) : Option Place → Option Place
 | some (.blk b) => some (.blk b)
 | some (.gc b j) => some (.gc b j)
 | some (.res j) => some (if n = 1 then .reg d else .tup d j)
 | _ => none
theorem eff_call (hcall : CallOk P C call) {o : Oper} {f : FuncId} {args : List Cell} {n : Nat} (ha : act C H o st.regs = some (.call f args n)) {K : Out → Option Res} {res : Res}
  (hk : apply H call o.dst (st.clear (clearOf H o)) K (.call f args n) = some res) : ∃ out, K out = some res ∧ Sound1 P C o st out := by
 obtain ⟨c, g, gv, first, cap, as, ho, hb, hg, rfl, hsz, hdist, has, hargs, hn⟩ := act_inv ha
 have hcl : clearOf H o = c.args.toList.flatMap tmpOf := by simp [clearOf, ho, hb]
 simp only [apply] at hk
 have hsto : (st.clear (clearOf H o)).sto = st.sto := rfl
 rw [hsto] at hk
 cases hr : call f args st.sto with
 | none => rw [hr] at hk; simp at hk
 | some r =>
  rw [hr] at hk
  simp only at hk
  obtain ⟨hent, hcon⟩ := hcall f args st.sto r hr
  -- what is common to both ends
  have common : ∀ G lam a w, Inv C.glob G lam a w st → ∀ (K' : Act → World → Prop) (Q' : Exit → Act → World → Prop),
    (∀ en w' G' Gc, Gc = { G with owner := calleeOwner G.owner c.args.toList first.length } → Ext G w Gc w → Ext Gc w G' w' → SInv C.glob G' w' r.2 → EndRel G' w' r.1 en →
     match en with
     | .returned v => K' (a.put o.dst v) w'
     | .panicked chain => Q' (.panic chain) a w'
     | .outgrown => LetsOut Q') → o.wp P a w K' Q' := by
   intro G lam a w h K' Q' hfin
   have hgr := vk_rel h hg
   generalize hge : a.eval g = gval at hgr
   cases hgr with
   | func _ _ _ fv cv f1 f2 f3 f4 =>
    obtain ⟨k1, k2⟩ := argCells_rel h _ _ has
    let Gc : Gh := { G with owner := calleeOwner G.owner c.args.toList first.length }
    have hGcn : ∀ i, G.owner i = none → Gc.owner i = none := fun i hi => by simp [Gc, calleeOwner, hi]
    have hEc : Ext G w Gc w := ⟨Nat.le_refl _, fun _ _ => rfl, fun _ _ => rfl, fun _ => Nat.le_refl _, fun _ _ _ => rfl, rfl, rfl, rfl, Nat.le_refl _, fun i _ hi => ⟨rfl, rfl, hGcn i hi⟩⟩
    have hlz : (c.args.toList.zip c.argTypes.toList).length = c.args.size := by simp [hsz]
    have hlen : as.length = c.args.size := by rw [k1, hlz]
    have hS : SInv C.glob Gc w st.sto := by
     refine ⟨fun i hi => ⟨(h.sto.wf i hi).1, hGcn i (h.sto.wf i hi).2⟩, fun g cs hg => (h.sto.glob g cs hg).mono hEc, h.sto.N, h.sto.typed, fun b cs hbc => ?_, h.sto.gsz.mono hEc⟩
     obtain ⟨cvv, el, g1, g2, g3, g4, g5⟩ := h.sto.blk b cs hbc
     refine ⟨cvv, el, g1, g2, by show calleeOwner G.owner _ _ (G.μ b) = _; simp [calleeOwner, g3], g4, fun j cc x hc hx => ?_⟩
     obtain ⟨e1, e2⟩ := g5 j cc x hc hx
     exact ⟨e1.move hEc fun _ i hi => ⟨rfl, rfl, by show calleeOwner _ _ _ _ = _; simp [calleeOwner, hi]⟩, e2⟩
    have hclean : Clean Gc args.length := by
     intro i p hp
     have hp' : calleeOwner G.owner c.args.toList first.length i = some p := hp
     unfold calleeOwner at hp'
     split at hp'
     ·simp at hp'; exact .inl ⟨_, hp'.symm⟩
     ·simp at hp'; exact .inr (.inl ⟨_, _, hp'.symm⟩)
     ·obtain ⟨k, hk', rfl⟩ := Option.map_eq_some_iff.1 hp'
      refine .inr (.inr ⟨_, ?_, rfl⟩)
      have := argIdx_lt hk'
      rw [hargs]; simp [hlen]
      simp at this; omega
     ·simp at hp'
    have hvals : (fv ++ c.args.toList.map a.eval ++ cv).length = args.length := by rw [hargs]; simp [f1, f2, hlen]
    have hcr : ∀ (i : Nat) cc x, args[i]? = some cc → (fv ++ c.args.toList.map a.eval ++ cv)[i]? = some x → CRel Gc w (.reg i) cc x := by
     intro i cc x hc hx
     rw [hargs] at hc
     by_cases c1 : i < first.length
     ·rw [List.append_assoc, List.getElem?_append_left (by simpa using c1)] at hc
      rw [List.append_assoc, List.getElem?_append_left (by omega)] at hx
      rw [List.getElem?_map, Option.map_eq_some_iff] at hc
      obtain ⟨v, hv, rfl⟩ := hc
      exact ⟨(f3 i v x hv hx).mono hEc, fun ho => by simp at ho⟩
     ·by_cases c2 : i < first.length + as.length
      ·rw [List.getElem?_append_left (by simp; omega), List.getElem?_append_right (by simp; omega)] at hc
       rw [List.getElem?_append_left (by simp; omega), List.getElem?_append_right (by omega), f1] at hx
       simp only [List.length_map] at hc
       rw [List.getElem?_map, Option.map_eq_some_iff] at hx
       obtain ⟨y, hy, rfl⟩ := hx
       have hyi : i - first.length < c.argTypes.toList.length := by
        have := (List.getElem?_eq_some_iff.1 hy).1
        simp at this ⊢; omega
       have hz : (c.args.toList.zip c.argTypes.toList)[i - first.length]? = some (y, c.argTypes.toList[i - first.length]) := by
        rw [List.getElem?_zip_eq_some]
        exact ⟨hy, List.getElem?_eq_getElem hyi⟩
       obtain ⟨e1, e2⟩ := k2 _ cc _ hc hz
       refine ⟨e1.mono hEc, fun hoo => ?_⟩
       rcases e2 hoo with ⟨t, ht, e3⟩ | e3
       ·simp only at ht e3
        subst ht
        refine e3.move fun j hj => ⟨rfl, rfl, ?_⟩
        show calleeOwner _ _ _ _ = _
        simp [calleeOwner, hj, argIdx_of hdist hy]
        omega
       ·exact own_all e3 _ _ _
      ·rw [List.getElem?_append_right (by simp; omega)] at hc
       rw [List.getElem?_append_right (by simp; omega)] at hx
       simp only [List.length_append, List.length_map] at hc hx
       rw [List.getElem?_map, Option.map_eq_some_iff] at hc
       obtain ⟨v, hv, rfl⟩ := hc
       refine ⟨(f4 _ v x hv ?_).mono hEc, fun ho => by simp at ho⟩
       rw [← hx]
       congr 1
       simp [f1, hlen]
    have hC := hcon Gc w _ hS hclean hvals hcr
    unfold Oper.wp
    have hrun : (execOp a.eval o).run P w = .ok (.enter f (fv ++ c.args.toList.map a.eval ++ cv).toArray) w := by
     have harr : fv.toArray ++ c.args.map a.eval ++ cv.toArray = (fv ++ c.args.toList.map a.eval ++ cv).toArray := by
      apply Array.ext'; simp
     simp [execOp, ho, resolve, hb, hge, Deferred.ofValue, invoke, hent]
    rw [hrun]
    exact hC.mono fun en w' ⟨G', x1, x2, x3⟩ => by
     have := hfin en w' G' Gc rfl hEc x1 x2 x3
     cases en <;> exact this
  cases hr1 : r.1 with
  | pan v =>
   rw [hr1] at hk
   simp only at hk
   refine ⟨_, hk, fun G lam a w h => common G lam a w h _ _ fun en w' G' Gc hGc e1 e2 e3 e4 => ?_⟩
   rw [hr1] at e4
   obtain ⟨cc, rfl, hcc⟩ := e4
   exact ⟨v, _, cc, G', rfl, rfl, hcc, e1.trans e2, e3, h.defers⟩
  | ret vs =>
   rw [hr1] at hk
   simp only at hk
   split at hk
   ·rename_i hvn
    obtain ⟨x, hx, hk⟩ := bind2 hk
    refine ⟨_, hk, fun G lam a w h => common G lam a w h _ _ fun en w' G' Gc hGc e1 e2 e3 e4 => ?_⟩
    rw [hr1] at e4
    obtain ⟨cs, hcs, rfl, hrel⟩ := e4
    simp only
    -- the ghost behind the call
    let d := o.dst.getD 0
    let G2 : Gh := { G' with owner := fun i => if i < w.heap.size ∧ Gc.owner i = none then G.owner i else backOwner d n (G'.owner i) }
    have hGco : Gc.owner = calleeOwner G.owner c.args.toList first.length := by rw [hGc]
    have hGcl : Gc.lim = G.lim := by rw [hGc]
    have hGcm : Gc.μ = G.μ := by rw [hGc]
    have hGcN : Gc.N = G.N := by rw [hGc]
    have hGcn : ∀ i, G.owner i = none → Gc.owner i = none := fun i hi => by rw [hGco]; simp [calleeOwner, hi]
    have hE : Ext G w G2 w' := by
     have ht := e1.trans e2
     refine ⟨ht.N, ht.μ, ht.ty, ht.lim, ht.cell, ht.os, ht.tape, ht.output, ht.size, fun i hi ho' => ?_⟩
     obtain ⟨q1, q2, _⟩ := ht.old i hi ho'
     refine ⟨q1, q2, ?_⟩
     show (if i < w.heap.size ∧ Gc.owner i = none then G.owner i else _) = none
     rw [if_pos ⟨hi, hGcn i ho'⟩, ho']
    -- what is the frame's own stays
    have hloc : ∀ i p, G.owner i = some p → calleeOwner G.owner c.args.toList first.length i = none → w'.heap[i]? = w.heap[i]? ∧ G2.lim i = G.lim i ∧ G2.owner i = some p := by
     intro i p hp hco
     have hi := owner_lt h.sto.wf hp
     rw [← hGco] at hco
     obtain ⟨q1, q2, _⟩ := e2.old i hi hco
     refine ⟨q1, by show G'.lim i = _; rw [q2, hGcl], ?_⟩
     show (if i < w.heap.size ∧ Gc.owner i = none then G.owner i else _) = some p
     rw [if_pos ⟨hi, hco⟩, hp]
    let fl : Place → Prop := fun p => match p with
     | .reg t => (c.args.toList.flatMap tmpOf).contains t = false
     | .tup _ _ => True
     | .lc _ _ => True
     | .box _ => True
     | _ => False
    have hKeep : Keeps G w G2 w' fl := by
     refine ⟨fun i p hp hfl => hloc i p hp ?_⟩
     cases p with
     | reg t =>
      have hfl' : (c.args.toList.flatMap tmpOf).contains t = false := hfl
      have : argIdx c.args.toList t = none := by
       cases hai : argIdx c.args.toList t with
       | none => rfl
       | some k => rw [argIdx_mem hai] at hfl'; simp at hfl'
      simp [calleeOwner, hp, this]
     | tup => simp [calleeOwner, hp]
     | lc => simp [calleeOwner, hp]
     | box => simp [calleeOwner, hp]
     | gc => exact hfl.elim
     | blk => exact hfl.elim
     | res => exact hfl.elim
    -- what the callee's ghost says, read by the caller
    have hback : ∀ i p, G'.owner i = some p → G2.owner i = backOwner d n (some p) := by
     intro i p hp
     show (if i < w.heap.size ∧ Gc.owner i = none then G.owner i else _) = _
     rw [if_neg, hp]
     rintro ⟨q1, q2⟩
     obtain ⟨_, _, q3⟩ := e2.old i q1 q2
     rw [hp] at q3; simp at q3
    have hcrel : ∀ {p q : Place} {cc : Cell} {y : Value}, CRel G' w' p cc y → backOwner d n (some p) = some q → CRel G2 w' q cc y := by
     intro p q cc y hcc hpq
     exact ⟨rel_owner hcc.1 _, fun ho => (hcc.2 ho).move fun i hi => ⟨rfl, rfl, by rw [hback i p hi, hpq]⟩⟩
    have hS2 : SInv C.glob G2 w' r.2 := by
     refine ⟨fun i hi => ⟨(e3.wf i hi).1, ?_⟩, fun g cs hg => rel_owner (e3.glob g cs hg) _, e3.N, e3.typed, fun b cs hbc => ?_, fun g cs hg => (by
      obtain ⟨k1, k2, k3⟩ := e3.gsz g cs hg
      refine ⟨?_, k2, k3⟩
      show (if g < w.heap.size ∧ Gc.owner g = none then G.owner g else _) = none
      split
      ·exact (h.sto.gsz g cs hg).1
      ·rw [k1]; rfl)⟩
     ·show (if i < w.heap.size ∧ Gc.owner i = none then G.owner i else _) = none
      rw [if_neg (by have := e2.size; omega), (e3.wf i hi).2]
      rfl
     ·obtain ⟨cvv, el, g1, g2, g3, g4, g5⟩ := e3.blk b cs hbc
      exact ⟨cvv, el, g1, g2, by rw [hback _ _ g3]; rfl, g4, fun j cc x hc hx => ⟨hcrel (g5 j cc x hc hx).1 rfl, (g5 j cc x hc hx).2⟩⟩
    have hI := h.clear (clearOf H o)
    have hI2 : Inv C.glob G2 lam a w' { st.clear (clearOf H o) with sto := r.2 } := by
     refine ⟨h.defers, hI.len, hI.lenl, fun r' y hy => (hI.regs r' y hy).move hE hKeep (fun v hv => ?_) (fun _ _ _ _ _ => trivial), fun r' cs' hc hne => (hI.locs r' cs' hc hne).move hE hKeep trivial (fun _ _ _ => trivial), hS2⟩
     subst hv
     show (c.args.toList.flatMap tmpOf).contains r' = false
     cases hcon : (c.args.toList.flatMap tmpOf).contains r' with
     | false => rfl
     | true =>
      exfalso
      exact clear_not_flagged (st := st) (clearOf H o) r' (by rw [hcl]; exact hcon) ⟨v, hy⟩
    refine ⟨_, G2, lam, rfl, hE, hI2.put o.dst (resV H o.dst n vs) _ fun d' hd' => ?_⟩
    have hdd : d = d' := by show o.dst.getD 0 = d'; rw [hd']; rfl
    have hall := grd_some hx
    unfold toksOk at hall
    rw [List.all_eq_true] at hall
    generalize hx0 : resV H o.dst n vs = x
    have hx := hx0
    unfold resV at hx
    have hall' : ∀ i, i < n → tokF H o.dst i = true → (vs.getD i cellD).2 = true := by
     intro i hi hf
     have := hall i (List.mem_range.2 hi)
     simpa [hf] using this
    by_cases hn1 : n = 1
    ·rw [if_pos hn1] at hx
     subst hx
     match vs, cs, hvn, hcs with
     | [c0], [x0], _, _ =>
      have := hrel 0 c0 x0 rfl rfl
      have hc := hcrel (q := .reg d) this (by simp [backOwner, hn1])
      rw [hdd] at hc
      refine ⟨hc.1, fun ho => hc.2 ?_⟩
      exact hall' 0 (by omega) ho
     | [], _, hvn, _ => simp at hvn; omega
     | _ :: _ :: _, _, hvn, _ => simp at hvn; omega
     | [_], [], _, hcs => simp at hcs
     | [_], _ :: _ :: _, _, hcs => simp at hcs
    ·rw [if_neg hn1] at hx
     subst hx
     refine ⟨cs, ?_, by simp [hcs, hvn], fun i y v hy hv => ?_⟩
     ·rw [dif_neg (by simp; omega)]
     ·obtain ⟨hi, hy⟩ := List.getElem?_eq_some_iff.1 hy
      simp at hi hy
      subst hy
      have hiv : i < vs.length := by omega
      have hgd : vs.getD i cellD = vs[i] := getD_cell hiv
      have := hrel i vs[i] v (List.getElem?_eq_getElem hiv) hv
      have hc := hcrel (q := .tup d i) this (by simp [backOwner, hn1])
      rw [hdd] at hc
      rw [← hgd] at hc
      simp only [List.getD_eq_getElem?_getD] at hc hall'
      exact ⟨hc.1, fun ho => hc.2 (hall' i hi ho)⟩
   ·simp at hk
end
end Go.Ab
end
section
namespace Go.Ab
section
variable {C : Ctx} {H : Hints} {call : CallF}
def Compat (H : Hints) (o : Oper) : Eff → Prop
 | .val _ => True
 | .getL r _ _ _ steal => (locF H o).has r = true ∧ (steal = true → (locW H o).has r = true)
 | .setL r _ _ => (locF H o).has r = true ∧ (locW H o).has r = true
 | .newL _ => wild H o = true
 | .getS .. => stoF H o = true
 | .tupTake r _ => r ∈ regW H o
 | _ => stoW H o = true
theorem opndT_lptr {regs : List RV} {t : TypeId} {y : Operand} {r of : Nat} (h : opndT C regs t y = .lptr r of) : ∃ a, y = .tmp a ∧ regs.getD a .dead = .lptr r of := by
 cases y with
 | tmp a => exact ⟨a, rfl, h⟩
 | const c => simp only [opndT] at h; split at h <;> (try split at h) <;> (try split at h) <;> simp at h
 | global g => simp only [opndT] at h; split at h <;> simp at h
 | func f => simp [opndT] at h
theorem locOf_has {a r of : Nat} {regs : List RV} (hc : addrCls H (.tmp a) = .loc) (hr : regs.getD a .dead = .lptr r of) (hk : (match assoc H.roots a with | some q => isRoot q (regs.getD a .dead) | none => true) = true) : (locOf H (.tmp a)).has r = true := by
 have hl : H.lp.contains a = true := by
  simp only [addrCls] at hc
  split at hc
  ·assumption
  ·split at hc <;> simp at hc
 simp only [locOf, hl, if_true]
 cases hq : assoc H.roots a with
 | none => rfl
 | some q =>
  rw [hq, hr] at hk
  simp [isRoot] at hk
  simp [LF.has, hk]
theorem act_compat {o : Oper} {e : Eff} {regs : List RV} (ha : act C H o regs = some e) (hk : rootOk H o regs = true) : Compat H o e := by
 have hi := act_inv ha
 cases e with
 | val x => trivial
 | getL r of n ag sl =>
  obtain ⟨t, y, i, ho, hT, hy, rfl, rfl, rfl⟩ := hi
  obtain ⟨a, rfl, hr⟩ := opndT_lptr hy
  simp only [act, ho] at ha
  obtain ⟨i', _, ha⟩ := bind2 ha
  simp only [rootOk, ho] at hk
  have hc : addrCls H (.tmp a) = .loc := by
   split at ha
   ·assumption
   ·obtain ⟨v, _, ha⟩ := bind2 ha; simp at ha
   ·split at ha
    ·split at ha <;> simp at ha
    ·simp at ha
   ·simp at ha
  have := locOf_has hc hr hk
  exact ⟨by simp only [locF, ho]; exact this, fun hs => by simp only [locW, ho, hs, if_true]; exact this⟩
 | setL r of cs =>
  obtain ⟨t, y, z, i, c, ho, hT, _, _, hy, rfl⟩ := hi
  obtain ⟨a, rfl, hr⟩ := opndT_lptr hy
  simp only [act, ho] at ha
  obtain ⟨i', _, ha⟩ := bind2 ha
  obtain ⟨c', _, ha⟩ := bind2 ha
  obtain ⟨u', _, ha⟩ := bind2 ha
  simp only [rootOk, ho] at hk
  have hc : addrCls H (.tmp a) = .loc := by
   split at ha
   ·assumption
   ·simp at ha
   ·simp at ha
  have := locOf_has hc hr hk
  exact ⟨by simp only [locF, ho]; exact this, by simp only [locW, ho]; exact this⟩
 | newL cs =>
  rcases hi with ⟨t, i, ho, _⟩ | ⟨t, x, i, c, ho, _⟩
  ·simp only [act, ho] at ha
   obtain ⟨i', _, ha⟩ := bind2 ha
   split at ha
   ·simp at ha
   ·split at ha
    ·simp at ha
    ·rename_i hne; simpa [Compat, wild, ho] using hne
  ·simp only [act, ho] at ha
   obtain ⟨i', _, ha⟩ := bind2 ha
   obtain ⟨c', _, ha⟩ := bind2 ha
   obtain ⟨u', _, ha⟩ := bind2 ha
   split at ha
   ·simp at ha
   ·rename_i hne; simpa [Compat, wild, ho] using hne
 | getS p n ag =>
  obtain ⟨t, y, i, ow, ho, _⟩ := hi
  simp only [act, ho] at ha
  obtain ⟨i', _, ha⟩ := bind2 ha
  split at ha
  ·simp at ha
  ·obtain ⟨v, _, ha⟩ := bind2 ha; simp at ha
  ·rename_i hc _
   simp [Compat, stoF, ho, hc]
  ·simp at ha
 | takeS p =>
  obtain ⟨t, y, i, ow, ho, _⟩ := hi
  simp only [act, ho] at ha
  obtain ⟨i', _, ha⟩ := bind2 ha
  split at ha
  ·simp at ha
  ·obtain ⟨v, _, ha⟩ := bind2 ha; simp at ha
  ·rename_i hc _
   split at ha
   ·rename_i hs
    simp only [Compat, stoW, ho, hc, hs]; rfl
   ·simp at ha
  ·simp at ha
 | setS p cs =>
  obtain ⟨t, y, z, i, c, ow, ho, _⟩ := hi
  simp only [act, ho] at ha
  obtain ⟨i', _, ha⟩ := bind2 ha
  obtain ⟨c', _, ha⟩ := bind2 ha
  obtain ⟨u', _, ha⟩ := bind2 ha
  split at ha
  ·simp at ha
  ·rename_i hc _
   simp only [Compat, stoW, ho, hc]; rfl
  ·simp at ha
 | newS t cs =>
  rcases hi with ⟨t, i, ho, _⟩ | ⟨t, x, i, c, ho, _⟩ <;> simp [Compat, stoW, ho]
 | tupTake r i =>
  simp only at hi
  simp [Compat, regW, hi, tmpOf]
 | call f args n =>
  obtain ⟨c, g, gv, first, cap, as, ho, hcal, _⟩ := hi
  simp [Compat, stoW, ho, hcal]
 | pan v =>
  obtain ⟨x, ho, _⟩ := hi
  simp [Compat, stoW, ho]
def applyF (H : Hints) (call : CallF) (dst : Option Nat) (st : St) : Eff → Option Out
 | .val x => some (.next (st.put dst x))
 | .getL r o n agg steal => if steal then
    (if o < (st.locs.getD r []).length ∧ n = 1 ∧ agg = false then
     (if ((st.locs.getD r []).getD o cellD).2 then some (.next ({ st with locs := st.locs.set r ((st.locs.getD r []).set o (((st.locs.getD r []).getD o cellD).1, false)) }.put dst (.val ((st.locs.getD r []).getD o cellD).1 true))) else none) else none)
   else (gather (st.locs.getD r []) o n agg).bind fun v => some (.next (st.put dst (.val v false)))
 | .setL r o cs => if o + cs.length ≤ (st.locs.getD r []).length then some (.next ({ st with locs := st.locs.set r (setCells (st.locs.getD r []) o cs) }.put dst .dead)) else none
 | .newL cs => match dst with
  | some d => if d < st.locs.length ∧ cs.length ≠ 0 ∧ (st.regs.all fun x => !isLptr d x) = true then some (.next ({ st with locs := st.locs.set d cs }.setReg d (.lptr d 0))) else none
  | none => none
 | .getS p n agg => (memGet st.sto p agg n).bind fun v => some (.next (st.put dst (.val v false)))
 | .takeS p => (memTake st.sto p).bind fun v => some (.next ({ st with sto := v.2 }.put dst (.val v.1 true)))
 | .setS p cs => (memSet st.sto p cs).bind fun σ => some (.next ({ st with sto := σ }.put dst .dead))
 | .newS t cs => match dst with
  | some d => some (.next ({ st with sto := st.sto ++ [cs] }.setReg d (.val (.ptr t st.sto.length 0) false)))
  | none => none
 | .tupTake r i => match st.regs.getD r .dead with
  | .tup cs => match cs[i]? with
   | some c => some (.next ((st.setReg r (.tup (cs.set i (c.1, false)))).put dst (.val c.1 c.2)))
   | none => none
  | _ => none
 | .call f args n => match call f args st.sto with
  | none => none
  | some r => match r.1 with
   | .ret vs => if vs.length = n then (grd (toksOk H dst n vs)).bind fun _ => some (.next ({ st with sto := r.2 }.put dst (resV H dst n vs))) else none
   | .pan v => some (.pan v { st with sto := r.2 })
 | .pan v => some (.pan v st)
theorem apply_eq (dst : Option Nat) (st : St) (K : Out → Option Res) (e : Eff) : apply H call dst st K e = (applyF H call dst st e).bind K := by
 cases e <;> simp only [apply, applyF] <;> (try rfl)
 case getL => split <;> (try split) <;> (try split) <;> (first | rfl | (cases gather _ _ _ _ <;> rfl))
 case setL => split <;> rfl
 case newL =>
  cases dst with
  | none => rfl
  | some d => simp only; split <;> rfl
 case getS => cases memGet _ _ _ _ <;> rfl
 case takeS => cases memTake _ _ <;> rfl
 case setS => cases memSet _ _ _ <;> rfl
 case newS => cases dst <;> rfl
 case tupTake r i =>
  cases st.regs.getD r .dead <;> try rfl
  rename_i cs
  simp only
  cases cs[i]? <;> rfl
 case call f args n =>
  cases call f args st.sto with
  | none => rfl
  | some r =>
   simp only
   cases r.1 with
   | pan v => rfl
   | ret vs =>
    simp only
    split
    ·cases grd (toksOk H dst n vs) <;> rfl
    ·rfl
def aopF (C : Ctx) (H : Hints) (call : CallF) (o : Oper) (st : St) : Option Out := (act C H o st.regs).bind fun e => applyF H call o.dst (st.clear (clearOf H o)) e
theorem aop_eq (o : Oper) (st : St) (K : Out → Option Res) : aop C H call o st K = (aopF C H call o st).bind K := by
 simp only [aop, aopF, actK_eq]
 cases act C H o st.regs with
 | none => rfl
 | some e => exact apply_eq _ _ _ _
structure Ag (rs : List Nat) (l : LF) (f : Bool) (s t : St) : Prop where
 lenr : s.regs.length = t.regs.length
 lenl : s.locs.length = t.locs.length
 regs : ∀ r, r ∈ rs → s.regs[r]? = t.regs[r]?
 locs : ∀ r, l.has r = true → s.locs[r]? = t.locs[r]?
 sto : f = true → s.sto = t.sto
structure Off (rs : List Nat) (l : LF) (f : Bool) (s t : St) : Prop where
 lenr : t.regs.length = s.regs.length
 lenl : t.locs.length = s.locs.length
 regs : ∀ r, r ∉ rs → t.regs[r]? = s.regs[r]?
 locs : ∀ r, l.has r = false → t.locs[r]? = s.locs[r]?
 sto : f = false → t.sto = s.sto
theorem Off.refl (rs : List Nat) (l : LF) (f : Bool) (s : St) : Off rs l f s s := ⟨rfl, rfl, fun _ _ => rfl, fun _ _ => rfl, fun _ => rfl⟩
theorem Ag.put {rs : List Nat} {l : LF} {f : Bool} {s t : St} (h : Ag rs l f s t) (dst : Option Nat) (x : RV) : Ag rs l f (s.put dst x) (t.put dst x) := by
 cases dst with
 | none => exact h
 | some d =>
  refine ⟨by simp [St.put, St.setReg, h.lenr], h.lenl, fun r hr => ?_, h.locs, h.sto⟩
  simp only [St.put, St.setReg, List.getElem?_set, h.lenr, h.regs r hr]
theorem Off.put {rs : List Nat} {l : LF} {f : Bool} {s t : St} (h : Off rs l f s t) (dst : Option Nat) (x : RV) (hd : ∀ d, dst = some d → d ∈ rs) : Off rs l f s (t.put dst x) := by
 cases dst with
 | none => exact h
 | some d =>
  refine ⟨by simp [St.put, St.setReg, h.lenr], h.lenl, fun r hr => ?_, h.locs, h.sto⟩
  have : d ≠ r := fun e => hr (e ▸ hd d rfl)
  simp only [St.put, St.setReg, List.getElem?_set_ne this, h.regs r hr]
theorem clearRegs_other (cs : List Nat) (r : Nat) (hr : r ∉ cs) : ∀ l : List RV, (clearRegs l cs)[r]? = l[r]? := by
 induction cs with
 | nil => intro l; rfl
 | cons c cs ih =>
  intro l
  rw [clearRegs, ih (fun h => hr (List.mem_cons_of_mem _ h))]
  have : c ≠ r := fun e => hr (e ▸ List.mem_cons_self ..)
  simp [List.getElem?_modify, this]
theorem clearRegs_same (cs : List Nat) (r : Nat) : ∀ l m : List RV, l[r]? = m[r]? → (clearRegs l cs)[r]? = (clearRegs m cs)[r]? := by
 induction cs with
 | nil => intro l m h; exact h
 | cons c cs ih =>
  intro l m h
  rw [clearRegs, clearRegs]
  refine ih _ _ ?_
  simp only [List.getElem?_modify, h]
theorem Ag.clear {rs : List Nat} {l : LF} {f : Bool} {s t : St} (h : Ag rs l f s t) (cs : List Nat) : Ag rs l f (s.clear cs) (t.clear cs) :=
 ⟨by simp only [St.clear, clearRegs_length]; exact h.lenr, h.lenl, fun r hr => clearRegs_same cs r _ _ (h.regs r hr), h.locs, h.sto⟩
theorem Off.clear {rs : List Nat} {l : LF} {f : Bool} {s t : St} (h : Off rs l f s t) (cs : List Nat) (hc : ∀ r ∈ cs, r ∈ rs) : Off rs l f s (t.clear cs) :=
 ⟨by simp only [St.clear, clearRegs_length]; exact h.lenr, h.lenl, fun r hr => by simp only [St.clear]; rw [clearRegs_other cs r (fun h => hr (hc r h))]; exact h.regs r hr, h.locs, h.sto⟩
theorem Ag.setLoc {rs : List Nat} {l : LF} {f : Bool} {s t : St} (h : Ag rs l f s t) (r : Nat) (x : List Cell) : Ag rs l f { s with locs := s.locs.set r x } { t with locs := t.locs.set r x } :=
 ⟨h.lenr, by simp [h.lenl], h.regs, fun r' hr => by simp only [List.getElem?_set, h.lenl, h.locs r' hr], h.sto⟩
theorem Off.setLoc {rs : List Nat} {l : LF} {f : Bool} {s t : St} (h : Off rs l f s t) (r : Nat) (x : List Cell) (hr : l.has r = true) : Off rs l f s { t with locs := t.locs.set r x } :=
 ⟨h.lenr, by simp [h.lenl], h.regs, fun r' hr' => by
  have : r ≠ r' := fun e => by rw [e, hr'] at hr; simp at hr
  simp only [List.getElem?_set_ne this, h.locs r' hr'], h.sto⟩
theorem Ag.setSto {rs : List Nat} {l : LF} {f : Bool} {s t : St} (h : Ag rs l f s t) (σ : Sto) : Ag rs l f { s with sto := σ } { t with sto := σ } := ⟨h.lenr, h.lenl, h.regs, h.locs, fun _ => rfl⟩
theorem Off.setSto {rs : List Nat} {l : LF} {f : Bool} {s t : St} (h : Off rs l f s t) (σ : Sto) (hf : f = true) : Off rs l f s { t with sto := σ } := ⟨h.lenr, h.lenl, h.regs, h.locs, fun h => by rw [hf] at h; simp at h⟩
theorem Ag.loc {rs : List Nat} {l : LF} {f : Bool} {s t : St} (h : Ag rs l f s t) {r : Nat} (hr : l.has r = true) : s.locs.getD r [] = t.locs.getD r [] := by
 rw [List.getD_eq_getElem?_getD, List.getD_eq_getElem?_getD, h.locs r hr]
theorem Ag.reg {rs : List Nat} {l : LF} {f : Bool} {s t : St} (h : Ag rs l f s t) {r : Nat} (hr : r ∈ rs) : s.regs.getD r .dead = t.regs.getD r .dead := by
 rw [List.getD_eq_getElem?_getD, List.getD_eq_getElem?_getD, h.regs r hr]
theorem stoF_of_stoW {o : Oper} (h : stoW H o = true) : stoF H o = true := by simp [stoF, h]
def Framed (rs ws : List Nat) (l lw : LF) (f fw : Bool) (s t : St) (out : Out) (step : Option Out) : Prop :=
 match out with
 | .next s1 => ∃ t1, step = some (.next t1) ∧ Ag rs l f s1 t1 ∧ Off ws lw fw s s1 ∧ Off ws lw fw t t1
 | .pan v s1 => fw = true ∧ f = true ∧ ∃ t1, step = some (.pan v t1) ∧ t1.sto = s1.sto
theorem applyF_frame {o : Oper} {e : Eff} (hk : Compat H o e) (hw : wild H o = false) {rs : List Nat} {s t s0 t0 : St} {out : Out} (hA : Ag rs (locF H o) (stoF H o) s t) (hrs : ∀ r ∈ regW H o, r ∈ rs)
  (hs : Off (regW H o) (locW H o) (stoW H o) s0 s) (ht : Off (regW H o) (locW H o) (stoW H o) t0 t) (h : applyF H call o.dst s e = some out) :
  Framed rs (regW H o) (locF H o) (locW H o) (stoF H o) (stoW H o) s0 t0 out (applyF H call o.dst t e) := by
 have hd : ∀ d, o.dst = some d → d ∈ regW H o := fun d hd => by simp [regW, hd]
 cases e with
 | val x =>
  simp only [applyF, Option.some.injEq] at h
  subst h
  exact ⟨_, rfl, hA.put _ _, hs.put _ _ hd, ht.put _ _ hd⟩
 | getL r of n ag sl =>
  obtain ⟨k1, k2⟩ := hk
  simp only [applyF] at h ⊢
  rw [← hA.loc k1]
  split at h
  ·rename_i hsl
   rw [if_pos hsl]
   split at h
   ·rename_i hc
    rw [if_pos hc]
    split at h
    ·rename_i hc2
     rw [if_pos hc2]
     simp only [Option.some.injEq] at h
     subst h
     exact ⟨_, rfl, (hA.setLoc _ _).put _ _, (hs.setLoc _ _ (k2 hsl)).put _ _ hd, (ht.setLoc _ _ (k2 hsl)).put _ _ hd⟩
    ·simp at h
   ·simp at h
  ·rename_i hsl
   rw [if_neg hsl]
   obtain ⟨v, hv, h⟩ := bind2 h
   simp only [Option.some.injEq] at h
   subst h
   rw [hv]
   exact ⟨_, rfl, hA.put _ _, hs.put _ _ hd, ht.put _ _ hd⟩
 | setL r of cs =>
  obtain ⟨k1, k2⟩ := hk
  simp only [applyF] at h ⊢
  rw [← hA.loc k1]
  split at h
  ·rename_i hc
   rw [if_pos hc]
   simp only [Option.some.injEq] at h
   subst h
   exact ⟨_, rfl, (hA.setLoc _ _).put _ _, (hs.setLoc _ _ k2).put _ _ hd, (ht.setLoc _ _ k2).put _ _ hd⟩
  ·simp at h
 | newL cs => simp only [Compat] at hk; rw [hk] at hw; simp at hw
 | getS p n ag =>
  simp only [Compat] at hk
  simp only [applyF] at h ⊢
  rw [← hA.sto hk]
  obtain ⟨v, hv, h⟩ := bind2 h
  simp only [Option.some.injEq] at h
  subst h
  rw [hv]
  exact ⟨_, rfl, hA.put _ _, hs.put _ _ hd, ht.put _ _ hd⟩
 | takeS p =>
  simp only [Compat] at hk
  simp only [applyF] at h ⊢
  rw [← hA.sto (stoF_of_stoW hk)]
  obtain ⟨v, hv, h⟩ := bind2 h
  simp only [Option.some.injEq] at h
  subst h
  rw [hv]
  exact ⟨_, rfl, (hA.setSto _).put _ _, (hs.setSto _ hk).put _ _ hd, (ht.setSto _ hk).put _ _ hd⟩
 | setS p cs =>
  simp only [Compat] at hk
  simp only [applyF] at h ⊢
  rw [← hA.sto (stoF_of_stoW hk)]
  obtain ⟨v, hv, h⟩ := bind2 h
  simp only [Option.some.injEq] at h
  subst h
  rw [hv]
  exact ⟨_, rfl, (hA.setSto _).put _ _, (hs.setSto _ hk).put _ _ hd, (ht.setSto _ hk).put _ _ hd⟩
 | newS t cs =>
  simp only [Compat] at hk
  simp only [applyF] at h ⊢
  rw [← hA.sto (stoF_of_stoW hk)]
  cases hds : o.dst with
  | none => rw [hds] at h; simp at h
  | some d =>
   rw [hds] at h
   simp only [Option.some.injEq] at h
   subst h
   exact ⟨_, rfl, (hA.setSto _).put (some d) _, (hs.setSto _ hk).put (some d) _ (by rw [← hds]; exact hd), (ht.setSto _ hk).put (some d) _ (by rw [← hds]; exact hd)⟩
 | tupTake r i =>
  simp only [Compat] at hk
  simp only [applyF] at h ⊢
  rw [← hA.reg (hrs r hk)]
  have hr : ∀ d, some r = some d → d ∈ regW H o := by rintro d ⟨⟩; exact hk
  split at h
  ·split at h
   ·simp only [Option.some.injEq] at h
    subst h
    exact ⟨_, rfl, (hA.put (some r) _).put _ _, (hs.put (some r) _ hr).put _ _ hd, (ht.put (some r) _ hr).put _ _ hd⟩
   ·simp at h
  ·simp at h
 | call f args n =>
  simp only [Compat] at hk
  simp only [applyF] at h ⊢
  rw [← hA.sto (stoF_of_stoW hk)]
  split at h
  ·simp at h
  ·rename_i r hr
   split at h
   ·rename_i vs hvs
    split at h
    ·rename_i hn
     obtain ⟨x, hx, h⟩ := bind2 h
     simp only [Option.some.injEq] at h
     subst h
     refine ⟨_, ?_, (hA.setSto r.2).put _ _, (hs.setSto _ hk).put _ _ hd, (ht.setSto _ hk).put _ _ hd⟩
     simp only [if_pos hn, hx, Option.bind_some]
    ·simp at h
   ·rename_i v hv
    simp only [Option.some.injEq] at h
    subst h
    exact ⟨hk, stoF_of_stoW hk, _, rfl, rfl⟩
 | pan v =>
  simp only [Compat] at hk
  simp only [applyF, Option.some.injEq] at h ⊢
  subst h
  exact ⟨hk, stoF_of_stoW hk, _, rfl, (hA.sto (stoF_of_stoW hk)).symm⟩
end
end Go.Ab
end
section
namespace Go.Ab
section
variable {P : Program} {C : Ctx} {H : Hints} {call : CallF}
theorem aop_sound (hC : CtxOk P C) (hcall : CallOk P C call) {o : Oper} {st : St} {K : Out → Option Res} {r : Res} (h : aop C H call o st K = some r) : ∃ out, K out = some r ∧ Sound1 P C o st out := by
 rw [aop, actK_eq] at h
 obtain ⟨e, he, hk⟩ := bind2 h
 cases e with
 | val x => exact ⟨_, hk, sound_val o x fun G lam a w hI => act_val hC he G lam a w hI⟩
 | getL r of n ag sl => exact eff_getL hC he hk
 | setL r of cs => exact eff_setL hC he hk
 | newL cs => exact eff_newL hC he hk
 | getS p n ag => exact eff_getS hC he hk
 | takeS p => exact eff_takeS hC he hk
 | setS p cs => exact eff_setS hC he hk
 | newS t cs => exact eff_newS hC he hk
 | tupTake r i => exact eff_tupTake he hk
 | call f args n => exact eff_call hcall he hk
 | pan v => exact eff_pan he hk
theorem wp_mono2 {o : Oper} {a : Act} {w : World} {K K' : Act → World → Prop} {Q Q' : Exit → Act → World → Prop} (h : o.wp P a w K Q) (hk : ∀ a w, K a w → K' a w) (hq : ∀ e a w, Q e a w → Q' e a w) : o.wp P a w K' Q' := by
 unfold Oper.wp at *
 generalize (execOp a.eval o).run P w = r at *
 have hl : LetsOut Q → LetsOut Q' := fun ⟨a, w, h⟩ => ⟨a, w, hq _ _ _ h⟩
 cases r with
 | ok x w' =>
  cases x <;> first | exact hk _ _ h | exact h.elim | skip
  ·refine Calls.mono h fun e w'' he => ?_
   cases e with
   | returned v => exact hk _ _ he
   | panicked chain => exact hq _ _ _ he
   | outgrown => exact hl he
  ·exact Rows.mono h fun v w'' hv => hk _ _ hv
 | halt x w' => cases x <;> first | exact hq _ _ _ h | exact h.elim
def OQ (C : Ctx) (G : Gh) (w : World) (out : Out) (e : Exit) (a' : Act) (w' : World) : Prop := (e = .normal ∧ NP C G w out a' w') ∨ QP C G w out e a' w'
theorem OQ.trans {G G1 : Gh} {w w1 : World} {out : Out} {e : Exit} {a' : Act} {w' : World} (x : Ext G w G1 w1) (h : OQ C G1 w1 out e a' w') : OQ C G w out e a' w' := by
 rcases h with ⟨h1, st', G', lam', h2, h3, h4⟩ | ⟨v, st', c, G', h1, h2, h3, h4, h5, h6⟩
 ·exact .inl ⟨h1, st', G', lam', h2, x.trans h3, h4⟩
 ·exact .inr ⟨v, st', c, G', h1, h2, h3, x.trans h4, h5, h6⟩
theorem wpOps_mono2 {ops : Array Oper} {Q Q' : Exit → Act → World → Prop} (hq : ∀ e a w, Q e a w → Q' e a w) : ∀ (l : List Nat) (a : Act) (w : World), wpOps P ops Q l a w → wpOps P ops Q' l a w
 | [], _, _, h => hq _ _ _ h
 | i :: rest, a, w, h => by
  simp only [wpOps] at *
  split
  ·rename_i hi
   rw [hi] at h
   exact wpOps_mono2 hq rest a w h
  ·rename_i o hi
   rw [hi] at h
   simp only at h
   split
   ·rename_i hw
    rw [if_pos hw] at h
    rcases h with h | ⟨h1, h2⟩
    ·exact .inl (wp_mono2 h (fun a w => wpOps_mono2 hq rest a w) hq)
    ·exact .inr ⟨h1, let ⟨a, w, h⟩ := h2; ⟨a, w, hq _ _ _ h⟩⟩
   ·rename_i hw
    rw [if_neg hw] at h
    exact wpOps_mono2 hq rest _ w h
def SoundN (P : Program) (C : Ctx) (ops : Array Oper) (l : List Nat) (st : St) (out : Out) : Prop :=
 ∀ G lam a w, Inv C.glob G lam a w st → wpOps P ops (OQ C G w out) l a w
theorem Inv.open {gl : Nat → Option (List V)} {G : Gh} {lam : Nat → Nat} {a : Act} {w : World} {st : St} (h : Inv gl G lam a w st) {d : Nat} {v : V} {ow : Bool} (hd : st.regs.getD d .dead = .val v ow) :
  Rel G w v (a.tmps.getD d undef) ∧ Inv gl G lam a w (st.setReg d (.val v false)) ∧ d < a.tmps.size := by
 have hlt : d < st.regs.length := by
  rcases Nat.lt_or_ge d st.regs.length with hh | hh
  ·exact hh
  ·rw [List.getD_eq_getElem?_getD, List.getElem?_eq_none hh] at hd; simp at hd
 have hg : st.regs[d]? = some (.val v ow) := by rw [List.getD_eq_getElem?_getD, List.getElem?_eq_getElem hlt] at hd; rw [List.getElem?_eq_getElem hlt]; simpa using hd
 have hr := h.regs d _ hg
 refine ⟨hr.1, ⟨h.defers, by simp [St.setReg, h.len], by simp [St.setReg, h.lenl], fun r x hx => ?_, h.locs, h.sto⟩, by rw [h.len]; exact hlt⟩
 simp only [St.setReg, List.getElem?_set] at hx
 split at hx
 ·rename_i hr'
  subst hr'
  obtain rfl := Option.some.inj hx
  exact ⟨hr.1, fun ho => by simp at ho⟩
 ·exact h.regs r x hx
theorem asBool_rel {v : V} {b : Bool} (h : v.asBool = some b) {G : Gh} {w : World} {c : Value} (hr : Rel G w v c) : c = .bool b := by
 rw [asBool_some h] at hr; exact rel_bool hr
theorem yielded_of {ops : Array Oper} {tmps : Array Value} {j d : Nat} {b : Bool} (hd : (ops[j]?).bind (·.dst) = some d) (hs : d < tmps.size) (hv : tmps.getD d undef = .bool b) : yielded ops tmps j = some b := by
 unfold yielded
 rw [hd]
 have : tmps[d]? = some (.bool b) := by
  rw [Array.getElem?_eq_getElem hs]
  rw [Array.getD_eq_getD_getElem?, Array.getElem?_eq_getElem hs] at hv
  simpa using hv
 simp [this]
theorem setReg_same {st : St} {d : Nat} {v : V} {ow b : Bool} (hd : st.regs.getD d .dead = .val v ow) (hb : v.asBool = some b) : st.setReg d (.val (.bool b) ow) = st := by
 rw [asBool_some hb] at hd
 have : st.regs.set d (.val (.bool b) ow) = st.regs := by
  apply List.ext_getElem?
  intro i
  rw [List.getElem?_set]
  split
  ·rename_i h
   subst h
   split
   ·rename_i hl
    rw [List.getD_eq_getElem?_getD, List.getElem?_eq_getElem hl] at hd
    rw [List.getElem?_eq_getElem hl]
    simp at hd
    rw [hd]
   ·rename_i hl
    rw [List.getElem?_eq_none (by omega)]
  ·rfl
 simp only [St.setReg, this]
def stepF (C : Ctx) (H : Hints) (call : CallF) (dr : Option (List (List Nat))) (ops : Array Oper) (i : Nat) (st : St) : Option Out := match ops[i]? with
 | none => none
 | some o => (grd (chkOk H dr o st.regs)).bind fun _ => match o.guard with
  | none => aopF C H call o st
  | some (j, want) => match (ops[j]?).bind (·.dst) with
   | none => none
   | some d => match st.regs.getD d .dead with
    | .val v _ => v.asBool.bind fun b => if b = want then aopF C H call o st else some (.next (st.put o.dst (.tup [])))
    | .tup [] => some (.next (st.put o.dst (.tup [])))
    | _ => none
def kstep (dr : Option (List (List Nat))) (i : Nat) (rest : List Nat) (go : St → Option Res) (K : Out → Option Res) : Out → Option Res := fun out => match out with
 | .next st => go st
 | .pan v st => (grd (panOk dr i rest)).bind fun _ => K (.pan v st)
theorem aops_cons (dr : Option (List (List Nat))) (ops : Array Oper) (i : Nat) (rest : List Nat) (st : St) (K : Out → Option Res) :
  aops C H call dr ops (i :: rest) st K = (stepF C H call dr ops i st).bind (kstep dr i rest (fun st => aops C H call dr ops rest st K) K) := by
 simp only [aops, stepF]
 cases hi : ops[i]? with
 | none => rfl
 | some o =>
  simp only
  cases grd (chkOk H dr o st.regs) with
  | none => rfl
  | some u =>
   simp only [Option.bind_some]
   cases hg : o.guard with
   | none => exact aop_eq _ _ _
   | some jw =>
    obtain ⟨j, want⟩ := jw
    simp only
    cases hd : (ops[j]?).bind (·.dst) with
    | none => rfl
    | some d =>
     simp only
     cases hv : st.regs.getD d .dead with
     | val v ow =>
      simp only
      cases hb : v.asBool with
      | none => rfl
      | some b =>
       simp only [Option.bind_some]
       have hs := setReg_same hv hb
       cases b with
       | true =>
        simp only [cond_true, hs]
        cases want with
        | true => simp only [if_true]; exact aop_eq _ _ _
        | false => rfl
       | false =>
        simp only [cond_false, hs]
        cases want with
        | true => rfl
        | false => simp only [Bool.false_eq_true, if_false, if_true]; exact aop_eq _ _ _
     | tup cs => cases cs <;> rfl
     | dead => rfl
     | lptr r o => rfl
theorem aopF_sound (hC : CtxOk P C) (hcall : CallOk P C call) {o : Oper} {st : St} {out : Out} (h : aopF C H call o st = some out) : Sound1 P C o st out := by
 classical
 let K : Out → Option Res := fun o' => if o' = out then some (.ret [], []) else none
 have h1 : aop C H call o st K = some (.ret [], []) := by rw [aop_eq, h]; simp [K]
 obtain ⟨o', h2, h3⟩ := aop_sound hC hcall h1
 have : o' = out := by
  simp only [K] at h2
  split at h2
  ·assumption
  ·simp at h2
 rw [← this]; exact h3
theorem stepF_sound (hC : CtxOk P C) (hcall : CallOk P C call) {dr : Option (List (List Nat))} {ops : Array Oper} {i : Nat} {st : St} {out : Out} (h : stepF C H call dr ops i st = some out) {G : Gh} {lam : Nat → Nat} {a : Act} {w : World} (hI : Inv C.glob G lam a w st) :
  ∃ o, ops[i]? = some o ∧ ((Region.wanted o (yielded ops a.tmps) = true ∧ o.wp P a w (NP C G w out) (QP C G w out)) ∨ (Region.wanted o (yielded ops a.tmps) = false ∧ NP C G w out (a.put o.dst undef) w)) := by
 simp only [stepF] at h
 split at h
 ·simp at h
 ·rename_i o hi
  refine ⟨o, hi, ?_⟩
  obtain ⟨_, _, h⟩ := bind2 h
  split at h
  ·rename_i hg
   exact .inl ⟨by simp [Region.wanted, hg], aopF_sound hC hcall h G lam a w hI⟩
  ·rename_i j want hg
   split at h
   ·simp at h
   ·rename_i d hd
    split at h
    ·rename_i v ow hv
     obtain ⟨b, hb, h2⟩ := bind2 h
     clear h
     have hopen : yielded ops a.tmps j = some b := by
      obtain ⟨h1, _, h2⟩ := hI.open hv
      exact yielded_of hd h2 (asBool_rel hb h1)
     split at h2
     ·rename_i hbw
      subst hbw
      exact .inl ⟨by simp [Region.wanted, hg, hopen], aopF_sound hC hcall h2 G lam a w hI⟩
     ·rename_i hbw
      obtain rfl := Option.some.inj h2
      refine .inr ⟨by simp [Region.wanted, hg, hopen, hbw], _, G, lam, rfl, Ext.refl _ _, hI.put o.dst (.tup []) undef fun _ _ => ⟨[], rfl, rfl, by simp⟩⟩
    ·rename_i hv
     have hy : yielded ops a.tmps j ≠ some want := by
      have hr := eval_reg hI d
      rw [hv] at hr
      obtain ⟨xs, hx, _⟩ := hr
      have hx : a.tmps.getD d undef = .tuple xs.toArray := hx
      unfold yielded
      rw [hd]
      simp only [Array.getD_eq_getD_getElem?] at hx
      cases hg2 : a.tmps[d]? with
      | none => simp [hg2]
      | some v => rw [hg2] at hx; simp only [Option.getD_some] at hx; subst hx; simp [hg2]
     obtain rfl := Option.some.inj h
     refine .inr ⟨by simp [Region.wanted, hg, hy], _, G, lam, rfl, Ext.refl _ _, hI.put o.dst (.tup []) undef fun _ _ => ⟨[], rfl, rfl, by simp⟩⟩
    ·simp at h
inductive Runs (C : Ctx) (H : Hints) (call : CallF) (dr : Option (List (List Nat))) (ops : Array Oper) : List Nat → St → Out → Prop
 | nil (st : St) : Runs C H call dr ops [] st (.next st)
 | next {i : Nat} {rest : List Nat} {st st1 : St} {out : Out} : stepF C H call dr ops i st = some (.next st1) → Runs C H call dr ops rest st1 out → Runs C H call dr ops (i :: rest) st out
 | pan {i : Nat} {rest : List Nat} {st st1 : St} {v : V} : stepF C H call dr ops i st = some (.pan v st1) → panOk dr i rest = true → Runs C H call dr ops (i :: rest) st (.pan v st1)
theorem aops_runs {dr : Option (List (List Nat))} {ops : Array Oper} : ∀ (l : List Nat) (st : St) (K : Out → Option Res) (r : Res), aops C H call dr ops l st K = some r → ∃ out, K out = some r ∧ Runs C H call dr ops l st out
 | [], st, K, r, h => ⟨.next st, h, .nil st⟩
 | i :: rest, st, K, r, h => by
  rw [aops_cons] at h
  obtain ⟨out1, h1, h2⟩ := bind2 h
  cases out1 with
  | next st1 =>
   obtain ⟨out, h3, h4⟩ := aops_runs rest st1 K r h2
   exact ⟨out, h3, .next h1 h4⟩
  | pan v st1 =>
   simp only [kstep] at h2
   obtain ⟨u, hu, h2⟩ := bind2 h2
   exact ⟨_, h2, .pan h1 (grd_some hu)⟩
theorem runs_sound (hC : CtxOk P C) (hcall : CallOk P C call) {dr : Option (List (List Nat))} {ops : Array Oper} {l : List Nat} {st : St} {out : Out} (h : Runs C H call dr ops l st out) : SoundN P C ops l st out := by
 induction h with
 | nil st => exact fun G lam a w hI => .inl ⟨rfl, st, G, lam, rfl, Ext.refl _ _, hI⟩
 | @next i rest st st1 out h1 h2 ih =>
  intro G lam a w hI
  obtain ⟨o, hi, hh⟩ := stepF_sound hC hcall h1 hI
  simp only [wpOps, hi]
  rcases hh with ⟨hw, hh⟩ | ⟨hw, st', G', lam', e1, e2, e3⟩
  ·rw [if_pos hw]
   refine .inl (wp_mono2 hh (fun a' w' hn => ?_) (fun e a' w' hq => ?_))
   ·obtain ⟨st', G', lam', e1, e2, e3⟩ := hn
    cases e1
    exact wpOps_mono2 (fun e a w => OQ.trans e2) rest a' w' (ih G' lam' a' w' e3)
   ·obtain ⟨v, st', c, G', e1, _⟩ := hq; cases e1
  ·rw [if_neg (by rw [hw]; simp)]
   cases e1
   exact wpOps_mono2 (fun e a w => OQ.trans e2) rest _ w (ih G' lam' _ w e3)
 | @pan i rest st st1 v h1 h2 =>
  intro G lam a w hI
  obtain ⟨o, hi, hh⟩ := stepF_sound hC hcall h1 hI
  simp only [wpOps, hi]
  rcases hh with ⟨hw, hh⟩ | ⟨hw, st', G', lam', e1, e2, e3⟩
  ·rw [if_pos hw]
   refine .inl (wp_mono2 hh (fun a' w' hn => ?_) (fun e a' w' hq => .inr hq))
   obtain ⟨st', G', lam', e1, e2, e3⟩ := hn
   cases e1
  ·cases e1
theorem aops_sound (hC : CtxOk P C) (hcall : CallOk P C call) {dr : Option (List (List Nat))} {ops : Array Oper} (l : List Nat) (st : St) (K : Out → Option Res) (r : Res) (h : aops C H call dr ops l st K = some r) : ∃ out, K out = some r ∧ SoundN P C ops l st out :=
 let ⟨out, h1, h2⟩ := aops_runs l st K r h
 ⟨out, h1, runs_sound hC hcall h2⟩
end
end Go.Ab
end
section
namespace Go.Ab
section
variable {P : Program} {C : Ctx} {H : Hints} {call : CallF} {T : List (List Nat)} {ops : Array Oper}
theorem mem_operands {o : Oper} {r : Nat} (h : Operand.tmp r ∈ o.op.operands.toList) : r ∈ regF H ops o :=
 List.mem_append_left _ (List.mem_append_left _ (List.mem_flatMap.2 ⟨_, h, by simp [tmpOf]⟩))
theorem mem_guard {o : Oper} {r : Nat} (h : r ∈ guardReg ops o) : r ∈ regF H ops o := List.mem_append_left _ (List.mem_append_right _ h)
theorem mem_regW {o : Oper} {r : Nat} (h : r ∈ regW H o) : r ∈ regF H ops o := List.mem_append_right _ h
theorem Ag.same {o : Oper} {l : LF} {f : Bool} {s t : St} (h : Ag (regF H ops o) l f s t) : SameOn o.op.operands.toList s.regs t.regs := fun _ hr => h.reg (mem_operands hr)
theorem rootOk_same {o : Oper} {s t : List RV} (h : SameOn o.op.operands.toList s t) : rootOk H o s = rootOk H o t := by
 unfold rootOk
 cases ho : o.op with
 | load ty a =>
  rw [ho] at h
  cases a with
  | tmp r => simp only; rw [h r (by simp [Op.operands])]
  | _ => rfl
 | store ty a x =>
  rw [ho] at h
  cases a with
  | tmp r => simp only; rw [h r (by simp [Op.operands])]
  | _ => rfl
 | _ => rfl
theorem clear_regW {o : Oper} {r : Nat} (h : r ∈ clearOf H o) : r ∈ regW H o := List.mem_append_left _ (List.mem_append_right _ h)
theorem aopF_frame {o : Oper} {s t : St} {out : Out} (hk : rootOk H o s.regs = true) (hw : wild H o = false) (hA : Ag (regF H ops o) (locF H o) (stoF H o) s t) (h : aopF C H call o s = some out) :
  Framed (regF H ops o) (regW H o) (locF H o) (locW H o) (stoF H o) (stoW H o) s t out (aopF C H call o t) := by
 obtain ⟨e, he, h⟩ := bind2 h
 have he2 : act C H o t.regs = some e := by rw [← act_same o hA.same]; exact he
 have := applyF_frame (act_compat he hk) hw (hA.clear (clearOf H o)) (fun r hr => mem_regW hr) ((Off.refl _ _ _ s).clear _ fun r hr => clear_regW hr) ((Off.refl _ _ _ t).clear _ fun r hr => clear_regW hr) h
 simp only [aopF, he2, Option.bind_some]
 exact this
theorem stepF_frame {i : Nat} {o : Oper} (hi : ops[i]? = some o) {s t : St} {out : Out} (hw : wild H o = false) (hA : Ag (regF H ops o) (locF H o) (stoF H o) s t) (h : stepF C H call (some T) ops i s = some out) :
  Framed (regF H ops o) (regW H o) (locF H o) (locW H o) (stoF H o) (stoW H o) s t out (stepF C H call (some T) ops i t) := by
 simp only [stepF, hi] at h ⊢
 obtain ⟨u, hu, h⟩ := bind2 h
 have hk : rootOk H o s.regs = true := grd_some hu
 have hk2 : grd (chkOk H (some T) o t.regs) = some () := by
  show grd (rootOk H o t.regs) = _
  rw [← rootOk_same hA.same, hk]; rfl
 simp only [hk2, Option.bind_some]
 cases hg : o.guard with
 | none =>
  rw [hg] at h
  exact aopF_frame hk hw hA h
 | some jw =>
  obtain ⟨j, want⟩ := jw
  rw [hg] at h
  simp only at h ⊢
  cases hd : (ops[j]?).bind (·.dst) with
  | none => rw [hd] at h; simp at h
  | some d =>
   rw [hd] at h
   simp only at h ⊢
   rw [← hA.reg (mem_guard (by simp [guardReg, hg, hd]))]
   split at h
   ·obtain ⟨b, hb, h⟩ := bind2 h
    simp only [hb, Option.bind_some]
    by_cases hbw : b = want
    ·rw [if_pos hbw] at h ⊢
     exact aopF_frame hk hw hA h
    ·rw [if_neg hbw] at h ⊢
     obtain rfl := Option.some.inj h
     exact ⟨_, rfl, hA.put _ _, (Off.refl _ _ _ s).put _ _ fun d hd => by simp [regW, hd], (Off.refl _ _ _ t).put _ _ fun d hd => by simp [regW, hd]⟩
   ·obtain rfl := Option.some.inj h
    exact ⟨_, rfl, hA.put _ _, (Off.refl _ _ _ s).put _ _ fun d hd => by simp [regW, hd], (Off.refl _ _ _ t).put _ _ fun d hd => by simp [regW, hd]⟩
   ·simp at h
theorem Ag.refl (rs : List Nat) (l : LF) (f : Bool) (s : St) : Ag rs l f s s := ⟨rfl, rfl, fun _ _ => rfl, fun _ _ => rfl, fun _ => rfl⟩
theorem meets_has {a b : LF} {r : Nat} (h : a.meets b = false) (ha : a.has r = true) : b.has r = false := by
 cases a <;> cases b <;> simp_all [LF.meets, LF.has]
 intro e; exact h e.symm
theorem has_meets {a b : LF} {r : Nat} (h : a.meets b = false) (hb : b.has r = true) : a.has r = false := by
 cases ha : a.has r with
 | false => rfl
 | true => rw [meets_has h ha] at hb; simp at hb
theorem locW_locF {o : Oper} {r : Nat} (h : (locW H o).has r = true) : (locF H o).has r = true := by
 unfold locW at h; unfold locF
 split at h
 ·split at h
  ·exact h
  ·simp [LF.has] at h
 ·exact h
 ·simp [LF.has] at h
theorem apart_not {xs ys : List Nat} (h : apart xs ys = true) {r : Nat} (hx : r ∈ xs) : r ∉ ys := by
 simp only [apart, List.all_eq_true] at h
 have := h r hx
 simpa using this
theorem Off.ag {rs ws : List Nat} {l lw : LF} {f fw : Bool} {s t : St} (h : Off ws lw fw s t) (h1 : apart ws rs = true) (h2 : lw.meets l = false) (h3 : (fw && f) = false) : Ag rs l f s t where
 lenr := h.lenr.symm
 lenl := h.lenl.symm
 regs r hr := (h.regs r fun hw => apart_not h1 hw hr).symm
 locs r hr := (h.locs r (has_meets h2 hr)).symm
 sto hf := (h.sto (by rw [hf] at h3; simpa using h3)).symm
theorem Ag.symm {rs : List Nat} {l : LF} {f : Bool} {s t : St} (h : Ag rs l f s t) : Ag rs l f t s := ⟨h.lenr.symm, h.lenl.symm, fun r hr => (h.regs r hr).symm, fun r hr => (h.locs r hr).symm, fun hf => (h.sto hf).symm⟩
theorem swap {i j : Nat} {x y : Oper} (hi : ops[i]? = some x) (hj : ops[j]? = some y) (hind : indep H ops x y = true) {s s1 : St} {out : Out} (h1 : stepF C H call (some T) ops i s = some (.next s1)) (h2 : stepF C H call (some T) ops j s1 = some out) :
  match out with
  | .next s2 => ∃ s1', stepF C H call (some T) ops j s = some (.next s1') ∧ stepF C H call (some T) ops i s1' = some (.next s2)
  | .pan v s2 => ∃ s1', stepF C H call (some T) ops j s = some (.pan v s1') ∧ s1'.sto = s2.sto := by
 simp only [indep, Bool.and_eq_true, Bool.not_eq_true'] at hind
 obtain ⟨⟨⟨⟨⟨⟨⟨wx, wy⟩, rxy⟩, ryx⟩, lxy⟩, lyx⟩, sxy⟩, syx⟩ := hind
 obtain ⟨_, _, _, ox, _⟩ := stepF_frame hi wx (Ag.refl _ _ _ s) h1
 have fy := stepF_frame hj wy (ox.ag rxy lxy sxy).symm h2
 cases out with
 | pan v s2 =>
  obtain ⟨_, _, t1, e1, e2⟩ := fy
  exact ⟨t1, e1, e2⟩
 | next s2 =>
  obtain ⟨s1', e1, ay, oy, oy'⟩ := fy
  obtain ⟨s2', e2, ax, ox2, ox'⟩ := stepF_frame hi wx (oy'.ag ryx lyx syx) h1
  refine ⟨s1', e1, ?_⟩
  have hsame : s2' = s2 := by
   have hr : s2'.regs = s2.regs := by
    apply List.ext_getElem?
    intro r
    by_cases hx : r ∈ regW H x
    ·have hny : r ∉ regW H y := fun hy => apart_not rxy hx (mem_regW hy)
     rw [← ax.regs r (mem_regW hx), oy.regs r hny]
    ·rw [ox'.regs r hx]
     by_cases hy : r ∈ regW H y
     ·rw [ay.regs r (mem_regW hy)]
     ·rw [oy'.regs r hy, oy.regs r hy, ox.regs r hx]
   have hl : s2'.locs = s2.locs := by
    apply List.ext_getElem?
    intro r
    cases hx : (locW H x).has r with
    | true =>
     have hny : (locW H y).has r = false := by
      cases hh : (locW H y).has r with
      | false => rfl
      | true => have h3 := meets_has lxy hx; rw [locW_locF hh] at h3; simp at h3
     rw [← ax.locs r (locW_locF hx), oy.locs r hny]
    | false =>
     rw [ox'.locs r hx]
     cases hy : (locW H y).has r with
     | true => rw [ay.locs r (locW_locF hy)]
     | false => rw [oy'.locs r hy, oy.locs r hy, ox.locs r hx]
   have hs : s2'.sto = s2.sto := by
    cases hx : stoW H x with
    | true =>
     have hny : stoW H y = false := by
      cases hh : stoW H y with
      | false => rfl
      | true => rw [hx, stoF_of_stoW hh] at sxy; simp at sxy
     rw [← ax.sto (stoF_of_stoW hx), oy.sto hny]
    | false =>
     rw [ox'.sto hx]
     cases hy : stoW H y with
     | true => rw [ay.sto (stoF_of_stoW hy)]
     | false => rw [oy'.sto hy, oy.sto hy, ox.sto hx]
   obtain ⟨a1, a2, a3⟩ := s2'
   obtain ⟨b1, b2, b3⟩ := s2
   simp only at hr hl hs
   rw [hr, hl, hs]
  rw [← hsame]; exact e2
theorem bubble {i : Nat} {B : List Nat} {out : Out} : ∀ (A : List Nat) (s : St), Runs C H call (some T) ops (A ++ i :: B) s out → (∀ j ∈ A, indepAt H ops j i = true ∧ (T.getD i []).contains j = false) →
  (∃ s1, stepF C H call (some T) ops i s = some (.next s1) ∧ Runs C H call (some T) ops (A ++ B) s1 out) ∨ ∃ v s1 s2, stepF C H call (some T) ops i s = some (.pan v s1) ∧ out = .pan v s2 ∧ s1.sto = s2.sto
 | [], s, h, _ => by
  cases h with
  | next h1 h2 => exact .inl ⟨_, h1, h2⟩
  | pan h1 h2 => exact .inr ⟨_, _, _, h1, rfl, rfl⟩
 | j :: A, s, h, hA => by
  obtain ⟨hind, hnot⟩ := hA j (List.mem_cons_self ..)
  cases h with
  | pan h1 h2 =>
   simp only [panOk, List.all_eq_true] at h2
   have := h2 i (by simp)
   rw [hnot] at this
   simp at this
  | @next _ _ _ st1 _ h1 h2 =>
   unfold indepAt at hind
   split at hind
   ·rename_i x y hj hi
    rcases bubble A st1 h2 fun k hk => hA k (List.mem_cons_of_mem _ hk) with ⟨s2, e1, e2⟩ | ⟨v, s2, s3, e1, e2, e3⟩
    ·obtain ⟨s1', f1, f2⟩ := swap hj hi hind h1 e1
     exact .inl ⟨s1', f1, .next f2 e2⟩
    ·obtain ⟨s1', f1, f2⟩ := swap hj hi hind h1 e1
     exact .inr ⟨v, s1', s3, f1, e2, f2.trans e3⟩
   ·simp at hind
structure Good (H : Hints) (T : List (List Nat)) (ops : Array Oper) (listed : Array Bool) (L : List Nat) : Prop where
 size : listed.size = ops.size
 mem : ∀ i, i ∈ L ↔ listed.getD i true = false
 nodup : L.Nodup
 pw : L.Pairwise fun i j => j ∉ edgesAt ops i ∧ ((T.getD j []).contains i = true ∨ indepAt H ops i j = true)
 closed : ∀ k, listed.getD k false = true → ∀ j ∈ edgesAt ops k, listed.getD j false = true
def TOkA (T : List (List Nat)) (ops : Array Oper) : Prop := ∀ S : Nat → Prop, (∀ k, S k → ∀ j ∈ edgesAt ops k, S j) → ∀ i, (∀ k ∈ edgesAt ops i, S k) → ∀ j ∈ T.getD i [], S j
theorem mem_addAll : ∀ (xs acc : List Nat) (j : Nat), j ∈ addAll xs acc → j ∈ xs ∨ j ∈ acc
 | [], _, _, h => .inr h
 | x :: xs, acc, j, h => by
  simp only [addAll] at h
  split at h
  ·rcases mem_addAll xs acc j h with h | h
   ·exact .inl (List.mem_cons_of_mem _ h)
   ·exact .inr h
  ·rcases mem_addAll xs _ j h with h | h
   ·exact .inl (List.mem_cons_of_mem _ h)
   ·rcases List.mem_cons.1 h with h | h
    ·exact .inl (h ▸ List.mem_cons_self ..)
    ·exact .inr h
theorem ancs_go {S : Nat → Prop} (hS : ∀ k, S k → ∀ j ∈ edgesAt ops k, S j) : ∀ (rest : List Oper) (T : List (List Nat)), (∀ n o, rest[n]? = some o → ops[T.length + n]? = some o) → (∀ i, (∀ k ∈ edgesAt ops i, S k) → ∀ j ∈ T.getD i [], S j) →
  ∀ i, (∀ k ∈ edgesAt ops i, S k) → ∀ j ∈ (ancs rest T).getD i [], S j
 | [], T, _, hT => hT
 | o :: rest, T, hr, hT => by
  simp only [ancs]
  refine ancs_go hS rest _ (fun n o' hn => ?_) fun i hi j hj => ?_
  ·have := hr (n + 1) o' (by simpa using hn)
   rw [← this]; congr 1; simp; omega
  ·rw [List.getD_eq_getElem?_getD] at hj
   by_cases hlt : i < T.length
   ·rw [List.getElem?_append_left hlt, ← List.getD_eq_getElem?_getD] at hj
    exact hT i hi j hj
   ·rw [List.getElem?_append_right (by omega)] at hj
    by_cases he : i = T.length
    ·subst he
     have ho : ops[T.length]? = some o := hr 0 o rfl
     simp only [Nat.sub_self, List.getElem?_cons_zero, Option.getD_some] at hj
     rcases mem_addAll _ _ _ hj with hj | hj
     ·obtain ⟨k, hk, hj⟩ := List.mem_flatMap.1 hj
      have hSk : S k := hi k (by simp only [edgesAt, ho]; exact hk)
      rcases List.mem_cons.1 hj with rfl | hj
      ·exact hSk
      ·exact hT k (hS k hSk) j hj
     ·simp at hj
    ·rw [List.getElem?_eq_none (by simp; omega)] at hj
     simp at hj
theorem ancs_ok : TOkA (ancs ops.toList []) ops := fun S hS => ancs_go hS ops.toList [] (fun n o hn => by simpa using hn) fun i _ j hj => by simp at hj
theorem mem_edgesOf {o : Oper} {e : Edge} (he : e ∈ o.after) (hb : Region.binds .any e = true) : e.on ∈ edgesOf o :=
 List.mem_map.2 ⟨e, List.mem_filter.2 ⟨by simpa using he, hb⟩, rfl⟩
theorem listed_of {listed : Array Bool} {k : Nat} (hk : k < listed.size) (h : listed.getD k true ≠ false) : listed.getD k false = true := by
 simp [hk] at h ⊢; exact h
theorem runs_any (hC : CtxOk P C) (hcall : CallOk P C call) (hT : TOkA T ops) (hE : ∀ i, ∀ k ∈ edgesAt ops i, k < ops.size ∧ k ≠ i) {out : Out} {G0 : Gh} {w0 : World} :
  ∀ (fuel : Nat) (listed : Array Bool) (L : List Nat) (s : St), Good H T ops listed L → L.length ≤ fuel → Runs C H call (some T) ops L s out →
   ∀ G lam a w, Ext G0 w0 G w → Inv C.glob G lam a w s → wpAny P .any ops (OQ C G0 w0 out) fuel listed a w
 | fuel, listed, [], s, hg, _, hr, G, lam, a, w, x, hI => by
  have hnil : Region.ready .any ops listed = [] := by
   cases hh : Region.ready .any ops listed with
   | nil => rfl
   | cons j js =>
    have := (mem_ready.1 (hh ▸ List.mem_cons_self .. : j ∈ Region.ready .any ops listed)).1
    exact absurd ((hg.mem j).2 this) (by simp)
  cases hr
  have hq : OQ C G0 w0 (.next s) .normal a w := .inl ⟨rfl, s, G, lam, rfl, x, hI⟩
  cases fuel with
  | zero => exact ⟨hnil, hq⟩
  | succ fuel => exact ⟨fun _ => hq, fun i hi => by rw [hnil] at hi; simp at hi⟩
 | 0, listed, i :: L, s, hg, hf, hr, G, lam, a, w, x, hI => by simp at hf
 | fuel + 1, listed, i0 :: L, s, hg, hf, hr, G, lam, a, w, x, hI => by
  have hhead : i0 ∈ Region.ready .any ops listed := by
   refine mem_ready.2 ⟨(hg.mem i0).1 (List.mem_cons_self ..), ?_⟩
   have hlt : i0 < ops.size := by
    rw [← hg.size]
    have := (hg.mem i0).1 (List.mem_cons_self ..)
    rcases Nat.lt_or_ge i0 listed.size with h | h
    ·exact h
    ·simp [Array.getElem?_eq_none h] at this
   refine ⟨ops[i0], by simp [hlt], fun e he hb => ?_⟩
   have hmem : e.on ∈ edgesAt ops i0 := by simp only [edgesAt, Array.getElem?_eq_getElem hlt]; exact mem_edgesOf he hb
   obtain ⟨h1, h2⟩ := hE i0 _ hmem
   refine listed_of (by rw [hg.size]; exact h1) fun hh => ?_
   rcases List.mem_cons.1 ((hg.mem _).2 hh) with h3 | h3
   ·exact h2 h3
   ·exact ((List.pairwise_cons.1 hg.pw).1 _ h3).1 hmem
  refine ⟨fun hnil => by rw [hnil] at hhead; simp at hhead, fun i hi => ?_⟩
  obtain ⟨hun, oi, hoi, hall⟩ := mem_ready.1 hi
  have hedges : ∀ k ∈ edgesAt ops i, listed.getD k false = true := fun k hk => by
   simp only [edgesAt, hoi, edgesOf, List.mem_map, List.mem_filter] at hk
   obtain ⟨e, ⟨he, hb⟩, rfl⟩ := hk
   exact hall e (by simpa using he) hb
  obtain ⟨A, B, hAB⟩ := List.append_of_mem ((hg.mem i).2 hun)
  rw [hAB] at hr
  have hpw := hg.pw
  have hnd := hg.nodup
  rw [hAB] at hpw hnd
  have hfree : ∀ j ∈ A, indepAt H ops j i = true ∧ (T.getD i []).contains j = false := by
   intro j hj
   have h1 := ((List.pairwise_append.1 hpw).2.2 j hj i (List.mem_cons_self ..)).2
   have hnot : (T.getD i []).contains j = false := by
    cases hc : (T.getD i []).contains j with
    | false => rfl
    | true =>
     have hl := hT (fun k => listed.getD k false = true) hg.closed i hedges j (by simpa using hc)
     have hu := (hg.mem j).1 (by rw [hAB]; simp [hj])
     rcases Nat.lt_or_ge j listed.size with h | h
     ·simp [h] at hl hu; rw [hu] at hl; simp at hl
     ·simp [Array.getElem?_eq_none h] at hu
   rw [hnot] at h1
   exact ⟨h1.resolve_left (by simp), hnot⟩
  have hi_lt : i < listed.size := by
   rcases Nat.lt_or_ge i listed.size with h | h
   ·exact h
   ·simp [Array.getElem?_eq_none h] at hun
  have hgood : Good H T ops (listed.setIfInBounds i true) (A ++ B) := by
   refine ⟨by simp [hg.size], fun k => ?_, ?_, ?_, fun k hk j hj => ?_⟩
   ·by_cases hki : k = i
    ·subst hki
     refine ⟨fun hm => ?_, fun hm => ?_⟩
     ·have := (List.perm_middle.nodup_iff).1 hnd
      exact absurd hm (List.nodup_cons.1 this).1
     ·simp [hi_lt] at hm
    ·rw [getD_set_ne true (Ne.symm hki), ← hg.mem k, hAB]
     simp [hki]
   ·exact hnd.sublist (List.Sublist.append (List.Sublist.refl _) (List.sublist_cons_self ..))
   ·exact hpw.sublist (List.Sublist.append (List.Sublist.refl _) (List.sublist_cons_self ..))
   ·by_cases hki : k = i
    ·subst hki; exact getD_set_true (hedges j hj)
    ·rw [getD_set_ne false (Ne.symm hki)] at hk
     exact getD_set_true (hg.closed k hk j hj)
  have hlen : (A ++ B).length ≤ fuel := by
   have : (i0 :: L).length = (A ++ i :: B).length := by rw [hAB]
   simp at this hf ⊢
   omega
  unfold wpOp
  rcases bubble A s hr hfree with ⟨s1, e1, e2⟩ | ⟨v, s1, s2, e1, e2, e3⟩
  ·obtain ⟨o, ho, hh⟩ := stepF_sound hC hcall e1 hI
   rw [ho]
   simp only
   rcases hh with ⟨hw, hh⟩ | ⟨hw, st', G', lam', f1, f2, f3⟩
   ·rw [if_pos hw]
    refine .inl (wp_mono2 hh (fun a' w' hn => ?_) (fun e a' w' hq => ?_))
    ·obtain ⟨st', G', lam', f1, f2, f3⟩ := hn
     cases f1
     exact runs_any hC hcall hT hE fuel _ _ s1 hgood hlen e2 G' lam' a' w' (x.trans f2) f3
    ·obtain ⟨v, st', c, G', f1, _⟩ := hq; cases f1
   ·rw [if_neg (by rw [hw]; simp)]
    cases f1
    exact runs_any hC hcall hT hE fuel _ _ s1 hgood hlen e2 G' lam' _ w (x.trans f2) f3
  ·obtain ⟨o, ho, hh⟩ := stepF_sound hC hcall e1 hI
   rw [ho]
   simp only
   rcases hh with ⟨hw, hh⟩ | ⟨hw, st', G', lam', f1, f2, f3⟩
   ·rw [if_pos hw]
    refine .inl (wp_mono2 hh (fun a' w' hn => ?_) (fun e a' w' hq => ?_))
    ·obtain ⟨st', G', lam', f1, f2, f3⟩ := hn; cases f1
    ·obtain ⟨v', st', c, G', f1, f2, f3, f4, f5, f6⟩ := hq
     cases f1
     exact .inr ⟨v, s2, c, G', e2, f2, f3, x.trans f4, by rw [← e3]; exact f5, f6⟩
   ·cases f1
theorem distinct_nodup : ∀ {l : List Nat}, distinct l = true → l.Nodup
 | [], _ => List.nodup_nil
 | x :: xs, h => by
  simp only [distinct, Bool.and_eq_true, Bool.not_eq_true'] at h
  exact List.nodup_cons.2 ⟨by simpa using h.1, distinct_nodup h.2⟩
theorem pairs_pairwise {f : Nat → Nat → Bool} : ∀ {l : List Nat}, pairs f l = true → l.Pairwise fun i j => f i j = true
 | [], _ => List.Pairwise.nil
 | x :: xs, h => by
  simp only [pairs, Bool.and_eq_true, List.all_eq_true] at h
  exact List.pairwise_cons.2 ⟨fun y hy => h.1 y hy, pairs_pairwise h.2⟩
theorem draw_sound (hC : CtxOk P C) (hcall : CallOk P C call) {L : List Nat} (hf : free H ops L = true) {s : St} {K : Out → Option Res} {r : Res} (h : aops C H call (some (ancs ops.toList [])) ops L s K = some r) :
  ∃ out, K out = some r ∧ ∀ G lam a w, Inv C.glob G lam a w s → wpAny P .any ops (OQ C G w out) ops.size (Array.replicate ops.size false) a { w with drawn := w.drawn + 1 } := by
 obtain ⟨out, h1, h2⟩ := aops_runs _ _ _ _ h
 refine ⟨out, h1, fun G lam a w hI => ?_⟩
 simp only [free, Bool.and_eq_true, List.all_eq_true, beq_iff_eq] at hf
 obtain ⟨⟨⟨⟨⟨f1, f2⟩, f3⟩, f3b⟩, f4⟩, f5⟩ := hf
 have hlt : ∀ i ∈ L, i < ops.size := fun i hi => by simpa using f3 i hi
 have hE : ∀ i, ∀ k ∈ edgesAt ops i, k < ops.size ∧ k ≠ i := by
  intro i k hk
  have hi : i < ops.size := by
   rcases Nat.lt_or_ge i ops.size with h | h
   ·exact h
   ·simp [edgesAt, Array.getElem?_eq_none h] at hk
  have := f4 i (by simpa using hi) k hk
  simpa using this
 have hall : ∀ i, i < ops.size → i ∈ L := by
  intro i hi
  simpa using f3b i (by simpa using hi)
 have hgood : Good H (ancs ops.toList []) ops (Array.replicate ops.size false) L := by
  refine ⟨by simp, fun i => ?_, distinct_nodup f2, (pairs_pairwise f5).imp fun hh => ?_, fun k hk => ?_⟩
  ·refine ⟨fun hi => by simp [hlt i hi], fun hi => hall i ?_⟩
   rcases Nat.lt_or_ge i ops.size with h | h
   ·exact h
   ·simp [Nat.not_lt.2 h] at hi
  ·simpa using hh
  ·simp [Array.getD_eq_getD_getElem?, Array.getElem?_replicate] at hk
   split at hk <;> simp at hk
 exact runs_any hC hcall ancs_ok hE ops.size _ L s hgood (by rw [f1]; exact Nat.le_refl _) h2 G lam a _ (Ext.same rfl rfl rfl rfl) (hI.same rfl rfl rfl rfl)
end
end Go.Ab
end
section
namespace Go.Ab
section
variable {P : Program} {C : Ctx} {H : Hints} {call : CallF}
def EP (C : Ctx) (G : Gh) (w : World) (ex : Ex) (st : St) (e : Exit) (a' : Act) (w' : World) : Prop :=
 match ex with
 | .normal => e = .normal ∧ ∃ G' lam', Ext G w G' w' ∧ Inv C.glob G' lam' a' w' st
 | .exit i => e = .exit i ∧ ∃ G' lam', Ext G w G' w' ∧ Inv C.glob G' lam' a' w' st
 | .ret => e = .ret ∧ ∃ G' lam', Ext G w G' w' ∧ Inv C.glob G' lam' a' w' st
 | .pan v => ∃ c G', e = .panic [{ v := c, recovered := false }] ∧ Rel G' w' v c ∧ Ext G w G' w' ∧ SInv C.glob G' w' st.sto ∧ a'.defers = []
theorem EP.trans {G G1 : Gh} {w w1 : World} {ex : Ex} {st : St} {e : Exit} {a' : Act} {w' : World} (x : Ext G w G1 w1) (h : EP C G1 w1 ex st e a' w') : EP C G w ex st e a' w' := by
 cases ex with
 | pan v => obtain ⟨c, G', h1, h2, h3, h4, h5⟩ := h; exact ⟨c, G', h1, h2, x.trans h3, h4, h5⟩
 | normal => obtain ⟨h1, G', lam', h2, h3⟩ := h; exact ⟨h1, G', lam', x.trans h2, h3⟩
 | exit i => obtain ⟨h1, G', lam', h2, h3⟩ := h; exact ⟨h1, G', lam', x.trans h2, h3⟩
 | ret => obtain ⟨h1, G', lam', h2, h3⟩ := h; exact ⟨h1, G', lam', x.trans h2, h3⟩
def SoundC (P : Program) (C : Ctx) (c : Code) (st : St) (ex : Ex) (st' : St) : Prop := ∀ G lam a w, Inv C.glob G lam a w st → c.wp P (EP C G w ex st') a w
theorem keepRegs_get (keep : List Nat) : ∀ (l : List RV) (i r : Nat), (keepRegs keep i l)[r]? = (l[r]?).map fun x => if keep.contains (i + r) then x else .dead
 | [], _, _ => by simp [keepRegs]
 | x :: xs, i, r => by
  cases r with
  | zero => simp [keepRegs]
  | succ r => simp only [keepRegs, List.getElem?_cons_succ]; rw [keepRegs_get keep xs (i + 1) r]; simp [Nat.add_assoc, Nat.add_comm 1]
theorem keepLocs_get (keep : List Nat) : ∀ (l : List (List Cell)) (i r : Nat), (keepLocs keep i l)[r]? = (l[r]?).map fun x => if keep.contains (i + r) then x else []
 | [], _, _ => by simp [keepLocs]
 | x :: xs, i, r => by
  cases r with
  | zero => simp [keepLocs]
  | succ r => simp only [keepLocs, List.getElem?_cons_succ]; rw [keepLocs_get keep xs (i + 1) r]; simp [Nat.add_assoc, Nat.add_comm 1]
theorem keepRegs_length (keep : List Nat) : ∀ (l : List RV) (i : Nat), (keepRegs keep i l).length = l.length
 | [], _ => rfl
 | x :: xs, i => by simp [keepRegs, keepRegs_length keep xs]
theorem keepLocs_length (keep : List Nat) : ∀ (l : List (List Cell)) (i : Nat), (keepLocs keep i l).length = l.length
 | [], _ => rfl
 | x :: xs, i => by simp [keepLocs, keepLocs_length keep xs]
theorem Inv.kill {gl : Nat → Option (List V)} {G : Gh} {lam : Nat → Nat} {a : Act} {w : World} {st : St} (h : Inv gl G lam a w st) (keep : List Nat) : Inv gl G lam a w (st.kill keep) := by
 refine ⟨h.defers, by simp only [St.kill, keepRegs_length]; exact h.len, by simp only [St.kill, keepRegs_length, keepLocs_length]; exact h.lenl, fun r x hx => ?_, fun r cs hc hne => ?_, h.sto⟩
 ·simp only [St.kill, keepRegs_get, Option.map_eq_some_iff] at hx
  obtain ⟨y, hy, rfl⟩ := hx
  split
  ·exact h.regs r y hy
  ·trivial
 ·simp only [St.kill, keepLocs_get, Option.map_eq_some_iff] at hc
  obtain ⟨y, hy, rfl⟩ := hc
  split
  ·rename_i hk
   rw [if_pos hk] at hne
   exact h.locs r y hy hne
  ·rename_i hk
   rw [if_neg hk] at hne
   exact absurd rfl hne
theorem aloop_sound {c : Code} {body : St → (Ex → St → Option Res) → Option Res} (hb : ∀ st K r, body st K = some r → ∃ ex st', K ex st' = some r ∧ SoundC P C c st ex st') (keep : List Nat) :
  ∀ (n : Nat) (st : St) (K : Ex → St → Option Res) (r : Res), aloop body keep n st K = some r → ∃ ex st', K ex st' = some r ∧ ∀ G lam a w, Inv C.glob G lam a w st → ∀ (b : Frame) (k : List Item) (cs : List Frame),
   ∃ e a' w', EP C G w ex st' e a' w' ∧ Arrives P (lone (b.at a (.code c :: .inLoop c :: k)) cs w) b k cs e a' w'
 | 0, st, K, r, h => by simp [aloop] at h
 | n + 1, st, K, r, h => by
  simp only [aloop] at h
  obtain ⟨ex, st1, h1, h2⟩ := hb _ _ _ h
  cases ex with
  | normal =>
   simp only [kloop] at h1
   obtain ⟨ex2, st2, h3, h4⟩ := aloop_sound hb keep n _ K r h1
   refine ⟨ex2, st2, h3, fun G lam a w hI b k cs => ?_⟩
   obtain ⟨e, a1, w1, ⟨rfl, G1, lam1, x1, i1⟩, harr⟩ := h2 G lam a w hI b (.inLoop c :: k) cs
   obtain ⟨e2, a2, w2, q2, harr2⟩ := h4 G1 lam1 a1 w1 (i1.kill keep) b k cs
   exact ⟨e2, a2, w2, q2.trans x1, .of_steps (Steps.trans harr (.one step_inLoop)) harr2⟩
  | exit i =>
   refine ⟨_, st1, h1, fun G lam a w hI b k cs => ?_⟩
   obtain ⟨e, a1, w1, hq, harr⟩ := h2 G lam a w hI b (.inLoop c :: k) cs
   have he := hq.1
   exact ⟨e, a1, w1, hq, .pass (x := .inLoop c) rfl (fun _ _ => .inl (by rw [he]; simp)) harr⟩
  | ret =>
   refine ⟨_, st1, h1, fun G lam a w hI b k cs => ?_⟩
   obtain ⟨e, a1, w1, hq, harr⟩ := h2 G lam a w hI b (.inLoop c :: k) cs
   have he := hq.1
   exact ⟨e, a1, w1, hq, .pass (x := .inLoop c) rfl (fun _ _ => .inl (by rw [he]; simp)) harr⟩
  | pan v =>
   refine ⟨_, st1, h1, fun G lam a w hI b k cs => ?_⟩
   obtain ⟨e, a1, w1, hq, harr⟩ := h2 G lam a w hI b (.inLoop c :: k) cs
   obtain ⟨cc, G', he, _⟩ := id hq
   exact ⟨e, a1, w1, hq, .pass (x := .inLoop c) rfl (fun _ _ => .inl (by rw [he]; simp)) harr⟩
theorem aexec_sound (hC : CtxOk P C) (hcall : CallOk P C call) (n : Nat) : ∀ (c : Code) (id : Nat) (st : St) (K : Ex → St → Option Res) (r : Res), aexec C H call n c id st K = some r → ∃ ex st', K ex st' = some r ∧ SoundC P C c st ex st'
 | .skip, _, st, K, r, h => ⟨.normal, st, h, fun G lam a w hI => wp_skip ⟨rfl, G, lam, Ext.refl _ _, hI⟩⟩
 | .label l, _, st, K, r, h => ⟨.normal, st, h, fun G lam a w hI => wp_label ⟨rfl, G, lam, Ext.refl _ _, hI⟩⟩
 | .region id ops draw, _, st, K, r, h => by
  simp only [aexec] at h
  have fin : ∀ out, (match out with | .next st => K .normal st | .pan v st => K (.pan v) st) = some r → ∃ ex st', K ex st' = some r ∧ ∀ (G : Gh) (w : World) e a' w', OQ C G w out e a' w' → EP C G w ex st' e a' w' := by
   intro out h1
   cases out with
   | next st1 =>
    refine ⟨.normal, st1, h1, fun G w e a' w' hq => ?_⟩
    rcases hq with ⟨rfl, st', G', lam', hh, e2, e3⟩ | ⟨v, st', c, G', hh, _⟩
    ·cases hh; exact ⟨rfl, G', lam', e2, e3⟩
    ·cases hh
   | pan v st1 =>
    refine ⟨.pan v, st1, h1, fun G w e a' w' hq => ?_⟩
    rcases hq with ⟨rfl, st', G', lam', hh, e2, e3⟩ | ⟨v', st', c, G', hh, q1, q2, q3, q4, q5⟩
    ·cases hh
    ·cases hh; exact ⟨c, G', q1, q2, q3, q4, q5⟩
  cases draw with
  | true =>
   simp only [if_true] at h
   obtain ⟨u, hu, h⟩ := bind2 h
   obtain ⟨out, h1, h2⟩ := draw_sound hC hcall (grd_some hu) h
   obtain ⟨ex, st', h3, h4⟩ := fin out h1
   exact ⟨ex, st', h3, fun G lam a w hI => wp_mono (wp_region_any hC.mixed (h2 G lam a w hI)) fun e a' w' hq => h4 G w e a' w' hq⟩
  | false =>
   simp only [Bool.false_eq_true, if_false] at h
   obtain ⟨out, h1, h2⟩ := aops_sound hC hcall _ _ _ _ h
   obtain ⟨ex, st', h3, h4⟩ := fin out h1
   exact ⟨ex, st', h3, fun G lam a w hI => wp_mono (wp_region (h2 G lam a w hI)) fun e a' w' hq => h4 G w e a' w' hq⟩
 | .seq x y, id, st, K, r, h => by
  simp only [aexec] at h
  obtain ⟨ex, st1, h1, h2⟩ := aexec_sound hC hcall n x 0 st _ r h
  cases ex with
  | normal =>
   obtain ⟨ex2, st2, h3, h4⟩ := aexec_sound hC hcall n y 0 st1 K r h1
   refine ⟨ex2, st2, h3, fun G lam a w hI => wp_seq (wp_mono (h2 G lam a w hI) fun e a' w' hq => ?_)⟩
   obtain ⟨rfl, G', lam', e2, e3⟩ := hq
   exact wp_mono (h4 G' lam' a' w' e3) fun e a w hq => hq.trans e2
  | exit i =>
   refine ⟨_, st1, h1, fun G lam a w hI => wp_seq (wp_mono (h2 G lam a w hI) fun e a' w' hq => ?_)⟩
   obtain ⟨rfl, hh⟩ := hq; exact ⟨rfl, hh⟩
  | ret =>
   refine ⟨_, st1, h1, fun G lam a w hI => wp_seq (wp_mono (h2 G lam a w hI) fun e a' w' hq => ?_)⟩
   obtain ⟨rfl, hh⟩ := hq; exact ⟨rfl, hh⟩
  | pan v =>
   refine ⟨_, st1, h1, fun G lam a w hI => wp_seq (wp_mono (h2 G lam a w hI) fun e a' w' hq => ?_)⟩
   obtain ⟨c, G', rfl, hh⟩ := hq; exact ⟨c, G', rfl, hh⟩
 | .cond c x y, id, st, K, r, h => by
  simp only [aexec] at h
  split at h
  ·rename_i r0
   split at h
   ·rename_i v ow hv
    obtain ⟨b, hb, h⟩ := bind2 h
    have key : ∀ G lam a w, Inv C.glob G lam a w st → a.eval (.tmp r0) = .bool b := by
     intro G lam a w hI
     obtain ⟨q1, _, _⟩ := hI.open hv
     exact asBool_rel hb q1
    have hs := setReg_same hv hb
    cases b with
    | true =>
     simp only [cond_true, hs] at h
     obtain ⟨ex, st1, h1, h2⟩ := aexec_sound hC hcall n x 0 _ K r h
     exact ⟨ex, st1, h1, fun G lam a w hI => wp_cond_true (key G lam a w hI) (h2 G lam a w hI)⟩
    | false =>
     simp only [cond_false, hs] at h
     obtain ⟨ex, st1, h1, h2⟩ := aexec_sound hC hcall n y 0 _ K r h
     exact ⟨ex, st1, h1, fun G lam a w hI => wp_cond_false (key G lam a w hI) (h2 G lam a w hI)⟩
   ·simp at h
  ·rename_i b
   cases b with
   | true =>
    simp only [if_true] at h
    obtain ⟨ex, st1, h1, h2⟩ := aexec_sound hC hcall n x 0 _ K r h
    exact ⟨ex, st1, h1, fun G lam a w hI => wp_cond_true rfl (h2 G lam a w hI)⟩
   | false =>
    simp only [Bool.false_eq_true, if_false] at h
    obtain ⟨ex, st1, h1, h2⟩ := aexec_sound hC hcall n y 0 _ K r h
    exact ⟨ex, st1, h1, fun G lam a w hI => wp_cond_false rfl (h2 G lam a w hI)⟩
  ·simp at h
 | .block i body, id, st, K, r, h => by
  simp only [aexec] at h
  obtain ⟨ex, st1, h1, h2⟩ := aexec_sound hC hcall n body i st _ r h
  cases ex with
  | normal =>
   refine ⟨_, st1, h1, fun G lam a w hI => wp_block (wp_mono (h2 G lam a w hI) fun e a' w' hq => ?_)⟩
   obtain ⟨rfl, hh⟩ := hq; exact ⟨rfl, hh⟩
  | exit j =>
   simp only [kblk] at h1
   by_cases hj : j = i
   ·rw [if_pos hj] at h1
    refine ⟨_, st1, h1, fun G lam a w hI => wp_block (wp_mono (h2 G lam a w hI) fun e a' w' hq => ?_)⟩
    obtain ⟨rfl, hh⟩ := hq
    simp only [Exit.inBlock, if_pos hj]
    exact ⟨rfl, hh⟩
   ·rw [if_neg hj] at h1
    refine ⟨_, st1, h1, fun G lam a w hI => wp_block (wp_mono (h2 G lam a w hI) fun e a' w' hq => ?_)⟩
    obtain ⟨rfl, hh⟩ := hq
    simp only [Exit.inBlock, if_neg hj]
    exact ⟨rfl, hh⟩
  | ret =>
   refine ⟨_, st1, h1, fun G lam a w hI => wp_block (wp_mono (h2 G lam a w hI) fun e a' w' hq => ?_)⟩
   obtain ⟨rfl, hh⟩ := hq; exact ⟨rfl, hh⟩
  | pan v =>
   refine ⟨_, st1, h1, fun G lam a w hI => wp_block (wp_mono (h2 G lam a w hI) fun e a' w' hq => ?_)⟩
   obtain ⟨c, G', rfl, hh⟩ := hq; exact ⟨c, G', rfl, hh⟩
 | .loop body, id, st, K, r, h => by
  simp only [aexec] at h
  obtain ⟨ex, st1, h1, h2⟩ := aloop_sound (c := body) (fun st K r hh => aexec_sound hC hcall n body 0 st K r hh) (H.keep id) n _ K r h
  refine ⟨ex, st1, h1, fun G lam a w hI => ?_⟩
  intro b k cs
  obtain ⟨e, a', w', q1, q2⟩ := h2 G lam a w (hI.kill _) b k cs
  exact ⟨e, a', w', q1, .of_steps (.one step_loop) q2⟩
 | .exit i, _, st, K, r, h => ⟨.exit i, st, h, fun G lam a w hI => wp_exit ⟨rfl, G, lam, Ext.refl _ _, hI⟩⟩
 | .ret, _, st, K, r, h => ⟨.ret, st, h, fun G lam a w hI => wp_ret ⟨rfl, G, lam, Ext.refl _ _, hI⟩⟩
 | .rangeFunc .., _, st, K, r, h => by simp [aexec] at h
 | .scope _, _, st, K, r, h => by simp [aexec] at h
 | .goto _, _, st, K, r, h => by simp [aexec] at h
 | .refuse _, _, st, K, r, h => by simp [aexec] at h
end
end Go.Ab
end
section
namespace Go.Ab
section
variable {P : Program} {C : Ctx} {H : Hints} {call : CallF}
theorem resCells_sound (hC : CtxOk P C) : ∀ (rs : List ResultVar) (k : Nat) (st : St) (vs : List Cell) (G : Gh) (lam : Nat → Nat) (a : Act) (w : World), resCells C st rs = some vs → Inv C.glob G lam a w st →
  ∃ (G' : Gh) (cs : List Value), (rs.mapM (fun (r : ResultVar) => match r with | .tmp t => (pure (a.tmps.getD t undef) : Sem Value) | .cell ad t => do loadVar t (← asAddr (a.tmps.getD ad undef)))).run P w = .ok cs w ∧ cs.length = vs.length ∧ Ext G w G' w ∧ SInv C.glob G' w st.sto ∧ G'.N = G.N ∧
   (∀ i p, G'.owner i = some p → G.owner i = some p ∨ ∃ j, k ≤ j ∧ p = .res j) ∧ (∀ i j, G.owner i = some (.res j) → j < k → G'.owner i = some (.res j) ∧ G'.lim i = G.lim i) ∧
   ∀ (i : Nat) c x, vs[i]? = some c → cs[i]? = some x → CRel G' w (.res (k + i)) c x
 | [], k, st, vs, G, lam, a, w, h, hI => by
  simp [resCells] at h
  subst h
  exact ⟨G, [], by simp, rfl, Ext.refl _ _, hI.sto, rfl, fun i p hp => .inl hp, fun i j hj _ => ⟨hj, rfl⟩, by simp⟩
 | .tmp t :: rest, k, st, vs, G, lam, a, w, h, hI => by
  simp only [resCells] at h
  split at h
  ·rename_i v ow hv
   obtain ⟨vs', h1, h2⟩ := bind2 h
   obtain rfl := Option.some.inj h2
   have hr := eval_reg hI t
   rw [hv] at hr
   have hcl := hI.clear [t]
   -- the token goes to the result's place
   have tok : ∃ G1, Ext G w G1 w ∧ Inv C.glob G1 lam a w (st.clear [t]) ∧ G1.N = G.N ∧ CRel G1 w (.res k) (v, ow) (a.tmps.getD t undef) ∧
     (∀ i p, G1.owner i = some p → G.owner i = some p ∨ p = .res k) ∧ (∀ i j, G.owner i = some (.res j) → j < k → G1.owner i = some (.res j) ∧ G1.lim i = G.lim i) := by
    cases ow with
    | false => exact ⟨G, Ext.refl _ _, hcl, rfl, ⟨hr.1, fun ho => by simp at ho⟩, fun i p hp => .inl hp, fun i j hj _ => ⟨hj, rfl⟩⟩
    | true =>
     have ho := hr.2 rfl
     have hnf := clear_not_flagged (st := st) [t] t (by simp)
     by_cases hd : ∃ (kk : Nat) (et : TypeId) (es : List (List V)) (ad : Addr) (n cap : Nat), v = V.slice kk et es ∧ a.eval (.tmp t) = .slice (some ad) n cap
     ·obtain ⟨kk, et, es, ad, n, cap, rfl, hev⟩ := hd
      rw [hev] at ho
      obtain ⟨q1, q2, q3, q4, q5⟩ := ho
      ·let G1 : Gh := { G with owner := upd G.owner ad.block (some (.res k)) }
       have hE : Ext G w G1 w := ⟨Nat.le_refl _, fun _ _ => rfl, fun _ _ => rfl, fun _ => Nat.le_refl _, fun _ _ _ => rfl, rfl, rfl, rfl, Nat.le_refl _, fun i _ hi => ⟨rfl, rfl, by
        show upd G.owner ad.block _ i = none
        rw [upd_other]
        ·exact hi
        ·rintro rfl; rw [q3] at hi; simp at hi⟩⟩
       refine ⟨G1, hE, ?_, rfl, ⟨rel_owner hr.1 _, fun _ => ?_⟩, fun i p hp => ?_, fun i j hj hjk => ⟨?_, rfl⟩⟩
       ·refine hcl.move hE ⟨fun i p hp hf => ⟨rfl, rfl, ?_⟩⟩ (fun i hi => ⟨(hI.sto.wf i hi).1, ?_⟩) rfl
        ·show upd G.owner ad.block _ i = some p
         rw [upd_other]
         ·exact hp
         ·rintro rfl
          rw [q3] at hp
          obtain rfl := Option.some.inj hp
          rcases hf with hf | ⟨r, hr⟩ | ⟨b, hb⟩
          ·exact hnf hf
          ·simp at hr
          ·simp at hb
        ·show upd G.owner ad.block _ i = none
         rw [upd_other]
         ·exact (hI.sto.wf i hi).2
         ·rintro rfl; rw [(hI.sto.wf _ hi).2] at q3; simp at q3
       ·have hev' : a.tmps.getD t undef = .slice (some ad) n cap := hev
        rw [hev']
        exact ⟨q1, q2, by show upd G.owner _ _ _ = _; simp, q4, q5⟩
       ·have hp' : upd G.owner ad.block (some (.res k)) i = some p := hp
        by_cases hi : i = ad.block
        ·subst hi; simp at hp'; exact .inr hp'.symm
        ·rw [upd_other _ _ hi] at hp'; exact .inl hp'
       ·show upd G.owner ad.block _ i = _
        rw [upd_other]
        ·exact hj
        ·rintro rfl; rw [q3] at hj; simp at hj
     ·refine ⟨G, Ext.refl _ _, hcl, rfl, ⟨hr.1, fun _ => ?_⟩, fun i p hp => .inl hp, fun i j hj _ => ⟨hj, rfl⟩⟩
      have hev' : a.tmps.getD t undef = a.eval (.tmp t) := rfl
      rw [hev']
      unfold Own at ho ⊢
      split at ho
      ·rename_i kk et es ad n cap hvv heq
       exact absurd ⟨kk, et, es, ad, n, cap, hvv, heq⟩ hd
      ·exact ho
      ·trivial
   obtain ⟨G1, t1, t2, t3, t4, t5, t6⟩ := tok
   obtain ⟨G', cs, e1, e2, e3, e4, e5, e6, e7, e8⟩ := resCells_sound hC rest (k + 1) _ vs' G1 lam a w h1 t2
   refine ⟨G', a.tmps.getD t undef :: cs, ?_, by simp [e2], t1.trans e3, e4, e5.trans t3, fun i p hp => ?_, fun i j hj hjk => ?_, fun i c x hc hx => ?_⟩
   ·simp only [List.mapM_cons, Sem.run_bind, Sem.run_pure, Result.andThen_ok]
    rw [e1]
    rfl
   ·rcases e6 i p hp with hh | ⟨j, hj, rfl⟩
    ·rcases t5 i p hh with hh | rfl
     ·exact .inl hh
     ·exact .inr ⟨k, Nat.le_refl _, rfl⟩
    ·exact .inr ⟨j, by omega, rfl⟩
   ·obtain ⟨u1, u2⟩ := t6 i j hj hjk
    obtain ⟨u3, u4⟩ := e7 i j u1 (by omega)
    exact ⟨u3, u4.trans u2⟩
   ·cases i with
    | zero =>
     simp at hc hx
     subst hc; subst hx
     have := t4.move e3 fun _ i hi => ⟨rfl, (e7 i k hi (by omega)).2, (e7 i k hi (by omega)).1⟩
     simpa using this
    | succ i =>
     simp at hc hx
     have := e8 i c x hc hx
     rw [show k + 1 + i = k + (i + 1) by omega] at this
     exact this
  ·simp at h
 | .cell ad t :: rest, k, st, vs, G, lam, a, w, h, hI => by
  simp only [resCells] at h
  obtain ⟨i, hi, h⟩ := bind2 h
  have hT := hC.T t i hi
  have fin : ∀ v vs', resCells C st rest = some vs' → vs = (v, false) :: vs' → ∀ b o x, a.tmps.getD ad undef = .pointer (some ⟨b, o, none⟩) → (loadVar t ⟨b, o, none⟩).run P w = .ok x w → Rel G w v x →
    ∃ (G' : Gh) (cs : List Value), ((ResultVar.cell ad t :: rest).mapM (fun (r : ResultVar) => match r with | .tmp t => (pure (a.tmps.getD t undef) : Sem Value) | .cell ad t => do loadVar t (← asAddr (a.tmps.getD ad undef)))).run P w = .ok cs w ∧ cs.length = vs.length ∧ Ext G w G' w ∧ SInv C.glob G' w st.sto ∧ G'.N = G.N ∧
    (∀ i p, G'.owner i = some p → G.owner i = some p ∨ ∃ j, k ≤ j ∧ p = .res j) ∧ (∀ i j, G.owner i = some (.res j) → j < k → G'.owner i = some (.res j) ∧ G'.lim i = G.lim i) ∧
    ∀ (i : Nat) c x, vs[i]? = some c → cs[i]? = some x → CRel G' w (.res (k + i)) c x := by
   intro v vs' h1 hvs b o x hp hrun hrel
   obtain ⟨G', cs, e1, e2, e3, e4, e5, e6, e7, e8⟩ := resCells_sound hC rest (k + 1) _ vs' G lam a w h1 hI
   subst hvs
   refine ⟨G', x :: cs, ?_, by simp [e2], e3, e4, e5, fun i p hp => ?_, fun i j hj hjk => e7 i j hj (by omega), fun i c y hc hy => ?_⟩
   ·have hl : ((match (ResultVar.cell ad t) with | .tmp t => (pure (a.tmps.getD t undef) : Sem Value) | .cell ad t => do loadVar t (← asAddr (a.tmps.getD ad undef)))).run P w = .ok x w := by
     simp only [Sem.run_bind, hp, asAddr, Sem.run_pure, Result.andThen_ok, hrun]
    rw [List.mapM_cons, Sem.run_bind, hl, Result.andThen_ok, Sem.run_bind, e1]
    rfl
   ·rcases e6 i p hp with hh | ⟨j, hj, rfl⟩
    ·exact .inl hh
    ·exact .inr ⟨j, by omega, rfl⟩
   ·cases i with
    | zero =>
     simp at hc hy
     subst hc; subst hy
     exact ⟨hrel.mono e3, fun ho => by simp at ho⟩
    | succ i =>
     simp at hc hy
     have := e8 i c y hc hy
     rw [show k + 1 + i = k + (i + 1) by omega] at this
     exact this
  split at h
  ·rename_i r o hr
   obtain ⟨v, hv, h1⟩ := bind2 h
   obtain ⟨vs', h2, h3⟩ := bind2 h1
   have hp := eval_reg hI ad
   rw [hr] at hp
   obtain ⟨x, e1, e2⟩ := gather_rel (P := P) hT (locs_ok hI r) hv
   exact fin v vs' h2 (Option.some.inj h3).symm _ _ x hp e1 e2
  ·rename_i p ow hr
   obtain ⟨v, hv, h1⟩ := bind2 h
   obtain ⟨vs', h2, h3⟩ := bind2 h1
   have hp := eval_reg hI ad
   rw [hr] at hp
   obtain ⟨x, e1, e2⟩ := memGet_run hC hI hi hp.1 hv
   have hpt : ∃ b o, a.tmps.getD ad undef = .pointer (some ⟨b, o, none⟩) := by
    have hp1 := hp.1
    have hev : a.eval (.tmp ad) = a.tmps.getD ad undef := rfl
    rw [hev] at hp1
    cases p with
    | ptr tt b o => generalize a.tmps.getD ad undef = q at hp1; cases hp1; exact ⟨_, _, rfl⟩
    | eptr kk e o => generalize a.tmps.getD ad undef = q at hp1; cases hp1; exact ⟨_, _, rfl⟩
    | _ => simp [memGet] at hv
   obtain ⟨b, o, hb⟩ := hpt
   have hev : a.eval (.tmp ad) = .pointer (some ⟨b, o, none⟩) := hb
   rw [hev] at e1
   simp only [Instr.loadAt, Instr.sureAddr, Sem.run_bind, Sem.run_pure, Result.andThen_ok] at e1
   exact fin v vs' h2 (Option.some.inj h3).symm b o x hb e1 e2
  ·simp at h
theorem afun_sound (hC : CtxOk P C) (hcall : CallOk P C call) {f : FuncId} {d : FDef} (hf : P.funcs[f]? = some d.fn) (hbody : d.fn.body = some d.code) {n : Nat} {args : List Cell} {σ : Sto} {r : Res} (h : afun C d call n args σ = some r)
  (G : Gh) (w : World) (vals : List Value) (hS : SInv C.glob G w σ) (hcl : Clean G args.length) (hlen : vals.length = args.length) (hv : ∀ (i : Nat) c x, args[i]? = some c → vals[i]? = some x → CRel G w (.reg i) c x) :
  Calls P f vals.toArray w fun en w' => ∃ G', Ext G w G' w' ∧ SInv C.glob G' w' r.2 ∧ EndRel G' w' r.1 en := by
 simp only [afun] at h
 split at h
 ·rename_i hle
  obtain ⟨ex, st, h1, h2⟩ := aexec_sound hC hcall n d.code 0 _ _ r h
  refine calls_of_wp hf hbody ?_
  let a0 : Act := { tmps := vals.toArray ++ Array.replicate (d.fn.ntmps - vals.toArray.size) undef, defers := [] }
  have hI : Inv C.glob G (fun _ => 0) a0 w { regs := args.map (fun c => RV.val c.1 c.2) ++ List.replicate (d.fn.ntmps - args.length) .dead, locs := List.replicate d.fn.ntmps [], sto := σ } := by
   refine ⟨rfl, by simp [a0, hlen], by simp; omega, fun i x hx => ?_, fun i cs hc hne => ?_, hS⟩
   ·by_cases hi : i < args.length
    ·rw [List.getElem?_append_left (by simpa using hi), List.getElem?_map, Option.map_eq_some_iff] at hx
     obtain ⟨c, hc, rfl⟩ := hx
     have hi' : i < vals.length := by omega
     have := hv i c vals[i] hc (List.getElem?_eq_getElem hi')
     have hg : a0.tmps.getD i undef = vals[i] := by
      simp only [a0, Array.getD_eq_getD_getElem?]
      rw [Array.getElem?_append_left (by simpa using hi')]
      simp [hi']
     rw [hg]
     exact this
    ·rw [List.getElem?_append_right (by simp; omega)] at hx
     obtain ⟨_, hx⟩ := List.getElem?_eq_some_iff.1 hx
     simp at hx
     subst hx
     trivial
   ·obtain ⟨_, hc⟩ := List.getElem?_eq_some_iff.1 hc
    simp at hc
    exact absurd hc hne
  have hw := h2 G _ a0 w hI
  refine wp_mono hw fun e a' w' hq => ?_
  have finish : (e = .normal ∨ e = .ret) → (∃ vs, resCells C st d.fn.results.toList = some vs ∧ r = (.ret vs, st.sto)) → (∃ G' lam', Ext G w G' w' ∧ Inv C.glob G' lam' a' w' st) → bodyPost P d.fn (fun en w' => ∃ G', Ext G w G' w' ∧ SInv C.glob G' w' r.2 ∧ EndRel G' w' r.1 en) e a' w' := by
   rintro he ⟨vs, hvs, rfl⟩ ⟨G1, lam1, x1, i1⟩
   obtain ⟨G', cs, e1, e2, e3, e4, e5, e6, e7, e8⟩ := resCells_sound hC d.fn.results.toList 0 st vs G1 lam1 a' w' hvs i1
   have hres : (results d.fn a'.tmps).run P w' = .ok (if h : cs.toArray.size = 1 then cs.toArray[0] else .tuple cs.toArray) w' := by
    unfold results
    rw [Sem.run_bind, Array.mapM_eq_mapM_toList]
    simp only [Sem.run_map]
    exact congrArg (fun z : Result (List Value) => (z.andThen fun a w' => Result.ok a.toArray w').andThen fun a w' => Sem.run P (pure (if h : a.size = 1 then a[0] else Value.tuple a)) w') e1
   have hpost : a'.defers = [] ∧ ∃ v, (results d.fn a'.tmps).run P w' = .ok v w' ∧ ∃ G', Ext G w G' w' ∧ SInv C.glob G' w' st.sto ∧ EndRel G' w' (.ret vs) (.returned v) := by
    refine ⟨i1.defers, _, hres, ?_⟩
    -- what is kept: the store's and the results' holdings
    let G2 : Gh := { G' with owner := fun i => match G'.owner i with | some (.blk b) => some (.blk b) | some (.gc b j) => some (.gc b j) | some (.res j) => some (.res j) | _ => none }
    have hE : Ext G' w' G2 w' := ⟨Nat.le_refl _, fun _ _ => rfl, fun _ _ => rfl, fun _ => Nat.le_refl _, fun _ _ _ => rfl, rfl, rfl, rfl, Nat.le_refl _, fun i _ hi => ⟨rfl, rfl, by simp [G2, hi]⟩⟩
    refine ⟨G2, (x1.trans e3).trans hE, ⟨fun i hi => ⟨(e4.wf i hi).1, by simp [G2, (e4.wf i hi).2]⟩, fun g cs hg => (e4.glob g cs hg).mono hE, e4.N, e4.typed, fun b cs hb => ?_, e4.gsz.mono hE⟩, cs, e2, rfl, fun i c x hc hx => ?_⟩
    ·obtain ⟨cv, el, g1, g2, g3, g4, g5⟩ := e4.blk b cs hb
     refine ⟨cv, el, g1, g2, ?_, g4, fun j c x hc hx => ⟨(g5 j c x hc hx).1.move hE fun _ i hi => ⟨rfl, rfl, by simp [G2, hi]⟩, (g5 j c x hc hx).2⟩⟩
     show (match G'.owner (G'.μ b) with | some (Place.blk b) => some (Place.blk b) | some (Place.gc b j) => some (Place.gc b j) | some (Place.res j) => some (Place.res j) | _ => none) = some (Place.blk b)
     rw [g3]
    ·have := e8 i c x hc hx
     rw [Nat.zero_add] at this
     exact this.move hE fun _ i hi => ⟨rfl, rfl, by simp [G2, hi]⟩
   rcases he with rfl | rfl <;> exact hpost
  cases ex with
  | normal =>
   obtain ⟨rfl, hh⟩ := hq
   simp only [kfin] at h1
   obtain ⟨vs, hvs, h1⟩ := bind2 h1
   exact finish (.inl rfl) ⟨vs, hvs, (Option.some.inj h1).symm⟩ hh
  | ret =>
   obtain ⟨rfl, hh⟩ := hq
   simp only [kfin] at h1
   obtain ⟨vs, hvs, h1⟩ := bind2 h1
   exact finish (.inr rfl) ⟨vs, hvs, (Option.some.inj h1).symm⟩ hh
  | pan v =>
   obtain ⟨c, G', rfl, q1, q2, q3, q4⟩ := hq
   simp only [kfin] at h1
   obtain rfl := Option.some.inj h1
   exact ⟨q4, G', q2, q3, c, rfl, q1⟩
  | exit i => simp [kfin] at h1
 ·simp at h
def ExtOk (P : Program) (C : Ctx) : Prop := ∀ f s, C.ext f = some s → CallOk P C (fun g args σ => if g = f then s args σ else none)
theorem mask_length (own : List Nat) : ∀ (i : Nat) (cs : List Cell), (maskArgs own i cs).length = cs.length
 | _, [] => rfl
 | i, c :: cs => by simp [maskArgs, mask_length own (i + 1) cs]
theorem mask_get (own : List Nat) : ∀ (i : Nat) (cs : List Cell) (j : Nat) (c : Cell), (maskArgs own i cs)[j]? = some c → ∃ b, cs[j]? = some b ∧ c.1 = b.1 ∧ (c.2 = true → b.2 = true)
 | i, [], j, c, h => by simp [maskArgs] at h
 | i, b :: cs, 0, c, h => by
  simp only [maskArgs, List.getElem?_cons_zero, Option.some.injEq] at h
  subst h
  exact ⟨b, rfl, rfl, fun h => by simp at h; exact h.2⟩
 | i, b :: cs, j + 1, c, h => by
  simp only [maskArgs, List.getElem?_cons_succ] at h
  simpa using mask_get own (i + 1) cs j c h
theorem acall_sound (hC : CtxOk P C) (hX : ExtOk P C) : ∀ n, CallOk P C (acall C n)
 | 0 => fun f args σ r h => by simp [acall] at h
 | n + 1 => fun f args σ r h => by
  simp only [acall] at h
  split at h
  ·rename_i s hs
   have := hX f s hs f args σ r (by simp [h])
   exact this
  ·split at h
   ·rename_i d hd
    obtain ⟨h1, h2, h3⟩ := hC.fdef f d hd
    exact ⟨h3, fun G w vals hS hcl hl hv => afun_sound hC (acall_sound hC hX n) h1 h2 h G w vals hS (by rw [mask_length]; exact hcl) (by rw [mask_length]; exact hl) fun i c x hc hx => by
     obtain ⟨b, e1, e2, e3⟩ := mask_get _ _ _ _ _ hc
     have := hv i b x e1 hx
     exact ⟨by rw [e2]; exact this.1, fun ho => by rw [e2]; exact this.2 (e3 ho)⟩⟩
   ·simp at h
end
end Go.Ab
end
section
namespace Go.Ab
def codeL : Code → Code
 | .seq a _ => a
 | .cond _ a _ => a
 | .block _ b => b
 | .loop b => b
 | c => c
def codeR : Code → Code
 | .seq _ b => b
 | .cond _ _ b => b
 | c => c
def callK (call : CallF) (f : FuncId) (args : List Cell) (σ : Sto) (n : Nat) (K : List Cell → Sto → Option Res) (KP : V → Sto → Option Res) : Option Res :=
 match call f args σ with
 | none => none
 | some r => match r.1 with
  | .ret vs => if vs.length = n then K vs r.2 else none
  | .pan v => KP v r.2
theorem callK_ret {call : CallF} {f : FuncId} {args : List Cell} {σ σ' : Sto} {n : Nat} {K : List Cell → Sto → Option Res} {KP : V → Sto → Option Res} {vs : List Cell} (h : call f args σ = some (.ret vs, σ')) (hn : vs.length = n) :
  callK call f args σ n K KP = K vs σ' := by simp [callK, h, hn]
theorem callK_pan {call : CallF} {f : FuncId} {args : List Cell} {σ σ' : Sto} {n : Nat} {K : List Cell → Sto → Option Res} {KP : V → Sto → Option Res} {v : V} (h : call f args σ = some (.pan v, σ')) :
  callK call f args σ n K KP = KP v σ' := by simp [callK, h]
def look : List (TypeId × TI) → TypeId → Option TI
 | [], _ => none
 | (t, i) :: rest, u => bif Nat.beq t u then some i else look rest u
abbrev LL := List (List V)
abbrev RR := Sto → Option Res
def uu5 (v : V) : V := .agg [v.cell 0, v.cell 1, v.cell 2, v.cell 3, v.cell 4]
abbrev pnK (p : V) (σ : Sto) : Option Res := some (.pan p, σ)
def dd : Nat → List RV → List RV
 | 0, L => L
 | n + 1, L => .dead :: dd n L
def nn : Nat → List (List Cell) → List (List Cell)
 | 0, L => L
 | n + 1, L => [] :: nn n L
def cp : List Nat → Code → Code
 | [], c => c
 | 0 :: L, c => codeL (cp L c)
 | _ :: L, c => codeR (cp L c)
end Go.Ab
end
section
namespace Go.Ab
def Conv {α : Type} (x : Nat → Option α) (l : Option α) : Prop := ∀ r, l = some r → ∃ k, ∀ j, k ≤ j → x j = some r
theorem Conv.none {α : Type} (x : Nat → Option α) : Conv x none := fun r h => by simp at h
theorem Conv.const {α : Type} (l : Option α) : Conv (fun _ => l) l := fun r h => ⟨0, fun _ _ => h⟩
theorem Conv.bindC {α β : Type} (o : Option α) {g : Nat → α → Option β} {f : α → Option β} (h : ∀ a, Conv (fun k => g k a) (f a)) : Conv (fun k => o.bind (g k)) (o.bind f) := by
 cases o with
 | none => exact Conv.none _
 | some a => exact h a
theorem Conv.bind {α β : Type} {o : Nat → Option α} {ol : Option α} {g : Nat → α → Option β} {f : α → Option β} (ho : Conv o ol) (h : ∀ a, Conv (fun k => g k a) (f a)) : Conv (fun k => (o k).bind (g k)) (ol.bind f) := by
 intro r hr
 cases hol : ol with
 | none => simp [hol] at hr
 | some a =>
  rw [hol] at hr
  obtain ⟨k1, h1⟩ := ho a hol
  obtain ⟨k2, h2⟩ := h a r hr
  exact ⟨max k1 k2, fun j hj => by show (o j).bind (g j) = _; rw [h1 j (by omega)]; exact h2 j (by omega)⟩
theorem Conv.ite {α : Type} (p : Prop) [Decidable p] {a b : Nat → Option α} {al bl : Option α} (ha : Conv a al) (hb : Conv b bl) : Conv (fun k => if p then a k else b k) (if p then al else bl) := by
 by_cases hp : p
 ·simp only [if_pos hp]; exact ha
 ·simp only [if_neg hp]; exact hb
theorem Conv.cond {α : Type} (p : Bool) {a b : Nat → Option α} {al bl : Option α} (ha : Conv a al) (hb : Conv b bl) : Conv (fun k => bif p then a k else b k) (bif p then al else bl) := by
 cases p
 ·exact hb
 ·exact ha
section
variable {C : Ctx} {H : Hints} {ck : Nat → CallF} {cl : CallF}
theorem apply_conv (hc : ∀ f a σ, Conv (fun k => ck k f a σ) (cl f a σ)) (dst : Option Nat) (st : St) {Ks : Nat → Out → Option Res} {Kl : Out → Option Res} (hK : ∀ o, Conv (fun k => Ks k o) (Kl o)) (e : Eff) :
  Conv (fun k => apply H (ck k) dst st (Ks k) e) (apply H cl dst st Kl e) := by
 cases e with
 | val x => exact hK _
 | getL r o n agg steal =>
  simp only [apply]
  refine Conv.ite _ ?_ ?_
  ·exact Conv.ite _ (Conv.ite _ (hK _) (Conv.none _)) (Conv.none _)
  ·exact Conv.bindC _ fun v => hK _
 | setL r o cs => exact Conv.ite _ (hK _) (Conv.none _)
 | newL cs =>
  cases dst with
  | none => exact Conv.none _
  | some d => exact Conv.ite _ (hK _) (Conv.none _)
 | getS p n agg => exact Conv.bindC _ fun v => hK _
 | takeS p => exact Conv.bindC _ fun v => hK _
 | setS p cs => exact Conv.bindC _ fun v => hK _
 | newS t cs =>
  cases dst with
  | none => exact Conv.none _
  | some d => exact hK _
 | tupTake r i =>
  simp only [apply]
  split
  ·split
   ·exact hK _
   ·exact Conv.none _
  ·exact Conv.none _
 | call f args n =>
  intro r hr
  simp only [apply] at hr ⊢
  split at hr
  ·simp at hr
  ·rename_i r1 hr1
   obtain ⟨k1, h1⟩ := hc f args st.sto r1 hr1
   have hrest : Conv (fun k => match r1.1 with
     | .ret vs => if vs.length = n then (grd (toksOk H dst n vs)).bind fun _ => Ks k (.next ({ st with sto := r1.2 }.put dst (resV H dst n vs))) else none
     | .pan v => Ks k (.pan v { st with sto := r1.2 })) (match r1.1 with
     | .ret vs => if vs.length = n then (grd (toksOk H dst n vs)).bind fun _ => Kl (.next ({ st with sto := r1.2 }.put dst (resV H dst n vs))) else none
     | .pan v => Kl (.pan v { st with sto := r1.2 })) := by
    split
    ·exact Conv.ite _ (Conv.bindC _ fun _ => hK _) (Conv.none _)
    ·exact hK _
   obtain ⟨k2, h2⟩ := hrest r hr
   refine ⟨max k1 k2, fun j hj => ?_⟩
   have h3 : ck j f args st.sto = some r1 := h1 j (by omega)
   rw [h3]
   exact h2 j (by omega)
 | pan v => exact hK _
theorem aop_conv (hc : ∀ f a σ, Conv (fun k => ck k f a σ) (cl f a σ)) (o : Oper) (st : St) {Ks : Nat → Out → Option Res} {Kl : Out → Option Res} (hK : ∀ o, Conv (fun k => Ks k o) (Kl o)) :
  Conv (fun k => aop C H (ck k) o st (Ks k)) (aop C H cl o st Kl) := by
 simp only [aop, actK_eq]
 exact Conv.bindC _ fun e => apply_conv hc _ _ hK e
theorem aops_conv (hc : ∀ f a σ, Conv (fun k => ck k f a σ) (cl f a σ)) (dr : Option (List (List Nat))) (ops : Array Oper) :
  ∀ (l : List Nat) (st : St) {Ks : Nat → Out → Option Res} {Kl : Out → Option Res} (_ : ∀ o, Conv (fun k => Ks k o) (Kl o)), Conv (fun k => aops C H (ck k) dr ops l st (Ks k)) (aops C H cl dr ops l st Kl)
 | [], st, Ks, Kl, hK => hK _
 | i :: rest, st, Ks, Kl, hK => by
  have step : ∀ (o : Oper) (st : St), Conv (fun k => aop C H (ck k) o st fun out => match out with | .next st => aops C H (ck k) dr ops rest st (Ks k) | .pan v st => (grd (panOk dr i rest)).bind fun _ => Ks k (.pan v st))
    (aop C H cl o st fun out => match out with | .next st => aops C H cl dr ops rest st Kl | .pan v st => (grd (panOk dr i rest)).bind fun _ => Kl (.pan v st)) := by
   intro o st
   refine aop_conv hc o st fun out => ?_
   cases out with
   | next st => exact aops_conv hc dr ops rest st hK
   | pan v st => exact Conv.bindC _ fun _ => hK _
  simp only [aops]
  split
  ·exact Conv.none _
  ·refine Conv.bindC _ fun _ => ?_
   split
   ·exact step _ _
   ·split
    ·exact Conv.none _
    ·split
     ·refine Conv.bindC _ fun b => Conv.cond _ ?_ ?_
      ·exact Conv.ite _ (step _ _) (aops_conv hc dr ops rest _ hK)
      ·exact Conv.ite _ (aops_conv hc dr ops rest _ hK) (step _ _)
     ·exact aops_conv hc dr ops rest _ hK
     ·exact Conv.none _
theorem aloop_conv {body : Nat → St → (Ex → St → Option Res) → Option Res} {bodyl : St → (Ex → St → Option Res) → Option Res} (keep : List Nat)
  (hb : ∀ st (Ks : Nat → Ex → St → Option Res) (Kl : Ex → St → Option Res), (∀ ex st, Conv (fun k => Ks k ex st) (Kl ex st)) → Conv (fun k => body k st (Ks k)) (bodyl st Kl)) :
  ∀ (n : Nat) (ns : Nat → Nat) (_ : ∃ k0, ∀ k, k0 ≤ k → n ≤ ns k) (st : St) (Ks : Nat → Ex → St → Option Res) (Kl : Ex → St → Option Res), (∀ ex st, Conv (fun k => Ks k ex st) (Kl ex st)) →
   Conv (fun k => aloop (body k) keep (ns k) st (Ks k)) (aloop bodyl keep n st Kl)
 | 0, ns, hn, st, Ks, Kl, hK => Conv.none _
 | n + 1, ns, ⟨k0, hn⟩, st, Ks, Kl, hK => by
  have key : Conv (fun k => body k st (kloop keep (fun st' => aloop (body k) keep (ns k - 1) st' (Ks k)) (Ks k))) (bodyl st (kloop keep (fun st' => aloop bodyl keep n st' Kl) Kl)) := by
   refine hb st (fun k => kloop keep (fun st' => aloop (body k) keep (ns k - 1) st' (Ks k)) (Ks k)) _ fun ex st' => ?_
   cases ex with
   | normal => exact aloop_conv keep hb n (fun k => ns k - 1) ⟨k0, fun k hk => by have := hn k hk; omega⟩ _ Ks Kl hK
   | exit i => exact hK _ _
   | ret => exact hK _ _
   | pan v => exact hK _ _
  intro r hr
  obtain ⟨k1, h1⟩ := key r hr
  refine ⟨max k0 k1, fun j hj => ?_⟩
  have h2 := hn j (by omega)
  obtain ⟨m, hm⟩ : ∃ m, ns j = m + 1 := ⟨ns j - 1, by omega⟩
  have h3 : body j st (kloop keep (fun st' => aloop (body j) keep (ns j - 1) st' (Ks j)) (Ks j)) = some r := h1 j (by omega)
  show aloop (body j) keep (ns j) st (Ks j) = some r
  rw [hm] at h3 ⊢
  exact h3
theorem aexec_conv (hc : ∀ f a σ, Conv (fun k => ck k f a σ) (cl f a σ)) {n : Nat} {ns : Nat → Nat} (hn : ∃ k0, ∀ k, k0 ≤ k → n ≤ ns k) :
  ∀ (c : Code) (id : Nat) (st : St) (Ks : Nat → Ex → St → Option Res) (Kl : Ex → St → Option Res), (∀ ex st, Conv (fun k => Ks k ex st) (Kl ex st)) →
   Conv (fun k => aexec C H (ck k) (ns k) c id st (Ks k)) (aexec C H cl n c id st Kl)
 | .skip, _, st, Ks, Kl, hK => hK _ _
 | .label l, _, st, Ks, Kl, hK => hK _ _
 | .region id ops draw, _, st, Ks, Kl, hK => by
  have fin : ∀ out, Conv (fun k => match out with | Out.next st => Ks k .normal st | .pan v st => Ks k (.pan v) st) (match out with | .next st => Kl .normal st | .pan v st => Kl (.pan v) st) := by
   intro out
   cases out <;> exact hK _ _
  simp only [aexec]
  refine Conv.ite _ ?_ ?_
  ·exact Conv.bindC _ fun _ => aops_conv hc _ _ _ _ fin
  ·exact aops_conv hc _ _ _ _ fin
 | .seq x y, id, st, Ks, Kl, hK => by
  simp only [aexec]
  refine aexec_conv hc hn x 0 st (fun k => kseq (fun st' => aexec C H (ck k) (ns k) y 0 st' (Ks k)) (Ks k)) _ fun ex st' => ?_
  cases ex with
  | normal => exact aexec_conv hc hn y 0 st' Ks Kl hK
  | exit i => exact hK _ _
  | ret => exact hK _ _
  | pan v => exact hK _ _
 | .cond c x y, id, st, Ks, Kl, hK => by
  simp only [aexec]
  split
  ·split
   ·exact Conv.bindC _ fun b => Conv.cond _ (aexec_conv hc hn x 0 _ Ks Kl hK) (aexec_conv hc hn y 0 _ Ks Kl hK)
   ·exact Conv.none _
  ·exact Conv.ite _ (aexec_conv hc hn x 0 _ Ks Kl hK) (aexec_conv hc hn y 0 _ Ks Kl hK)
  ·exact Conv.none _
 | .block i body, id, st, Ks, Kl, hK => by
  simp only [aexec]
  refine aexec_conv hc hn body i st (fun k => kblk i (Ks k)) _ fun ex st' => ?_
  cases ex with
  | normal => exact hK _ _
  | exit j => simp only [kblk]; exact Conv.ite _ (hK _ _) (hK _ _)
  | ret => exact hK _ _
  | pan v => exact hK _ _
 | .loop body, id, st, Ks, Kl, hK => by
  simp only [aexec]
  exact aloop_conv (body := fun k st K => aexec C H (ck k) (ns k) body 0 st K) (H.keep id) (fun st Ks Kl hK => aexec_conv hc hn body 0 st Ks Kl hK) n ns hn _ Ks Kl hK
 | .exit i, id, st, Ks, Kl, hK => hK _ _
 | .ret, id, st, Ks, Kl, hK => hK _ _
 | .rangeFunc .., id, st, Ks, Kl, hK => Conv.none _
 | .scope .., id, st, Ks, Kl, hK => Conv.none _
 | .goto _, id, st, Ks, Kl, hK => Conv.none _
 | .refuse _, id, st, Ks, Kl, hK => Conv.none _
theorem afun_conv (hc : ∀ f a σ, Conv (fun k => ck k f a σ) (cl f a σ)) {n : Nat} {ns : Nat → Nat} (hn : ∃ k0, ∀ k, k0 ≤ k → n ≤ ns k) (d : FDef) (args : List Cell) (σ : Sto) :
  Conv (fun k => afun C d (ck k) (ns k) args σ) (afun C d cl n args σ) := by
 simp only [afun]
 exact Conv.ite _ (aexec_conv hc hn _ _ _ (fun _ => kfin C d) (kfin C d) fun ex st => Conv.const _) (Conv.none _)
theorem acall_mono1 : ∀ (n m : Nat) (f : FuncId) (args : List Cell) (σ : Sto) (r : Res), n ≤ m → acall C n f args σ = some r → acall C m f args σ = some r
 | 0, m, f, args, σ, r, hm, h => by simp [acall] at h
 | n + 1, 0, f, args, σ, r, hm, h => by omega
 | n + 1, m + 1, f, args, σ, r, hm, h => by
  simp only [acall] at h ⊢
  split
  ·rename_i s hs
   rw [hs] at h
   exact h
  ·rename_i hs
   rw [hs] at h
   simp only at h
   split
   ·rename_i d hd
    rw [hd] at h
    simp only at h
    obtain ⟨k, hk⟩ := afun_conv (ck := fun _ => acall C m) (ns := fun _ => m) (fun f a σ r hr => ⟨0, fun j _ => acall_mono1 n m f a σ r (by omega) hr⟩) ⟨0, fun k _ => (by omega : n ≤ m)⟩ d (maskArgs d.hints.own 0 args) σ r h
    exact hk k (Nat.le_refl _)
   ·rename_i hd
    rw [hd] at h
    simp at h
noncomputable def lim (C : Ctx) : CallF := fun f args σ => open Classical in if h : ∃ r n, acall C n f args σ = some r then some h.choose else none
theorem lim_iff {f : FuncId} {args : List Cell} {σ : Sto} {r : Res} : lim C f args σ = some r ↔ ∃ n, acall C n f args σ = some r := by
 unfold lim
 constructor
 ·intro h
  split at h
  ·rename_i hx
   obtain rfl := Option.some.inj h
   exact hx.choose_spec
  ·simp at h
 ·rintro ⟨n, hn⟩
  have hx : ∃ r n, acall C n f args σ = some r := ⟨r, n, hn⟩
  rw [dif_pos hx]
  obtain ⟨m, hm⟩ := hx.choose_spec
  have h1 := acall_mono1 n (max n m) f args σ r (by omega) hn
  have h2 := acall_mono1 m (max n m) f args σ _ (by omega) hm
  exact h2.symm.trans h1
theorem lim_conv (f : FuncId) (a : List Cell) (σ : Sto) : Conv (fun k => acall C k f a σ) (lim C f a σ) := by
 intro r hr
 obtain ⟨n, hn⟩ := lim_iff.1 hr
 exact ⟨n, fun j hj => acall_mono1 n j f a σ r hj hn⟩
theorem lim_of {f : FuncId} {d : FDef} (hx : C.ext f = none) (hd : C.fdef f = some d) (n : Nat) {args : List Cell} {σ : Sto} {r : Res} (h : afun C d (lim C) n (maskArgs d.hints.own 0 args) σ = some r) : lim C f args σ = some r := by
 obtain ⟨k, hk⟩ := afun_conv (ck := acall C) (ns := id) (n := n) lim_conv ⟨n, fun k hk => hk⟩ d (maskArgs d.hints.own 0 args) σ r h
 exact lim_iff.2 ⟨k + 1, by simp only [acall, hx, hd]; exact hk k (Nat.le_refl _)⟩
theorem lim_ext {f : FuncId} {s : List Cell → Sto → Option Res} (hx : C.ext f = some s) {args : List Cell} {σ : Sto} {r : Res} (h : s args σ = some r) : lim C f args σ = some r :=
 lim_iff.2 ⟨1, by simp only [acall, hx]; exact h⟩
theorem lim_ok {P : Program} (hC : CtxOk P C) (hX : ExtOk P C) : CallOk P C (lim C) := by
 intro f args σ r h
 obtain ⟨n, hn⟩ := lim_iff.1 h
 exact acall_sound hC hX n f args σ r hn
end
end Go.Ab
end
