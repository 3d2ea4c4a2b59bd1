/- Print of a term by the reference. -/
import Derived.Test.YtblgboigcpbidaaGreatDoorAbFp2
import Derived.Test.YtblgboigcpbidaaGreatDoorAbMk1
import Derived.Test.YtblgboigcpbidaaGreatDoorLvPu
set_option linter.unusedSimpArgs false
set_option linter.unusedVariables false
set_option linter.deprecated false
section
namespace Go.Ab
open Go.RowKit Go.Proofs
set_option maxRecDepth 100000
set_option maxHeartbeats 1000000
def FlatN (m : Nat) (rows : List (List Value)) (xs : List Value) : Prop :=
 (∀ x ∈ rows, x.length = m) ∧ xs.length = rows.length * m ∧ ∀ (i j : Nat) (x : List Value) (c : Value), rows[i]? = some x → x[j]? = some c → xs[i * m + j]? = some c
theorem FlatN.nil (m : Nat) : FlatN m [] [] := ⟨by simp, by simp, fun i j x c h => by simp at h⟩
theorem FlatN.snoc {m : Nat} {rows : List (List Value)} {xs x : List Value} (h : FlatN m rows xs) (hx : x.length = m) : FlatN m (rows ++ [x]) (xs ++ x) := by
 refine ⟨?_, by rw [List.length_append, List.length_append, h.2.1, hx, List.length_singleton, Nat.add_mul]; omega, fun i j y c hy hc => ?_⟩
 ·intro y hy
  rw [List.mem_append, List.mem_singleton] at hy
  rcases hy with hy | rfl
  ·exact h.1 y hy
  ·exact hx
 by_cases hi : i < rows.length
 ·rw [List.getElem?_append_left hi] at hy
  have hj : j < m := by have := (List.getElem?_eq_some_iff.1 hc).1; rw [h.1 y (List.mem_of_getElem? hy)] at this; exact this
  have hm : (i + 1) * m ≤ rows.length * m := Nat.mul_le_mul_right m (by omega)
  rw [Nat.succ_mul] at hm
  rw [List.getElem?_append_left (by rw [h.2.1]; omega)]
  exact h.2.2 i j y c hy hc
 ·rw [List.getElem?_append_right (by omega)] at hy
  obtain ⟨h1, h2⟩ := List.getElem?_eq_some_iff.1 hy
  simp only [List.length_singleton] at h1
  have h0 : i - rows.length = 0 := by omega
  simp only [h0, List.getElem_cons_zero] at h2
  subst h2
  obtain rfl : i = rows.length := by omega
  rw [List.getElem?_append_right (by rw [h.2.1]; omega), h.2.1, show rows.length * m + j - rows.length * m = j by omega]
  exact hc
structure ElsRel (G : Gh) (w : World) (m : Nat) (es : List (List V)) (rows : List (List Value)) (xs : List Value) : Prop where
 flat : FlatN m rows xs
 len : rows.length = es.length
 el : ∀ e ∈ es, e.length = m
 one : ∀ x ∈ rows, ∀ c ∈ x, c.oneCell' = true
 rel : ∀ (i j : Nat) (e : List V) (x : List Value) (v : V) (c : Value), es[i]? = some e → rows[i]? = some x → e[j]? = some v → x[j]? = some c → Rel G w v c
theorem ElsRel.nil (G : Gh) (w : World) (m : Nat) : ElsRel G w m [] [] [] := ⟨FlatN.nil m, rfl, by simp, by simp, fun i j e x v c h => by simp at h⟩
theorem ElsRel.map {G G' : Gh} {w w' : World} {m : Nat} {es : List (List V)} {rows : List (List Value)} {xs : List Value} (h : ElsRel G w m es rows xs) (f : ∀ v c, Rel G w v c → Rel G' w' v c) : ElsRel G' w' m es rows xs :=
 ⟨h.flat, h.len, h.el, h.one, fun i j e x v c h1 h2 h3 h4 => f v c (h.rel i j e x v c h1 h2 h3 h4)⟩
theorem ElsRel.snoc {G : Gh} {w : World} {m : Nat} {es : List (List V)} {rows : List (List Value)} {xs : List Value} (h : ElsRel G w m es rows xs) {e : List V} {x : List Value} (he : e.length = m) (hx : x.length = m) (h1 : ∀ c ∈ x, c.oneCell' = true)
  (hr : ∀ (j : Nat) (v : V) (c : Value), e[j]? = some v → x[j]? = some c → Rel G w v c) : ElsRel G w m (es ++ [e]) (rows ++ [x]) (xs ++ x) := by
 refine ⟨h.flat.snoc hx, by simp [h.len], ?_, ?_, ?_⟩
 ·intro y hy
  rw [List.mem_append, List.mem_singleton] at hy
  rcases hy with hy | rfl
  ·exact h.el y hy
  ·exact he
 ·intro y hy
  rw [List.mem_append, List.mem_singleton] at hy
  rcases hy with hy | rfl
  ·exact h.one y hy
  ·exact h1
 ·intro i j e' x' v c g1 g2 g3 g4
  by_cases hi : i < es.length
  ·rw [List.getElem?_append_left hi] at g1
   rw [List.getElem?_append_left (by rw [h.len]; exact hi)] at g2
   exact h.rel i j e' x' v c g1 g2 g3 g4
  ·have hl := h.len
   rw [List.getElem?_append_right (by omega)] at g1
   rw [List.getElem?_append_right (by omega)] at g2
   obtain ⟨a1, a2⟩ := List.getElem?_eq_some_iff.1 g1
   obtain ⟨b1, b2⟩ := List.getElem?_eq_some_iff.1 g2
   simp only [List.length_singleton] at a1 b1
   have h0 : i - es.length = 0 := by omega
   have h0' : i - rows.length = 0 := by omega
   simp only [h0, List.getElem_cons_zero] at a2
   simp only [h0', List.getElem_cons_zero] at b2
   subst a2; subst b2
   exact hr j v c g3 g4
theorem ElsRel.slice {G : Gh} {w : World} {m n0 : Nat} {es : List (List V)} {rows : List (List Value)} {xs : List Value} (h : ElsRel G w m es rows xs) {g cap : Nat} {cur : Array Value} {ty et : TypeId} {fr : Nat × Nat} (og : Own1 n0 G g) (hg : w.heap[g]? = some (.cells cur ty fr))
  (htake : cur.toList.take (es.length * m) = xs) (hcap : es.length ≤ cap) : Rel (G.settle g (es.length * m)) w (.slice m et es) (.slice (some ⟨g, 0, none⟩) es.length cap) := by
 refine Rel.slice m et es g 0 cap rows h.len hcap ?_ (fun i e he => h.el e (List.mem_of_getElem? he)) (fun i x hx => h.flat.1 x (List.mem_of_getElem? hx)) (fun i j x c hi hj => ?_) (fun i j e x v c he hi hv hc => Gh.settle_rel og.lim (h.rel i j e x v c he hi hv hc))
 ·show 0 + es.length * m ≤ if g = g then es.length * m else _
  rw [if_pos rfl]; omega
 ·refine ⟨?_, h.one x (List.mem_of_getElem? hi) c (List.mem_of_getElem? hj)⟩
  have hc := h.flat.2.2 i j x c hi hj
  have hi' := (List.getElem?_eq_some_iff.1 hi).1
  have hj' : j < m := by have := (List.getElem?_eq_some_iff.1 hj).1; rw [h.flat.1 x (List.mem_of_getElem? hi)] at this; exact this
  have hm : (i + 1) * m ≤ es.length * m := Nat.mul_le_mul_right m (by rw [← h.len]; omega)
  rw [Nat.succ_mul] at hm
  rw [← htake, List.getElem?_take, if_pos (by omega), Array.getElem?_toList] at hc
  rw [cell?_of_heap hg, Nat.zero_add]
  exact hc
theorem SInv.drew {gl : Nat → Option (List V)} {G : Gh} {w : World} {σ : Sto} (h : SInv gl G w σ) : SInv gl G w.drew σ :=
 h.move (fl := fun _ => True) (Ext.same rfl rfl rfl rfl) (Keeps.same rfl) h.wf rfl (fun _ _ => trivial) (fun _ _ _ _ _ _ => trivial)
theorem ownsRow_heap {w w' : World} {base : Nat} {e : TypeId} {size : Nat} {v : Value} {n : Nat} {xs : List Value} (h : w.ownsRow base e size v n xs) (hh : ∀ i, v.ownBlock = some i → w'.heap[i]? = w.heap[i]?) : w'.ownsRow base e size v n xs := by
 refine ⟨h.1, ?_⟩
 rcases h.2 with h | ⟨g, cap, cur, q1, q2, q3, q4⟩
 ·exact .inl h
 ·exact .inr ⟨g, cap, cur, q1, q2, (hh g (by rw [q1]; rfl)).trans q3, q4⟩
theorem Mk.slvR {G : Gh} {w : World} {a : V} {c : Value} (ha : slv a = true) (h : Rel G w a c) : ∃ p l k, c = .slice p l k := by
 unfold slv at ha
 split at ha
 ·cases h <;> exact ⟨_, _, _, rfl⟩
 ·cases h; exact ⟨_, _, _, rfl⟩
 ·simp at ha
theorem Mk.asDecl_rel {v : V} {cs : List V} (h : Mk.asDecl v = some cs) {G : Gh} {w : World} {c : Value} (hr : Rel G w v c) :
  ∃ x, Mk.ShpD x ∧ c = .agg x.toArray ∧ cs.length = 15 ∧ x.length = 15 ∧ ∀ (j : Nat) (u : V) (y : Value), cs[j]? = some u → x[j]? = some y → Rel G w u y := by
 unfold Mk.asDecl at h
 split at h
 case h_2 => simp at h
 rename_i k n p k1 m1 n1 l1 a1 k2 m2 n2 l2 a2 ar cc
 split at h
 case isFalse => simp at h
 rename_i hh
 obtain rfl := Option.some.inj h
 simp only [Bool.and_eq_true] at hh
 obtain ⟨⟨⟨⟨⟨h1, h2⟩, h3⟩, h4⟩, h5⟩, h6⟩ := hh
 cases hr with
 | agg _ xs e1 e2 e3 =>
 obtain ⟨x0, x1, x2, x3, x4, x5, x6, x7, x8, x9, x10, x11, x12, x13, x14, rfl⟩ : ∃ x0 x1 x2 x3 x4 x5 x6 x7 x8 x9 x10 x11 x12 x13 x14, xs = [x0, x1, x2, x3, x4, x5, x6, x7, x8, x9, x10, x11, x12, x13, x14] := by
  match xs, e1 with
  | [x0, x1, x2, x3, x4, x5, x6, x7, x8, x9, x10, x11, x12, x13, x14], _ => exact ⟨_, _, _, _, _, _, _, _, _, _, _, _, _, _, _, rfl⟩
 refine ⟨_, ?_, rfl, rfl, rfl, e3⟩
 have r0 := e3 0 _ _ rfl rfl
 have r1 := e3 1 _ _ rfl rfl
 have r3 := e3 3 _ _ rfl rfl
 have r4 := e3 4 _ _ rfl rfl
 have r5 := e3 5 _ _ rfl rfl
 have r8 := e3 8 _ _ rfl rfl
 have r9 := e3 9 _ _ rfl rfl
 have r10 := e3 10 _ _ rfl rfl
 have r13 := e3 13 _ _ rfl rfl
 obtain ⟨_, _, _, rfl⟩ := Mk.slvR h1 (e3 2 _ _ rfl rfl)
 obtain ⟨_, _, _, rfl⟩ := Mk.slvR h2 (e3 6 _ _ rfl rfl)
 obtain ⟨_, _, _, rfl⟩ := Mk.slvR h3 (e3 7 _ _ rfl rfl)
 obtain ⟨_, _, _, rfl⟩ := Mk.slvR h4 (e3 11 _ _ rfl rfl)
 obtain ⟨_, _, _, rfl⟩ := Mk.slvR h5 (e3 12 _ _ rfl rfl)
 obtain ⟨_, _, _, rfl⟩ := Mk.slvR h6 (e3 14 _ _ rfl rfl)
 cases r0
 cases r1
 cases r3
 cases r4
 cases r5
 cases r8
 cases r9
 cases r10
 cases r13
 exact .mk ..
theorem Mk.tok_cell {gl : Nat → Option (List V)} {G : Gh} {w : World} {σ : Sto} {t : TypeId} {b qb : Nat} {tok : ByteArray} (hS : SInv gl G w σ) (h : Mk.tokOf σ b = some tok) (hp : Rel G w (.ptr t b 0) (.pointer (some ⟨qb, 0, none⟩))) : w.cell? ⟨qb, 2, none⟩ = some (.string tok) := by
 unfold Mk.tokOf at h
 obtain ⟨cs, hcs, h⟩ := bind2 h
 obtain ⟨c, hc, h⟩ := bind2 h
 have e : c.1 = .str tok := by
  unfold V.asStr at h
  split at h
  ·rename_i hh; rw [hh]; rw [Option.some.inj h]
  ·simp at h
 cases hp with
 | ptr _ _ _ _ _ =>
 obtain ⟨cv, el, g1, g2, g3, g4, g5⟩ := hS.blk b cs hcs
 have hlt := (List.getElem?_eq_some_iff.1 hc).1
 have hx : cv[2]? = some (cv[2]'(by omega)) := Array.getElem?_eq_getElem _
 obtain ⟨⟨r1, _⟩, _⟩ := g5 2 c _ hc hx
 rw [e] at r1
 rw [cell?_of_heap g1, hx]
 generalize cv[2]'(by omega) = y at r1
 cases r1
 rfl
section
variable {C : Ctx} {call : CallF}
structure Mk.FpI (C : Ctx) (call : CallF) (G0 : Gh) (w0 : World) (t : TypeId) (b : Nat) (r : Res) (qb k : Nat) (dsv : Value) (n : Nat) (xs : List Value) (w : World) : Prop where
 ex : ∃ (G : Gh) (σ : Sto) (es : List (List V)) (rows : List (List Value)), Mk.floop call t b k es σ = some r ∧ SInv C.glob G w σ ∧ Clean G 1 ∧ Own1 w0.heap.size G w0.heap.size ∧ Own1 w0.heap.size G (w0.heap.size + 1) ∧
  (∀ i, dsv.ownBlock = some i → Own1 w0.heap.size G i) ∧ ExtB w0.heap.size G0 w0 G w ∧ Rel G w (.ptr t b 0) (.pointer (some ⟨qb, 0, none⟩)) ∧ ElsRel G w 15 es rows xs ∧ es.length = n
 loop : Mk.FpL w0.heap.size dsv n xs w
def Mk.FpQ (C : Ctx) (G0 : Gh) (w0 : World) (r : Res) (en : Ending) (w' : World) : Prop := ∃ G', Ext G0 w0 G' w' ∧ SInv C.glob G' w' r.2 ∧ EndRel G' w' r.1 en
theorem Mk.fpi_head (hcall : CallOk Tryz.prog C call) {G0 : Gh} {w0 : World} {t : TypeId} {b : Nat} {r : Res} {qb k : Nat} {dsv : Value} {n : Nat} {xs : List Value} {w : World} (h : Mk.FpI C call G0 w0 t b r qb k dsv n xs w) :
  ∃ tok, Mk.FpH w0.heap.size ⟨qb, 0, none⟩ dsv n xs k (Mk.FpI C call G0 w0 t b r qb) (Mk.FpQ C G0 w0 r) w tok := by
 obtain ⟨⟨G1, σ1, es, rows, hfl, S1, Cl1, oB, oE, oD, B1, R1, L1, hn⟩, hL⟩ := h
 match k, hfl with
 | 0, hfl => simp [Mk.floop] at hfl
 | m + 1, hfl =>
 unfold Mk.floop at hfl
 obtain ⟨tok, htok, hfl⟩ := bind2 hfl
 have hl1 := (Array.getElem?_eq_some_iff.1 hL.has.l).1
 have hl2 := (Array.getElem?_eq_some_iff.1 hL.has.e).1
 refine ⟨tok, hL, Mk.tok_cell S1 htok R1, fun h0 w2 hN => ?_, fun h0 => ?_⟩
 ·rw [if_pos h0] at hfl
  obtain rfl := Option.some.inj hfl
  have S2 := hN.sinv oB.lim oE.lim oB.own oE.own S1
  have B2 := B1.trans (hN.extB oB.lim oE.lim (Nat.le_refl _) (Nat.le_succ _))
  have L2 := L1.map fun v c hr => hN.rel oB.lim oE.lim hr
  have hown : w2.ownsRow (w0.heap.size + 2) 47 15 dsv n xs := ownsRow_heap hL.own fun i hi => hN.heap i (by have := (hL.own.lt i hi).1; omega) (by have := (hL.own.lt i hi).1; omega)
  rcases hown.2 with ⟨rfl, h00⟩ | ⟨g, cap, cur, rfl, q2, q3, q4, q5, q6, q7⟩
  ·obtain rfl : es = [] := List.length_eq_zero_iff.1 (hn.trans h00)
   exact ⟨G1, B2.toExt, S2, end_two (.snil _ _) .nilIface⟩
  ·have og := oD g rfl
   subst hn
   refine ⟨G1.settle g (es.length * 15), (B2.trans (Gh.settle_ext og)).toExt, Gh.settle_sinv og (Array.getElem?_eq_some_iff.1 q3).1 S2, end_two (L2.slice og q3 q7 q4) .nilIface⟩
 ·rw [if_neg h0] at hfl
  have E0 : Ext G1 w G1 w.drew := Ext.same rfl rfl rfl rfl
  generalize hr : call 17 [(.ptr t b 0, false)] σ1 = rr at hfl
  have H : ∀ r', call 17 [(.ptr t b 0, false)] σ1 = some r' → _ := fun r' hr' => (hcall 17 _ _ r' hr').2 G1 w.drew [.pointer (some ⟨qb, 0, none⟩)] S1.drew Cl1 rfl (fun i c x hc hx => by
   match i with
   | 0 => simp at hc hx; subst hc; subst hx; exact ⟨R1.mono E0, fun ho => by simp at ho⟩
   | i + 1 => simp at hc)
  split at hfl
  case h_3 => simp at hfl
  ·rename_i d ow σ2
   obtain ⟨cs, hcs, hfl⟩ := bind2 hfl
   split at hfl
   case isFalse => simp at hfl
   rename_i hlt
   refine (H _ hr).mono fun e w2 hh => ?_
   obtain ⟨G2, E2, S2, vs, hvl, rfl, hrel⟩ := hh
   obtain ⟨c, rfl⟩ : ∃ c, vs = [c] := by
    match vs, hvl with
    | [c], _ => exact ⟨c, rfl⟩
   have hd := (hrel 0 _ _ rfl rfl).1
   simp only at hd
   obtain ⟨x, hshp, rfl, hl15, hx15, hxr⟩ := Mk.asDecl_rel hcs hd
   obtain ⟨oB2, hB2⟩ := oB.ext (E0.trans E2) hl1
   obtain ⟨oE2, hE2⟩ := oE.ext (E0.trans E2) hl2
   have oD2 : ∀ i, dsv.ownBlock = some i → Own1 w0.heap.size G2 i ∧ w2.heap[i]? = w.heap[i]? := fun i hi => (oD i hi).ext (E0.trans E2) (hL.own.lt i hi).2
   have hsz := E2.size
   have hsz' : w.heap.size ≤ w2.heap.size := hsz
   refine .inl ⟨x, hshp, by simp, ⟨⟨hB2.trans hL.has.l, hE2.trans hL.has.e⟩, ownsRow_heap hL.own fun i hi => (oD2 i hi).2, Nat.le_trans hL.lt hsz'⟩, by omega, m, Nat.lt_succ_self m, ?_⟩
   intro dsv' w3 hL' hG
   have hM : Mine w0.heap.size G2 w2 w3 := ⟨hG.os, hG.tape, hG.output, hG.size, fun i hi hne => hG.heap i hi (by rintro rfl; exact hne oB2) (fun e => hne (oD2 i e).1)⟩
   have hle : w0.heap.size ≤ w2.heap.size := by omega
   refine ⟨⟨G2.bare, σ2, es ++ [cs], rows ++ [x], hfl, (hM.sinv S2).bare, Gh.bare_clean _, oB2.bare, oE2.bare, fun i hi => ?_, ?_, ?_, ?_, by simp [hn]⟩, hL'⟩
   ·rcases hG.at_ with h | ⟨g, h, hg⟩
    ·exact (oD2 i (h.symm.trans hi)).1.bare
    ·obtain rfl : g = i := Option.some.inj (h.symm.trans hi)
     exact (Own1.new S2.wf hle hg).bare
   ·have b2 := B1.trans ((E0.trans E2).toB (by omega))
    exact (b2.trans (hM.extB S2.wf hle)).trans (Gh.bare_ext.toB (by have := hM.size; omega))
   ·exact (hM.rel S2.wf (R1.mono (E0.trans E2))).mono Gh.bare_ext
   ·refine ElsRel.snoc (L1.map fun v c hr => (hM.rel S2.wf (hr.mono (E0.trans E2))).mono Gh.bare_ext) hl15 hx15 (Mk.ShpD.one hshp) fun j v c hv hc => (hM.rel S2.wf (hxr j v c hv hc)).mono Gh.bare_ext
  ·rename_i v σ2
   obtain ⟨x, rfl, rfl⟩ := Mk.caughtF_inv hfl
   refine (H _ hr).mono fun e w2 hh => ?_
   obtain ⟨G2, E2, S2, c, rfl, hrel⟩ := hh
   cases hrel with
   | iface _ _ cx hcx =>
   obtain ⟨oB2, hB2⟩ := oB.ext (E0.trans E2) hl1
   obtain ⟨oE2, hE2⟩ := oE.ext (E0.trans E2) hl2
   refine .inr ⟨cx, rfl, ⟨hB2.trans hL.has.l, hE2.trans hL.has.e⟩, ?_⟩
   intro w3 hN
   refine ⟨G2, ((B1.trans ((E0.trans E2).toB (by omega))).trans (hN.extB oB2.lim oE2.lim (Nat.le_refl _) (Nat.le_succ _))).toExt, hN.sinv oB2.lim oE2.lim oB2.own oE2.own S2, ?_⟩
   exact end_two (.snil _ _) (.iface _ _ _ (hN.rel oB2.lim oE2.lim hcx))
theorem fparse_ok (hcall : CallOk Tryz.prog C call) (henter : ∀ (args : Array Value) (w : World), (callFunc 5 args).run Tryz.prog w = .ok (.enter 5 args) w) :
  CallOk Tryz.prog C (fun g args σ => if g = 5 then Mk.fparseS call args σ else none) := by
 intro g args σ r h
 simp only at h
 split at h
 case isFalse => simp at h
 rename_i hg
 subst hg
 refine ⟨henter, fun G w vals hS hcl hlen hv => ?_⟩
 unfold Mk.fparseS at h
 split at h
 case h_2 => simp at h
 rename_i s ow
 obtain ⟨x, rfl⟩ : ∃ x, vals = [x] := by
  match vals, hlen with
  | [x], _ => exact ⟨x, rfl⟩
 have hx := (hv 0 _ x rfl rfl).1
 simp only at hx
 cases hx with
 | str =>
 have I1 := ((sinv_inv hS).alloc (.cells #[.slice none 0 0] 27) 0 none)
 have E1 := Ext.alloc hS.wf (.cells #[.slice none 0 0] 27) 0 none
 split at h
 ·rename_i hb
  obtain rfl := Option.some.inj h
  have I2 := I1.alloc (.cells #[.iface 49 (.pointer (some ⟨w.heap.size + 1 + 1, 0, none⟩))] 29) 0 none
  have E2 := Ext.alloc I1.sto.wf (.cells #[.iface 49 (.pointer (some ⟨w.heap.size + 1 + 1, 0, none⟩))] 29) 0 none
  obtain ⟨G3, E3, I3, n3, m3, t3⟩ := I2.newSto (C := { C with glob := C.glob }) [(.int .i64 2, false), (.int .i64 0, false)] #[.int .i64 2, .int .i64 0] 33 rfl (fun j c x hc hx => by
   match j with
   | 0 => simp at hc hx; subst hc; subst hx; exact ⟨⟨.int _ _, fun ho => by simp at ho⟩, rfl⟩
   | 1 => simp at hc hx; subst hc; subst hx; exact ⟨⟨.int _ _, fun ho => by simp at ho⟩, rfl⟩
   | j + 2 => simp at hc)
  refine (Mk.fparse_long s w hb).mono fun en w' ⟨he, hw⟩ => ?_
  subst he; subst hw
  refine ⟨G3, (E1.trans E2).trans E3, I3.sto, end_two (.snil _ _) (.iface 49 _ _ ?_)⟩
  have hp := Rel.ptr (G := G3) (w := ((w.alloc (.cells #[.slice none 0 0] 27)).alloc (.cells #[.iface 49 (.pointer (some ⟨w.heap.size + 1 + 1, 0, none⟩))] 29)).alloc (.cells #[.int .i64 2, .int .i64 0] 33)) 33 σ.length 0 (by rw [n3]; simp) t3
  have hm : G3.μ σ.length = w.heap.size + 1 + 1 := by rw [show σ.length = _ from rfl, m3]; simp
  rw [hm] at hp
  exact hp
 ·rename_i hb
  have I2 := I1.alloc (.cells #[.nilIface] 29) 0 none
  have E2 := E1.trans (Ext.alloc I1.sto.wf (.cells #[.nilIface] 29) 0 none)
  have S1 := I2.sto
  have hB1 : ((w.alloc (.cells #[.slice none 0 0] 27)).alloc (.cells #[.nilIface] 29)).heap[w.heap.size]? = some (.cells #[.slice none 0 0] 27 (0, 0)) := by
   rw [heap_alloc_lt (by simp)]; exact heap_alloc_new _ _
  have hE1 : ((w.alloc (.cells #[.slice none 0 0] 27)).alloc (.cells #[.nilIface] 29)).heap[w.heap.size + 1]? = some (.cells #[.nilIface] 29 (0, 0)) := by
   have := heap_alloc_new (w.alloc (.cells #[.slice none 0 0] 27)) (.cells #[.nilIface] 29)
   simpa using this
  have hw0 := hS.wf w.heap.size (Nat.le_refl _)
  have oB : Own1 w.heap.size ((G.new w 0 none).new (w.alloc (.cells #[.slice none 0 0] 27)) 0 none) w.heap.size := ⟨Nat.le_refl _, by simp [Gh.new, upd], by simp [Gh.new, upd]⟩
  have oE : Own1 w.heap.size ((G.new w 0 none).new (w.alloc (.cells #[.slice none 0 0] 27)) 0 none) (w.heap.size + 1) := ⟨Nat.le_succ _, by simp [Gh.new, upd], by simp [Gh.new, upd]⟩
  have C1 : Clean ((G.new w 0 none).new (w.alloc (.cells #[.slice none 0 0] 27)) 0 none) 1 := by
   intro i p hp
   simp only [Gh.new, upd] at hp
   split at hp
   ·simp at hp
   ·split at hp
    ·simp at hp
    ·exact hcl i p hp
  generalize hG1 : (G.new w 0 none).new (w.alloc (.cells #[.slice none 0 0] 27)) 0 none = G1 at *
  generalize hr34 : call 16 [(.str s, false)] σ = r34 at h
  unfold Mk.fparse1 at h
  split at h
  case h_2 => simp at h
  rename_i t b o ow3 σ3
  split at h
  case isFalse => simp at h
  rename_i ho0
  subst ho0
  refine Mk.fparse_short s w hb (Mk.FpQ C G w r) (Mk.FpI C call G w t b r) (s.size + 2) ?_ (fun qb k dsv n xs w' h => Mk.fpi_head hcall h)
  refine ((hcall 16 _ _ _ hr34).2 G1 _ [.string s] S1 C1 rfl (fun i c x hc hx => by
   match i with
   | 0 => simp at hc hx; subst hc; subst hx; exact ⟨.str _, fun ho => by simp at ho⟩
   | i + 1 => simp at hc)).mono fun e w3 hh => ?_
  obtain ⟨G3, E3, S3, cs, hcl3, rfl, hrel⟩ := hh
  obtain ⟨c3, rfl⟩ : ∃ c, cs = [c] := by
   match cs, hcl3 with
   | [c], _ => exact ⟨c, rfl⟩
  have hp3 := (hrel 0 _ _ rfl rfl).1
  simp only at hp3
  have hp3' := hp3
  cases hp3 with
  | ptr _ _ _ hbN hty =>
  have hl1 := (Array.getElem?_eq_some_iff.1 hB1).1
  have hl2 := (Array.getElem?_eq_some_iff.1 hE1).1
  obtain ⟨oB3, hB3⟩ := oB.ext E3 hl1
  obtain ⟨oE3, hE3⟩ := oE.ext E3 hl2
  have hsz := E3.size
  refine ⟨G3.μ b, by simp, ⟨⟨G3.bare, σ3, [], [], h, S3.bare, Gh.bare_clean _, oB3.bare, oE3.bare, fun i hi => by simp [Value.ownBlock] at hi, ?_, hp3'.mono Gh.bare_ext, ElsRel.nil _ _ _, rfl⟩, ⟨⟨hB3.trans hB1, hE3.trans hE1⟩, World.ownsRow_nil _ _ _ _, by omega⟩⟩⟩
  exact (((E2.trans E3).toB (Nat.le_refl _))).trans (Gh.bare_ext.toB (by omega))
end
end Go.Ab
end
section
namespace Go.Ab.Mk
open Go.Proofs Go.Ab
def ErrOk (err : V) (σ : Sto) (c a : Int) : Prop := (c = 0 ∧ err = .nilIface) ∨ ∃ b, err = .iface 49 (.ptr 33 b 0) ∧ σ[b]? = some (fcell c a)
theorem ErrOk.more {err : V} {σ : Sto} {c a : Int} (h : ErrOk err σ c a) (σ' : Sto) : ErrOk err (σ ++ σ') c a := by
 rcases h with h | ⟨b, h1, h2⟩
 ·exact .inl h
 ·exact .inr ⟨b, h1, by rw [List.getElem?_append_left (List.getElem?_eq_some_iff.1 h2).1]; exact h2⟩
theorem newScanner_law {s : ByteArray} (hs : s.size < 2 ^ 61) (σ : Sto) : lim C 16 [(.str s, false)] σ = some (.ret [(.ptr 55 σ.length 0, false)], σ ++ [(stepV s 0).cells s]) :=
 newScanner_lim (n := 0) <| by
  have h := step_law (σ := σ ++ [[]]) (r := σ.length) (by simp) hs (st := ⟨0, ByteArray.mk #[], 0⟩) (Nat.zero_le _)
  have hg : ∀ x : List Cell, (σ ++ [[]]).set σ.length x = σ ++ [x] := fun x => by rw [List.set_append_right _ _ (Nat.le_refl _)]; simp
  rw [hg, hg] at h
  have e0 : [((V.str s), false), ((V.int .i64 (0 : Int)), false), ((V.str (ByteArray.mk #[])), false), ((V.int .i64 (0 : Int)), false)] = SC.cells s ⟨0, ByteArray.mk #[], 0⟩ := rfl
  simp only [newScanner, newScannerF, e0, callK_ret0 h]
theorem dc_enc (d : Dc) : d.enc =
  [.int .i64 d.kind, .str d.name, .slice 1 9 (strs d.pars), .int .i64 d.type.kind, .int .i64 d.type.num, .str d.type.name, .slice 3 92 (d.type.lvs.map Lv.enc), .slice 5 44 d.type.args,
   .int .i64 d.value.kind, .int .i64 d.value.num, .str d.value.name, .slice 3 92 (d.value.lvs.map Lv.enc), .slice 5 44 d.value.args, .int .i64 d.arity, .slice 6 71 (d.ctors.map fun c => .str c.1 :: c.2.enc)] := by
 simp [Dc.enc, Tm.enc_eq, Dc.parsV, Dc.ctorsV, strs]
theorem asDecl_dc (d : Dc) : asDecl d.val = some d.enc := by
 unfold Dc.val
 rw [dc_enc]
 rfl
theorem tok_empty {s : ByteArray} {p : Nat} (hp : p ≤ s.size) : ((stepV s p).tok = ByteArray.mk #[]) ↔ ((tokV s p).ok && isNo (tokV s p).t) = true := by
 cases hok : (tokV s p).ok
 ·have : (stepV s p).tok = ByteArray.mk #[0] := by unfold stepV stepOf; rw [hok]; rfl
  rw [this]
  simp
 ·rw [step_tok hok]
  simp only [Bool.true_and, isNo, beq_iff_eq]
  constructor
  ·intro h; rw [h]
  ·exact fun h => tl_inj h
theorem floop_law {s : ByteArray} (hs : s.size ≤ 200000) {σ : Sto} {r : Nat} (hr : r < σ.length) : ∀ (n : Nat) (ds : List Dc) (p : Nat), p ≤ s.size → s.size - p + 1 < n → ds.length ≤ p →
  ((declsV n s ⟨p, 0, 0⟩).2.c = 0 ∧ ∃ σ', floop (lim C) 55 r n (ds.map Dc.enc) (σ.set r ((stepV s p).cells s)) = some (.ret [(.slice 15 47 ((ds ++ (declsV n s ⟨p, 0, 0⟩).1).map Dc.enc), false), (.nilIface, false)], σ')) ∨
  ((declsV n s ⟨p, 0, 0⟩).2.c = 1 ∧ ∃ cs, floop (lim C) 55 r n (ds.map Dc.enc) (σ.set r ((stepV s p).cells s)) = some (.ret [(.slice 15 47 [], false), (.iface 49 (.ptr 33 σ.length 0), false)], σ.set r cs ++ [fcell 1 (declsV n s ⟨p, 0, 0⟩).2.a]))
 | 0, ds, p, hp, hn, _ => by omega
 | n + 1, ds, p, hp, hn, hd => by
  have ht : tokOf (σ.set r ((stepV s p).cells s)) r = some (stepV s p).tok := by
   unfold tokOf
   rw [List.getElem?_set_self hr]
   rfl
  unfold floop declsV
  simp only [ht, Option.bind_some, bne_self_eq_false, cond_false]
  cases he : (tokV s p).ok && isNo (tokV s p).t
  case true =>
   rw [if_pos ((tok_empty hp).2 he)]
   simp only [cond_true, List.append_nil]
   exact .inl ⟨trivial, _, rfl⟩
  have hne : ¬ (stepV s p).tok = ByteArray.mk #[] := fun h => by rw [(tok_empty hp).1 h] at he; simp at he
  rw [if_neg hne]
  simp only [cond_false]
  have g := declV_goes (s := s) (st := ⟨p, 0, 0⟩) hp
  rcases fread_law hs hr hp with ⟨q, h1, h2⟩ | ⟨h1, cs, h2⟩
  ·rw [h1] at g ⊢
   have hle := g.le
   have hlt := (g.ok rfl).2
   simp only at hle hlt
   simp only [h2, asDecl_dc, Option.bind_some]
   rw [if_pos (by rw [List.length_map]; omega)]
   have em : ds.map Dc.enc ++ [(declV s ⟨p, 0, 0⟩).1.enc] = (ds ++ [(declV s ⟨p, 0, 0⟩).1]).map Dc.enc := by simp
   rw [em]
   have ih := floop_law hs hr n (ds ++ [(declV s ⟨p, 0, 0⟩).1]) q hle (by omega) (by simp; omega)
   rw [List.append_assoc] at ih
   exact ih
  ·right
   have hc : (declV s ⟨p, 0, 0⟩).2.c ≠ 0 := by rw [h1]; decide
   have hst : declsV n s (declV s ⟨p, 0, 0⟩).2 = ([], (declV s ⟨p, 0, 0⟩).2) := by
    cases n with
    | zero => rfl
    | succ n =>
     have h2 : ((declV s ⟨p, 0, 0⟩).2.c != 0) = true := by simpa using hc
     rw [declsV, h2]; rfl
   rw [hst]
   simp only [h2]
   exact ⟨h1, cs, rfl⟩
theorem fparse_law (s : ByteArray) (hs : s.size < 2 ^ 61) (σ : Sto) : ∃ err σ', fparseS (lim C) [(.str s, false)] σ = some (.ret [(.slice 15 47 ((fparseV s).1.map Dc.enc), false), (err, false)], σ') ∧ ErrOk err σ' (fparseV s).2.1 (fparseV s).2.2 ∧ ((fparseV s).2.1 = 0 → err = .nilIface) := by
 by_cases hb : (s.size : Int) > 200000
 ·have hv : fparseV s = ([], 2, 0) := by unfold fparseV; rw [decide_eq_true hb]; rfl
  rw [hv]
  refine ⟨.iface 49 (.ptr 33 σ.length 0), σ ++ [fcell 2 0], ?_, .inr ⟨σ.length, rfl, ?_⟩, fun h => absurd h (by decide)⟩
  ·simp only [fparseS, if_pos hb]; rfl
  ·simp
 ·have e34 := newScanner_law hs σ
  have hb' : s.size ≤ 200000 := by omega
  have hx := floop_law hb' (σ := σ ++ [[]]) (r := σ.length) (by simp) (s.size + 2) [] 0 (Nat.zero_le _) (by omega) (Nat.zero_le _)
  have hg : ∀ x : List Cell, (σ ++ [[]]).set σ.length x = σ ++ [x] := fun x => by rw [List.set_append_right _ _ (Nat.le_refl _)]; simp
  have hv : fparseV s = (bif (declsV (s.size + 2) s ⟨0, 0, 0⟩).2.c != 0 then ([], (declsV (s.size + 2) s ⟨0, 0, 0⟩).2.c, (declsV (s.size + 2) s ⟨0, 0, 0⟩).2.a) else ((declsV (s.size + 2) s ⟨0, 0, 0⟩).1, 0, 0)) := by unfold fparseV; rw [decide_eq_false hb]; rfl
  rw [hv]
  rw [hg] at hx
  simp only [List.nil_append, List.map_nil] at hx
  rcases hx with ⟨h1, σ', h2⟩ | ⟨h1, cs, h2⟩
  ·have hc : ((declsV (s.size + 2) s ⟨0, 0, 0⟩).2.c != 0) = false := by simp [h1]
   rw [hc]
   refine ⟨.nilIface, σ', ?_, .inl ⟨rfl, rfl⟩, fun _ => rfl⟩
   simp only [fparseS, if_neg hb, e34, fparse1, if_true, h2, cond_false]
  ·have hc : ((declsV (s.size + 2) s ⟨0, 0, 0⟩).2.c != 0) = true := by simp [h1]
   rw [hc]
   rw [hg] at h2
   refine ⟨.iface 49 (.ptr 33 (σ ++ [[]]).length 0), σ ++ [cs] ++ [fcell 1 (declsV (s.size + 2) s ⟨0, 0, 0⟩).2.a], ?_, .inr ⟨(σ ++ [[]]).length, rfl, ?_⟩, fun h => by simp [h1] at h⟩
   ·simp only [fparseS, if_neg hb, e34, fparse1, if_true, h2, cond_true, List.map_nil]
   ·simp [h1]
end Go.Ab.Mk
end
section
namespace Go.Ab.Mk
open Go.Proofs Go.Ab
open Go.Lib (decDigits)
theorem gr_get {σ τ : Sto} {b : Nat} {x : List Cell} (hb : b < σ.length) : (σ.set b x ++ τ)[b]? = some x := by
 rw [List.getElem?_append_left (by simpa using hb), List.getElem?_set_self hb]
theorem gr_set {σ τ : Sto} {b : Nat} {x y : List Cell} (hb : b < σ.length) : (σ.set b x ++ τ).set b y = σ.set b y ++ τ := by
 rw [List.set_append_left _ _ (by simpa using hb), List.set_set]
theorem gr_len {σ : Sto} {b : Nat} {x : List Cell} (h : σ[b]? = some x) : b < σ.length := (List.getElem?_eq_some_iff.1 h).1
theorem twriteS_loop1 {N : Nat} {b : Nat} {L : List Tm} (hb : L.length < 2 ^ 33)
  (h : ∀ c ∈ L, ∀ (σ : Sto) (X : List UInt8), σ[b]? = some (bcell b true X) → X.length + (printT c).length < 2 ^ 33 → ∃ τ, lim C 43 [(.ptr 63 b 0, false), (c.val, false)] σ = some (.ret [], σ.set b (bcell b true (X ++ printT c)) ++ τ)) :
  ∀ (m i : Nat) (σ : Sto) (X : List UInt8), i ≤ L.length → L.length - i < m → σ[b]? = some (bcell b true X) → X.length + (ksL ((L.drop i).map printT)).length < 2 ^ 33 →
   ∃ τ, twritel1 (lim C) N m b (L.map Tm.enc) L.length i σ = some (.ret [], σ.set b (bcell b true (X ++ ksL ((L.drop i).map printT))) ++ τ)
 | 0, i, _, _, _, hm, _, _ => by omega
 | m + 1, i, σ, X, hi, hm, hσ, hs => by
  have hbl := gr_len hσ
  show ∃ τ, twrites1 (lim C) (twritel1 (lim C) N m) _ _ _ _ σ = _
  unfold twrites1
  by_cases hlt : i < L.length
  ·have hx : L.drop i = L[i] :: L.drop (i + 1) := List.drop_eq_getElem_cons hlt
   rw [hx, List.map_cons, ksL_cons] at hs ⊢
   simp only [List.length_cons, List.length_append] at hs
   have e1 : lim C 73 [(.ptr 63 b 0, false), (.int .u8 32, false)] σ = _ := wbyte_law hσ 32 (by omega)
   obtain ⟨τ2, e2⟩ := h L[i] (List.getElem_mem hlt) _ (X ++ [32]) (set_got hσ) (by simp; omega)
   rw [List.set_set] at e2
   obtain ⟨τ3, e3⟩ := twriteS_loop1 (N := N) hb h m (i + 1) (σ.set b (bcell b true (X ++ [32] ++ printT L[i])) ++ τ2) (X ++ [32] ++ printT L[i]) (by omega) (by omega) (gr_get hbl) (by simp at hs ⊢; omega)
   rw [gr_set hbl, List.append_assoc (σ.set b _)] at e3
   refine ⟨τ2 ++ τ3, ?_⟩
   rw [List.length_map, dlt hlt, cond_true, d0, tm_get hlt, tm_readB]
   simp only [Bool.and_self, grd, cond_true, Option.bind_some, callK_ret1 e1, callK_ret0 e2, wrap_succ (show i < 2 ^ 61 by omega)]
   rw [show X ++ (32 :: printT L[i] ++ ksL ((L.drop (i + 1)).map printT)) = X ++ [32] ++ printT L[i] ++ ksL ((L.drop (i + 1)).map printT) by simp]
   exact e3
  ·rw [List.drop_eq_nil_of_le (by omega)] at hs ⊢
   rw [List.map_nil, ksL_nil] at hs ⊢
   have e1 : lim C 73 [(.ptr 63 b 0, false), (.int .u8 41, false)] σ = _ := wbyte_law hσ 41 (by simp at hs; omega)
   refine ⟨[], ?_⟩
   rw [dnlt hlt, cond_false, List.append_nil]
   exact (callK_ret1 e1).trans rfl
theorem twriteS_loop0 {N : Nat} {b : Nat} {K : List Tm} (hK : K.length < 2 ^ 33) (hN : K.length < N)
  (h : ∀ c ∈ K, ∀ (σ : Sto) (X : List UInt8), σ[b]? = some (bcell b true X) → X.length + (printT c).length < 2 ^ 33 → ∃ τ, lim C 43 [(.ptr 63 b 0, false), (c.val, false)] σ = some (.ret [], σ.set b (bcell b true (X ++ printT c)) ++ τ))
  {L : List Lv} (hb : L.length < 2 ^ 33) (hL : ∀ l ∈ L, printL l ≠ []) {k n : Int} {s : ByteArray} {t3 : List (List V)} :
  ∀ (m i : Nat) (σ : Sto) (X : List UInt8), i ≤ L.length → L.length - i < m → σ[b]? = some (bcell b true X) → X.length + (lvsL (L.drop i) ++ ksL (K.map printT)).length < 2 ^ 33 →
   ∃ τ, twritel0 (lim C) N m b (L.map Lv.enc) L.length i k n s t3 (K.map Tm.enc) σ = some (.ret [], σ.set b (bcell b true (X ++ (lvsL (L.drop i) ++ ksL (K.map printT)))) ++ τ)
 | 0, i, _, _, _, hm, _, _ => by omega
 | m + 1, i, σ, X, hi, hm, hσ, hs => by
  have hbl := gr_len hσ
  show ∃ τ, twrites0 (lim C) (twritel1 (lim C) N N) (twritel0 (lim C) N m) _ _ _ _ _ _ _ _ _ σ = _
  unfold twrites0
  by_cases hlt : i < L.length
  ·have hx : L.drop i = L[i] :: L.drop (i + 1) := List.drop_eq_getElem_cons hlt
   rw [hx, lvsL_cons] at hs ⊢
   simp only [List.length_cons, List.length_append] at hs
   have e1 := print_law σ L[i] (hL _ (List.getElem_mem hlt)) (by omega)
   have hσ1 : (σ ++ [bcell σ.length true (printL L[i])])[b]? = some (bcell b true X) := get_more hσ
   have e2 := wstring_law hσ1 (32 :: printL L[i]) (by simp; omega)
   rw [List.set_append_left _ _ hbl] at e2
   obtain ⟨τ3, e3⟩ := twriteS_loop0 (N := N) hK hN h hb hL (k := k) (n := n) (s := s) (t3 := t3) m (i + 1) (σ.set b (bcell b true (X ++ (32 :: printL L[i]))) ++ [bcell σ.length true (printL L[i])]) (X ++ (32 :: printL L[i])) (by omega) (by omega) (gr_get hbl) (by simp at hs ⊢; omega)
   rw [gr_set hbl, List.append_assoc (σ.set b _)] at e3
   have hr : strRoom (ba [32]) (ba (printL L[i])) = true := strRoom_ok (by simp [ba_size]; omega)
   have e32 : ByteArray.mk #[32] = ba [32] := rfl
   refine ⟨[bcell σ.length true (printL L[i])] ++ τ3, ?_⟩
   rw [List.length_map, dlt hlt, cond_true, d0, lv_get hlt, lv_read, e32]
   simp only [Bool.and_self, grd, cond_true, Option.bind_some, callK_ret1 e1, List.getD_cons_zero, V.asStr, hr, ba_append, List.cons_append, List.nil_append, callK_ret2 e2, wrap_succ (show i < 2 ^ 61 by omega)]
   refine Eq.trans e3 ?_
   simp
  ·rw [List.drop_eq_nil_of_le (by omega), lvsL_nil, List.nil_append] at hs ⊢
   obtain ⟨τ3, e3⟩ := twriteS_loop1 (N := N) hK h N 0 σ X (by omega) (by omega) hσ (by rw [List.drop_zero]; exact hs)
   rw [List.drop_zero] at e3
   refine ⟨τ3, ?_⟩
   rw [dnlt hlt, cond_false, List.length_map]
   exact e3
theorem twriteS_law (b : Nat) : ∀ (t : Tm), t.top < 2 ^ 60 → t.wide < 2 ^ 32 → (∀ l ∈ t.all, printL l ≠ []) → ∀ (u : Bool) (σ : Sto) (X : List UInt8), σ[b]? = some (bcell b u X) → X.length + (printT t).length < 2 ^ 33 →
  ∃ τ, lim C 43 [(.ptr 63 b 0, false), (t.val, false)] σ = some (.ret [], σ.set b (bcell b true (X ++ printT t)) ++ τ) :=
 Tm.ind fun t ih ht hw hne u σ X hσ hs => by
  have hbl := gr_len hσ
  by_cases hk : t.kind = 0
  ·obtain ⟨m, rfl⟩ : ∃ m, t = .var m := by cases t <;> simp [Tm.kind] at hk; exact ⟨_, rfl⟩
   simp only [printT, List.length_cons] at hs
   have e1 := itoa_law m ht σ
   have e2 := wstring_law hσ (35 :: decDigits m) (by simp; omega)
   have hr : strRoom (ba [35]) (ba (decDigits m)) = true := strRoom_ok (by simp [ba_size]; omega)
   have e35 : ByteArray.mk #[35] = ba [35] := rfl
   refine ⟨[], twrite_lim (n := 0) ?_⟩
   have e1' : lim C 24 [(.int .i64 ((Tm.var m).num : Int), false)] σ = _ := e1
   simp only [twrite, twriteF, Tm.kind, beq_self_eq_true, cond_true, callK_ret1 e1', List.getD_cons_zero, V.asStr, Option.bind_some, e35, hr, grd, ba_append, List.cons_append, List.nil_append, callK_ret2 e2, printT, List.append_nil]
  ·rw [print_node t hk] at hs ⊢
   simp only [List.length_append, List.length_cons] at hs
   have hk3 := kids_le t
   have hlv := lvs_le t
   have hw5 := word_len t
   have ih' : ∀ c ∈ t.kids, ∀ (σ : Sto) (X : List UInt8), σ[b]? = some (bcell b true X) → X.length + (printT c).length < 2 ^ 33 → ∃ τ, lim C 43 [(.ptr 63 b 0, false), (c.val, false)] σ = some (.ret [], σ.set b (bcell b true (X ++ printT c)) ++ τ) :=
    fun c hc σ X h1 h2 => ih c hc (by have := kid_depth hc; omega) (by have := kid_wide hc; omega) (kid_all hc hne) true σ X h1 h2
   have loop := fun σ X => twriteS_loop0 (N := t.wide + 10) (K := t.kids) (by omega) (by omega) ih' (L := t.lvs) (by omega) (lvs_all hne) (k := t.kind) (n := t.num) (s := t.name) (t3 := t.lvs.map Lv.enc) (t.wide + 10) 0 σ X (by omega) (by omega)
   simp only [List.drop_zero] at loop
   have e1 := wstring_law hσ (40 :: t.word) (by simp; omega)
   have hr : strRoom (ba [40]) (ba t.word) = true := strRoom_ok (by simp [ba_size]; omega)
   have e40 : ByteArray.mk #[40] = ba [40] := rfl
   have g1 := set_got (y := bcell b true (X ++ 40 :: t.word)) hσ
   by_cases h2 : t.kind = 2
   ·rw [if_pos h2] at hs ⊢
    simp only [List.length_cons] at hs
    have e2 := wstring_law g1 (32 :: t.name.data.toList) (by simp only [List.length_append, List.length_cons]; omega)
    rw [List.set_set] at e2
    have hsz : t.name.size = t.name.data.toList.length := by rw [← ba_size, ba_of]
    have hr2 : strRoom (ba [32]) t.name = true := strRoom_ok (by rw [ba_size, hsz]; simp; omega)
    have e32 : ByteArray.mk #[32] = ba [32] := rfl
    obtain ⟨τ3, e3⟩ := loop (σ.set b (bcell b true (X ++ 40 :: t.word ++ 32 :: t.name.data.toList))) (X ++ 40 :: t.word ++ 32 :: t.name.data.toList) (List.getElem?_set_self hbl) (by simp only [List.length_append, List.length_cons]; omega)
    rw [List.set_set] at e3
    refine ⟨τ3, twrite_lim (n := t.wide + 10) ?_⟩
    have hnm : ba [32] ++ t.name = ba (32 :: t.name.data.toList) := by rw [← ba_of t.name, ba_append, ba_of]; rfl
    simp only [twrite, twriteF, kind_in, grd, cond_true, Option.bind_some, words_mem t hk, V.asStr, e40, hr, ba_append, List.cons_append, List.nil_append]
    rw [show (t.kind == 0) = false by simpa using hk, cond_false, callK_ret2 e1, show (t.kind == 2) = true by simpa using h2, cond_true, e32, hr2]
    simp only [cond_true, Option.bind_some, hnm]
    rw [callK_ret2 e2, List.length_map]
    refine Eq.trans (show _ = _ from e3) ?_
    simp
   ·rw [if_neg h2] at hs ⊢
    obtain ⟨τ3, e3⟩ := loop _ (X ++ 40 :: t.word) g1 (by simp only [List.length_append, List.length_cons, List.length_nil] at hs ⊢; omega)
    rw [List.set_set] at e3
    refine ⟨τ3, twrite_lim (n := t.wide + 10) ?_⟩
    simp only [twrite, twriteF, kind_in, grd, cond_true, Option.bind_some, words_mem t hk, V.asStr, e40, hr, ba_append, List.cons_append, List.nil_append]
    rw [show (t.kind == 0) = false by simpa using hk, cond_false, callK_ret2 e1, show (t.kind == 2) = false by simpa using h2, cond_false, List.length_map]
    refine Eq.trans (show _ = _ from e3) ?_
    simp
theorem tprintS_law {t : Tm} (h : TFine t) (hs : (printT t).length < 2 ^ 32) (σ : Sto) : ∃ τ, lim C 25 [(t.val, false)] σ = some (.ret [(.str (ba (printT t)), false)], σ ++ τ) := by
 have ht := h.ok.top
 have hw := h.wide
 obtain ⟨τ, h1⟩ := twriteS_law σ.length t (by omega) (by omega) h.ne false (σ ++ [bcell σ.length false []]) [] (by simp) (by simp; omega)
 have hset : (σ ++ [bcell σ.length false []]).set σ.length (bcell σ.length true ([] ++ printT t)) = σ ++ [bcell σ.length true (printT t)] := by
  rw [List.set_append_right _ _ (Nat.le_refl _)]; simp
 rw [hset] at h1
 have g1 : (σ ++ [bcell σ.length true (printT t)] ++ τ)[σ.length]? = some (bcell σ.length true (printT t)) := by
  rw [List.append_assoc, List.getElem?_append_right (Nat.le_refl _)]
  simp
 have h2 := bldString_law g1 (printT_ne t) (by omega)
 refine ⟨[bcell σ.length true (printT t)] ++ τ, tprint_lim (n := 0) ?_⟩
 have e0 : [(V.nilp, false), ((V.slice 1 5 []), true)] = bcell σ.length false [] := rfl
 simp only [tprint, tprintF, e0]
 refine (callK_ret0 h1).trans ?_
 refine (callK_ret1 h2).trans ?_
 rw [List.append_assoc]
 rfl
theorem join_law (W : List (List UInt8)) (h1 : W.length < 2 ^ 40) (h2 : (Go.Lib.join W [32]).length < 2 ^ 40) (σ : Sto) :
  lim C 23 [(.slice 1 9 (strs (W.map ba)), false), (.str (ba [32]), false)] σ = some (.ret [(.str (ba (Go.Lib.join W [32])), false)], σ) := by
 refine lim_ext (s := joinA) (by kernel_rfl) ?_
 have hm : ((W.map ba).map fun s : ByteArray => s.data.toList) = W := by simp [Function.comp_def, ba]
 have h32 : (ba [32]).data.toList = [32] := rfl
 have e : joinB (W.map ba) (ba [32]) = ba (Go.Lib.join W [32]) := by
  unfold joinB
  rw [hm, h32]
  rfl
 rw [← e]
 exact joinA_eq (xs := W.map ba) (sep := ba [32]) (by rw [List.length_map]; omega) (by rw [hm, h32]; omega) _ _ _ _
theorem join_pars (ps : List ByteArray) : Go.Lib.join (ps.map fun s => s.data.toList) [32] = parsL ps := by
 cases ps with
 | nil => rfl
 | cons x xs =>
  rw [List.map_cons, Go.Lib.join_cons]
  simp [parsL, Go.Lib.joinTail, List.flatMap, Function.comp_def]
theorem strs_ba (ps : List ByteArray) : strs ((ps.map fun s => s.data.toList).map ba) = strs ps := by
 congr 1
 rw [List.map_map]
 conv => rhs; rw [← List.map_id ps]
 refine List.map_congr_left fun s _ => ?_
 exact ba_of s
def wordsD (d : Dc) : List (List UInt8) :=
 [kwL d.kind, d.name.data.toList, 40 :: (parsL d.pars ++ [41])] ++ (if d.kind = 3 then [decDigits d.arity] else []) ++ [printT d.type] ++ (if d.kind = 2 then [printT d.value] else [])
theorem prD_words (d : Dc) : 40 :: (Go.Lib.join (wordsD d ++ d.ctors.map ctorL) [32] ++ [41]) = prD d := by
 have e : wordsD d ++ d.ctors.map ctorL = kwL d.kind :: ([d.name.data.toList, 40 :: (parsL d.pars ++ [41])] ++ (if d.kind = 3 then [decDigits d.arity] else []) ++ [printT d.type] ++ (if d.kind = 2 then [printT d.value] else []) ++ d.ctors.map ctorL) := by
  unfold wordsD
  simp
 rw [e, Go.Lib.join_cons]
 unfold prD arL valL ctorsL Go.Lib.joinTail
 by_cases h3 : d.kind = 3
 ·simp [h3, List.flatMap, Function.comp_def]
 ·by_cases h2 : d.kind = 2
  ·simp [h2, List.flatMap, Function.comp_def]
  ·simp [h2, h3, List.flatMap, Function.comp_def]
theorem join_le (W : List (List UInt8)) : W.length ≤ (Go.Lib.join W [32]).length + 1 := by
 cases W with
 | nil => simp
 | cons x xs =>
  rw [Go.Lib.join_cons, List.length_append, Go.Lib.joinTail_length]
  simp only [List.length_cons, List.length_nil]
  omega
theorem join_mem {W : List (List UInt8)} {x : List UInt8} (h : x ∈ W) : x.length ≤ (Go.Lib.join W [32]).length := by
 have key : ∀ {W : List (List UInt8)}, x ∈ W → x.length ≤ Go.Lib.lens W := by
  intro W h
  induction W with
  | nil => simp at h
  | cons y ys ih =>
   simp only [Go.Lib.lens, List.map_cons, List.sum_cons] at ih ⊢
   rcases List.mem_cons.1 h with rfl | h
   ·omega
   ·have := ih h; omega
 cases W with
 | nil => simp at h
 | cons y ys =>
  rw [Go.Lib.join_cons, List.length_append, Go.Lib.joinTail_length]
  rcases List.mem_cons.1 h with rfl | h
  ·omega
  ·have := key h; omega
theorem ctors_getC {cs : List (ByteArray × Tm)} {i : Nat} (h : i < cs.length) : (cs.map fun c : ByteArray × Tm => V.str c.1 :: c.2.enc).getD (Int.toNat (i : Int)) [] = V.str cs[i].1 :: cs[i].2.enc := by simp [h]
theorem ctor_read (x : ByteArray) (t : Tm) : V.agg [(V.str x :: t.enc).getD 1 V.any, (V.str x :: t.enc).getD 2 V.any, (V.str x :: t.enc).getD 3 V.any, (V.str x :: t.enc).getD 4 V.any, (V.str x :: t.enc).getD 5 V.any] = t.val := by rw [t.enc_eq]; rfl
theorem close_law {W : List (List UInt8)} (hb : (Go.Lib.join W [32]).length < 2 ^ 32) {K : List Cell → Sto → Option Res} (hK : K = fun vs6 σ7 => (V.asStr (List.getD vs6 0 cellD).1).bind fun s9 =>
  (grd (strRoom (ba [40]) s9)).bind fun _ => (grd (strRoom ((ba [40]) ++ s9) (ba [41]))).bind fun _ => some (.ret [((V.str (((ba [40]) ++ s9) ++ (ba [41]))), false)], σ7)) (σ : Sto) (KP : V → Sto → Option Res) :
  callK (lim C) 23 [(.slice 1 9 (strs (W.map ba)), false), (.str (ba [32]), false)] σ 1 K KP = some (.ret [(.str (ba (40 :: (Go.Lib.join W [32] ++ [41]))), false)], σ) := by
 have hl := join_le W
 rw [callK_ret1 (join_law W (by omega) (by omega) σ), hK]
 have r1 : strRoom (ba [40]) (ba (Go.Lib.join W [32])) = true := strRoom_ok (by simp only [ba_size, List.length_cons, List.length_nil]; omega)
 have r2 : strRoom (ba ([40] ++ Go.Lib.join W [32])) (ba [41]) = true := strRoom_ok (by simp only [ba_size, List.length_cons, List.length_nil, List.length_append]; omega)
 simp only [List.getD_cons_zero, V.asStr, Option.bind_some, r1, grd, cond_true, ba_append, r2]
 simp
theorem fprint_loop {cs : List (ByteArray × Tm)} (hcs : ∀ c ∈ cs, TFine c.2) (hc0 : cs.length < 2 ^ 40) {N : Nat} : ∀ (m i : Nat) (W : List (List UInt8)) (σ : Sto), i ≤ cs.length → cs.length - i < m → (Go.Lib.join (W ++ (cs.drop i).map ctorL) [32]).length < 2 ^ 32 →
  ∃ τ, fprintl0 (lim C) N m (strs (W.map ba)) (cs.map fun c : ByteArray × Tm => V.str c.1 :: c.2.enc) cs.length i σ = some (.ret [(.str (ba (40 :: (Go.Lib.join (W ++ (cs.drop i).map ctorL) [32] ++ [41]))), false)], σ ++ τ)
 | 0, i, _, _, _, hm, _ => by omega
 | m + 1, i, W, σ, hi, hm, hb => by
  show ∃ τ, fprints0 (lim C) (fprintl0 (lim C) N m) _ _ _ _ σ = _
  unfold fprints0
  have e40 : ByteArray.mk #[40] = ba [40] := rfl
  have e41 : ByteArray.mk #[41] = ba [41] := rfl
  have e32 : ByteArray.mk #[32] = ba [32] := rfl
  have ec : ByteArray.mk #[40, 99, 116, 111, 114, 32] = ba [40, 99, 116, 111, 114, 32] := rfl
  simp only [e40, e41, e32, ec]
  by_cases hlt : i < cs.length
  ·have hx : cs.drop i = cs[i] :: cs.drop (i + 1) := List.drop_eq_getElem_cons hlt
   rw [hx, List.map_cons] at hb ⊢
   have hmem := join_mem (W := W ++ ctorL cs[i] :: (cs.drop (i + 1)).map ctorL) (x := ctorL cs[i]) (by simp)
   have hlen := join_le (W ++ ctorL cs[i] :: (cs.drop (i + 1)).map ctorL)
   simp only [List.length_append, List.length_cons] at hlen
   have hcl : (ctorL cs[i]).length = 1 + 4 + 1 + cs[i].1.data.toList.length + 1 + (printT cs[i].2).length + 1 := by
    simp only [ctorL, wctor, List.length_cons, List.length_append, List.length_nil]; omega
   have hf := hcs cs[i] (List.getElem_mem hlt)
   have hcr := ctor_read cs[i].1 cs[i].2
   rw [dlt hlt, cond_true, ctors_getC hlt, hcr, d0]
   generalize hci : cs[i] = c at *
   obtain ⟨τ2, e2⟩ := tprintS_law hf (by omega) σ
   have hsz : c.1.size = c.1.data.toList.length := by rw [← ba_size, ba_of]
   have hnm : ba c.1.data.toList = c.1 := ba_of c.1
   have ih := fprint_loop hcs hc0 (N := N) m (i + 1) (W ++ [ctorL c]) (σ ++ τ2) (by omega) (by omega) (by rw [List.append_assoc]; exact hb)
   obtain ⟨τ3, e3⟩ := ih
   refine ⟨τ2 ++ τ3, ?_⟩
   rw [← hnm]
   have r1 : strRoom (ba [40, 99, 116, 111, 114, 32]) (ba c.1.data.toList) = true := strRoom_ok (by simp only [ba_size, List.length_cons, List.length_nil]; omega)
   have r2 : strRoom (ba ([40, 99, 116, 111, 114, 32] ++ c.1.data.toList)) (ba [32]) = true := strRoom_ok (by simp only [ba_size, List.length_cons, List.length_nil, List.length_append]; omega)
   have r3 : strRoom (ba ([40, 99, 116, 111, 114, 32] ++ c.1.data.toList ++ [32])) (ba (printT c.2)) = true := strRoom_ok (by simp only [ba_size, List.length_cons, List.length_nil, List.length_append]; omega)
   have r4 : strRoom (ba ([40, 99, 116, 111, 114, 32] ++ c.1.data.toList ++ [32] ++ printT c.2)) (ba [41]) = true := strRoom_ok (by simp only [ba_size, List.length_cons, List.length_nil, List.length_append]; omega)
   have r5 : room ((strs (W.map ba)).length + 1) = true := room_ok (by rw [strs_length, List.length_map]; omega)
   have hlc : decide ((i : Int) < (((cs.map fun c : ByteArray × Tm => V.str c.1 :: c.2.enc).length : Nat) : Int)) = true := by rw [List.length_map]; exact dlt hlt
   simp only [hlc, Bool.and_self, grd, cond_true, Option.bind_some, List.getD_cons_zero, V.asStr, r1, ba_append, r2, callK_ret1 e2, r3, r4, r5, wrap_succ (show i < 2 ^ 61 by omega)]
   have ew : strs (W.map ba) ++ [[V.str (ba ([40, 99, 116, 111, 114, 32] ++ c.1.data.toList ++ [32] ++ printT c.2 ++ [41]))]] = strs ((W ++ [ctorL c]).map ba) := by
    simp [strs, ctorL, wctor]
   rw [ew]
   refine e3.trans ?_
   rw [List.append_assoc W, List.append_assoc σ]
   rfl
  ·rw [List.drop_eq_nil_of_le (by omega), List.map_nil, List.append_nil] at hb ⊢
   refine ⟨[], ?_⟩
   rw [dnlt hlt, cond_false, List.append_nil]
   exact close_law hb rfl σ _
theorem fprint_law {d : Dc} (ok : DOk d) (hb : (prD d).length < 2 ^ 32) (σ : Sto) : ∃ τ, lim C 11 [(d.val, false)] σ = some (.ret [(.str (ba (prD d)), false)], σ ++ τ) := by
 have hw := prD_words d
 have hjl : (Go.Lib.join (wordsD d ++ d.ctors.map ctorL) [32]).length + 2 = (prD d).length := by
  rw [← hw]; simp
 have hcn : d.ctors.length < 2 ^ 40 := by
  have := join_le (wordsD d ++ d.ctors.map ctorL)
  rw [List.length_append, List.length_map] at this
  omega
 have hpl : (parsL d.pars).length < 2 ^ 32 := by
  have := join_mem (W := wordsD d ++ d.ctors.map ctorL) (x := 40 :: (parsL d.pars ++ [41])) (List.mem_append_left _ (by simp [wordsD]))
  simp only [List.length_cons, List.length_append] at this
  omega
 have htl : (printT d.type).length < 2 ^ 32 := by
  have := join_mem (W := wordsD d ++ d.ctors.map ctorL) (x := printT d.type) (List.mem_append_left _ (by simp [wordsD]))
  omega
 have hvl : d.kind = 2 → (printT d.value).length < 2 ^ 32 := fun h => by
  have := join_mem (W := wordsD d ++ d.ctors.map ctorL) (x := printT d.value) (List.mem_append_left _ (by simp [wordsD, h]))
  omega
 have hpn : d.pars.length < 2 ^ 40 := by
  have := join_le (d.pars.map fun s => s.data.toList)
  rw [join_pars, List.length_map] at this
  omega
 have hlim : ∀ {σ' : Sto} {v : V}, fprint (lim C) (d.ctors.length + 1) d.kind d.name (strs d.pars) d.type.kind d.type.num d.type.name (d.type.lvs.map Lv.enc) d.type.args d.value.kind d.value.num d.value.name (d.value.lvs.map Lv.enc) d.value.args d.arity (d.ctors.map fun c => .str c.1 :: c.2.enc) σ = some (.ret [(v, false)], σ') →
   lim C 11 [(d.val, false)] σ = some (.ret [(v, false)], σ') := by
  intro σ' v h
  have e : d.val = _ := dc_val d.kind d.name d.pars d.type d.value d.arity d.ctors
  rw [e]
  exact fprint_lim h
 have e32 : ByteArray.mk #[32] = ba [32] := rfl
 have e40 : ByteArray.mk #[40] = ba [40] := rfl
 have e41 : ByteArray.mk #[41] = ba [41] := rfl
 have ew0 : ∀ k : Nat, k = 1 ∨ k = 2 ∨ k = 3 → (([[(V.str (ByteArray.mk #[]))], [(V.str (ByteArray.mk #[97, 120, 105, 111, 109]))], [(V.str (ByteArray.mk #[100, 101, 102]))], [(V.str (ByteArray.mk #[105, 110, 100, 117, 99, 116, 105, 118, 101]))]] : List (List V)).take (Int.toNat (IntKind.wrap .i64 ((k : Int) + (1 : Int))))).drop (Int.toNat (k : Int)) = strs [ba (kwL k)] ∧
   (decide (0 ≤ (k : Int)) && decide ((k : Int) ≤ (IntKind.wrap .i64 ((k : Int) + (1 : Int)))) && decide ((IntKind.wrap .i64 ((k : Int) + (1 : Int))) ≤ (4 : Nat))) = true := by
  rintro k (rfl | rfl | rfl) <;> exact ⟨rfl, by decide⟩
 obtain ⟨w1, w2⟩ := ew0 d.kind ok.kind
 have hj := join_law (d.pars.map fun s => s.data.toList) (by rw [List.length_map]; exact hpn) (by rw [join_pars]; omega) σ
 rw [strs_ba, join_pars] at hj
 have r1 : strRoom (ba [40]) (ba (parsL d.pars)) = true := strRoom_ok (by simp only [ba_size, List.length_cons, List.length_nil]; omega)
 have r2 : strRoom (ba ([40] ++ parsL d.pars)) (ba [41]) = true := strRoom_ok (by simp only [ba_size, List.length_cons, List.length_nil, List.length_append]; omega)
 have lp := fprint_loop (cs := d.ctors) (fun c hc => (ok.ctors c hc).2) hcn (N := d.ctors.length + 1) (d.ctors.length + 1) 0
 simp only [List.drop_zero] at lp
 have hnm : ba d.name.data.toList = d.name := ba_of d.name
 have w3 : ∀ (L : List (List UInt8)) (x : List UInt8), strs (L.map ba) ++ [[V.str (ba x)]] = strs ((L ++ [x]).map ba) := fun L x => by simp [strs]
 have w4 : strs [ba (kwL d.kind)] ++ [[V.str d.name], [V.str (ba ([40] ++ parsL d.pars ++ [41]))]] = strs (([kwL d.kind, d.name.data.toList, 40 :: (parsL d.pars ++ [41])] : List (List UInt8)).map ba) := by
  simp [strs, hnm]
 have rm : ∀ L : List (List UInt8), L.length < 100 → room ((strs (L.map ba)).length + 1) = true := fun L h => room_ok (by rw [strs_length, List.length_map]; omega)
 have rm0 : room ((strs [ba (kwL d.kind)]).length + 2) = true := room_ok (by rw [strs_length]; simp)
 have hkv : V.agg [(V.int .i64 d.type.kind), (V.int .i64 d.type.num), (V.str d.type.name), (V.slice 3 92 (d.type.lvs.map Lv.enc)), (V.slice 5 44 d.type.args)] = d.type.val := rfl
 have hkv2 : V.agg [(V.int .i64 d.value.kind), (V.int .i64 d.value.num), (V.str d.value.name), (V.slice 3 92 (d.value.lvs.map Lv.enc)), (V.slice 5 44 d.value.args)] = d.value.val := rfl
 have hcl : ((d.ctors.map fun c : ByteArray × Tm => V.str c.1 :: c.2.enc).length : Int) = (d.ctors.length : Int) := by rw [List.length_map]
 by_cases h3 : d.kind = 3
 ·have k3 : ((d.kind : Int) == 3) = true := by rw [h3]; rfl
  have k2 : ((d.kind : Int) == 2) = false := by rw [h3]; rfl
  have hit := itoa_law d.arity (by have := ok.arity; omega) σ
  obtain ⟨τ1, e1⟩ := tprintS_law ok.type htl σ
  obtain ⟨τ2, e2⟩ := lp ([kwL d.kind, d.name.data.toList, 40 :: (parsL d.pars ++ [41])] ++ [decDigits d.arity] ++ [printT d.type]) (σ ++ τ1) (Nat.zero_le _) (by omega) (by
   have : wordsD d = [kwL d.kind, d.name.data.toList, 40 :: (parsL d.pars ++ [41])] ++ [decDigits d.arity] ++ [printT d.type] := by simp [wordsD, h3]
   rw [← this]; omega)
  have hwd : wordsD d = [kwL d.kind, d.name.data.toList, 40 :: (parsL d.pars ++ [41])] ++ [decDigits d.arity] ++ [printT d.type] := by simp [wordsD, h3]
  rw [← hwd, hw] at e2
  refine ⟨τ1 ++ τ2, hlim ?_⟩
  simp only [fprint, fprintF, w1, w2, e32, e40, e41, List.length_cons, List.length_nil, grd, cond_true, Option.bind_some, decide_true, callK_ret1 hj, List.getD_cons_zero, V.asStr, r1, ba_append, r2, rm0, k3, callK_ret1 hit, str_fits, Bool.and_self, w4, rm _ (show ([kwL d.kind, d.name.data.toList, 40 :: (parsL d.pars ++ [41])] : List (List UInt8)).length < 100 by simp), hkv, callK_ret1 e1, w3]
  rw [rm _ (show ([kwL d.kind, d.name.data.toList, 40 :: (parsL d.pars ++ [41])] ++ [decDigits d.arity] : List (List UInt8)).length < 100 by simp)]
  simp only [cond_true, Option.bind_some, k2, cond_false, hcl]
  rw [← hwd, ← List.append_assoc σ]
  exact e2
 ·have k3 : ((d.kind : Int) == 3) = false := by rw [beq_eq_false_iff_ne]; omega
  obtain ⟨τ1, e1⟩ := tprintS_law ok.type htl σ
  by_cases h2 : d.kind = 2
  ·have k2 : ((d.kind : Int) == 2) = true := by rw [h2]; rfl
   obtain ⟨τ2, e2⟩ := tprintS_law ok.value (hvl h2) (σ ++ τ1)
   have hwd : wordsD d = [kwL d.kind, d.name.data.toList, 40 :: (parsL d.pars ++ [41])] ++ [printT d.type] ++ [printT d.value] := by simp [wordsD, h2]
   obtain ⟨τ3, e3⟩ := lp ([kwL d.kind, d.name.data.toList, 40 :: (parsL d.pars ++ [41])] ++ [printT d.type] ++ [printT d.value]) (σ ++ τ1 ++ τ2) (Nat.zero_le _) (by omega) (by rw [← hwd]; omega)
   rw [← hwd, hw] at e3
   refine ⟨τ1 ++ τ2 ++ τ3, hlim ?_⟩
   simp only [fprint, fprintF, w1, w2, e32, e40, e41, List.length_cons, List.length_nil, grd, cond_true, cond_false, Option.bind_some, decide_true, callK_ret1 hj, List.getD_cons_zero, V.asStr, r1, ba_append, r2, rm0, k3, str_fits, Bool.and_self, w4, rm _ (show ([kwL d.kind, d.name.data.toList, 40 :: (parsL d.pars ++ [41])] : List (List UInt8)).length < 100 by simp), hkv, callK_ret1 e1, w3, k2, hkv2, callK_ret1 e2]
   rw [rm _ (show ([kwL d.kind, d.name.data.toList, 40 :: (parsL d.pars ++ [41])] ++ [printT d.type] : List (List UInt8)).length < 100 by simp)]
   simp only [cond_true, Option.bind_some, hcl]
   rw [← hwd, ← List.append_assoc σ, ← List.append_assoc σ]
   exact e3
  ·have k2 : ((d.kind : Int) == 2) = false := by rw [beq_eq_false_iff_ne]; omega
   have hwd : wordsD d = [kwL d.kind, d.name.data.toList, 40 :: (parsL d.pars ++ [41])] ++ [printT d.type] := by simp [wordsD, h2, h3]
   obtain ⟨τ3, e3⟩ := lp ([kwL d.kind, d.name.data.toList, 40 :: (parsL d.pars ++ [41])] ++ [printT d.type]) (σ ++ τ1) (Nat.zero_le _) (by omega) (by rw [← hwd]; omega)
   rw [← hwd, hw] at e3
   refine ⟨τ1 ++ τ3, hlim ?_⟩
   simp only [fprint, fprintF, w1, w2, e32, e40, e41, List.length_cons, List.length_nil, grd, cond_true, cond_false, Option.bind_some, decide_true, callK_ret1 hj, List.getD_cons_zero, V.asStr, r1, ba_append, r2, rm0, k3, str_fits, Bool.and_self, w4, rm _ (show ([kwL d.kind, d.name.data.toList, 40 :: (parsL d.pars ++ [41])] : List (List UInt8)).length < 100 by simp), hkv, callK_ret1 e1, w3, k2, hcl]
   rw [← hwd, ← List.append_assoc σ]
   exact e3
theorem bldEmpty_law {σ : Sto} {b : Nat} {u : Bool} (h : σ[b]? = some (bcell b u [])) : lim C 22 [(.ptr 63 b 0, false)] σ = some (.ret [(.str (ba []), false)], σ) := by
 refine lim_ext (s := bldStringE 63 5) (by kernel_rfl) ?_
 unfold bldStringE
 simp only
 rw [h]
 rfl
theorem dc_getD {ds : List Dc} {i : Nat} (h : i < ds.length) : (ds.map Dc.enc).getD (Int.toNat (i : Int)) [] = ds[i].enc := by simp [h]
theorem dc_read (d : Dc) : V.agg [d.enc.getD 0 V.any, d.enc.getD 1 V.any, d.enc.getD 2 V.any, d.enc.getD 3 V.any, d.enc.getD 4 V.any, d.enc.getD 5 V.any, d.enc.getD 6 V.any, d.enc.getD 7 V.any, d.enc.getD 8 V.any, d.enc.getD 9 V.any, d.enc.getD 10 V.any, d.enc.getD 11 V.any, d.enc.getD 12 V.any, d.enc.getD 13 V.any, d.enc.getD 14 V.any] = d.val := by
 have h := d.enc_len
 unfold Dc.val
 congr 1
 generalize d.enc = l at h ⊢
 match l, h with
 | [_, _, _, _, _, _, _, _, _, _, _, _, _, _, _], _ => rfl
theorem fprintAll_loop {ds : List Dc} (hok : ∀ d ∈ ds, DOk d) (hn : ds.length < 2 ^ 40) {N b : Nat} : ∀ (m i : Nat) (σ : Sto) (u : Bool) (X : List UInt8), i ≤ ds.length → ds.length - i < m → σ[b]? = some (bcell b u X) → (u = false → X = []) → X.length + (prF (ds.drop i)).length < 2 ^ 32 →
  ∃ σ', fprintAlll0 (lim C) N m b (ds.map Dc.enc) ds.length i σ = some (.ret [(.str (ba (X ++ prF (ds.drop i))), false)], σ')
 | 0, i, _, _, _, _, hm, _, _, _ => by omega
 | m + 1, i, σ, u, X, hi, hm, hσ, hu, hs => by
  show ∃ σ', fprintAlls0 (lim C) (fprintAlll0 (lim C) N m) _ _ _ _ σ = _
  unfold fprintAlls0
  by_cases hlt : i < ds.length
  ·have hx : ds.drop i = ds[i] :: ds.drop (i + 1) := List.drop_eq_getElem_cons hlt
   have hpf : ∀ (d : Dc) (l : List Dc), prF (d :: l) = prD d ++ 10 :: prF l := fun d l => by simp [prF]
   rw [hx, hpf] at hs ⊢
   simp only [List.length_append, List.length_cons] at hs
   obtain ⟨τ, e1⟩ := fprint_law (hok ds[i] (List.getElem_mem hlt)) (by omega) σ
   have e2 := wstring_law (get_more (τ := τ) hσ) (prD ds[i] ++ [10]) (by simp; omega)
   obtain ⟨σ', e3⟩ := fprintAll_loop hok hn (N := N) (b := b) m (i + 1) _ true (X ++ (prD ds[i] ++ [10])) (by omega) (by omega) (set_got (get_more (τ := τ) hσ)) (fun h => by simp at h) (by simp at hs ⊢; omega)
   refine ⟨σ', ?_⟩
   have e10 : ByteArray.mk #[10] = ba [10] := rfl
   have hr : strRoom (ba (prD ds[i])) (ba [10]) = true := strRoom_ok (by simp [ba_size]; omega)
   rw [dlt hlt, cond_true, dc_getD hlt, dc_read, d0, List.length_map, dlt hlt, e10]
   simp only [Bool.and_self, grd, cond_true, Option.bind_some, callK_ret1 e1, List.getD_cons_zero, V.asStr, hr, ba_append, callK_ret2 e2, wrap_succ (show i < 2 ^ 61 by omega)]
   refine Eq.trans e3 ?_
   simp
  ·rw [List.drop_eq_nil_of_le (by omega)] at hs ⊢
   rw [dnlt hlt, cond_false]
   have hp0 : prF [] = [] := rfl
   rw [hp0, List.append_nil]
   have e1 : lim C 22 [(.ptr 63 b 0, false)] σ = some (.ret [(.str (ba X), false)], σ) := by
    by_cases hX : X = []
    ·subst hX; exact bldEmpty_law hσ
    ·cases u with
     | false => exact absurd (hu rfl) hX
     | true => exact bldString_law hσ hX (by omega)
   exact ⟨σ, (callK_ret1 e1).trans rfl⟩
theorem fprintAll_law {ds : List Dc} (hok : ∀ d ∈ ds, DOk d) (hn : ds.length < 2 ^ 40) (hb : (prF ds).length < 2 ^ 32) (o : Bool) (σ : Sto) : ∃ σ', lim C 9 [(.slice 15 47 (ds.map Dc.enc), o)] σ = some (.ret [(.str (ba (prF ds)), false)], σ') := by
 obtain ⟨σ', h⟩ := fprintAll_loop hok hn (N := ds.length + 1) (b := σ.length) (ds.length + 1) 0 (σ ++ [bcell σ.length false []]) false [] (Nat.zero_le _) (by omega) (by simp) (fun _ => rfl) (by simpa using hb)
 refine ⟨σ', fprintAll_lim (n := ds.length + 1) ?_⟩
 rw [List.drop_zero, List.nil_append] at h
 unfold fprintAll fprintAllF
 rw [List.length_map]
 exact h
end Go.Ab.Mk
end
section
namespace Go.Ab.Mk
open Go.Proofs Go.Ab
theorem peek_open {s : ByteArray} {st : RS} (hp : st.p ≤ s.size) (hc : st.c = 0) : ((peekV s st).toList == (ByteArray.mk #[40]).toList) = strIs (tokV s st.p).t [40] := by
 unfold peekV
 have e : ∀ t : ByteArray, (t.toList == (ByteArray.mk #[40]).toList) = strIs t [40] := fun _ => rfl
 rw [e]
 cases hk : (tokV s st.p).ok
 ·have h1 := (tokV_ok s hp).no hk
  have : strIs (tokV s st.p).t [40] = false := by
   cases h2 : strIs (tokV s st.p).t [40] with
   | false => rfl
   | true => have := (strIs_ok hp (by simp) h2).1; rw [hk] at this; simp at this
  rw [this, hc]
  simp only [Bool.false_and, cond_false]
  rw [strIs, ByteArray.toList_eq, ByteArray.toList_eq]; rfl
 ·simp [hc]
section
variable {N r : Nat} {s : ByteArray} {t0 : Int} {t1 : ByteArray} {t2 : List (List V)} {t3 t4 : Int} {t5 : ByteArray} {t6 t7 : List (List V)} {t8 t9 : Int} {t10 : ByteArray} {t11 t12 : List (List V)} {t13 : Int} {t14 : List (List V)}
theorem rctors_run (hs : s.size ≤ 200000) {nm : ByteArray} {ps : List ByteArray} {ty va : Tm} {ar : Nat} : ∀ (m : Nat) (cs : List (ByteArray × Tm)) (st : RS) (σ : Sto), σ[r]? = some (st.cells s) → st.p ≤ s.size → ((st.c ≠ 0 ∧ 0 < m) ∨ (cs.length + (s.size - st.p) ≤ 200000 ∧ s.size - st.p + 1 < m)) →
  rdecll2 (lim C) N m r t0 t1 t2 t3 t4 t5 t6 t7 t8 t9 t10 t11 t12 t13 t14 3 (.str nm) (strs ps) (.int .i64 ty.kind) (.int .i64 ty.num) (.str ty.name) (.slice 3 92 (ty.lvs.map Lv.enc)) (.slice 5 44 ty.args) va.kind va.num va.name (va.lvs.map Lv.enc) va.args (.int .i64 ar) (cs.map fun c => .str c.1 :: c.2.enc) σ =
   some (.ret [((Dc.mk 3 nm ps ty va ar (cs ++ (rctorsV m s st).1)).val, false)], σ.set r ((rtakeV s (rctorsV m s st).2 (ba [41])).cells s))
 | 0, _, _, _, _, _, hm => by omega
 | m + 1, cs, st, σ, h, hp, hm => by
  have hs' : s.size < 2 ^ 61 := by omega
  show rdecls2 (lim C) (rdecll2 (lim C) N m) r _ _ _ _ _ _ _ _ _ _ _ _ _ _ _ _ _ _ _ _ _ _ _ _ _ _ _ _ _ _ σ = _
  unfold rdecls2
  have e41 : ByteArray.mk #[41] = ba [41] := rfl
  have ec : ByteArray.mk #[99, 116, 111, 114] = ba wctor := rfl
  have e3 : ((3 : Int) == 3) = true := rfl
  have ht := rtake_law h hs' hp (ba [41])
  simp only [e3, cond_true, rd2 h, Option.bind_some, V.asInt, if_true]
  by_cases hc : st.c = 0
  case neg =>
   have h1 : (st.c == 0) = false := by simpa using hc
   rw [rctors_stuck hc]
   simp only [h1, cond_false, e41, callK_ret0 ht, List.append_nil]
   rw [dc_val]
   rfl
  have hpk := rpeek_law h hs' hp
  obtain ⟨hb, hm⟩ : cs.length + (s.size - st.p) ≤ 200000 ∧ s.size - st.p + 1 < m + 1 := by
   rcases hm with hm | hm
   ·exact absurd hc hm.1
   ·exact hm
  have h1 : (st.c == 0) = true := by simpa using hc
  have h2 : (st.c != 0) = false := by simp [hc]
  simp only [h1, cond_true, callK_ret1 hpk, List.getD_cons_zero, V.asStr, Option.bind_some, peek_open hp hc, rctorsV, h2, cond_false]
  cases h3 : strIs (tokV s st.p).t [40]
  case false =>
   simp only [cond_false, Bool.not_false, cond_true, e41, callK_ret0 ht, List.append_nil]
   rw [dc_val]
   rfl
  simp only [Bool.not_true, cond_true, cond_false, e41, ec]
  have e40 : ByteArray.mk #[40] = ba [40] := rfl
  rw [e40]
  have g1 := rtake_gone hp (ba [40])
  have x1 := rtake_law h hs' hp (ba [40])
  have y1 := set_get (y := (rtakeV s st (ba [40])).cells s) h
  have tk1 : (rtakeV s st (ba [40])).c = 0 → st.p < (rtakeV s st (ba [40])).p := fun h0 => by
   have := (take_read (w := [40]) hp h0).2
   simp only [List.length_singleton] at this
   omega
  generalize rtakeV s st (ba [40]) = s1 at *
  have g2 := g1.trans (rtake_gone g1.le (ba wctor))
  have x2 := rtake_law y1 hs' g1.le (ba wctor)
  have tk2 : (rtakeV s s1 (ba wctor)).c = 0 → st.p < (rtakeV s s1 (ba wctor)).p := fun h0 => by
   have h1 := (rtake_gone g1.le (ba wctor)).ok h0
   have := tk1 h1.1
   have := h1.2
   omega
  rw [List.set_set] at x2
  have y2 := set_get (y := (rtakeV s s1 (ba wctor)).cells s) h
  generalize rtakeV s s1 (ba wctor) = s2 at *
  have q3 := rname_goes (s := s) g2.le
  have g3 := g2.trans q3.gone
  have x3 := rname_law y2 hs' g2.le
  rw [List.set_set] at x3
  have y3 := set_get (y := (rnameV s s2).2.cells s) h
  generalize rnameV s s2 = n3 at *
  have q4 := rterm_goes1 g3.le
  have g4 := g3.trans q4.gone
  have x4 := rterm_law hs (s.size + 1) n3.2 _ y3 g3.le (.inr (by omega))
  rw [List.set_set] at x4
  have y4 := set_get (y := (rtermV (s.size + 1) s n3.2).2.cells s) h
  generalize rtermV (s.size + 1) s n3.2 = m4 at *
  have q5 := rtake_gone g4.le (ba [41])
  have g5 := g4.trans q5
  have x5 := rtake_law y4 hs' g4.le (ba [41])
  rw [List.set_set] at x5
  have y5 := set_get (y := (rtakeV s m4.2 (ba [41])).cells s) h
  generalize rtakeV s m4.2 (ba [41]) = s5 at *
  have hroom : room (List.length (List.map (fun c : ByteArray × Tm => V.str c.1 :: c.2.enc) cs) + 1) = true := room_ok (by simp; omega)
  simp only [callK_ret0 x1, callK_ret0 x2, callK_ret1 x3, List.getD_cons_zero, str_fits, Bool.and_true, grd, cond_true, Option.bind_some, callK_ret1 x4, tm_fits5, callK_ret0 x5, hroom]
  have em : List.map (fun c : ByteArray × Tm => V.str c.1 :: c.2.enc) cs ++ [[V.str n3.1, V.cell m4.1.val 0, V.cell m4.1.val 1, V.cell m4.1.val 2, V.cell m4.1.val 3, V.cell m4.1.val 4]] = List.map (fun c : ByteArray × Tm => V.str c.1 :: c.2.enc) (cs ++ [(n3.1, m4.1)]) := by
   rw [List.map_append, List.map_cons, List.map_nil, m4.1.enc_eq]
   rfl
  rw [em]
  have ih := rctors_run hs (nm := nm) (ps := ps) (ty := ty) (va := va) (ar := ar) m (cs ++ [(n3.1, m4.1)]) s5 _ y5 g5.le (by
   by_cases hz : s5.c = 0
   ·right
    have h4 := (q5.ok hz)
    have h3 := (q4.ok h4.1)
    have h2 := (q3.ok h3.1)
    have h1 := tk2 h2.1
    have := h4.2
    have := h3.2
    have := h2.2
    have := g5.le
    refine ⟨by rw [List.length_append]; simp only [List.length_cons, List.length_nil]; omega, by omega⟩
   ·exact .inl ⟨hz, by omega⟩)
  rw [List.append_assoc, List.set_set] at ih
  exact ih
theorem rnames_end {k : Nat} (hs : s.size ≤ 200000) {nm : ByteArray} {ps : List ByteArray} {st : RS} {σ : Sto} (h : σ[r]? = some (st.cells s)) (hp : st.p ≤ s.size) {K : List Cell → Sto → Option Res} {KP : V → Sto → Option Res}
  (hK : ∀ (σ : Sto) (st : RS), σ[r]? = some (st.cells s) → st.p ≤ s.size → ∃ cs : List V, cs.length = 15 ∧ K [] σ = some (.ret [(.agg cs, false)], σ.set r ((dTail k s nm ps st).2.cells s)) ∧ ((dTail k s nm ps st).2.c = 0 → V.agg cs = (dTail k s nm ps st).1.val)) :
  ∃ cs : List V, cs.length = 15 ∧ callK (lim C) 57 [(.ptr 79 r 0, false), (.str (ba [41]), false)] σ 0 K KP = some (.ret [(.agg cs, false)], σ.set r ((dNames k s nm ps ([], st)).2.cells s)) ∧ ((dNames k s nm ps ([], st)).2.c = 0 → V.agg cs = (dNames k s nm ps ([], st)).1.val) := by
 have hs' : s.size < 2 ^ 61 := by omega
 have ht := rtake_law h hs' hp (ba [41])
 obtain ⟨cs, h1, h2, h3⟩ := hK _ _ (set_get (y := (rtakeV s st (ba [41])).cells s) h) (rtake_gone hp (ba [41])).le
 rw [List.set_set] at h2
 refine ⟨cs, h1, ?_, ?_⟩
 ·rw [callK_ret0 ht, h2]
  unfold dNames
  rw [List.append_nil]
 ·unfold dNames
  rw [List.append_nil]
  exact h3
theorem dc_enc' (d : Dc) : d.enc =
  [.int .i64 d.kind, .str d.name, .slice 1 9 (strs d.pars), .int .i64 d.type.kind, .int .i64 d.type.num, .str d.type.name, .slice 3 92 (d.type.lvs.map Lv.enc), .slice 5 44 d.type.args,
   .int .i64 d.value.kind, .int .i64 d.value.num, .str d.value.name, .slice 3 92 (d.value.lvs.map Lv.enc), .slice 5 44 d.value.args, .int .i64 d.arity, .slice 6 71 (d.ctors.map fun c => .str c.1 :: c.2.enc)] := by
 simp [Dc.enc, Tm.enc_eq, Dc.parsV, Dc.ctorsV, strs]
theorem rloop2_other {k : Int} {m : Nat} {σ σ' : Sto} {a1 : V} {a2 : List (List V)} {a3 a4 a5 a6 a7 : V} {a8 a9 : Int} {a10 : ByteArray} {a11 a12 : List (List V)} {a13 : V} {a14 : List (List V)} (hk : (k == 3) = false) (h : lim C 57 [(.ptr 79 r 0, false), (.str (ba [41]), false)] σ = some (.ret [], σ')) :
  rdecll2 (lim C) N (m + 1) r t0 t1 t2 t3 t4 t5 t6 t7 t8 t9 t10 t11 t12 t13 t14 k a1 a2 a3 a4 a5 a6 a7 a8 a9 a10 a11 a12 a13 a14 σ =
   some (.ret [(.agg [.int .i64 k, a1, .slice 1 9 a2, a3, a4, a5, a6, a7, .int .i64 a8, .int .i64 a9, .str a10, .slice 3 92 a11, .slice 5 44 a12, a13, .slice 6 71 a14], false)], σ') := by
 show rdecls2 (lim C) (rdecll2 (lim C) N m) r _ _ _ _ _ _ _ _ _ _ _ _ _ _ _ _ _ _ _ _ _ _ _ _ _ _ _ _ _ _ σ = _
 unfold rdecls2
 have e41 : ByteArray.mk #[41] = ba [41] := rfl
 simp only [hk, cond_false, e41, callK_ret0 h]
theorem rloop1_other {k : Int} {m : Nat} {σ σ' : Sto} {a1 : V} {a2 : List (List V)} {a3 a4 a5 a6 a7 a8 a9 a10 a11 a12 a13 : V} {a14 : List (List V)} (hk : (k == 3) = false) (h : lim C 57 [(.ptr 79 r 0, false), (.str (ba [41]), false)] σ = some (.ret [], σ')) :
  rdecll1 (lim C) N (m + 1) r t0 t1 t2 t3 t4 t5 t6 t7 t8 t9 t10 t11 t12 t13 t14 k a1 a2 a3 a4 a5 a6 a7 a8 a9 a10 a11 a12 a13 a14 σ =
   some (.ret [(.agg [.int .i64 k, a1, .slice 1 9 a2, a3, a4, a5, a6, a7, a8, a9, a10, a11, a12, a13, .slice 6 71 a14], false)], σ') := by
 show rdecls1 (lim C) (rdecll1 (lim C) N m) r _ _ _ _ _ _ _ _ _ _ _ _ _ _ _ _ _ _ _ _ _ _ _ _ _ _ _ _ _ _ σ = _
 unfold rdecls1
 have e41 : ByteArray.mk #[41] = ba [41] := rfl
 simp only [hk, cond_false, e41, callK_ret0 h]
theorem rnames_run (hs : s.size ≤ 200000) {nm : ByteArray} {k : Nat} (hk : k = 1 ∨ k = 2 ∨ k = 3) (hN : N = s.size + 10) : ∀ (m : Nat) (ps : List ByteArray) (st : RS) (σ : Sto), σ[r]? = some (st.cells s) → st.p ≤ s.size → ((st.c ≠ 0 ∧ 0 < m) ∨ (ps.length + (s.size - st.p) ≤ 200000 ∧ s.size - st.p + 1 < m)) →
    ∃ cs : List V, cs.length = 15 ∧ rdecll0 (lim C) N m r t0 t1 t2 t3 t4 t5 t6 t7 t8 t9 t10 t11 t12 t13 t14 k (.str nm) (strs ps) 0 0 (ByteArray.mk #[]) [] [] 0 0 (ByteArray.mk #[]) [] [] 0 [] σ =
      some (.ret [(.agg cs, false)], σ.set r ((dNames k s nm ps (rnamesV m s st)).2.cells s)) ∧ ((dNames k s nm ps (rnamesV m s st)).2.c = 0 → V.agg cs = (dNames k s nm ps (rnamesV m s st)).1.val)
  | 0, _, _, _, _, _, hm => by omega
  | m + 1, ps, st, σ, h, hp, hm => by
    have hs' : s.size < 2 ^ 61 := by omega
    show ∃ cs : List V, _ ∧ rdecls0 (lim C) (rdecll1 (lim C) N N) (rdecll2 (lim C) N N) (rdecll0 (lim C) N m) r _ _ _ _ _ _ _ _ _ _ _ _ _ _ _ _ _ _ _ _ _ _ _ _ _ _ _ _ _ _ σ = _ ∧ _
    unfold rdecls0
    have e41 : ByteArray.mk #[41] = ba [41] := rfl
    have rest : ∀ {K : List Cell → Sto → Option Res} {KP : V → Sto → Option Res}, (∀ (σ : Sto) (st : RS), σ[r]? = some (st.cells s) → st.p ≤ s.size → ∃ cs : List V, cs.length = 15 ∧ K [] σ = some (.ret [(.agg cs, false)], σ.set r ((dTail k s nm ps st).2.cells s)) ∧ ((dTail k s nm ps st).2.c = 0 → V.agg cs = (dTail k s nm ps st).1.val)) →
        ∃ cs : List V, cs.length = 15 ∧ callK (lim C) 57 [(.ptr 79 r 0, false), (.str (ba [41]), false)] σ 0 K KP = some (.ret [(.agg cs, false)], σ.set r ((dNames k s nm ps ([], st)).2.cells s)) ∧ ((dNames k s nm ps ([], st)).2.c = 0 → V.agg cs = (dNames k s nm ps ([], st)).1.val) := fun hK => rnames_end hs h hp hK
    have h3way : (st.c = 0 ∧ strIs (tokV s st.p).t [41] = false) ∨ (st.c = 0 ∧ strIs (tokV s st.p).t [41] = true) ∨ st.c ≠ 0 := by
      by_cases hc : st.c = 0
      · cases h3 : strIs (tokV s st.p).t [41]
        · exact .inl ⟨hc, rfl⟩
        · exact .inr (.inl ⟨hc, rfl⟩)
      · exact .inr (.inr hc)
    have hpk := rpeek_law h hs' hp
    rcases h3way with ⟨hc, h3⟩ | hend
    · obtain ⟨hb, hm⟩ : ps.length + (s.size - st.p) ≤ 200000 ∧ s.size - st.p + 1 < m + 1 := by
        rcases hm with hm | hm
        · exact absurd hc hm.1
        · exact hm
      have h1 : (st.c == 0) = true := by simpa using hc
      have h2 : (st.c != 0) = false := by simp [hc]
      have q3 := rname_goes (s := s) (st := st) hp
      have x3 := rname_law h hs' hp
      have y3 := set_get (y := (rnameV s st).2.cells s) h
      have hroom : room (List.length (strs ps) + 1) = true := room_ok (by rw [strs_length]; omega)
      simp only [rd2 h, Option.bind_some, V.asInt, if_true, h1, cond_true, callK_ret1 hpk, List.getD_cons_zero, V.asStr, peek_close hp hc, h3, Bool.not_false, callK_ret1 x3, str_fits, Bool.and_true, grd, hroom, rnamesV, h2, cond_false]
      generalize rnameV s st = n3 at *
      have em : strs ps ++ [[V.str n3.1]] = strs (ps ++ [n3.1]) := by simp [strs]
      rw [em]
      have ih := rnames_run hs (nm := nm) hk hN m (ps ++ [n3.1]) n3.2 _ y3 q3.le (by
        by_cases hz : n3.2.c = 0
        · right
          have := (q3.ok hz).2
          have := q3.le
          refine ⟨by rw [List.length_append]; simp only [List.length_cons, List.length_nil]; omega, by omega⟩
        · exact .inl ⟨hz, by omega⟩)
      have e2 : ∀ x : List ByteArray × RS, dNames k s nm (ps ++ [n3.1]) x = dNames k s nm ps (n3.1 :: x.1, x.2) := fun x => by unfold dNames; simp
      rw [e2, List.set_set] at ih
      exact ih
    have hr : rnamesV (m + 1) s st = ([], st) := by
      rcases hend with ⟨hc, h3⟩ | hc
      · have h2 : (st.c != 0) = false := by simp [hc]
        simp only [rnamesV, h2, cond_false, h3, cond_true]
      · exact rnames_stuck hc
    rw [hr]
    clear hm hr
    obtain ⟨N', rfl⟩ : ∃ N', N = N' + 1 := ⟨N - 1, by omega⟩
    rcases hend with ⟨hc, h3⟩ | hc
    all_goals
      first
        | (have h1 : (st.c == 0) = true := by simpa using hc
           simp only [rd2 h, Option.bind_some, V.asInt, if_true, h1, cond_true, callK_ret1 hpk, List.getD_cons_zero, V.asStr, peek_close hp hc, h3, Bool.not_true, cond_false])
        | (have h1 : (st.c == 0) = false := by simpa using hc
           simp only [rd2 h, Option.bind_some, V.asInt, if_true, h1, cond_false])
      refine rest ?_
      clear rest hpk hc
      intro σ2 st2 h2 hp2
      have q1 := rterm_goes1 (s := s) (st := st2) hp2
      have x1 := rterm_law hs (s.size + 1) st2 _ h2 hp2 (.inr (by omega))
      have y1 := set_get (y := (rtermV (s.size + 1) s st2).2.cells s) h2
      have k12 : (((1 : Nat) : Int) == 2) = false := rfl
      have k13 : (((1 : Nat) : Int) == 3) = false := rfl
      have k22 : (((2 : Nat) : Int) == 2) = true := rfl
      have k23 : (((2 : Nat) : Int) == 3) = false := rfl
      have k32 : (((3 : Nat) : Int) == 2) = false := rfl
      have k33 : (((3 : Nat) : Int) == 3) = true := rfl
      rcases hk with rfl | rfl | rfl
      · have x2 := rtake_law y1 hs' q1.le (ba [41])
        rw [List.set_set] at x2
        generalize hty : rtermV (s.size + 1) s st2 = ty at *
        refine ⟨(dTail 1 s nm ps st2).1.enc, Dc.enc_len _, ?_, fun _ => rfl⟩
        simp only [k13, k12, cond_false, callK_ret1 x1, List.getD_cons_zero, tm_fits5, grd, cond_true, Option.bind_some]
        refine (rloop2_other k13 x2).trans ?_
        simp only [dTail, dTail1, hty]
        rw [dc_enc']
        rfl
      · have q2 := rterm_goes1 (s := s) (st := (rtermV (s.size + 1) s st2).2) q1.le
        have x2 := rterm_law hs (s.size + 1) _ _ y1 q1.le (.inr (by omega))
        have y2 := set_get (y := (rtermV (s.size + 1) s (rtermV (s.size + 1) s st2).2).2.cells s) h2
        rw [List.set_set] at x2
        have x3 := rtake_law y2 hs' q2.le (ba [41])
        rw [List.set_set] at x3
        generalize hty : rtermV (s.size + 1) s st2 = ty at *
        generalize hva : rtermV (s.size + 1) s ty.2 = va at *
        refine ⟨(dTail 2 s nm ps st2).1.enc, Dc.enc_len _, ?_, fun _ => rfl⟩
        simp only [k23, k22, cond_false, cond_true, callK_ret1 x1, List.getD_cons_zero, tm_fits5, grd, Option.bind_some, callK_ret1 x2]
        refine (rloop1_other k23 x3).trans ?_
        simp only [dTail, dTail2, hty, hva]
        rw [dc_enc']
        rfl
      · clear x1 y1 q1
        have ht := token_law h2 hs' hp2
        have hf := rfail_law h2 (tokV s st2.p).at_
        simp only [k33, cond_true, callK_ret3 ht rfl, tok0, tok1, tok2, V.asBool, Option.bind_some, V.asStr, dTail, dTail3]
        have bad : badAr (tokV s st2.p) = true → (dTail4 s nm ps (rarityV s st2).1 (rarityV s st2).2).2 = rfailV st2 (tokV s st2.p).at_ := by
          intro hb
          by_cases hc : st2.c = 0
          · have h2' : (st2.c != 0) = false := by simp [hc]
            have har : rarityV s st2 = (0, rfailV st2 (tokV s st2.p).at_) := by
              unfold rarityV
              simp only [hb, h2', cond_false, cond_true]
            rw [har, dTail4_stuck (rfail_c _ _)]
          · rw [rarity_stuck hc, dTail4_stuck hc, rfail_stuck hc]
        have fin : ∀ (cs : List V), cs.length = 15 → badAr (tokV s st2.p) = true → ∀ {KP : V → Sto → Option Res}, ∃ cs' : List V, cs'.length = 15 ∧ callK (lim C) 58 [(.ptr 79 r 0, false), (.int .i64 (tokV s st2.p).at_, false)] σ2 0 (fun _ σ => some (.ret [(.agg cs, false)], σ)) KP = some (.ret [(.agg cs', false)], σ2.set r ((dTail4 s nm ps (rarityV s st2).1 (rarityV s st2).2).2.cells s)) ∧ ((dTail4 s nm ps (rarityV s st2).1 (rarityV s st2).2).2.c = 0 → V.agg cs' = (dTail4 s nm ps (rarityV s st2).1 (rarityV s st2).2).1.val) := by
          intro cs hl hb KP
          rw [bad hb]
          exact ⟨cs, hl, by rw [callK_ret0 hf], fun h0 => absurd h0 (rfail_c _ _)⟩
        cases hok : (tokV s st2.p).ok
        case false =>
          simp only [Bool.not_false, cond_true]
          exact fin _ (by simp) (by simp [badAr, hok])
        simp only [Bool.not_true, cond_false]
        have eno : ((tokV s st2.p).t.toList == (ByteArray.mk #[]).toList) = isNo (tokV s st2.p).t := rfl
        rw [eno]
        cases hno : isNo (tokV s st2.p).t
        case true =>
          simp only [cond_true]
          exact fin _ (by simp) (by simp [badAr, hno])
        have hz := isNo_size hno
        have hz' : decide ((0 : Int) < ((tokV s st2.p).t.size : Int)) = true := by simp; omega
        simp only [cond_false, hz', grd, show decide (0 ≤ (0 : Int)) = true from rfl, Bool.and_self, cond_true, Option.bind_some, Int.toNat_zero]
        by_cases b48 : byteAt (tokV s st2.p).t 0 < 48
        case pos =>
          rw [decide_eq_true b48]
          simp only [cond_true]
          exact fin _ (by simp) (by simp only [badAr, hok, hno, isDigit, Bool.not_true, Bool.false_or, Bool.or_eq_true, Bool.not_eq_true', Bool.and_eq_false_iff, decide_eq_false_iff_not]; left; left; omega)
        rw [decide_eq_false b48]
        simp only [cond_false]
        by_cases b57 : byteAt (tokV s st2.p).t 0 > 57
        case pos =>
          rw [decide_eq_true b57]
          simp only [cond_true]
          exact fin _ (by simp) (by simp only [badAr, hok, hno, isDigit, Bool.not_true, Bool.false_or, Bool.or_eq_true, Bool.not_eq_true', Bool.and_eq_false_iff, decide_eq_false_iff_not]; left; right; omega)
        rw [decide_eq_false b57]
        simp only [cond_false]
        have hdg : isDigit (byteAt (tokV s st2.p).t 0) = true := by simp only [isDigit, Bool.and_eq_true, decide_eq_true_eq]; omega
        by_cases b2 : (tokV s st2.p).t.size > 2
        case pos =>
          rw [show decide (((tokV s st2.p).t.size : Int) > 2) = true from decide_eq_true (by omega)]
          simp only [cond_true]
          exact fin _ (by simp) (by simp [badAr, b2])
        rw [show decide (((tokV s st2.p).t.size : Int) > 2) = false from decide_eq_false (by omega)]
        simp only [cond_false]
        have hb : badAr (tokV s st2.p) = false := by simp [badAr, hok, hno, hdg, b2]
        obtain ⟨d1, _⟩ := tok_dig hp2 hok hno hdg
        have hst : (dTail4 s nm ps (rarityV s st2).1 (rarityV s st2).2).2 = (dTail4 s nm ps (numV (tokV s st2.p).t) (rnextV s st2).2).2 ∧ ((dTail4 s nm ps (rarityV s st2).1 (rarityV s st2).2).2.c = 0 → dTail4 s nm ps (rarityV s st2).1 (rarityV s st2).2 = dTail4 s nm ps (numV (tokV s st2.p).t) (rnextV s st2).2) := by
          by_cases hc : st2.c = 0
          · have h2' : (st2.c != 0) = false := by simp [hc]
            have har : rarityV s st2 = (numV (tokV s st2.p).t, (rnextV s st2).2) := by
              unfold rarityV
              simp only [hb, h2', cond_false]
            rw [har]
            exact ⟨rfl, fun _ => rfl⟩
          · rw [rarity_stuck hc, rnext_stuck hc, dTail4_stuck hc, dTail4_stuck hc]
            exact ⟨rfl, fun h0 => absurd h0 hc⟩
        rw [hst.1]
        have q1 := rnext_goes (s := s) (st := st2) hp2
        have x1 := rnext_law h2 hs' hp2
        have y1 := set_get (y := (rnextV s st2).2.cells s) h2
        generalize rnextV s st2 = n1 at *
        have xn := number_law d1 (σ2.set r (n1.2.cells s))
        have q2 := rterm_goes1 (s := s) (st := n1.2) q1.le
        have x2 := rterm_law hs (s.size + 1) n1.2 _ y1 q1.le (.inr (by omega))
        rw [List.set_set] at x2
        have y2 := set_get (y := (rtermV (s.size + 1) s n1.2).2.cells s) h2
        have e4 : ∀ ar, dTail4 s nm ps ar n1.2 = (⟨3, nm, ps, (rtermV (s.size + 1) s n1.2).1, .var 0, ar, (rctorsV (s.size + 10) s (rtermV (s.size + 1) s n1.2).2).1⟩, rtakeV s (rctorsV (s.size + 10) s (rtermV (s.size + 1) s n1.2).2).2 (ba [41])) := fun _ => rfl
        rw [e4] at hst ⊢
        simp only [callK_ret1 x1, List.getD_cons_zero, callK_ret1 xn, int_fits, cond_true, Option.bind_some, callK_ret1 x2, tm_fits5, k32, cond_false]
        generalize numV (tokV s st2.p).t = ar at *
        generalize rtermV (s.size + 1) s n1.2 = ty at *
        have x3 := rctors_run (N := N' + 1) (t0 := t0) (t1 := t1) (t2 := t2) (t3 := t3) (t4 := t4) (t5 := t5) (t6 := t6) (t7 := t7) (t8 := t8) (t9 := t9) (t10 := t10) (t11 := t11) (t12 := t12) (t13 := t13) (t14 := t14) hs (nm := nm) (ps := ps) (ty := ty.1) (va := .var 0) (ar := ar) (N' + 1) [] ty.2 _ y2 q2.le (.inr ⟨by simp; omega, by omega⟩)
        rw [List.nil_append, List.set_set, hN] at x3
        rw [hN]
        refine ⟨(Dc.mk 3 nm ps ty.1 (.var 0) ar (rctorsV (s.size + 10) s ty.2).1).enc, Dc.enc_len _, x3, fun h0 => ?_⟩
        rw [hst.2 (by rw [hst.1]; exact h0)]
        rfl
end
end Go.Ab.Mk
end
section
namespace Go.Ab.Mk
open Go.Proofs Go.Ab
theorem tm_read (t : Tm) : V.agg [t.enc.getD 0 V.any, t.enc.getD 1 V.any, t.enc.getD 2 V.any, t.enc.getD 3 V.any, t.enc.getD 4 V.any] = t.val := by rw [t.enc_eq]; rfl
theorem alike1_loop {N : Nat} {L : List Tm} (hb : L.length < 2 ^ 60) {w : Bool} {a0 a1 b0 b1 : Int} {a2 b2 : ByteArray} {a3 b3 : List (List V)} {σ : Sto}
  (h : ∀ c ∈ L, lim C 44 [(c.val, false), (c.val, false), (.bool w, false)] σ = some (.ret [(.bool true, false)], σ)) :
  ∀ (m i : Nat), i ≤ L.length → L.length - i < m → alikel1 (lim C) N m w i a0 a1 a2 a3 (L.map Tm.enc) b0 b1 b2 b3 (L.map Tm.enc) σ = some (.ret [(.bool true, false)], σ)
 | 0, i, _, hm => by omega
 | m + 1, i, hi, hm => by
  show alikes1 (lim C) (alikel1 (lim C) N m) w i a0 a1 a2 a3 (L.map Tm.enc) b0 b1 b2 b3 (L.map Tm.enc) σ = _
  unfold alikes1
  rw [List.length_map]
  by_cases hlt : i < L.length
  ·have hget : (L.map Tm.enc).getD (Int.toNat (i : Int)) [] = L[i].enc := by simp [hlt]
   have hc := h L[i] (List.getElem_mem hlt)
   rw [d0, dlt hlt, hget]
   simp only [cond_true, Bool.and_self, grd, Option.bind_some, tm_read, callK_ret1 hc, List.getD_cons_zero, V.asBool, Bool.not_true, cond_false, wrap_succ (show i < 2 ^ 61 by omega)]
   exact alike1_loop hb h m (i + 1) (by omega) (by omega)
  ·rw [dnlt hlt]; rfl
theorem alike0_loop {N : Nat} {ls : List Lv} (hb : ls.length < 2 ^ 60) {L : List Tm} {a0 a1 b0 b1 : Int} {a2 b2 : ByteArray} {σ : Sto}
  (h : alikel1 (lim C) N N false (0 : Int) a0 a1 a2 (ls.map Lv.enc) (L.map Tm.enc) b0 b1 b2 (ls.map Lv.enc) (L.map Tm.enc) σ = some (.ret [(.bool true, false)], σ)) :
  ∀ (m i : Nat), i ≤ ls.length → ls.length - i < m → alikel0 (lim C) N m false i a0 a1 a2 (ls.map Lv.enc) (L.map Tm.enc) b0 b1 b2 (ls.map Lv.enc) (L.map Tm.enc) σ = some (.ret [(.bool true, false)], σ)
 | 0, i, _, hm => by omega
 | m + 1, i, hi, hm => by
  show alikes0 (lim C) (alikel1 (lim C) N N) (alikel0 (lim C) N m) false i a0 a1 a2 (ls.map Lv.enc) (L.map Tm.enc) b0 b1 b2 (ls.map Lv.enc) (L.map Tm.enc) σ = _
  unfold alikes0
  rw [List.length_map]
  by_cases hlt : i < ls.length
  ·have hget : (ls.map Lv.enc).getD (Int.toNat (i : Int)) [] = ls[i].enc := by simp [hlt]
   have hc := sameLevel_law σ ls[i]
   rw [d0, dlt hlt, hget]
   simp only [cond_true, Bool.and_self, grd, Option.bind_some, lv_read, callK_ret1 hc, List.getD_cons_zero, V.asBool, Bool.not_true, cond_false, wrap_succ (show i < 2 ^ 61 by omega)]
   exact alike0_loop hb h m (i + 1) (by omega) (by omega)
  ·rw [dnlt hlt]; exact h
theorem alike_law (σ : Sto) : ∀ t : Tm, t.wide < 2 ^ 60 → lim C 44 [(t.val, false), (t.val, false), (.bool false, false)] σ = some (.ret [(.bool true, false)], σ) :=
 Tm.ind fun t ih hw => alike_lim (n := t.wide + 10) <| by
  have hk := kids_le t
  have hl := lvs_le t
  have h1 := alike1_loop (N := t.wide + 10) (L := t.kids) (by omega) (w := false) (a0 := t.kind) (a1 := t.num) (b0 := t.kind) (b1 := t.num) (a2 := t.name) (b2 := t.name) (a3 := t.lvs.map Lv.enc) (b3 := t.lvs.map Lv.enc) (σ := σ)
   (fun c hc => ih c hc (by have := kid_wide hc; omega)) (t.wide + 10) 0 (by omega) (by omega)
  have h0 := alike0_loop (N := t.wide + 10) (ls := t.lvs) (by omega) h1 (t.wide + 10) 0 (by omega) (by omega)
  have e : ∀ x : Int, (x != x) = false := fun x => by simp
  simp only [alike, alikeF, e, cond_false, beq_self_eq_true, Bool.not_true]
  exact h0
theorem sameTerm_law (σ : Sto) (t : Tm) (hw : t.wide < 2 ^ 60) : lim C 26 [(t.val, false), (t.val, false)] σ = some (.ret [(.bool true, false)], σ) :=
 sameTerm_lim (n := 0) <| by
  have h := alike_law σ t hw
  simp only [Tm.val] at h
  simp only [sameTerm, sameTermF, callK_ret1 h, List.getD_cons_zero]
end Go.Ab.Mk
end
section
namespace Go.Ab.Mk
open Go.Proofs Go.Ab
theorem levelParts_loop {N : Nat} {L : List Lv} (hb : L.length < 2 ^ 60) {most : Int} {k : Int} {nm : ByteArray} {σ : Sto}
  (h : ∀ c ∈ L, ∀ most : Int, ∃ n : Int, lim C 68 [(.agg [.int .i64 c.kind, .str c.name, .slice 3 92 c.args], false), (.int .i64 most, false)] σ = some (.ret [(.int .i64 n, false)], σ)) :
  ∀ (m i : Nat) (v : Int), i ≤ L.length → L.length - i < m → ∃ n : Int, levelPartsl0 (lim C) N m most v i k nm (L.map Lv.enc) σ = some (.ret [(.int .i64 n, false)], σ)
 | 0, i, _, _, hm => by omega
 | m + 1, i, v, hi, hm => by
  show ∃ n : Int, levelPartss0 (lim C) (levelPartsl0 (lim C) N m) _ _ _ _ _ _ σ = _
  unfold levelPartss0
  rw [List.length_map]
  by_cases hlt : i < L.length
  ·rw [dlt hlt, cond_true]
   cases decide (v ≤ most) with
   | false => exact ⟨v, rfl⟩
   | true =>
    obtain ⟨x, hx⟩ := h _ (List.getElem_mem hlt) (IntKind.wrap .i64 (most - v))
    obtain ⟨n, hn⟩ := levelParts_loop (N := N) hb h m (i + 1) (IntKind.wrap .i64 (v + x)) (by omega) (by omega)
    refine ⟨n, ?_⟩
    rw [cond_true, d0, lv_get hlt, lv_read]
    simp only [Bool.and_self, grd, cond_true, Option.bind_some]
    refine (callK_ret1 hx).trans ?_
    simp only [List.getD_cons_zero, V.asInt, if_true, Option.bind_some, wrap_succ (show i < 2 ^ 61 by omega)]
    exact hn
  ·rw [dnlt hlt]; exact ⟨v, rfl⟩
theorem levelParts_law (σ : Sto) : ∀ (l : Lv) (most : Int), ∃ n : Int, lim C 68 [(.agg [.int .i64 l.kind, .str l.name, .slice 3 92 l.args], false), (.int .i64 most, false)] σ = some (.ret [(.int .i64 n, false)], σ) :=
 Lv.ind fun l ih most => by
  have h2 := kids_few l
  obtain ⟨n, hn⟩ := levelParts_loop (N := 10) (L := l.kids) (by omega) (most := most) (k := l.kind) (nm := l.name) (σ := σ) ih 10 0 1 (by omega) (by omega)
  exact ⟨n, levelParts_lim (n := 10) hn⟩
theorem levelsFit_loop1 {N : Nat} {L : List Tm} (hb : L.length < 2 ^ 60) {k a : Int} {nm : ByteArray} {t3 : List (List V)} {σ : Sto}
  (h : ∀ c ∈ L, ∃ b : Bool, lim C 39 [(c.val, false)] σ = some (.ret [(.bool b, false)], σ)) :
  ∀ (m i : Nat), i ≤ L.length → L.length - i < m → ∃ b : Bool, levelsFitl1 (lim C) N m i k a nm t3 (L.map Tm.enc) σ = some (.ret [(.bool b, false)], σ)
 | 0, i, _, hm => by omega
 | m + 1, i, hi, hm => by
  show ∃ b : Bool, levelsFits1 (lim C) (levelsFitl1 (lim C) N m) _ _ _ _ _ _ σ = _
  unfold levelsFits1
  rw [List.length_map]
  by_cases hlt : i < L.length
  ·obtain ⟨x, hx⟩ := h _ (List.getElem_mem hlt)
   obtain ⟨n, hn⟩ := levelsFit_loop1 (N := N) hb (k := k) (a := a) (nm := nm) (t3 := t3) h m (i + 1) (by omega) (by omega)
   cases x with
   | false =>
    refine ⟨false, ?_⟩
    rw [dlt hlt, cond_true, d0, tm_get hlt, tm_readB]
    simp only [Bool.and_self, grd, cond_true, Option.bind_some]
    exact (callK_ret1 hx).trans rfl
   | true =>
    refine ⟨n, ?_⟩
    rw [dlt hlt, cond_true, d0, tm_get hlt, tm_readB]
    simp only [Bool.and_self, grd, cond_true, Option.bind_some]
    refine (callK_ret1 hx).trans ?_
    simp only [List.getD_cons_zero, V.asBool, Option.bind_some, Bool.not_true, cond_false, wrap_succ (show i < 2 ^ 61 by omega)]
    exact hn
  ·rw [dnlt hlt]; exact ⟨true, rfl⟩
theorem levelsFit_loop0 {N : Nat} {L : List Lv} (hb : L.length < 2 ^ 60) {k a : Int} {nm : ByteArray} {t4 : List (List V)} {σ : Sto}
  (h : ∃ b : Bool, levelsFitl1 (lim C) N N 0 k a nm (L.map Lv.enc) t4 σ = some (.ret [(.bool b, false)], σ)) :
  ∀ (m i : Nat), i ≤ L.length → L.length - i < m → ∃ b : Bool, levelsFitl0 (lim C) N m i k a nm (L.map Lv.enc) t4 σ = some (.ret [(.bool b, false)], σ)
 | 0, i, _, hm => by omega
 | m + 1, i, hi, hm => by
  show ∃ b : Bool, levelsFits0 (lim C) (levelsFitl1 (lim C) N N) (levelsFitl0 (lim C) N m) _ _ _ _ _ _ σ = _
  unfold levelsFits0
  rw [List.length_map]
  by_cases hlt : i < L.length
  ·obtain ⟨x, hx⟩ := levelParts_law σ L[i] 300
   obtain ⟨n, hn⟩ := levelsFit_loop0 (N := N) hb h m (i + 1) (by omega) (by omega)
   rw [dlt hlt, cond_true, d0, lv_get hlt, lv_read]
   simp only [Bool.and_self, grd, cond_true, Option.bind_some]
   rw [callK_ret1 hx]
   simp only [List.getD_cons_zero, V.asInt, if_true, Option.bind_some, wrap_succ (show i < 2 ^ 61 by omega)]
   cases decide (x > 300) with
   | true => exact ⟨false, rfl⟩
   | false => exact ⟨n, hn⟩
  ·rw [dnlt hlt]; exact h
theorem levelsFit_law (σ : Sto) : ∀ (t : Tm), t.wide < 2 ^ 32 → ∃ b : Bool, lim C 39 [(t.val, false)] σ = some (.ret [(.bool b, false)], σ) :=
 Tm.ind fun t ih hw => by
  have hk := kids_le t
  have hl := lvs_le t
  obtain ⟨n, hn⟩ := levelsFit_loop0 (N := t.wide + 10) (L := t.lvs) (by omega) (k := t.kind) (a := t.num) (nm := t.name) (t4 := t.args) (σ := σ)
   (levelsFit_loop1 (N := t.wide + 10) (L := t.kids) (by omega) (fun c hc => ih c hc (by have := kid_wide hc; omega)) (t.wide + 10) 0 (by omega) (by omega)) (t.wide + 10) 0 (by omega) (by omega)
  exact ⟨n, levelsFit_lim (n := t.wide + 10) hn⟩
end Go.Ab.Mk
end
section
namespace Go.Ab.Mk
open Go.Proofs Go.Ab Go.Proofs.Mk
theorem rpt_loop1 {N : Nat} {L : List Tm} (hb : L.length < 2 ^ 33) {k n : Int} {s : ByteArray} {t3 : List (List V)} {σ : Sto}
  (h : ∀ c ∈ L, (printT c).length < 2 ^ 33 → lim C 28 [(c.val, false)] σ = some (.ret [(.str (ba (printT c)), false)], σ)) :
  ∀ (m i : Nat) (X : List UInt8), i ≤ L.length → L.length - i < m → X.length + (ksL ((L.drop i).map printT)).length < 2 ^ 33 →
   rprintTerml1 (lim C) N m (ba X) i k n s t3 (L.map Tm.enc) σ = some (.ret [(.str (ba (X ++ ksL ((L.drop i).map printT))), false)], σ)
 | 0, i, _, _, hm, _ => by omega
 | m + 1, i, X, hi, hm, hs => by
  show rprintTerms1 (lim C) (rprintTerml1 (lim C) N m) _ _ _ _ _ _ _ σ = _
  unfold rprintTerms1
  rw [List.length_map]
  have e32 : ByteArray.mk #[32] = ba [32] := rfl
  have e41 : ByteArray.mk #[41] = ba [41] := rfl
  by_cases hlt : i < L.length
  ·have hx : L.drop i = L[i] :: L.drop (i + 1) := List.drop_eq_getElem_cons hlt
   rw [hx, List.map_cons, ksL_cons] at hs
   simp only [List.length_cons, List.length_append] at hs
   have e1 := h L[i] (List.getElem_mem hlt) (by omega)
   have hr : strRoom (ba X) (ba [32]) = true := strRoom_ok (by simp only [ba_size, List.length_singleton]; omega)
   have hr2 : strRoom (ba (X ++ [32])) (ba (printT L[i])) = true := strRoom_ok (by simp only [ba_size, List.length_append, List.length_singleton]; omega)
   have ih := rpt_loop1 (N := N) hb (k := k) (n := n) (s := s) (t3 := t3) h m (i + 1) (X ++ [32] ++ printT L[i]) (by omega) (by omega) (by simp only [List.length_append, List.length_singleton]; omega)
   rw [dlt hlt, cond_true, d0, tm_get hlt, tm_readB, e32, hr]
   simp only [Bool.and_self, grd, cond_true, Option.bind_some, callK_ret1 e1, List.getD_cons_zero, V.asStr, ba_append, hr2, wrap_succ (show i < 2 ^ 61 by omega)]
   refine ih.trans ?_
   rw [hx, List.map_cons, ksL_cons]
   simp
  ·rw [List.drop_eq_nil_of_le (by omega)] at hs ⊢
   rw [List.map_nil, ksL_nil] at hs ⊢
   have hr : strRoom (ba X) (ba [41]) = true := strRoom_ok (by simp only [ba_size, List.length_singleton] at hs ⊢; omega)
   rw [dnlt hlt, cond_false, e41, hr, ba_append]
   rfl
theorem rpt_loop0 {N : Nat} {K : List Tm} (hK : K.length < 2 ^ 33) (hN : K.length < N) {L : List Lv} (hb : L.length < 2 ^ 33) {k n : Int} {s : ByteArray} {σ : Sto}
  (h : ∀ c ∈ K, (printT c).length < 2 ^ 33 → lim C 28 [(c.val, false)] σ = some (.ret [(.str (ba (printT c)), false)], σ)) :
  ∀ (m i : Nat) (X : List UInt8), i ≤ L.length → L.length - i < m → X.length + (lvsL (L.drop i) ++ ksL (K.map printT)).length < 2 ^ 33 →
   rprintTerml0 (lim C) N m (ba X) i k n s (L.map Lv.enc) (K.map Tm.enc) σ = some (.ret [(.str (ba (X ++ (lvsL (L.drop i) ++ ksL (K.map printT)))), false)], σ)
 | 0, i, _, _, hm, _ => by omega
 | m + 1, i, X, hi, hm, hs => by
  show rprintTerms0 (lim C) (rprintTerml1 (lim C) N N) (rprintTerml0 (lim C) N m) _ _ _ _ _ _ _ σ = _
  unfold rprintTerms0
  rw [List.length_map]
  have e32 : ByteArray.mk #[32] = ba [32] := rfl
  by_cases hlt : i < L.length
  ·have hx : L.drop i = L[i] :: L.drop (i + 1) := List.drop_eq_getElem_cons hlt
   rw [hx, lvsL_cons] at hs
   simp only [List.length_cons, List.length_append] at hs
   have e1 := rprint_law σ L[i] (by omega)
   have hr : strRoom (ba X) (ba [32]) = true := strRoom_ok (by simp only [ba_size, List.length_singleton]; omega)
   have hr2 : strRoom (ba (X ++ [32])) (ba (printL L[i])) = true := strRoom_ok (by simp only [ba_size, List.length_append, List.length_singleton]; omega)
   have ih := rpt_loop0 (N := N) hK hN hb (k := k) (n := n) (s := s) h m (i + 1) (X ++ [32] ++ printL L[i]) (by omega) (by omega) (by simp only [List.length_append, List.length_singleton]; omega)
   rw [dlt hlt, cond_true, d0, lv_get hlt, lv_read, e32, hr]
   simp only [Bool.and_self, grd, cond_true, Option.bind_some, callK_ret1 e1, List.getD_cons_zero, V.asStr, ba_append, hr2, wrap_succ (show i < 2 ^ 61 by omega)]
   refine ih.trans ?_
   rw [hx, lvsL_cons]
   simp
  ·rw [List.drop_eq_nil_of_le (by omega), lvsL_nil, List.nil_append] at hs ⊢
   have e := rpt_loop1 (N := N) hK (k := k) (n := n) (s := s) (t3 := L.map Lv.enc) h N 0 X (by omega) (by omega) (by rw [List.drop_zero]; exact hs)
   rw [List.drop_zero] at e
   rw [dnlt hlt, cond_false]
   exact e
theorem words_slice (t : Tm) (h : t.kind ≠ 0) {l : List (List V)} (hl : (V.asSlice (List.getD [(V.slice 1 9 [[V.str (ByteArray.mk #[])], [V.str (ByteArray.mk #[115, 111, 114, 116])], [V.str (ByteArray.mk #[99, 111, 110, 115, 116])], [V.str (ByteArray.mk #[97, 112, 112])], [V.str (ByteArray.mk #[108, 97, 109])], [V.str (ByteArray.mk #[112, 105])], [V.str (ByteArray.mk #[108, 101, 116])]])] 0 V.any) 1 9) = some l) :
  (decide (0 ≤ t.kind) && decide (t.kind < l.length)) = true ∧ V.asStr (List.getD (List.getD l (Int.toNat t.kind) []) 0 V.any) = some (ba t.word) := by
 obtain rfl := Option.some.inj (hl.symm.trans rfl)
 cases t <;> first | exact absurd rfl h | exact ⟨rfl, rfl⟩
theorem rprintTerm_law (σ : Sto) : ∀ (t : Tm), t.top < 2 ^ 60 → t.wide < 2 ^ 32 → (printT t).length < 2 ^ 33 → lim C 28 [(t.val, false)] σ = some (.ret [(.str (ba (printT t)), false)], σ) :=
 Tm.ind fun t ih ht hw hs => by
  by_cases hk : t.kind = 0
  ·obtain ⟨m, rfl⟩ : ∃ m, t = .var m := by cases t <;> simp [Tm.kind] at hk; exact ⟨_, rfl⟩
   simp only [printT, List.length_cons] at hs
   have e1 := digits_law m ht σ
   have hr : strRoom (ba [35]) (ba (Go.Lib.decDigits m)) = true := strRoom_ok (by simp [ba_size]; omega)
   have e35 : ByteArray.mk #[35] = ba [35] := rfl
   refine rprintTerm_lim (n := 0) ?_
   have e1' : lim C 27 [(.int .i64 ((Tm.var m).num : Int), false)] σ = _ := e1
   simp only [rprintTerm, rprintTermF, Tm.kind, beq_self_eq_true, cond_true, callK_ret1 e1', List.getD_cons_zero, V.asStr, Option.bind_some, e35, hr, grd, ba_append, List.cons_append, List.nil_append, printT]
  ·rw [print_node t hk] at hs ⊢
   simp only [List.length_append, List.length_cons] at hs
   have hk3 := kids_le t
   have hlv := lvs_le t
   have hw5 := word_len t
   have loop := fun X => rpt_loop0 (N := t.wide + 10) (K := t.kids) (by omega) (by omega) (L := t.lvs) (by omega) (k := t.kind) (n := t.num) (s := t.name) (σ := σ) (fun c hc h => ih c hc (by have := kid_depth hc; omega) (by have := kid_wide hc; omega) h) (t.wide + 10) 0 X (by omega) (by omega)
   simp only [List.drop_zero] at loop
   obtain ⟨l5, hl5⟩ : ∃ l, (V.asSlice (List.getD [(V.slice 1 9 [[V.str (ByteArray.mk #[])], [V.str (ByteArray.mk #[115, 111, 114, 116])], [V.str (ByteArray.mk #[99, 111, 110, 115, 116])], [V.str (ByteArray.mk #[97, 112, 112])], [V.str (ByteArray.mk #[108, 97, 109])], [V.str (ByteArray.mk #[112, 105])], [V.str (ByteArray.mk #[108, 101, 116])]])] 0 V.any) 1 9) = some l := ⟨_, rfl⟩
   obtain ⟨k1, k2⟩ := words_slice t hk hl5
   have hr : strRoom (ba [40]) (ba t.word) = true := strRoom_ok (by simp [ba_size]; omega)
   have e40 : ByteArray.mk #[40] = ba [40] := rfl
   refine rprintTerm_lim (n := t.wide + 10) ?_
   simp only [rprintTerm, rprintTermF, hl5, Option.bind_some, k1, k2, grd, cond_true, e40, hr, ba_append, List.cons_append, List.nil_append]
   rw [show (t.kind == 0) = false by simpa using hk, cond_false]
   by_cases h2 : t.kind = 2
   ·rw [if_pos h2] at hs ⊢
    simp only [List.length_cons] at hs
    have hsz : t.name.size = t.name.data.toList.length := by rw [← ba_size, ba_of]
    have e32 : ByteArray.mk #[32] = ba [32] := rfl
    have hr2 : strRoom (ba (40 :: t.word)) (ba [32]) = true := strRoom_ok (by simp only [ba_size, List.length_cons, List.length_nil]; omega)
    have hr3 : strRoom (ba (40 :: t.word ++ [32])) t.name = true := strRoom_ok (by simp only [ba_size, hsz, List.length_append, List.length_cons, List.length_nil]; omega)
    have hnm : ba (40 :: t.word ++ [32]) ++ t.name = ba (40 :: t.word ++ 32 :: t.name.data.toList) := by
     rw [← ba_of t.name, ba_append, ba_of]; simp
    have e := loop (40 :: t.word ++ 32 :: t.name.data.toList) (by simp only [List.length_append, List.length_cons]; omega)
    rw [show (t.kind == 2) = true by simpa using h2, cond_true, e32, hr2]
    simp only [cond_true, Option.bind_some, ba_append]
    rw [hr3, hnm]
    simp only [cond_true, Option.bind_some]
    refine e.trans ?_
    simp
   ·rw [if_neg h2] at hs ⊢
    have e := loop (40 :: t.word) (by simp only [List.length_append, List.length_cons, List.length_nil] at hs ⊢; omega)
    rw [show (t.kind == 2) = false by simpa using h2, cond_false]
    refine e.trans ?_
    simp
end Go.Ab.Mk
end
