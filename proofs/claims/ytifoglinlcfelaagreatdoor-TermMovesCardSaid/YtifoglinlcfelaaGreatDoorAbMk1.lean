/- AbMk1: printed by program: functions of the program as plain Lean, and the equations. -/
import Derived.Test.YtifoglinlcfelaaGreatDoorAbWk3
import Derived.Test.YtifoglinlcfelaaGreatDoorAbOd9
import Derived.Test.YtifoglinlcfelaaGreatDoorAbMp
import Derived.Test.YtifoglinlcfelaaGreatDoorProg
set_option linter.unusedSimpArgs false
set_option linter.unusedVariables false
set_option linter.deprecated false
section
namespace Go.Proofs
open Go.RowKit Go.Ab Go.Ab.Mk
set_option maxRecDepth 100000
set_option maxHeartbeats 1000000
section
variable {C : Ctx} {call : CallF} {f : FuncId} {cap : List V} {capv : List Value}
theorem five_near {W W2 : World} {B b off : Nat} {z0 z1 z2 z3 z4 : Value} (h : Mk.Five W b off z0 z1 z2 z3 z4) (hN : Near B B W W2) (hne : b ≠ B) : Mk.Five W2 b off z0 z1 z2 z3 z4 := five_heap h fun _ _ => cell_heap (hN.heap b hne hne)
theorem Mk.walk_at_let {a b t2 : Tm} (iha : Mk.WalkAt C call f cap a) (ihb : Mk.WalkAt C call f cap b) (ihc : Mk.WalkAt C call f cap t2) : Mk.WalkAt C call f cap (.letin a b t2) := by
 intro d σ cs σ3 h G w c capv hS hcl hr hcap
 simp only [Mk.walkV, Option.bind_eq_some_iff] at h
 obtain ⟨⟨ca, σ1⟩, ha, ⟨cb, σ2⟩, hb, _, hd, ⟨cc, σ3'⟩, hc, h⟩ := h
 obtain ⟨rfl, rfl⟩ := Prod.mk.inj (Option.some.inj h)
 obtain ⟨hd0, hd1⟩ : 0 ≤ d ∧ d < 1152921504606846976 := by
  unfold grd at hd
  cases h1 : (decide (0 ≤ d) && decide (d < 2 ^ 60)) with
  | false => rw [h1] at hd; simp at hd
  | true => rw [Bool.and_eq_true] at h1; exact ⟨of_decide_eq_true h1.1, of_decide_eq_true h1.2⟩
 obtain ⟨pl, cl, pa, cap', rfl, rl, ra⟩ := Mk.tm_rel hr
 unfold Tm.args at ra
 simp only [Tm.kids] at ra
 obtain ⟨bb, off, rfl, hlim, hkids⟩ := Mk.kids_rel (L := [a, b, t2]) (by simp) ra
 obtain ⟨y00, y01, y02, y03, y04, g0, r0⟩ := hkids 0 a rfl
 obtain ⟨y10, y11, y12, y13, y14, g1, r1⟩ := hkids 1 b rfl
 obtain ⟨y20, y21, y22, y23, y24, g2, r2⟩ := hkids 2 t2 rfl
 simp only [Nat.zero_mul, Nat.add_zero, Nat.one_mul, Nat.reduceMul] at g0 g1 g2
 simp only [List.length_cons, List.length_nil] at hlim
 simp only [Tm.lvs] at rl
 simp only [Tm.kids, Tm.kind, Tm.num, Tm.name, Tm.lvs, List.length_cons, List.length_nil]
 refine Mk.walk_let 0 (ByteArray.mk #[]) pl 0 cl cap' bb off d hd0 hd1 _ w _ _ _ _ _ _ _ _ _ _ _ _ _ _ _ _ (Mk.shp_of r0) (Mk.shp_of r1) (Mk.shp_of r2) g0 g1 g2 fun W B3 B6 B7 BR hF hC f0 => ?_
 obtain ⟨hG0, up0⟩ := Mk.wk_start (C := C) hS hcl hF hC
 have hne : BR ≠ B6 := by rw [hF.br, hF.b6]; omega
 have hbb := lim_lt hS.wf (b := bb) (o := off) (by omega)
 have hbr : bb ≠ BR := by rw [hF.br]; omega
 have gz : Mk.Five W bb (off + 5) y10 y11 y12 y13 y14 := five_heap g1 fun j hj => cell_heap (hF.below.block bb hbb)
 have gz2 : Mk.Five W bb (off + 10) y20 y21 y22 y23 y24 := five_heap g2 fun j hj => cell_heap (hF.below.block bb hbb)
 refine Mk.wk_child iha ha hG0 hC (up0 _ _ r0) (hcap.mono up0) gz (by omega) _ fun G1 W2 x00 x01 x02 x03 x04 hG1 up1 lim1 cel1 hx0 hl0 q0 W3 hN3 hC3 f1 => ?_
 have m3 : Mine w.heap.size G1 W2 W3 := Mine.of_near hN3 hG1.orr hG1.orr
 have up3 := fun v c (h : Rel G1 W2 v c) => m3.rel hG1.sinv.wf h
 have gz3 : Mk.Five W3 bb (off + 10) y20 y21 y22 y23 y24 := five_near (five_heap gz2 fun j hj => cel1 bb (off + 10 + j) (by omega)) hN3 hbr
 refine Mk.wk_child ihb hb (hG1.write m3) hC3 (up3 _ _ (up1 _ _ (up0 _ _ r1))) ((hcap.mono up0).mono fun v c h => up3 _ _ (up1 _ _ h)) gz3 (by have := lim1 bb; omega) _ fun G2 W4 x10 x11 x12 x13 x14 hG2 up2 lim2 cel2 hx1 hl1 q1 W5 hN5 hC5 f2 => ?_
 have m5 : Mine w.heap.size G2 W4 W5 := Mine.of_near hN5 hG2.orr hG2.orr
 have up5 := fun v c (h : Rel G2 W4 v c) => m5.rel hG2.sinv.wf h
 have up15 := fun v c (h : Rel G1 W2 v c) => up5 v c (up2 v c (up3 v c h))
 refine Mk.wk_child ihc hc (hG2.write m5) hC5 (up15 _ _ (up1 _ _ (up0 _ _ r2))) ((hcap.mono up0).mono fun v c h => up15 _ _ (up1 _ _ h)) f2 (by have := lim1 bb; have := lim2 bb; omega) _ fun G3 W6 x20 x21 x22 x23 x24 hG3 up6 lim3 _ hx2 hl2 q2 W7 hN7 hC7 W8 hN8 => ?_
 have up16 := fun v c (h : Rel G1 W2 v c) => up6 v c (up15 v c h)
 have up26 := fun v c (h : Rel G2 W4 v c) => up6 v c (up5 v c h)
 refine Mk.wk_done (es := [ca, cb, cc]) (xs := [[x00, x01, x02, x03, x04], [x10, x11, x12, x13, x14], [x20, x21, x22, x23, x24]]) (ls := []) hG3 hne hN7 hC7 hN8 (up16 _ _ (up1 _ _ (up0 _ _ rl))) rfl ?_ ?_ ?_ ?_ ?_
 ·intro i e he
  match i with
  | 0 => simp at he; subst he; exact hl0
  | 1 => simp at he; subst he; exact hl1
  | 2 => simp at he; subst he; exact hl2
  | i + 3 => simp at he
 ·intro i x hx
  match i with
  | 0 => simp at hx; subst hx; rfl
  | 1 => simp at hx; subst hx; rfl
  | 2 => simp at hx; subst hx; rfl
  | i + 3 => simp at hx
 ·intro i x hx
  match i with
  | 0 => simp at hx; subst hx; exact hx0.one
  | 1 => simp at hx; subst hx; exact hx1.one
  | 2 => simp at hx; subst hx; exact hx2.one
  | i + 3 => simp at hx
 ·intro i e x he hx
  match i with
  | 0 => simp at hx he; subst hx; subst he; exact up16 _ _ q0
  | 1 => simp at hx he; subst hx; subst he; exact up26 _ _ q1
  | 2 => simp at hx he; subst hx; subst he; exact q2
  | i + 3 => simp at hx
 ·intro i j x c hx hj
  match i with
  | 0 =>
   simp at hx; subst hx
   match j with
   | 0 => simpa using hj
   | 1 => simpa using hj
   | 2 => simpa using hj
   | 3 => simpa using hj
   | 4 => simpa using hj
   | j + 5 => simp at hj
  | 1 =>
   simp at hx; subst hx
   match j with
   | 0 => simpa using hj
   | 1 => simpa using hj
   | 2 => simpa using hj
   | 3 => simpa using hj
   | 4 => simpa using hj
   | j + 5 => simp at hj
  | 2 =>
   simp at hx; subst hx
   match j with
   | 0 => simpa using hj
   | 1 => simpa using hj
   | 2 => simpa using hj
   | 3 => simpa using hj
   | 4 => simpa using hj
   | j + 5 => simp at hj
  | i + 3 => simp at hx
theorem Mk.walk_var (f : FuncId) (capv : Array Value) (n : Int) (s : ByteArray) (pl pa : Option Addr) (ll cl la ca : Nat) (d : Int) (w : World) (Q : Ending → World → Prop)
  (henter : ∀ (args : Array Value) (w : World), (callFunc f args).run Tryz.prog w = .ok (.enter f args) w)
  (h : ∀ W, W = (w.alloc (.cells #[.int .i64 0, .int .i64 n, .string s, .slice pl ll cl, .slice pa la ca] 30)).alloc (.cells #[.int .i64 0, .int .i64 0, .string ⟨#[]⟩, .slice none 0 0, .slice none 0 0] 30) →
   Hid (Calls Tryz.prog f (#[.agg #[.int .i64 0, .int .i64 n, .string s, .slice pl ll cl, .slice pa la ca], .int .i64 d] ++ capv) W fun e W2 =>
    ∃ x0 x1 x2 x3 x4, e = .returned (.agg #[x0, x1, x2, x3, x4]) ∧ Mk.ShpW x0 x1 x2 x3 x4 ∧ W2.heap[w.heap.size + 1]? = some (.cells #[.int .i64 0, .int .i64 0, .string ⟨#[]⟩, .slice none 0 0, .slice none 0 0] 30 (0, 0)) ∧
     Hid (∀ W3, Near (w.heap.size + 1) (w.heap.size + 1) W2 W3 → Q (.returned (.agg #[x0, x1, x2, x3, x4])) W3))) :
  Calls Tryz.prog 60 #[.agg #[.int .i64 0, .int .i64 n, .string s, .slice pl ll cl, .slice pa la ca], .int .i64 d, .func (.func f) #[] capv] w Q := by
 have hh := h _ rfl
 clear h
 go_enter Tryz.func60, Tryz.ntmps60
 go_wp2_with fail
 refine hh.out.mono ?_
 clear hh
 rintro e W2 ⟨x0, x1, x2, x3, x4, rfl, hx, h6, hK⟩
 generalize w.heap.size + 1 = B6 at *
 have r0 : W2.cell? ⟨B6, 0, none⟩ = some (.int .i64 0) := cell_of h6 0
 have r1 : W2.cell? ⟨B6, 1, none⟩ = some (.int .i64 0) := cell_of h6 1
 have r2 : W2.cell? ⟨B6, 2, none⟩ = some (.string ⟨#[]⟩) := cell_of h6 2
 have r3 : W2.cell? ⟨B6, 3, none⟩ = some (.slice none 0 0) := cell_of h6 3
 have r4 : W2.cell? ⟨B6, 4, none⟩ = some (.slice none 0 0) := cell_of h6 4
 have q0 := frozen_of h6 0
 have q1 := frozen_of h6 1
 have q2 := frozen_of h6 2
 have q3 := frozen_of h6 3
 have q4 := frozen_of h6 4
 obtain ⟨xn, xm, xs, xp, xl, xc, xpp, xll, xcc⟩ := hx
 go_wp2_with fail
 exact Mk.walk_end5 h6 rfl (hK.out _ (near5 _ _ _))
end
end Go.Proofs
end
section
namespace Go.Proofs
open Go.RowKit Go.Ab Go.Ab.Mk
set_option maxRecDepth 100000
set_option maxHeartbeats 1000000
theorem lvs_inj : ∀ {L M : List Lv}, L.map Lv.enc = M.map Lv.enc → L = M
 | [], [], _ => rfl
 | [], _ :: _, h => by simp at h
 | _ :: _, [], h => by simp at h
 | a :: L, b :: M, h => by
  simp only [List.map_cons, List.cons.injEq] at h
  rw [enc_inj h.1, lvs_inj h.2]
theorem Mk.tenc_inj : ∀ {a b : Tm}, a.enc = b.enc → a = b
 | .var n, b, h => by cases b <;> simp [Tm.enc, tmCells] at h; rw [Int.ofNat.inj h]
 | .sort l, b, h => by cases b <;> simp [Tm.enc, tmCells] at h; rw [enc_inj h]
 | .const s ls, b, h => by
  cases b <;> simp only [Tm.enc, tmCells, List.cons.injEq, V.int.injEq, V.str.injEq, V.slice.injEq] at h <;> first | (exact absurd h.1.2 (by decide)) | skip
  rw [h.2.2.1, lvs_inj h.2.2.2.1.2.2]
 | .app a1 a2, b, h => by cases b <;> simp [Tm.enc, tmCells] at h; rw [Mk.tenc_inj h.1, Mk.tenc_inj h.2]
 | .lam a1 a2, b, h => by cases b <;> simp [Tm.enc, tmCells] at h; rw [Mk.tenc_inj h.1, Mk.tenc_inj h.2]
 | .pi a1 a2, b, h => by cases b <;> simp [Tm.enc, tmCells] at h; rw [Mk.tenc_inj h.1, Mk.tenc_inj h.2]
 | .letin a1 a2 a3, b, h => by cases b <;> simp [Tm.enc, tmCells] at h; rw [Mk.tenc_inj h.1, Mk.tenc_inj h.2.1, Mk.tenc_inj h.2.2]
theorem Mk.tval_enc (t : Tm) : t.val = .agg t.enc := by rw [t.enc_eq]; rfl
theorem Mk.tval_inj {a b : Tm} (h : a.val = b.val) : a = b := by
 rw [Mk.tval_enc, Mk.tval_enc] at h
 injection h with h
 exact Mk.tenc_inj h
section
variable {C : Ctx} {call : CallF} {f : FuncId} {cap : List V} {capv : List Value}
theorem Mk.walk_at_leaf {t : Tm} (hk : 1 ≤ t.kind) (hkids : t.kids = []) (hv : ∀ d σ, Mk.walkV call f cap t d σ = some (t.enc, σ)) : Mk.WalkAt C call f cap t := by
 intro d σ cs σ' h G w c capv hS hcl hr hcap
 rw [hv] at h
 obtain ⟨rfl, rfl⟩ := Prod.mk.inj (Option.some.inj h)
 obtain ⟨pl, cl, pa, ca, hc, _, _⟩ := Mk.tm_rel hr
 rw [hkids] at hc
 subst hc
 refine (Mk.walk_leaf _ _ _ pl pa _ cl ca d _ w hk).mono ?_
 rintro e w' ⟨rfl, hB⟩
 have m : Mine w.heap.size G w w' := Mine.of_below hB
 refine ⟨G, _, _, _, _, _, rfl, .mk _ _ _ _ _ _ _ _ _, (m.extB hS.wf (Nat.le_refl _)).toExt, m.sinv hS, hcl, t.enc_len, ?_⟩
 rw [← Mk.tval_enc]
 have := m.rel hS.wf hr
 exact this
theorem Mk.cells5_inv {v : V} {cs : List V} (h : Mk.cells5 v = some cs) : v = .agg cs ∧ cs.length = 5 ∧ ∀ {G : Gh} {w : World} {c : Value}, Rel G w v c → ∃ x0 x1 x2 x3 x4, c = .agg #[x0, x1, x2, x3, x4] ∧ Mk.ShpW x0 x1 x2 x3 x4 := by
 unfold Mk.cells5 at h
 split at h
 ·split at h
  ·rename_i k m n a b hh
   obtain rfl := Option.some.inj h
   have hs := Bool.and_eq_true_iff.1 hh
   refine ⟨rfl, rfl, fun {G w c} hr => ?_⟩
   cases hr with
   | agg _ xs h1 h2 h3 =>
    obtain ⟨x0, x1, x2, x3, x4, rfl⟩ : ∃ x0 x1 x2 x3 x4, xs = [x0, x1, x2, x3, x4] := by
     match xs, h1 with
     | [x0, x1, x2, x3, x4], _ => exact ⟨x0, x1, x2, x3, x4, rfl⟩
    have r0 := h3 0 _ _ rfl rfl
    have r1 := h3 1 _ _ rfl rfl
    have r2 := h3 2 _ _ rfl rfl
    have sl : ∀ {a : V} {c : Value}, slv a = true → Rel G w a c → ∃ p l k, c = .slice p l k := by
     intro a c ha h
     unfold slv at ha
     split at ha
     ·cases h <;> exact ⟨_, _, _, rfl⟩
     ·cases h; exact ⟨_, _, _, rfl⟩
     ·simp at ha
    obtain ⟨_, _, _, rfl⟩ := sl hs.1 (h3 3 _ _ rfl rfl)
    obtain ⟨_, _, _, rfl⟩ := sl hs.2 (h3 4 _ _ rfl rfl)
    cases r0
    cases r1
    cases r2
    exact ⟨_, _, _, _, _, rfl, .mk _ _ _ _ _ _ _ _ _⟩
  ·simp at h
 ·simp at h
theorem Mk.walk_at_var {n : Nat} (hcall : CallOk Tryz.prog C call) : Mk.WalkAt C call f cap (.var n) := by
 intro d σ cs σ' h G w c capv hS hcl hr hcap
 unfold Mk.walkV at h
 split at h
 case h_2 => simp at h
 rename_i v ow σ2 hc
 simp only [Option.bind_eq_some_iff, Option.some.injEq, Prod.mk.injEq] at h
 obtain ⟨cs', h5, rfl, rfl⟩ := h
 obtain ⟨rfl, hl5, hshp⟩ := Mk.cells5_inv h5
 obtain ⟨henter, hC⟩ := hcall _ _ _ _ hc
 obtain ⟨pl, cl, pa, ca, rfl, _, _⟩ := Mk.tm_rel hr
 refine Mk.walk_var f capv.toArray _ _ pl pa _ cl _ ca d w _ henter fun W hW => ?_
 have m : Mine w.heap.size G w W := by rw [hW]; exact ((Mine.refl _ G w).alloc _).alloc _
 have h6 : W.heap[w.heap.size + 1]? = some (.cells #[.int .i64 0, .int .i64 0, .string ⟨#[]⟩, .slice none 0 0, .slice none 0 0] 30 (0, 0)) := by rw [hW]; exact heap_new (by simp)
 have o6 : Own1 w.heap.size G (w.heap.size + 1) := Own1.new hS.wf (Nat.le_refl _) (by omega)
 have l6 := (Array.getElem?_eq_some_iff.1 h6).1
 have hcall' := hC G W ([.agg #[.int .i64 (Tm.var n).kind, .int .i64 (Tm.var n).num, .string (Tm.var n).name, .slice pl (Tm.var n).lvs.length cl, .slice pa (Tm.var n).kids.length ca], .int .i64 d] ++ capv) (m.sinv hS) (fun i p hp => by
  rcases hcl i p hp with h | h | ⟨r, h, _⟩
  ·exact .inl h
  ·exact .inr (.inl h)
  ·omega) (by simp [hcap.1]) (fun i c x hi hx => by
  match i with
  | 0 => simp at hi hx; subst hi; subst hx; exact ⟨m.rel hS.wf hr, fun ho => by simp at ho⟩
  | 1 => simp at hi hx; subst hi; subst hx; exact ⟨.int _ _, fun ho => by simp at ho⟩
  | i + 2 =>
   simp only [List.cons_append, List.nil_append, List.getElem?_cons_succ, List.getElem?_map, Option.map_eq_some_iff] at hi hx
   obtain ⟨v, hv, rfl⟩ := hi
   exact ⟨m.rel hS.wf (hcap.2 i v x hv hx), fun ho => by simp at ho⟩)
 have e0 : ([.agg #[.int .i64 (Tm.var n).kind, .int .i64 (Tm.var n).num, .string (Tm.var n).name, .slice pl (Tm.var n).lvs.length cl, .slice pa (Tm.var n).kids.length ca], .int .i64 d] ++ capv : List Value).toArray = #[.agg #[.int .i64 0, .int .i64 (Tm.var n).num, .string (Tm.var n).name, .slice pl (Tm.var n).lvs.length cl, .slice pa (Tm.var n).kids.length ca], .int .i64 d] ++ capv.toArray := by simp [Tm.kind]
 rw [e0] at hcall'
 refine hcall'.mono ?_
 rintro e W2 ⟨G2, e2, s2, cs2, hcl2, rfl, hrel⟩
 obtain ⟨x, rfl⟩ : ∃ x, cs2 = [x] := by
  match cs2, hcl2 with
  | [x], _ => exact ⟨x, rfl⟩
 have hx := (hrel 0 _ x rfl rfl).1
 simp only at hx
 obtain ⟨x0, x1, x2, x3, x4, rfl, hs⟩ := hshp hx
 obtain ⟨p6, q6⟩ := o6.ext e2 l6
 refine ⟨x0, x1, x2, x3, x4, by simp, hs, q6.trans h6, fun W3 hN => ?_⟩
 have m3 : Mine w.heap.size G2.bare W2 W3 := Mine.of_near hN p6.bare p6.bare
 have wf2 := s2.bare.wf
 have x2B := (((m.extB hS.wf (Nat.le_refl _)).trans (e2.toB m.size)).trans ((Gh.bare_ext (G := G2) (w := W2)).toB (Nat.le_trans m.size e2.size))).trans (m3.extB wf2 (Nat.le_trans m.size e2.size))
 exact ⟨G2.bare, x0, x1, x2, x3, x4, rfl, hs, x2B.toExt, m3.sinv s2.bare, Gh.bare_clean 0, hl5, m3.rel wf2 (hx.mono (Gh.bare_ext (G := G2)))⟩
theorem Mk.walk_all (hcall : CallOk Tryz.prog C call) : ∀ t : Tm, Mk.WalkAt C call f cap t
 | .var n => Mk.walk_at_var hcall
 | .sort l => Mk.walk_at_leaf (t := .sort l) (by simp [Tm.kind]) rfl (fun _ _ => rfl)
 | .const s ls => Mk.walk_at_leaf (t := .const s ls) (by simp [Tm.kind]) rfl (fun _ _ => rfl)
 | .app a b => Mk.walk_at_app (Mk.walk_all hcall a) (Mk.walk_all hcall b)
 | .lam a b => by
  intro d σ cs σ' h G w c capv hS hcl hr hcap
  simp only [Mk.walkV, Option.bind_eq_some_iff] at h
  obtain ⟨⟨ca, σ1⟩, ha, _, hd, ⟨cb, σ2⟩, hb, h⟩ := h
  obtain ⟨rfl, rfl⟩ := Prod.mk.inj (Option.some.inj h)
  obtain ⟨hd0, hd1⟩ : 0 ≤ d ∧ d < 1152921504606846976 := by
   unfold grd at hd
   cases h1 : (decide (0 ≤ d) && decide (d < 2 ^ 60)) with
   | false => rw [h1] at hd; simp at hd
   | true => rw [Bool.and_eq_true] at h1; exact ⟨of_decide_eq_true h1.1, of_decide_eq_true h1.2⟩
  exact Mk.walk_at_bind (kk := 4) (by decide) (by decide) (Mk.walk_all hcall a) (Mk.walk_all hcall b) ha hb hd0 hd1 rfl rfl rfl rfl rfl hS hcl hr hcap
 | .pi a b => by
  intro d σ cs σ' h G w c capv hS hcl hr hcap
  simp only [Mk.walkV, Option.bind_eq_some_iff] at h
  obtain ⟨⟨ca, σ1⟩, ha, _, hd, ⟨cb, σ2⟩, hb, h⟩ := h
  obtain ⟨rfl, rfl⟩ := Prod.mk.inj (Option.some.inj h)
  obtain ⟨hd0, hd1⟩ : 0 ≤ d ∧ d < 1152921504606846976 := by
   unfold grd at hd
   cases h1 : (decide (0 ≤ d) && decide (d < 2 ^ 60)) with
   | false => rw [h1] at hd; simp at hd
   | true => rw [Bool.and_eq_true] at h1; exact ⟨of_decide_eq_true h1.1, of_decide_eq_true h1.2⟩
  exact Mk.walk_at_bind (kk := 5) (by decide) (by decide) (Mk.walk_all hcall a) (Mk.walk_all hcall b) ha hb hd0 hd1 rfl rfl rfl rfl rfl hS hcl hr hcap
 | .letin a b c => Mk.walk_at_let (Mk.walk_all hcall a) (Mk.walk_all hcall b) (Mk.walk_all hcall c)
end
open Classical in
noncomputable def Mk.walkS (call : CallF) (args : List Cell) (σ : Sto) : Option Res :=
 match args with
 | [(v, _), (.int .i64 d, _), (.func (.func f) [] cap, _)] => if h : ∃ t : Tm, t.val = v then (Mk.walkV call f cap h.choose d σ).bind fun x => some (.ret [(.agg x.1, false)], x.2) else none
 | _ => none
theorem Mk.walkS_eq {call : CallF} {t : Tm} {d : Int} {f : FuncId} {cap : List V} {o1 o2 o3 : Bool} {σ σ' : Sto} {cs : List V} (h : Mk.walkV call f cap t d σ = some (cs, σ')) :
  Mk.walkS call [(t.val, o1), (.int .i64 d, o2), (.func (.func f) [] cap, o3)] σ = some (.ret [(.agg cs, false)], σ') := by
 have hx : ∃ t' : Tm, t'.val = t.val := ⟨t, rfl⟩
 unfold Mk.walkS
 simp only
 rw [dif_pos hx, Mk.tval_inj hx.choose_spec, h]
 rfl
theorem walkC_ok {C : Ctx} {call : CallF} (hcall : CallOk Tryz.prog C call) (henter : ∀ (args : Array Value) (w : World), (callFunc 60 args).run Tryz.prog w = .ok (.enter 60 args) w) :
  CallOk Tryz.prog C (fun g args σ => if g = 60 then Mk.walkS call args σ else none) := by
 intro g args σ r h
 simp only at h
 split at h
 case isFalse => simp at h
 rename_i hg
 subst hg
 refine ⟨henter, fun G w vals hS hcl hlen hv => ?_⟩
 unfold Mk.walkS at h
 split at h
 case h_2 => simp at h
 rename_i v o1 d o2 f cap o3
 split at h
 case isFalse => simp at h
 rename_i hex
 have hsp := hex.choose_spec
 generalize hex.choose = t at h hsp
 subst hsp
 simp only [Option.bind_eq_some_iff, Option.some.injEq] at h
 obtain ⟨⟨cs, σ'⟩, hw, rfl⟩ := h
 obtain ⟨c0, c1, c2, rfl⟩ : ∃ c0 c1 c2, vals = [c0, c1, c2] := by
  match vals, hlen with
  | [c0, c1, c2], _ => exact ⟨c0, c1, c2, rfl⟩
 have r0 := (hv 0 _ c0 rfl rfl).1
 have r1 := (hv 1 _ c1 rfl rfl).1
 have r2 := (hv 2 _ c2 rfl rfl).1
 simp only at r0 r1 r2
 cases r1 with
 | int =>
 cases r2 with
 | func _ _ _ fs capv h1 h2 h3 h4 =>
 obtain rfl : fs = [] := List.length_eq_zero_iff.1 h1
 have hB := Gh.bare_ext (G := G) (w := w)
 refine (Mk.walk_all hcall t d σ cs σ' hw G.bare w c0 capv hS.bare (Gh.bare_clean 0) (r0.mono hB) ⟨h2, fun i v x hv hx => (h4 i v x hv hx).mono hB⟩).mono ?_
 rintro e w' ⟨G', x0, x1, x2, x3, x4, rfl, _, e2, s2, _, _, hr⟩
 refine ⟨G', hB.trans e2, s2, [.agg #[x0, x1, x2, x3, x4]], rfl, by simp, fun i c x hc hx => ?_⟩
 match i with
 | 0 => simp at hc hx; subst hc; subst hx; exact ⟨hr, fun ho => by simp at ho⟩
 | i + 1 => simp at hc
end Go.Proofs
end
section
set_option maxRecDepth 100000
namespace Go.Ab.Mb
open Go.Proofs Go.Ab
open List (getD)
open IntKind (wrap)
def TL : List (TypeId × TI) := [
 (0, ⟨(.tuple 0), 1, 0, [V.any]⟩),
 (3, ⟨(.int .i64), 1, 8, [(V.int .i64 (0 : Int))]⟩),
 (4, ⟨.bool, 1, 1, [V.bool false]⟩),
 (9, ⟨.string, 1, 16, [V.str ⟨#[]⟩]⟩),
 (27, ⟨(.slice 44), 1, 24, [V.slice 3 44 []]⟩),
 (28, ⟨(.slice 30), 1, 24, [V.slice 5 30 []]⟩),
 (30, ⟨(.struct [(0, 3), (1, 3), (2, 9), (3, 27), (4, 28)]), 5, 80, [(V.int .i64 (0 : Int)), (V.int .i64 (0 : Int)), V.str ⟨#[]⟩, V.slice 3 44 [], V.slice 5 30 []]⟩),
 (44, ⟨(.struct [(0, 3), (1, 9), (2, 27)]), 3, 48, [(V.int .i64 (0 : Int)), V.str ⟨#[]⟩, V.slice 3 44 []]⟩),
 (55, ⟨.func, 1, 8, [V.nilFunc]⟩)]
noncomputable def tliftH : Hints := { keep := fun i => [], esc := [4, 5], lp := [3, 6], roots := [(3, 3), (6, 6)] }
noncomputable def tliftC : Code := Tryz.f8.body.getD .skip
noncomputable def tliftD : FDef := ⟨Tryz.f8, tliftC, tliftH⟩
noncomputable def tmapH : Hints := { keep := fun i => [], lp := [2, 4], roots := [(2, 2), (4, 4)] }
noncomputable def tmapC : Code := Tryz.f33.body.getD .skip
noncomputable def tmapD : FDef := ⟨Tryz.f33, tmapC, tmapH⟩
noncomputable def inst1H : Hints := { keep := fun i => [], lp := [3, 5, 7, 11, 16], ep := [31], roots := [(3, 3), (5, 5), (7, 3), (11, 3), (16, 3)] }
noncomputable def inst1C : Code := Tryz.f61.body.getD .skip
noncomputable def inst1D : FDef := ⟨Tryz.f61, inst1C, inst1H⟩
noncomputable def FL : List (FuncId × FDef) := [(8, tliftD), (33, tmapD), (61, inst1D)]
noncomputable def C : Ctx := { T := look TL, glob := fun g => if g = 0 then some [V.slice 1 9 [[V.str ⟨#[]⟩], [V.str ⟨#[115, 111, 114, 116]⟩], [V.str ⟨#[99, 111, 110, 115, 116]⟩], [V.str ⟨#[97, 112, 112]⟩], [V.str ⟨#[108, 97, 109]⟩], [V.str ⟨#[112, 105]⟩], [V.str ⟨#[108, 101, 116]⟩]]] else if g = 1 then some [V.str ⟨#[]⟩, V.str ⟨#[115, 111, 114, 116]⟩, V.str ⟨#[99, 111, 110, 115, 116]⟩, V.str ⟨#[97, 112, 112]⟩, V.str ⟨#[108, 97, 109]⟩, V.str ⟨#[112, 105]⟩, V.str ⟨#[108, 101, 116]⟩] else if g = 2 then some [V.str ⟨#[]⟩, V.str ⟨#[115]⟩, V.str ⟨#[109, 97, 120]⟩, V.str ⟨#[105, 109, 97, 120]⟩] else if g = 3 then some (Go.Lib.pow10Tab.map fun z => V.int .u64 z) else none, ext := fun f => if f = 60 then some (Mk.walkS (lim Ma.C)) else none, fdef := lookF FL }
theorem typesOk : ∀ t i, C.T t = some i → TOk Tryz.prog t i := look_ok (by kernel_rfl)
theorem ctxOk : CtxOk Tryz.prog C where
 mixed := by kernel_rfl
 T := typesOk
 fdef := by
  refine lookF_ok (P := Tryz.prog) (Q := fun f d => Tryz.prog.funcs[f]? = some d.fn ∧ d.fn.body = some d.code ∧ (∀ (args : Array Value) (w : World), (callFunc f args).run Tryz.prog w = .ok (.enter f args) w)) (L := FL) ?_
  intro p hp
  simp only [FL, List.mem_cons, List.not_mem_nil, or_false] at hp
  rcases hp with rfl | rfl | rfl
  ·exact ⟨Tryz.func8, by kernel_rfl, fun args w => Tryz.call8 args w⟩
  ·exact ⟨Tryz.func33, by kernel_rfl, fun args w => Tryz.call33 args w⟩
  ·exact ⟨Tryz.func61, by kernel_rfl, fun args w => Tryz.call61 args w⟩
end Go.Ab.Mb
end
section
namespace Go.Ab
open Go.Proofs Go.Ab.Mk
open Classical in
noncomputable def Mk.spineS (args : List Cell) (σ : Sto) : Option Res := match args with
 | [(v, _)] => if h : ∃ t : Tm, t.val = v ∧ t.spine.length < 2 ^ 40 then some (.ret [(h.choose.head.val, false), (.slice 5 30 (h.choose.spine.map Tm.enc), false)], σ) else none
 | _ => none
theorem Mk.spineS_eq (t : Tm) (ht : t.spine.length < 2 ^ 40) (o : Bool) (σ : Sto) : Mk.spineS [(t.val, o)] σ = some (.ret [(t.head.val, false), (.slice 5 30 (t.spine.map Tm.enc), false)], σ) := by
 have hx : ∃ t' : Tm, t'.val = t.val ∧ t'.spine.length < 2 ^ 40 := ⟨t, rfl, ht⟩
 unfold Mk.spineS
 simp only
 rw [dif_pos hx, Mk.tval_inj hx.choose_spec.1]
end Go.Ab
end
section
set_option maxRecDepth 100000
namespace Go.Ab.Mk
open Go.Proofs Go.Ab
open List (getD)
open IntKind (wrap)
def TL : List (TypeId × TI) := [
 (0, ⟨(.tuple 0), 1, 0, [V.any]⟩),
 (3, ⟨(.int .i64), 1, 8, [(V.int .i64 (0 : Int))]⟩),
 (4, ⟨.bool, 1, 1, [V.bool false]⟩),
 (5, ⟨(.int .u8), 1, 1, [(V.int .u8 (0 : Int))]⟩),
 (9, ⟨.string, 1, 16, [V.str ⟨#[]⟩]⟩),
 (27, ⟨(.slice 44), 1, 24, [V.slice 3 44 []]⟩),
 (28, ⟨(.slice 30), 1, 24, [V.slice 5 30 []]⟩),
 (30, ⟨(.struct [(0, 3), (1, 3), (2, 9), (3, 27), (4, 28)]), 5, 80, [(V.int .i64 (0 : Int)), (V.int .i64 (0 : Int)), V.str ⟨#[]⟩, V.slice 3 44 [], V.slice 5 30 []]⟩),
 (32, ⟨(.struct [(0, 3), (1, 3)]), 2, 16, [(V.int .i64 (0 : Int)), (V.int .i64 (0 : Int))]⟩),
 (33, ⟨(.tuple 2), 1, 0, [V.any]⟩),
 (35, ⟨.func, 1, 8, [V.nilFunc]⟩),
 (39, ⟨.func, 1, 8, [V.nilFunc]⟩),
 (41, ⟨(.slice 9), 1, 24, [V.slice 1 9 []]⟩),
 (44, ⟨(.struct [(0, 3), (1, 9), (2, 27)]), 3, 48, [(V.int .i64 (0 : Int)), V.str ⟨#[]⟩, V.slice 3 44 []]⟩),
 (55, ⟨.func, 1, 8, [V.nilFunc]⟩),
 (58, ⟨.func, 1, 8, [V.nilFunc]⟩),
 (63, ⟨(.pointer 65), 1, 8, [V.nilp]⟩),
 (65, ⟨(.struct [(0, 9), (1, 3), (2, 32)]), 4, 40, [V.str ⟨#[]⟩, (V.int .i64 (0 : Int)), (V.int .i64 (0 : Int)), (V.int .i64 (0 : Int))]⟩),
 (72, ⟨(.pointer 75), 1, 8, [V.nilp]⟩),
 (73, ⟨(.slice 5), 1, 24, [V.slice 1 5 []]⟩),
 (75, ⟨(.struct [(0, 72), (1, 73)]), 2, 32, [V.nilp, V.slice 1 5 []]⟩),
 (83, ⟨(.tuple 3), 1, 0, [V.any]⟩),
 (90, ⟨.iface, 1, 16, [V.nilIface]⟩),
 (91, ⟨(.tuple 2), 1, 0, [V.any]⟩),
 (93, ⟨(.array 7 9), 7, 112, [V.str ⟨#[]⟩, V.str ⟨#[]⟩, V.str ⟨#[]⟩, V.str ⟨#[]⟩, V.str ⟨#[]⟩, V.str ⟨#[]⟩, V.str ⟨#[]⟩]⟩),
 (102, ⟨(.slice 3), 1, 24, [V.slice 1 3 []]⟩),
 (107, ⟨(.array 4 9), 4, 64, [V.str ⟨#[]⟩, V.str ⟨#[]⟩, V.str ⟨#[]⟩, V.str ⟨#[]⟩]⟩)]
noncomputable def limitH : Hints := { keep := fun i => [] }
noncomputable def limitC : Code := Tryz.f7.body.getD .skip
noncomputable def limitD : FDef := ⟨Tryz.f7, limitC, limitH⟩
noncomputable def tclosedH : Hints := { keep := fun i => [], esc := [3], lp := [2], roots := [(2, 2)] }
noncomputable def tclosedC : Code := Tryz.f10.body.getD .skip
noncomputable def tclosedD : FDef := ⟨Tryz.f10, tclosedC, tclosedH⟩
noncomputable def thasH : Hints := { keep := fun i => [], esc := [3], lp := [2], roots := [(2, 2)] }
noncomputable def thasC : Code := Tryz.f11.body.getD .skip
noncomputable def thasD : FDef := ⟨Tryz.f11, thasC, thasH⟩
noncomputable def tequalH : Hints := { keep := fun i => [], lp := [2, 3, 5, 7, 11, 13, 18, 20, 25, 27, 32, 34], roots := [(2, 2), (3, 3), (5, 2), (7, 3), (11, 2), (13, 3), (18, 2), (20, 3), (25, 2), (27, 3), (32, 2), (34, 3)] }
noncomputable def tequalC : Code := Tryz.f12.body.getD .skip
noncomputable def tequalD : FDef := ⟨Tryz.f12, tequalC, tequalH⟩
noncomputable def sameTermH : Hints := { keep := fun i => [], lp := [2, 3], roots := [(2, 2), (3, 3)] }
noncomputable def sameTermC : Code := Tryz.f13.body.getD .skip
noncomputable def sameTermD : FDef := ⟨Tryz.f13, sameTermC, sameTermH⟩
noncomputable def rliftH : Hints := { keep := fun i => if i = 0 then [1, 2, 3, 6, 7, 8] else [], steal := [36], lp := [3, 6, 10, 13, 17, 24, 37], ep := [40], roots := [(3, 3), (6, 6), (10, 3), (13, 3), (17, 3), (24, 3), (37, 3)] }
noncomputable def rliftC : Code := Tryz.f14.body.getD .skip
noncomputable def rliftD : FDef := ⟨Tryz.f14, rliftC, rliftH⟩
noncomputable def rsubstTH : Hints := { keep := fun i => [], lp := [2, 3, 4], roots := [(2, 2), (3, 3), (4, 4)] }
noncomputable def rsubstTC : Code := Tryz.f15.body.getD .skip
noncomputable def rsubstTD : FDef := ⟨Tryz.f15, rsubstTC, rsubstTH⟩
noncomputable def rclosedH : Hints := { keep := fun i => if i = 0 then [1, 2, 5] else [], lp := [2, 8, 11, 16, 28], ep := [31], roots := [(2, 2), (8, 2), (11, 2), (16, 2), (28, 2)] }
noncomputable def rclosedC : Code := Tryz.f16.body.getD .skip
noncomputable def rclosedD : FDef := ⟨Tryz.f16, rclosedC, rclosedH⟩
noncomputable def rhasH : Hints := { keep := fun i => if i = 0 then [1, 2, 5] else [], lp := [2, 7, 11, 17, 23], ep := [26], roots := [(2, 2), (7, 2), (11, 2), (17, 2), (23, 2)] }
noncomputable def rhasC : Code := Tryz.f17.body.getD .skip
noncomputable def rhasD : FDef := ⟨Tryz.f17, rhasC, rhasH⟩
noncomputable def termParamsH : Hints := { keep := fun i => if i = 2 then [1, 2, 6] else if i = 0 then [1, 2, 5] else [], steal := [19, 33, 35], ownres := [(20, 0), (34, 0)], lp := [2, 8, 14, 22, 28], ep := [17, 31], roots := [(2, 2), (8, 2), (14, 2), (22, 2), (28, 2)], own := [1] }
noncomputable def termParamsC : Code := Tryz.f18.body.getD .skip
noncomputable def termParamsD : FDef := ⟨Tryz.f18, termParamsC, termParamsH⟩
noncomputable def equalTermH : Hints := { keep := fun i => [], lp := [2, 3], roots := [(2, 2), (3, 3)] }
noncomputable def equalTermC : Code := Tryz.f19.body.getD .skip
noncomputable def equalTermD : FDef := ⟨Tryz.f19, equalTermC, equalTermH⟩
noncomputable def parseLevelH : Hints := { keep := fun i => [], esc := [14], lp := [2, 3, 5, 6, 19], roots := [(2, 2), (3, 3), (5, 5), (6, 6), (19, 6)], ord := fun i => if i = 7 then [0, 1, 2, 3] else if i = 8 then [0, 1, 2, 3] else [] }
noncomputable def parseLevelC : Code := Tryz.f20.body.getD .skip
noncomputable def parseLevelD : FDef := ⟨Tryz.f20, parseLevelC, parseLevelH⟩
noncomputable def levelsFitH : Hints := { keep := fun i => if i = 2 then [1, 5] else if i = 0 then [1, 3] else [], lp := [1, 8, 14, 23, 29], ep := [17, 32], roots := [(1, 1), (8, 1), (14, 1), (23, 1), (29, 1)] }
noncomputable def levelsFitC : Code := Tryz.f21.body.getD .skip
noncomputable def levelsFitD : FDef := ⟨Tryz.f21, levelsFitC, levelsFitH⟩
noncomputable def tlevelsH : Hints := { keep := fun i => if i = 2 then [1, 2, 6, 7, 37, 38, 39] else if i = 0 then [1, 2, 3, 6, 7, 20, 21, 22] else [], steal := [27, 44], lp := [3, 6, 7, 9, 11, 17, 18, 19, 26, 34, 36, 43, 51], ep := [24, 41], roots := [(3, 3), (6, 6), (7, 7), (9, 9), (11, 11), (17, 7), (18, 7), (19, 3), (26, 7), (34, 7), (36, 3), (43, 7), (51, 7)], ord := fun i => if i = 8 then List.range 10 else if i = 13 then List.range 10 else [] }
noncomputable def tlevelsC : Code := Tryz.f22.body.getD .skip
noncomputable def tlevelsD : FDef := ⟨Tryz.f22, tlevelsC, tlevelsH⟩
noncomputable def rlevelsH : Hints := { keep := fun i => if i = 2 then [1, 2, 3, 6, 7, 9] else if i = 0 then [1, 2, 3, 6, 7, 8] else [], steal := [16, 25, 45], lp := [3, 6, 7, 10, 12, 14, 18, 24, 26, 36, 38, 44, 46, 56], ep := [29, 49], roots := [(3, 3), (6, 6), (7, 7), (10, 3), (12, 3), (14, 3), (18, 3), (24, 7), (26, 3), (36, 7), (38, 3), (44, 7), (46, 3), (56, 7)], ord := fun i => if i = 5 then List.range 14 else if i = 9 then List.range 14 else [] }
noncomputable def rlevelsC : Code := Tryz.f23.body.getD .skip
noncomputable def rlevelsD : FDef := ⟨Tryz.f23, rlevelsC, rlevelsH⟩
noncomputable def rspineH : Hints := { keep := fun i => if i = 2 then [1, 2, 4, 5, 6] else if i = 0 then [1, 2, 4] else [], steal := [10, 28], lp := [1, 2, 7, 11, 17], ep := [13, 19, 31], roots := [(1, 1), (2, 2), (7, 1), (11, 1), (17, 1)] }
noncomputable def rspineC : Code := Tryz.f25.body.getD .skip
noncomputable def rspineD : FDef := ⟨Tryz.f25, rspineC, rspineH⟩
noncomputable def tapplyH : Hints := { keep := fun i => if i = 0 then [2, 4, 7, 8, 9] else [], lp := [2, 4, 6], ep := [11], roots := [(2, 2), (4, 4), (6, 6)] }
noncomputable def tapplyC : Code := Tryz.f26.body.getD .skip
noncomputable def tapplyD : FDef := ⟨Tryz.f26, tapplyC, tapplyH⟩
noncomputable def rapplyH : Hints := { keep := fun i => if i = 0 then [1, 2, 4, 5] else [], lp := [2, 4], ep := [15], roots := [(2, 2), (4, 4)], ord := fun i => if i = 4 then List.range 7 else [] }
noncomputable def rapplyC : Code := Tryz.f27.body.getD .skip
noncomputable def rapplyD : FDef := ⟨Tryz.f27, rapplyC, rapplyH⟩
noncomputable def tprintH : Hints := { keep := fun i => [], esc := [3], lp := [1], roots := [(1, 1)] }
noncomputable def tprintC : Code := Tryz.f28.body.getD .skip
noncomputable def tprintD : FDef := ⟨Tryz.f28, tprintC, tprintH⟩
noncomputable def rprintTermH : Hints := { keep := fun i => if i = 2 then [1, 3, 5] else if i = 0 then [1, 3, 4] else [], lp := [1, 6, 9, 14, 19, 24, 28, 36, 44, 52], ep := [16, 39, 55], roots := [(1, 1), (6, 1), (9, 1), (14, 1), (19, 1), (24, 1), (28, 1), (36, 1), (44, 1), (52, 1)] }
noncomputable def rprintTermC : Code := Tryz.f29.body.getD .skip
noncomputable def rprintTermD : FDef := ⟨Tryz.f29, rprintTermC, rprintTermH⟩
noncomputable def parseTermH : Hints := { keep := fun i => [], esc := [14], lp := [2, 3, 5, 6, 19], roots := [(2, 2), (3, 3), (5, 5), (6, 6), (19, 6)], ord := fun i => if i = 7 then [0, 1, 2, 3] else if i = 8 then [0, 1, 2, 3] else [] }
noncomputable def parseTermC : Code := Tryz.f30.body.getD .skip
noncomputable def parseTermD : FDef := ⟨Tryz.f30, parseTermC, parseTermH⟩
noncomputable def rpartsH : Hints := { keep := fun i => if i = 2 then [1, 2, 5, 8] else if i = 0 then [1, 2, 5, 6, 40, 41, 42] else [], lp := [2, 11, 22, 35, 46], ep := [25, 49], roots := [(2, 2), (11, 2), (22, 2), (35, 2), (46, 2)] }
noncomputable def rpartsC : Code := Tryz.f31.body.getD .skip
noncomputable def rpartsD : FDef := ⟨Tryz.f31, rpartsC, rpartsH⟩
noncomputable def rusesH : Hints := { keep := fun i => if i = 0 then [1, 2, 5, 6] else [], lp := [2, 9, 13, 19, 31], ep := [34], roots := [(2, 2), (9, 2), (13, 2), (19, 2), (31, 2)] }
noncomputable def rusesC : Code := Tryz.f32.body.getD .skip
noncomputable def rusesD : FDef := ⟨Tryz.f32, rusesC, rusesH⟩
noncomputable def muchH : Hints := { keep := fun i => [], lp := [2, 3], roots := [(2, 2), (3, 3)] }
noncomputable def muchC : Code := Tryz.f6.body.getD .skip
noncomputable def muchD : FDef := ⟨Tryz.f6, muchC, muchH⟩
noncomputable def tsomeH : Hints := { keep := fun i => if i = 0 then [1, 2, 3, 15, 16, 17] else [], lp := [3, 8, 14, 23, 28], ep := [20], roots := [(3, 3), (8, 8), (14, 3), (23, 3), (28, 3)] }
noncomputable def tsomeC : Code := Tryz.f36.body.getD .skip
noncomputable def tsomeD : FDef := ⟨Tryz.f36, tsomeC, tsomeH⟩
noncomputable def closed1H : Hints := { keep := fun i => [], lp := [3, 6, 10], roots := [(3, 3), (6, 3), (10, 3)] }
noncomputable def closed1C : Code := Tryz.f37.body.getD .skip
noncomputable def closed1D : FDef := ⟨Tryz.f37, closed1C, closed1H⟩
noncomputable def has1H : Hints := { keep := fun i => [], lp := [3, 6, 10], roots := [(3, 3), (6, 3), (10, 3)] }
noncomputable def has1C : Code := Tryz.f38.body.getD .skip
noncomputable def has1D : FDef := ⟨Tryz.f38, has1C, has1H⟩
noncomputable def eqLevelsH : Hints := { keep := fun i => if i = 0 then [1, 2, 15, 16, 17] else [], lp := [8, 9], ep := [20, 24], roots := [(8, 8), (9, 9)] }
noncomputable def eqLevelsC : Code := Tryz.f39.body.getD .skip
noncomputable def eqLevelsD : FDef := ⟨Tryz.f39, eqLevelsC, eqLevelsH⟩
noncomputable def tsameLevelH : Hints := { keep := fun i => [], lp := [2, 3], roots := [(2, 2), (3, 3)] }
noncomputable def tsameLevelC : Code := Tryz.f40.body.getD .skip
noncomputable def tsameLevelD : FDef := ⟨Tryz.f40, tsameLevelC, tsameLevelH⟩
noncomputable def eqTermsH : Hints := { keep := fun i => if i = 0 then [1, 2, 15, 16, 17] else [], lp := [8, 9], ep := [20, 24], roots := [(8, 8), (9, 9)] }
noncomputable def eqTermsC : Code := Tryz.f41.body.getD .skip
noncomputable def eqTermsD : FDef := ⟨Tryz.f41, eqTermsC, eqTermsH⟩
noncomputable def alikeH : Hints := { keep := fun i => if i = 2 then [2, 3, 4, 9] else if i = 0 then [2, 3, 4, 7] else [], lp := [3, 4, 11, 13, 17, 19, 24, 26, 31, 34, 40, 43, 49, 55, 60, 71, 76, 85, 91, 96], ep := [58, 63, 74, 79, 94, 99], roots := [(3, 3), (4, 4), (11, 3), (13, 4), (17, 3), (19, 4), (24, 3), (26, 4), (31, 3), (34, 4), (40, 3), (43, 4), (49, 3), (55, 3), (60, 4), (71, 3), (76, 4), (85, 3), (91, 3), (96, 4)], ord := fun i => if i = 6 then List.range 12 else if i = 8 then List.range 12 else if i = 14 then List.range 13 else [] }
noncomputable def alikeC : Code := Tryz.f42.body.getD .skip
noncomputable def alikeD : FDef := ⟨Tryz.f42, alikeC, alikeH⟩
noncomputable def bindsH : Hints := { keep := fun i => [], lp := [2, 5, 10], roots := [(2, 2), (5, 2), (10, 2)] }
noncomputable def bindsC : Code := Tryz.f43.body.getD .skip
noncomputable def bindsD : FDef := ⟨Tryz.f43, bindsC, bindsH⟩
noncomputable def with_H : Hints := { keep := fun i => [], lp := [2, 4, 5, 7, 9, 11], roots := [(2, 2), (4, 4), (5, 2), (7, 2), (9, 2), (11, 2)] }
noncomputable def with_C : Code := Tryz.f44.body.getD .skip
noncomputable def with_D : FDef := ⟨Tryz.f44, with_C, with_H⟩
noncomputable def substAtH : Hints := { keep := fun i => if i = 0 then [2, 3, 4, 6, 7, 8] else [], steal := [42], lp := [3, 4, 6, 10, 13, 20, 24, 30, 43], ep := [46], roots := [(3, 3), (4, 4), (6, 6), (10, 3), (13, 3), (20, 3), (24, 3), (30, 3), (43, 3)], ord := fun i => if i = 14 then List.range 12 else [] }
noncomputable def substAtC : Code := Tryz.f45.body.getD .skip
noncomputable def substAtD : FDef := ⟨Tryz.f45, substAtC, substAtH⟩
noncomputable def rparamsH : Hints := { keep := fun i => if i = 0 then [1, 2, 6] else [], steal := [16, 21, 34, 36], ownres := [(35, 0)], lp := [2, 7, 10, 17, 23, 29], ep := [32], roots := [(2, 2), (7, 2), (10, 2), (17, 2), (23, 2), (29, 2)], own := [1] }
noncomputable def rparamsC : Code := Tryz.f46.body.getD .skip
noncomputable def rparamsD : FDef := ⟨Tryz.f46, rparamsC, rparamsH⟩
noncomputable def rlevelH : Hints := { keep := fun i => [], steal := [68, 70, 79], lp := [2, 11, 69, 75, 78, 84], roots := [(2, 2), (11, 11), (69, 11), (75, 11), (78, 11), (84, 11)], ord := fun i => if i = 26 then List.range 8 else if i = 28 then List.range 8 else [] }
noncomputable def rlevelC : Code := Tryz.f47.body.getD .skip
noncomputable def rlevelD : FDef := ⟨Tryz.f47, rlevelC, rlevelH⟩
noncomputable def rdoneH : Hints := { keep := fun i => [], lp := [2], roots := [(2, 2)] }
noncomputable def rdoneC : Code := Tryz.f48.body.getD .skip
noncomputable def rdoneD : FDef := ⟨Tryz.f48, rdoneC, rdoneH⟩
noncomputable def levelPartsH : Hints := { keep := fun i => if i = 0 then [1, 2, 5, 6] else [], lp := [2, 9, 20], ep := [23], roots := [(2, 2), (9, 2), (20, 2)] }
noncomputable def levelPartsC : Code := Tryz.f49.body.getD .skip
noncomputable def levelPartsD : FDef := ⟨Tryz.f49, levelPartsC, levelPartsH⟩
noncomputable def substH : Hints := { keep := fun i => if i = 0 then [1, 2, 6, 8, 28, 29, 30] else [], steal := [35], lp := [3, 6, 8, 10, 11, 15, 26, 27, 34, 42], ep := [22, 32], roots := [(3, 3), (6, 6), (8, 8), (10, 10), (11, 3), (15, 3), (26, 8), (27, 3), (34, 8), (42, 8)], ord := fun i => if i = 11 then List.range 10 else [] }
noncomputable def substC : Code := Tryz.f50.body.getD .skip
noncomputable def substD : FDef := ⟨Tryz.f50, substC, substH⟩
noncomputable def rsubstH : Hints := { keep := fun i => if i = 2 then [1, 2, 3, 6, 8, 9] else if i = 0 then [1, 2, 3, 6, 7] else [], steal := [35, 44], lp := [3, 6, 8, 10, 23, 31, 33, 37, 43, 45, 55], ep := [21, 28, 48], roots := [(3, 3), (6, 6), (8, 8), (10, 3), (23, 3), (31, 3), (33, 3), (37, 3), (43, 8), (45, 3), (55, 8)], ord := fun i => if i = 5 then List.range 7 else if i = 12 then List.range 14 else [] }
noncomputable def rsubstC : Code := Tryz.f51.body.getD .skip
noncomputable def rsubstD : FDef := ⟨Tryz.f51, rsubstC, rsubstH⟩
noncomputable def tnewH : Hints := { keep := fun i => [], lp := [4], roots := [(4, 4)] }
noncomputable def tnewC : Code := Tryz.f53.body.getD .skip
noncomputable def tnewD : FDef := ⟨Tryz.f53, tnewC, tnewH⟩
noncomputable def rappH : Hints := { keep := fun i => [], lp := [2, 3, 4], roots := [(2, 2), (3, 3), (4, 4)] }
noncomputable def rappC : Code := Tryz.f54.body.getD .skip
noncomputable def rappD : FDef := ⟨Tryz.f54, rappC, rappH⟩
noncomputable def twriteH : Hints := { keep := fun i => if i = 2 then [0, 46, 47, 48] else if i = 0 then [0, 3, 33, 34, 35] else [], lp := [3, 5, 7, 8, 12, 18, 24, 28, 32, 45], ep := [20, 37, 50], roots := [(3, 3), (5, 5), (7, 7), (8, 3), (12, 3), (18, 3), (24, 3), (28, 3), (32, 3), (45, 3)] }
noncomputable def twriteC : Code := Tryz.f55.body.getD .skip
noncomputable def twriteD : FDef := ⟨Tryz.f55, twriteC, twriteH⟩
noncomputable def rprintH : Hints := { keep := fun i => [], lp := [1, 4, 10, 19, 21, 27, 34], ep := [12, 29, 36], roots := [(1, 1), (4, 1), (10, 1), (19, 1), (21, 1), (27, 1), (34, 1)], ord := fun i => if i = 11 then [0, 1, 2, 3, 4, 5, 6, 10, 11, 12, 13, 7, 8, 9, 14, 15, 16, 17] else [] }
noncomputable def rprintC : Code := Tryz.f58.body.getD .skip
noncomputable def rprintD : FDef := ⟨Tryz.f58, rprintC, rprintH⟩
noncomputable def rtermH : Hints := { keep := fun i => if i = 5 then [0, 2, 11, 12, 13] else if i = 3 then [0, 2, 11, 12] else if i = 0 then [0, 2, 6, 7, 9, 10, 105, 106, 107] else [], steal := [82, 87, 110, 124], lp := [2, 11, 86, 92, 97, 109, 115, 123, 129], ep := [68], roots := [(2, 2), (11, 11), (86, 11), (92, 11), (97, 11), (109, 11), (115, 11), (123, 11), (129, 11)], ord := fun i => if i = 25 then List.range 8 else if i = 31 then List.range 8 else if i = 37 then List.range 8 else [] }
noncomputable def rtermC : Code := Tryz.f59.body.getD .skip
noncomputable def rtermD : FDef := ⟨Tryz.f59, rtermC, rtermH⟩
noncomputable def writtenH : Hints := { keep := fun i => [], lp := [2, 3, 5, 7, 11, 13, 18, 20], roots := [(2, 2), (3, 3), (5, 2), (7, 3), (11, 2), (13, 3), (18, 2), (20, 3)] }
noncomputable def writtenC : Code := Tryz.f62.body.getD .skip
noncomputable def writtenD : FDef := ⟨Tryz.f62, writtenC, writtenH⟩
noncomputable def sameH : Hints := { keep := fun i => [], lp := [2, 3], roots := [(2, 2), (3, 3)] }
noncomputable def sameC : Code := Tryz.f63.body.getD .skip
noncomputable def sameD : FDef := ⟨Tryz.f63, sameC, sameH⟩
noncomputable def sameLevelH : Hints := { keep := fun i => if i = 0 then [2, 3, 5] else [], lp := [2, 3, 7, 9, 13, 15, 20, 23, 29, 35, 40], ep := [38, 43], roots := [(2, 2), (3, 3), (7, 2), (9, 3), (13, 2), (15, 3), (20, 2), (23, 3), (29, 2), (35, 2), (40, 3)], ord := fun i => if i = 6 then List.range 12 else [] }
noncomputable def sameLevelC : Code := Tryz.f64.body.getD .skip
noncomputable def sameLevelD : FDef := ⟨Tryz.f64, sameLevelC, sameLevelH⟩
noncomputable def rsameH : Hints := { keep := fun i => [], lp := [2, 3], roots := [(2, 2), (3, 3)] }
noncomputable def rsameC : Code := Tryz.f65.body.getD .skip
noncomputable def rsameD : FDef := ⟨Tryz.f65, rsameC, rsameH⟩
noncomputable def amongH : Hints := { keep := fun i => if i = 0 then [0, 1, 5] else [], ep := [14] }
noncomputable def amongC : Code := Tryz.f66.body.getD .skip
noncomputable def amongD : FDef := ⟨Tryz.f66, amongC, amongH⟩
noncomputable def rtokenH : Hints := { keep := fun i => if i = 3 then [0, 5, 6] else if i = 5 then [0, 5, 6, 7, 148, 149, 150, 151, 154, 155, 156, 157, 158, 159, 160, 161, 162, 163, 164, 165, 166] else if i = 0 then [0, 5, 73, 74, 86, 87, 88, 89, 90, 91, 92, 105, 106, 107, 108, 109, 110, 120, 121, 122, 123, 124, 125, 126, 129, 130, 131, 132, 133, 134, 135, 148, 149, 150, 151, 154, 155, 156, 157, 158, 159, 160, 161, 162, 163, 164, 165, 166] else [] }
noncomputable def rtokenC : Code := Tryz.f67.body.getD .skip
noncomputable def rtokenD : FDef := ⟨Tryz.f67, rtokenC, rtokenH⟩
noncomputable def isNameH : Hints := { keep := fun i => [] }
noncomputable def isNameC : Code := Tryz.f68.body.getD .skip
noncomputable def isNameD : FDef := ⟨Tryz.f68, isNameC, isNameH⟩
noncomputable def rnextH : Hints := { keep := fun i => [] }
noncomputable def rnextC : Code := Tryz.f69.body.getD .skip
noncomputable def rnextD : FDef := ⟨Tryz.f69, rnextC, rnextH⟩
noncomputable def rfailH : Hints := { keep := fun i => [] }
noncomputable def rfailC : Code := Tryz.f70.body.getD .skip
noncomputable def rfailD : FDef := ⟨Tryz.f70, rfailC, rfailH⟩
noncomputable def rtakeH : Hints := { keep := fun i => [] }
noncomputable def rtakeC : Code := Tryz.f71.body.getD .skip
noncomputable def rtakeD : FDef := ⟨Tryz.f71, rtakeC, rtakeH⟩
noncomputable def indexH : Hints := { keep := fun i => if i = 0 then [0, 1, 7, 8] else [], ep := [14] }
noncomputable def indexC : Code := Tryz.f72.body.getD .skip
noncomputable def indexD : FDef := ⟨Tryz.f72, indexC, indexH⟩
noncomputable def wstringH : Hints := { keep := fun i => [], steal := [12] }
noncomputable def wstringC : Code := Tryz.f73.body.getD .skip
noncomputable def wstringD : FDef := ⟨Tryz.f73, wstringC, wstringH⟩
noncomputable def printH : Hints := { keep := fun i => [], esc := [3], lp := [1], roots := [(1, 1)] }
noncomputable def printC : Code := Tryz.f75.body.getD .skip
noncomputable def printD : FDef := ⟨Tryz.f75, printC, printH⟩
noncomputable def wbyteH : Hints := { keep := fun i => [], steal := [11] }
noncomputable def wbyteC : Code := Tryz.f76.body.getD .skip
noncomputable def wbyteD : FDef := ⟨Tryz.f76, wbyteC, wbyteH⟩
noncomputable def numberH : Hints := { keep := fun i => if i = 0 then [0, 3, 4] else [] }
noncomputable def numberC : Code := Tryz.f77.body.getD .skip
noncomputable def numberD : FDef := ⟨Tryz.f77, numberC, numberH⟩
noncomputable def rnameH : Hints := { keep := fun i => [] }
noncomputable def rnameC : Code := Tryz.f78.body.getD .skip
noncomputable def rnameD : FDef := ⟨Tryz.f78, rnameC, rnameH⟩
noncomputable def rpeekH : Hints := { keep := fun i => [] }
noncomputable def rpeekC : Code := Tryz.f79.body.getD .skip
noncomputable def rpeekD : FDef := ⟨Tryz.f79, rpeekC, rpeekH⟩
noncomputable def rleqH : Hints := { keep := fun i => if i = 4 then [2, 3, 5, 7, 8, 10, 11, 12, 13] else if i = 2 then [2, 3, 5, 7, 8, 10] else if i = 0 then [2, 3, 5, 7, 8, 9] else [], steal := [46], ownres := [(16, 0), (17, 0)], lp := [2, 3], ep := [50], roots := [(2, 2), (3, 3)], ord := fun i => if i = 1 then [0, 1, 2, 3, 4] else if i = 2 then [0, 3, 1, 2, 4, 5, 6] else if i = 19 then [0, 1, 2, 4, 5, 6, 3, 7, 8] else [] }
noncomputable def rleqC : Code := Tryz.f81.body.getD .skip
noncomputable def rleqD : FDef := ⟨Tryz.f81, rleqC, rleqH⟩
noncomputable def nameByteH : Hints := { keep := fun i => [] }
noncomputable def nameByteC : Code := Tryz.f82.body.getD .skip
noncomputable def nameByteD : FDef := ⟨Tryz.f82, nameByteC, nameByteH⟩
noncomputable def writeH : Hints := { keep := fun i => if i = 1 then [0, 16, 17, 18] else [], lp := [3, 5, 6, 9, 15, 37], ep := [11, 20], roots := [(3, 3), (5, 5), (6, 3), (9, 3), (15, 3), (37, 3)] }
noncomputable def writeC : Code := Tryz.f85.body.getD .skip
noncomputable def writeD : FDef := ⟨Tryz.f85, writeC, writeH⟩
noncomputable def succsH : Hints := { keep := fun i => if i = 0 then [1, 3, 4] else [], lp := [1, 5, 9, 16], ep := [19], roots := [(1, 1), (5, 1), (9, 1), (16, 1)] }
noncomputable def succsC : Code := Tryz.f87.body.getD .skip
noncomputable def succsD : FDef := ⟨Tryz.f87, succsC, succsH⟩
noncomputable def rworthH : Hints := { keep := fun i => if i = 1 then [1, 2, 3, 7] else [], lp := [3, 10, 16, 36, 43, 50, 57], ep := [18, 34, 41, 45, 52], roots := [(3, 3), (10, 3), (16, 3), (36, 3), (43, 3), (50, 3), (57, 3)], ord := fun i => if i = 10 then List.range 7 else [] }
noncomputable def rworthC : Code := Tryz.f88.body.getD .skip
noncomputable def rworthD : FDef := ⟨Tryz.f88, rworthC, rworthH⟩
noncomputable def fittingH : Hints := { keep := fun i => [], lp := [2, 3, 4, 5, 14, 21], roots := [(2, 2), (3, 3), (4, 4), (5, 5), (14, 5), (21, 5)], ord := fun i => if i = 5 then [0, 1, 2, 3] else [] }
noncomputable def fittingC : Code := Tryz.f5.body.getD .skip
noncomputable def fittingD : FDef := ⟨Tryz.f5, fittingC, fittingH⟩
noncomputable def tmapH : Hints := { keep := fun i => [], lp := [2, 4], roots := [(2, 2), (4, 4)] }
noncomputable def tmapC : Code := Tryz.f33.body.getD .skip
noncomputable def tmapD : FDef := ⟨Tryz.f33, tmapC, tmapH⟩
noncomputable def instH : Hints := { keep := fun i => [], esc := [3], lp := [2, 4], roots := [(2, 2), (4, 4)] }
noncomputable def instC : Code := Tryz.f35.body.getD .skip
noncomputable def instD : FDef := ⟨Tryz.f35, instC, instH⟩
noncomputable def tsubstH : Hints := { keep := fun i => [], lp := [2, 3, 4], roots := [(2, 2), (3, 3), (4, 4)] }
noncomputable def tsubstC : Code := Tryz.f9.body.getD .skip
noncomputable def tsubstD : FDef := ⟨Tryz.f9, tsubstC, tsubstH⟩
noncomputable def FL : List (FuncId × FDef) := [(7, limitD), (10, tclosedD), (11, thasD), (12, tequalD), (13, sameTermD), (14, rliftD), (15, rsubstTD), (16, rclosedD), (17, rhasD), (18, termParamsD), (19, equalTermD), (20, parseLevelD), (21, levelsFitD), (22, tlevelsD), (23, rlevelsD), (25, rspineD), (26, tapplyD), (27, rapplyD), (28, tprintD), (29, rprintTermD), (30, parseTermD), (31, rpartsD), (32, rusesD), (6, muchD), (36, tsomeD), (37, closed1D), (38, has1D), (39, eqLevelsD), (40, tsameLevelD), (41, eqTermsD), (42, alikeD), (43, bindsD), (44, with_D), (45, substAtD), (46, rparamsD), (47, rlevelD), (48, rdoneD), (49, levelPartsD), (50, substD), (51, rsubstD), (53, tnewD), (54, rappD), (55, twriteD), (58, rprintD), (59, rtermD), (62, writtenD), (63, sameD), (64, sameLevelD), (65, rsameD), (66, amongD), (67, rtokenD), (68, isNameD), (69, rnextD), (70, rfailD), (71, rtakeD), (72, indexD), (73, wstringD), (75, printD), (76, wbyteD), (77, numberD), (78, rnameD), (79, rpeekD), (81, rleqD), (82, nameByteD), (85, writeD), (87, succsD), (88, rworthD), (5, fittingD), (33, tmapD), (35, instD), (9, tsubstD)]
noncomputable def C : Ctx := { T := look TL, glob := fun g => if g = 0 then some [V.slice 1 9 [[V.str ⟨#[]⟩], [V.str ⟨#[115, 111, 114, 116]⟩], [V.str ⟨#[99, 111, 110, 115, 116]⟩], [V.str ⟨#[97, 112, 112]⟩], [V.str ⟨#[108, 97, 109]⟩], [V.str ⟨#[112, 105]⟩], [V.str ⟨#[108, 101, 116]⟩]]] else if g = 1 then some [V.str ⟨#[]⟩, V.str ⟨#[115, 111, 114, 116]⟩, V.str ⟨#[99, 111, 110, 115, 116]⟩, V.str ⟨#[97, 112, 112]⟩, V.str ⟨#[108, 97, 109]⟩, V.str ⟨#[112, 105]⟩, V.str ⟨#[108, 101, 116]⟩] else if g = 2 then some [V.str ⟨#[]⟩, V.str ⟨#[115]⟩, V.str ⟨#[109, 97, 120]⟩, V.str ⟨#[105, 109, 97, 120]⟩] else if g = 3 then some (Go.Lib.pow10Tab.map fun z => V.int .u64 z) else none, ext := fun f => if f = 60 then some (Mk.walkS (lim Mb.C)) else if f = 8 then some (lim Mb.C 8) else if f = 57 then some Mk.textA else if f = 74 then some Mk.textA else if f = 24 then some Mk.spineS else if f = 80 then some Mk.leqS else if f = 83 then some (copyCheckS 75) else if f = 56 then some (bldStringS 75 5) else none, fdef := lookF FL }
theorem typesOk : ∀ t i, C.T t = some i → TOk Tryz.prog t i := look_ok (by kernel_rfl)
theorem ctxOk : CtxOk Tryz.prog C where
 mixed := by kernel_rfl
 T := typesOk
 fdef := by
  refine lookF_ok (P := Tryz.prog) (Q := fun f d => Tryz.prog.funcs[f]? = some d.fn ∧ d.fn.body = some d.code ∧ (∀ (args : Array Value) (w : World), (callFunc f args).run Tryz.prog w = .ok (.enter f args) w)) (L := FL) ?_
  intro p hp
  simp only [FL, List.mem_cons, List.not_mem_nil, or_false] at hp
  rcases hp with rfl | rfl | rfl | rfl | rfl | rfl | rfl | rfl | rfl | rfl | rfl | rfl | rfl | rfl | rfl | rfl | rfl | rfl | rfl | rfl | rfl | rfl | rfl | rfl | rfl | rfl | rfl | rfl | rfl | rfl | rfl | rfl | rfl | rfl | rfl | rfl | rfl | rfl | rfl | rfl | rfl | rfl | rfl | rfl | rfl | rfl | rfl | rfl | rfl | rfl | rfl | rfl | rfl | rfl | rfl | rfl | rfl | rfl | rfl | rfl | rfl | rfl | rfl | rfl | rfl | rfl | rfl | rfl | rfl | rfl | rfl
  ·exact ⟨Tryz.func7, by kernel_rfl, fun args w => Tryz.call7 args w⟩
  ·exact ⟨Tryz.func10, by kernel_rfl, fun args w => Tryz.call10 args w⟩
  ·exact ⟨Tryz.func11, by kernel_rfl, fun args w => Tryz.call11 args w⟩
  ·exact ⟨Tryz.func12, by kernel_rfl, fun args w => Tryz.call12 args w⟩
  ·exact ⟨Tryz.func13, by kernel_rfl, fun args w => Tryz.call13 args w⟩
  ·exact ⟨Tryz.func14, by kernel_rfl, fun args w => Tryz.call14 args w⟩
  ·exact ⟨Tryz.func15, by kernel_rfl, fun args w => Tryz.call15 args w⟩
  ·exact ⟨Tryz.func16, by kernel_rfl, fun args w => Tryz.call16 args w⟩
  ·exact ⟨Tryz.func17, by kernel_rfl, fun args w => Tryz.call17 args w⟩
  ·exact ⟨Tryz.func18, by kernel_rfl, fun args w => Tryz.call18 args w⟩
  ·exact ⟨Tryz.func19, by kernel_rfl, fun args w => Tryz.call19 args w⟩
  ·exact ⟨Tryz.func20, by kernel_rfl, fun args w => Tryz.call20 args w⟩
  ·exact ⟨Tryz.func21, by kernel_rfl, fun args w => Tryz.call21 args w⟩
  ·exact ⟨Tryz.func22, by kernel_rfl, fun args w => Tryz.call22 args w⟩
  ·exact ⟨Tryz.func23, by kernel_rfl, fun args w => Tryz.call23 args w⟩
  ·exact ⟨Tryz.func25, by kernel_rfl, fun args w => Tryz.call25 args w⟩
  ·exact ⟨Tryz.func26, by kernel_rfl, fun args w => Tryz.call26 args w⟩
  ·exact ⟨Tryz.func27, by kernel_rfl, fun args w => Tryz.call27 args w⟩
  ·exact ⟨Tryz.func28, by kernel_rfl, fun args w => Tryz.call28 args w⟩
  ·exact ⟨Tryz.func29, by kernel_rfl, fun args w => Tryz.call29 args w⟩
  ·exact ⟨Tryz.func30, by kernel_rfl, fun args w => Tryz.call30 args w⟩
  ·exact ⟨Tryz.func31, by kernel_rfl, fun args w => Tryz.call31 args w⟩
  ·exact ⟨Tryz.func32, by kernel_rfl, fun args w => Tryz.call32 args w⟩
  ·exact ⟨Tryz.func6, by kernel_rfl, fun args w => Tryz.call6 args w⟩
  ·exact ⟨Tryz.func36, by kernel_rfl, fun args w => Tryz.call36 args w⟩
  ·exact ⟨Tryz.func37, by kernel_rfl, fun args w => Tryz.call37 args w⟩
  ·exact ⟨Tryz.func38, by kernel_rfl, fun args w => Tryz.call38 args w⟩
  ·exact ⟨Tryz.func39, by kernel_rfl, fun args w => Tryz.call39 args w⟩
  ·exact ⟨Tryz.func40, by kernel_rfl, fun args w => Tryz.call40 args w⟩
  ·exact ⟨Tryz.func41, by kernel_rfl, fun args w => Tryz.call41 args w⟩
  ·exact ⟨Tryz.func42, by kernel_rfl, fun args w => Tryz.call42 args w⟩
  ·exact ⟨Tryz.func43, by kernel_rfl, fun args w => Tryz.call43 args w⟩
  ·exact ⟨Tryz.func44, by kernel_rfl, fun args w => Tryz.call44 args w⟩
  ·exact ⟨Tryz.func45, by kernel_rfl, fun args w => Tryz.call45 args w⟩
  ·exact ⟨Tryz.func46, by kernel_rfl, fun args w => Tryz.call46 args w⟩
  ·exact ⟨Tryz.func47, by kernel_rfl, fun args w => Tryz.call47 args w⟩
  ·exact ⟨Tryz.func48, by kernel_rfl, fun args w => Tryz.call48 args w⟩
  ·exact ⟨Tryz.func49, by kernel_rfl, fun args w => Tryz.call49 args w⟩
  ·exact ⟨Tryz.func50, by kernel_rfl, fun args w => Tryz.call50 args w⟩
  ·exact ⟨Tryz.func51, by kernel_rfl, fun args w => Tryz.call51 args w⟩
  ·exact ⟨Tryz.func53, by kernel_rfl, fun args w => Tryz.call53 args w⟩
  ·exact ⟨Tryz.func54, by kernel_rfl, fun args w => Tryz.call54 args w⟩
  ·exact ⟨Tryz.func55, by kernel_rfl, fun args w => Tryz.call55 args w⟩
  ·exact ⟨Tryz.func58, by kernel_rfl, fun args w => Tryz.call58 args w⟩
  ·exact ⟨Tryz.func59, by kernel_rfl, fun args w => Tryz.call59 args w⟩
  ·exact ⟨Tryz.func62, by kernel_rfl, fun args w => Tryz.call62 args w⟩
  ·exact ⟨Tryz.func63, by kernel_rfl, fun args w => Tryz.call63 args w⟩
  ·exact ⟨Tryz.func64, by kernel_rfl, fun args w => Tryz.call64 args w⟩
  ·exact ⟨Tryz.func65, by kernel_rfl, fun args w => Tryz.call65 args w⟩
  ·exact ⟨Tryz.func66, by kernel_rfl, fun args w => Tryz.call66 args w⟩
  ·exact ⟨Tryz.func67, by kernel_rfl, fun args w => Tryz.call67 args w⟩
  ·exact ⟨Tryz.func68, by kernel_rfl, fun args w => Tryz.call68 args w⟩
  ·exact ⟨Tryz.func69, by kernel_rfl, fun args w => Tryz.call69 args w⟩
  ·exact ⟨Tryz.func70, by kernel_rfl, fun args w => Tryz.call70 args w⟩
  ·exact ⟨Tryz.func71, by kernel_rfl, fun args w => Tryz.call71 args w⟩
  ·exact ⟨Tryz.func72, by kernel_rfl, fun args w => Tryz.call72 args w⟩
  ·exact ⟨Tryz.func73, by kernel_rfl, fun args w => Tryz.call73 args w⟩
  ·exact ⟨Tryz.func75, by kernel_rfl, fun args w => Tryz.call75 args w⟩
  ·exact ⟨Tryz.func76, by kernel_rfl, fun args w => Tryz.call76 args w⟩
  ·exact ⟨Tryz.func77, by kernel_rfl, fun args w => Tryz.call77 args w⟩
  ·exact ⟨Tryz.func78, by kernel_rfl, fun args w => Tryz.call78 args w⟩
  ·exact ⟨Tryz.func79, by kernel_rfl, fun args w => Tryz.call79 args w⟩
  ·exact ⟨Tryz.func81, by kernel_rfl, fun args w => Tryz.call81 args w⟩
  ·exact ⟨Tryz.func82, by kernel_rfl, fun args w => Tryz.call82 args w⟩
  ·exact ⟨Tryz.func85, by kernel_rfl, fun args w => Tryz.call85 args w⟩
  ·exact ⟨Tryz.func87, by kernel_rfl, fun args w => Tryz.call87 args w⟩
  ·exact ⟨Tryz.func88, by kernel_rfl, fun args w => Tryz.call88 args w⟩
  ·exact ⟨Tryz.func5, by kernel_rfl, fun args w => Tryz.call5 args w⟩
  ·exact ⟨Tryz.func33, by kernel_rfl, fun args w => Tryz.call33 args w⟩
  ·exact ⟨Tryz.func35, by kernel_rfl, fun args w => Tryz.call35 args w⟩
  ·exact ⟨Tryz.func9, by kernel_rfl, fun args w => Tryz.call9 args w⟩
end Go.Ab.Mk
end
section
set_option maxRecDepth 100000
namespace Go.Ab.Mk
open Go.Proofs Go.Ab
open List (getD)
open IntKind (wrap)
noncomputable def limitF (call : CallF) (a : Int) (σ : Sto) : Option Res :=
 bif (decide (a < (0 : Int))) then
 some (.ret [((V.int .i64 (Int.tmod (wrap .i64 ((0 : Int) - (wrap .i64 (a + (1 : Int))))) (6 : Int))), false)], σ)
 else
 some (.ret [((V.int .i64 (Int.tmod a (6 : Int))), false)], σ)
noncomputable def limit (call : CallF) (n : Nat) (a : Int) (σ : Sto) : Option Res := limitF call a σ
theorem limit_eqF (call : CallF) (n : Nat) (a : Int) (σ : Sto) : afun C limitD call n [(V.int .i64 a, false)] σ =
  limitF call a σ := by kernel_rfl
theorem limit_eq (call : CallF) (n : Nat) (a : Int) (σ : Sto) : afun C limitD call n [(V.int .i64 a, false)] σ = limit call n a σ := limit_eqF call n a σ
theorem limit_lim {n : Nat} {a : Int} {b0 : Bool} {σ : Sto} {r : Res} (h : limit (lim C) n a σ = some r) : lim C 7 [(V.int .i64 a, b0)] σ = some r :=
 lim_of (d := limitD) (by kernel_rfl) (by kernel_rfl) n (show afun C limitD (lim C) n [(V.int .i64 a, false)] σ = some r from (limit_eq (lim C) n a σ).trans h)
noncomputable def tclosedF (call : CallF) (a b : Int) (c : ByteArray) (d e : LL) (f : Int) (σ : Sto) : Option Res :=
 callK call 36 [(V.agg [V.int .i64 a, V.int .i64 b, V.str c, V.slice 3 44 d, V.slice 5 30 e], false), ((V.int .i64 (0 : Int)), false), ((V.func (.func 37) [] [V.ptr 3 (List.length σ) 0]), false)] (σ ++ [[(V.int .i64 f, false)]]) 1 (fun g h =>
 (V.asBool (getD g 0 cellD).1).bind fun b4 =>
 some (.ret [(V.bool (!b4), false)], h)) pnK
noncomputable def tclosed (call : CallF) (n : Nat) (a b : Int) (c : ByteArray) (d e : LL) (f : Int) (σ : Sto) : Option Res := tclosedF call a b c d e f σ
theorem tclosed_eqF (call : CallF) (n : Nat) (a b : Int) (c : ByteArray) (d e : LL) (f : Int) (σ : Sto) : afun C tclosedD call n [(V.agg [V.int .i64 a, V.int .i64 b, V.str c, V.slice 3 44 d, V.slice 5 30 e], false), (V.int .i64 f, false)] σ =
  tclosedF call a b c d e f σ := by kernel_rfl
theorem tclosed_eq (call : CallF) (n : Nat) (a b : Int) (c : ByteArray) (d e : LL) (f : Int) (σ : Sto) : afun C tclosedD call n [(V.agg [V.int .i64 a, V.int .i64 b, V.str c, V.slice 3 44 d, V.slice 5 30 e], false), (V.int .i64 f, false)] σ = tclosed call n a b c d e f σ := tclosed_eqF call n a b c d e f σ
theorem tclosed_lim {n : Nat} {a : Int} {b : Int} {c : ByteArray} {e : LL} {f : LL} {g : Int} {b0 b1 : Bool} {σ : Sto} {r : Res} (h : tclosed (lim C) n a b c e f g σ = some r) : lim C 10 [(V.agg [V.int .i64 a, V.int .i64 b, V.str c, V.slice 3 44 e, V.slice 5 30 f], b0), (V.int .i64 g, b1)] σ = some r :=
 lim_of (d := tclosedD) (by kernel_rfl) (by kernel_rfl) n (show afun C tclosedD (lim C) n [(V.agg [V.int .i64 a, V.int .i64 b, V.str c, V.slice 3 44 e, V.slice 5 30 f], false), (V.int .i64 g, false)] σ = some r from (tclosed_eq (lim C) n a b c e f g σ).trans h)
noncomputable def thasF (call : CallF) (a b : Int) (c : ByteArray) (d e : LL) (f : ByteArray) (σ : Sto) : Option Res :=
 callK call 36 [(V.agg [V.int .i64 a, V.int .i64 b, V.str c, V.slice 3 44 d, V.slice 5 30 e], false), ((V.int .i64 (0 : Int)), false), ((V.func (.func 38) [] [V.ptr 9 (List.length σ) 0]), false)] (σ ++ [[(V.str f, false)]]) 1 (fun g h =>
 some (.ret [((getD g 0 cellD).1, false)], h)) pnK
noncomputable def thas (call : CallF) (n : Nat) (a b : Int) (c : ByteArray) (d e : LL) (f : ByteArray) (σ : Sto) : Option Res := thasF call a b c d e f σ
theorem thas_eqF (call : CallF) (n : Nat) (a b : Int) (c : ByteArray) (d e : LL) (f : ByteArray) (σ : Sto) : afun C thasD call n [(V.agg [V.int .i64 a, V.int .i64 b, V.str c, V.slice 3 44 d, V.slice 5 30 e], false), (V.str f, false)] σ =
  thasF call a b c d e f σ := by kernel_rfl
theorem thas_eq (call : CallF) (n : Nat) (a b : Int) (c : ByteArray) (d e : LL) (f : ByteArray) (σ : Sto) : afun C thasD call n [(V.agg [V.int .i64 a, V.int .i64 b, V.str c, V.slice 3 44 d, V.slice 5 30 e], false), (V.str f, false)] σ = thas call n a b c d e f σ := thas_eqF call n a b c d e f σ
theorem thas_lim {n : Nat} {a : Int} {b : Int} {c : ByteArray} {e : LL} {f : LL} {g : ByteArray} {b0 b1 : Bool} {σ : Sto} {r : Res} (h : thas (lim C) n a b c e f g σ = some r) : lim C 11 [(V.agg [V.int .i64 a, V.int .i64 b, V.str c, V.slice 3 44 e, V.slice 5 30 f], b0), (V.str g, b1)] σ = some r :=
 lim_of (d := thasD) (by kernel_rfl) (by kernel_rfl) n (show afun C thasD (lim C) n [(V.agg [V.int .i64 a, V.int .i64 b, V.str c, V.slice 3 44 e, V.slice 5 30 f], false), (V.str g, false)] σ = some r from (thas_eq (lim C) n a b c e f g σ).trans h)
noncomputable def tequalF (call : CallF) (b c : Int) (d : ByteArray) (e f : LL) (g h : Int) (i : ByteArray) (j k : LL) (σ : Sto) : Option Res :=
 bif (b == g) then
 bif (c == h) then
 bif (d.toList == i.toList) then
 callK call 39 [(V.slice 3 44 e, false), (V.slice 3 44 j, false), ((V.func (.func 40) [] []), false)] σ 1 (fun o a =>
 (V.asBool (getD o 0 cellD).1).bind fun b4 =>
 bif b4 then
 callK call 41 [(V.slice 5 30 f, false), (V.slice 5 30 k, false), ((V.func (.func 12) [] []), false)] a 1 (fun p q =>
 some (.ret [((getD p 0 cellD).1, false)], q)) pnK
 else
 some (.ret [(V.bool false, false)], a)) pnK
 else
 some (.ret [(V.bool false, false)], σ)
 else
 some (.ret [(V.bool false, false)], σ)
 else
 some (.ret [(V.bool false, false)], σ)
noncomputable def tequal (call : CallF) (n : Nat) (a b : Int) (c : ByteArray) (d e : LL) (f g : Int) (h : ByteArray) (i j : LL) (σ : Sto) : Option Res := tequalF call a b c d e f g h i j σ
theorem tequal_eqF (call : CallF) (n : Nat) (a b : Int) (c : ByteArray) (d e : LL) (f g : Int) (h : ByteArray) (i j : LL) (σ : Sto) : afun C tequalD call n [(V.agg [V.int .i64 a, V.int .i64 b, V.str c, V.slice 3 44 d, V.slice 5 30 e], false), (V.agg [V.int .i64 f, V.int .i64 g, V.str h, V.slice 3 44 i, V.slice 5 30 j], false)] σ =
  tequalF call a b c d e f g h i j σ := by kernel_rfl
theorem tequal_eq (call : CallF) (n : Nat) (a b : Int) (c : ByteArray) (d e : LL) (f g : Int) (h : ByteArray) (i j : LL) (σ : Sto) : afun C tequalD call n [(V.agg [V.int .i64 a, V.int .i64 b, V.str c, V.slice 3 44 d, V.slice 5 30 e], false), (V.agg [V.int .i64 f, V.int .i64 g, V.str h, V.slice 3 44 i, V.slice 5 30 j], false)] σ = tequal call n a b c d e f g h i j σ := tequal_eqF call n a b c d e f g h i j σ
theorem tequal_lim {n : Nat} {a : Int} {b : Int} {c : ByteArray} {e : LL} {f : LL} {g : Int} {i : Int} {j : ByteArray} {k : LL} {o : LL} {b0 b1 : Bool} {σ : Sto} {r : Res} (h : tequal (lim C) n a b c e f g i j k o σ = some r) : lim C 12 [(V.agg [V.int .i64 a, V.int .i64 b, V.str c, V.slice 3 44 e, V.slice 5 30 f], b0), (V.agg [V.int .i64 g, V.int .i64 i, V.str j, V.slice 3 44 k, V.slice 5 30 o], b1)] σ = some r :=
 lim_of (d := tequalD) (by kernel_rfl) (by kernel_rfl) n (show afun C tequalD (lim C) n [(V.agg [V.int .i64 a, V.int .i64 b, V.str c, V.slice 3 44 e, V.slice 5 30 f], false), (V.agg [V.int .i64 g, V.int .i64 i, V.str j, V.slice 3 44 k, V.slice 5 30 o], false)] σ = some r from (tequal_eq (lim C) n a b c e f g i j k o σ).trans h)
noncomputable def sameTermF (call : CallF) (a b : Int) (c : ByteArray) (d e : LL) (f g : Int) (h : ByteArray) (i j : LL) (σ : Sto) : Option Res :=
 callK call 42 [(V.agg [V.int .i64 a, V.int .i64 b, V.str c, V.slice 3 44 d, V.slice 5 30 e], false), (V.agg [V.int .i64 f, V.int .i64 g, V.str h, V.slice 3 44 i, V.slice 5 30 j], false), (V.bool false, false)] σ 1 (fun k o =>
 some (.ret [((getD k 0 cellD).1, false)], o)) pnK
noncomputable def sameTerm (call : CallF) (n : Nat) (a b : Int) (c : ByteArray) (d e : LL) (f g : Int) (h : ByteArray) (i j : LL) (σ : Sto) : Option Res := sameTermF call a b c d e f g h i j σ
theorem sameTerm_eqF (call : CallF) (n : Nat) (a b : Int) (c : ByteArray) (d e : LL) (f g : Int) (h : ByteArray) (i j : LL) (σ : Sto) : afun C sameTermD call n [(V.agg [V.int .i64 a, V.int .i64 b, V.str c, V.slice 3 44 d, V.slice 5 30 e], false), (V.agg [V.int .i64 f, V.int .i64 g, V.str h, V.slice 3 44 i, V.slice 5 30 j], false)] σ =
  sameTermF call a b c d e f g h i j σ := by kernel_rfl
theorem sameTerm_eq (call : CallF) (n : Nat) (a b : Int) (c : ByteArray) (d e : LL) (f g : Int) (h : ByteArray) (i j : LL) (σ : Sto) : afun C sameTermD call n [(V.agg [V.int .i64 a, V.int .i64 b, V.str c, V.slice 3 44 d, V.slice 5 30 e], false), (V.agg [V.int .i64 f, V.int .i64 g, V.str h, V.slice 3 44 i, V.slice 5 30 j], false)] σ = sameTerm call n a b c d e f g h i j σ := sameTerm_eqF call n a b c d e f g h i j σ
theorem sameTerm_lim {n : Nat} {a : Int} {b : Int} {c : ByteArray} {e : LL} {f : LL} {g : Int} {i : Int} {j : ByteArray} {k : LL} {o : LL} {b0 b1 : Bool} {σ : Sto} {r : Res} (h : sameTerm (lim C) n a b c e f g i j k o σ = some r) : lim C 13 [(V.agg [V.int .i64 a, V.int .i64 b, V.str c, V.slice 3 44 e, V.slice 5 30 f], b0), (V.agg [V.int .i64 g, V.int .i64 i, V.str j, V.slice 3 44 k, V.slice 5 30 o], b1)] σ = some r :=
 lim_of (d := sameTermD) (by kernel_rfl) (by kernel_rfl) n (show afun C sameTermD (lim C) n [(V.agg [V.int .i64 a, V.int .i64 b, V.str c, V.slice 3 44 e, V.slice 5 30 f], false), (V.agg [V.int .i64 g, V.int .i64 i, V.str j, V.slice 3 44 k, V.slice 5 30 o], false)] σ = some r from (sameTerm_eq (lim C) n a b c e f g i j k o σ).trans h)
noncomputable def rliftk0 : List Nat := [1, 2, 3, 6, 7, 8]
noncomputable def rlifts0 (call : CallF) (rec0 : Int → Int → LL → Int → Int → Int → ByteArray → LL → LL → Int → Int → ByteArray → LL → LL → RR) (g h : Int) (f : LL) (a i j : Int) (k : ByteArray) (o b : LL) (p q : Int) (r : ByteArray) (s t : LL) (σ : Sto) : Option Res :=
 bif (decide (a < (b.length : Int))) then
 callK call 43 [(V.agg [V.int .i64 i, V.int .i64 j, V.str k, V.slice 3 44 o, V.slice 5 30 b], false), (V.int .i64 a, false)] σ 1 (fun v u =>
 (V.asBool (getD v 0 cellD).1).bind fun b4 =>
 bif b4 then
 (grd (decide (0 ≤ a) && decide (a < b.length))).bind fun _ =>
 callK call 14 [(V.agg [(getD (getD b a.toNat []) 0 V.any), (getD (getD b a.toNat []) 1 V.any), (getD (getD b a.toNat []) 2 V.any), (getD (getD b a.toNat []) 3 V.any), (getD (getD b a.toNat []) 4 V.any)], false), (V.int .i64 g, false), ((V.int .i64 (wrap .i64 (h + (1 : Int)))), false)] u 1 (fun c w =>
 (grd ((V.fits (getD c 0 cellD).1 true 5 && true))).bind fun _ =>
 (grd (room (List.length f + 1))).bind fun _ =>
 rec0 g h (f ++ [[V.cell (getD c 0 cellD).1 0, V.cell (getD c 0 cellD).1 1, V.cell (getD c 0 cellD).1 2, V.cell (getD c 0 cellD).1 3, V.cell (getD c 0 cellD).1 4]]) (wrap .i64 (a + (1 : Int))) i j k o b p q r s t w) pnK
 else
 (grd (decide (0 ≤ a) && decide (a < b.length))).bind fun _ =>
 callK call 14 [(V.agg [(getD (getD b a.toNat []) 0 V.any), (getD (getD b a.toNat []) 1 V.any), (getD (getD b a.toNat []) 2 V.any), (getD (getD b a.toNat []) 3 V.any), (getD (getD b a.toNat []) 4 V.any)], false), (V.int .i64 g, false), (V.int .i64 h, false)] u 1 (fun d x =>
 (grd ((V.fits (getD d 0 cellD).1 true 5 && true))).bind fun _ =>
 (grd (room (List.length f + 1))).bind fun _ =>
 rec0 g h (f ++ [[V.cell (getD d 0 cellD).1 0, V.cell (getD d 0 cellD).1 1, V.cell (getD d 0 cellD).1 2, V.cell (getD d 0 cellD).1 3, V.cell (getD d 0 cellD).1 4]]) (wrap .i64 (a + (1 : Int))) i j k o b p q r s t x) pnK) pnK
 else
 callK call 44 [(V.agg [V.int .i64 i, V.int .i64 j, V.str k, V.slice 3 44 o, V.slice 5 30 b], false), (V.slice 5 30 f, false)] σ 1 (fun e y =>
 (grd (V.fits (getD e 0 cellD).1 true 5)).bind fun _ =>
 some (.ret [(V.agg [V.cell (getD e 0 cellD).1 0, V.cell (getD e 0 cellD).1 1, V.cell (getD e 0 cellD).1 2, V.cell (getD e 0 cellD).1 3, V.cell (getD e 0 cellD).1 4], false)], y)) pnK
noncomputable def rliftl0 (call : CallF) (n : Nat) : Nat → Int → Int → LL → Int → Int → Int → ByteArray → LL → LL → Int → Int → ByteArray → LL → LL → RR
 | 0 => fun _ _ _ _ _ _ _ _ _ _ _ _ _ _ _ => none
 | m + 1 => rlifts0 call (rliftl0 call n m)
noncomputable def rliftt0 (a b : Int) (c : LL) (d e f : Int) (g : ByteArray) (h i : LL) (j k : Int) (o : ByteArray) (p q : LL) (σ : Sto) : St := ⟨[.dead, .val (V.int .i64 a) false, .val (V.int .i64 b) false, .lptr 3 0, .dead, .dead, .lptr 6 0, .val (V.slice 5 30 c) true, .val (V.int .i64 d) false] ++ dd 41 [], [[], [], [], [(V.int .i64 e, false), (V.int .i64 f, false), (V.str g, false), (V.slice 3 44 h, false), (V.slice 5 30 i, false)], [], [], [(V.int .i64 j, false), (V.int .i64 k, false), (V.str o, false), (V.slice 3 44 p, true), (V.slice 5 30 q, true)]] ++ nn 43 [], σ⟩
noncomputable def rliftF (call : CallF) (L0 : Int → Int → LL → Int → Int → Int → ByteArray → LL → LL → Int → Int → ByteArray → LL → LL → RR) (b a : Int) (c : ByteArray) (d e : LL) (f g : Int) (σ : Sto) : Option Res :=
 bif (b == (0 : Int)) then
 bif (decide (a ≥ g)) then
 some (.ret [((V.agg [(V.int .i64 (0 : Int)), V.int .i64 (wrap .i64 (a + f)), V.str ⟨#[]⟩, V.slice 3 44 [], V.slice 5 30 []]), false)], σ)
 else
 some (.ret [(V.agg [V.int .i64 b, V.int .i64 a, V.str c, V.slice 3 44 d, V.slice 5 30 e], false)], σ)
 else
 L0 f g [] (0 : Int) b a c d e (0 : Int) (0 : Int) (ByteArray.mk #[]) [] [] σ
noncomputable def rlift (call : CallF) (n : Nat) (a b : Int) (c : ByteArray) (d e : LL) (f g : Int) (σ : Sto) : Option Res := rliftF call (rliftl0 call n n) a b c d e f g σ
theorem rlifts0_eq (call : CallF) (n : Nat) (F0 : St → Option Res) (a b : Int) (c : LL) (d e f : Int) (g : ByteArray) (h i : LL) (j k : Int) (o : ByteArray) (p q : LL) (σ : Sto) :
  aexec C rliftH call n (cp [0,0,1,0,1,1,1] rliftC) 0 (rliftt0 a b c d e f g h i j k o p q σ) (kloop rliftk0 F0 (kblk 0 (kseq (fun st' => aexec C rliftH call n (cp [1,1,1,1] rliftC) 0 st' (kfin C rliftD)) (kfin C rliftD)))) =
  rlifts0 call (fun a b c d e f g h i j k o p q σ => F0 (rliftt0 a b c d e f g h i j k o p q σ)) a b c d e f g h i j k o p q σ := by kernel_rfl
theorem rliftl0_eq (call : CallF) (n : Nat) : ∀ (m : Nat) (a b : Int) (c : LL) (d e f : Int) (g : ByteArray) (h i : LL) (j k : Int) (o : ByteArray) (p q : LL) (σ : Sto),
  aloop (fun st K => aexec C rliftH call n (cp [0,0,1,0,1,1,1] rliftC) 0 st K) rliftk0 m (rliftt0 a b c d e f g h i j k o p q σ) (kblk 0 (kseq (fun st' => aexec C rliftH call n (cp [1,1,1,1] rliftC) 0 st' (kfin C rliftD)) (kfin C rliftD))) = rliftl0 call n m a b c d e f g h i j k o p q σ
 | 0, a, b, c, d, e, f, g, h, i, j, k, o, p, q, σ => rfl
 | m + 1, a, b, c, d, e, f, g, h, i, j, k, o, p, q, σ => by
  rw [aloop, rlifts0_eq]
  simp only [rliftl0_eq call n m]
  rfl
theorem rlift_eqF (call : CallF) (n : Nat) (a b : Int) (c : ByteArray) (d e : LL) (f g : Int) (σ : Sto) : afun C rliftD call n [(V.agg [V.int .i64 a, V.int .i64 b, V.str c, V.slice 3 44 d, V.slice 5 30 e], false), (V.int .i64 f, false), (V.int .i64 g, false)] σ =
  rliftF call (fun h i j k o p q r s t u v w x σ => aloop (fun st K => aexec C rliftH call n (cp [0,0,1,0,1,1,1] rliftC) 0 st K) rliftk0 n (rliftt0 h i j k o p q r s t u v w x σ) (kblk 0 (kseq (fun st' => aexec C rliftH call n (cp [1,1,1,1] rliftC) 0 st' (kfin C rliftD)) (kfin C rliftD)))) a b c d e f g σ := by kernel_rfl
theorem rlift_eq (call : CallF) (n : Nat) (a b : Int) (c : ByteArray) (d e : LL) (f g : Int) (σ : Sto) : afun C rliftD call n [(V.agg [V.int .i64 a, V.int .i64 b, V.str c, V.slice 3 44 d, V.slice 5 30 e], false), (V.int .i64 f, false), (V.int .i64 g, false)] σ = rlift call n a b c d e f g σ := by
 rw [rlift_eqF]
 simp only [rliftl0_eq]
 rfl
theorem rlift_lim {n : Nat} {a : Int} {b : Int} {c : ByteArray} {e : LL} {f : LL} {g : Int} {i : Int} {b0 b1 b2 : Bool} {σ : Sto} {r : Res} (h : rlift (lim C) n a b c e f g i σ = some r) : lim C 14 [(V.agg [V.int .i64 a, V.int .i64 b, V.str c, V.slice 3 44 e, V.slice 5 30 f], b0), (V.int .i64 g, b1), (V.int .i64 i, b2)] σ = some r :=
 lim_of (d := rliftD) (by kernel_rfl) (by kernel_rfl) n (show afun C rliftD (lim C) n [(V.agg [V.int .i64 a, V.int .i64 b, V.str c, V.slice 3 44 e, V.slice 5 30 f], false), (V.int .i64 g, false), (V.int .i64 i, false)] σ = some r from (rlift_eq (lim C) n a b c e f g i σ).trans h)
noncomputable def rsubstTF (call : CallF) (b c : Int) (d : ByteArray) (e f : LL) (g h : Int) (i : ByteArray) (j k : LL) (σ : Sto) : Option Res :=
 callK call 45 [(V.agg [V.int .i64 b, V.int .i64 c, V.str d, V.slice 3 44 e, V.slice 5 30 f], false), (V.agg [V.int .i64 g, V.int .i64 h, V.str i, V.slice 3 44 j, V.slice 5 30 k], false), ((V.int .i64 (0 : Int)), false)] σ 1 (fun a o =>
 (grd (V.fits (getD a 0 cellD).1 true 5)).bind fun _ =>
 some (.ret [(V.agg [V.cell (getD a 0 cellD).1 0, V.cell (getD a 0 cellD).1 1, V.cell (getD a 0 cellD).1 2, V.cell (getD a 0 cellD).1 3, V.cell (getD a 0 cellD).1 4], false)], o)) pnK
noncomputable def rsubstT (call : CallF) (n : Nat) (a b : Int) (c : ByteArray) (d e : LL) (f g : Int) (h : ByteArray) (i j : LL) (σ : Sto) : Option Res := rsubstTF call a b c d e f g h i j σ
theorem rsubstT_eqF (call : CallF) (n : Nat) (a b : Int) (c : ByteArray) (d e : LL) (f g : Int) (h : ByteArray) (i j : LL) (σ : Sto) : afun C rsubstTD call n [(V.agg [V.int .i64 a, V.int .i64 b, V.str c, V.slice 3 44 d, V.slice 5 30 e], false), (V.agg [V.int .i64 f, V.int .i64 g, V.str h, V.slice 3 44 i, V.slice 5 30 j], false)] σ =
  rsubstTF call a b c d e f g h i j σ := by kernel_rfl
theorem rsubstT_eq (call : CallF) (n : Nat) (a b : Int) (c : ByteArray) (d e : LL) (f g : Int) (h : ByteArray) (i j : LL) (σ : Sto) : afun C rsubstTD call n [(V.agg [V.int .i64 a, V.int .i64 b, V.str c, V.slice 3 44 d, V.slice 5 30 e], false), (V.agg [V.int .i64 f, V.int .i64 g, V.str h, V.slice 3 44 i, V.slice 5 30 j], false)] σ = rsubstT call n a b c d e f g h i j σ := rsubstT_eqF call n a b c d e f g h i j σ
theorem rsubstT_lim {n : Nat} {a : Int} {b : Int} {c : ByteArray} {e : LL} {f : LL} {g : Int} {i : Int} {j : ByteArray} {k : LL} {o : LL} {b0 b1 : Bool} {σ : Sto} {r : Res} (h : rsubstT (lim C) n a b c e f g i j k o σ = some r) : lim C 15 [(V.agg [V.int .i64 a, V.int .i64 b, V.str c, V.slice 3 44 e, V.slice 5 30 f], b0), (V.agg [V.int .i64 g, V.int .i64 i, V.str j, V.slice 3 44 k, V.slice 5 30 o], b1)] σ = some r :=
 lim_of (d := rsubstTD) (by kernel_rfl) (by kernel_rfl) n (show afun C rsubstTD (lim C) n [(V.agg [V.int .i64 a, V.int .i64 b, V.str c, V.slice 3 44 e, V.slice 5 30 f], false), (V.agg [V.int .i64 g, V.int .i64 i, V.str j, V.slice 3 44 k, V.slice 5 30 o], false)] σ = some r from (rsubstT_eq (lim C) n a b c e f g i j k o σ).trans h)
noncomputable def rclosedk0 : List Nat := [1, 2, 5]
noncomputable def rcloseds0 (call : CallF) (rec0 : Int → Int → Int → Int → ByteArray → LL → LL → RR) (c a d e : Int) (f : ByteArray) (g b : LL) (σ : Sto) : Option Res :=
 bif (decide (a < (b.length : Int))) then
 callK call 43 [(V.agg [V.int .i64 d, V.int .i64 e, V.str f, V.slice 3 44 g, V.slice 5 30 b], false), (V.int .i64 a, false)] σ 1 (fun k h =>
 (V.asBool (getD k 0 cellD).1).bind fun b4 =>
 bif b4 then
 (grd (decide (0 ≤ a) && decide (a < b.length))).bind fun _ =>
 callK call 16 [(V.agg [(getD (getD b a.toNat []) 0 V.any), (getD (getD b a.toNat []) 1 V.any), (getD (getD b a.toNat []) 2 V.any), (getD (getD b a.toNat []) 3 V.any), (getD (getD b a.toNat []) 4 V.any)], false), ((V.int .i64 (wrap .i64 (c + (1 : Int)))), false)] h 1 (fun o i =>
 (V.asBool (getD o 0 cellD).1).bind fun b8 =>
 bif (!b8) then
 some (.ret [(V.bool false, false)], i)
 else
 rec0 c (wrap .i64 (a + (1 : Int))) d e f g b i) pnK
 else
 (grd (decide (0 ≤ a) && decide (a < b.length))).bind fun _ =>
 callK call 16 [(V.agg [(getD (getD b a.toNat []) 0 V.any), (getD (getD b a.toNat []) 1 V.any), (getD (getD b a.toNat []) 2 V.any), (getD (getD b a.toNat []) 3 V.any), (getD (getD b a.toNat []) 4 V.any)], false), (V.int .i64 c, false)] h 1 (fun p j =>
 (V.asBool (getD p 0 cellD).1).bind fun b12 =>
 bif (!b12) then
 some (.ret [(V.bool false, false)], j)
 else
 rec0 c (wrap .i64 (a + (1 : Int))) d e f g b j) pnK) pnK
 else
 some (.ret [(V.bool true, false)], σ)
noncomputable def rclosedl0 (call : CallF) (n : Nat) : Nat → Int → Int → Int → Int → ByteArray → LL → LL → RR
 | 0 => fun _ _ _ _ _ _ _ _ => none
 | m + 1 => rcloseds0 call (rclosedl0 call n m)
noncomputable def rclosedt0 (a b c d : Int) (e : ByteArray) (f g : LL) (σ : Sto) : St := ⟨[.dead, .val (V.int .i64 a) false, .lptr 2 0, .dead, .dead, .val (V.int .i64 b) false] ++ dd 31 [], [[], [], [(V.int .i64 c, false), (V.int .i64 d, false), (V.str e, false), (V.slice 3 44 f, false), (V.slice 5 30 g, false)]] ++ nn 34 [], σ⟩
noncomputable def rclosedF (call : CallF) (L0 : Int → Int → Int → Int → ByteArray → LL → LL → RR) (a b : Int) (d : ByteArray) (e f : LL) (c : Int) (σ : Sto) : Option Res :=
 bif (a == (0 : Int)) then
 some (.ret [(V.bool (decide (b < c)), false)], σ)
 else
 L0 c (0 : Int) a b d e f σ
noncomputable def rclosed (call : CallF) (n : Nat) (a b : Int) (c : ByteArray) (d e : LL) (f : Int) (σ : Sto) : Option Res := rclosedF call (rclosedl0 call n n) a b c d e f σ
theorem rcloseds0_eq (call : CallF) (n : Nat) (F0 : St → Option Res) (a b c d : Int) (e : ByteArray) (f g : LL) (σ : Sto) :
  aexec C rclosedH call n (cp [0,0,1,0,1,1] rclosedC) 0 (rclosedt0 a b c d e f g σ) (kloop rclosedk0 F0 (kblk 0 (kseq (fun st' => aexec C rclosedH call n (cp [1,1,1] rclosedC) 0 st' (kfin C rclosedD)) (kfin C rclosedD)))) =
  rcloseds0 call (fun a b c d e f g σ => F0 (rclosedt0 a b c d e f g σ)) a b c d e f g σ := by kernel_rfl
theorem rclosedl0_eq (call : CallF) (n : Nat) : ∀ (m : Nat) (a b c d : Int) (e : ByteArray) (f g : LL) (σ : Sto),
  aloop (fun st K => aexec C rclosedH call n (cp [0,0,1,0,1,1] rclosedC) 0 st K) rclosedk0 m (rclosedt0 a b c d e f g σ) (kblk 0 (kseq (fun st' => aexec C rclosedH call n (cp [1,1,1] rclosedC) 0 st' (kfin C rclosedD)) (kfin C rclosedD))) = rclosedl0 call n m a b c d e f g σ
 | 0, a, b, c, d, e, f, g, σ => rfl
 | m + 1, a, b, c, d, e, f, g, σ => by
  rw [aloop, rcloseds0_eq]
  simp only [rclosedl0_eq call n m]
  rfl
theorem rclosed_eqF (call : CallF) (n : Nat) (a b : Int) (c : ByteArray) (d e : LL) (f : Int) (σ : Sto) : afun C rclosedD call n [(V.agg [V.int .i64 a, V.int .i64 b, V.str c, V.slice 3 44 d, V.slice 5 30 e], false), (V.int .i64 f, false)] σ =
  rclosedF call (fun g h i j k o p σ => aloop (fun st K => aexec C rclosedH call n (cp [0,0,1,0,1,1] rclosedC) 0 st K) rclosedk0 n (rclosedt0 g h i j k o p σ) (kblk 0 (kseq (fun st' => aexec C rclosedH call n (cp [1,1,1] rclosedC) 0 st' (kfin C rclosedD)) (kfin C rclosedD)))) a b c d e f σ := by kernel_rfl
theorem rclosed_eq (call : CallF) (n : Nat) (a b : Int) (c : ByteArray) (d e : LL) (f : Int) (σ : Sto) : afun C rclosedD call n [(V.agg [V.int .i64 a, V.int .i64 b, V.str c, V.slice 3 44 d, V.slice 5 30 e], false), (V.int .i64 f, false)] σ = rclosed call n a b c d e f σ := by
 rw [rclosed_eqF]
 simp only [rclosedl0_eq]
 rfl
theorem rclosed_lim {n : Nat} {a : Int} {b : Int} {c : ByteArray} {e : LL} {f : LL} {g : Int} {b0 b1 : Bool} {σ : Sto} {r : Res} (h : rclosed (lim C) n a b c e f g σ = some r) : lim C 16 [(V.agg [V.int .i64 a, V.int .i64 b, V.str c, V.slice 3 44 e, V.slice 5 30 f], b0), (V.int .i64 g, b1)] σ = some r :=
 lim_of (d := rclosedD) (by kernel_rfl) (by kernel_rfl) n (show afun C rclosedD (lim C) n [(V.agg [V.int .i64 a, V.int .i64 b, V.str c, V.slice 3 44 e, V.slice 5 30 f], false), (V.int .i64 g, false)] σ = some r from (rclosed_eq (lim C) n a b c e f g σ).trans h)
noncomputable def rhask0 : List Nat := [1, 2, 5]
noncomputable def rhass0 (call : CallF) (rec0 : ByteArray → Int → Int → Int → ByteArray → LL → LL → RR) (c : ByteArray) (a e f : Int) (g : ByteArray) (h b : LL) (σ : Sto) : Option Res :=
 bif (decide (a < (b.length : Int))) then
 (grd (decide (0 ≤ a) && decide (a < b.length))).bind fun _ =>
 callK call 17 [(V.agg [(getD (getD b a.toNat []) 0 V.any), (getD (getD b a.toNat []) 1 V.any), (getD (getD b a.toNat []) 2 V.any), (getD (getD b a.toNat []) 3 V.any), (getD (getD b a.toNat []) 4 V.any)], false), (V.str c, false)] σ 1 (fun i d =>
 (V.asBool (getD i 0 cellD).1).bind fun b4 =>
 bif b4 then
 some (.ret [(V.bool true, false)], d)
 else
 rec0 c (wrap .i64 (a + (1 : Int))) e f g h b d) pnK
 else
 some (.ret [(V.bool false, false)], σ)
noncomputable def rhasl0 (call : CallF) (n : Nat) : Nat → ByteArray → Int → Int → Int → ByteArray → LL → LL → RR
 | 0 => fun _ _ _ _ _ _ _ _ => none
 | m + 1 => rhass0 call (rhasl0 call n m)
noncomputable def rhast0 (a : ByteArray) (b c d : Int) (e : ByteArray) (f g : LL) (σ : Sto) : St := ⟨[.dead, .val (V.str a) false, .lptr 2 0, .dead, .dead, .val (V.int .i64 b) false] ++ dd 25 [], [[], [], [(V.int .i64 c, false), (V.int .i64 d, false), (V.str e, false), (V.slice 3 44 f, false), (V.slice 5 30 g, false)]] ++ nn 28 [], σ⟩
noncomputable def rhasF (call : CallF) (L0 : ByteArray → Int → Int → Int → ByteArray → LL → LL → RR) (a d : Int) (b : ByteArray) (e f : LL) (c : ByteArray) (σ : Sto) : Option Res :=
 bif (a == (2 : Int)) then
 bif (b.toList == c.toList) then
 some (.ret [(V.bool true, false)], σ)
 else
 L0 c (0 : Int) a d b e f σ
 else
 L0 c (0 : Int) a d b e f σ
noncomputable def rhas (call : CallF) (n : Nat) (a b : Int) (c : ByteArray) (d e : LL) (f : ByteArray) (σ : Sto) : Option Res := rhasF call (rhasl0 call n n) a b c d e f σ
theorem rhass0_eq (call : CallF) (n : Nat) (F0 : St → Option Res) (a : ByteArray) (b c d : Int) (e : ByteArray) (f g : LL) (σ : Sto) :
  aexec C rhasH call n (cp [0,0,1,0,1,1] rhasC) 0 (rhast0 a b c d e f g σ) (kloop rhask0 F0 (kblk 0 (kseq (fun st' => aexec C rhasH call n (cp [1,1,1] rhasC) 0 st' (kfin C rhasD)) (kfin C rhasD)))) =
  rhass0 call (fun a b c d e f g σ => F0 (rhast0 a b c d e f g σ)) a b c d e f g σ := by kernel_rfl
theorem rhasl0_eq (call : CallF) (n : Nat) : ∀ (m : Nat) (a : ByteArray) (b c d : Int) (e : ByteArray) (f g : LL) (σ : Sto),
  aloop (fun st K => aexec C rhasH call n (cp [0,0,1,0,1,1] rhasC) 0 st K) rhask0 m (rhast0 a b c d e f g σ) (kblk 0 (kseq (fun st' => aexec C rhasH call n (cp [1,1,1] rhasC) 0 st' (kfin C rhasD)) (kfin C rhasD))) = rhasl0 call n m a b c d e f g σ
 | 0, a, b, c, d, e, f, g, σ => rfl
 | m + 1, a, b, c, d, e, f, g, σ => by
  rw [aloop, rhass0_eq]
  simp only [rhasl0_eq call n m]
  rfl
theorem rhas_eqF (call : CallF) (n : Nat) (b c : Int) (d : ByteArray) (e f : LL) (a : ByteArray) (σ : Sto) : afun C rhasD call n [(V.agg [V.int .i64 b, V.int .i64 c, V.str d, V.slice 3 44 e, V.slice 5 30 f], false), (V.str a, false)] σ =
  rhasF call (fun a g h i j k o σ => aloop (fun st K => aexec C rhasH call n (cp [0,0,1,0,1,1] rhasC) 0 st K) rhask0 n (rhast0 a g h i j k o σ) (kblk 0 (kseq (fun st' => aexec C rhasH call n (cp [1,1,1] rhasC) 0 st' (kfin C rhasD)) (kfin C rhasD)))) b c d e f a σ := by kernel_rfl
theorem rhas_eq (call : CallF) (n : Nat) (a b : Int) (c : ByteArray) (d e : LL) (f : ByteArray) (σ : Sto) : afun C rhasD call n [(V.agg [V.int .i64 a, V.int .i64 b, V.str c, V.slice 3 44 d, V.slice 5 30 e], false), (V.str f, false)] σ = rhas call n a b c d e f σ := by
 rw [rhas_eqF]
 simp only [rhasl0_eq]
 rfl
theorem rhas_lim {n : Nat} {a : Int} {b : Int} {c : ByteArray} {e : LL} {f : LL} {g : ByteArray} {b0 b1 : Bool} {σ : Sto} {r : Res} (h : rhas (lim C) n a b c e f g σ = some r) : lim C 17 [(V.agg [V.int .i64 a, V.int .i64 b, V.str c, V.slice 3 44 e, V.slice 5 30 f], b0), (V.str g, b1)] σ = some r :=
 lim_of (d := rhasD) (by kernel_rfl) (by kernel_rfl) n (show afun C rhasD (lim C) n [(V.agg [V.int .i64 a, V.int .i64 b, V.str c, V.slice 3 44 e, V.slice 5 30 f], false), (V.str g, false)] σ = some r from (rhas_eq (lim C) n a b c e f g σ).trans h)
noncomputable def termParamsk0 : List Nat := [1, 2, 5]
noncomputable def termParamsk1 : List Nat := [1, 2, 6]
noncomputable def termParamss1 (call : CallF) (rec1 : V → Int → Int → Int → ByteArray → LL → LL → RR) (c : V) (a e f : Int) (g : ByteArray) (h b : LL) (σ : Sto) : Option Res :=
 bif (decide (a < (b.length : Int))) then
 (grd (decide (0 ≤ a) && decide (a < b.length))).bind fun _ =>
 callK call 18 [(V.agg [(getD (getD b a.toNat []) 0 V.any), (getD (getD b a.toNat []) 1 V.any), (getD (getD b a.toNat []) 2 V.any), (getD (getD b a.toNat []) 3 V.any), (getD (getD b a.toNat []) 4 V.any)], false), (c, true)] σ 1 (fun d i =>
 (grd ((getD d 0 cellD).2 && true)).bind fun _ =>
 rec1 (getD d 0 cellD).1 (wrap .i64 (a + (1 : Int))) e f g h b i) pnK
 else
 some (.ret [(c, true)], σ)
noncomputable def termParamsl1 (call : CallF) (n : Nat) : Nat → V → Int → Int → Int → ByteArray → LL → LL → RR
 | 0 => fun _ _ _ _ _ _ _ _ => none
 | m + 1 => termParamss1 call (termParamsl1 call n m)
noncomputable def termParamst1 (a : V) (b c d : Int) (e : ByteArray) (f g : LL) (σ : Sto) : St := ⟨[.dead, .val a true, .lptr 2 0, .dead, .dead, .dead, .val (V.int .i64 b) false] ++ dd 29 [], [[], [], [(V.int .i64 c, false), (V.int .i64 d, false), (V.str e, false), (V.slice 3 44 f, false), (V.slice 5 30 g, false)]] ++ nn 33 [], σ⟩
noncomputable def termParamss0 (call : CallF) (L1 rec0 : V → Int → Int → Int → ByteArray → LL → LL → RR) (c : V) (a d e : Int) (f : ByteArray) (b g : LL) (σ : Sto) : Option Res :=
 bif (decide (a < (b.length : Int))) then
 (grd (decide (0 ≤ a) && decide (a < b.length))).bind fun _ =>
 callK call 46 [(V.agg [(getD (getD b a.toNat []) 0 V.any), (getD (getD b a.toNat []) 1 V.any), (getD (getD b a.toNat []) 2 V.any)], false), (c, true)] σ 1 (fun h i =>
 (grd ((getD h 0 cellD).2 && true)).bind fun _ =>
 rec0 (getD h 0 cellD).1 (wrap .i64 (a + (1 : Int))) d e f b g i) pnK
 else
 L1 c (0 : Int) d e f b g σ
noncomputable def termParamsl0 (call : CallF) (n : Nat) : Nat → V → Int → Int → Int → ByteArray → LL → LL → RR
 | 0 => fun _ _ _ _ _ _ _ _ => none
 | m + 1 => termParamss0 call (termParamsl1 call n n) (termParamsl0 call n m)
noncomputable def termParamst0 (a : V) (b c d : Int) (e : ByteArray) (f g : LL) (σ : Sto) : St := ⟨[.dead, .val a true, .lptr 2 0, .dead, .dead, .val (V.int .i64 b) false] ++ dd 30 [], [[], [], [(V.int .i64 c, false), (V.int .i64 d, false), (V.str e, false), (V.slice 3 44 f, false), (V.slice 5 30 g, false)]] ++ nn 33 [], σ⟩
noncomputable def termParamsF (call : CallF) (L0 : V → Int → Int → Int → ByteArray → LL → LL → RR) (a b : Int) (c : ByteArray) (d e f : LL) (σ : Sto) : Option Res :=
 L0 (V.slice 1 9 f) (0 : Int) a b c d e σ
noncomputable def termParams (call : CallF) (n : Nat) (a b : Int) (c : ByteArray) (d e f : LL) (σ : Sto) : Option Res := termParamsF call (termParamsl0 call n n) a b c d e f σ
theorem termParamss1_eq (call : CallF) (n : Nat) (F1 : St → Option Res) (a : V) (b c d : Int) (e : ByteArray) (f g : LL) (σ : Sto) :
  aexec C termParamsH call n (cp [0,0,1,0,1,1] termParamsC) 0 (termParamst1 a b c d e f g σ) (kloop termParamsk1 F1 (kblk 2 (kseq (fun st' => aexec C termParamsH call n (cp [1,1,1] termParamsC) 0 st' (kfin C termParamsD)) (kfin C termParamsD)))) =
  termParamss1 call (fun a b c d e f g σ => F1 (termParamst1 a b c d e f g σ)) a b c d e f g σ := by kernel_rfl
theorem termParamsl1_eq (call : CallF) (n : Nat) : ∀ (m : Nat) (a : V) (b c d : Int) (e : ByteArray) (f g : LL) (σ : Sto),
  aloop (fun st K => aexec C termParamsH call n (cp [0,0,1,0,1,1] termParamsC) 0 st K) termParamsk1 m (termParamst1 a b c d e f g σ) (kblk 2 (kseq (fun st' => aexec C termParamsH call n (cp [1,1,1] termParamsC) 0 st' (kfin C termParamsD)) (kfin C termParamsD))) = termParamsl1 call n m a b c d e f g σ
 | 0, a, b, c, d, e, f, g, σ => rfl
 | m + 1, a, b, c, d, e, f, g, σ => by
  rw [aloop, termParamss1_eq]
  simp only [termParamsl1_eq call n m]
  rfl
theorem termParamss0_eq (call : CallF) (n : Nat) (F0 : St → Option Res) (a : V) (g b c : Int) (d : ByteArray) (e f : LL) (σ : Sto) :
  aexec C termParamsH call n (cp [0,0,1,0,1] termParamsC) 0 (termParamst0 a g b c d e f σ) (kloop termParamsk0 F0 (kblk 0 (kseq (fun st' => aexec C termParamsH call n (codeR (codeR termParamsC)) 0 st' (kfin C termParamsD)) (kfin C termParamsD)))) =
  termParamss0 call (fun a h b c d e f σ => aloop (fun st K => aexec C termParamsH call n (cp [0,0,1,0,1,1] termParamsC) 0 st K) termParamsk1 n (termParamst1 a h b c d e f σ) (kblk 2 (kseq (fun st' => aexec C termParamsH call n (cp [1,1,1] termParamsC) 0 st' (kfin C termParamsD)) (kfin C termParamsD)))) (fun a g b c d e f σ => F0 (termParamst0 a g b c d e f σ)) a g b c d e f σ := by kernel_rfl
theorem termParamsl0_eq (call : CallF) (n : Nat) : ∀ (m : Nat) (a : V) (b c d : Int) (e : ByteArray) (f g : LL) (σ : Sto),
  aloop (fun st K => aexec C termParamsH call n (cp [0,0,1,0,1] termParamsC) 0 st K) termParamsk0 m (termParamst0 a b c d e f g σ) (kblk 0 (kseq (fun st' => aexec C termParamsH call n (codeR (codeR termParamsC)) 0 st' (kfin C termParamsD)) (kfin C termParamsD))) = termParamsl0 call n m a b c d e f g σ
 | 0, a, b, c, d, e, f, g, σ => rfl
 | m + 1, a, b, c, d, e, f, g, σ => by
  rw [aloop, termParamss0_eq]
  simp only [termParamsl0_eq call n m, termParamsl1_eq]
  rfl
theorem termParams_eqF (call : CallF) (n : Nat) (b c : Int) (d : ByteArray) (e f a : LL) (σ : Sto) : afun C termParamsD call n [(V.agg [V.int .i64 b, V.int .i64 c, V.str d, V.slice 3 44 e, V.slice 5 30 f], false), (V.slice 1 9 a, true)] σ =
  termParamsF call (fun a g h i j k o σ => aloop (fun st K => aexec C termParamsH call n (cp [0,0,1,0,1] termParamsC) 0 st K) termParamsk0 n (termParamst0 a g h i j k o σ) (kblk 0 (kseq (fun st' => aexec C termParamsH call n (codeR (codeR termParamsC)) 0 st' (kfin C termParamsD)) (kfin C termParamsD)))) b c d e f a σ := by kernel_rfl
theorem termParams_eq (call : CallF) (n : Nat) (a b : Int) (c : ByteArray) (d e f : LL) (σ : Sto) : afun C termParamsD call n [(V.agg [V.int .i64 a, V.int .i64 b, V.str c, V.slice 3 44 d, V.slice 5 30 e], false), (V.slice 1 9 f, true)] σ = termParams call n a b c d e f σ := by
 rw [termParams_eqF]
 simp only [termParamsl0_eq]
 rfl
theorem termParams_lim {n : Nat} {a : Int} {b : Int} {c : ByteArray} {e : LL} {f : LL} {g : LL} {b0 : Bool} {σ : Sto} {r : Res} (h : termParams (lim C) n a b c e f g σ = some r) : lim C 18 [(V.agg [V.int .i64 a, V.int .i64 b, V.str c, V.slice 3 44 e, V.slice 5 30 f], b0), (V.slice 1 9 g, true)] σ = some r :=
 lim_of (d := termParamsD) (by kernel_rfl) (by kernel_rfl) n (show afun C termParamsD (lim C) n [(V.agg [V.int .i64 a, V.int .i64 b, V.str c, V.slice 3 44 e, V.slice 5 30 f], false), (V.slice 1 9 g, true)] σ = some r from (termParams_eq (lim C) n a b c e f g σ).trans h)
end Go.Ab.Mk
end
