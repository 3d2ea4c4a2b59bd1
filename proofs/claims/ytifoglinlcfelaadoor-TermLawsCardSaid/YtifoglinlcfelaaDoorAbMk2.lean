/- AbMk2: printed by program: functions of the program as plain Lean, and the equations. -/
import Derived.Test.YtifoglinlcfelaaDoorAbWk4
import Derived.Test.YtifoglinlcfelaaDoorAbBl
import Derived.Test.YtifoglinlcfelaaDoorAbMp
import Derived.Test.YtifoglinlcfelaaDoorProg
set_option linter.unusedSimpArgs false
set_option linter.unusedVariables false
set_option linter.deprecated false
section
namespace Go.Proofs
open Go.RowKit Go.Ab Go.Ab.Mk
set_option maxRecDepth 100000
set_option maxHeartbeats 1000000
theorem lvs_inj : ∀ {L M : List Lv}, L.map Lv.enc = M.map Lv.enc → L = M
 | [], [], _ => rfl
 | [], _ :: _, h => by simp at h
 | _ :: _, [], h => by simp at h
 | a :: L, b :: M, h => by
  simp only [List.map_cons, List.cons.injEq] at h
  rw [enc_inj h.1, lvs_inj h.2]
theorem Mk.tenc_inj : ∀ {a b : Tm}, a.enc = b.enc → a = b
 | .var n, b, h => by cases b <;> simp [Tm.enc, tmCells] at h; rw [Int.ofNat.inj h]
 | .sort l, b, h => by cases b <;> simp [Tm.enc, tmCells] at h; rw [enc_inj h]
 | .const s ls, b, h => by
  cases b <;> simp only [Tm.enc, tmCells, List.cons.injEq, V.int.injEq, V.str.injEq, V.slice.injEq] at h <;> first | (exact absurd h.1.2 (by decide)) | skip
  rw [h.2.2.1, lvs_inj h.2.2.2.1.2.2]
 | .app a1 a2, b, h => by cases b <;> simp [Tm.enc, tmCells] at h; rw [Mk.tenc_inj h.1, Mk.tenc_inj h.2]
 | .lam a1 a2, b, h => by cases b <;> simp [Tm.enc, tmCells] at h; rw [Mk.tenc_inj h.1, Mk.tenc_inj h.2]
 | .pi a1 a2, b, h => by cases b <;> simp [Tm.enc, tmCells] at h; rw [Mk.tenc_inj h.1, Mk.tenc_inj h.2]
 | .letin a1 a2 a3, b, h => by cases b <;> simp [Tm.enc, tmCells] at h; rw [Mk.tenc_inj h.1, Mk.tenc_inj h.2.1, Mk.tenc_inj h.2.2]
theorem Mk.tval_enc (t : Tm) : t.val = .agg t.enc := by rw [t.enc_eq]; rfl
theorem Mk.tval_inj {a b : Tm} (h : a.val = b.val) : a = b := by
 rw [Mk.tval_enc, Mk.tval_enc] at h
 injection h with h
 exact Mk.tenc_inj h
section
variable {C : Ctx} {call : CallF} {f : FuncId} {cap : List V} {capv : List Value}
theorem Mk.walk_at_leaf {t : Tm} (hk : 1 ≤ t.kind) (hkids : t.kids = []) (hv : ∀ d σ, Mk.walkV call f cap t d σ = some (t.enc, σ)) : Mk.WalkAt C call f cap t := by
 intro d σ cs σ' h G w c capv hS hcl hr hcap
 rw [hv] at h
 obtain ⟨rfl, rfl⟩ := Prod.mk.inj (Option.some.inj h)
 obtain ⟨pl, cl, pa, ca, hc, _, _⟩ := Mk.tm_rel hr
 rw [hkids] at hc
 subst hc
 refine (Mk.walk_leaf _ _ _ pl pa _ cl ca d _ w hk).mono ?_
 rintro e w' ⟨rfl, hB⟩
 have m : Mine w.heap.size G w w' := Mine.of_below hB
 refine ⟨G, _, _, _, _, _, rfl, .mk _ _ _ _ _ _ _ _ _, (m.extB hS.wf (Nat.le_refl _)).toExt, m.sinv hS, hcl, t.enc_len, ?_⟩
 rw [← Mk.tval_enc]
 have := m.rel hS.wf hr
 exact this
theorem Mk.cells5_inv {v : V} {cs : List V} (h : Mk.cells5 v = some cs) : v = .agg cs ∧ cs.length = 5 ∧ ∀ {G : Gh} {w : World} {c : Value}, Rel G w v c → ∃ x0 x1 x2 x3 x4, c = .agg #[x0, x1, x2, x3, x4] ∧ Mk.ShpW x0 x1 x2 x3 x4 := by
 unfold Mk.cells5 at h
 split at h
 ·split at h
  ·rename_i k m n a b hh
   obtain rfl := Option.some.inj h
   have hs := Bool.and_eq_true_iff.1 hh
   refine ⟨rfl, rfl, fun {G w c} hr => ?_⟩
   cases hr with
   | agg _ xs h1 h2 h3 =>
    obtain ⟨x0, x1, x2, x3, x4, rfl⟩ : ∃ x0 x1 x2 x3 x4, xs = [x0, x1, x2, x3, x4] := by
     match xs, h1 with
     | [x0, x1, x2, x3, x4], _ => exact ⟨x0, x1, x2, x3, x4, rfl⟩
    have r0 := h3 0 _ _ rfl rfl
    have r1 := h3 1 _ _ rfl rfl
    have r2 := h3 2 _ _ rfl rfl
    have sl : ∀ {a : V} {c : Value}, slv a = true → Rel G w a c → ∃ p l k, c = .slice p l k := by
     intro a c ha h
     unfold slv at ha
     split at ha
     ·cases h <;> exact ⟨_, _, _, rfl⟩
     ·cases h; exact ⟨_, _, _, rfl⟩
     ·simp at ha
    obtain ⟨_, _, _, rfl⟩ := sl hs.1 (h3 3 _ _ rfl rfl)
    obtain ⟨_, _, _, rfl⟩ := sl hs.2 (h3 4 _ _ rfl rfl)
    cases r0
    cases r1
    cases r2
    exact ⟨_, _, _, _, _, rfl, .mk _ _ _ _ _ _ _ _ _⟩
  ·simp at h
 ·simp at h
theorem Mk.walk_at_var {n : Nat} (hcall : CallOk Tryd.prog C call) : Mk.WalkAt C call f cap (.var n) := by
 intro d σ cs σ' h G w c capv hS hcl hr hcap
 unfold Mk.walkV at h
 split at h
 case h_2 => simp at h
 rename_i v ow σ2 hc
 simp only [Option.bind_eq_some_iff, Option.some.injEq, Prod.mk.injEq] at h
 obtain ⟨cs', h5, rfl, rfl⟩ := h
 obtain ⟨rfl, hl5, hshp⟩ := Mk.cells5_inv h5
 obtain ⟨henter, hC⟩ := hcall _ _ _ _ hc
 obtain ⟨pl, cl, pa, ca, rfl, _, _⟩ := Mk.tm_rel hr
 refine Mk.walk_var f capv.toArray _ _ pl pa _ cl _ ca d w _ henter fun W hW => ?_
 have m : Mine w.heap.size G w W := by rw [hW]; exact ((Mine.refl _ G w).alloc _).alloc _
 have h6 : W.heap[w.heap.size + 1]? = some (.cells #[.int .i64 0, .int .i64 0, .string ⟨#[]⟩, .slice none 0 0, .slice none 0 0] 29 (0, 0)) := by rw [hW]; exact heap_new (by simp)
 have o6 : Own1 w.heap.size G (w.heap.size + 1) := Own1.new hS.wf (Nat.le_refl _) (by omega)
 have l6 := (Array.getElem?_eq_some_iff.1 h6).1
 have hcall' := hC G W ([.agg #[.int .i64 (Tm.var n).kind, .int .i64 (Tm.var n).num, .string (Tm.var n).name, .slice pl (Tm.var n).lvs.length cl, .slice pa (Tm.var n).kids.length ca], .int .i64 d] ++ capv) (m.sinv hS) (fun i p hp => by
  rcases hcl i p hp with h | h | ⟨r, h, _⟩
  ·exact .inl h
  ·exact .inr (.inl h)
  ·omega) (by simp [hcap.1]) (fun i c x hi hx => by
  match i with
  | 0 => simp at hi hx; subst hi; subst hx; exact ⟨m.rel hS.wf hr, fun ho => by simp at ho⟩
  | 1 => simp at hi hx; subst hi; subst hx; exact ⟨.int _ _, fun ho => by simp at ho⟩
  | i + 2 =>
   simp only [List.cons_append, List.nil_append, List.getElem?_cons_succ, List.getElem?_map, Option.map_eq_some_iff] at hi hx
   obtain ⟨v, hv, rfl⟩ := hi
   exact ⟨m.rel hS.wf (hcap.2 i v x hv hx), fun ho => by simp at ho⟩)
 have e0 : ([.agg #[.int .i64 (Tm.var n).kind, .int .i64 (Tm.var n).num, .string (Tm.var n).name, .slice pl (Tm.var n).lvs.length cl, .slice pa (Tm.var n).kids.length ca], .int .i64 d] ++ capv : List Value).toArray = #[.agg #[.int .i64 0, .int .i64 (Tm.var n).num, .string (Tm.var n).name, .slice pl (Tm.var n).lvs.length cl, .slice pa (Tm.var n).kids.length ca], .int .i64 d] ++ capv.toArray := by simp [Tm.kind]
 rw [e0] at hcall'
 refine hcall'.mono ?_
 rintro e W2 ⟨G2, e2, s2, cs2, hcl2, rfl, hrel⟩
 obtain ⟨x, rfl⟩ : ∃ x, cs2 = [x] := by
  match cs2, hcl2 with
  | [x], _ => exact ⟨x, rfl⟩
 have hx := (hrel 0 _ x rfl rfl).1
 simp only at hx
 obtain ⟨x0, x1, x2, x3, x4, rfl, hs⟩ := hshp hx
 obtain ⟨p6, q6⟩ := o6.ext e2 l6
 refine ⟨x0, x1, x2, x3, x4, by simp, hs, q6.trans h6, fun W3 hN => ?_⟩
 have m3 : Mine w.heap.size G2.bare W2 W3 := Mine.of_near hN p6.bare p6.bare
 have wf2 := s2.bare.wf
 have x2B := (((m.extB hS.wf (Nat.le_refl _)).trans (e2.toB m.size)).trans ((Gh.bare_ext (G := G2) (w := W2)).toB (Nat.le_trans m.size e2.size))).trans (m3.extB wf2 (Nat.le_trans m.size e2.size))
 exact ⟨G2.bare, x0, x1, x2, x3, x4, rfl, hs, x2B.toExt, m3.sinv s2.bare, Gh.bare_clean 0, hl5, m3.rel wf2 (hx.mono (Gh.bare_ext (G := G2)))⟩
theorem Mk.walk_all (hcall : CallOk Tryd.prog C call) : ∀ t : Tm, Mk.WalkAt C call f cap t
 | .var n => Mk.walk_at_var hcall
 | .sort l => Mk.walk_at_leaf (t := .sort l) (by simp [Tm.kind]) rfl (fun _ _ => rfl)
 | .const s ls => Mk.walk_at_leaf (t := .const s ls) (by simp [Tm.kind]) rfl (fun _ _ => rfl)
 | .app a b => Mk.walk_at_app (Mk.walk_all hcall a) (Mk.walk_all hcall b)
 | .lam a b => by
  intro d σ cs σ' h G w c capv hS hcl hr hcap
  simp only [Mk.walkV, Option.bind_eq_some_iff] at h
  obtain ⟨⟨ca, σ1⟩, ha, _, hd, ⟨cb, σ2⟩, hb, h⟩ := h
  obtain ⟨rfl, rfl⟩ := Prod.mk.inj (Option.some.inj h)
  obtain ⟨hd0, hd1⟩ : 0 ≤ d ∧ d < 1152921504606846976 := by
   unfold grd at hd
   cases h1 : (decide (0 ≤ d) && decide (d < 2 ^ 60)) with
   | false => rw [h1] at hd; simp at hd
   | true => rw [Bool.and_eq_true] at h1; exact ⟨of_decide_eq_true h1.1, of_decide_eq_true h1.2⟩
  exact Mk.walk_at_bind (kk := 4) (by decide) (by decide) (Mk.walk_all hcall a) (Mk.walk_all hcall b) ha hb hd0 hd1 rfl rfl rfl rfl rfl hS hcl hr hcap
 | .pi a b => by
  intro d σ cs σ' h G w c capv hS hcl hr hcap
  simp only [Mk.walkV, Option.bind_eq_some_iff] at h
  obtain ⟨⟨ca, σ1⟩, ha, _, hd, ⟨cb, σ2⟩, hb, h⟩ := h
  obtain ⟨rfl, rfl⟩ := Prod.mk.inj (Option.some.inj h)
  obtain ⟨hd0, hd1⟩ : 0 ≤ d ∧ d < 1152921504606846976 := by
   unfold grd at hd
   cases h1 : (decide (0 ≤ d) && decide (d < 2 ^ 60)) with
   | false => rw [h1] at hd; simp at hd
   | true => rw [Bool.and_eq_true] at h1; exact ⟨of_decide_eq_true h1.1, of_decide_eq_true h1.2⟩
  exact Mk.walk_at_bind (kk := 5) (by decide) (by decide) (Mk.walk_all hcall a) (Mk.walk_all hcall b) ha hb hd0 hd1 rfl rfl rfl rfl rfl hS hcl hr hcap
 | .letin a b c => Mk.walk_at_let (Mk.walk_all hcall a) (Mk.walk_all hcall b) (Mk.walk_all hcall c)
end
open Classical in
noncomputable def Mk.walkS (call : CallF) (args : List Cell) (σ : Sto) : Option Res :=
 match args with
 | [(v, _), (.int .i64 d, _), (.func (.func f) [] cap, _)] => if h : ∃ t : Tm, t.val = v then (Mk.walkV call f cap h.choose d σ).bind fun x => some (.ret [(.agg x.1, false)], x.2) else none
 | _ => none
theorem Mk.walkS_eq {call : CallF} {t : Tm} {d : Int} {f : FuncId} {cap : List V} {o1 o2 o3 : Bool} {σ σ' : Sto} {cs : List V} (h : Mk.walkV call f cap t d σ = some (cs, σ')) :
  Mk.walkS call [(t.val, o1), (.int .i64 d, o2), (.func (.func f) [] cap, o3)] σ = some (.ret [(.agg cs, false)], σ') := by
 have hx : ∃ t' : Tm, t'.val = t.val := ⟨t, rfl⟩
 unfold Mk.walkS
 simp only
 rw [dif_pos hx, Mk.tval_inj hx.choose_spec, h]
 rfl
theorem walkC_ok {C : Ctx} {call : CallF} (hcall : CallOk Tryd.prog C call) (henter : ∀ (args : Array Value) (w : World), (callFunc 42 args).run Tryd.prog w = .ok (.enter 42 args) w) :
  CallOk Tryd.prog C (fun g args σ => if g = 42 then Mk.walkS call args σ else none) := by
 intro g args σ r h
 simp only at h
 split at h
 case isFalse => simp at h
 rename_i hg
 subst hg
 refine ⟨henter, fun G w vals hS hcl hlen hv => ?_⟩
 unfold Mk.walkS at h
 split at h
 case h_2 => simp at h
 rename_i v o1 d o2 f cap o3
 split at h
 case isFalse => simp at h
 rename_i hex
 have hsp := hex.choose_spec
 generalize hex.choose = t at h hsp
 subst hsp
 simp only [Option.bind_eq_some_iff, Option.some.injEq] at h
 obtain ⟨⟨cs, σ'⟩, hw, rfl⟩ := h
 obtain ⟨c0, c1, c2, rfl⟩ : ∃ c0 c1 c2, vals = [c0, c1, c2] := by
  match vals, hlen with
  | [c0, c1, c2], _ => exact ⟨c0, c1, c2, rfl⟩
 have r0 := (hv 0 _ c0 rfl rfl).1
 have r1 := (hv 1 _ c1 rfl rfl).1
 have r2 := (hv 2 _ c2 rfl rfl).1
 simp only at r0 r1 r2
 cases r1 with
 | int =>
 cases r2 with
 | func _ _ _ fs capv h1 h2 h3 h4 =>
 obtain rfl : fs = [] := List.length_eq_zero_iff.1 h1
 have hB := Gh.bare_ext (G := G) (w := w)
 refine (Mk.walk_all hcall t d σ cs σ' hw G.bare w c0 capv hS.bare (Gh.bare_clean 0) (r0.mono hB) ⟨h2, fun i v x hv hx => (h4 i v x hv hx).mono hB⟩).mono ?_
 rintro e w' ⟨G', x0, x1, x2, x3, x4, rfl, _, e2, s2, _, _, hr⟩
 refine ⟨G', hB.trans e2, s2, [.agg #[x0, x1, x2, x3, x4]], rfl, by simp, fun i c x hc hx => ?_⟩
 match i with
 | 0 => simp at hc hx; subst hc; subst hx; exact ⟨hr, fun ho => by simp at ho⟩
 | i + 1 => simp at hc
end Go.Proofs
end
section
set_option maxRecDepth 100000
namespace Go.Ab.Mb
open Go.Proofs Go.Ab
open List (getD)
open IntKind (wrap)
def TL : List (TypeId × TI) := [
 (0, ⟨(.tuple 0), 1, 0, [V.any]⟩),
 (3, ⟨(.int .i64), 1, 8, [(V.int .i64 (0 : Int))]⟩),
 (4, ⟨.bool, 1, 1, [V.bool false]⟩),
 (9, ⟨.string, 1, 16, [V.str ⟨#[]⟩]⟩),
 (26, ⟨(.slice 74), 1, 24, [V.slice 3 74 []]⟩),
 (27, ⟨(.slice 29), 1, 24, [V.slice 5 29 []]⟩),
 (29, ⟨(.struct [(0, 3), (1, 3), (2, 9), (3, 26), (4, 27)]), 5, 80, [(V.int .i64 (0 : Int)), (V.int .i64 (0 : Int)), V.str ⟨#[]⟩, V.slice 3 74 [], V.slice 5 29 []]⟩),
 (57, ⟨.func, 1, 8, [V.nilFunc]⟩),
 (74, ⟨(.struct [(0, 3), (1, 9), (2, 26)]), 3, 48, [(V.int .i64 (0 : Int)), V.str ⟨#[]⟩, V.slice 3 74 []]⟩)]
noncomputable def tmapH : Hints := { keep := fun i => [], lp := [2, 4], roots := [(2, 2), (4, 4)] }
noncomputable def tmapC : Code := Tryd.f22.body.getD .skip
noncomputable def tmapD : FDef := ⟨Tryd.f22, tmapC, tmapH⟩
noncomputable def tliftH : Hints := { keep := fun i => [], esc := [4, 5], lp := [3, 6], roots := [(3, 3), (6, 6)] }
noncomputable def tliftC : Code := Tryd.f10.body.getD .skip
noncomputable def tliftD : FDef := ⟨Tryd.f10, tliftC, tliftH⟩
noncomputable def inst1H : Hints := { keep := fun i => [], lp := [3, 5, 7, 11, 16], ep := [31], roots := [(3, 3), (5, 5), (7, 3), (11, 3), (16, 3)] }
noncomputable def inst1C : Code := Tryd.f41.body.getD .skip
noncomputable def inst1D : FDef := ⟨Tryd.f41, inst1C, inst1H⟩
noncomputable def FL : List (FuncId × FDef) := [(22, tmapD), (10, tliftD), (41, inst1D)]
noncomputable def C : Ctx := { T := look TL, glob := fun g => if g = 0 then some [V.str ⟨#[]⟩, V.str ⟨#[115, 111, 114, 116]⟩, V.str ⟨#[99, 111, 110, 115, 116]⟩, V.str ⟨#[97, 112, 112]⟩, V.str ⟨#[108, 97, 109]⟩, V.str ⟨#[112, 105]⟩, V.str ⟨#[108, 101, 116]⟩] else if g = 1 then some [V.slice 1 9 [[V.str ⟨#[]⟩], [V.str ⟨#[115, 111, 114, 116]⟩], [V.str ⟨#[99, 111, 110, 115, 116]⟩], [V.str ⟨#[97, 112, 112]⟩], [V.str ⟨#[108, 97, 109]⟩], [V.str ⟨#[112, 105]⟩], [V.str ⟨#[108, 101, 116]⟩]]] else if g = 2 then some [V.str ⟨#[]⟩, V.str ⟨#[115]⟩, V.str ⟨#[109, 97, 120]⟩, V.str ⟨#[105, 109, 97, 120]⟩] else if g = 5 then some (Go.Lib.pow10Tab.map fun z => V.int .u64 z) else none, ext := fun f => if f = 42 then some (Mk.walkS (lim Ma.C)) else none, fdef := lookF FL }
theorem typesOk : ∀ t i, C.T t = some i → TOk Tryd.prog t i := look_ok (by kernel_rfl)
theorem ctxOk : CtxOk Tryd.prog C where
 mixed := by kernel_rfl
 T := typesOk
 fdef := by
  refine lookF_ok (P := Tryd.prog) (Q := fun f d => Tryd.prog.funcs[f]? = some d.fn ∧ d.fn.body = some d.code ∧ (∀ (args : Array Value) (w : World), (callFunc f args).run Tryd.prog w = .ok (.enter f args) w)) (L := FL) ?_
  intro p hp
  simp only [FL, List.mem_cons, List.not_mem_nil, or_false] at hp
  rcases hp with rfl | rfl | rfl
  ·exact ⟨Tryd.func22, by kernel_rfl, fun args w => Tryd.call22 args w⟩
  ·exact ⟨Tryd.func10, by kernel_rfl, fun args w => Tryd.call10 args w⟩
  ·exact ⟨Tryd.func41, by kernel_rfl, fun args w => Tryd.call41 args w⟩
end Go.Ab.Mb
end
section
namespace Go.Ab
open Go.Proofs Go.Ab.Mk
open Classical in
noncomputable def Mk.spineS (args : List Cell) (σ : Sto) : Option Res := match args with
 | [(v, _)] => if h : ∃ t : Tm, t.val = v ∧ t.spine.length < 2 ^ 40 then some (.ret [(h.choose.head.val, false), (.slice 5 29 (h.choose.spine.map Tm.enc), false)], σ) else none
 | _ => none
theorem Mk.spineS_eq (t : Tm) (ht : t.spine.length < 2 ^ 40) (o : Bool) (σ : Sto) : Mk.spineS [(t.val, o)] σ = some (.ret [(t.head.val, false), (.slice 5 29 (t.spine.map Tm.enc), false)], σ) := by
 have hx : ∃ t' : Tm, t'.val = t.val ∧ t'.spine.length < 2 ^ 40 := ⟨t, rfl, ht⟩
 unfold Mk.spineS
 simp only
 rw [dif_pos hx, Mk.tval_inj hx.choose_spec.1]
end Go.Ab
end
section
set_option maxRecDepth 100000
namespace Go.Ab.Mk
open Go.Proofs Go.Ab
open List (getD)
open IntKind (wrap)
def TL : List (TypeId × TI) := [
 (0, ⟨(.tuple 0), 1, 0, [V.any]⟩),
 (2, ⟨(.int .i64), 1, 8, [(V.int .i64 (0 : Int))]⟩),
 (3, ⟨(.int .i64), 1, 8, [(V.int .i64 (0 : Int))]⟩),
 (4, ⟨.bool, 1, 1, [V.bool false]⟩),
 (5, ⟨(.int .u8), 1, 1, [(V.int .u8 (0 : Int))]⟩),
 (9, ⟨.string, 1, 16, [V.str ⟨#[]⟩]⟩),
 (20, ⟨.iface, 1, 16, [V.nilIface]⟩),
 (26, ⟨(.slice 74), 1, 24, [V.slice 3 74 []]⟩),
 (27, ⟨(.slice 29), 1, 24, [V.slice 5 29 []]⟩),
 (29, ⟨(.struct [(0, 3), (1, 3), (2, 9), (3, 26), (4, 27)]), 5, 80, [(V.int .i64 (0 : Int)), (V.int .i64 (0 : Int)), V.str ⟨#[]⟩, V.slice 3 74 [], V.slice 5 29 []]⟩),
 (31, ⟨(.struct [(0, 3), (1, 3)]), 2, 16, [(V.int .i64 (0 : Int)), (V.int .i64 (0 : Int))]⟩),
 (32, ⟨(.tuple 2), 1, 0, [V.any]⟩),
 (40, ⟨.iface, 1, 16, [V.nilIface]⟩),
 (46, ⟨.func, 1, 8, [V.nilFunc]⟩),
 (50, ⟨(.pointer 53), 1, 8, [V.nilp]⟩),
 (51, ⟨(.slice 5), 1, 24, [V.slice 1 5 []]⟩),
 (53, ⟨(.struct [(0, 50), (1, 51)]), 2, 32, [V.nilp, V.slice 1 5 []]⟩),
 (57, ⟨.func, 1, 8, [V.nilFunc]⟩),
 (58, ⟨(.pointer 31), 1, 8, [V.nilp]⟩),
 (61, ⟨(.pointer 84), 1, 8, [V.nilp]⟩),
 (67, ⟨(.pointer 69), 1, 8, [V.nilp]⟩),
 (69, ⟨(.struct [(0, 9), (1, 3), (2, 31)]), 4, 40, [V.str ⟨#[]⟩, (V.int .i64 (0 : Int)), (V.int .i64 (0 : Int)), (V.int .i64 (0 : Int))]⟩),
 (74, ⟨(.struct [(0, 3), (1, 9), (2, 26)]), 3, 48, [(V.int .i64 (0 : Int)), V.str ⟨#[]⟩, V.slice 3 74 []]⟩),
 (75, ⟨(.tuple 2), 1, 0, [V.any]⟩),
 (78, ⟨(.array 7 9), 7, 112, [V.str ⟨#[]⟩, V.str ⟨#[]⟩, V.str ⟨#[]⟩, V.str ⟨#[]⟩, V.str ⟨#[]⟩, V.str ⟨#[]⟩, V.str ⟨#[]⟩]⟩),
 (84, ⟨(.struct [(0, 9), (1, 3), (2, 9), (3, 3)]), 4, 48, [V.str ⟨#[]⟩, (V.int .i64 (0 : Int)), V.str ⟨#[]⟩, (V.int .i64 (0 : Int))]⟩),
 (85, ⟨(.tuple 2), 1, 0, [V.any]⟩),
 (89, ⟨(.slice 9), 1, 24, [V.slice 1 9 []]⟩),
 (91, ⟨(.tuple 3), 1, 0, [V.any]⟩),
 (97, ⟨.func, 1, 8, [V.nilFunc]⟩),
 (104, ⟨(.array 4 9), 4, 64, [V.str ⟨#[]⟩, V.str ⟨#[]⟩, V.str ⟨#[]⟩, V.str ⟨#[]⟩]⟩),
 (106, ⟨(.int .i64), 1, 8, [(V.int .i64 (0 : Int))]⟩),
 (107, ⟨(.tuple 2), 1, 0, [V.any]⟩)]
noncomputable def fittingH : Hints := { keep := fun i => [], lp := [2, 3, 4, 5, 14, 21], roots := [(2, 2), (3, 3), (4, 4), (5, 5), (14, 5), (21, 5)], ord := fun i => if i = 5 then [0, 1, 2, 3] else [] }
noncomputable def fittingC : Code := Tryd.f5.body.getD .skip
noncomputable def fittingD : FDef := ⟨Tryd.f5, fittingC, fittingH⟩
noncomputable def muchH : Hints := { keep := fun i => [], lp := [2, 3], roots := [(2, 2), (3, 3)] }
noncomputable def muchC : Code := Tryd.f6.body.getD .skip
noncomputable def muchD : FDef := ⟨Tryd.f6, muchC, muchH⟩
noncomputable def limitH : Hints := { keep := fun i => [] }
noncomputable def limitC : Code := Tryd.f7.body.getD .skip
noncomputable def limitD : FDef := ⟨Tryd.f7, limitC, limitH⟩
noncomputable def tprintH : Hints := { keep := fun i => [], esc := [3], lp := [1], roots := [(1, 1)] }
noncomputable def tprintC : Code := Tryd.f8.body.getD .skip
noncomputable def tprintD : FDef := ⟨Tryd.f8, tprintC, tprintH⟩
noncomputable def tsubstH : Hints := { keep := fun i => [], lp := [2, 3, 4], roots := [(2, 2), (3, 3), (4, 4)] }
noncomputable def tsubstC : Code := Tryd.f9.body.getD .skip
noncomputable def tsubstD : FDef := ⟨Tryd.f9, tsubstC, tsubstH⟩
noncomputable def tapplyH : Hints := { keep := fun i => if i = 0 then [2, 4, 7, 8, 9] else [], lp := [2, 4, 6], ep := [11], roots := [(2, 2), (4, 4), (6, 6)] }
noncomputable def tapplyC : Code := Tryd.f13.body.getD .skip
noncomputable def tapplyD : FDef := ⟨Tryd.f13, tapplyC, tapplyH⟩
noncomputable def tclosedH : Hints := { keep := fun i => [], esc := [3], lp := [2], roots := [(2, 2)] }
noncomputable def tclosedC : Code := Tryd.f14.body.getD .skip
noncomputable def tclosedD : FDef := ⟨Tryd.f14, tclosedC, tclosedH⟩
noncomputable def parseTermH : Hints := { keep := fun i => [], esc := [14], lp := [2, 3, 5, 6, 19], roots := [(2, 2), (3, 3), (5, 5), (6, 6), (19, 6)], ord := fun i => if i = 7 then [0, 1, 2, 3] else if i = 8 then [0, 1, 2, 3] else [] }
noncomputable def parseTermC : Code := Tryd.f15.body.getD .skip
noncomputable def parseTermD : FDef := ⟨Tryd.f15, parseTermC, parseTermH⟩
noncomputable def levelsFitH : Hints := { keep := fun i => if i = 2 then [1, 5] else if i = 0 then [1, 3] else [], lp := [1, 8, 14, 23, 29], ep := [17, 32], roots := [(1, 1), (8, 1), (14, 1), (23, 1), (29, 1)] }
noncomputable def levelsFitC : Code := Tryd.f16.body.getD .skip
noncomputable def levelsFitD : FDef := ⟨Tryd.f16, levelsFitC, levelsFitH⟩
noncomputable def rpartsH : Hints := { keep := fun i => if i = 2 then [1, 2, 5, 8] else if i = 0 then [1, 2, 5, 6, 40, 41, 42] else [], lp := [2, 11, 22, 35, 46], ep := [25, 49], roots := [(2, 2), (11, 2), (22, 2), (35, 2), (46, 2)] }
noncomputable def rpartsC : Code := Tryd.f17.body.getD .skip
noncomputable def rpartsD : FDef := ⟨Tryd.f17, rpartsC, rpartsH⟩
noncomputable def rusesH : Hints := { keep := fun i => if i = 0 then [1, 2, 5, 6] else [], lp := [2, 9, 13, 19, 31], ep := [34], roots := [(2, 2), (9, 2), (13, 2), (19, 2), (31, 2)] }
noncomputable def rusesC : Code := Tryd.f18.body.getD .skip
noncomputable def rusesD : FDef := ⟨Tryd.f18, rusesC, rusesH⟩
noncomputable def twriteH : Hints := { keep := fun i => if i = 2 then [0, 46, 47, 48] else if i = 0 then [0, 3, 33, 34, 35] else [], lp := [3, 5, 7, 8, 12, 18, 24, 28, 32, 45], ep := [20, 37, 50], roots := [(3, 3), (5, 5), (7, 7), (8, 3), (12, 3), (18, 3), (24, 3), (28, 3), (32, 3), (45, 3)] }
noncomputable def twriteC : Code := Tryd.f19.body.getD .skip
noncomputable def twriteD : FDef := ⟨Tryd.f19, twriteC, twriteH⟩
noncomputable def instH : Hints := { keep := fun i => [], esc := [3], lp := [2, 4], roots := [(2, 2), (4, 4)] }
noncomputable def instC : Code := Tryd.f21.body.getD .skip
noncomputable def instD : FDef := ⟨Tryd.f21, instC, instH⟩
noncomputable def tmapH : Hints := { keep := fun i => [], lp := [2, 4], roots := [(2, 2), (4, 4)] }
noncomputable def tmapC : Code := Tryd.f22.body.getD .skip
noncomputable def tmapD : FDef := ⟨Tryd.f22, tmapC, tmapH⟩
noncomputable def newScannerH : Hints := { keep := fun i => [], esc := [6] }
noncomputable def newScannerC : Code := Tryd.f26.body.getD .skip
noncomputable def newScannerD : FDef := ⟨Tryd.f26, newScannerC, newScannerH⟩
noncomputable def readH : Hints := { keep := fun i => if i = 3 then [0, 2, 8, 75, 76] else if i = 1 then [0, 2, 8, 9] else [], steal := [48, 67, 79], lp := [2, 8, 55, 60, 66, 72, 78, 84], roots := [(2, 2), (8, 8), (55, 8), (60, 8), (66, 8), (72, 8), (78, 8), (84, 8)], ord := fun i => if i = 9 then List.range 8 else if i = 21 then List.range 8 else if i = 26 then List.range 8 else [] }
noncomputable def readC : Code := Tryd.f27.body.getD .skip
noncomputable def readD : FDef := ⟨Tryd.f27, readC, readH⟩
noncomputable def sendH : Hints := { keep := fun i => [] }
noncomputable def sendC : Code := Tryd.f28.body.getD .skip
noncomputable def sendD : FDef := ⟨Tryd.f28, sendC, sendH⟩
noncomputable def tnewH : Hints := { keep := fun i => [], lp := [4], roots := [(4, 4)] }
noncomputable def tnewC : Code := Tryd.f30.body.getD .skip
noncomputable def tnewD : FDef := ⟨Tryd.f30, tnewC, tnewH⟩
noncomputable def tsomeH : Hints := { keep := fun i => if i = 0 then [1, 2, 3, 15, 16, 17] else [], lp := [3, 8, 14, 23, 28], ep := [20], roots := [(3, 3), (8, 8), (14, 3), (23, 3), (28, 3)] }
noncomputable def tsomeC : Code := Tryd.f31.body.getD .skip
noncomputable def tsomeD : FDef := ⟨Tryd.f31, tsomeC, tsomeH⟩
noncomputable def closed1H : Hints := { keep := fun i => [], lp := [3, 6, 10], roots := [(3, 3), (6, 3), (10, 3)] }
noncomputable def closed1C : Code := Tryd.f32.body.getD .skip
noncomputable def closed1D : FDef := ⟨Tryd.f32, closed1C, closed1H⟩
noncomputable def rtermH : Hints := { keep := fun i => if i = 5 then [0, 2, 11, 12, 13] else if i = 3 then [0, 2, 11, 12] else if i = 0 then [0, 2, 6, 7, 9, 10, 105, 106, 107] else [], steal := [82, 87, 110, 124], lp := [2, 11, 86, 92, 97, 109, 115, 123, 129], ep := [68], roots := [(2, 2), (11, 11), (86, 11), (92, 11), (97, 11), (109, 11), (115, 11), (123, 11), (129, 11)], ord := fun i => if i = 25 then List.range 8 else if i = 31 then List.range 8 else if i = 37 then List.range 8 else [] }
noncomputable def rtermC : Code := Tryd.f33.body.getD .skip
noncomputable def rtermD : FDef := ⟨Tryd.f33, rtermC, rtermH⟩
noncomputable def rdoneH : Hints := { keep := fun i => [], lp := [2], roots := [(2, 2)] }
noncomputable def rdoneC : Code := Tryd.f34.body.getD .skip
noncomputable def rdoneD : FDef := ⟨Tryd.f34, rdoneC, rdoneH⟩
noncomputable def levelPartsH : Hints := { keep := fun i => if i = 0 then [1, 2, 5, 6] else [], lp := [2, 9, 20], ep := [23], roots := [(2, 2), (9, 2), (20, 2)] }
noncomputable def levelPartsC : Code := Tryd.f35.body.getD .skip
noncomputable def levelPartsD : FDef := ⟨Tryd.f35, levelPartsC, levelPartsH⟩
noncomputable def bindsH : Hints := { keep := fun i => [], lp := [2, 5, 10], roots := [(2, 2), (5, 2), (10, 2)] }
noncomputable def bindsC : Code := Tryd.f36.body.getD .skip
noncomputable def bindsD : FDef := ⟨Tryd.f36, bindsC, bindsH⟩
noncomputable def wstringH : Hints := { keep := fun i => [], steal := [12] }
noncomputable def wstringC : Code := Tryd.f37.body.getD .skip
noncomputable def wstringD : FDef := ⟨Tryd.f37, wstringC, wstringH⟩
noncomputable def printH : Hints := { keep := fun i => [], esc := [3], lp := [1], roots := [(1, 1)] }
noncomputable def printC : Code := Tryd.f39.body.getD .skip
noncomputable def printD : FDef := ⟨Tryd.f39, printC, printH⟩
noncomputable def wbyteH : Hints := { keep := fun i => [], steal := [11] }
noncomputable def wbyteC : Code := Tryd.f40.body.getD .skip
noncomputable def wbyteD : FDef := ⟨Tryd.f40, wbyteC, wbyteH⟩
noncomputable def sstepH : Hints := { keep := fun i => [], ord := fun i => if i = 1 then List.range 10 else if i = 4 then List.range 10 else if i = 21 then List.range 19 else [] }
noncomputable def sstepC : Code := Tryd.f43.body.getD .skip
noncomputable def sstepD : FDef := ⟨Tryd.f43, sstepC, sstepH⟩
noncomputable def cutPrefixH : Hints := { keep := fun i => [] }
noncomputable def cutPrefixC : Code := Tryd.f44.body.getD .skip
noncomputable def cutPrefixD : FDef := ⟨Tryd.f44, cutPrefixC, cutPrefixH⟩
noncomputable def atoiH : Hints := { keep := fun i => [] }
noncomputable def atoiC : Code := Tryd.f45.body.getD .skip
noncomputable def atoiD : FDef := ⟨Tryd.f45, atoiC, atoiH⟩
noncomputable def sfailH : Hints := { keep := fun i => [], esc := [7] }
noncomputable def sfailC : Code := Tryd.f46.body.getD .skip
noncomputable def sfailD : FDef := ⟨Tryd.f46, sfailC, sfailH⟩
noncomputable def stakeH : Hints := { keep := fun i => [] }
noncomputable def stakeC : Code := Tryd.f47.body.getD .skip
noncomputable def stakeD : FDef := ⟨Tryd.f47, stakeC, stakeH⟩
noncomputable def indexH : Hints := { keep := fun i => if i = 0 then [0, 1, 7, 8] else [], ep := [14] }
noncomputable def indexC : Code := Tryd.f48.body.getD .skip
noncomputable def indexD : FDef := ⟨Tryd.f48, indexC, indexH⟩
noncomputable def slevelH : Hints := { keep := fun i => [], steal := [35, 45], lp := [2, 3, 25, 28, 31, 34, 40, 41, 44, 50], roots := [(2, 2), (3, 3), (25, 3), (28, 3), (31, 3), (34, 3), (40, 3), (41, 3), (44, 3), (50, 3)], ord := fun i => if i = 17 then List.range 8 else if i = 19 then List.range 8 else [] }
noncomputable def slevelC : Code := Tryd.f49.body.getD .skip
noncomputable def slevelD : FDef := ⟨Tryd.f49, slevelC, slevelH⟩
noncomputable def snameH : Hints := { keep := fun i => [] }
noncomputable def snameC : Code := Tryd.f50.body.getD .skip
noncomputable def snameD : FDef := ⟨Tryd.f50, snameC, snameH⟩
noncomputable def rtokenH : Hints := { keep := fun i => if i = 3 then [0, 5, 6] else if i = 5 then [0, 5, 6, 7, 148, 149, 150, 151, 154, 155, 156, 157, 158, 159, 160, 161, 162, 163, 164, 165, 166] else if i = 0 then [0, 5, 73, 74, 86, 87, 88, 89, 90, 91, 92, 105, 106, 107, 108, 109, 110, 120, 121, 122, 123, 124, 125, 126, 129, 130, 131, 132, 133, 134, 135, 148, 149, 150, 151, 154, 155, 156, 157, 158, 159, 160, 161, 162, 163, 164, 165, 166] else [] }
noncomputable def rtokenC : Code := Tryd.f51.body.getD .skip
noncomputable def rtokenD : FDef := ⟨Tryd.f51, rtokenC, rtokenH⟩
noncomputable def rfailH : Hints := { keep := fun i => [] }
noncomputable def rfailC : Code := Tryd.f52.body.getD .skip
noncomputable def rfailD : FDef := ⟨Tryd.f52, rfailC, rfailH⟩
noncomputable def rnextH : Hints := { keep := fun i => [] }
noncomputable def rnextC : Code := Tryd.f53.body.getD .skip
noncomputable def rnextD : FDef := ⟨Tryd.f53, rnextC, rnextH⟩
noncomputable def numberH : Hints := { keep := fun i => if i = 0 then [0, 3, 4] else [] }
noncomputable def numberC : Code := Tryd.f54.body.getD .skip
noncomputable def numberD : FDef := ⟨Tryd.f54, numberC, numberH⟩
noncomputable def rlevelH : Hints := { keep := fun i => [], steal := [68, 70, 79], lp := [2, 11, 69, 75, 78, 84], roots := [(2, 2), (11, 11), (69, 11), (75, 11), (78, 11), (84, 11)], ord := fun i => if i = 26 then List.range 8 else if i = 28 then List.range 8 else [] }
noncomputable def rlevelC : Code := Tryd.f55.body.getD .skip
noncomputable def rlevelD : FDef := ⟨Tryd.f55, rlevelC, rlevelH⟩
noncomputable def rnameH : Hints := { keep := fun i => [] }
noncomputable def rnameC : Code := Tryd.f56.body.getD .skip
noncomputable def rnameD : FDef := ⟨Tryd.f56, rnameC, rnameH⟩
noncomputable def rpeekH : Hints := { keep := fun i => [] }
noncomputable def rpeekC : Code := Tryd.f57.body.getD .skip
noncomputable def rpeekD : FDef := ⟨Tryd.f57, rpeekC, rpeekH⟩
noncomputable def rtakeH : Hints := { keep := fun i => [] }
noncomputable def rtakeC : Code := Tryd.f58.body.getD .skip
noncomputable def rtakeD : FDef := ⟨Tryd.f58, rtakeC, rtakeH⟩
noncomputable def writeH : Hints := { keep := fun i => if i = 1 then [0, 16, 17, 18] else [], lp := [3, 5, 6, 9, 15, 37], ep := [11, 20], roots := [(3, 3), (5, 5), (6, 3), (9, 3), (15, 3), (37, 3)] }
noncomputable def writeC : Code := Tryd.f61.body.getD .skip
noncomputable def writeD : FDef := ⟨Tryd.f61, writeC, writeH⟩
noncomputable def srunH : Hints := { keep := fun i => if i = 0 then [0, 1, 2] else [] }
noncomputable def srunC : Code := Tryd.f62.body.getD .skip
noncomputable def srunD : FDef := ⟨Tryd.f62, srunC, srunH⟩
noncomputable def sblankH : Hints := { keep := fun i => [] }
noncomputable def sblankC : Code := Tryd.f63.body.getD .skip
noncomputable def sblankD : FDef := ⟨Tryd.f63, sblankC, sblankH⟩
noncomputable def letterH : Hints := { keep := fun i => [] }
noncomputable def letterC : Code := Tryd.f64.body.getD .skip
noncomputable def letterD : FDef := ⟨Tryd.f64, letterC, letterH⟩
noncomputable def snmbH : Hints := { keep := fun i => [] }
noncomputable def snmbC : Code := Tryd.f65.body.getD .skip
noncomputable def snmbD : FDef := ⟨Tryd.f65, snmbC, snmbH⟩
noncomputable def digitH : Hints := { keep := fun i => [] }
noncomputable def digitC : Code := Tryd.f66.body.getD .skip
noncomputable def digitD : FDef := ⟨Tryd.f66, digitC, digitH⟩
noncomputable def cutPrefix1H : Hints := { keep := fun i => [] }
noncomputable def cutPrefix1C : Code := Tryd.f67.body.getD .skip
noncomputable def cutPrefix1D : FDef := ⟨Tryd.f67, cutPrefix1C, cutPrefix1H⟩
noncomputable def iatoiH : Hints := { keep := fun i => if i = 0 then [5, 6, 47, 48, 49] else [], ep := [51] }
noncomputable def iatoiC : Code := Tryd.f68.body.getD .skip
noncomputable def iatoiD : FDef := ⟨Tryd.f68, iatoiC, iatoiH⟩
noncomputable def nameByteH : Hints := { keep := fun i => [] }
noncomputable def nameByteC : Code := Tryd.f70.body.getD .skip
noncomputable def nameByteD : FDef := ⟨Tryd.f70, nameByteC, nameByteH⟩
noncomputable def isNameH : Hints := { keep := fun i => [] }
noncomputable def isNameC : Code := Tryd.f71.body.getD .skip
noncomputable def isNameD : FDef := ⟨Tryd.f71, isNameC, isNameH⟩
noncomputable def hasPrefixH : Hints := { keep := fun i => [] }
noncomputable def hasPrefixC : Code := Tryd.f74.body.getD .skip
noncomputable def hasPrefixD : FDef := ⟨Tryd.f74, hasPrefixC, hasPrefixH⟩
noncomputable def FL : List (FuncId × FDef) := [(5, fittingD), (6, muchD), (7, limitD), (8, tprintD), (9, tsubstD), (13, tapplyD), (14, tclosedD), (15, parseTermD), (16, levelsFitD), (17, rpartsD), (18, rusesD), (19, twriteD), (21, instD), (22, tmapD), (26, newScannerD), (27, readD), (28, sendD), (30, tnewD), (31, tsomeD), (32, closed1D), (33, rtermD), (34, rdoneD), (35, levelPartsD), (36, bindsD), (37, wstringD), (39, printD), (40, wbyteD), (43, sstepD), (44, cutPrefixD), (45, atoiD), (46, sfailD), (47, stakeD), (48, indexD), (49, slevelD), (50, snameD), (51, rtokenD), (52, rfailD), (53, rnextD), (54, numberD), (55, rlevelD), (56, rnameD), (57, rpeekD), (58, rtakeD), (61, writeD), (62, srunD), (63, sblankD), (64, letterD), (65, snmbD), (66, digitD), (67, cutPrefix1D), (68, iatoiD), (70, nameByteD), (71, isNameD), (74, hasPrefixD)]
noncomputable def C : Ctx := { T := look TL, glob := fun g => if g = 0 then some [V.str ⟨#[]⟩, V.str ⟨#[115, 111, 114, 116]⟩, V.str ⟨#[99, 111, 110, 115, 116]⟩, V.str ⟨#[97, 112, 112]⟩, V.str ⟨#[108, 97, 109]⟩, V.str ⟨#[112, 105]⟩, V.str ⟨#[108, 101, 116]⟩] else if g = 1 then some [V.slice 1 9 [[V.str ⟨#[]⟩], [V.str ⟨#[115, 111, 114, 116]⟩], [V.str ⟨#[99, 111, 110, 115, 116]⟩], [V.str ⟨#[97, 112, 112]⟩], [V.str ⟨#[108, 97, 109]⟩], [V.str ⟨#[112, 105]⟩], [V.str ⟨#[108, 101, 116]⟩]]] else if g = 2 then some [V.str ⟨#[]⟩, V.str ⟨#[115]⟩, V.str ⟨#[109, 97, 120]⟩, V.str ⟨#[105, 109, 97, 120]⟩] else if g = 5 then some (Go.Lib.pow10Tab.map fun z => V.int .u64 z) else none, ext := fun f => if f = 42 then some (Mk.walkS (lim Mb.C)) else if f = 10 then some (lim Mb.C 10) else if f = 38 then some Mk.textA else if f = 12 then some Mk.spineS else if f = 59 then some (copyCheckS 53) else if f = 20 then some (bldStringS 53 5) else none, fdef := lookF FL }
theorem typesOk : ∀ t i, C.T t = some i → TOk Tryd.prog t i := look_ok (by kernel_rfl)
theorem ctxOk : CtxOk Tryd.prog C where
 mixed := by kernel_rfl
 T := typesOk
 fdef := by
  refine lookF_ok (P := Tryd.prog) (Q := fun f d => Tryd.prog.funcs[f]? = some d.fn ∧ d.fn.body = some d.code ∧ (∀ (args : Array Value) (w : World), (callFunc f args).run Tryd.prog w = .ok (.enter f args) w)) (L := FL) ?_
  intro p hp
  simp only [FL, List.mem_cons, List.not_mem_nil, or_false] at hp
  rcases hp with rfl | rfl | rfl | rfl | rfl | rfl | rfl | rfl | rfl | rfl | rfl | rfl | rfl | rfl | rfl | rfl | rfl | rfl | rfl | rfl | rfl | rfl | rfl | rfl | rfl | rfl | rfl | rfl | rfl | rfl | rfl | rfl | rfl | rfl | rfl | rfl | rfl | rfl | rfl | rfl | rfl | rfl | rfl | rfl | rfl | rfl | rfl | rfl | rfl | rfl | rfl | rfl | rfl | rfl
  ·exact ⟨Tryd.func5, by kernel_rfl, fun args w => Tryd.call5 args w⟩
  ·exact ⟨Tryd.func6, by kernel_rfl, fun args w => Tryd.call6 args w⟩
  ·exact ⟨Tryd.func7, by kernel_rfl, fun args w => Tryd.call7 args w⟩
  ·exact ⟨Tryd.func8, by kernel_rfl, fun args w => Tryd.call8 args w⟩
  ·exact ⟨Tryd.func9, by kernel_rfl, fun args w => Tryd.call9 args w⟩
  ·exact ⟨Tryd.func13, by kernel_rfl, fun args w => Tryd.call13 args w⟩
  ·exact ⟨Tryd.func14, by kernel_rfl, fun args w => Tryd.call14 args w⟩
  ·exact ⟨Tryd.func15, by kernel_rfl, fun args w => Tryd.call15 args w⟩
  ·exact ⟨Tryd.func16, by kernel_rfl, fun args w => Tryd.call16 args w⟩
  ·exact ⟨Tryd.func17, by kernel_rfl, fun args w => Tryd.call17 args w⟩
  ·exact ⟨Tryd.func18, by kernel_rfl, fun args w => Tryd.call18 args w⟩
  ·exact ⟨Tryd.func19, by kernel_rfl, fun args w => Tryd.call19 args w⟩
  ·exact ⟨Tryd.func21, by kernel_rfl, fun args w => Tryd.call21 args w⟩
  ·exact ⟨Tryd.func22, by kernel_rfl, fun args w => Tryd.call22 args w⟩
  ·exact ⟨Tryd.func26, by kernel_rfl, fun args w => Tryd.call26 args w⟩
  ·exact ⟨Tryd.func27, by kernel_rfl, fun args w => Tryd.call27 args w⟩
  ·exact ⟨Tryd.func28, by kernel_rfl, fun args w => Tryd.call28 args w⟩
  ·exact ⟨Tryd.func30, by kernel_rfl, fun args w => Tryd.call30 args w⟩
  ·exact ⟨Tryd.func31, by kernel_rfl, fun args w => Tryd.call31 args w⟩
  ·exact ⟨Tryd.func32, by kernel_rfl, fun args w => Tryd.call32 args w⟩
  ·exact ⟨Tryd.func33, by kernel_rfl, fun args w => Tryd.call33 args w⟩
  ·exact ⟨Tryd.func34, by kernel_rfl, fun args w => Tryd.call34 args w⟩
  ·exact ⟨Tryd.func35, by kernel_rfl, fun args w => Tryd.call35 args w⟩
  ·exact ⟨Tryd.func36, by kernel_rfl, fun args w => Tryd.call36 args w⟩
  ·exact ⟨Tryd.func37, by kernel_rfl, fun args w => Tryd.call37 args w⟩
  ·exact ⟨Tryd.func39, by kernel_rfl, fun args w => Tryd.call39 args w⟩
  ·exact ⟨Tryd.func40, by kernel_rfl, fun args w => Tryd.call40 args w⟩
  ·exact ⟨Tryd.func43, by kernel_rfl, fun args w => Tryd.call43 args w⟩
  ·exact ⟨Tryd.func44, by kernel_rfl, fun args w => Tryd.call44 args w⟩
  ·exact ⟨Tryd.func45, by kernel_rfl, fun args w => Tryd.call45 args w⟩
  ·exact ⟨Tryd.func46, by kernel_rfl, fun args w => Tryd.call46 args w⟩
  ·exact ⟨Tryd.func47, by kernel_rfl, fun args w => Tryd.call47 args w⟩
  ·exact ⟨Tryd.func48, by kernel_rfl, fun args w => Tryd.call48 args w⟩
  ·exact ⟨Tryd.func49, by kernel_rfl, fun args w => Tryd.call49 args w⟩
  ·exact ⟨Tryd.func50, by kernel_rfl, fun args w => Tryd.call50 args w⟩
  ·exact ⟨Tryd.func51, by kernel_rfl, fun args w => Tryd.call51 args w⟩
  ·exact ⟨Tryd.func52, by kernel_rfl, fun args w => Tryd.call52 args w⟩
  ·exact ⟨Tryd.func53, by kernel_rfl, fun args w => Tryd.call53 args w⟩
  ·exact ⟨Tryd.func54, by kernel_rfl, fun args w => Tryd.call54 args w⟩
  ·exact ⟨Tryd.func55, by kernel_rfl, fun args w => Tryd.call55 args w⟩
  ·exact ⟨Tryd.func56, by kernel_rfl, fun args w => Tryd.call56 args w⟩
  ·exact ⟨Tryd.func57, by kernel_rfl, fun args w => Tryd.call57 args w⟩
  ·exact ⟨Tryd.func58, by kernel_rfl, fun args w => Tryd.call58 args w⟩
  ·exact ⟨Tryd.func61, by kernel_rfl, fun args w => Tryd.call61 args w⟩
  ·exact ⟨Tryd.func62, by kernel_rfl, fun args w => Tryd.call62 args w⟩
  ·exact ⟨Tryd.func63, by kernel_rfl, fun args w => Tryd.call63 args w⟩
  ·exact ⟨Tryd.func64, by kernel_rfl, fun args w => Tryd.call64 args w⟩
  ·exact ⟨Tryd.func65, by kernel_rfl, fun args w => Tryd.call65 args w⟩
  ·exact ⟨Tryd.func66, by kernel_rfl, fun args w => Tryd.call66 args w⟩
  ·exact ⟨Tryd.func67, by kernel_rfl, fun args w => Tryd.call67 args w⟩
  ·exact ⟨Tryd.func68, by kernel_rfl, fun args w => Tryd.call68 args w⟩
  ·exact ⟨Tryd.func70, by kernel_rfl, fun args w => Tryd.call70 args w⟩
  ·exact ⟨Tryd.func71, by kernel_rfl, fun args w => Tryd.call71 args w⟩
  ·exact ⟨Tryd.func74, by kernel_rfl, fun args w => Tryd.call74 args w⟩
end Go.Ab.Mk
end
section
set_option maxRecDepth 100000
namespace Go.Ab.Mk
open Go.Proofs Go.Ab
open List (getD)
open IntKind (wrap)
noncomputable def fittingF (call : CallF) (c : ByteArray) (σ : Sto) : Option Res :=
 callK call 15 [(V.str c, false)] σ 2 (fun a d =>
 (grd (V.fits (getD a 0 cellD).1 true 5)).bind fun _ =>
 (grd (V.fits (getD a 1 cellD).1 true 2)).bind fun _ =>
 callK call 16 [(V.agg [V.cell (getD a 0 cellD).1 0, V.cell (getD a 0 cellD).1 1, V.cell (getD a 0 cellD).1 2, V.cell (getD a 0 cellD).1 3, V.cell (getD a 0 cellD).1 4], false)] d 1 (fun e b =>
 (V.asInt (V.cell (getD a 1 cellD).1 0) .i64).bind fun i7 =>
 bif (i7 == (0 : Int)) then
 (V.asBool (getD e 0 cellD).1).bind fun b8 =>
 bif (!b8) then
 some (.ret [(V.agg [V.cell (getD a 0 cellD).1 0, V.cell (getD a 0 cellD).1 1, V.cell (getD a 0 cellD).1 2, V.cell (getD a 0 cellD).1 3, V.cell (getD a 0 cellD).1 4], false), ((V.agg [(V.int .i64 (14 : Int)), V.cell (getD a 1 cellD).1 1]), false)], b)
 else
 some (.ret [(V.agg [V.cell (getD a 0 cellD).1 0, V.cell (getD a 0 cellD).1 1, V.cell (getD a 0 cellD).1 2, V.cell (getD a 0 cellD).1 3, V.cell (getD a 0 cellD).1 4], false), (V.agg [V.cell (getD a 1 cellD).1 0, V.cell (getD a 1 cellD).1 1], false)], b)
 else
 some (.ret [(V.agg [V.cell (getD a 0 cellD).1 0, V.cell (getD a 0 cellD).1 1, V.cell (getD a 0 cellD).1 2, V.cell (getD a 0 cellD).1 3, V.cell (getD a 0 cellD).1 4], false), (V.agg [V.cell (getD a 1 cellD).1 0, V.cell (getD a 1 cellD).1 1], false)], b)) pnK) pnK
noncomputable def fitting (call : CallF) (n : Nat) (a : ByteArray) (σ : Sto) : Option Res := fittingF call a σ
theorem fitting_eqF (call : CallF) (n : Nat) (a : ByteArray) (σ : Sto) : afun C fittingD call n [(V.str a, false)] σ =
  fittingF call a σ := by kernel_rfl
theorem fitting_eq (call : CallF) (n : Nat) (a : ByteArray) (σ : Sto) : afun C fittingD call n [(V.str a, false)] σ = fitting call n a σ := fitting_eqF call n a σ
theorem fitting_lim {n : Nat} {a : ByteArray} {b0 : Bool} {σ : Sto} {r : Res} (h : fitting (lim C) n a σ = some r) : lim C 5 [(V.str a, b0)] σ = some r :=
 lim_of (d := fittingD) (by kernel_rfl) (by kernel_rfl) n (show afun C fittingD (lim C) n [(V.str a, false)] σ = some r from (fitting_eq (lim C) n a σ).trans h)
noncomputable def muchF (call : CallF) (a b : Int) (c : ByteArray) (d e : LL) (h i : Int) (j : ByteArray) (k o : LL) (σ : Sto) : Option Res :=
 callK call 17 [(V.agg [V.int .i64 a, V.int .i64 b, V.str c, V.slice 3 74 d, V.slice 5 29 e], false), ((V.int .i64 (20000 : Int)), false)] σ 1 (fun f g =>
 (V.asInt (getD f 0 cellD).1 .i64).bind fun i4 =>
 bif (decide (i4 > (20000 : Int))) then
 some (.ret [(V.bool true, false)], g)
 else
 callK call 18 [(V.agg [V.int .i64 a, V.int .i64 b, V.str c, V.slice 3 74 d, V.slice 5 29 e], false), ((V.int .i64 (0 : Int)), false)] g 1 (fun p q =>
 callK call 17 [(V.agg [V.int .i64 h, V.int .i64 i, V.str j, V.slice 3 74 k, V.slice 5 29 o], false), ((V.int .i64 (20000 : Int)), false)] q 1 (fun r s =>
 (V.asInt (getD p 0 cellD).1 .i64).bind fun i11 =>
 (V.asInt (getD r 0 cellD).1 .i64).bind fun i12 =>
 (V.asInt (getD f 0 cellD).1 .i64).bind fun i13 =>
 some (.ret [((V.bool (decide ((wrap .i64 (i13 + (wrap .i64 (i11 * i12)))) > (20000 : Int)))), false)], s)) pnK) pnK) pnK
noncomputable def much (call : CallF) (n : Nat) (a b : Int) (c : ByteArray) (d e : LL) (f g : Int) (h : ByteArray) (i j : LL) (σ : Sto) : Option Res := muchF call a b c d e f g h i j σ
theorem much_eqF (call : CallF) (n : Nat) (a b : Int) (c : ByteArray) (d e : LL) (f g : Int) (h : ByteArray) (i j : LL) (σ : Sto) : afun C muchD call n [(V.agg [V.int .i64 a, V.int .i64 b, V.str c, V.slice 3 74 d, V.slice 5 29 e], false), (V.agg [V.int .i64 f, V.int .i64 g, V.str h, V.slice 3 74 i, V.slice 5 29 j], false)] σ =
  muchF call a b c d e f g h i j σ := by kernel_rfl
theorem much_eq (call : CallF) (n : Nat) (a b : Int) (c : ByteArray) (d e : LL) (f g : Int) (h : ByteArray) (i j : LL) (σ : Sto) : afun C muchD call n [(V.agg [V.int .i64 a, V.int .i64 b, V.str c, V.slice 3 74 d, V.slice 5 29 e], false), (V.agg [V.int .i64 f, V.int .i64 g, V.str h, V.slice 3 74 i, V.slice 5 29 j], false)] σ = much call n a b c d e f g h i j σ := much_eqF call n a b c d e f g h i j σ
theorem much_lim {n : Nat} {a : Int} {b : Int} {c : ByteArray} {e : LL} {f : LL} {g : Int} {i : Int} {j : ByteArray} {k : LL} {o : LL} {b0 b1 : Bool} {σ : Sto} {r : Res} (h : much (lim C) n a b c e f g i j k o σ = some r) : lim C 6 [(V.agg [V.int .i64 a, V.int .i64 b, V.str c, V.slice 3 74 e, V.slice 5 29 f], b0), (V.agg [V.int .i64 g, V.int .i64 i, V.str j, V.slice 3 74 k, V.slice 5 29 o], b1)] σ = some r :=
 lim_of (d := muchD) (by kernel_rfl) (by kernel_rfl) n (show afun C muchD (lim C) n [(V.agg [V.int .i64 a, V.int .i64 b, V.str c, V.slice 3 74 e, V.slice 5 29 f], false), (V.agg [V.int .i64 g, V.int .i64 i, V.str j, V.slice 3 74 k, V.slice 5 29 o], false)] σ = some r from (much_eq (lim C) n a b c e f g i j k o σ).trans h)
noncomputable def limitF (call : CallF) (a : Int) (σ : Sto) : Option Res :=
 bif (decide (a < (0 : Int))) then
 some (.ret [((V.int .i64 (Int.tmod (wrap .i64 ((0 : Int) - (wrap .i64 (a + (1 : Int))))) (6 : Int))), false)], σ)
 else
 some (.ret [((V.int .i64 (Int.tmod a (6 : Int))), false)], σ)
noncomputable def limit (call : CallF) (n : Nat) (a : Int) (σ : Sto) : Option Res := limitF call a σ
theorem limit_eqF (call : CallF) (n : Nat) (a : Int) (σ : Sto) : afun C limitD call n [(V.int .i64 a, false)] σ =
  limitF call a σ := by kernel_rfl
theorem limit_eq (call : CallF) (n : Nat) (a : Int) (σ : Sto) : afun C limitD call n [(V.int .i64 a, false)] σ = limit call n a σ := limit_eqF call n a σ
theorem limit_lim {n : Nat} {a : Int} {b0 : Bool} {σ : Sto} {r : Res} (h : limit (lim C) n a σ = some r) : lim C 7 [(V.int .i64 a, b0)] σ = some r :=
 lim_of (d := limitD) (by kernel_rfl) (by kernel_rfl) n (show afun C limitD (lim C) n [(V.int .i64 a, false)] σ = some r from (limit_eq (lim C) n a σ).trans h)
noncomputable def tprintF (call : CallF) (a b : Int) (c : ByteArray) (d e : LL) (σ : Sto) : Option Res :=
 callK call 19 [(V.ptr 53 (List.length σ) 0, false), (V.agg [V.int .i64 a, V.int .i64 b, V.str c, V.slice 3 74 d, V.slice 5 29 e], false)] (σ ++ [[(V.nilp, false), (V.slice 1 5 [], true)]]) 0 (fun i f =>
 callK call 20 [(V.ptr 53 (List.length σ) 0, false)] f 1 (fun g h =>
 some (.ret [((getD g 0 cellD).1, false)], h)) pnK) pnK
noncomputable def tprint (call : CallF) (n : Nat) (a b : Int) (c : ByteArray) (d e : LL) (σ : Sto) : Option Res := tprintF call a b c d e σ
theorem tprint_eqF (call : CallF) (n : Nat) (a b : Int) (c : ByteArray) (d e : LL) (σ : Sto) : afun C tprintD call n [(V.agg [V.int .i64 a, V.int .i64 b, V.str c, V.slice 3 74 d, V.slice 5 29 e], false)] σ =
  tprintF call a b c d e σ := by kernel_rfl
theorem tprint_eq (call : CallF) (n : Nat) (a b : Int) (c : ByteArray) (d e : LL) (σ : Sto) : afun C tprintD call n [(V.agg [V.int .i64 a, V.int .i64 b, V.str c, V.slice 3 74 d, V.slice 5 29 e], false)] σ = tprint call n a b c d e σ := tprint_eqF call n a b c d e σ
theorem tprint_lim {n : Nat} {a : Int} {b : Int} {c : ByteArray} {e : LL} {f : LL} {b0 : Bool} {σ : Sto} {r : Res} (h : tprint (lim C) n a b c e f σ = some r) : lim C 8 [(V.agg [V.int .i64 a, V.int .i64 b, V.str c, V.slice 3 74 e, V.slice 5 29 f], b0)] σ = some r :=
 lim_of (d := tprintD) (by kernel_rfl) (by kernel_rfl) n (show afun C tprintD (lim C) n [(V.agg [V.int .i64 a, V.int .i64 b, V.str c, V.slice 3 74 e, V.slice 5 29 f], false)] σ = some r from (tprint_eq (lim C) n a b c e f σ).trans h)
noncomputable def tsubstF (call : CallF) (b c : Int) (d : ByteArray) (e f : LL) (g h : Int) (i : ByteArray) (j k : LL) (σ : Sto) : Option Res :=
 callK call 21 [(V.agg [V.int .i64 b, V.int .i64 c, V.str d, V.slice 3 74 e, V.slice 5 29 f], false), (V.slice 5 29 [[V.int .i64 g, V.int .i64 h, V.str i, V.slice 3 74 j, V.slice 5 29 k]], true)] σ 1 (fun a o =>
 (grd (V.fits (getD a 0 cellD).1 true 5)).bind fun _ =>
 some (.ret [(V.agg [V.cell (getD a 0 cellD).1 0, V.cell (getD a 0 cellD).1 1, V.cell (getD a 0 cellD).1 2, V.cell (getD a 0 cellD).1 3, V.cell (getD a 0 cellD).1 4], false)], o)) pnK
noncomputable def tsubst (call : CallF) (n : Nat) (a b : Int) (c : ByteArray) (d e : LL) (f g : Int) (h : ByteArray) (i j : LL) (σ : Sto) : Option Res := tsubstF call a b c d e f g h i j σ
theorem tsubst_eqF (call : CallF) (n : Nat) (a b : Int) (c : ByteArray) (d e : LL) (f g : Int) (h : ByteArray) (i j : LL) (σ : Sto) : afun C tsubstD call n [(V.agg [V.int .i64 a, V.int .i64 b, V.str c, V.slice 3 74 d, V.slice 5 29 e], false), (V.agg [V.int .i64 f, V.int .i64 g, V.str h, V.slice 3 74 i, V.slice 5 29 j], false)] σ =
  tsubstF call a b c d e f g h i j σ := by kernel_rfl
theorem tsubst_eq (call : CallF) (n : Nat) (a b : Int) (c : ByteArray) (d e : LL) (f g : Int) (h : ByteArray) (i j : LL) (σ : Sto) : afun C tsubstD call n [(V.agg [V.int .i64 a, V.int .i64 b, V.str c, V.slice 3 74 d, V.slice 5 29 e], false), (V.agg [V.int .i64 f, V.int .i64 g, V.str h, V.slice 3 74 i, V.slice 5 29 j], false)] σ = tsubst call n a b c d e f g h i j σ := tsubst_eqF call n a b c d e f g h i j σ
theorem tsubst_lim {n : Nat} {a : Int} {b : Int} {c : ByteArray} {e : LL} {f : LL} {g : Int} {i : Int} {j : ByteArray} {k : LL} {o : LL} {b0 b1 : Bool} {σ : Sto} {r : Res} (h : tsubst (lim C) n a b c e f g i j k o σ = some r) : lim C 9 [(V.agg [V.int .i64 a, V.int .i64 b, V.str c, V.slice 3 74 e, V.slice 5 29 f], b0), (V.agg [V.int .i64 g, V.int .i64 i, V.str j, V.slice 3 74 k, V.slice 5 29 o], b1)] σ = some r :=
 lim_of (d := tsubstD) (by kernel_rfl) (by kernel_rfl) n (show afun C tsubstD (lim C) n [(V.agg [V.int .i64 a, V.int .i64 b, V.str c, V.slice 3 74 e, V.slice 5 29 f], false), (V.agg [V.int .i64 g, V.int .i64 i, V.str j, V.slice 3 74 k, V.slice 5 29 o], false)] σ = some r from (tsubst_eq (lim C) n a b c e f g i j k o σ).trans h)
noncomputable def tapplyk0 : List Nat := [2, 4, 7, 8, 9]
noncomputable def tapplys0 (call : CallF) (rec0 : LL → Int → Int → V → V → V → V → V → Int → Int → ByteArray → LL → LL → RR) (b : LL) (d a : Int) (e f g h i : V) (j k : Int) (o : ByteArray) (p q : LL) (σ : Sto) : Option Res :=
 bif (decide (a < d)) then
 (grd (decide (0 ≤ a) && decide (a < b.length))).bind fun _ =>
 callK call 30 [((V.int .i64 (3 : Int)), false), (V.slice 5 29 [[e, f, g, h, i], [(getD (getD b a.toNat []) 0 V.any), (getD (getD b a.toNat []) 1 V.any), (getD (getD b a.toNat []) 2 V.any), (getD (getD b a.toNat []) 3 V.any), (getD (getD b a.toNat []) 4 V.any)]], true)] σ 1 (fun c r =>
 (grd (V.fits (getD c 0 cellD).1 true 5)).bind fun _ =>
 rec0 b d (wrap .i64 (a + (1 : Int))) (V.cell (getD c 0 cellD).1 0) (V.cell (getD c 0 cellD).1 1) (V.cell (getD c 0 cellD).1 2) (V.cell (getD c 0 cellD).1 3) (V.cell (getD c 0 cellD).1 4) j k o p q r) pnK
 else
 some (.ret [(V.agg [e, f, g, h, i], false)], σ)
noncomputable def tapplyl0 (call : CallF) (n : Nat) : Nat → LL → Int → Int → V → V → V → V → V → Int → Int → ByteArray → LL → LL → RR
 | 0 => fun _ _ _ _ _ _ _ _ _ _ _ _ _ _ => none
 | m + 1 => tapplys0 call (tapplyl0 call n m)
noncomputable def tapplyt0 (a : LL) (b c : Int) (d e f g h : V) (i j : Int) (k : ByteArray) (o p : LL) (σ : Sto) : St := ⟨[.dead, .dead, .lptr 2 0, .dead, .lptr 4 0, .dead, .dead, .val (V.slice 5 29 a) false, .val (V.int .i64 b) false, .val (V.int .i64 c) false] ++ dd 9 [], [[], [], [(d, false), (e, false), (f, false), (g, false), (h, false)], [], [(V.int .i64 i, false), (V.int .i64 j, false), (V.str k, false), (V.slice 3 74 o, true), (V.slice 5 29 p, true)]] ++ nn 14 [], σ⟩
noncomputable def tapplyF (call : CallF) (L0 : LL → Int → Int → V → V → V → V → V → Int → Int → ByteArray → LL → LL → RR) (b c : Int) (d : ByteArray) (e f a : LL) (σ : Sto) : Option Res :=
 L0 a (a.length : Int) (0 : Int) (V.int .i64 b) (V.int .i64 c) (V.str d) (V.slice 3 74 e) (V.slice 5 29 f) (0 : Int) (0 : Int) (ByteArray.mk #[]) [] [] σ
noncomputable def tapply (call : CallF) (n : Nat) (a b : Int) (c : ByteArray) (d e f : LL) (σ : Sto) : Option Res := tapplyF call (tapplyl0 call n n) a b c d e f σ
theorem tapplys0_eq (call : CallF) (n : Nat) (F0 : St → Option Res) (a : LL) (b c : Int) (d e f g h : V) (i j : Int) (k : ByteArray) (o p : LL) (σ : Sto) :
  aexec C tapplyH call n (cp [0,0,1,0,1] tapplyC) 0 (tapplyt0 a b c d e f g h i j k o p σ) (kloop tapplyk0 F0 (kblk 0 (kseq (fun st' => aexec C tapplyH call n (codeR (codeR tapplyC)) 0 st' (kfin C tapplyD)) (kfin C tapplyD)))) =
  tapplys0 call (fun a b c d e f g h i j k o p σ => F0 (tapplyt0 a b c d e f g h i j k o p σ)) a b c d e f g h i j k o p σ := by kernel_rfl
theorem tapplyl0_eq (call : CallF) (n : Nat) : ∀ (m : Nat) (a : LL) (b c : Int) (d e f g h : V) (i j : Int) (k : ByteArray) (o p : LL) (σ : Sto),
  aloop (fun st K => aexec C tapplyH call n (cp [0,0,1,0,1] tapplyC) 0 st K) tapplyk0 m (tapplyt0 a b c d e f g h i j k o p σ) (kblk 0 (kseq (fun st' => aexec C tapplyH call n (codeR (codeR tapplyC)) 0 st' (kfin C tapplyD)) (kfin C tapplyD))) = tapplyl0 call n m a b c d e f g h i j k o p σ
 | 0, a, b, c, d, e, f, g, h, i, j, k, o, p, σ => rfl
 | m + 1, a, b, c, d, e, f, g, h, i, j, k, o, p, σ => by
  rw [aloop, tapplys0_eq]
  simp only [tapplyl0_eq call n m]
  rfl
theorem tapply_eqF (call : CallF) (n : Nat) (a b : Int) (c : ByteArray) (d e f : LL) (σ : Sto) : afun C tapplyD call n [(V.agg [V.int .i64 a, V.int .i64 b, V.str c, V.slice 3 74 d, V.slice 5 29 e], false), (V.slice 5 29 f, false)] σ =
  tapplyF call (fun g h i j k o p q r s t u v σ => aloop (fun st K => aexec C tapplyH call n (cp [0,0,1,0,1] tapplyC) 0 st K) tapplyk0 n (tapplyt0 g h i j k o p q r s t u v σ) (kblk 0 (kseq (fun st' => aexec C tapplyH call n (codeR (codeR tapplyC)) 0 st' (kfin C tapplyD)) (kfin C tapplyD)))) a b c d e f σ := by kernel_rfl
theorem tapply_eq (call : CallF) (n : Nat) (a b : Int) (c : ByteArray) (d e f : LL) (σ : Sto) : afun C tapplyD call n [(V.agg [V.int .i64 a, V.int .i64 b, V.str c, V.slice 3 74 d, V.slice 5 29 e], false), (V.slice 5 29 f, false)] σ = tapply call n a b c d e f σ := by
 rw [tapply_eqF]
 simp only [tapplyl0_eq]
 rfl
theorem tapply_lim {n : Nat} {a : Int} {b : Int} {c : ByteArray} {e : LL} {f : LL} {g : LL} {b0 b1 : Bool} {σ : Sto} {r : Res} (h : tapply (lim C) n a b c e f g σ = some r) : lim C 13 [(V.agg [V.int .i64 a, V.int .i64 b, V.str c, V.slice 3 74 e, V.slice 5 29 f], b0), (V.slice 5 29 g, b1)] σ = some r :=
 lim_of (d := tapplyD) (by kernel_rfl) (by kernel_rfl) n (show afun C tapplyD (lim C) n [(V.agg [V.int .i64 a, V.int .i64 b, V.str c, V.slice 3 74 e, V.slice 5 29 f], false), (V.slice 5 29 g, false)] σ = some r from (tapply_eq (lim C) n a b c e f g σ).trans h)
noncomputable def tclosedF (call : CallF) (a b : Int) (c : ByteArray) (d e : LL) (f : Int) (σ : Sto) : Option Res :=
 callK call 31 [(V.agg [V.int .i64 a, V.int .i64 b, V.str c, V.slice 3 74 d, V.slice 5 29 e], false), ((V.int .i64 (0 : Int)), false), ((V.func (.func 32) [] [V.ptr 3 (List.length σ) 0]), false)] (σ ++ [[(V.int .i64 f, false)]]) 1 (fun g h =>
 (V.asBool (getD g 0 cellD).1).bind fun b4 =>
 some (.ret [(V.bool (!b4), false)], h)) pnK
noncomputable def tclosed (call : CallF) (n : Nat) (a b : Int) (c : ByteArray) (d e : LL) (f : Int) (σ : Sto) : Option Res := tclosedF call a b c d e f σ
theorem tclosed_eqF (call : CallF) (n : Nat) (a b : Int) (c : ByteArray) (d e : LL) (f : Int) (σ : Sto) : afun C tclosedD call n [(V.agg [V.int .i64 a, V.int .i64 b, V.str c, V.slice 3 74 d, V.slice 5 29 e], false), (V.int .i64 f, false)] σ =
  tclosedF call a b c d e f σ := by kernel_rfl
theorem tclosed_eq (call : CallF) (n : Nat) (a b : Int) (c : ByteArray) (d e : LL) (f : Int) (σ : Sto) : afun C tclosedD call n [(V.agg [V.int .i64 a, V.int .i64 b, V.str c, V.slice 3 74 d, V.slice 5 29 e], false), (V.int .i64 f, false)] σ = tclosed call n a b c d e f σ := tclosed_eqF call n a b c d e f σ
theorem tclosed_lim {n : Nat} {a : Int} {b : Int} {c : ByteArray} {e : LL} {f : LL} {g : Int} {b0 b1 : Bool} {σ : Sto} {r : Res} (h : tclosed (lim C) n a b c e f g σ = some r) : lim C 14 [(V.agg [V.int .i64 a, V.int .i64 b, V.str c, V.slice 3 74 e, V.slice 5 29 f], b0), (V.int .i64 g, b1)] σ = some r :=
 lim_of (d := tclosedD) (by kernel_rfl) (by kernel_rfl) n (show afun C tclosedD (lim C) n [(V.agg [V.int .i64 a, V.int .i64 b, V.str c, V.slice 3 74 e, V.slice 5 29 f], false), (V.int .i64 g, false)] σ = some r from (tclosed_eq (lim C) n a b c e f g σ).trans h)
noncomputable def parseTermF (call : CallF) (c : ByteArray) (σ : Sto) : Option Res :=
 bif (decide ((c.size : Int) > (20000 : Int))) then
 some (.ret [((V.agg [(V.int .i64 (0 : Int)), (V.int .i64 (0 : Int)), V.str ⟨#[]⟩, V.slice 3 74 [], V.slice 5 29 []]), false), ((V.agg [(V.int .i64 (2 : Int)), (V.int .i64 (0 : Int))]), false)], σ)
 else
 callK call 33 [(V.ptr 69 (List.length σ) 0, false)] (σ ++ [[(V.str c, false), ((V.int .i64 (0 : Int)), false), ((V.int .i64 (0 : Int)), false), ((V.int .i64 (0 : Int)), false)]]) 1 (fun a e =>
 (grd (V.fits (getD a 0 cellD).1 true 5)).bind fun _ =>
 callK call 34 [(V.ptr 69 (List.length σ) 0, false)] e 1 (fun b d =>
 (grd (V.fits (getD b 0 cellD).1 true 2)).bind fun _ =>
 (V.asInt (V.cell (getD b 0 cellD).1 0) .i64).bind fun i7 =>
 bif (i7 != (0 : Int)) then
 some (.ret [((V.agg [(V.int .i64 (0 : Int)), (V.int .i64 (0 : Int)), V.str ⟨#[]⟩, V.slice 3 74 [], V.slice 5 29 []]), false), (V.agg [V.cell (getD b 0 cellD).1 0, V.cell (getD b 0 cellD).1 1], false)], d)
 else
 some (.ret [(V.agg [V.cell (getD a 0 cellD).1 0, V.cell (getD a 0 cellD).1 1, V.cell (getD a 0 cellD).1 2, V.cell (getD a 0 cellD).1 3, V.cell (getD a 0 cellD).1 4], false), (V.agg [V.cell (getD b 0 cellD).1 0, V.cell (getD b 0 cellD).1 1], false)], d)) pnK) pnK
noncomputable def parseTerm (call : CallF) (n : Nat) (a : ByteArray) (σ : Sto) : Option Res := parseTermF call a σ
theorem parseTerm_eqF (call : CallF) (n : Nat) (a : ByteArray) (σ : Sto) : afun C parseTermD call n [(V.str a, false)] σ =
  parseTermF call a σ := by kernel_rfl
theorem parseTerm_eq (call : CallF) (n : Nat) (a : ByteArray) (σ : Sto) : afun C parseTermD call n [(V.str a, false)] σ = parseTerm call n a σ := parseTerm_eqF call n a σ
theorem parseTerm_lim {n : Nat} {a : ByteArray} {b0 : Bool} {σ : Sto} {r : Res} (h : parseTerm (lim C) n a σ = some r) : lim C 15 [(V.str a, b0)] σ = some r :=
 lim_of (d := parseTermD) (by kernel_rfl) (by kernel_rfl) n (show afun C parseTermD (lim C) n [(V.str a, false)] σ = some r from (parseTerm_eq (lim C) n a σ).trans h)
noncomputable def levelsFitk0 : List Nat := [1, 3]
noncomputable def levelsFitk1 : List Nat := [1, 5]
noncomputable def levelsFits1 (call : CallF) (rec1 : Int → Int → Int → ByteArray → LL → LL → RR) (a d e : Int) (f : ByteArray) (g b : LL) (σ : Sto) : Option Res :=
 bif (decide (a < (b.length : Int))) then
 (grd (decide (0 ≤ a) && decide (a < b.length))).bind fun _ =>
 callK call 16 [(V.agg [(getD (getD b a.toNat []) 0 V.any), (getD (getD b a.toNat []) 1 V.any), (getD (getD b a.toNat []) 2 V.any), (getD (getD b a.toNat []) 3 V.any), (getD (getD b a.toNat []) 4 V.any)], false)] σ 1 (fun h c =>
 (V.asBool (getD h 0 cellD).1).bind fun b4 =>
 bif (!b4) then
 some (.ret [(V.bool false, false)], c)
 else
 rec1 (wrap .i64 (a + (1 : Int))) d e f g b c) pnK
 else
 some (.ret [(V.bool true, false)], σ)
noncomputable def levelsFitl1 (call : CallF) (n : Nat) : Nat → Int → Int → Int → ByteArray → LL → LL → RR
 | 0 => fun _ _ _ _ _ _ _ => none
 | m + 1 => levelsFits1 call (levelsFitl1 call n m)
noncomputable def levelsFitt1 (a b c : Int) (d : ByteArray) (e f : LL) (σ : Sto) : St := ⟨[.dead, .lptr 1 0, .dead, .dead, .dead, .val (V.int .i64 a) false] ++ dd 31 [], [[], [(V.int .i64 b, false), (V.int .i64 c, false), (V.str d, false), (V.slice 3 74 e, false), (V.slice 5 29 f, false)]] ++ nn 35 [], σ⟩
noncomputable def levelsFits0 (call : CallF) (L1 rec0 : Int → Int → Int → ByteArray → LL → LL → RR) (a c d : Int) (e : ByteArray) (b f : LL) (σ : Sto) : Option Res :=
 bif (decide (a < (b.length : Int))) then
 (grd (decide (0 ≤ a) && decide (a < b.length))).bind fun _ =>
 callK call 35 [(V.agg [(getD (getD b a.toNat []) 0 V.any), (getD (getD b a.toNat []) 1 V.any), (getD (getD b a.toNat []) 2 V.any)], false), ((V.int .i64 (300 : Int)), false)] σ 1 (fun h g =>
 (V.asInt (getD h 0 cellD).1 .i64).bind fun i4 =>
 bif (decide (i4 > (300 : Int))) then
 some (.ret [(V.bool false, false)], g)
 else
 rec0 (wrap .i64 (a + (1 : Int))) c d e b f g) pnK
 else
 L1 (0 : Int) c d e b f σ
noncomputable def levelsFitl0 (call : CallF) (n : Nat) : Nat → Int → Int → Int → ByteArray → LL → LL → RR
 | 0 => fun _ _ _ _ _ _ _ => none
 | m + 1 => levelsFits0 call (levelsFitl1 call n n) (levelsFitl0 call n m)
noncomputable def levelsFitt0 (a b c : Int) (d : ByteArray) (e f : LL) (σ : Sto) : St := ⟨[.dead, .lptr 1 0, .dead, .val (V.int .i64 a) false] ++ dd 33 [], [[], [(V.int .i64 b, false), (V.int .i64 c, false), (V.str d, false), (V.slice 3 74 e, false), (V.slice 5 29 f, false)]] ++ nn 35 [], σ⟩
noncomputable def levelsFitF (call : CallF) (L0 : Int → Int → Int → ByteArray → LL → LL → RR) (a b : Int) (c : ByteArray) (d e : LL) (σ : Sto) : Option Res :=
 L0 (0 : Int) a b c d e σ
noncomputable def levelsFit (call : CallF) (n : Nat) (a b : Int) (c : ByteArray) (d e : LL) (σ : Sto) : Option Res := levelsFitF call (levelsFitl0 call n n) a b c d e σ
theorem levelsFits1_eq (call : CallF) (n : Nat) (F1 : St → Option Res) (a b c : Int) (d : ByteArray) (e f : LL) (σ : Sto) :
  aexec C levelsFitH call n (cp [0,0,1,0,1,1] levelsFitC) 0 (levelsFitt1 a b c d e f σ) (kloop levelsFitk1 F1 (kblk 2 (kseq (fun st' => aexec C levelsFitH call n (cp [1,1,1] levelsFitC) 0 st' (kfin C levelsFitD)) (kfin C levelsFitD)))) =
  levelsFits1 call (fun a b c d e f σ => F1 (levelsFitt1 a b c d e f σ)) a b c d e f σ := by kernel_rfl
theorem levelsFitl1_eq (call : CallF) (n : Nat) : ∀ (m : Nat) (a b c : Int) (d : ByteArray) (e f : LL) (σ : Sto),
  aloop (fun st K => aexec C levelsFitH call n (cp [0,0,1,0,1,1] levelsFitC) 0 st K) levelsFitk1 m (levelsFitt1 a b c d e f σ) (kblk 2 (kseq (fun st' => aexec C levelsFitH call n (cp [1,1,1] levelsFitC) 0 st' (kfin C levelsFitD)) (kfin C levelsFitD))) = levelsFitl1 call n m a b c d e f σ
 | 0, a, b, c, d, e, f, σ => rfl
 | m + 1, a, b, c, d, e, f, σ => by
  rw [aloop, levelsFits1_eq]
  simp only [levelsFitl1_eq call n m]
  rfl
theorem levelsFits0_eq (call : CallF) (n : Nat) (F0 : St → Option Res) (f a b : Int) (c : ByteArray) (d e : LL) (σ : Sto) :
  aexec C levelsFitH call n (cp [0,0,1,0,1] levelsFitC) 0 (levelsFitt0 f a b c d e σ) (kloop levelsFitk0 F0 (kblk 0 (kseq (fun st' => aexec C levelsFitH call n (codeR (codeR levelsFitC)) 0 st' (kfin C levelsFitD)) (kfin C levelsFitD)))) =
  levelsFits0 call (fun g a b c d e σ => aloop (fun st K => aexec C levelsFitH call n (cp [0,0,1,0,1,1] levelsFitC) 0 st K) levelsFitk1 n (levelsFitt1 g a b c d e σ) (kblk 2 (kseq (fun st' => aexec C levelsFitH call n (cp [1,1,1] levelsFitC) 0 st' (kfin C levelsFitD)) (kfin C levelsFitD)))) (fun f a b c d e σ => F0 (levelsFitt0 f a b c d e σ)) f a b c d e σ := by kernel_rfl
theorem levelsFitl0_eq (call : CallF) (n : Nat) : ∀ (m : Nat) (a b c : Int) (d : ByteArray) (e f : LL) (σ : Sto),
  aloop (fun st K => aexec C levelsFitH call n (cp [0,0,1,0,1] levelsFitC) 0 st K) levelsFitk0 m (levelsFitt0 a b c d e f σ) (kblk 0 (kseq (fun st' => aexec C levelsFitH call n (codeR (codeR levelsFitC)) 0 st' (kfin C levelsFitD)) (kfin C levelsFitD))) = levelsFitl0 call n m a b c d e f σ
 | 0, a, b, c, d, e, f, σ => rfl
 | m + 1, a, b, c, d, e, f, σ => by
  rw [aloop, levelsFits0_eq]
  simp only [levelsFitl0_eq call n m, levelsFitl1_eq]
  rfl
theorem levelsFit_eqF (call : CallF) (n : Nat) (a b : Int) (c : ByteArray) (d e : LL) (σ : Sto) : afun C levelsFitD call n [(V.agg [V.int .i64 a, V.int .i64 b, V.str c, V.slice 3 74 d, V.slice 5 29 e], false)] σ =
  levelsFitF call (fun f g h i j k σ => aloop (fun st K => aexec C levelsFitH call n (cp [0,0,1,0,1] levelsFitC) 0 st K) levelsFitk0 n (levelsFitt0 f g h i j k σ) (kblk 0 (kseq (fun st' => aexec C levelsFitH call n (codeR (codeR levelsFitC)) 0 st' (kfin C levelsFitD)) (kfin C levelsFitD)))) a b c d e σ := by kernel_rfl
theorem levelsFit_eq (call : CallF) (n : Nat) (a b : Int) (c : ByteArray) (d e : LL) (σ : Sto) : afun C levelsFitD call n [(V.agg [V.int .i64 a, V.int .i64 b, V.str c, V.slice 3 74 d, V.slice 5 29 e], false)] σ = levelsFit call n a b c d e σ := by
 rw [levelsFit_eqF]
 simp only [levelsFitl0_eq]
 rfl
theorem levelsFit_lim {n : Nat} {a : Int} {b : Int} {c : ByteArray} {e : LL} {f : LL} {b0 : Bool} {σ : Sto} {r : Res} (h : levelsFit (lim C) n a b c e f σ = some r) : lim C 16 [(V.agg [V.int .i64 a, V.int .i64 b, V.str c, V.slice 3 74 e, V.slice 5 29 f], b0)] σ = some r :=
 lim_of (d := levelsFitD) (by kernel_rfl) (by kernel_rfl) n (show afun C levelsFitD (lim C) n [(V.agg [V.int .i64 a, V.int .i64 b, V.str c, V.slice 3 74 e, V.slice 5 29 f], false)] σ = some r from (levelsFit_eq (lim C) n a b c e f σ).trans h)
noncomputable def rpartsk0 : List Nat := [1, 2, 5, 6, 40, 41, 42]
noncomputable def rpartsk1 : List Nat := [1, 2, 5, 8]
noncomputable def rpartss1 (call : CallF) (rec1 : Int → Int → Int → Int → Int → ByteArray → LL → LL → RR) (d c a e f : Int) (g : ByteArray) (h b : LL) (σ : Sto) : Option Res :=
 bif (decide (a < (b.length : Int))) then
 bif (decide (c ≤ d)) then
 (grd (decide (0 ≤ a) && decide (a < b.length))).bind fun _ =>
 callK call 17 [(V.agg [(getD (getD b a.toNat []) 0 V.any), (getD (getD b a.toNat []) 1 V.any), (getD (getD b a.toNat []) 2 V.any), (getD (getD b a.toNat []) 3 V.any), (getD (getD b a.toNat []) 4 V.any)], false), (V.int .i64 (wrap .i64 (d - c)), false)] σ 1 (fun i j =>
 (V.asInt (getD i 0 cellD).1 .i64).bind fun i4 =>
 rec1 d (wrap .i64 (c + i4)) (wrap .i64 (a + (1 : Int))) e f g h b j) pnK
 else
 some (.ret [(V.int .i64 c, false)], σ)
 else
 some (.ret [(V.int .i64 c, false)], σ)
noncomputable def rpartsl1 (call : CallF) (n : Nat) : Nat → Int → Int → Int → Int → Int → ByteArray → LL → LL → RR
 | 0 => fun _ _ _ _ _ _ _ _ _ => none
 | m + 1 => rpartss1 call (rpartsl1 call n m)
noncomputable def rpartst1 (a b c d e : Int) (f : ByteArray) (g h : LL) (σ : Sto) : St := ⟨[.dead, .val (V.int .i64 a) false, .lptr 2 0, .dead, .dead, .val (V.int .i64 b) false, .dead, .dead, .val (V.int .i64 c) false] ++ dd 50 [], [[], [], [(V.int .i64 d, false), (V.int .i64 e, false), (V.str f, false), (V.slice 3 74 g, false), (V.slice 5 29 h, false)]] ++ nn 56 [], σ⟩
noncomputable def rpartss0 (call : CallF) (L1 rec0 : Int → Int → Int → Int → Int → ByteArray → LL → LL → RR) (c d b e f : Int) (g : ByteArray) (a h : LL) (σ : Sto) : Option Res :=
 bif (decide (b < (a.length : Int))) then
 bif (decide (d ≤ c)) then
 (grd (decide (0 ≤ b) && decide (b < a.length))).bind fun _ =>
 callK call 35 [(V.agg [(getD (getD a b.toNat []) 0 V.any), (getD (getD a b.toNat []) 1 V.any), (getD (getD a b.toNat []) 2 V.any)], false), (V.int .i64 (wrap .i64 (c - d)), false)] σ 1 (fun i j =>
 (V.asInt (getD i 0 cellD).1 .i64).bind fun i4 =>
 rec0 c (wrap .i64 (d + i4)) (wrap .i64 (b + (1 : Int))) e f g a h j) pnK
 else
 L1 c d (0 : Int) e f g a h σ
 else
 L1 c d (0 : Int) e f g a h σ
noncomputable def rpartsl0 (call : CallF) (n : Nat) : Nat → Int → Int → Int → Int → Int → ByteArray → LL → LL → RR
 | 0 => fun _ _ _ _ _ _ _ _ _ => none
 | m + 1 => rpartss0 call (rpartsl1 call n n) (rpartsl0 call n m)
noncomputable def rpartst0 (a b c d e : Int) (f : ByteArray) (g h : LL) (σ : Sto) : St := ⟨[.dead, .val (V.int .i64 a) false, .lptr 2 0, .dead, .dead, .val (V.int .i64 b) false, .val (V.int .i64 c) false] ++ dd 52 [], [[], [], [(V.int .i64 d, false), (V.int .i64 e, false), (V.str f, false), (V.slice 3 74 g, false), (V.slice 5 29 h, false)]] ++ nn 56 [], σ⟩
noncomputable def rpartsF (call : CallF) (L0 : Int → Int → Int → Int → Int → ByteArray → LL → LL → RR) (a b : Int) (c : ByteArray) (d e : LL) (f : Int) (σ : Sto) : Option Res :=
 L0 f (1 : Int) (0 : Int) a b c d e σ
noncomputable def rparts (call : CallF) (n : Nat) (a b : Int) (c : ByteArray) (d e : LL) (f : Int) (σ : Sto) : Option Res := rpartsF call (rpartsl0 call n n) a b c d e f σ
theorem rpartss1_eq (call : CallF) (n : Nat) (F1 : St → Option Res) (a b c d e : Int) (f : ByteArray) (g h : LL) (σ : Sto) :
  aexec C rpartsH call n (cp [0,0,1,0,1,1,1] rpartsC) 0 (rpartst1 a b c d e f g h σ) (kloop rpartsk1 F1 (kblk 2 (kseq (fun st' => aexec C rpartsH call n (cp [1,1,1,1] rpartsC) 0 st' (kfin C rpartsD)) (kfin C rpartsD)))) =
  rpartss1 call (fun a b c d e f g h σ => F1 (rpartst1 a b c d e f g h σ)) a b c d e f g h σ := by kernel_rfl
theorem rpartsl1_eq (call : CallF) (n : Nat) : ∀ (m : Nat) (a b c d e : Int) (f : ByteArray) (g h : LL) (σ : Sto),
  aloop (fun st K => aexec C rpartsH call n (cp [0,0,1,0,1,1,1] rpartsC) 0 st K) rpartsk1 m (rpartst1 a b c d e f g h σ) (kblk 2 (kseq (fun st' => aexec C rpartsH call n (cp [1,1,1,1] rpartsC) 0 st' (kfin C rpartsD)) (kfin C rpartsD))) = rpartsl1 call n m a b c d e f g h σ
 | 0, a, b, c, d, e, f, g, h, σ => rfl
 | m + 1, a, b, c, d, e, f, g, h, σ => by
  rw [aloop, rpartss1_eq]
  simp only [rpartsl1_eq call n m]
  rfl
theorem rpartss0_eq (call : CallF) (n : Nat) (F0 : St → Option Res) (a b h c d : Int) (e : ByteArray) (f g : LL) (σ : Sto) :
  aexec C rpartsH call n (cp [0,0,1,0,1,1] rpartsC) 0 (rpartst0 a b h c d e f g σ) (kloop rpartsk0 F0 (kblk 0 (kseq (fun st' => aexec C rpartsH call n (cp [1,1,1] rpartsC) 0 st' (kfin C rpartsD)) (kfin C rpartsD)))) =
  rpartss0 call (fun a b i c d e f g σ => aloop (fun st K => aexec C rpartsH call n (cp [0,0,1,0,1,1,1] rpartsC) 0 st K) rpartsk1 n (rpartst1 a b i c d e f g σ) (kblk 2 (kseq (fun st' => aexec C rpartsH call n (cp [1,1,1,1] rpartsC) 0 st' (kfin C rpartsD)) (kfin C rpartsD)))) (fun a b h c d e f g σ => F0 (rpartst0 a b h c d e f g σ)) a b h c d e f g σ := by kernel_rfl
theorem rpartsl0_eq (call : CallF) (n : Nat) : ∀ (m : Nat) (a b c d e : Int) (f : ByteArray) (g h : LL) (σ : Sto),
  aloop (fun st K => aexec C rpartsH call n (cp [0,0,1,0,1,1] rpartsC) 0 st K) rpartsk0 m (rpartst0 a b c d e f g h σ) (kblk 0 (kseq (fun st' => aexec C rpartsH call n (cp [1,1,1] rpartsC) 0 st' (kfin C rpartsD)) (kfin C rpartsD))) = rpartsl0 call n m a b c d e f g h σ
 | 0, a, b, c, d, e, f, g, h, σ => rfl
 | m + 1, a, b, c, d, e, f, g, h, σ => by
  rw [aloop, rpartss0_eq]
  simp only [rpartsl0_eq call n m, rpartsl1_eq]
  rfl
theorem rparts_eqF (call : CallF) (n : Nat) (b c : Int) (d : ByteArray) (e f : LL) (a : Int) (σ : Sto) : afun C rpartsD call n [(V.agg [V.int .i64 b, V.int .i64 c, V.str d, V.slice 3 74 e, V.slice 5 29 f], false), (V.int .i64 a, false)] σ =
  rpartsF call (fun a g h i j k o p σ => aloop (fun st K => aexec C rpartsH call n (cp [0,0,1,0,1,1] rpartsC) 0 st K) rpartsk0 n (rpartst0 a g h i j k o p σ) (kblk 0 (kseq (fun st' => aexec C rpartsH call n (cp [1,1,1] rpartsC) 0 st' (kfin C rpartsD)) (kfin C rpartsD)))) b c d e f a σ := by kernel_rfl
theorem rparts_eq (call : CallF) (n : Nat) (a b : Int) (c : ByteArray) (d e : LL) (f : Int) (σ : Sto) : afun C rpartsD call n [(V.agg [V.int .i64 a, V.int .i64 b, V.str c, V.slice 3 74 d, V.slice 5 29 e], false), (V.int .i64 f, false)] σ = rparts call n a b c d e f σ := by
 rw [rparts_eqF]
 simp only [rpartsl0_eq]
 rfl
theorem rparts_lim {n : Nat} {a : Int} {b : Int} {c : ByteArray} {e : LL} {f : LL} {g : Int} {b0 b1 : Bool} {σ : Sto} {r : Res} (h : rparts (lim C) n a b c e f g σ = some r) : lim C 17 [(V.agg [V.int .i64 a, V.int .i64 b, V.str c, V.slice 3 74 e, V.slice 5 29 f], b0), (V.int .i64 g, b1)] σ = some r :=
 lim_of (d := rpartsD) (by kernel_rfl) (by kernel_rfl) n (show afun C rpartsD (lim C) n [(V.agg [V.int .i64 a, V.int .i64 b, V.str c, V.slice 3 74 e, V.slice 5 29 f], false), (V.int .i64 g, false)] σ = some r from (rparts_eq (lim C) n a b c e f g σ).trans h)
end Go.Ab.Mk
end
section
set_option maxRecDepth 100000
namespace Go.Ab.Mk
open Go.Proofs Go.Ab
open List (getD)
open IntKind (wrap)
noncomputable def rusesk0 : List Nat := [1, 2, 5, 6]
noncomputable def rusess0 (call : CallF) (rec0 : Int → Int → Int → Int → Int → ByteArray → LL → LL → RR) (c d a e f : Int) (g : ByteArray) (h b : LL) (σ : Sto) : Option Res :=
 bif (decide (a < (b.length : Int))) then
 callK call 36 [(V.agg [V.int .i64 e, V.int .i64 f, V.str g, V.slice 3 74 h, V.slice 5 29 b], false), (V.int .i64 a, false)] σ 1 (fun j i =>
 (V.asBool (getD j 0 cellD).1).bind fun b4 =>
 bif b4 then
 (grd (decide (0 ≤ a) && decide (a < b.length))).bind fun _ =>
 callK call 18 [(V.agg [(getD (getD b a.toNat []) 0 V.any), (getD (getD b a.toNat []) 1 V.any), (getD (getD b a.toNat []) 2 V.any), (getD (getD b a.toNat []) 3 V.any), (getD (getD b a.toNat []) 4 V.any)], false), ((V.int .i64 (wrap .i64 (c + (1 : Int)))), false)] i 1 (fun k o =>
 (V.asInt (getD k 0 cellD).1 .i64).bind fun i8 =>
 rec0 c (wrap .i64 (d + i8)) (wrap .i64 (a + (1 : Int))) e f g h b o) pnK
 else
 (grd (decide (0 ≤ a) && decide (a < b.length))).bind fun _ =>
 callK call 18 [(V.agg [(getD (getD b a.toNat []) 0 V.any), (getD (getD b a.toNat []) 1 V.any), (getD (getD b a.toNat []) 2 V.any), (getD (getD b a.toNat []) 3 V.any), (getD (getD b a.toNat []) 4 V.any)], false), (V.int .i64 c, false)] i 1 (fun p q =>
 (V.asInt (getD p 0 cellD).1 .i64).bind fun i12 =>
 rec0 c (wrap .i64 (d + i12)) (wrap .i64 (a + (1 : Int))) e f g h b q) pnK) pnK
 else
 some (.ret [(V.int .i64 d, false)], σ)
noncomputable def rusesl0 (call : CallF) (n : Nat) : Nat → Int → Int → Int → Int → Int → ByteArray → LL → LL → RR
 | 0 => fun _ _ _ _ _ _ _ _ _ => none
 | m + 1 => rusess0 call (rusesl0 call n m)
noncomputable def rusest0 (a b c d e : Int) (f : ByteArray) (g h : LL) (σ : Sto) : St := ⟨[.dead, .val (V.int .i64 a) false, .lptr 2 0, .dead, .dead, .val (V.int .i64 b) false, .val (V.int .i64 c) false] ++ dd 35 [], [[], [], [(V.int .i64 d, false), (V.int .i64 e, false), (V.str f, false), (V.slice 3 74 g, false), (V.slice 5 29 h, false)]] ++ nn 39 [], σ⟩
noncomputable def rusesF (call : CallF) (L0 : Int → Int → Int → Int → Int → ByteArray → LL → LL → RR) (a b : Int) (d : ByteArray) (e f : LL) (c : Int) (σ : Sto) : Option Res :=
 bif (a == (0 : Int)) then
 bif (b == c) then
 some (.ret [((V.int .i64 (1 : Int)), false)], σ)
 else
 L0 c (0 : Int) (0 : Int) a b d e f σ
 else
 L0 c (0 : Int) (0 : Int) a b d e f σ
noncomputable def ruses (call : CallF) (n : Nat) (a b : Int) (c : ByteArray) (d e : LL) (f : Int) (σ : Sto) : Option Res := rusesF call (rusesl0 call n n) a b c d e f σ
theorem rusess0_eq (call : CallF) (n : Nat) (F0 : St → Option Res) (a b c d e : Int) (f : ByteArray) (g h : LL) (σ : Sto) :
  aexec C rusesH call n (cp [0,0,1,0,1,1,1] rusesC) 0 (rusest0 a b c d e f g h σ) (kloop rusesk0 F0 (kblk 0 (kseq (fun st' => aexec C rusesH call n (cp [1,1,1,1] rusesC) 0 st' (kfin C rusesD)) (kfin C rusesD)))) =
  rusess0 call (fun a b c d e f g h σ => F0 (rusest0 a b c d e f g h σ)) a b c d e f g h σ := by kernel_rfl
theorem rusesl0_eq (call : CallF) (n : Nat) : ∀ (m : Nat) (a b c d e : Int) (f : ByteArray) (g h : LL) (σ : Sto),
  aloop (fun st K => aexec C rusesH call n (cp [0,0,1,0,1,1,1] rusesC) 0 st K) rusesk0 m (rusest0 a b c d e f g h σ) (kblk 0 (kseq (fun st' => aexec C rusesH call n (cp [1,1,1,1] rusesC) 0 st' (kfin C rusesD)) (kfin C rusesD))) = rusesl0 call n m a b c d e f g h σ
 | 0, a, b, c, d, e, f, g, h, σ => rfl
 | m + 1, a, b, c, d, e, f, g, h, σ => by
  rw [aloop, rusess0_eq]
  simp only [rusesl0_eq call n m]
  rfl
theorem ruses_eqF (call : CallF) (n : Nat) (a b : Int) (c : ByteArray) (d e : LL) (f : Int) (σ : Sto) : afun C rusesD call n [(V.agg [V.int .i64 a, V.int .i64 b, V.str c, V.slice 3 74 d, V.slice 5 29 e], false), (V.int .i64 f, false)] σ =
  rusesF call (fun g h i j k o p q σ => aloop (fun st K => aexec C rusesH call n (cp [0,0,1,0,1,1,1] rusesC) 0 st K) rusesk0 n (rusest0 g h i j k o p q σ) (kblk 0 (kseq (fun st' => aexec C rusesH call n (cp [1,1,1,1] rusesC) 0 st' (kfin C rusesD)) (kfin C rusesD)))) a b c d e f σ := by kernel_rfl
theorem ruses_eq (call : CallF) (n : Nat) (a b : Int) (c : ByteArray) (d e : LL) (f : Int) (σ : Sto) : afun C rusesD call n [(V.agg [V.int .i64 a, V.int .i64 b, V.str c, V.slice 3 74 d, V.slice 5 29 e], false), (V.int .i64 f, false)] σ = ruses call n a b c d e f σ := by
 rw [ruses_eqF]
 simp only [rusesl0_eq]
 rfl
theorem ruses_lim {n : Nat} {a : Int} {b : Int} {c : ByteArray} {e : LL} {f : LL} {g : Int} {b0 b1 : Bool} {σ : Sto} {r : Res} (h : ruses (lim C) n a b c e f g σ = some r) : lim C 18 [(V.agg [V.int .i64 a, V.int .i64 b, V.str c, V.slice 3 74 e, V.slice 5 29 f], b0), (V.int .i64 g, b1)] σ = some r :=
 lim_of (d := rusesD) (by kernel_rfl) (by kernel_rfl) n (show afun C rusesD (lim C) n [(V.agg [V.int .i64 a, V.int .i64 b, V.str c, V.slice 3 74 e, V.slice 5 29 f], false), (V.int .i64 g, false)] σ = some r from (ruses_eq (lim C) n a b c e f g σ).trans h)
noncomputable def twritek0 : List Nat := [0, 3, 33, 34, 35]
noncomputable def twritek1 : List Nat := [0, 46, 47, 48]
noncomputable def twrites1 (call : CallF) (rec1 : Nat → LL → Int → Int → RR) (c : Nat) (b : LL) (d a : Int) (σ : Sto) : Option Res :=
 bif (decide (a < d)) then
 (grd (decide (0 ≤ a) && decide (a < b.length))).bind fun _ =>
 callK call 40 [(V.ptr 53 c 0, false), ((V.int .u8 (32 : Int)), false)] σ 1 (fun h e =>
 callK call 19 [(V.ptr 53 c 0, false), (V.agg [(getD (getD b a.toNat []) 0 V.any), (getD (getD b a.toNat []) 1 V.any), (getD (getD b a.toNat []) 2 V.any), (getD (getD b a.toNat []) 3 V.any), (getD (getD b a.toNat []) 4 V.any)], false)] e 0 (fun i f =>
 rec1 c b d (wrap .i64 (a + (1 : Int))) f) pnK) pnK
 else
 callK call 40 [(V.ptr 53 c 0, false), ((V.int .u8 (41 : Int)), false)] σ 1 (fun j g =>
 some (.ret [], g)) pnK
noncomputable def twritel1 (call : CallF) (n : Nat) : Nat → Nat → LL → Int → Int → RR
 | 0 => fun _ _ _ _ _ => none
 | m + 1 => twrites1 call (twritel1 call n m)
noncomputable def twritet1 (a : Nat) (b : LL) (c d : Int) (σ : Sto) : St := ⟨[.val (V.ptr 53 a 0) false] ++ dd 45 ([.val (V.slice 5 29 b) false, .val (V.int .i64 c) false, .val (V.int .i64 d) false] ++ dd 11 []), nn 60 [], σ⟩
noncomputable def twrites0 (call : CallF) (L1 : Nat → LL → Int → Int → RR) (rec0 : Nat → LL → Int → Int → Int → Int → ByteArray → LL → LL → RR) (c : Nat) (b : LL) (e a f g : Int) (h : ByteArray) (i d : LL) (σ : Sto) : Option Res :=
 bif (decide (a < e)) then
 (grd (decide (0 ≤ a) && decide (a < b.length))).bind fun _ =>
 callK call 39 [(V.agg [(getD (getD b a.toNat []) 0 V.any), (getD (getD b a.toNat []) 1 V.any), (getD (getD b a.toNat []) 2 V.any)], false)] σ 1 (fun j k =>
 (V.asStr (getD j 0 cellD).1).bind fun s4 =>
 (grd (strRoom (ByteArray.mk #[32]) s4)).bind fun _ =>
 callK call 37 [(V.ptr 53 c 0, false), (V.str ((ByteArray.mk #[32]) ++ s4), false)] k 2 (fun p o =>
 rec0 c b e (wrap .i64 (a + (1 : Int))) f g h i d o) pnK) pnK
 else
 L1 c d (d.length : Int) (0 : Int) σ
noncomputable def twritel0 (call : CallF) (n : Nat) : Nat → Nat → LL → Int → Int → Int → Int → ByteArray → LL → LL → RR
 | 0 => fun _ _ _ _ _ _ _ _ _ _ => none
 | m + 1 => twrites0 call (twritel1 call n n) (twritel0 call n m)
noncomputable def twritet0 (a : Nat) (b : LL) (c d e f : Int) (g : ByteArray) (h i : LL) (σ : Sto) : St := ⟨[.val (V.ptr 53 a 0) false, .dead, .dead, .lptr 3 0] ++ dd 29 ([.val (V.slice 3 74 b) false, .val (V.int .i64 c) false, .val (V.int .i64 d) false] ++ dd 24 []), [[], [], [], [(V.int .i64 e, false), (V.int .i64 f, false), (V.str g, false), (V.slice 3 74 h, false), (V.slice 5 29 i, false)]] ++ nn 56 [], σ⟩
noncomputable def twriteF (call : CallF) (L0 : Nat → LL → Int → Int → Int → Int → ByteArray → LL → LL → RR) (c : Nat) (a e : Int) (d : ByteArray) (b f : LL) (σ : Sto) : Option Res :=
 bif (a == (0 : Int)) then
 callK call 38 [(V.int .i64 e, false)] σ 1 (fun h i =>
 (V.asStr (getD h 0 cellD).1).bind fun s4 =>
 (grd (strRoom (ByteArray.mk #[35]) s4)).bind fun _ =>
 callK call 37 [(V.ptr 53 c 0, false), (V.str ((ByteArray.mk #[35]) ++ s4), false)] i 2 (fun o j =>
 some (.ret [], j)) pnK) pnK
 else
 (grd (decide (0 ≤ a) && decide (a < 7))).bind fun _ =>
 (memGet [] (V.eptr 7 [V.str ⟨#[]⟩, V.str ⟨#[115, 111, 114, 116]⟩, V.str ⟨#[99, 111, 110, 115, 116]⟩, V.str ⟨#[97, 112, 112]⟩, V.str ⟨#[108, 97, 109]⟩, V.str ⟨#[112, 105]⟩, V.str ⟨#[108, 101, 116]⟩] (0 + Int.toNat a * 1)) false 1).bind fun m8 =>
 (V.asStr m8).bind fun s9 =>
 (grd (strRoom (ByteArray.mk #[40]) s9)).bind fun _ =>
 callK call 37 [(V.ptr 53 c 0, false), (V.str ((ByteArray.mk #[40]) ++ s9), false)] σ 2 (fun p g =>
 bif (a == (2 : Int)) then
 (grd (strRoom (ByteArray.mk #[32]) d)).bind fun _ =>
 callK call 37 [(V.ptr 53 c 0, false), (V.str ((ByteArray.mk #[32]) ++ d), false)] g 2 (fun q k =>
 L0 c b (b.length : Int) (0 : Int) a e d b f k) pnK
 else
 L0 c b (b.length : Int) (0 : Int) a e d b f g) pnK
noncomputable def twrite (call : CallF) (n a : Nat) (b c : Int) (d : ByteArray) (e f : LL) (σ : Sto) : Option Res := twriteF call (twritel0 call n n) a b c d e f σ
theorem twrites1_eq (call : CallF) (n : Nat) (F1 : St → Option Res) (a : Nat) (b : LL) (c d : Int) (σ : Sto) :
  aexec C twriteH call n (cp [0,0,1,0,1,1,1,1,1] twriteC) 0 (twritet1 a b c d σ) (kloop twritek1 F1 (kblk 2 (kseq (fun st' => aexec C twriteH call n (cp [1,1,1,1,1,1] twriteC) 0 st' (kfin C twriteD)) (kfin C twriteD)))) =
  twrites1 call (fun a b c d σ => F1 (twritet1 a b c d σ)) a b c d σ := by kernel_rfl
theorem twritel1_eq (call : CallF) (n : Nat) : ∀ (m a : Nat) (b : LL) (c d : Int) (σ : Sto),
  aloop (fun st K => aexec C twriteH call n (cp [0,0,1,0,1,1,1,1,1] twriteC) 0 st K) twritek1 m (twritet1 a b c d σ) (kblk 2 (kseq (fun st' => aexec C twriteH call n (cp [1,1,1,1,1,1] twriteC) 0 st' (kfin C twriteD)) (kfin C twriteD))) = twritel1 call n m a b c d σ
 | 0, a, b, c, d, σ => rfl
 | m + 1, a, b, c, d, σ => by
  rw [aloop, twrites1_eq]
  simp only [twritel1_eq call n m]
  rfl
theorem twrites0_eq (call : CallF) (n : Nat) (F0 : St → Option Res) (a : Nat) (b : LL) (c d e f : Int) (g : ByteArray) (h i : LL) (σ : Sto) :
  aexec C twriteH call n (cp [0,0,1,0,1,1,1,1] twriteC) 0 (twritet0 a b c d e f g h i σ) (kloop twritek0 F0 (kblk 0 (kseq (fun st' => aexec C twriteH call n (cp [1,1,1,1,1] twriteC) 0 st' (kfin C twriteD)) (kfin C twriteD)))) =
  twrites0 call (fun a j k o σ => aloop (fun st K => aexec C twriteH call n (cp [0,0,1,0,1,1,1,1,1] twriteC) 0 st K) twritek1 n (twritet1 a j k o σ) (kblk 2 (kseq (fun st' => aexec C twriteH call n (cp [1,1,1,1,1,1] twriteC) 0 st' (kfin C twriteD)) (kfin C twriteD)))) (fun a b c d e f g h i σ => F0 (twritet0 a b c d e f g h i σ)) a b c d e f g h i σ := by kernel_rfl
theorem twritel0_eq (call : CallF) (n : Nat) : ∀ (m a : Nat) (b : LL) (c d e f : Int) (g : ByteArray) (h i : LL) (σ : Sto),
  aloop (fun st K => aexec C twriteH call n (cp [0,0,1,0,1,1,1,1] twriteC) 0 st K) twritek0 m (twritet0 a b c d e f g h i σ) (kblk 0 (kseq (fun st' => aexec C twriteH call n (cp [1,1,1,1,1] twriteC) 0 st' (kfin C twriteD)) (kfin C twriteD))) = twritel0 call n m a b c d e f g h i σ
 | 0, a, b, c, d, e, f, g, h, i, σ => rfl
 | m + 1, a, b, c, d, e, f, g, h, i, σ => by
  rw [aloop, twrites0_eq]
  simp only [twritel0_eq call n m, twritel1_eq]
  rfl
theorem twrite_eqF (call : CallF) (n a : Nat) (b c : Int) (d : ByteArray) (e f : LL) (σ : Sto) : afun C twriteD call n [(V.ptr 53 a 0, false), (V.agg [V.int .i64 b, V.int .i64 c, V.str d, V.slice 3 74 e, V.slice 5 29 f], false)] σ =
  twriteF call (fun a g h i j k o p q σ => aloop (fun st K => aexec C twriteH call n (cp [0,0,1,0,1,1,1,1] twriteC) 0 st K) twritek0 n (twritet0 a g h i j k o p q σ) (kblk 0 (kseq (fun st' => aexec C twriteH call n (cp [1,1,1,1,1] twriteC) 0 st' (kfin C twriteD)) (kfin C twriteD)))) a b c d e f σ := by kernel_rfl
theorem twrite_eq (call : CallF) (n a : Nat) (b c : Int) (d : ByteArray) (e f : LL) (σ : Sto) : afun C twriteD call n [(V.ptr 53 a 0, false), (V.agg [V.int .i64 b, V.int .i64 c, V.str d, V.slice 3 74 e, V.slice 5 29 f], false)] σ = twrite call n a b c d e f σ := by
 rw [twrite_eqF]
 simp only [twritel0_eq]
 rfl
theorem twrite_lim {n : Nat} {a : Nat} {b : Int} {c : Int} {e : ByteArray} {f : LL} {g : LL} {b0 b1 : Bool} {σ : Sto} {r : Res} (h : twrite (lim C) n a b c e f g σ = some r) : lim C 19 [(V.ptr 53 a 0, b0), (V.agg [V.int .i64 b, V.int .i64 c, V.str e, V.slice 3 74 f, V.slice 5 29 g], b1)] σ = some r :=
 lim_of (d := twriteD) (by kernel_rfl) (by kernel_rfl) n (show afun C twriteD (lim C) n [(V.ptr 53 a 0, false), (V.agg [V.int .i64 b, V.int .i64 c, V.str e, V.slice 3 74 f, V.slice 5 29 g], false)] σ = some r from (twrite_eq (lim C) n a b c e f g σ).trans h)
noncomputable def instF (call : CallF) (c d : Int) (e : ByteArray) (f g b : LL) (σ : Sto) : Option Res :=
 (memGet (σ ++ [[(V.slice 5 29 b, false)]]) (V.ptr 27 (List.length σ) 0) false 1).bind fun m1 =>
 (V.asSlice m1 5 29).bind fun l2 =>
 bif ((l2.length : Int) == (0 : Int)) then
 some (.ret [(V.agg [V.int .i64 c, V.int .i64 d, V.str e, V.slice 3 74 f, V.slice 5 29 g], false)], (σ ++ [[(V.slice 5 29 b, false)]]))
 else
 callK call 22 [(V.agg [V.int .i64 c, V.int .i64 d, V.str e, V.slice 3 74 f, V.slice 5 29 g], false), ((V.func (.func 41) [] [V.ptr 27 (List.length σ) 0]), false)] (σ ++ [[(V.slice 5 29 b, false)]]) 1 (fun a h =>
 (grd (V.fits (getD a 0 cellD).1 true 5)).bind fun _ =>
 some (.ret [(V.agg [V.cell (getD a 0 cellD).1 0, V.cell (getD a 0 cellD).1 1, V.cell (getD a 0 cellD).1 2, V.cell (getD a 0 cellD).1 3, V.cell (getD a 0 cellD).1 4], false)], h)) pnK
noncomputable def inst (call : CallF) (n : Nat) (a b : Int) (c : ByteArray) (d e f : LL) (σ : Sto) : Option Res := instF call a b c d e f σ
theorem inst_eqF (call : CallF) (n : Nat) (a b : Int) (c : ByteArray) (d e f : LL) (σ : Sto) : afun C instD call n [(V.agg [V.int .i64 a, V.int .i64 b, V.str c, V.slice 3 74 d, V.slice 5 29 e], false), (V.slice 5 29 f, false)] σ =
  instF call a b c d e f σ := by kernel_rfl
theorem inst_eq (call : CallF) (n : Nat) (a b : Int) (c : ByteArray) (d e f : LL) (σ : Sto) : afun C instD call n [(V.agg [V.int .i64 a, V.int .i64 b, V.str c, V.slice 3 74 d, V.slice 5 29 e], false), (V.slice 5 29 f, false)] σ = inst call n a b c d e f σ := inst_eqF call n a b c d e f σ
theorem inst_lim {n : Nat} {a : Int} {b : Int} {c : ByteArray} {e : LL} {f : LL} {g : LL} {b0 b1 : Bool} {σ : Sto} {r : Res} (h : inst (lim C) n a b c e f g σ = some r) : lim C 21 [(V.agg [V.int .i64 a, V.int .i64 b, V.str c, V.slice 3 74 e, V.slice 5 29 f], b0), (V.slice 5 29 g, b1)] σ = some r :=
 lim_of (d := instD) (by kernel_rfl) (by kernel_rfl) n (show afun C instD (lim C) n [(V.agg [V.int .i64 a, V.int .i64 b, V.str c, V.slice 3 74 e, V.slice 5 29 f], false), (V.slice 5 29 g, false)] σ = some r from (inst_eq (lim C) n a b c e f g σ).trans h)
noncomputable def tmapF (call : CallF) (b c : Int) (d : ByteArray) (e f : LL) (g : V) (σ : Sto) : Option Res :=
 callK call 42 [(V.agg [V.int .i64 b, V.int .i64 c, V.str d, V.slice 3 74 e, V.slice 5 29 f], false), ((V.int .i64 (0 : Int)), false), (g, false)] σ 1 (fun a h =>
 (grd (V.fits (getD a 0 cellD).1 true 5)).bind fun _ =>
 some (.ret [(V.agg [V.cell (getD a 0 cellD).1 0, V.cell (getD a 0 cellD).1 1, V.cell (getD a 0 cellD).1 2, V.cell (getD a 0 cellD).1 3, V.cell (getD a 0 cellD).1 4], false)], h)) pnK
noncomputable def tmap (call : CallF) (n : Nat) (a b : Int) (c : ByteArray) (d e : LL) (f : V) (σ : Sto) : Option Res := tmapF call a b c d e f σ
theorem tmap_eqF (call : CallF) (n : Nat) (a b : Int) (c : ByteArray) (d e : LL) (f : V) (σ : Sto) : afun C tmapD call n [(V.agg [V.int .i64 a, V.int .i64 b, V.str c, V.slice 3 74 d, V.slice 5 29 e], false), (f, false)] σ =
  tmapF call a b c d e f σ := by kernel_rfl
theorem tmap_eq (call : CallF) (n : Nat) (a b : Int) (c : ByteArray) (d e : LL) (f : V) (σ : Sto) : afun C tmapD call n [(V.agg [V.int .i64 a, V.int .i64 b, V.str c, V.slice 3 74 d, V.slice 5 29 e], false), (f, false)] σ = tmap call n a b c d e f σ := tmap_eqF call n a b c d e f σ
theorem tmap_lim {n : Nat} {a : Int} {b : Int} {c : ByteArray} {e : LL} {f : LL} {g : V} {b0 b1 : Bool} {σ : Sto} {r : Res} (h : tmap (lim C) n a b c e f g σ = some r) : lim C 22 [(V.agg [V.int .i64 a, V.int .i64 b, V.str c, V.slice 3 74 e, V.slice 5 29 f], b0), (g, b1)] σ = some r :=
 lim_of (d := tmapD) (by kernel_rfl) (by kernel_rfl) n (show afun C tmapD (lim C) n [(V.agg [V.int .i64 a, V.int .i64 b, V.str c, V.slice 3 74 e, V.slice 5 29 f], false), (g, false)] σ = some r from (tmap_eq (lim C) n a b c e f g σ).trans h)
noncomputable def newScannerF (call : CallF) (a : ByteArray) (σ : Sto) : Option Res :=
 callK call 43 [(V.ptr 84 (List.length σ) 0, false)] (σ ++ [[(V.str a, false), ((V.int .i64 (0 : Int)), false), (V.str ⟨#[]⟩, false), ((V.int .i64 (0 : Int)), false)]]) 0 (fun c b =>
 some (.ret [(V.ptr 84 (List.length σ) 0, false)], b)) pnK
noncomputable def newScanner (call : CallF) (n : Nat) (a : ByteArray) (σ : Sto) : Option Res := newScannerF call a σ
theorem newScanner_eqF (call : CallF) (n : Nat) (a : ByteArray) (σ : Sto) : afun C newScannerD call n [(V.str a, false)] σ =
  newScannerF call a σ := by kernel_rfl
theorem newScanner_eq (call : CallF) (n : Nat) (a : ByteArray) (σ : Sto) : afun C newScannerD call n [(V.str a, false)] σ = newScanner call n a σ := newScanner_eqF call n a σ
theorem newScanner_lim {n : Nat} {a : ByteArray} {b0 : Bool} {σ : Sto} {r : Res} (h : newScanner (lim C) n a σ = some r) : lim C 26 [(V.str a, b0)] σ = some r :=
 lim_of (d := newScannerD) (by kernel_rfl) (by kernel_rfl) n (show afun C newScannerD (lim C) n [(V.str a, false)] σ = some r from (newScanner_eq (lim C) n a σ).trans h)
noncomputable def readk0 : List Nat := [0, 2, 8, 75, 76]
noncomputable def readk1 : List Nat := [0, 2, 8, 9]
noncomputable def reads0 (call : CallF) (rec0 : Nat → Int → Int → Int → Int → ByteArray → LL → LL → Int → Int → V → LL → LL → RR) (b : Nat) (d e j k : Int) (o : ByteArray) (p q : LL) (f g : Int) (h : V) (i c : LL) (σ : Sto) : Option Res :=
 bif (decide (e < d)) then
 callK call 27 [(V.ptr 84 b 0, false)] σ 1 (fun a r =>
 (grd ((V.fits (getD a 0 cellD).1 true 5 && true))).bind fun _ =>
 (grd (room (List.length c + 1))).bind fun _ =>
 rec0 b d (wrap .i64 (e + (1 : Int))) j k o p q f g h i (c ++ [[V.cell (getD a 0 cellD).1 0, V.cell (getD a 0 cellD).1 1, V.cell (getD a 0 cellD).1 2, V.cell (getD a 0 cellD).1 3, V.cell (getD a 0 cellD).1 4]]) r) pnK
 else
 callK call 47 [(V.ptr 84 b 0, false), (V.str ⟨#[41]⟩, false)] σ 0 (fun t s =>
 some (.ret [(V.agg [V.int .i64 f, V.int .i64 g, h, V.slice 3 74 i, V.slice 5 29 c], false)], s)) pnK
noncomputable def readl0 (call : CallF) (n : Nat) : Nat → Nat → Int → Int → Int → Int → ByteArray → LL → LL → Int → Int → V → LL → LL → RR
 | 0 => fun _ _ _ _ _ _ _ _ _ _ _ _ _ _ => none
 | m + 1 => reads0 call (readl0 call n m)
noncomputable def readt0 (a : Nat) (b c d e : Int) (f : ByteArray) (g h : LL) (i j : Int) (k : V) (o p : LL) (σ : Sto) : St := ⟨[.val (V.ptr 84 a 0) false, .dead, .lptr 2 0] ++ dd 5 ([.lptr 8 0] ++ dd 66 ([.val (V.int .i64 b) false, .val (V.int .i64 c) false] ++ dd 12 [])), [[], [], [(V.int .i64 d, false), (V.int .i64 e, false), (V.str f, false), (V.slice 3 74 g, true), (V.slice 5 29 h, true)]] ++ nn 5 ([[(V.int .i64 i, false), (V.int .i64 j, false), (k, false), (V.slice 3 74 o, true), (V.slice 5 29 p, true)]] ++ nn 80 []), σ⟩
noncomputable def reads1 (call : CallF) (L0 : Nat → Int → Int → Int → Int → ByteArray → LL → LL → Int → Int → V → LL → LL → RR) (rec1 : Nat → Int → Int → Int → ByteArray → LL → LL → Int → Int → V → LL → LL → RR) (a : Nat) (d e f : Int) (g : ByteArray) (h i : LL) (j k : Int) (o : V) (c p : LL) (σ : Sto) : Option Res :=
 (memGet σ (V.ptr 84 a 2) false 1).bind fun m1 =>
 (V.asStr m1).bind fun s2 =>
 bif (!(s2.toList == (ByteArray.mk #[41]).toList)) then
 callK call 49 [(V.ptr 84 a 0, false)] σ 1 (fun b q =>
 (grd ((V.fits (getD b 0 cellD).1 true 3 && true))).bind fun _ =>
 (grd (room (List.length c + 1))).bind fun _ =>
 rec1 a d e f g h i j k o (c ++ [[V.cell (getD b 0 cellD).1 0, V.cell (getD b 0 cellD).1 1, V.cell (getD b 0 cellD).1 2]]) p q) pnK
 else
 L0 a d (0 : Int) e f g h i j k o c p σ
noncomputable def readl1 (call : CallF) (n : Nat) : Nat → Nat → Int → Int → Int → ByteArray → LL → LL → Int → Int → V → LL → LL → RR
 | 0 => fun _ _ _ _ _ _ _ _ _ _ _ _ _ => none
 | m + 1 => reads1 call (readl0 call n n) (readl1 call n m)
noncomputable def readt1 (a : Nat) (b c d : Int) (e : ByteArray) (f g : LL) (h i : Int) (j : V) (k o : LL) (σ : Sto) : St := ⟨[.val (V.ptr 84 a 0) false, .dead, .lptr 2 0] ++ dd 5 ([.lptr 8 0, .val (V.int .i64 b) false] ++ dd 79 []), [[], [], [(V.int .i64 c, false), (V.int .i64 d, false), (V.str e, false), (V.slice 3 74 f, true), (V.slice 5 29 g, true)]] ++ nn 5 ([[(V.int .i64 h, false), (V.int .i64 i, false), (j, false), (V.slice 3 74 k, true), (V.slice 5 29 o, true)]] ++ nn 80 []), σ⟩
noncomputable def readF (call : CallF) (L0 : Nat → Int → Int → Int → Int → ByteArray → LL → LL → Int → Int → V → LL → LL → RR) (L1 : Nat → Int → Int → Int → ByteArray → LL → LL → Int → Int → V → LL → LL → RR) (a : Nat) (σ : Sto) : Option Res :=
 (memGet σ (V.ptr 84 a 2) false 1).bind fun m1 =>
 callK call 44 [(m1, false), (V.str ⟨#[35]⟩, false)] σ 2 (fun g h =>
 (V.asBool (getD g 1 cellD).1).bind fun b5 =>
 bif b5 then
 callK call 45 [((getD g 0 cellD).1, false)] h 2 (fun b i =>
 (V.ifaceNil (getD b 1 cellD).1).bind fun b9 =>
 bif (!b9) then
 callK call 46 [(V.ptr 84 a 0, false)] i 0 (fun a0 q =>
 callK call 43 [(V.ptr 84 a 0, false)] q 0 (fun a1 r =>
 (grd ((V.fits (getD b 0 cellD).1 false 1 && true))).bind fun _ =>
 some (.ret [((V.agg [(V.int .i64 (0 : Int)), (getD b 0 cellD).1, V.str ⟨#[]⟩, V.slice 3 74 [], V.slice 5 29 []]), false)], r)) pnK) pnK
 else
 callK call 43 [(V.ptr 84 a 0, false)] i 0 (fun a2 s =>
 (grd ((V.fits (getD b 0 cellD).1 false 1 && true))).bind fun _ =>
 some (.ret [((V.agg [(V.int .i64 (0 : Int)), (getD b 0 cellD).1, V.str ⟨#[]⟩, V.slice 3 74 [], V.slice 5 29 []]), false)], s)) pnK) pnK
 else
 callK call 47 [(V.ptr 84 a 0, false), (V.str ⟨#[40]⟩, false)] h 0 (fun a3 j =>
 (grd (decide (0 ≤ (1 : Int)) && decide ((1 : Int) ≤ (7 : Int)) && decide ((7 : Int) ≤ (7 : Nat)) && decide ((1 : Int) < (7 : Nat)))).bind fun _ =>
 (memGet j (V.ptr 84 a 2) false 1).bind fun m22 =>
 callK call 48 [((V.slice 1 9 (((List.map (fun v => [v]) [V.str ⟨#[]⟩, V.str ⟨#[115, 111, 114, 116]⟩, V.str ⟨#[99, 111, 110, 115, 116]⟩, V.str ⟨#[97, 112, 112]⟩, V.str ⟨#[108, 97, 109]⟩, V.str ⟨#[112, 105]⟩, V.str ⟨#[108, 101, 116]⟩]).take (Int.toNat (7 : Int))).drop (Int.toNat (1 : Int)))), false), (m22, false)] j 1 (fun t k =>
 (V.asInt (getD t 0 cellD).1 .i64).bind fun i26 =>
 bif ((wrap .i64 (i26 + (1 : Int))) == (0 : Int)) then
 callK call 46 [(V.ptr 84 a 0, false)] k 0 (fun a4 u =>
 callK call 43 [(V.ptr 84 a 0, false)] u 0 (fun a5 c =>
 bif ((wrap .i64 (i26 + (1 : Int))) == (1 : Int)) then
 callK call 49 [(V.ptr 84 a 0, false)] c 1 (fun d w =>
 (grd ((V.fits (getD d 0 cellD).1 true 3 && true))).bind fun _ =>
 L0 a (0 : Int) (0 : Int) (0 : Int) (0 : Int) (ByteArray.mk #[]) [] [] (wrap .i64 (i26 + (1 : Int))) (0 : Int) (V.str ⟨#[]⟩) [[V.cell (getD d 0 cellD).1 0, V.cell (getD d 0 cellD).1 1, V.cell (getD d 0 cellD).1 2]] [] w) pnK
 else
 bif ((wrap .i64 (i26 + (1 : Int))) == (2 : Int)) then
 callK call 50 [(V.ptr 84 a 0, false)] c 1 (fun o x =>
 (grd (V.fits (getD o 0 cellD).1 false 1)).bind fun _ =>
 L1 a (0 : Int) (0 : Int) (0 : Int) (ByteArray.mk #[]) [] [] (wrap .i64 (i26 + (1 : Int))) (0 : Int) (getD o 0 cellD).1 [] [] x) pnK
 else
 bif ((wrap .i64 (i26 + (1 : Int))) == (6 : Int)) then
 L0 a (3 : Int) (0 : Int) (0 : Int) (0 : Int) (ByteArray.mk #[]) [] [] (wrap .i64 (i26 + (1 : Int))) (0 : Int) (V.str ⟨#[]⟩) [] [] c
 else
 L0 a (2 : Int) (0 : Int) (0 : Int) (0 : Int) (ByteArray.mk #[]) [] [] (wrap .i64 (i26 + (1 : Int))) (0 : Int) (V.str ⟨#[]⟩) [] [] c) pnK) pnK
 else
 callK call 43 [(V.ptr 84 a 0, false)] k 0 (fun a6 e =>
 bif ((wrap .i64 (i26 + (1 : Int))) == (1 : Int)) then
 callK call 49 [(V.ptr 84 a 0, false)] e 1 (fun f y =>
 (grd ((V.fits (getD f 0 cellD).1 true 3 && true))).bind fun _ =>
 L0 a (0 : Int) (0 : Int) (0 : Int) (0 : Int) (ByteArray.mk #[]) [] [] (wrap .i64 (i26 + (1 : Int))) (0 : Int) (V.str ⟨#[]⟩) [[V.cell (getD f 0 cellD).1 0, V.cell (getD f 0 cellD).1 1, V.cell (getD f 0 cellD).1 2]] [] y) pnK
 else
 bif ((wrap .i64 (i26 + (1 : Int))) == (2 : Int)) then
 callK call 50 [(V.ptr 84 a 0, false)] e 1 (fun p z =>
 (grd (V.fits (getD p 0 cellD).1 false 1)).bind fun _ =>
 L1 a (0 : Int) (0 : Int) (0 : Int) (ByteArray.mk #[]) [] [] (wrap .i64 (i26 + (1 : Int))) (0 : Int) (getD p 0 cellD).1 [] [] z) pnK
 else
 bif ((wrap .i64 (i26 + (1 : Int))) == (6 : Int)) then
 L0 a (3 : Int) (0 : Int) (0 : Int) (0 : Int) (ByteArray.mk #[]) [] [] (wrap .i64 (i26 + (1 : Int))) (0 : Int) (V.str ⟨#[]⟩) [] [] e
 else
 L0 a (2 : Int) (0 : Int) (0 : Int) (0 : Int) (ByteArray.mk #[]) [] [] (wrap .i64 (i26 + (1 : Int))) (0 : Int) (V.str ⟨#[]⟩) [] [] e) pnK) pnK) pnK) pnK
noncomputable def read (call : CallF) (n a : Nat) (σ : Sto) : Option Res := readF call (readl0 call n n) (readl1 call n n) a σ
theorem reads0_eq (call : CallF) (n : Nat) (F0 : St → Option Res) (a : Nat) (b c d e : Int) (f : ByteArray) (g h : LL) (i j : Int) (k : V) (o p : LL) (σ : Sto) :
  aexec C readH call n (cp [0,0,1,0,1,1,1,1,1,1,1,1,1] readC) 0 (readt0 a b c d e f g h i j k o p σ) (kloop readk0 F0 (kblk 3 (kseq (fun st' => aexec C readH call n (cp [1,1,1,1,1,1,1,1,1,1] readC) 0 st' (kfin C readD)) (kfin C readD)))) =
  reads0 call (fun a b c d e f g h i j k o p σ => F0 (readt0 a b c d e f g h i j k o p σ)) a b c d e f g h i j k o p σ := by kernel_rfl
theorem readl0_eq (call : CallF) (n : Nat) : ∀ (m a : Nat) (b c d e : Int) (f : ByteArray) (g h : LL) (i j : Int) (k : V) (o p : LL) (σ : Sto),
  aloop (fun st K => aexec C readH call n (cp [0,0,1,0,1,1,1,1,1,1,1,1,1] readC) 0 st K) readk0 m (readt0 a b c d e f g h i j k o p σ) (kblk 3 (kseq (fun st' => aexec C readH call n (cp [1,1,1,1,1,1,1,1,1,1] readC) 0 st' (kfin C readD)) (kfin C readD))) = readl0 call n m a b c d e f g h i j k o p σ
 | 0, a, b, c, d, e, f, g, h, i, j, k, o, p, σ => rfl
 | m + 1, a, b, c, d, e, f, g, h, i, j, k, o, p, σ => by
  rw [aloop, reads0_eq]
  simp only [readl0_eq call n m]
  rfl
theorem reads1_eq (call : CallF) (n : Nat) (F1 : St → Option Res) (a : Nat) (o b c : Int) (d : ByteArray) (e f : LL) (g h : Int) (i : V) (j k : LL) (σ : Sto) :
  aexec C readH call n (cp [0,0,1,0,1,1,1,0,1,0,1,1,1,1,1,1,1,1] readC) 0 (readt1 a o b c d e f g h i j k σ) (kloop readk1 F1 (kblk 1 (kblk 0 (kseq (fun st' => aexec C readH call n (cp [1,1,1,1,1,1,1,1,1] readC) 0 st' (kfin C readD)) (kfin C readD))))) =
  reads1 call (fun a p q b c d e f g h i j k σ => aloop (fun st K => aexec C readH call n (cp [0,0,1,0,1,1,1,1,1,1,1,1,1] readC) 0 st K) readk0 n (readt0 a p q b c d e f g h i j k σ) (kblk 3 (kseq (fun st' => aexec C readH call n (cp [1,1,1,1,1,1,1,1,1,1] readC) 0 st' (kfin C readD)) (kfin C readD)))) (fun a o b c d e f g h i j k σ => F1 (readt1 a o b c d e f g h i j k σ)) a o b c d e f g h i j k σ := by kernel_rfl
theorem readl1_eq (call : CallF) (n : Nat) : ∀ (m a : Nat) (b c d : Int) (e : ByteArray) (f g : LL) (h i : Int) (j : V) (k o : LL) (σ : Sto),
  aloop (fun st K => aexec C readH call n (cp [0,0,1,0,1,1,1,0,1,0,1,1,1,1,1,1,1,1] readC) 0 st K) readk1 m (readt1 a b c d e f g h i j k o σ) (kblk 1 (kblk 0 (kseq (fun st' => aexec C readH call n (cp [1,1,1,1,1,1,1,1,1] readC) 0 st' (kfin C readD)) (kfin C readD)))) = readl1 call n m a b c d e f g h i j k o σ
 | 0, a, b, c, d, e, f, g, h, i, j, k, o, σ => rfl
 | m + 1, a, b, c, d, e, f, g, h, i, j, k, o, σ => by
  rw [aloop, reads1_eq]
  simp only [readl1_eq call n m, readl0_eq]
  rfl
theorem read_eqF (call : CallF) (n a : Nat) (σ : Sto) : afun C readD call n [(V.ptr 84 a 0, false)] σ =
  readF call (fun a o p b c d e f g h i j k σ => aloop (fun st K => aexec C readH call n (cp [0,0,1,0,1,1,1,1,1,1,1,1,1] readC) 0 st K) readk0 n (readt0 a o p b c d e f g h i j k σ) (kblk 3 (kseq (fun st' => aexec C readH call n (cp [1,1,1,1,1,1,1,1,1,1] readC) 0 st' (kfin C readD)) (kfin C readD)))) (fun a q b c d e f g h i j k σ => aloop (fun st K => aexec C readH call n (cp [0,0,1,0,1,1,1,0,1,0,1,1,1,1,1,1,1,1] readC) 0 st K) readk1 n (readt1 a q b c d e f g h i j k σ) (kblk 1 (kblk 0 (kseq (fun st' => aexec C readH call n (cp [1,1,1,1,1,1,1,1,1] readC) 0 st' (kfin C readD)) (kfin C readD))))) a σ := by kernel_rfl
theorem read_eq (call : CallF) (n a : Nat) (σ : Sto) : afun C readD call n [(V.ptr 84 a 0, false)] σ = read call n a σ := by
 rw [read_eqF]
 simp only [readl0_eq, readl1_eq]
 rfl
theorem read_lim {n : Nat} {a : Nat} {b0 : Bool} {σ : Sto} {r : Res} (h : read (lim C) n a σ = some r) : lim C 27 [(V.ptr 84 a 0, b0)] σ = some r :=
 lim_of (d := readD) (by kernel_rfl) (by kernel_rfl) n (show afun C readD (lim C) n [(V.ptr 84 a 0, false)] σ = some r from (read_eq (lim C) n a σ).trans h)
noncomputable def sendF (call : CallF) (a : Nat) (σ : Sto) : Option Res :=
 (memGet σ (V.ptr 84 a 2) false 1).bind fun m1 =>
 (V.asStr m1).bind fun s2 =>
 bif (!(s2.toList == (ByteArray.mk #[]).toList)) then
 callK call 46 [(V.ptr 84 a 0, false)] σ 0 (fun c b =>
 some (.ret [], b)) pnK
 else
 some (.ret [], σ)
noncomputable def send (call : CallF) (n a : Nat) (σ : Sto) : Option Res := sendF call a σ
theorem send_eqF (call : CallF) (n a : Nat) (σ : Sto) : afun C sendD call n [(V.ptr 84 a 0, false)] σ =
  sendF call a σ := by kernel_rfl
theorem send_eq (call : CallF) (n a : Nat) (σ : Sto) : afun C sendD call n [(V.ptr 84 a 0, false)] σ = send call n a σ := send_eqF call n a σ
theorem send_lim {n : Nat} {a : Nat} {b0 : Bool} {σ : Sto} {r : Res} (h : send (lim C) n a σ = some r) : lim C 28 [(V.ptr 84 a 0, b0)] σ = some r :=
 lim_of (d := sendD) (by kernel_rfl) (by kernel_rfl) n (show afun C sendD (lim C) n [(V.ptr 84 a 0, false)] σ = some r from (send_eq (lim C) n a σ).trans h)
noncomputable def tnewF (call : CallF) (a : Int) (b : LL) (σ : Sto) : Option Res :=
 some (.ret [((V.agg [V.int .i64 a, (V.int .i64 (0 : Int)), V.str ⟨#[]⟩, V.slice 3 74 [], V.slice 5 29 b]), false)], σ)
noncomputable def tnew (call : CallF) (n : Nat) (a : Int) (b : LL) (σ : Sto) : Option Res := tnewF call a b σ
theorem tnew_eqF (call : CallF) (n : Nat) (a : Int) (b : LL) (σ : Sto) : afun C tnewD call n [(V.int .i64 a, false), (V.slice 5 29 b, false)] σ =
  tnewF call a b σ := by kernel_rfl
theorem tnew_eq (call : CallF) (n : Nat) (a : Int) (b : LL) (σ : Sto) : afun C tnewD call n [(V.int .i64 a, false), (V.slice 5 29 b, false)] σ = tnew call n a b σ := tnew_eqF call n a b σ
theorem tnew_lim {n : Nat} {a : Int} {b : LL} {b0 b1 : Bool} {σ : Sto} {r : Res} (h : tnew (lim C) n a b σ = some r) : lim C 30 [(V.int .i64 a, b0), (V.slice 5 29 b, b1)] σ = some r :=
 lim_of (d := tnewD) (by kernel_rfl) (by kernel_rfl) n (show afun C tnewD (lim C) n [(V.int .i64 a, false), (V.slice 5 29 b, false)] σ = some r from (tnew_eq (lim C) n a b σ).trans h)
end Go.Ab.Mk
end
