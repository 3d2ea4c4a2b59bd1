/- term.walk over terms: let, variables, leaves; the whole. -/
import Derived.Test.YtifoglinlcfelaaDoorAbMp
import Derived.Test.YtifoglinlcfelaaDoorAbIt2
import Derived.Test.YtifoglinlcfelaaDoorProg
import Derived.Test.YtifoglinlcfelaaDoorAbBl
import Derived.Test.YtifoglinlcfelaaDoorAbLim
import Derived.WalkKit
import Derived.RegionTactic
import Derived.LoopTactic
import Derived.LoopN
import Derived.Deep.Cut
import Derived.Deep.RegionHeld3
import Derived.Laws.MakeOwn
set_option linter.unusedSimpArgs false
set_option linter.unusedVariables false
set_option linter.deprecated false
section
set_option maxRecDepth 100000
namespace Go.Ab.Ma
open Go.Proofs Go.Ab
open List (getD)
open IntKind (wrap)
def TL : List (TypeId × TI) := [
 (0, ⟨(.tuple 0), 1, 0, [V.any]⟩),
 (3, ⟨(.int .i64), 1, 8, [(V.int .i64 (0 : Int))]⟩),
 (4, ⟨.bool, 1, 1, [V.bool false]⟩),
 (9, ⟨.string, 1, 16, [V.str ⟨#[]⟩]⟩),
 (26, ⟨(.slice 74), 1, 24, [V.slice 3 74 []]⟩),
 (27, ⟨(.slice 29), 1, 24, [V.slice 5 29 []]⟩),
 (29, ⟨(.struct [(0, 3), (1, 3), (2, 9), (3, 26), (4, 27)]), 5, 80, [(V.int .i64 (0 : Int)), (V.int .i64 (0 : Int)), V.str ⟨#[]⟩, V.slice 3 74 [], V.slice 5 29 []]⟩),
 (74, ⟨(.struct [(0, 3), (1, 9), (2, 26)]), 3, 48, [(V.int .i64 (0 : Int)), V.str ⟨#[]⟩, V.slice 3 74 []]⟩)]
noncomputable def lift1H : Hints := { keep := fun i => [], lp := [4, 6, 7, 13, 17], roots := [(4, 4), (6, 6), (7, 4), (13, 4), (17, 4)] }
noncomputable def lift1C : Code := Tryd.f23.body.getD .skip
noncomputable def lift1D : FDef := ⟨Tryd.f23, lift1C, lift1H⟩
noncomputable def FL : List (FuncId × FDef) := [(23, lift1D)]
noncomputable def C : Ctx := { T := look TL, glob := fun g => if g = 0 then some [V.str ⟨#[]⟩, V.str ⟨#[115, 111, 114, 116]⟩, V.str ⟨#[99, 111, 110, 115, 116]⟩, V.str ⟨#[97, 112, 112]⟩, V.str ⟨#[108, 97, 109]⟩, V.str ⟨#[112, 105]⟩, V.str ⟨#[108, 101, 116]⟩] else if g = 1 then some [V.slice 1 9 [[V.str ⟨#[]⟩], [V.str ⟨#[115, 111, 114, 116]⟩], [V.str ⟨#[99, 111, 110, 115, 116]⟩], [V.str ⟨#[97, 112, 112]⟩], [V.str ⟨#[108, 97, 109]⟩], [V.str ⟨#[112, 105]⟩], [V.str ⟨#[108, 101, 116]⟩]]] else if g = 2 then some [V.str ⟨#[]⟩, V.str ⟨#[115]⟩, V.str ⟨#[109, 97, 120]⟩, V.str ⟨#[105, 109, 97, 120]⟩] else if g = 5 then some (Go.Lib.pow10Tab.map fun z => V.int .u64 z) else none, ext := fun _ => none, fdef := lookF FL }
theorem typesOk : ∀ t i, C.T t = some i → TOk Tryd.prog t i := look_ok (by kernel_rfl)
theorem ctxOk : CtxOk Tryd.prog C where
 mixed := by kernel_rfl
 T := typesOk
 fdef := by
  refine lookF_ok (P := Tryd.prog) (Q := fun f d => Tryd.prog.funcs[f]? = some d.fn ∧ d.fn.body = some d.code ∧ (∀ (args : Array Value) (w : World), (callFunc f args).run Tryd.prog w = .ok (.enter f args) w)) (L := FL) ?_
  intro p hp
  simp only [FL, List.mem_cons, List.not_mem_nil, or_false] at hp
  rcases hp with rfl
  ·exact ⟨Tryd.func23, by kernel_rfl, fun args w => Tryd.call23 args w⟩
end Go.Ab.Ma
end
section
namespace Go.Ab.Mk
open Go.Ab
inductive Tm where
 | var (n : Nat)
 | sort (l : Lv)
 | const (s : ByteArray) (ls : List Lv)
 | app (a b : Tm)
 | lam (a b : Tm)
 | pi (a b : Tm)
 | letin (a b c : Tm)
 deriving Inhabited
def Tm.kind : Tm → Int
 | .var _ => 0 | .sort _ => 1 | .const .. => 2 | .app .. => 3 | .lam .. => 4 | .pi .. => 5 | .letin .. => 6
def Tm.num : Tm → Nat
 | .var n => n
 | _ => 0
def Tm.name : Tm → ByteArray
 | .const s _ => s
 | _ => ByteArray.mk #[]
def Tm.lvs : Tm → List Lv
 | .sort l => [l]
 | .const _ ls => ls
 | _ => []
def Tm.kids : Tm → List Tm
 | .app a b => [a, b]
 | .lam a b => [a, b]
 | .pi a b => [a, b]
 | .letin a b c => [a, b, c]
 | _ => []
def tmCells (k n : Int) (s : ByteArray) (ls : List Lv) (es : List (List V)) : List V := [.int .i64 k, .int .i64 n, .str s, .slice 3 74 (ls.map Lv.enc), .slice 5 29 es]
def Tm.enc : Tm → List V
 | .var n => tmCells 0 n (ByteArray.mk #[]) [] []
 | .sort l => tmCells 1 0 (ByteArray.mk #[]) [l] []
 | .const s ls => tmCells 2 0 s ls []
 | .app a b => tmCells 3 0 (ByteArray.mk #[]) [] [a.enc, b.enc]
 | .lam a b => tmCells 4 0 (ByteArray.mk #[]) [] [a.enc, b.enc]
 | .pi a b => tmCells 5 0 (ByteArray.mk #[]) [] [a.enc, b.enc]
 | .letin a b c => tmCells 6 0 (ByteArray.mk #[]) [] [a.enc, b.enc, c.enc]
def Tm.args (t : Tm) : List (List V) := t.kids.map Tm.enc
def Tm.val (t : Tm) : V := .agg [.int .i64 t.kind, .int .i64 t.num, .str t.name, .slice 3 74 (t.lvs.map Lv.enc), .slice 5 29 t.args]
theorem Tm.enc_eq (t : Tm) : t.enc = [.int .i64 t.kind, .int .i64 t.num, .str t.name, .slice 3 74 (t.lvs.map Lv.enc), .slice 5 29 t.args] := by cases t <;> rfl
theorem Tm.enc_len (t : Tm) : t.enc.length = 5 := by cases t <;> rfl
def Tm.head : Tm → Tm
 | .app a _ => a.head
 | t => t
def Tm.spine : Tm → List Tm
 | .app a b => a.spine ++ [b]
 | _ => []
theorem Tm.ind {P : Tm → Prop} (h : ∀ t, (∀ c ∈ t.kids, P c) → P t) : ∀ t, P t
 | .var _ => h _ (by simp [Tm.kids])
 | .sort _ => h _ (by simp [Tm.kids])
 | .const .. => h _ (by simp [Tm.kids])
 | .app a b => h _ (by simp only [Tm.kids, List.mem_cons, List.not_mem_nil, or_false]; rintro c (rfl | rfl) <;> exact Tm.ind h _)
 | .lam a b => h _ (by simp only [Tm.kids, List.mem_cons, List.not_mem_nil, or_false]; rintro c (rfl | rfl) <;> exact Tm.ind h _)
 | .pi a b => h _ (by simp only [Tm.kids, List.mem_cons, List.not_mem_nil, or_false]; rintro c (rfl | rfl) <;> exact Tm.ind h _)
 | .letin a b d => h _ (by simp only [Tm.kids, List.mem_cons, List.not_mem_nil, or_false]; rintro c (rfl | rfl | rfl) <;> exact Tm.ind h _)
end Go.Ab.Mk
end
section
namespace Go.Proofs
open Go.RowKit Go.Ab Go.Ab.Mk
set_option maxRecDepth 100000
set_option maxHeartbeats 1000000
def Mk.ztC : List Value := [.int .i64 0, .int .i64 0, .string ⟨#[]⟩, .slice none 0 0, .slice none 0 0]
theorem Mk.infoTm : (Tryd.prog.info? 29).map (fun i => (i.zero, i.size, i.bytes)) = some (some (.agg Mk.ztC.toArray), 5, 80) := by kernel_rfl
theorem Mk.make_two (w : World) : (Instr.makeSlice 27 (.int .i64 2) (.int .i64 2)).run Tryd.prog w = .ok (.slice (some ⟨w.heap.size, 0, none⟩) 2 2) (w.alloc (.cells #[.int .i64 0, .int .i64 0, .string ⟨#[]⟩, .slice none 0 0, .slice none 0 0, .int .i64 0, .int .i64 0, .string ⟨#[]⟩, .slice none 0 0, .slice none 0 0] 29)) := by
 obtain ⟨i, hi, hz0, hz1, hz2⟩ := info_parts Mk.infoTm
 have := run_makeSlice (P := Tryd.prog) w 27 29 i _ Tryd.underlying27 hi hz0 .i64 .i64 2 2 (by decide) (by decide) (by rw [hz1]; decide) (by rw [hz2]; decide) (by decide)
 rw [this, hz1]
 rw [show madeCells (Value.agg Mk.ztC.toArray).cells (Int.toNat 2 * 5) = #[.int .i64 0, .int .i64 0, .string ⟨#[]⟩, .slice none 0 0, .slice none 0 0, .int .i64 0, .int .i64 0, .string ⟨#[]⟩, .slice none 0 0, .slice none 0 0] by kernel_rfl]
 rfl
theorem Mk.make_three (w : World) : (Instr.makeSlice 27 (.int .i64 3) (.int .i64 3)).run Tryd.prog w = .ok (.slice (some ⟨w.heap.size, 0, none⟩) 3 3) (w.alloc (.cells #[.int .i64 0, .int .i64 0, .string ⟨#[]⟩, .slice none 0 0, .slice none 0 0, .int .i64 0, .int .i64 0, .string ⟨#[]⟩, .slice none 0 0, .slice none 0 0, .int .i64 0, .int .i64 0, .string ⟨#[]⟩, .slice none 0 0, .slice none 0 0] 29)) := by
 obtain ⟨i, hi, hz0, hz1, hz2⟩ := info_parts Mk.infoTm
 have := run_makeSlice (P := Tryd.prog) w 27 29 i _ Tryd.underlying27 hi hz0 .i64 .i64 3 3 (by decide) (by decide) (by rw [hz1]; decide) (by rw [hz2]; decide) (by decide)
 rw [this, hz1]
 rw [show madeCells (Value.agg Mk.ztC.toArray).cells (Int.toNat 3 * 5) = #[.int .i64 0, .int .i64 0, .string ⟨#[]⟩, .slice none 0 0, .slice none 0 0, .int .i64 0, .int .i64 0, .string ⟨#[]⟩, .slice none 0 0, .slice none 0 0, .int .i64 0, .int .i64 0, .string ⟨#[]⟩, .slice none 0 0, .slice none 0 0] by kernel_rfl]
 rfl
theorem Mk.walk_end {w W' : World} {x0 x1 x2 x3 x4 : Value} (k0 : W'.cell? ⟨w.heap.size + 1, 0, none⟩ = some x0) (k1 : W'.cell? ⟨w.heap.size + 1, 1, none⟩ = some x1) (k2 : W'.cell? ⟨w.heap.size + 1, 2, none⟩ = some x2) (k3 : W'.cell? ⟨w.heap.size + 1, 3, none⟩ = some x3) (k4 : W'.cell? ⟨w.heap.size + 1, 4, none⟩ = some x4)
  {Q : Ending → World → Prop} (hQ : Q (.returned (.agg #[x0, x1, x2, x3, x4])) W') {tmps : Array Value} (h6 : tmps[6]? = some (.pointer (some ⟨w.heap.size + 1, 0, none⟩))) :
  bodyPost Tryd.prog Tryd.f42 Q .ret { tmps := tmps, defers := [] } W' := by
 refine bodyPost_ret (v := .agg #[x0, x1, x2, x3, x4]) ?_ rfl hQ
 simp [results, Tryd.results42, h6, k0, k1, k2, k3, k4, go_sem]
theorem Mk.walk_leaf (k n : Int) (s : ByteArray) (pl pa : Option Addr) (ll cl ca : Nat) (d : Int) (fv : Value) (w : World) (hk : 1 ≤ k) :
  Calls Tryd.prog 42 #[.agg #[.int .i64 k, .int .i64 n, .string s, .slice pl ll cl, .slice pa 0 ca], .int .i64 d, fv] w fun e w' => e = .returned (.agg #[.int .i64 k, .int .i64 n, .string s, .slice pl ll cl, .slice pa 0 ca]) ∧ Below w.heap.size w w' := by
 go_enter Tryd.func42, Tryd.ntmps42
 go_wp2_with fail
 refine Mk.walk_end (w := w) (cell_new (by simp)) (cell_new (by simp)) (cell_new (by simp)) (cell_new (by simp)) (cell_new (by simp)) ⟨rfl, ((Below.refl _ _).alloc (Nat.le_refl _) _).alloc (by simp) _⟩ rfl
inductive Mk.ShpW : Value → Value → Value → Value → Value → Prop
 | mk (n m : Int) (st : ByteArray) (p : Option Addr) (l c : Nat) (pp : Option Addr) (ll cc : Nat) : Mk.ShpW (.int .i64 n) (.int .i64 m) (.string st) (.slice p l c) (.slice pp ll cc)
def Mk.cells5 (v : V) : Option (List V) := match v with
 | .agg [.int .i64 k, .int .i64 m, .str n, a, b] => if (slv a && slv b) = true then some [.int .i64 k, .int .i64 m, .str n, a, b] else none
 | _ => none
def Mk.walkV (call : CallF) (f : FuncId) (cap : List V) : Tm → Int → Sto → Option (List V × Sto)
 | .var n, d, σ => match call f ([((Tm.var n).val, false), (.int .i64 d, false)] ++ cap.map fun v => (v, false)) σ with
  | some (.ret [(v, _)], σ') => (Mk.cells5 v).bind fun cs => some (cs, σ')
  | _ => none
 | .sort l, _, σ => some ((Tm.sort l).enc, σ)
 | .const s ls, _, σ => some ((Tm.const s ls).enc, σ)
 | .app a b, d, σ => (Mk.walkV call f cap a d σ).bind fun x => (Mk.walkV call f cap b d x.2).bind fun y => some (tmCells 3 0 (ByteArray.mk #[]) [] [x.1, y.1], y.2)
 | .lam a b, d, σ => (Mk.walkV call f cap a d σ).bind fun x => (grd (decide (0 ≤ d) && decide (d < 2 ^ 60))).bind fun _ => (Mk.walkV call f cap b (d + 1) x.2).bind fun y => some (tmCells 4 0 (ByteArray.mk #[]) [] [x.1, y.1], y.2)
 | .pi a b, d, σ => (Mk.walkV call f cap a d σ).bind fun x => (grd (decide (0 ≤ d) && decide (d < 2 ^ 60))).bind fun _ => (Mk.walkV call f cap b (d + 1) x.2).bind fun y => some (tmCells 5 0 (ByteArray.mk #[]) [] [x.1, y.1], y.2)
 | .letin a b c, d, σ => (Mk.walkV call f cap a d σ).bind fun x => (Mk.walkV call f cap b d x.2).bind fun y => (grd (decide (0 ≤ d) && decide (d < 2 ^ 60))).bind fun _ => (Mk.walkV call f cap c (d + 1) y.2).bind fun z => some (tmCells 6 0 (ByteArray.mk #[]) [] [x.1, y.1, z.1], z.2)
structure Mk.WkG (gl : Nat → Option (List V)) (σ : Sto) (n0 : Nat) (G0 : Gh) (w0 : World) (G : Gh) (W : World) (B3 B6 B7 BR : Nat) : Prop where
 ext : ExtB n0 G0 w0 G W
 sinv : SInv gl G W σ
 clean : Go.Ab.Clean G 0
 o3 : Own1 n0 G B3
 o6 : Own1 n0 G B6
 o7 : Own1 n0 G B7
 orr : Own1 n0 G BR
 l3 : B3 < W.heap.size
 l6 : B6 < W.heap.size
 l7 : B7 < W.heap.size
 lr : BR < W.heap.size
 n0 : n0 ≤ W.heap.size
section
variable {gl : Nat → Option (List V)} {σ σ2 : Sto} {n0 : Nat} {G0 G G2 : Gh} {w0 W W2 : World} {B3 B6 B7 BR : Nat}
theorem Mk.WkG.write (h : Mk.WkG gl σ n0 G0 w0 G W B3 B6 B7 BR) (m : Mine n0 G W W2) : Mk.WkG gl σ n0 G0 w0 G W2 B3 B6 B7 BR where
 ext := h.ext.trans (m.extB h.sinv.wf h.n0)
 sinv := m.sinv h.sinv
 clean := h.clean
 o3 := h.o3
 o6 := h.o6
 o7 := h.o7
 orr := h.orr
 l3 := Nat.lt_of_lt_of_le h.l3 m.size
 l6 := Nat.lt_of_lt_of_le h.l6 m.size
 l7 := Nat.lt_of_lt_of_le h.l7 m.size
 lr := Nat.lt_of_lt_of_le h.lr m.size
 n0 := Nat.le_trans h.n0 m.size
theorem Mk.WkG.called (h : Mk.WkG gl σ n0 G0 w0 G W B3 B6 B7 BR) (e : Ext G W G2 W2) (s : SInv gl G2 W2 σ2) (c : Go.Ab.Clean G2 0) :
  Mk.WkG gl σ2 n0 G0 w0 G2 W2 B3 B6 B7 BR ∧ W2.heap[B3]? = W.heap[B3]? ∧ W2.heap[B6]? = W.heap[B6]? ∧ W2.heap[B7]? = W.heap[B7]? ∧ W2.heap[BR]? = W.heap[BR]? := by
 obtain ⟨p3, q3⟩ := h.o3.ext e h.l3
 obtain ⟨p6, q6⟩ := h.o6.ext e h.l6
 obtain ⟨p7, q7⟩ := h.o7.ext e h.l7
 obtain ⟨pr, qr⟩ := h.orr.ext e h.lr
 exact ⟨⟨h.ext.trans (e.toB h.n0), s, c, p3, p6, p7, pr, Nat.lt_of_lt_of_le h.l3 e.size, Nat.lt_of_lt_of_le h.l6 e.size, Nat.lt_of_lt_of_le h.l7 e.size, Nat.lt_of_lt_of_le h.lr e.size, Nat.le_trans h.n0 e.size⟩, q3, q6, q7, qr⟩
end
structure Mk.WkC (W : World) (B3 B6 B7 BR : Nat) (c3 c7 rs : Array Value) : Prop where
 b3 : W.heap[B3]? = some (.cells c3 29 (0, 0))
 b6 : W.heap[B6]? = some (.cells #[.int .i64 0, .int .i64 0, .string ⟨#[]⟩, .slice none 0 0, .slice none 0 0] 29 (0, 0))
 b7 : W.heap[B7]? = some (.cells c7 29 (0, 0))
 row : W.heap[BR]? = some (.cells rs 29 (0, 0))
theorem cell_of {W : World} {B : Nat} {cs : Array Value} {t : TypeId} {fr : Nat × Nat} (h : W.heap[B]? = some (.cells cs t fr)) (o : Nat) : W.cell? ⟨B, o, none⟩ = cs[o]? := by simp [World.cell?, h]
theorem frozen_of {W : World} {B : Nat} {cs : Array Value} {t : TypeId} (h : W.heap[B]? = some (.cells cs t (0, 0))) (o : Nat) : W.frozen? ⟨B, o, none⟩ = false := by simp [World.frozen?, h]
theorem heap_new {w : World} {o : Obj} {B : Nat} (h : B = w.heap.size) : (w.alloc o).heap[B]? = some o := by subst h; exact heap_alloc_new _ _
theorem heap_after {W : World} {B : Nat} {o x : Obj} (h : W.heap[B]? = some x) : (W.alloc o).heap[B]? = some x := by
 rw [heap_alloc_lt (Array.getElem?_eq_some_iff.1 h).1]; exact h
theorem keepc {w w' : World} (hB : Below w.heap.size w w') {p : Addr} {x : Value} (h : w.cell? p = some x) : w'.cell? p = some x := (hB.cell (World.block_lt_of_cell? _ _ h)).trans h
theorem keepa {w : World} {p : Addr} {x : Value} (h : w.cell? p = some x) (o : Obj) : (w.alloc o).cell? p = some x := keepc ((Below.refl _ _).alloc (Nat.le_refl _) o) h
theorem set5 {W : World} {B o BR i : Nat} {v x0 x1 x2 x3 x4 : Value} (hne : B ≠ BR) (h : W.cell? ⟨B, o, none⟩ = some v) :
  (((((W.setCell ⟨BR, i, none⟩ x0).setCell ⟨BR, i + 1, none⟩ x1).setCell ⟨BR, i + 2, none⟩ x2).setCell ⟨BR, i + 3, none⟩ x3).setCell ⟨BR, i + 4, none⟩ x4).cell? ⟨B, o, none⟩ = some v := by
 have hb : ∀ j, (⟨BR, j, none⟩ : Addr) ≠ ⟨B, o, none⟩ := fun j e => hne (by injection e with e; exact e.symm)
 rw [World.cell?_setCell_other _ _ _ _ (hb _), World.cell?_setCell_other _ _ _ _ (hb _), World.cell?_setCell_other _ _ _ _ (hb _), World.cell?_setCell_other _ _ _ _ (hb _), World.cell?_setCell_other _ _ _ _ (hb _)]
 exact h
structure Mk.Five (W : World) (b off : Nat) (y0 y1 y2 y3 y4 : Value) : Prop where
 c0 : W.cell? ⟨b, off, none⟩ = some y0
 c1 : W.cell? ⟨b, off + 1, none⟩ = some y1
 c2 : W.cell? ⟨b, off + 2, none⟩ = some y2
 c3 : W.cell? ⟨b, off + 3, none⟩ = some y3
 c4 : W.cell? ⟨b, off + 4, none⟩ = some y4
def Mk.WkT (B3 B6 B7 BR B9 : Nat) (c3 c7 rs : Array Value) (y0 y1 y2 y3 y4 : Value) (b off : Nat) (z0 z1 z2 z3 z4 : Value) (K : World → Value → Value → Value → Value → Value → Prop) : Ending → World → Prop := fun e W2 =>
 ∃ x0 x1 x2 x3 x4, e = .returned (.agg #[x0, x1, x2, x3, x4]) ∧ Mk.ShpW x0 x1 x2 x3 x4 ∧ Mk.WkC W2 B3 B6 B7 BR c3 c7 rs ∧ Mk.Five W2 b off z0 z1 z2 z3 z4 ∧ Mk.Five W2 B9 0 y0 y1 y2 y3 y4 ∧ Hid (K W2 x0 x1 x2 x3 x4)
theorem near5 (W : World) (BR i : Nat) {y0 y1 y2 y3 y4 : Value} : Near BR BR W (((((W.setCell ⟨BR, i, none⟩ y0).setCell ⟨BR, i + 1, none⟩ y1).setCell ⟨BR, i + 2, none⟩ y2).setCell ⟨BR, i + 3, none⟩ y3).setCell ⟨BR, i + 4, none⟩ y4) :=
 (((((Near.refl BR BR W).setCell ⟨BR, i, none⟩ (.inl rfl) _).setCell ⟨BR, i + 1, none⟩ (.inl rfl) _).setCell ⟨BR, i + 2, none⟩ (.inl rfl) _).setCell ⟨BR, i + 3, none⟩ (.inl rfl) _).setCell ⟨BR, i + 4, none⟩ (.inl rfl) _
theorem Mk.Five.set {W : World} {b off BR i : Nat} {y0 y1 y2 y3 y4 x0 x1 x2 x3 x4 : Value} (h : Mk.Five W b off y0 y1 y2 y3 y4) (hne : b ≠ BR) :
  Mk.Five (((((W.setCell ⟨BR, i, none⟩ x0).setCell ⟨BR, i + 1, none⟩ x1).setCell ⟨BR, i + 2, none⟩ x2).setCell ⟨BR, i + 3, none⟩ x3).setCell ⟨BR, i + 4, none⟩ x4) b off y0 y1 y2 y3 y4 :=
 ⟨set5 hne h.c0, set5 hne h.c1, set5 hne h.c2, set5 hne h.c3, set5 hne h.c4⟩
theorem Mk.Five.keep4 {w : World} {b off : Nat} {y0 y1 y2 y3 y4 : Value} (h : Mk.Five w b off y0 y1 y2 y3 y4) {o1 o2 o3 o4 : Obj} : Mk.Five ((((w.alloc o1).alloc o2).alloc o3).alloc o4) b off y0 y1 y2 y3 y4 :=
 ⟨keepa (keepa (keepa (keepa h.c0 o1) o2) o3) o4, keepa (keepa (keepa (keepa h.c1 o1) o2) o3) o4, keepa (keepa (keepa (keepa h.c2 o1) o2) o3) o4, keepa (keepa (keepa (keepa h.c3 o1) o2) o3) o4, keepa (keepa (keepa (keepa h.c4 o1) o2) o3) o4⟩
structure Mk.Fresh (w W : World) (B3 B6 B7 BR : Nat) : Prop where
 b3 : B3 = w.heap.size
 b6 : B6 = w.heap.size + 1
 b7 : B7 = w.heap.size + 1 + 1
 br : BR = w.heap.size + 1 + 1 + 1
 below : Below w.heap.size w W
theorem Mk.Fresh.start (w : World) (o1 o2 o3 o4 : Obj) : Mk.Fresh w ((((w.alloc o1).alloc o2).alloc o3).alloc o4) w.heap.size (w.heap.size + 1) (w.heap.size + 1 + 1) (w.heap.size + 1 + 1 + 1) :=
 ⟨rfl, rfl, rfl, rfl, ((((Below.refl _ _).alloc (Nat.le_refl _) _).alloc (by simp) _).alloc (by simp; omega) _).alloc (by simp; omega) _⟩
theorem Mk.WkC.set5 {W : World} {B3 B6 B7 BR : Nat} {c3 c7 rs : Array Value} (h : Mk.WkC W B3 B6 B7 BR c3 c7 rs) (h3 : B3 ≠ BR) (h6 : B6 ≠ BR) (h7 : B7 ≠ BR) (i : Nat) (x0 x1 x2 x3 x4 : Value) :
  Mk.WkC (((((W.setCell ⟨BR, i, none⟩ x0).setCell ⟨BR, i + 1, none⟩ x1).setCell ⟨BR, i + 2, none⟩ x2).setCell ⟨BR, i + 3, none⟩ x3).setCell ⟨BR, i + 4, none⟩ x4) B3 B6 B7 BR c3 c7
   (((((rs.setIfInBounds i x0).setIfInBounds (i + 1) x1).setIfInBounds (i + 2) x2).setIfInBounds (i + 3) x3).setIfInBounds (i + 4) x4) where
 b3 := ((near5 W BR i).heap B3 h3 h3).trans h.b3
 b6 := ((near5 W BR i).heap B6 h6 h6).trans h.b6
 b7 := ((near5 W BR i).heap B7 h7 h7).trans h.b7
 row := heap_setCell_same _ _ _ _ _ _ (heap_setCell_same _ _ _ _ _ _ (heap_setCell_same _ _ _ _ _ _ (heap_setCell_same _ _ _ _ _ _ (heap_setCell_same _ _ _ _ _ _ h.row))))
theorem Mk.walk_end5 {W : World} {B6 : Nat} {x0 x1 x2 x3 x4 : Value} (h6 : W.heap[B6]? = some (.cells #[.int .i64 0, .int .i64 0, .string ⟨#[]⟩, .slice none 0 0, .slice none 0 0] 29 (0, 0)))
  {Q : Ending → World → Prop} {tmps : Array Value} (ht : tmps[6]? = some (.pointer (some ⟨B6, 0, none⟩)))
  (hQ : Q (.returned (.agg #[x0, x1, x2, x3, x4])) (((((W.setCell ⟨B6, 0, none⟩ x0).setCell ⟨B6, 0 + 1, none⟩ x1).setCell ⟨B6, 0 + 2, none⟩ x2).setCell ⟨B6, 0 + 3, none⟩ x3).setCell ⟨B6, 0 + 4, none⟩ x4)) :
  bodyPost Tryd.prog Tryd.f42 Q .ret { tmps := tmps, defers := [] } (((((W.setCell ⟨B6, 0, none⟩ x0).setCell ⟨B6, 1, none⟩ x1).setCell ⟨B6, 2, none⟩ x2).setCell ⟨B6, 3, none⟩ x3).setCell ⟨B6, 4, none⟩ x4) := by
 have hr : (((((W.setCell ⟨B6, 0, none⟩ x0).setCell ⟨B6, 1, none⟩ x1).setCell ⟨B6, 2, none⟩ x2).setCell ⟨B6, 3, none⟩ x3).setCell ⟨B6, 4, none⟩ x4).heap[B6]? = some (.cells #[x0, x1, x2, x3, x4] 29 (0, 0)) :=
  heap_setCell_same _ _ _ _ _ _ (heap_setCell_same _ _ _ _ _ _ (heap_setCell_same _ _ _ _ _ _ (heap_setCell_same _ _ _ _ _ _ (heap_setCell_same _ _ _ _ _ _ h6))))
 generalize hW : (((((W.setCell ⟨B6, 0, none⟩ x0).setCell ⟨B6, 1, none⟩ x1).setCell ⟨B6, 2, none⟩ x2).setCell ⟨B6, 3, none⟩ x3).setCell ⟨B6, 4, none⟩ x4) = W' at hr
 have hQ' : Q (.returned (.agg #[x0, x1, x2, x3, x4])) W' := by rw [← hW]; exact hQ
 have k0 : W'.cell? ⟨B6, 0, none⟩ = some x0 := cell_of hr 0
 have k1 : W'.cell? ⟨B6, 1, none⟩ = some x1 := cell_of hr 1
 have k2 : W'.cell? ⟨B6, 2, none⟩ = some x2 := cell_of hr 2
 have k3 : W'.cell? ⟨B6, 3, none⟩ = some x3 := cell_of hr 3
 have k4 : W'.cell? ⟨B6, 4, none⟩ = some x4 := cell_of hr 4
 refine bodyPost_ret (v := .agg #[x0, x1, x2, x3, x4]) ?_ rfl hQ'
 simp [results, Tryd.results42, ht, k0, k1, k2, k3, k4, go_sem]
end Go.Proofs
end
section
namespace Go.Proofs
open Go.RowKit Go.Ab Go.Ab.Mk
set_option maxRecDepth 100000
set_option maxHeartbeats 2000000
theorem Mk.walk_app (n : Int) (s : ByteArray) (pl : Option Addr) (ll cl ca b off : Nat) (d : Int) (fv : Value) (w : World) (y00 y01 y02 y03 y04 y10 y11 y12 y13 y14 : Value) (Q : Ending → World → Prop)
  (hy0 : Mk.ShpW y00 y01 y02 y03 y04) (hy1 : Mk.ShpW y10 y11 y12 y13 y14) (g0 : Mk.Five w b off y00 y01 y02 y03 y04) (g1 : Mk.Five w b (off + 5) y10 y11 y12 y13 y14)
  (h : ∀ W B3 B6 B7 BR, Mk.Fresh w W B3 B6 B7 BR → Mk.WkC W B3 B6 B7 BR #[.int .i64 3, .int .i64 n, .string s, .slice pl ll cl, .slice (some ⟨b, off, none⟩) 2 ca] #[.int .i64 3, .int .i64 n, .string s, .slice pl ll cl, .slice (some ⟨BR, 0, none⟩) 2 2] #[.int .i64 0, .int .i64 0, .string ⟨#[]⟩, .slice none 0 0, .slice none 0 0, .int .i64 0, .int .i64 0, .string ⟨#[]⟩, .slice none 0 0, .slice none 0 0] → Mk.Five W b off y00 y01 y02 y03 y04 → Hid (Calls Tryd.prog 42 #[.agg #[y00, y01, y02, y03, y04], .int .i64 d, fv] (W.alloc (.cells #[y00, y01, y02, y03, y04] 29)).drew (Mk.WkT B3 B6 B7 BR W.heap.size #[.int .i64 3, .int .i64 n, .string s, .slice pl ll cl, .slice (some ⟨b, off, none⟩) 2 ca] #[.int .i64 3, .int .i64 n, .string s, .slice pl ll cl, .slice (some ⟨BR, 0, none⟩) 2 2] #[.int .i64 0, .int .i64 0, .string ⟨#[]⟩, .slice none 0 0, .slice none 0 0, .int .i64 0, .int .i64 0, .string ⟨#[]⟩, .slice none 0 0, .slice none 0 0] y00 y01 y02 y03 y04 b (off + 5) y10 y11 y12 y13 y14 fun W2 x00 x01 x02 x03 x04 => ∀ W3, Near BR BR W2 W3 → Mk.WkC W3 B3 B6 B7 BR #[.int .i64 3, .int .i64 n, .string s, .slice pl ll cl, .slice (some ⟨b, off, none⟩) 2 ca] #[.int .i64 3, .int .i64 n, .string s, .slice pl ll cl, .slice (some ⟨BR, 0, none⟩) 2 2] #[x00, x01, x02, x03, x04, .int .i64 0, .int .i64 0, .string ⟨#[]⟩, .slice none 0 0, .slice none 0 0] → Mk.Five W3 b (off + 5) y10 y11 y12 y13 y14 → Hid (Calls Tryd.prog 42 #[.agg #[y10, y11, y12, y13, y14], .int .i64 d, fv] (W3.alloc (.cells #[y10, y11, y12, y13, y14] 29)).drew (Mk.WkT B3 B6 B7 BR W3.heap.size #[.int .i64 3, .int .i64 n, .string s, .slice pl ll cl, .slice (some ⟨b, off, none⟩) 2 ca] #[.int .i64 3, .int .i64 n, .string s, .slice pl ll cl, .slice (some ⟨BR, 0, none⟩) 2 2] #[x00, x01, x02, x03, x04, .int .i64 0, .int .i64 0, .string ⟨#[]⟩, .slice none 0 0, .slice none 0 0] y10 y11 y12 y13 y14 b (off + 5) y10 y11 y12 y13 y14 fun W2 x10 x11 x12 x13 x14 => ∀ W3, Near BR BR W2 W3 → Mk.WkC W3 B3 B6 B7 BR #[.int .i64 3, .int .i64 n, .string s, .slice pl ll cl, .slice (some ⟨b, off, none⟩) 2 ca] #[.int .i64 3, .int .i64 n, .string s, .slice pl ll cl, .slice (some ⟨BR, 0, none⟩) 2 2] #[x00, x01, x02, x03, x04, x10, x11, x12, x13, x14] → Hid (∀ W4, Near B6 B6 W3 W4 → Q (.returned (.agg #[.int .i64 3, .int .i64 n, .string s, .slice pl ll cl, .slice (some ⟨BR, 0, none⟩) 2 2])) W4)))))) :
  Calls Tryd.prog 42 #[.agg #[.int .i64 3, .int .i64 n, .string s, .slice pl ll cl, .slice (some ⟨b, off, none⟩) 2 ca], .int .i64 d, fv] w Q := by
 have hms := Mk.make_two
 go_enter Tryd.func42, Tryd.ntmps42
 go_wp2_with fail
 refine wp_loop_rounds 3 ?_
 have hC : Mk.WkC ((((w.alloc (.cells #[.int .i64 3, .int .i64 n, .string s, .slice pl ll cl, .slice (some ⟨b, off, none⟩) 2 ca] 29)).alloc (.cells #[.int .i64 0, .int .i64 0, .string ⟨#[]⟩, .slice none 0 0, .slice none 0 0] 29)).alloc (.cells #[.int .i64 3, .int .i64 n, .string s, .slice pl ll cl, .slice (some ⟨w.heap.size + 1 + 1 + 1, 0, none⟩) 2 2] 29)).alloc (.cells #[.int .i64 0, .int .i64 0, .string ⟨#[]⟩, .slice none 0 0, .slice none 0 0, .int .i64 0, .int .i64 0, .string ⟨#[]⟩, .slice none 0 0, .slice none 0 0] 29)) w.heap.size (w.heap.size + 1) (w.heap.size + 1 + 1) (w.heap.size + 1 + 1 + 1) #[.int .i64 3, .int .i64 n, .string s, .slice pl ll cl, .slice (some ⟨b, off, none⟩) 2 ca] #[.int .i64 3, .int .i64 n, .string s, .slice pl ll cl, .slice (some ⟨w.heap.size + 1 + 1 + 1, 0, none⟩) 2 2] #[.int .i64 0, .int .i64 0, .string ⟨#[]⟩, .slice none 0 0, .slice none 0 0, .int .i64 0, .int .i64 0, .string ⟨#[]⟩, .slice none 0 0, .slice none 0 0] :=
  ⟨heap_after (heap_after (heap_after (heap_new rfl))), heap_after (heap_after (heap_new (by simp))), heap_after (heap_new (by simp)), heap_new (by simp)⟩
 have hF : Mk.Fresh w ((((w.alloc (.cells #[.int .i64 3, .int .i64 n, .string s, .slice pl ll cl, .slice (some ⟨b, off, none⟩) 2 ca] 29)).alloc (.cells #[.int .i64 0, .int .i64 0, .string ⟨#[]⟩, .slice none 0 0, .slice none 0 0] 29)).alloc (.cells #[.int .i64 3, .int .i64 n, .string s, .slice pl ll cl, .slice (some ⟨w.heap.size + 1 + 1 + 1, 0, none⟩) 2 2] 29)).alloc (.cells #[.int .i64 0, .int .i64 0, .string ⟨#[]⟩, .slice none 0 0, .slice none 0 0, .int .i64 0, .int .i64 0, .string ⟨#[]⟩, .slice none 0 0, .slice none 0 0] 29)) w.heap.size (w.heap.size + 1) (w.heap.size + 1 + 1) (w.heap.size + 1 + 1 + 1) := Mk.Fresh.start w _ _ _ _
 have f0 := g0.keep4 (o1 := .cells #[.int .i64 3, .int .i64 n, .string s, .slice pl ll cl, .slice (some ⟨b, off, none⟩) 2 ca] 29) (o2 := .cells #[.int .i64 0, .int .i64 0, .string ⟨#[]⟩, .slice none 0 0, .slice none 0 0] 29) (o3 := .cells #[.int .i64 3, .int .i64 n, .string s, .slice pl ll cl, .slice (some ⟨w.heap.size + 1 + 1 + 1, 0, none⟩) 2 2] 29) (o4 := .cells #[.int .i64 0, .int .i64 0, .string ⟨#[]⟩, .slice none 0 0, .slice none 0 0, .int .i64 0, .int .i64 0, .string ⟨#[]⟩, .slice none 0 0, .slice none 0 0] 29)
 have hneb : b ≠ w.heap.size + 1 + 1 + 1 := by have := World.block_lt_of_cell? _ _ g0.c0; simp only at this; omega
 rw [rounds_succ]
 generalize hW : ((((w.alloc (.cells #[.int .i64 3, .int .i64 n, .string s, .slice pl ll cl, .slice (some ⟨b, off, none⟩) 2 ca] 29)).alloc (.cells #[.int .i64 0, .int .i64 0, .string ⟨#[]⟩, .slice none 0 0, .slice none 0 0] 29)).alloc (.cells #[.int .i64 3, .int .i64 n, .string s, .slice pl ll cl, .slice (some ⟨w.heap.size + 1 + 1 + 1, 0, none⟩) 2 2] 29)).alloc (.cells #[.int .i64 0, .int .i64 0, .string ⟨#[]⟩, .slice none 0 0, .slice none 0 0, .int .i64 0, .int .i64 0, .string ⟨#[]⟩, .slice none 0 0, .slice none 0 0] 29)) = W at *
 have hh := h W _ _ _ _ hF hC f0
 clear hW h hms hF g0 g1
 generalize w.heap.size + 1 + 1 + 1 = BR at *
 generalize w.heap.size + 1 + 1 = B7 at *
 generalize w.heap.size + 1 = B6 at *
 generalize w.heap.size = B3 at *
 have hne7 : B7 ≠ BR := by rintro rfl; have h1 := hC.b7; rw [hC.row] at h1; simp at h1
 have hne6 : B6 ≠ BR := by rintro rfl; have h1 := hC.b6; rw [hC.row] at h1; simp at h1
 have hne3 : B3 ≠ BR := by rintro rfl; have h1 := hC.b3; rw [hC.row] at h1; simp at h1
 have hne67 : B7 ≠ B6 := by rintro rfl; have h1 := hC.b7; rw [hC.b6] at h1; simp at h1
 obtain ⟨u0n, u0m, u0s, u0p, u0l, u0c, u0pp, u0ll, u0cc⟩ := hy0
 obtain ⟨e0, e1, e2, e3, e4⟩ := f0
 have k30 : W.cell? ⟨B3, 0, none⟩ = some (.int .i64 3) := cell_of hC.b3 0
 have k30' := keepa k30
 have k34 : W.cell? ⟨B3, 4, none⟩ = some (.slice (some ⟨b, off, none⟩) 2 ca) := cell_of hC.b3 4
 have k34' := keepa k34
 have hlt := (Array.getElem?_eq_some_iff.1 hC.row).1
 have hne9 : W.heap.size ≠ BR := by omega
 have n0 : (W.alloc (.cells #[.int .i64 u0n, .int .i64 u0m, .string u0s, .slice u0p u0l u0c, .slice u0pp u0ll u0cc] 29)).cell? ⟨W.heap.size, 0, none⟩ = some (.int .i64 u0n) := cell_of (heap_new rfl) 0
 have n1 : (W.alloc (.cells #[.int .i64 u0n, .int .i64 u0m, .string u0s, .slice u0p u0l u0c, .slice u0pp u0ll u0cc] 29)).cell? ⟨W.heap.size, 1, none⟩ = some (.int .i64 u0m) := cell_of (heap_new rfl) 1
 have n2 : (W.alloc (.cells #[.int .i64 u0n, .int .i64 u0m, .string u0s, .slice u0p u0l u0c, .slice u0pp u0ll u0cc] 29)).cell? ⟨W.heap.size, 2, none⟩ = some (.string u0s) := cell_of (heap_new rfl) 2
 have n3 : (W.alloc (.cells #[.int .i64 u0n, .int .i64 u0m, .string u0s, .slice u0p u0l u0c, .slice u0pp u0ll u0cc] 29)).cell? ⟨W.heap.size, 3, none⟩ = some (.slice u0p u0l u0c) := cell_of (heap_new rfl) 3
 have n4 : (W.alloc (.cells #[.int .i64 u0n, .int .i64 u0m, .string u0s, .slice u0p u0l u0c, .slice u0pp u0ll u0cc] 29)).cell? ⟨W.heap.size, 4, none⟩ = some (.slice u0pp u0ll u0cc) := cell_of (heap_new rfl) 4
 have k74 : W.cell? ⟨B7, 4, none⟩ = some (.slice (some ⟨BR, 0, none⟩) 2 2) := cell_of hC.b7 4
 have k74' := keepa k74 (.cells #[.int .i64 u0n, .int .i64 u0m, .string u0s, .slice u0p u0l u0c, .slice u0pp u0ll u0cc] 29)
 clear hlt hC
 go_wp2_with fail
 clear k30 k30' k34 k34' k74 e0 e1 e2 e3 e4
 generalize W.heap.size = B9 at *
 generalize W.alloc (.cells #[.int .i64 u0n, .int .i64 u0m, .string u0s, .slice u0p u0l u0c, .slice u0pp u0ll u0cc] 29) = W1 at *
 go_region_held3 (fun w' => w'.cell? ⟨B7, 4, none⟩ = some (.slice (some ⟨BR, 0, none⟩) 2 2) ∧ w'.cell? ⟨B9, 0, none⟩ = some (.int .i64 u0n) ∧ w'.cell? ⟨B9, 1, none⟩ = some (.int .i64 u0m) ∧ w'.cell? ⟨B9, 2, none⟩ = some (.string u0s) ∧ w'.cell? ⟨B9, 3, none⟩ = some (.slice u0p u0l u0c) ∧ w'.cell? ⟨B9, 4, none⟩ = some (.slice u0pp u0ll u0cc)) (first | go_keep | (refine ⟨?_, ?_, ?_, ?_, ?_, ?_⟩ <;> first | exact set5 (i := 0) hne7 (by assumption) | exact set5 (i := 0) hne9 (by assumption)))
  (first | (go_at_call 42; refine hh.out.mono ?_; rintro e W2 ⟨x00, x01, x02, x03, x04, rfl, hx, hC1, g2, g9, hK⟩; have k74 : W2.cell? ⟨B7, 4, none⟩ = some (.slice (some ⟨BR, 0, none⟩) 2 2) := cell_of hC1.b7 4; have r0 : W2.cell? ⟨BR, 0, none⟩ = some (.int .i64 0) := cell_of hC1.row 0; have r1 : W2.cell? ⟨BR, 1, none⟩ = some (.int .i64 0) := cell_of hC1.row 1; have r2 : W2.cell? ⟨BR, 2, none⟩ = some (.string ⟨#[]⟩) := cell_of hC1.row 2; have r3 : W2.cell? ⟨BR, 3, none⟩ = some (.slice none 0 0) := cell_of hC1.row 3; have r4 : W2.cell? ⟨BR, 4, none⟩ = some (.slice none 0 0) := cell_of hC1.row 4; have q0 := frozen_of hC1.row 0; have q1 := frozen_of hC1.row 1; have q2 := frozen_of hC1.row 2; have q3 := frozen_of hC1.row 3; have q4 := frozen_of hC1.row 4; obtain ⟨v0n, v0m, v0s, v0p, v0l, v0c, v0pp, v0ll, v0cc⟩ := hx; obtain ⟨m0, m1, m2, m3, m4⟩ := g9))
 clear hh n0 n1 n2 n3 n4 k74 k74' r0 r1 r2 r3 r4 q0 q1 q2 q3 q4 m0 m1 m2 m3 m4 hne9
 have hN : Near BR BR W2 (((((W2.setCell ⟨BR, 0, none⟩ (.int .i64 v0n)).setCell ⟨BR, 1, none⟩ (.int .i64 v0m)).setCell ⟨BR, 2, none⟩ (.string v0s)).setCell ⟨BR, 3, none⟩ (.slice v0p v0l v0c)).setCell ⟨BR, 4, none⟩ (.slice v0pp v0ll v0cc)) := near5 _ _ _
 have hC1' := hC1.set5 hne3 hne6 hne7 0 (.int .i64 v0n) (.int .i64 v0m) (.string v0s) (.slice v0p v0l v0c) (.slice v0pp v0ll v0cc)
 have f1' : Mk.Five (((((W2.setCell ⟨BR, 0, none⟩ (.int .i64 v0n)).setCell ⟨BR, 1, none⟩ (.int .i64 v0m)).setCell ⟨BR, 2, none⟩ (.string v0s)).setCell ⟨BR, 3, none⟩ (.slice v0p v0l v0c)).setCell ⟨BR, 4, none⟩ (.slice v0pp v0ll v0cc)) b (off + 5) y10 y11 y12 y13 y14 := g2.set hneb
 generalize (((((W2.setCell ⟨BR, 0, none⟩ (.int .i64 v0n)).setCell ⟨BR, 1, none⟩ (.int .i64 v0m)).setCell ⟨BR, 2, none⟩ (.string v0s)).setCell ⟨BR, 3, none⟩ (.slice v0p v0l v0c)).setCell ⟨BR, 4, none⟩ (.slice v0pp v0ll v0cc)) = W13 at *
 have hh := hK.out W13 hN hC1' f1'
 clear hK hN g2 hC1
 have hC1 : Mk.WkC W13 B3 B6 B7 BR #[.int .i64 3, .int .i64 n, .string s, .slice pl ll cl, .slice (some ⟨b, off, none⟩) 2 ca] #[.int .i64 3, .int .i64 n, .string s, .slice pl ll cl, .slice (some ⟨BR, 0, none⟩) 2 2] #[.int .i64 v0n, .int .i64 v0m, .string v0s, .slice v0p v0l v0c, .slice v0pp v0ll v0cc, .int .i64 0, .int .i64 0, .string ⟨#[]⟩, .slice none 0 0, .slice none 0 0] := hC1'
 clear hC1'
 have f1 := f1'
 clear f1'
 go_wp2_with fail
 rw [rounds_succ]
 obtain ⟨u1n, u1m, u1s, u1p, u1l, u1c, u1pp, u1ll, u1cc⟩ := hy1
 obtain ⟨e0, e1, e2, e3, e4⟩ := f1
 have k30 : W13.cell? ⟨B3, 0, none⟩ = some (.int .i64 3) := cell_of hC1.b3 0
 have k30' := keepa k30
 have k34 : W13.cell? ⟨B3, 4, none⟩ = some (.slice (some ⟨b, off, none⟩) 2 ca) := cell_of hC1.b3 4
 have k34' := keepa k34
 have hlt := (Array.getElem?_eq_some_iff.1 hC1.row).1
 have hne9 : W13.heap.size ≠ BR := by omega
 have n0 : (W13.alloc (.cells #[.int .i64 u1n, .int .i64 u1m, .string u1s, .slice u1p u1l u1c, .slice u1pp u1ll u1cc] 29)).cell? ⟨W13.heap.size, 0, none⟩ = some (.int .i64 u1n) := cell_of (heap_new rfl) 0
 have n1 : (W13.alloc (.cells #[.int .i64 u1n, .int .i64 u1m, .string u1s, .slice u1p u1l u1c, .slice u1pp u1ll u1cc] 29)).cell? ⟨W13.heap.size, 1, none⟩ = some (.int .i64 u1m) := cell_of (heap_new rfl) 1
 have n2 : (W13.alloc (.cells #[.int .i64 u1n, .int .i64 u1m, .string u1s, .slice u1p u1l u1c, .slice u1pp u1ll u1cc] 29)).cell? ⟨W13.heap.size, 2, none⟩ = some (.string u1s) := cell_of (heap_new rfl) 2
 have n3 : (W13.alloc (.cells #[.int .i64 u1n, .int .i64 u1m, .string u1s, .slice u1p u1l u1c, .slice u1pp u1ll u1cc] 29)).cell? ⟨W13.heap.size, 3, none⟩ = some (.slice u1p u1l u1c) := cell_of (heap_new rfl) 3
 have n4 : (W13.alloc (.cells #[.int .i64 u1n, .int .i64 u1m, .string u1s, .slice u1p u1l u1c, .slice u1pp u1ll u1cc] 29)).cell? ⟨W13.heap.size, 4, none⟩ = some (.slice u1pp u1ll u1cc) := cell_of (heap_new rfl) 4
 have k74 : W13.cell? ⟨B7, 4, none⟩ = some (.slice (some ⟨BR, 0, none⟩) 2 2) := cell_of hC1.b7 4
 have k74' := keepa k74 (.cells #[.int .i64 u1n, .int .i64 u1m, .string u1s, .slice u1p u1l u1c, .slice u1pp u1ll u1cc] 29)
 clear hlt hC1
 go_wp2_with fail
 clear k30 k30' k34 k34' k74 e0 e1 e2 e3 e4
 generalize W13.heap.size = B9 at *
 generalize W13.alloc (.cells #[.int .i64 u1n, .int .i64 u1m, .string u1s, .slice u1p u1l u1c, .slice u1pp u1ll u1cc] 29) = W1 at *
 go_region_held3 (fun w' => w'.cell? ⟨B7, 4, none⟩ = some (.slice (some ⟨BR, 0, none⟩) 2 2) ∧ w'.cell? ⟨B9, 0, none⟩ = some (.int .i64 u1n) ∧ w'.cell? ⟨B9, 1, none⟩ = some (.int .i64 u1m) ∧ w'.cell? ⟨B9, 2, none⟩ = some (.string u1s) ∧ w'.cell? ⟨B9, 3, none⟩ = some (.slice u1p u1l u1c) ∧ w'.cell? ⟨B9, 4, none⟩ = some (.slice u1pp u1ll u1cc)) (first | go_keep | (refine ⟨?_, ?_, ?_, ?_, ?_, ?_⟩ <;> first | exact set5 (i := 5) hne7 (by assumption) | exact set5 (i := 5) hne9 (by assumption)))
  (first | (go_at_call 42; refine hh.out.mono ?_; rintro e W2 ⟨x10, x11, x12, x13, x14, rfl, hx, hC2, g2, g9, hK⟩; have k74 : W2.cell? ⟨B7, 4, none⟩ = some (.slice (some ⟨BR, 0, none⟩) 2 2) := cell_of hC2.b7 4; have r0 : W2.cell? ⟨BR, 5, none⟩ = some (.int .i64 0) := cell_of hC2.row 5; have r1 : W2.cell? ⟨BR, 6, none⟩ = some (.int .i64 0) := cell_of hC2.row 6; have r2 : W2.cell? ⟨BR, 7, none⟩ = some (.string ⟨#[]⟩) := cell_of hC2.row 7; have r3 : W2.cell? ⟨BR, 8, none⟩ = some (.slice none 0 0) := cell_of hC2.row 8; have r4 : W2.cell? ⟨BR, 9, none⟩ = some (.slice none 0 0) := cell_of hC2.row 9; have q0 := frozen_of hC2.row 5; have q1 := frozen_of hC2.row 6; have q2 := frozen_of hC2.row 7; have q3 := frozen_of hC2.row 8; have q4 := frozen_of hC2.row 9; obtain ⟨v1n, v1m, v1s, v1p, v1l, v1c, v1pp, v1ll, v1cc⟩ := hx; obtain ⟨m0, m1, m2, m3, m4⟩ := g9))
 clear hh n0 n1 n2 n3 n4 k74 k74' r0 r1 r2 r3 r4 q0 q1 q2 q3 q4 m0 m1 m2 m3 m4 hne9
 have hN : Near BR BR W2 (((((W2.setCell ⟨BR, 5, none⟩ (.int .i64 v1n)).setCell ⟨BR, 6, none⟩ (.int .i64 v1m)).setCell ⟨BR, 7, none⟩ (.string v1s)).setCell ⟨BR, 8, none⟩ (.slice v1p v1l v1c)).setCell ⟨BR, 9, none⟩ (.slice v1pp v1ll v1cc)) := near5 _ _ _
 have hC2' := hC2.set5 hne3 hne6 hne7 5 (.int .i64 v1n) (.int .i64 v1m) (.string v1s) (.slice v1p v1l v1c) (.slice v1pp v1ll v1cc)
 generalize (((((W2.setCell ⟨BR, 5, none⟩ (.int .i64 v1n)).setCell ⟨BR, 6, none⟩ (.int .i64 v1m)).setCell ⟨BR, 7, none⟩ (.string v1s)).setCell ⟨BR, 8, none⟩ (.slice v1p v1l v1c)).setCell ⟨BR, 9, none⟩ (.slice v1pp v1ll v1cc)) = W23 at *
 have hh := hK.out W23 hN hC2'
 clear hK hN g2 hC2
 have hC2 : Mk.WkC W23 B3 B6 B7 BR #[.int .i64 3, .int .i64 n, .string s, .slice pl ll cl, .slice (some ⟨b, off, none⟩) 2 ca] #[.int .i64 3, .int .i64 n, .string s, .slice pl ll cl, .slice (some ⟨BR, 0, none⟩) 2 2] #[.int .i64 v0n, .int .i64 v0m, .string v0s, .slice v0p v0l v0c, .slice v0pp v0ll v0cc, .int .i64 v1n, .int .i64 v1m, .string v1s, .slice v1p v1l v1c, .slice v1pp v1ll v1cc] := hC2'
 clear hC2'
 clear hne3 hne7 hne6 hneb
 have k70 : W23.cell? ⟨B7, 0, none⟩ = some (.int .i64 3) := cell_of hC2.b7 0
 have k71 : W23.cell? ⟨B7, 1, none⟩ = some (.int .i64 n) := cell_of hC2.b7 1
 have k72 : W23.cell? ⟨B7, 2, none⟩ = some (.string s) := cell_of hC2.b7 2
 have k73 : W23.cell? ⟨B7, 3, none⟩ = some (.slice pl ll cl) := cell_of hC2.b7 3
 have k74 : W23.cell? ⟨B7, 4, none⟩ = some (.slice (some ⟨BR, 0, none⟩) 2 2) := cell_of hC2.b7 4
 have r0 : W23.cell? ⟨B6, 0, none⟩ = some (.int .i64 0) := cell_of hC2.b6 0
 have r1 : W23.cell? ⟨B6, 1, none⟩ = some (.int .i64 0) := cell_of hC2.b6 1
 have r2 : W23.cell? ⟨B6, 2, none⟩ = some (.string ⟨#[]⟩) := cell_of hC2.b6 2
 have r3 : W23.cell? ⟨B6, 3, none⟩ = some (.slice none 0 0) := cell_of hC2.b6 3
 have r4 : W23.cell? ⟨B6, 4, none⟩ = some (.slice none 0 0) := cell_of hC2.b6 4
 have q0 := frozen_of hC2.b6 0
 have q1 := frozen_of hC2.b6 1
 have q2 := frozen_of hC2.b6 2
 have q3 := frozen_of hC2.b6 3
 have q4 := frozen_of hC2.b6 4
 go_wp2_with fail
 rw [rounds_succ]
 go_wp2_with fail
 have hN := near5 W23 B6 0 (y0 := .int .i64 3) (y1 := .int .i64 n) (y2 := .string s) (y3 := .slice pl ll cl) (y4 := .slice (some ⟨BR, 0, none⟩) 2 2)
 exact Mk.walk_end5 hC2.b6 rfl (hh.out _ hN)
theorem Mk.walk_bind (k : Int) (hk0 : 4 ≤ k) (hk1 : k ≤ 5) (n : Int) (s : ByteArray) (pl : Option Addr) (ll cl ca b off : Nat) (d : Int) (hd0 : 0 ≤ d) (hd1 : d < 1152921504606846976) (fv : Value) (w : World) (y00 y01 y02 y03 y04 y10 y11 y12 y13 y14 : Value) (Q : Ending → World → Prop)
  (hy0 : Mk.ShpW y00 y01 y02 y03 y04) (hy1 : Mk.ShpW y10 y11 y12 y13 y14) (g0 : Mk.Five w b off y00 y01 y02 y03 y04) (g1 : Mk.Five w b (off + 5) y10 y11 y12 y13 y14)
  (h : ∀ W B3 B6 B7 BR, Mk.Fresh w W B3 B6 B7 BR → Mk.WkC W B3 B6 B7 BR #[.int .i64 k, .int .i64 n, .string s, .slice pl ll cl, .slice (some ⟨b, off, none⟩) 2 ca] #[.int .i64 k, .int .i64 n, .string s, .slice pl ll cl, .slice (some ⟨BR, 0, none⟩) 2 2] #[.int .i64 0, .int .i64 0, .string ⟨#[]⟩, .slice none 0 0, .slice none 0 0, .int .i64 0, .int .i64 0, .string ⟨#[]⟩, .slice none 0 0, .slice none 0 0] → Mk.Five W b off y00 y01 y02 y03 y04 → Hid (Calls Tryd.prog 42 #[.agg #[y00, y01, y02, y03, y04], .int .i64 d, fv] (W.alloc (.cells #[y00, y01, y02, y03, y04] 29)).drew (Mk.WkT B3 B6 B7 BR W.heap.size #[.int .i64 k, .int .i64 n, .string s, .slice pl ll cl, .slice (some ⟨b, off, none⟩) 2 ca] #[.int .i64 k, .int .i64 n, .string s, .slice pl ll cl, .slice (some ⟨BR, 0, none⟩) 2 2] #[.int .i64 0, .int .i64 0, .string ⟨#[]⟩, .slice none 0 0, .slice none 0 0, .int .i64 0, .int .i64 0, .string ⟨#[]⟩, .slice none 0 0, .slice none 0 0] y00 y01 y02 y03 y04 b (off + 5) y10 y11 y12 y13 y14 fun W2 x00 x01 x02 x03 x04 => ∀ W3, Near BR BR W2 W3 → Mk.WkC W3 B3 B6 B7 BR #[.int .i64 k, .int .i64 n, .string s, .slice pl ll cl, .slice (some ⟨b, off, none⟩) 2 ca] #[.int .i64 k, .int .i64 n, .string s, .slice pl ll cl, .slice (some ⟨BR, 0, none⟩) 2 2] #[x00, x01, x02, x03, x04, .int .i64 0, .int .i64 0, .string ⟨#[]⟩, .slice none 0 0, .slice none 0 0] → Mk.Five W3 b (off + 5) y10 y11 y12 y13 y14 → Hid (Calls Tryd.prog 42 #[.agg #[y10, y11, y12, y13, y14], .int .i64 (d + 1), fv] (W3.alloc (.cells #[y10, y11, y12, y13, y14] 29)).drew (Mk.WkT B3 B6 B7 BR W3.heap.size #[.int .i64 k, .int .i64 n, .string s, .slice pl ll cl, .slice (some ⟨b, off, none⟩) 2 ca] #[.int .i64 k, .int .i64 n, .string s, .slice pl ll cl, .slice (some ⟨BR, 0, none⟩) 2 2] #[x00, x01, x02, x03, x04, .int .i64 0, .int .i64 0, .string ⟨#[]⟩, .slice none 0 0, .slice none 0 0] y10 y11 y12 y13 y14 b (off + 5) y10 y11 y12 y13 y14 fun W2 x10 x11 x12 x13 x14 => ∀ W3, Near BR BR W2 W3 → Mk.WkC W3 B3 B6 B7 BR #[.int .i64 k, .int .i64 n, .string s, .slice pl ll cl, .slice (some ⟨b, off, none⟩) 2 ca] #[.int .i64 k, .int .i64 n, .string s, .slice pl ll cl, .slice (some ⟨BR, 0, none⟩) 2 2] #[x00, x01, x02, x03, x04, x10, x11, x12, x13, x14] → Hid (∀ W4, Near B6 B6 W3 W4 → Q (.returned (.agg #[.int .i64 k, .int .i64 n, .string s, .slice pl ll cl, .slice (some ⟨BR, 0, none⟩) 2 2])) W4)))))) :
  Calls Tryd.prog 42 #[.agg #[.int .i64 k, .int .i64 n, .string s, .slice pl ll cl, .slice (some ⟨b, off, none⟩) 2 ca], .int .i64 d, fv] w Q := by
 have hms := Mk.make_two
 go_enter Tryd.func42, Tryd.ntmps42
 go_wp2_with fail
 refine wp_loop_rounds 3 ?_
 have hC : Mk.WkC ((((w.alloc (.cells #[.int .i64 k, .int .i64 n, .string s, .slice pl ll cl, .slice (some ⟨b, off, none⟩) 2 ca] 29)).alloc (.cells #[.int .i64 0, .int .i64 0, .string ⟨#[]⟩, .slice none 0 0, .slice none 0 0] 29)).alloc (.cells #[.int .i64 k, .int .i64 n, .string s, .slice pl ll cl, .slice (some ⟨w.heap.size + 1 + 1 + 1, 0, none⟩) 2 2] 29)).alloc (.cells #[.int .i64 0, .int .i64 0, .string ⟨#[]⟩, .slice none 0 0, .slice none 0 0, .int .i64 0, .int .i64 0, .string ⟨#[]⟩, .slice none 0 0, .slice none 0 0] 29)) w.heap.size (w.heap.size + 1) (w.heap.size + 1 + 1) (w.heap.size + 1 + 1 + 1) #[.int .i64 k, .int .i64 n, .string s, .slice pl ll cl, .slice (some ⟨b, off, none⟩) 2 ca] #[.int .i64 k, .int .i64 n, .string s, .slice pl ll cl, .slice (some ⟨w.heap.size + 1 + 1 + 1, 0, none⟩) 2 2] #[.int .i64 0, .int .i64 0, .string ⟨#[]⟩, .slice none 0 0, .slice none 0 0, .int .i64 0, .int .i64 0, .string ⟨#[]⟩, .slice none 0 0, .slice none 0 0] :=
  ⟨heap_after (heap_after (heap_after (heap_new rfl))), heap_after (heap_after (heap_new (by simp))), heap_after (heap_new (by simp)), heap_new (by simp)⟩
 have hF : Mk.Fresh w ((((w.alloc (.cells #[.int .i64 k, .int .i64 n, .string s, .slice pl ll cl, .slice (some ⟨b, off, none⟩) 2 ca] 29)).alloc (.cells #[.int .i64 0, .int .i64 0, .string ⟨#[]⟩, .slice none 0 0, .slice none 0 0] 29)).alloc (.cells #[.int .i64 k, .int .i64 n, .string s, .slice pl ll cl, .slice (some ⟨w.heap.size + 1 + 1 + 1, 0, none⟩) 2 2] 29)).alloc (.cells #[.int .i64 0, .int .i64 0, .string ⟨#[]⟩, .slice none 0 0, .slice none 0 0, .int .i64 0, .int .i64 0, .string ⟨#[]⟩, .slice none 0 0, .slice none 0 0] 29)) w.heap.size (w.heap.size + 1) (w.heap.size + 1 + 1) (w.heap.size + 1 + 1 + 1) := Mk.Fresh.start w _ _ _ _
 have f0 := g0.keep4 (o1 := .cells #[.int .i64 k, .int .i64 n, .string s, .slice pl ll cl, .slice (some ⟨b, off, none⟩) 2 ca] 29) (o2 := .cells #[.int .i64 0, .int .i64 0, .string ⟨#[]⟩, .slice none 0 0, .slice none 0 0] 29) (o3 := .cells #[.int .i64 k, .int .i64 n, .string s, .slice pl ll cl, .slice (some ⟨w.heap.size + 1 + 1 + 1, 0, none⟩) 2 2] 29) (o4 := .cells #[.int .i64 0, .int .i64 0, .string ⟨#[]⟩, .slice none 0 0, .slice none 0 0, .int .i64 0, .int .i64 0, .string ⟨#[]⟩, .slice none 0 0, .slice none 0 0] 29)
 have hneb : b ≠ w.heap.size + 1 + 1 + 1 := by have := World.block_lt_of_cell? _ _ g0.c0; simp only at this; omega
 rw [rounds_succ]
 generalize hW : ((((w.alloc (.cells #[.int .i64 k, .int .i64 n, .string s, .slice pl ll cl, .slice (some ⟨b, off, none⟩) 2 ca] 29)).alloc (.cells #[.int .i64 0, .int .i64 0, .string ⟨#[]⟩, .slice none 0 0, .slice none 0 0] 29)).alloc (.cells #[.int .i64 k, .int .i64 n, .string s, .slice pl ll cl, .slice (some ⟨w.heap.size + 1 + 1 + 1, 0, none⟩) 2 2] 29)).alloc (.cells #[.int .i64 0, .int .i64 0, .string ⟨#[]⟩, .slice none 0 0, .slice none 0 0, .int .i64 0, .int .i64 0, .string ⟨#[]⟩, .slice none 0 0, .slice none 0 0] 29)) = W at *
 have hh := h W _ _ _ _ hF hC f0
 clear hW h hms hF g0 g1
 generalize w.heap.size + 1 + 1 + 1 = BR at *
 generalize w.heap.size + 1 + 1 = B7 at *
 generalize w.heap.size + 1 = B6 at *
 generalize w.heap.size = B3 at *
 have hne7 : B7 ≠ BR := by rintro rfl; have h1 := hC.b7; rw [hC.row] at h1; simp at h1
 have hne6 : B6 ≠ BR := by rintro rfl; have h1 := hC.b6; rw [hC.row] at h1; simp at h1
 have hne3 : B3 ≠ BR := by rintro rfl; have h1 := hC.b3; rw [hC.row] at h1; simp at h1
 have hne67 : B7 ≠ B6 := by rintro rfl; have h1 := hC.b7; rw [hC.b6] at h1; simp at h1
 obtain ⟨u0n, u0m, u0s, u0p, u0l, u0c, u0pp, u0ll, u0cc⟩ := hy0
 obtain ⟨e0, e1, e2, e3, e4⟩ := f0
 have k30 : W.cell? ⟨B3, 0, none⟩ = some (.int .i64 k) := cell_of hC.b3 0
 have k30' := keepa k30
 have k34 : W.cell? ⟨B3, 4, none⟩ = some (.slice (some ⟨b, off, none⟩) 2 ca) := cell_of hC.b3 4
 have k34' := keepa k34
 have hlt := (Array.getElem?_eq_some_iff.1 hC.row).1
 have hne9 : W.heap.size ≠ BR := by omega
 have n0 : (W.alloc (.cells #[.int .i64 u0n, .int .i64 u0m, .string u0s, .slice u0p u0l u0c, .slice u0pp u0ll u0cc] 29)).cell? ⟨W.heap.size, 0, none⟩ = some (.int .i64 u0n) := cell_of (heap_new rfl) 0
 have n1 : (W.alloc (.cells #[.int .i64 u0n, .int .i64 u0m, .string u0s, .slice u0p u0l u0c, .slice u0pp u0ll u0cc] 29)).cell? ⟨W.heap.size, 1, none⟩ = some (.int .i64 u0m) := cell_of (heap_new rfl) 1
 have n2 : (W.alloc (.cells #[.int .i64 u0n, .int .i64 u0m, .string u0s, .slice u0p u0l u0c, .slice u0pp u0ll u0cc] 29)).cell? ⟨W.heap.size, 2, none⟩ = some (.string u0s) := cell_of (heap_new rfl) 2
 have n3 : (W.alloc (.cells #[.int .i64 u0n, .int .i64 u0m, .string u0s, .slice u0p u0l u0c, .slice u0pp u0ll u0cc] 29)).cell? ⟨W.heap.size, 3, none⟩ = some (.slice u0p u0l u0c) := cell_of (heap_new rfl) 3
 have n4 : (W.alloc (.cells #[.int .i64 u0n, .int .i64 u0m, .string u0s, .slice u0p u0l u0c, .slice u0pp u0ll u0cc] 29)).cell? ⟨W.heap.size, 4, none⟩ = some (.slice u0pp u0ll u0cc) := cell_of (heap_new rfl) 4
 have k74 : W.cell? ⟨B7, 4, none⟩ = some (.slice (some ⟨BR, 0, none⟩) 2 2) := cell_of hC.b7 4
 have k74' := keepa k74 (.cells #[.int .i64 u0n, .int .i64 u0m, .string u0s, .slice u0p u0l u0c, .slice u0pp u0ll u0cc] 29)
 clear hlt hC
 go_wp2_with fail
 clear k30 k30' k34 k34' k74 e0 e1 e2 e3 e4
 generalize W.heap.size = B9 at *
 generalize W.alloc (.cells #[.int .i64 u0n, .int .i64 u0m, .string u0s, .slice u0p u0l u0c, .slice u0pp u0ll u0cc] 29) = W1 at *
 go_region_held3 (fun w' => w'.cell? ⟨B7, 4, none⟩ = some (.slice (some ⟨BR, 0, none⟩) 2 2) ∧ w'.cell? ⟨B9, 0, none⟩ = some (.int .i64 u0n) ∧ w'.cell? ⟨B9, 1, none⟩ = some (.int .i64 u0m) ∧ w'.cell? ⟨B9, 2, none⟩ = some (.string u0s) ∧ w'.cell? ⟨B9, 3, none⟩ = some (.slice u0p u0l u0c) ∧ w'.cell? ⟨B9, 4, none⟩ = some (.slice u0pp u0ll u0cc)) (first | go_keep | (refine ⟨?_, ?_, ?_, ?_, ?_, ?_⟩ <;> first | exact set5 (i := 0) hne7 (by assumption) | exact set5 (i := 0) hne9 (by assumption)))
  (first | (go_at_call 42; refine hh.out.mono ?_; rintro e W2 ⟨x00, x01, x02, x03, x04, rfl, hx, hC1, g2, g9, hK⟩; have k74 : W2.cell? ⟨B7, 4, none⟩ = some (.slice (some ⟨BR, 0, none⟩) 2 2) := cell_of hC1.b7 4; have r0 : W2.cell? ⟨BR, 0, none⟩ = some (.int .i64 0) := cell_of hC1.row 0; have r1 : W2.cell? ⟨BR, 1, none⟩ = some (.int .i64 0) := cell_of hC1.row 1; have r2 : W2.cell? ⟨BR, 2, none⟩ = some (.string ⟨#[]⟩) := cell_of hC1.row 2; have r3 : W2.cell? ⟨BR, 3, none⟩ = some (.slice none 0 0) := cell_of hC1.row 3; have r4 : W2.cell? ⟨BR, 4, none⟩ = some (.slice none 0 0) := cell_of hC1.row 4; have q0 := frozen_of hC1.row 0; have q1 := frozen_of hC1.row 1; have q2 := frozen_of hC1.row 2; have q3 := frozen_of hC1.row 3; have q4 := frozen_of hC1.row 4; obtain ⟨v0n, v0m, v0s, v0p, v0l, v0c, v0pp, v0ll, v0cc⟩ := hx; obtain ⟨m0, m1, m2, m3, m4⟩ := g9))
 clear hh n0 n1 n2 n3 n4 k74 k74' r0 r1 r2 r3 r4 q0 q1 q2 q3 q4 m0 m1 m2 m3 m4 hne9
 have hN : Near BR BR W2 (((((W2.setCell ⟨BR, 0, none⟩ (.int .i64 v0n)).setCell ⟨BR, 1, none⟩ (.int .i64 v0m)).setCell ⟨BR, 2, none⟩ (.string v0s)).setCell ⟨BR, 3, none⟩ (.slice v0p v0l v0c)).setCell ⟨BR, 4, none⟩ (.slice v0pp v0ll v0cc)) := near5 _ _ _
 have hC1' := hC1.set5 hne3 hne6 hne7 0 (.int .i64 v0n) (.int .i64 v0m) (.string v0s) (.slice v0p v0l v0c) (.slice v0pp v0ll v0cc)
 have f1' : Mk.Five (((((W2.setCell ⟨BR, 0, none⟩ (.int .i64 v0n)).setCell ⟨BR, 1, none⟩ (.int .i64 v0m)).setCell ⟨BR, 2, none⟩ (.string v0s)).setCell ⟨BR, 3, none⟩ (.slice v0p v0l v0c)).setCell ⟨BR, 4, none⟩ (.slice v0pp v0ll v0cc)) b (off + 5) y10 y11 y12 y13 y14 := g2.set hneb
 generalize (((((W2.setCell ⟨BR, 0, none⟩ (.int .i64 v0n)).setCell ⟨BR, 1, none⟩ (.int .i64 v0m)).setCell ⟨BR, 2, none⟩ (.string v0s)).setCell ⟨BR, 3, none⟩ (.slice v0p v0l v0c)).setCell ⟨BR, 4, none⟩ (.slice v0pp v0ll v0cc)) = W13 at *
 have hh := hK.out W13 hN hC1' f1'
 clear hK hN g2 hC1
 have hC1 : Mk.WkC W13 B3 B6 B7 BR #[.int .i64 k, .int .i64 n, .string s, .slice pl ll cl, .slice (some ⟨b, off, none⟩) 2 ca] #[.int .i64 k, .int .i64 n, .string s, .slice pl ll cl, .slice (some ⟨BR, 0, none⟩) 2 2] #[.int .i64 v0n, .int .i64 v0m, .string v0s, .slice v0p v0l v0c, .slice v0pp v0ll v0cc, .int .i64 0, .int .i64 0, .string ⟨#[]⟩, .slice none 0 0, .slice none 0 0] := hC1'
 clear hC1'
 have f1 := f1'
 clear f1'
 go_wp2_with fail
 rw [rounds_succ]
 obtain ⟨u1n, u1m, u1s, u1p, u1l, u1c, u1pp, u1ll, u1cc⟩ := hy1
 obtain ⟨e0, e1, e2, e3, e4⟩ := f1
 have k30 : W13.cell? ⟨B3, 0, none⟩ = some (.int .i64 k) := cell_of hC1.b3 0
 have k30' := keepa k30
 have k34 : W13.cell? ⟨B3, 4, none⟩ = some (.slice (some ⟨b, off, none⟩) 2 ca) := cell_of hC1.b3 4
 have k34' := keepa k34
 have hlt := (Array.getElem?_eq_some_iff.1 hC1.row).1
 have hne9 : W13.heap.size ≠ BR := by omega
 have n0 : (W13.alloc (.cells #[.int .i64 u1n, .int .i64 u1m, .string u1s, .slice u1p u1l u1c, .slice u1pp u1ll u1cc] 29)).cell? ⟨W13.heap.size, 0, none⟩ = some (.int .i64 u1n) := cell_of (heap_new rfl) 0
 have n1 : (W13.alloc (.cells #[.int .i64 u1n, .int .i64 u1m, .string u1s, .slice u1p u1l u1c, .slice u1pp u1ll u1cc] 29)).cell? ⟨W13.heap.size, 1, none⟩ = some (.int .i64 u1m) := cell_of (heap_new rfl) 1
 have n2 : (W13.alloc (.cells #[.int .i64 u1n, .int .i64 u1m, .string u1s, .slice u1p u1l u1c, .slice u1pp u1ll u1cc] 29)).cell? ⟨W13.heap.size, 2, none⟩ = some (.string u1s) := cell_of (heap_new rfl) 2
 have n3 : (W13.alloc (.cells #[.int .i64 u1n, .int .i64 u1m, .string u1s, .slice u1p u1l u1c, .slice u1pp u1ll u1cc] 29)).cell? ⟨W13.heap.size, 3, none⟩ = some (.slice u1p u1l u1c) := cell_of (heap_new rfl) 3
 have n4 : (W13.alloc (.cells #[.int .i64 u1n, .int .i64 u1m, .string u1s, .slice u1p u1l u1c, .slice u1pp u1ll u1cc] 29)).cell? ⟨W13.heap.size, 4, none⟩ = some (.slice u1pp u1ll u1cc) := cell_of (heap_new rfl) 4
 have k74 : W13.cell? ⟨B7, 4, none⟩ = some (.slice (some ⟨BR, 0, none⟩) 2 2) := cell_of hC1.b7 4
 have k74' := keepa k74 (.cells #[.int .i64 u1n, .int .i64 u1m, .string u1s, .slice u1p u1l u1c, .slice u1pp u1ll u1cc] 29)
 clear hlt hC1
 go_wp2_with fail
 clear k30 k30' k34 k34' k74 e0 e1 e2 e3 e4
 generalize W13.heap.size = B9 at *
 generalize W13.alloc (.cells #[.int .i64 u1n, .int .i64 u1m, .string u1s, .slice u1p u1l u1c, .slice u1pp u1ll u1cc] 29) = W1 at *
 go_region_held3 (fun w' => w'.cell? ⟨B7, 4, none⟩ = some (.slice (some ⟨BR, 0, none⟩) 2 2) ∧ w'.cell? ⟨B9, 0, none⟩ = some (.int .i64 u1n) ∧ w'.cell? ⟨B9, 1, none⟩ = some (.int .i64 u1m) ∧ w'.cell? ⟨B9, 2, none⟩ = some (.string u1s) ∧ w'.cell? ⟨B9, 3, none⟩ = some (.slice u1p u1l u1c) ∧ w'.cell? ⟨B9, 4, none⟩ = some (.slice u1pp u1ll u1cc)) (first | go_keep | (refine ⟨?_, ?_, ?_, ?_, ?_, ?_⟩ <;> first | exact set5 (i := 5) hne7 (by assumption) | exact set5 (i := 5) hne9 (by assumption)))
  (first | (go_at_call 42; refine hh.out.mono ?_; rintro e W2 ⟨x10, x11, x12, x13, x14, rfl, hx, hC2, g2, g9, hK⟩; have k74 : W2.cell? ⟨B7, 4, none⟩ = some (.slice (some ⟨BR, 0, none⟩) 2 2) := cell_of hC2.b7 4; have r0 : W2.cell? ⟨BR, 5, none⟩ = some (.int .i64 0) := cell_of hC2.row 5; have r1 : W2.cell? ⟨BR, 6, none⟩ = some (.int .i64 0) := cell_of hC2.row 6; have r2 : W2.cell? ⟨BR, 7, none⟩ = some (.string ⟨#[]⟩) := cell_of hC2.row 7; have r3 : W2.cell? ⟨BR, 8, none⟩ = some (.slice none 0 0) := cell_of hC2.row 8; have r4 : W2.cell? ⟨BR, 9, none⟩ = some (.slice none 0 0) := cell_of hC2.row 9; have q0 := frozen_of hC2.row 5; have q1 := frozen_of hC2.row 6; have q2 := frozen_of hC2.row 7; have q3 := frozen_of hC2.row 8; have q4 := frozen_of hC2.row 9; obtain ⟨v1n, v1m, v1s, v1p, v1l, v1c, v1pp, v1ll, v1cc⟩ := hx; obtain ⟨m0, m1, m2, m3, m4⟩ := g9))
 clear hh n0 n1 n2 n3 n4 k74 k74' r0 r1 r2 r3 r4 q0 q1 q2 q3 q4 m0 m1 m2 m3 m4 hne9
 have hN : Near BR BR W2 (((((W2.setCell ⟨BR, 5, none⟩ (.int .i64 v1n)).setCell ⟨BR, 6, none⟩ (.int .i64 v1m)).setCell ⟨BR, 7, none⟩ (.string v1s)).setCell ⟨BR, 8, none⟩ (.slice v1p v1l v1c)).setCell ⟨BR, 9, none⟩ (.slice v1pp v1ll v1cc)) := near5 _ _ _
 have hC2' := hC2.set5 hne3 hne6 hne7 5 (.int .i64 v1n) (.int .i64 v1m) (.string v1s) (.slice v1p v1l v1c) (.slice v1pp v1ll v1cc)
 generalize (((((W2.setCell ⟨BR, 5, none⟩ (.int .i64 v1n)).setCell ⟨BR, 6, none⟩ (.int .i64 v1m)).setCell ⟨BR, 7, none⟩ (.string v1s)).setCell ⟨BR, 8, none⟩ (.slice v1p v1l v1c)).setCell ⟨BR, 9, none⟩ (.slice v1pp v1ll v1cc)) = W23 at *
 have hh := hK.out W23 hN hC2'
 clear hK hN g2 hC2
 have hC2 : Mk.WkC W23 B3 B6 B7 BR #[.int .i64 k, .int .i64 n, .string s, .slice pl ll cl, .slice (some ⟨b, off, none⟩) 2 ca] #[.int .i64 k, .int .i64 n, .string s, .slice pl ll cl, .slice (some ⟨BR, 0, none⟩) 2 2] #[.int .i64 v0n, .int .i64 v0m, .string v0s, .slice v0p v0l v0c, .slice v0pp v0ll v0cc, .int .i64 v1n, .int .i64 v1m, .string v1s, .slice v1p v1l v1c, .slice v1pp v1ll v1cc] := hC2'
 clear hC2'
 clear hne3 hne7 hne6 hneb
 have k70 : W23.cell? ⟨B7, 0, none⟩ = some (.int .i64 k) := cell_of hC2.b7 0
 have k71 : W23.cell? ⟨B7, 1, none⟩ = some (.int .i64 n) := cell_of hC2.b7 1
 have k72 : W23.cell? ⟨B7, 2, none⟩ = some (.string s) := cell_of hC2.b7 2
 have k73 : W23.cell? ⟨B7, 3, none⟩ = some (.slice pl ll cl) := cell_of hC2.b7 3
 have k74 : W23.cell? ⟨B7, 4, none⟩ = some (.slice (some ⟨BR, 0, none⟩) 2 2) := cell_of hC2.b7 4
 have r0 : W23.cell? ⟨B6, 0, none⟩ = some (.int .i64 0) := cell_of hC2.b6 0
 have r1 : W23.cell? ⟨B6, 1, none⟩ = some (.int .i64 0) := cell_of hC2.b6 1
 have r2 : W23.cell? ⟨B6, 2, none⟩ = some (.string ⟨#[]⟩) := cell_of hC2.b6 2
 have r3 : W23.cell? ⟨B6, 3, none⟩ = some (.slice none 0 0) := cell_of hC2.b6 3
 have r4 : W23.cell? ⟨B6, 4, none⟩ = some (.slice none 0 0) := cell_of hC2.b6 4
 have q0 := frozen_of hC2.b6 0
 have q1 := frozen_of hC2.b6 1
 have q2 := frozen_of hC2.b6 2
 have q3 := frozen_of hC2.b6 3
 have q4 := frozen_of hC2.b6 4
 go_wp2_with fail
 rw [rounds_succ]
 go_wp2_with fail
 have hN := near5 W23 B6 0 (y0 := .int .i64 k) (y1 := .int .i64 n) (y2 := .string s) (y3 := .slice pl ll cl) (y4 := .slice (some ⟨BR, 0, none⟩) 2 2)
 exact Mk.walk_end5 hC2.b6 rfl (hh.out _ hN)
theorem Mk.walk_let (n : Int) (s : ByteArray) (pl : Option Addr) (ll cl ca b off : Nat) (d : Int) (hd0 : 0 ≤ d) (hd1 : d < 1152921504606846976) (fv : Value) (w : World) (y00 y01 y02 y03 y04 y10 y11 y12 y13 y14 y20 y21 y22 y23 y24 : Value) (Q : Ending → World → Prop)
  (hy0 : Mk.ShpW y00 y01 y02 y03 y04) (hy1 : Mk.ShpW y10 y11 y12 y13 y14) (hy2 : Mk.ShpW y20 y21 y22 y23 y24) (g0 : Mk.Five w b off y00 y01 y02 y03 y04) (g1 : Mk.Five w b (off + 5) y10 y11 y12 y13 y14) (g2 : Mk.Five w b (off + 10) y20 y21 y22 y23 y24)
  (h : ∀ W B3 B6 B7 BR, Mk.Fresh w W B3 B6 B7 BR → Mk.WkC W B3 B6 B7 BR #[.int .i64 6, .int .i64 n, .string s, .slice pl ll cl, .slice (some ⟨b, off, none⟩) 3 ca] #[.int .i64 6, .int .i64 n, .string s, .slice pl ll cl, .slice (some ⟨BR, 0, none⟩) 3 3] #[.int .i64 0, .int .i64 0, .string ⟨#[]⟩, .slice none 0 0, .slice none 0 0, .int .i64 0, .int .i64 0, .string ⟨#[]⟩, .slice none 0 0, .slice none 0 0, .int .i64 0, .int .i64 0, .string ⟨#[]⟩, .slice none 0 0, .slice none 0 0] → Mk.Five W b off y00 y01 y02 y03 y04 → Hid (Calls Tryd.prog 42 #[.agg #[y00, y01, y02, y03, y04], .int .i64 d, fv] (W.alloc (.cells #[y00, y01, y02, y03, y04] 29)).drew (Mk.WkT B3 B6 B7 BR W.heap.size #[.int .i64 6, .int .i64 n, .string s, .slice pl ll cl, .slice (some ⟨b, off, none⟩) 3 ca] #[.int .i64 6, .int .i64 n, .string s, .slice pl ll cl, .slice (some ⟨BR, 0, none⟩) 3 3] #[.int .i64 0, .int .i64 0, .string ⟨#[]⟩, .slice none 0 0, .slice none 0 0, .int .i64 0, .int .i64 0, .string ⟨#[]⟩, .slice none 0 0, .slice none 0 0, .int .i64 0, .int .i64 0, .string ⟨#[]⟩, .slice none 0 0, .slice none 0 0] y00 y01 y02 y03 y04 b (off + 5) y10 y11 y12 y13 y14 fun W2 x00 x01 x02 x03 x04 => ∀ W3, Near BR BR W2 W3 → Mk.WkC W3 B3 B6 B7 BR #[.int .i64 6, .int .i64 n, .string s, .slice pl ll cl, .slice (some ⟨b, off, none⟩) 3 ca] #[.int .i64 6, .int .i64 n, .string s, .slice pl ll cl, .slice (some ⟨BR, 0, none⟩) 3 3] #[x00, x01, x02, x03, x04, .int .i64 0, .int .i64 0, .string ⟨#[]⟩, .slice none 0 0, .slice none 0 0, .int .i64 0, .int .i64 0, .string ⟨#[]⟩, .slice none 0 0, .slice none 0 0] → Mk.Five W3 b (off + 5) y10 y11 y12 y13 y14 → Hid (Calls Tryd.prog 42 #[.agg #[y10, y11, y12, y13, y14], .int .i64 d, fv] (W3.alloc (.cells #[y10, y11, y12, y13, y14] 29)).drew (Mk.WkT B3 B6 B7 BR W3.heap.size #[.int .i64 6, .int .i64 n, .string s, .slice pl ll cl, .slice (some ⟨b, off, none⟩) 3 ca] #[.int .i64 6, .int .i64 n, .string s, .slice pl ll cl, .slice (some ⟨BR, 0, none⟩) 3 3] #[x00, x01, x02, x03, x04, .int .i64 0, .int .i64 0, .string ⟨#[]⟩, .slice none 0 0, .slice none 0 0, .int .i64 0, .int .i64 0, .string ⟨#[]⟩, .slice none 0 0, .slice none 0 0] y10 y11 y12 y13 y14 b (off + 10) y20 y21 y22 y23 y24 fun W2 x10 x11 x12 x13 x14 => ∀ W3, Near BR BR W2 W3 → Mk.WkC W3 B3 B6 B7 BR #[.int .i64 6, .int .i64 n, .string s, .slice pl ll cl, .slice (some ⟨b, off, none⟩) 3 ca] #[.int .i64 6, .int .i64 n, .string s, .slice pl ll cl, .slice (some ⟨BR, 0, none⟩) 3 3] #[x00, x01, x02, x03, x04, x10, x11, x12, x13, x14, .int .i64 0, .int .i64 0, .string ⟨#[]⟩, .slice none 0 0, .slice none 0 0] → Mk.Five W3 b (off + 10) y20 y21 y22 y23 y24 → Hid (Calls Tryd.prog 42 #[.agg #[y20, y21, y22, y23, y24], .int .i64 (d + 1), fv] (W3.alloc (.cells #[y20, y21, y22, y23, y24] 29)).drew (Mk.WkT B3 B6 B7 BR W3.heap.size #[.int .i64 6, .int .i64 n, .string s, .slice pl ll cl, .slice (some ⟨b, off, none⟩) 3 ca] #[.int .i64 6, .int .i64 n, .string s, .slice pl ll cl, .slice (some ⟨BR, 0, none⟩) 3 3] #[x00, x01, x02, x03, x04, x10, x11, x12, x13, x14, .int .i64 0, .int .i64 0, .string ⟨#[]⟩, .slice none 0 0, .slice none 0 0] y20 y21 y22 y23 y24 b (off + 10) y20 y21 y22 y23 y24 fun W2 x20 x21 x22 x23 x24 => ∀ W3, Near BR BR W2 W3 → Mk.WkC W3 B3 B6 B7 BR #[.int .i64 6, .int .i64 n, .string s, .slice pl ll cl, .slice (some ⟨b, off, none⟩) 3 ca] #[.int .i64 6, .int .i64 n, .string s, .slice pl ll cl, .slice (some ⟨BR, 0, none⟩) 3 3] #[x00, x01, x02, x03, x04, x10, x11, x12, x13, x14, x20, x21, x22, x23, x24] → Hid (∀ W4, Near B6 B6 W3 W4 → Q (.returned (.agg #[.int .i64 6, .int .i64 n, .string s, .slice pl ll cl, .slice (some ⟨BR, 0, none⟩) 3 3])) W4)))))))) :
  Calls Tryd.prog 42 #[.agg #[.int .i64 6, .int .i64 n, .string s, .slice pl ll cl, .slice (some ⟨b, off, none⟩) 3 ca], .int .i64 d, fv] w Q := by
 have hms := Mk.make_three
 go_enter Tryd.func42, Tryd.ntmps42
 go_wp2_with fail
 refine wp_loop_rounds 4 ?_
 have hC : Mk.WkC ((((w.alloc (.cells #[.int .i64 6, .int .i64 n, .string s, .slice pl ll cl, .slice (some ⟨b, off, none⟩) 3 ca] 29)).alloc (.cells #[.int .i64 0, .int .i64 0, .string ⟨#[]⟩, .slice none 0 0, .slice none 0 0] 29)).alloc (.cells #[.int .i64 6, .int .i64 n, .string s, .slice pl ll cl, .slice (some ⟨w.heap.size + 1 + 1 + 1, 0, none⟩) 3 3] 29)).alloc (.cells #[.int .i64 0, .int .i64 0, .string ⟨#[]⟩, .slice none 0 0, .slice none 0 0, .int .i64 0, .int .i64 0, .string ⟨#[]⟩, .slice none 0 0, .slice none 0 0, .int .i64 0, .int .i64 0, .string ⟨#[]⟩, .slice none 0 0, .slice none 0 0] 29)) w.heap.size (w.heap.size + 1) (w.heap.size + 1 + 1) (w.heap.size + 1 + 1 + 1) #[.int .i64 6, .int .i64 n, .string s, .slice pl ll cl, .slice (some ⟨b, off, none⟩) 3 ca] #[.int .i64 6, .int .i64 n, .string s, .slice pl ll cl, .slice (some ⟨w.heap.size + 1 + 1 + 1, 0, none⟩) 3 3] #[.int .i64 0, .int .i64 0, .string ⟨#[]⟩, .slice none 0 0, .slice none 0 0, .int .i64 0, .int .i64 0, .string ⟨#[]⟩, .slice none 0 0, .slice none 0 0, .int .i64 0, .int .i64 0, .string ⟨#[]⟩, .slice none 0 0, .slice none 0 0] :=
  ⟨heap_after (heap_after (heap_after (heap_new rfl))), heap_after (heap_after (heap_new (by simp))), heap_after (heap_new (by simp)), heap_new (by simp)⟩
 have hF : Mk.Fresh w ((((w.alloc (.cells #[.int .i64 6, .int .i64 n, .string s, .slice pl ll cl, .slice (some ⟨b, off, none⟩) 3 ca] 29)).alloc (.cells #[.int .i64 0, .int .i64 0, .string ⟨#[]⟩, .slice none 0 0, .slice none 0 0] 29)).alloc (.cells #[.int .i64 6, .int .i64 n, .string s, .slice pl ll cl, .slice (some ⟨w.heap.size + 1 + 1 + 1, 0, none⟩) 3 3] 29)).alloc (.cells #[.int .i64 0, .int .i64 0, .string ⟨#[]⟩, .slice none 0 0, .slice none 0 0, .int .i64 0, .int .i64 0, .string ⟨#[]⟩, .slice none 0 0, .slice none 0 0, .int .i64 0, .int .i64 0, .string ⟨#[]⟩, .slice none 0 0, .slice none 0 0] 29)) w.heap.size (w.heap.size + 1) (w.heap.size + 1 + 1) (w.heap.size + 1 + 1 + 1) := Mk.Fresh.start w _ _ _ _
 have f0 := g0.keep4 (o1 := .cells #[.int .i64 6, .int .i64 n, .string s, .slice pl ll cl, .slice (some ⟨b, off, none⟩) 3 ca] 29) (o2 := .cells #[.int .i64 0, .int .i64 0, .string ⟨#[]⟩, .slice none 0 0, .slice none 0 0] 29) (o3 := .cells #[.int .i64 6, .int .i64 n, .string s, .slice pl ll cl, .slice (some ⟨w.heap.size + 1 + 1 + 1, 0, none⟩) 3 3] 29) (o4 := .cells #[.int .i64 0, .int .i64 0, .string ⟨#[]⟩, .slice none 0 0, .slice none 0 0, .int .i64 0, .int .i64 0, .string ⟨#[]⟩, .slice none 0 0, .slice none 0 0, .int .i64 0, .int .i64 0, .string ⟨#[]⟩, .slice none 0 0, .slice none 0 0] 29)
 have hneb : b ≠ w.heap.size + 1 + 1 + 1 := by have := World.block_lt_of_cell? _ _ g0.c0; simp only at this; omega
 rw [rounds_succ]
 generalize hW : ((((w.alloc (.cells #[.int .i64 6, .int .i64 n, .string s, .slice pl ll cl, .slice (some ⟨b, off, none⟩) 3 ca] 29)).alloc (.cells #[.int .i64 0, .int .i64 0, .string ⟨#[]⟩, .slice none 0 0, .slice none 0 0] 29)).alloc (.cells #[.int .i64 6, .int .i64 n, .string s, .slice pl ll cl, .slice (some ⟨w.heap.size + 1 + 1 + 1, 0, none⟩) 3 3] 29)).alloc (.cells #[.int .i64 0, .int .i64 0, .string ⟨#[]⟩, .slice none 0 0, .slice none 0 0, .int .i64 0, .int .i64 0, .string ⟨#[]⟩, .slice none 0 0, .slice none 0 0, .int .i64 0, .int .i64 0, .string ⟨#[]⟩, .slice none 0 0, .slice none 0 0] 29)) = W at *
 have hh := h W _ _ _ _ hF hC f0
 clear hW h hms hF g0 g1 g2
 generalize w.heap.size + 1 + 1 + 1 = BR at *
 generalize w.heap.size + 1 + 1 = B7 at *
 generalize w.heap.size + 1 = B6 at *
 generalize w.heap.size = B3 at *
 have hne7 : B7 ≠ BR := by rintro rfl; have h1 := hC.b7; rw [hC.row] at h1; simp at h1
 have hne6 : B6 ≠ BR := by rintro rfl; have h1 := hC.b6; rw [hC.row] at h1; simp at h1
 have hne3 : B3 ≠ BR := by rintro rfl; have h1 := hC.b3; rw [hC.row] at h1; simp at h1
 have hne67 : B7 ≠ B6 := by rintro rfl; have h1 := hC.b7; rw [hC.b6] at h1; simp at h1
 obtain ⟨u0n, u0m, u0s, u0p, u0l, u0c, u0pp, u0ll, u0cc⟩ := hy0
 obtain ⟨e0, e1, e2, e3, e4⟩ := f0
 have k30 : W.cell? ⟨B3, 0, none⟩ = some (.int .i64 6) := cell_of hC.b3 0
 have k30' := keepa k30
 have k34 : W.cell? ⟨B3, 4, none⟩ = some (.slice (some ⟨b, off, none⟩) 3 ca) := cell_of hC.b3 4
 have k34' := keepa k34
 have hlt := (Array.getElem?_eq_some_iff.1 hC.row).1
 have hne9 : W.heap.size ≠ BR := by omega
 have n0 : (W.alloc (.cells #[.int .i64 u0n, .int .i64 u0m, .string u0s, .slice u0p u0l u0c, .slice u0pp u0ll u0cc] 29)).cell? ⟨W.heap.size, 0, none⟩ = some (.int .i64 u0n) := cell_of (heap_new rfl) 0
 have n1 : (W.alloc (.cells #[.int .i64 u0n, .int .i64 u0m, .string u0s, .slice u0p u0l u0c, .slice u0pp u0ll u0cc] 29)).cell? ⟨W.heap.size, 1, none⟩ = some (.int .i64 u0m) := cell_of (heap_new rfl) 1
 have n2 : (W.alloc (.cells #[.int .i64 u0n, .int .i64 u0m, .string u0s, .slice u0p u0l u0c, .slice u0pp u0ll u0cc] 29)).cell? ⟨W.heap.size, 2, none⟩ = some (.string u0s) := cell_of (heap_new rfl) 2
 have n3 : (W.alloc (.cells #[.int .i64 u0n, .int .i64 u0m, .string u0s, .slice u0p u0l u0c, .slice u0pp u0ll u0cc] 29)).cell? ⟨W.heap.size, 3, none⟩ = some (.slice u0p u0l u0c) := cell_of (heap_new rfl) 3
 have n4 : (W.alloc (.cells #[.int .i64 u0n, .int .i64 u0m, .string u0s, .slice u0p u0l u0c, .slice u0pp u0ll u0cc] 29)).cell? ⟨W.heap.size, 4, none⟩ = some (.slice u0pp u0ll u0cc) := cell_of (heap_new rfl) 4
 have k74 : W.cell? ⟨B7, 4, none⟩ = some (.slice (some ⟨BR, 0, none⟩) 3 3) := cell_of hC.b7 4
 have k74' := keepa k74 (.cells #[.int .i64 u0n, .int .i64 u0m, .string u0s, .slice u0p u0l u0c, .slice u0pp u0ll u0cc] 29)
 clear hlt hC
 go_wp2_with fail
 clear k30 k30' k34 k34' k74 e0 e1 e2 e3 e4
 generalize W.heap.size = B9 at *
 generalize W.alloc (.cells #[.int .i64 u0n, .int .i64 u0m, .string u0s, .slice u0p u0l u0c, .slice u0pp u0ll u0cc] 29) = W1 at *
 go_region_held3 (fun w' => w'.cell? ⟨B7, 4, none⟩ = some (.slice (some ⟨BR, 0, none⟩) 3 3) ∧ w'.cell? ⟨B9, 0, none⟩ = some (.int .i64 u0n) ∧ w'.cell? ⟨B9, 1, none⟩ = some (.int .i64 u0m) ∧ w'.cell? ⟨B9, 2, none⟩ = some (.string u0s) ∧ w'.cell? ⟨B9, 3, none⟩ = some (.slice u0p u0l u0c) ∧ w'.cell? ⟨B9, 4, none⟩ = some (.slice u0pp u0ll u0cc)) (first | go_keep | (refine ⟨?_, ?_, ?_, ?_, ?_, ?_⟩ <;> first | exact set5 (i := 0) hne7 (by assumption) | exact set5 (i := 0) hne9 (by assumption)))
  (first | (go_at_call 42; refine hh.out.mono ?_; rintro e W2 ⟨x00, x01, x02, x03, x04, rfl, hx, hC1, g2, g9, hK⟩; have k74 : W2.cell? ⟨B7, 4, none⟩ = some (.slice (some ⟨BR, 0, none⟩) 3 3) := cell_of hC1.b7 4; have r0 : W2.cell? ⟨BR, 0, none⟩ = some (.int .i64 0) := cell_of hC1.row 0; have r1 : W2.cell? ⟨BR, 1, none⟩ = some (.int .i64 0) := cell_of hC1.row 1; have r2 : W2.cell? ⟨BR, 2, none⟩ = some (.string ⟨#[]⟩) := cell_of hC1.row 2; have r3 : W2.cell? ⟨BR, 3, none⟩ = some (.slice none 0 0) := cell_of hC1.row 3; have r4 : W2.cell? ⟨BR, 4, none⟩ = some (.slice none 0 0) := cell_of hC1.row 4; have q0 := frozen_of hC1.row 0; have q1 := frozen_of hC1.row 1; have q2 := frozen_of hC1.row 2; have q3 := frozen_of hC1.row 3; have q4 := frozen_of hC1.row 4; obtain ⟨v0n, v0m, v0s, v0p, v0l, v0c, v0pp, v0ll, v0cc⟩ := hx; obtain ⟨m0, m1, m2, m3, m4⟩ := g9))
 clear hh n0 n1 n2 n3 n4 k74 k74' r0 r1 r2 r3 r4 q0 q1 q2 q3 q4 m0 m1 m2 m3 m4 hne9
 have hN : Near BR BR W2 (((((W2.setCell ⟨BR, 0, none⟩ (.int .i64 v0n)).setCell ⟨BR, 1, none⟩ (.int .i64 v0m)).setCell ⟨BR, 2, none⟩ (.string v0s)).setCell ⟨BR, 3, none⟩ (.slice v0p v0l v0c)).setCell ⟨BR, 4, none⟩ (.slice v0pp v0ll v0cc)) := near5 _ _ _
 have hC1' := hC1.set5 hne3 hne6 hne7 0 (.int .i64 v0n) (.int .i64 v0m) (.string v0s) (.slice v0p v0l v0c) (.slice v0pp v0ll v0cc)
 have f1' : Mk.Five (((((W2.setCell ⟨BR, 0, none⟩ (.int .i64 v0n)).setCell ⟨BR, 1, none⟩ (.int .i64 v0m)).setCell ⟨BR, 2, none⟩ (.string v0s)).setCell ⟨BR, 3, none⟩ (.slice v0p v0l v0c)).setCell ⟨BR, 4, none⟩ (.slice v0pp v0ll v0cc)) b (off + 5) y10 y11 y12 y13 y14 := g2.set hneb
 generalize (((((W2.setCell ⟨BR, 0, none⟩ (.int .i64 v0n)).setCell ⟨BR, 1, none⟩ (.int .i64 v0m)).setCell ⟨BR, 2, none⟩ (.string v0s)).setCell ⟨BR, 3, none⟩ (.slice v0p v0l v0c)).setCell ⟨BR, 4, none⟩ (.slice v0pp v0ll v0cc)) = W13 at *
 have hh := hK.out W13 hN hC1' f1'
 clear hK hN g2 hC1
 have hC1 : Mk.WkC W13 B3 B6 B7 BR #[.int .i64 6, .int .i64 n, .string s, .slice pl ll cl, .slice (some ⟨b, off, none⟩) 3 ca] #[.int .i64 6, .int .i64 n, .string s, .slice pl ll cl, .slice (some ⟨BR, 0, none⟩) 3 3] #[.int .i64 v0n, .int .i64 v0m, .string v0s, .slice v0p v0l v0c, .slice v0pp v0ll v0cc, .int .i64 0, .int .i64 0, .string ⟨#[]⟩, .slice none 0 0, .slice none 0 0, .int .i64 0, .int .i64 0, .string ⟨#[]⟩, .slice none 0 0, .slice none 0 0] := hC1'
 clear hC1'
 have f1 := f1'
 clear f1'
 go_wp2_with fail
 rw [rounds_succ]
 obtain ⟨u1n, u1m, u1s, u1p, u1l, u1c, u1pp, u1ll, u1cc⟩ := hy1
 obtain ⟨e0, e1, e2, e3, e4⟩ := f1
 have k30 : W13.cell? ⟨B3, 0, none⟩ = some (.int .i64 6) := cell_of hC1.b3 0
 have k30' := keepa k30
 have k34 : W13.cell? ⟨B3, 4, none⟩ = some (.slice (some ⟨b, off, none⟩) 3 ca) := cell_of hC1.b3 4
 have k34' := keepa k34
 have hlt := (Array.getElem?_eq_some_iff.1 hC1.row).1
 have hne9 : W13.heap.size ≠ BR := by omega
 have n0 : (W13.alloc (.cells #[.int .i64 u1n, .int .i64 u1m, .string u1s, .slice u1p u1l u1c, .slice u1pp u1ll u1cc] 29)).cell? ⟨W13.heap.size, 0, none⟩ = some (.int .i64 u1n) := cell_of (heap_new rfl) 0
 have n1 : (W13.alloc (.cells #[.int .i64 u1n, .int .i64 u1m, .string u1s, .slice u1p u1l u1c, .slice u1pp u1ll u1cc] 29)).cell? ⟨W13.heap.size, 1, none⟩ = some (.int .i64 u1m) := cell_of (heap_new rfl) 1
 have n2 : (W13.alloc (.cells #[.int .i64 u1n, .int .i64 u1m, .string u1s, .slice u1p u1l u1c, .slice u1pp u1ll u1cc] 29)).cell? ⟨W13.heap.size, 2, none⟩ = some (.string u1s) := cell_of (heap_new rfl) 2
 have n3 : (W13.alloc (.cells #[.int .i64 u1n, .int .i64 u1m, .string u1s, .slice u1p u1l u1c, .slice u1pp u1ll u1cc] 29)).cell? ⟨W13.heap.size, 3, none⟩ = some (.slice u1p u1l u1c) := cell_of (heap_new rfl) 3
 have n4 : (W13.alloc (.cells #[.int .i64 u1n, .int .i64 u1m, .string u1s, .slice u1p u1l u1c, .slice u1pp u1ll u1cc] 29)).cell? ⟨W13.heap.size, 4, none⟩ = some (.slice u1pp u1ll u1cc) := cell_of (heap_new rfl) 4
 have k74 : W13.cell? ⟨B7, 4, none⟩ = some (.slice (some ⟨BR, 0, none⟩) 3 3) := cell_of hC1.b7 4
 have k74' := keepa k74 (.cells #[.int .i64 u1n, .int .i64 u1m, .string u1s, .slice u1p u1l u1c, .slice u1pp u1ll u1cc] 29)
 clear hlt hC1
 go_wp2_with fail
 clear k30 k30' k34 k34' k74 e0 e1 e2 e3 e4
 generalize W13.heap.size = B9 at *
 generalize W13.alloc (.cells #[.int .i64 u1n, .int .i64 u1m, .string u1s, .slice u1p u1l u1c, .slice u1pp u1ll u1cc] 29) = W1 at *
 go_region_held3 (fun w' => w'.cell? ⟨B7, 4, none⟩ = some (.slice (some ⟨BR, 0, none⟩) 3 3) ∧ w'.cell? ⟨B9, 0, none⟩ = some (.int .i64 u1n) ∧ w'.cell? ⟨B9, 1, none⟩ = some (.int .i64 u1m) ∧ w'.cell? ⟨B9, 2, none⟩ = some (.string u1s) ∧ w'.cell? ⟨B9, 3, none⟩ = some (.slice u1p u1l u1c) ∧ w'.cell? ⟨B9, 4, none⟩ = some (.slice u1pp u1ll u1cc)) (first | go_keep | (refine ⟨?_, ?_, ?_, ?_, ?_, ?_⟩ <;> first | exact set5 (i := 5) hne7 (by assumption) | exact set5 (i := 5) hne9 (by assumption)))
  (first | (go_at_call 42; refine hh.out.mono ?_; rintro e W2 ⟨x10, x11, x12, x13, x14, rfl, hx, hC2, g2, g9, hK⟩; have k74 : W2.cell? ⟨B7, 4, none⟩ = some (.slice (some ⟨BR, 0, none⟩) 3 3) := cell_of hC2.b7 4; have r0 : W2.cell? ⟨BR, 5, none⟩ = some (.int .i64 0) := cell_of hC2.row 5; have r1 : W2.cell? ⟨BR, 6, none⟩ = some (.int .i64 0) := cell_of hC2.row 6; have r2 : W2.cell? ⟨BR, 7, none⟩ = some (.string ⟨#[]⟩) := cell_of hC2.row 7; have r3 : W2.cell? ⟨BR, 8, none⟩ = some (.slice none 0 0) := cell_of hC2.row 8; have r4 : W2.cell? ⟨BR, 9, none⟩ = some (.slice none 0 0) := cell_of hC2.row 9; have q0 := frozen_of hC2.row 5; have q1 := frozen_of hC2.row 6; have q2 := frozen_of hC2.row 7; have q3 := frozen_of hC2.row 8; have q4 := frozen_of hC2.row 9; obtain ⟨v1n, v1m, v1s, v1p, v1l, v1c, v1pp, v1ll, v1cc⟩ := hx; obtain ⟨m0, m1, m2, m3, m4⟩ := g9))
 clear hh n0 n1 n2 n3 n4 k74 k74' r0 r1 r2 r3 r4 q0 q1 q2 q3 q4 m0 m1 m2 m3 m4 hne9
 have hN : Near BR BR W2 (((((W2.setCell ⟨BR, 5, none⟩ (.int .i64 v1n)).setCell ⟨BR, 6, none⟩ (.int .i64 v1m)).setCell ⟨BR, 7, none⟩ (.string v1s)).setCell ⟨BR, 8, none⟩ (.slice v1p v1l v1c)).setCell ⟨BR, 9, none⟩ (.slice v1pp v1ll v1cc)) := near5 _ _ _
 have hC2' := hC2.set5 hne3 hne6 hne7 5 (.int .i64 v1n) (.int .i64 v1m) (.string v1s) (.slice v1p v1l v1c) (.slice v1pp v1ll v1cc)
 have f2' : Mk.Five (((((W2.setCell ⟨BR, 5, none⟩ (.int .i64 v1n)).setCell ⟨BR, 6, none⟩ (.int .i64 v1m)).setCell ⟨BR, 7, none⟩ (.string v1s)).setCell ⟨BR, 8, none⟩ (.slice v1p v1l v1c)).setCell ⟨BR, 9, none⟩ (.slice v1pp v1ll v1cc)) b (off + 10) y20 y21 y22 y23 y24 := g2.set hneb
 generalize (((((W2.setCell ⟨BR, 5, none⟩ (.int .i64 v1n)).setCell ⟨BR, 6, none⟩ (.int .i64 v1m)).setCell ⟨BR, 7, none⟩ (.string v1s)).setCell ⟨BR, 8, none⟩ (.slice v1p v1l v1c)).setCell ⟨BR, 9, none⟩ (.slice v1pp v1ll v1cc)) = W23 at *
 have hh := hK.out W23 hN hC2' f2'
 clear hK hN g2 hC2
 have hC2 : Mk.WkC W23 B3 B6 B7 BR #[.int .i64 6, .int .i64 n, .string s, .slice pl ll cl, .slice (some ⟨b, off, none⟩) 3 ca] #[.int .i64 6, .int .i64 n, .string s, .slice pl ll cl, .slice (some ⟨BR, 0, none⟩) 3 3] #[.int .i64 v0n, .int .i64 v0m, .string v0s, .slice v0p v0l v0c, .slice v0pp v0ll v0cc, .int .i64 v1n, .int .i64 v1m, .string v1s, .slice v1p v1l v1c, .slice v1pp v1ll v1cc, .int .i64 0, .int .i64 0, .string ⟨#[]⟩, .slice none 0 0, .slice none 0 0] := hC2'
 clear hC2'
 have f2 := f2'
 clear f2'
 go_wp2_with fail
 rw [rounds_succ]
 obtain ⟨u2n, u2m, u2s, u2p, u2l, u2c, u2pp, u2ll, u2cc⟩ := hy2
 obtain ⟨e0, e1, e2, e3, e4⟩ := f2
 have k30 : W23.cell? ⟨B3, 0, none⟩ = some (.int .i64 6) := cell_of hC2.b3 0
 have k30' := keepa k30
 have k34 : W23.cell? ⟨B3, 4, none⟩ = some (.slice (some ⟨b, off, none⟩) 3 ca) := cell_of hC2.b3 4
 have k34' := keepa k34
 have hlt := (Array.getElem?_eq_some_iff.1 hC2.row).1
 have hne9 : W23.heap.size ≠ BR := by omega
 have n0 : (W23.alloc (.cells #[.int .i64 u2n, .int .i64 u2m, .string u2s, .slice u2p u2l u2c, .slice u2pp u2ll u2cc] 29)).cell? ⟨W23.heap.size, 0, none⟩ = some (.int .i64 u2n) := cell_of (heap_new rfl) 0
 have n1 : (W23.alloc (.cells #[.int .i64 u2n, .int .i64 u2m, .string u2s, .slice u2p u2l u2c, .slice u2pp u2ll u2cc] 29)).cell? ⟨W23.heap.size, 1, none⟩ = some (.int .i64 u2m) := cell_of (heap_new rfl) 1
 have n2 : (W23.alloc (.cells #[.int .i64 u2n, .int .i64 u2m, .string u2s, .slice u2p u2l u2c, .slice u2pp u2ll u2cc] 29)).cell? ⟨W23.heap.size, 2, none⟩ = some (.string u2s) := cell_of (heap_new rfl) 2
 have n3 : (W23.alloc (.cells #[.int .i64 u2n, .int .i64 u2m, .string u2s, .slice u2p u2l u2c, .slice u2pp u2ll u2cc] 29)).cell? ⟨W23.heap.size, 3, none⟩ = some (.slice u2p u2l u2c) := cell_of (heap_new rfl) 3
 have n4 : (W23.alloc (.cells #[.int .i64 u2n, .int .i64 u2m, .string u2s, .slice u2p u2l u2c, .slice u2pp u2ll u2cc] 29)).cell? ⟨W23.heap.size, 4, none⟩ = some (.slice u2pp u2ll u2cc) := cell_of (heap_new rfl) 4
 have k74 : W23.cell? ⟨B7, 4, none⟩ = some (.slice (some ⟨BR, 0, none⟩) 3 3) := cell_of hC2.b7 4
 have k74' := keepa k74 (.cells #[.int .i64 u2n, .int .i64 u2m, .string u2s, .slice u2p u2l u2c, .slice u2pp u2ll u2cc] 29)
 clear hlt hC2
 go_wp2_with fail
 clear k30 k30' k34 k34' k74 e0 e1 e2 e3 e4
 generalize W23.heap.size = B9 at *
 generalize W23.alloc (.cells #[.int .i64 u2n, .int .i64 u2m, .string u2s, .slice u2p u2l u2c, .slice u2pp u2ll u2cc] 29) = W1 at *
 go_region_held3 (fun w' => w'.cell? ⟨B7, 4, none⟩ = some (.slice (some ⟨BR, 0, none⟩) 3 3) ∧ w'.cell? ⟨B9, 0, none⟩ = some (.int .i64 u2n) ∧ w'.cell? ⟨B9, 1, none⟩ = some (.int .i64 u2m) ∧ w'.cell? ⟨B9, 2, none⟩ = some (.string u2s) ∧ w'.cell? ⟨B9, 3, none⟩ = some (.slice u2p u2l u2c) ∧ w'.cell? ⟨B9, 4, none⟩ = some (.slice u2pp u2ll u2cc)) (first | go_keep | (refine ⟨?_, ?_, ?_, ?_, ?_, ?_⟩ <;> first | exact set5 (i := 10) hne7 (by assumption) | exact set5 (i := 10) hne9 (by assumption)))
  (first | (go_at_call 42; refine hh.out.mono ?_; rintro e W2 ⟨x20, x21, x22, x23, x24, rfl, hx, hC3, g2, g9, hK⟩; have k74 : W2.cell? ⟨B7, 4, none⟩ = some (.slice (some ⟨BR, 0, none⟩) 3 3) := cell_of hC3.b7 4; have r0 : W2.cell? ⟨BR, 10, none⟩ = some (.int .i64 0) := cell_of hC3.row 10; have r1 : W2.cell? ⟨BR, 11, none⟩ = some (.int .i64 0) := cell_of hC3.row 11; have r2 : W2.cell? ⟨BR, 12, none⟩ = some (.string ⟨#[]⟩) := cell_of hC3.row 12; have r3 : W2.cell? ⟨BR, 13, none⟩ = some (.slice none 0 0) := cell_of hC3.row 13; have r4 : W2.cell? ⟨BR, 14, none⟩ = some (.slice none 0 0) := cell_of hC3.row 14; have q0 := frozen_of hC3.row 10; have q1 := frozen_of hC3.row 11; have q2 := frozen_of hC3.row 12; have q3 := frozen_of hC3.row 13; have q4 := frozen_of hC3.row 14; obtain ⟨v2n, v2m, v2s, v2p, v2l, v2c, v2pp, v2ll, v2cc⟩ := hx; obtain ⟨m0, m1, m2, m3, m4⟩ := g9))
 clear hh n0 n1 n2 n3 n4 k74 k74' r0 r1 r2 r3 r4 q0 q1 q2 q3 q4 m0 m1 m2 m3 m4 hne9
 have hN : Near BR BR W2 (((((W2.setCell ⟨BR, 10, none⟩ (.int .i64 v2n)).setCell ⟨BR, 11, none⟩ (.int .i64 v2m)).setCell ⟨BR, 12, none⟩ (.string v2s)).setCell ⟨BR, 13, none⟩ (.slice v2p v2l v2c)).setCell ⟨BR, 14, none⟩ (.slice v2pp v2ll v2cc)) := near5 _ _ _
 have hC3' := hC3.set5 hne3 hne6 hne7 10 (.int .i64 v2n) (.int .i64 v2m) (.string v2s) (.slice v2p v2l v2c) (.slice v2pp v2ll v2cc)
 generalize (((((W2.setCell ⟨BR, 10, none⟩ (.int .i64 v2n)).setCell ⟨BR, 11, none⟩ (.int .i64 v2m)).setCell ⟨BR, 12, none⟩ (.string v2s)).setCell ⟨BR, 13, none⟩ (.slice v2p v2l v2c)).setCell ⟨BR, 14, none⟩ (.slice v2pp v2ll v2cc)) = W33 at *
 have hh := hK.out W33 hN hC3'
 clear hK hN g2 hC3
 have hC3 : Mk.WkC W33 B3 B6 B7 BR #[.int .i64 6, .int .i64 n, .string s, .slice pl ll cl, .slice (some ⟨b, off, none⟩) 3 ca] #[.int .i64 6, .int .i64 n, .string s, .slice pl ll cl, .slice (some ⟨BR, 0, none⟩) 3 3] #[.int .i64 v0n, .int .i64 v0m, .string v0s, .slice v0p v0l v0c, .slice v0pp v0ll v0cc, .int .i64 v1n, .int .i64 v1m, .string v1s, .slice v1p v1l v1c, .slice v1pp v1ll v1cc, .int .i64 v2n, .int .i64 v2m, .string v2s, .slice v2p v2l v2c, .slice v2pp v2ll v2cc] := hC3'
 clear hC3'
 clear hne3 hne7 hne6 hneb
 have k70 : W33.cell? ⟨B7, 0, none⟩ = some (.int .i64 6) := cell_of hC3.b7 0
 have k71 : W33.cell? ⟨B7, 1, none⟩ = some (.int .i64 n) := cell_of hC3.b7 1
 have k72 : W33.cell? ⟨B7, 2, none⟩ = some (.string s) := cell_of hC3.b7 2
 have k73 : W33.cell? ⟨B7, 3, none⟩ = some (.slice pl ll cl) := cell_of hC3.b7 3
 have k74 : W33.cell? ⟨B7, 4, none⟩ = some (.slice (some ⟨BR, 0, none⟩) 3 3) := cell_of hC3.b7 4
 have r0 : W33.cell? ⟨B6, 0, none⟩ = some (.int .i64 0) := cell_of hC3.b6 0
 have r1 : W33.cell? ⟨B6, 1, none⟩ = some (.int .i64 0) := cell_of hC3.b6 1
 have r2 : W33.cell? ⟨B6, 2, none⟩ = some (.string ⟨#[]⟩) := cell_of hC3.b6 2
 have r3 : W33.cell? ⟨B6, 3, none⟩ = some (.slice none 0 0) := cell_of hC3.b6 3
 have r4 : W33.cell? ⟨B6, 4, none⟩ = some (.slice none 0 0) := cell_of hC3.b6 4
 have q0 := frozen_of hC3.b6 0
 have q1 := frozen_of hC3.b6 1
 have q2 := frozen_of hC3.b6 2
 have q3 := frozen_of hC3.b6 3
 have q4 := frozen_of hC3.b6 4
 go_wp2_with fail
 rw [rounds_succ]
 go_wp2_with fail
 have hN := near5 W33 B6 0 (y0 := .int .i64 6) (y1 := .int .i64 n) (y2 := .string s) (y3 := .slice pl ll cl) (y4 := .slice (some ⟨BR, 0, none⟩) 3 3)
 exact Mk.walk_end5 hC3.b6 rfl (hh.out _ hN)
end Go.Proofs
end
section
namespace Go.Proofs
open Go.RowKit Go.Ab Go.Ab.Mk
set_option maxRecDepth 100000
set_option maxHeartbeats 1000000
theorem _root_.Go.Ab.Mine.drew {n0 : Nat} {G : Gh} {w w' : World} (h : Mine n0 G w w') : Mine n0 G w w'.drew := h.trans (Mine.of_below ((Below.refl _ _).drew))
theorem _root_.Go.Ab.Mine.of_near {n0 a b : Nat} {G : Gh} {w w' : World} (h : Near a b w w') (ha : Own1 n0 G a) (hb : Own1 n0 G b) : Mine n0 G w w' :=
 ⟨h.os, h.tape, h.output, by rw [h.size]; exact Nat.le_refl _, fun i _ hn => h.heap i (by rintro rfl; exact hn ha) (by rintro rfl; exact hn hb)⟩
theorem Mk.ShpW.one {x0 x1 x2 x3 x4 : Value} (h : Mk.ShpW x0 x1 x2 x3 x4) : ∀ x ∈ [x0, x1, x2, x3, x4], x.oneCell' = true := by
 obtain ⟨n, m, st, p, l, c, pp, ll, cc⟩ := h
 intro x hx
 simp only [List.mem_cons, List.not_mem_nil, or_false] at hx
 rcases hx with rfl | rfl | rfl | rfl | rfl <;> rfl
theorem rel_parts {G : Gh} {w : World} {cs : List V} {xs : List Value} (h : Rel G w (.agg cs) (.agg xs.toArray)) : xs.length = cs.length ∧ ∀ (i : Nat) (v : V) (x : Value), cs[i]? = some v → xs[i]? = some x → Rel G w v x := by
 generalize hc : Value.agg xs.toArray = c at h
 cases h with
 | agg _ ys h1 h2 h3 =>
  injection hc with hc
  have : xs = ys := by simpa using hc
  subst this
  exact ⟨h1, h3⟩
theorem slice_shape {G : Gh} {w : World} {k : Nat} {e : TypeId} {es : List (List V)} {c : Value} (h : Rel G w (.slice k e es) c) : ∃ p cap, c = .slice p es.length cap := by
 cases h with
 | snil => exact ⟨_, _, rfl⟩
 | slice => exact ⟨_, _, rfl⟩
theorem Mk.tm_rel {G : Gh} {w : World} {t : Tm} {c : Value} (h : Rel G w t.val c) : ∃ pl cl pa ca, c = .agg #[.int .i64 t.kind, .int .i64 t.num, .string t.name, .slice pl t.lvs.length cl, .slice pa t.kids.length ca] ∧
  Rel G w (.slice 3 74 (t.lvs.map Lv.enc)) (.slice pl t.lvs.length cl) ∧ Rel G w (.slice 5 29 t.args) (.slice pa t.kids.length ca) := by
 cases h with
 | agg _ xs h1 h2 h3 =>
  obtain ⟨x0, x1, x2, x3, x4, rfl⟩ : ∃ x0 x1 x2 x3 x4, xs = [x0, x1, x2, x3, x4] := by
   match xs, h1 with
   | [x0, x1, x2, x3, x4], _ => exact ⟨x0, x1, x2, x3, x4, rfl⟩
  have r0 := h3 0 _ _ rfl rfl
  have r1 := h3 1 _ _ rfl rfl
  have r2 := h3 2 _ _ rfl rfl
  have r3 := h3 3 _ _ rfl rfl
  have r4 := h3 4 _ _ rfl rfl
  cases r0
  cases r1
  cases r2
  obtain ⟨p, cp, rfl⟩ := slice_shape r3
  obtain ⟨q, cq, rfl⟩ := slice_shape r4
  have e1 : (t.lvs.map Lv.enc).length = t.lvs.length := by simp
  have e2 : t.args.length = t.kids.length := by simp [Tm.args]
  rw [e1] at r3
  rw [e2] at r4
  exact ⟨p, cp, q, cq, by rw [e1, e2], r3, r4⟩
theorem Mk.shp_of {G : Gh} {w : World} {t : Tm} {y0 y1 y2 y3 y4 : Value} (h : Rel G w t.val (.agg #[y0, y1, y2, y3, y4])) : Mk.ShpW y0 y1 y2 y3 y4 := by
 obtain ⟨pl, cl, pa, ca, e, _, _⟩ := Mk.tm_rel h
 injection e with e
 injection e with e
 simp only [List.cons.injEq, and_true] at e
 obtain ⟨rfl, rfl, rfl, rfl, rfl⟩ := e
 exact .mk _ _ _ _ _ _ _ _ _
theorem Mk.kids_rel {G : Gh} {w : World} {L : List Tm} {pa : Option Addr} {n ca : Nat} (hne : L ≠ []) (h : Rel G w (.slice 5 29 (L.map Tm.enc)) (.slice pa n ca)) :
  ∃ b off, pa = some ⟨b, off, none⟩ ∧ off + L.length * 5 ≤ G.lim b ∧ ∀ (i : Nat) (t : Tm), L[i]? = some t → ∃ y0 y1 y2 y3 y4, Mk.Five w b (off + i * 5) y0 y1 y2 y3 y4 ∧ Rel G w t.val (.agg #[y0, y1, y2, y3, y4]) := by
 generalize hc : Value.slice pa n ca = c at h
 generalize hes : L.map Tm.enc = es at h
 cases h with
 | snil => exact absurd (List.map_eq_nil_iff.1 hes) hne
 | slice _ _ _ b off cap cs h1 h2 h3 h4 h5 h6 h7 =>
  injection hc with e1 e2 e3
  subst hes
  refine ⟨b, off, e1, by simpa using h3, fun i t hi => ?_⟩
  have hlt := (List.getElem?_eq_some_iff.1 hi).1
  have hlt' : i < cs.length := by rw [h1]; simpa using hlt
  have hcs := List.getElem?_eq_getElem hlt'
  have hes : (L.map Tm.enc)[i]? = some t.enc := by rw [List.getElem?_map, hi]; rfl
  have hl := h5 i _ hcs
  obtain ⟨y0, y1, y2, y3, y4, hy⟩ : ∃ y0 y1 y2 y3 y4, cs[i] = [y0, y1, y2, y3, y4] := by
   match hm : cs[i], hl with
   | [y0, y1, y2, y3, y4], _ => exact ⟨y0, y1, y2, y3, y4, rfl⟩
  rw [hy] at hcs
  refine ⟨y0, y1, y2, y3, y4, ⟨(h6 i 0 _ _ hcs rfl).1, (h6 i 1 _ _ hcs rfl).1, (h6 i 2 _ _ hcs rfl).1, (h6 i 3 _ _ hcs rfl).1, (h6 i 4 _ _ hcs rfl).1⟩, ?_⟩
  have hv : t.val = .agg t.enc := by rw [t.enc_eq]; rfl
  rw [hv]
  refine Rel.agg _ [y0, y1, y2, y3, y4] t.enc_len.symm (fun j x hx => ?_) (fun j v x hj hx => h7 i j _ _ v x hes hcs hj hx)
  exact (h6 i j _ x hcs hx).2
def Mk.WalkQ (C : Ctx) (G : Gh) (w : World) (σ' : Sto) (cs : List V) : Ending → World → Prop := fun e w' =>
 ∃ G' x0 x1 x2 x3 x4, e = .returned (.agg #[x0, x1, x2, x3, x4]) ∧ Mk.ShpW x0 x1 x2 x3 x4 ∧ Ext G w G' w' ∧ SInv C.glob G' w' σ' ∧ Go.Ab.Clean G' 0 ∧ cs.length = 5 ∧ Rel G' w' (.agg cs) (.agg #[x0, x1, x2, x3, x4])
def Mk.Caps (G : Gh) (w : World) (cap : List V) (capv : List Value) : Prop := capv.length = cap.length ∧ ∀ (i : Nat) (v : V) (x : Value), cap[i]? = some v → capv[i]? = some x → Rel G w v x
def Mk.WalkAt (C : Ctx) (call : CallF) (f : FuncId) (cap : List V) (t : Tm) : Prop :=
 ∀ (d : Int) (σ : Sto) (cs : List V) (σ' : Sto), Mk.walkV call f cap t d σ = some (cs, σ') → ∀ (G : Gh) (w : World) (c : Value) (capv : List Value), SInv C.glob G w σ → Go.Ab.Clean G 0 → Rel G w t.val c → Mk.Caps G w cap capv →
  Calls Tryd.prog 42 #[c, .int .i64 d, .func (.func f) #[] capv.toArray] w (Mk.WalkQ C G w σ' cs)
theorem five_heap {W W2 : World} {b off : Nat} {z0 z1 z2 z3 z4 : Value} (h : Mk.Five W b off z0 z1 z2 z3 z4) (hc : ∀ j, j < 5 → W2.cell? ⟨b, off + j, none⟩ = W.cell? ⟨b, off + j, none⟩) : Mk.Five W2 b off z0 z1 z2 z3 z4 :=
 ⟨(hc 0 (by omega)).trans h.c0, (hc 1 (by omega)).trans h.c1, (hc 2 (by omega)).trans h.c2, (hc 3 (by omega)).trans h.c3, (hc 4 (by omega)).trans h.c4⟩
theorem cell_heap {W W2 : World} {b o : Nat} (h : W2.heap[b]? = W.heap[b]?) : W2.cell? ⟨b, o, none⟩ = W.cell? ⟨b, o, none⟩ := by simp only [World.cell?, h]
section
variable {C : Ctx} {call : CallF} {f : FuncId} {cap : List V} {capv : List Value}
theorem Mk.wk_child {t : Tm} {d : Int} {σ σ' : Sto} {cs : List V} (ih : Mk.WalkAt C call f cap t) (hw : Mk.walkV call f cap t d σ = some (cs, σ'))
  {n0 : Nat} {G0 G : Gh} {w0 W : World} {B3 B6 B7 BR : Nat} (hG : Mk.WkG C.glob σ n0 G0 w0 G W B3 B6 B7 BR) {c3 c7 rs : Array Value} (hC : Mk.WkC W B3 B6 B7 BR c3 c7 rs)
  {y0 y1 y2 y3 y4 : Value} (hr : Rel G W t.val (.agg #[y0, y1, y2, y3, y4])) (hcap : Mk.Caps G W cap capv) {b off : Nat} {z0 z1 z2 z3 z4 : Value} (hz : Mk.Five W b off z0 z1 z2 z3 z4) (hlim : off + 5 ≤ G.lim b)
  (K : World → Value → Value → Value → Value → Value → Prop)
  (hK : ∀ (G2 : Gh) (W2 : World) (x0 x1 x2 x3 x4 : Value), Mk.WkG C.glob σ' n0 G0 w0 G2 W2 B3 B6 B7 BR → (∀ v c, Rel G W v c → Rel G2 W2 v c) → (∀ b, G.lim b ≤ G2.lim b) → (∀ b o, o < G.lim b → W2.cell? ⟨b, o, none⟩ = W.cell? ⟨b, o, none⟩) → Mk.ShpW x0 x1 x2 x3 x4 → cs.length = 5 → Rel G2 W2 (.agg cs) (.agg #[x0, x1, x2, x3, x4]) → K W2 x0 x1 x2 x3 x4) :
  Calls Tryd.prog 42 #[.agg #[y0, y1, y2, y3, y4], .int .i64 d, .func (.func f) #[] capv.toArray] (W.alloc (.cells #[y0, y1, y2, y3, y4] 29)).drew
   (Mk.WkT B3 B6 B7 BR W.heap.size c3 c7 rs y0 y1 y2 y3 y4 b off z0 z1 z2 z3 z4 K) := by
 have m : Mine n0 G W (W.alloc (.cells #[y0, y1, y2, y3, y4] 29)).drew := ((Mine.refl n0 G W).alloc _).drew
 have hG' := hG.write m
 have hnew : (W.alloc (.cells #[y0, y1, y2, y3, y4] 29)).drew.heap[W.heap.size]? = some (.cells #[y0, y1, y2, y3, y4] 29 (0, 0)) := heap_new rfl
 have hsz : W.heap.size < (W.alloc (.cells #[y0, y1, y2, y3, y4] 29)).drew.heap.size := (Array.getElem?_eq_some_iff.1 hnew).1
 have hold : ∀ i, i < W.heap.size → (W.alloc (.cells #[y0, y1, y2, y3, y4] 29)).drew.heap[i]? = W.heap[i]? := fun i hi => heap_alloc_lt hi
 generalize (W.alloc (.cells #[y0, y1, y2, y3, y4] 29)).drew = W' at *
 have o9 : Own1 n0 G W.heap.size := Own1.new hG.sinv.wf hG.n0 (Nat.le_refl _)
 refine (ih d σ cs σ' hw G W' _ capv hG'.sinv hG'.clean (m.rel hG.sinv.wf hr) ⟨hcap.1, fun i v x hv hx => m.rel hG.sinv.wf (hcap.2 i v x hv hx)⟩).mono ?_
 rintro e W2 ⟨G2, x0, x1, x2, x3, x4, rfl, hx, e2, s2, c2, hl, r2⟩
 obtain ⟨hG2, q3, q6, q7, qr⟩ := hG'.called e2 s2 c2
 obtain ⟨_, q9⟩ := o9.ext e2 hsz
 have hb : b < W.heap.size := lim_lt hG.sinv.wf (o := off) (by omega)
 refine ⟨x0, x1, x2, x3, x4, rfl, hx, ⟨?_, ?_, ?_, ?_⟩, ?_, ?_, hK G2 W2 x0 x1 x2 x3 x4 hG2 (fun v c hv => (m.rel hG.sinv.wf hv).mono e2) e2.lim (fun b o ho => (e2.cell b o ho).trans (cell_heap (hold b (lim_lt hG.sinv.wf ho)))) hx hl r2⟩
 ·rw [q3, hold _ hG.l3]; exact hC.b3
 ·rw [q6, hold _ hG.l6]; exact hC.b6
 ·rw [q7, hold _ hG.l7]; exact hC.b7
 ·rw [qr, hold _ hG.lr]; exact hC.row
 ·exact five_heap hz fun j hj => (e2.cell b (off + j) (by omega)).trans (cell_heap (hold b hb))
 ·have hh := q9.trans hnew
  exact ⟨cell_of hh 0, cell_of hh 1, cell_of hh 2, cell_of hh 3, cell_of hh 4⟩
theorem Mk.wk_start {σ : Sto} {G : Gh} {w W : World} {B3 B6 B7 BR : Nat} {c3 c7 rs : Array Value} (hS : SInv C.glob G w σ) (hcl : Go.Ab.Clean G 0) (hF : Mk.Fresh w W B3 B6 B7 BR) (hC : Mk.WkC W B3 B6 B7 BR c3 c7 rs) :
  Mk.WkG C.glob σ w.heap.size G w G W B3 B6 B7 BR ∧ ∀ v c, Rel G w v c → Rel G W v c := by
 have m : Mine w.heap.size G w W := Mine.of_below hF.below
 have lt : ∀ {i : Nat} {o : Obj}, W.heap[i]? = some o → i < W.heap.size := fun h => (Array.getElem?_eq_some_iff.1 h).1
 exact ⟨⟨m.extB hS.wf (Nat.le_refl _), m.sinv hS, hcl, Own1.new hS.wf (Nat.le_refl _) (by rw [hF.b3]; exact Nat.le_refl _), Own1.new hS.wf (Nat.le_refl _) (by rw [hF.b6]; omega), Own1.new hS.wf (Nat.le_refl _) (by rw [hF.b7]; omega), Own1.new hS.wf (Nat.le_refl _) (by rw [hF.br]; omega),
  lt hC.b3, lt hC.b6, lt hC.b7, lt hC.row, hF.below.size⟩, fun v c h => m.rel hS.wf h⟩
theorem Mk.wk_done {σ : Sto} {G G2 : Gh} {w W4 W5 W6 : World} {B3 B6 B7 BR : Nat} {c3 c7 rs : Array Value} (hG : Mk.WkG C.glob σ w.heap.size G w G2 W4 B3 B6 B7 BR) (hne : BR ≠ B6) (hN5 : Near BR BR W4 W5) (hC : Mk.WkC W5 B3 B6 B7 BR c3 c7 rs) (hN6 : Near B6 B6 W5 W6)
  {k : Int} {pl : Option Addr} {ll cl : Nat} {ls : List Lv} (hl : Rel G2 W4 (.slice 3 74 (ls.map Lv.enc)) (.slice pl ll cl)) {es : List (List V)} {xs : List (List Value)} (hx : xs.length = es.length)
  (h5 : ∀ (i : Nat) (e : List V), es[i]? = some e → e.length = 5) (hx5 : ∀ (i : Nat) (x : List Value), xs[i]? = some x → x.length = 5) (h1 : ∀ (i : Nat) (x : List Value), xs[i]? = some x → ∀ c ∈ x, c.oneCell' = true)
  (hr : ∀ (i : Nat) (e : List V) (x : List Value), es[i]? = some e → xs[i]? = some x → Rel G2 W4 (.agg e) (.agg x.toArray))
  (hrow : ∀ (i j : Nat) (x : List Value) (c : Value), xs[i]? = some x → x[j]? = some c → rs[i * 5 + j]? = some c) :
  Mk.WalkQ C G w σ (tmCells k 0 (ByteArray.mk #[]) ls es) (.returned (.agg #[.int .i64 k, .int .i64 0, .string ⟨#[]⟩, .slice pl ll cl, .slice (some ⟨BR, 0, none⟩) es.length es.length])) W6 := by
 have m5 : Mine w.heap.size G2 W4 W5 := Mine.of_near hN5 hG.orr hG.orr
 have hG5 := hG.write m5
 have m6 : Mine w.heap.size G2 W5 W6 := Mine.of_near hN6 hG5.o6 hG5.o6
 have hG6 := hG5.write m6
 have up : ∀ v c, Rel G2 W4 v c → Rel (G2.settle BR (es.length * 5)) W6 v c := fun v c h => Gh.settle_rel hG6.orr.lim (m6.rel hG5.sinv.wf (m5.rel hG.sinv.wf h))
 have hbr : W6.heap[BR]? = some (.cells rs 29 (0, 0)) := (hN6.heap BR hne hne).trans hC.row
 refine ⟨G2.settle BR (es.length * 5), _, _, _, _, _, rfl, .mk _ _ _ _ _ _ _ _ _, (hG6.ext.trans (Gh.settle_ext hG6.orr)).toExt, Gh.settle_sinv hG6.orr hG6.lr hG6.sinv, hG6.clean, rfl, ?_⟩
 have hargs : Rel (G2.settle BR (es.length * 5)) W6 (.slice 5 29 es) (.slice (some ⟨BR, 0, none⟩) es.length es.length) := by
  refine Rel.slice 5 _ es BR 0 es.length xs hx (Nat.le_refl _) ?_ h5 hx5 (fun i j x c hi hj => ⟨?_, h1 i x hi c (List.mem_of_getElem? hj)⟩) (fun i j e x v c he hi hv hc => ?_)
  ·show 0 + es.length * 5 ≤ if BR = BR then es.length * 5 else _
   rw [if_pos rfl]; omega
  ·rw [cell_of hbr, Nat.zero_add]
   exact hrow i j x c hi hj
  ·exact up _ _ ((rel_parts (hr i e x he hi)).2 j v c hv hc)
 refine Rel.agg _ [.int .i64 k, .int .i64 0, .string ⟨#[]⟩, .slice pl ll cl, .slice (some ⟨BR, 0, none⟩) es.length es.length] rfl ?_ ?_
 ·intro i x hi
  match i with
  | 0 => simp at hi; subst hi; rfl
  | 1 => simp at hi; subst hi; rfl
  | 2 => simp at hi; subst hi; rfl
  | 3 => simp at hi; subst hi; rfl
  | 4 => simp at hi; subst hi; rfl
  | i + 5 => simp at hi
 ·intro i v x hv hi
  match i with
  | 0 => simp [tmCells] at hv hi; subst hv; subst hi; exact .int _ _
  | 1 => simp [tmCells] at hv hi; subst hv; subst hi; exact .int _ _
  | 2 => simp [tmCells] at hv hi; subst hv; subst hi; exact .str _
  | 3 => simp [tmCells] at hv hi; subst hv; subst hi; exact up _ _ hl
  | 4 => simp [tmCells] at hv hi; subst hv; subst hi; exact hargs
  | i + 5 => simp at hi
theorem Mk.Caps.mono {G G' : Gh} {w w' : World} (h : Mk.Caps G w cap capv) (m : ∀ v c, Rel G w v c → Rel G' w' v c) : Mk.Caps G' w' cap capv := ⟨h.1, fun i v x hv hx => m v x (h.2 i v x hv hx)⟩
theorem Mk.node_two {kk : Int} {s2 : Int → Int} {t a b : Tm} {d : Int} {σ σ1 σ2 : Sto} {ca cb : List V} (iha : Mk.WalkAt C call f cap a) (ihb : Mk.WalkAt C call f cap b)
  (ha : Mk.walkV call f cap a d σ = some (ca, σ1)) (hb : Mk.walkV call f cap b (s2 d) σ1 = some (cb, σ2)) (hk : t.kids = [a, b]) (hkind : t.kind = kk) (hnum : t.num = 0) (hname : t.name = ByteArray.mk #[]) (hlv : t.lvs = [])
  (walk : ∀ (pl : Option Addr) (ll cl cap b off : Nat) (fv : Value) (w : World) (y00 y01 y02 y03 y04 y10 y11 y12 y13 y14 : Value) (Q : Ending → World → Prop)
   (hy0 : Mk.ShpW y00 y01 y02 y03 y04) (hy1 : Mk.ShpW y10 y11 y12 y13 y14) (g0 : Mk.Five w b off y00 y01 y02 y03 y04) (g1 : Mk.Five w b (off + 5) y10 y11 y12 y13 y14)
   (h : ∀ W B3 B6 B7 BR, Mk.Fresh w W B3 B6 B7 BR → Mk.WkC W B3 B6 B7 BR #[.int .i64 kk, .int .i64 0, .string ⟨#[]⟩, .slice pl ll cl, .slice (some ⟨b, off, none⟩) 2 cap] #[.int .i64 kk, .int .i64 0, .string ⟨#[]⟩, .slice pl ll cl, .slice (some ⟨BR, 0, none⟩) 2 2] #[.int .i64 0, .int .i64 0, .string ⟨#[]⟩, .slice none 0 0, .slice none 0 0, .int .i64 0, .int .i64 0, .string ⟨#[]⟩, .slice none 0 0, .slice none 0 0] → Mk.Five W b off y00 y01 y02 y03 y04 →
    Hid (Calls Tryd.prog 42 #[.agg #[y00, y01, y02, y03, y04], .int .i64 d, fv] (W.alloc (.cells #[y00, y01, y02, y03, y04] 29)).drew
     (Mk.WkT B3 B6 B7 BR W.heap.size #[.int .i64 kk, .int .i64 0, .string ⟨#[]⟩, .slice pl ll cl, .slice (some ⟨b, off, none⟩) 2 cap] #[.int .i64 kk, .int .i64 0, .string ⟨#[]⟩, .slice pl ll cl, .slice (some ⟨BR, 0, none⟩) 2 2] #[.int .i64 0, .int .i64 0, .string ⟨#[]⟩, .slice none 0 0, .slice none 0 0, .int .i64 0, .int .i64 0, .string ⟨#[]⟩, .slice none 0 0, .slice none 0 0] y00 y01 y02 y03 y04 b (off + 5) y10 y11 y12 y13 y14
      fun W2 x00 x01 x02 x03 x04 => ∀ W3, Near BR BR W2 W3 → Mk.WkC W3 B3 B6 B7 BR #[.int .i64 kk, .int .i64 0, .string ⟨#[]⟩, .slice pl ll cl, .slice (some ⟨b, off, none⟩) 2 cap] #[.int .i64 kk, .int .i64 0, .string ⟨#[]⟩, .slice pl ll cl, .slice (some ⟨BR, 0, none⟩) 2 2] #[x00, x01, x02, x03, x04, .int .i64 0, .int .i64 0, .string ⟨#[]⟩, .slice none 0 0, .slice none 0 0] → Mk.Five W3 b (off + 5) y10 y11 y12 y13 y14 →
       Hid (Calls Tryd.prog 42 #[.agg #[y10, y11, y12, y13, y14], .int .i64 (s2 d), fv] (W3.alloc (.cells #[y10, y11, y12, y13, y14] 29)).drew
        (Mk.WkT B3 B6 B7 BR W3.heap.size #[.int .i64 kk, .int .i64 0, .string ⟨#[]⟩, .slice pl ll cl, .slice (some ⟨b, off, none⟩) 2 cap] #[.int .i64 kk, .int .i64 0, .string ⟨#[]⟩, .slice pl ll cl, .slice (some ⟨BR, 0, none⟩) 2 2] #[x00, x01, x02, x03, x04, .int .i64 0, .int .i64 0, .string ⟨#[]⟩, .slice none 0 0, .slice none 0 0] y10 y11 y12 y13 y14 b (off + 5) y10 y11 y12 y13 y14
         fun W2 x10 x11 x12 x13 x14 => ∀ W3, Near BR BR W2 W3 → Mk.WkC W3 B3 B6 B7 BR #[.int .i64 kk, .int .i64 0, .string ⟨#[]⟩, .slice pl ll cl, .slice (some ⟨b, off, none⟩) 2 cap] #[.int .i64 kk, .int .i64 0, .string ⟨#[]⟩, .slice pl ll cl, .slice (some ⟨BR, 0, none⟩) 2 2] #[x00, x01, x02, x03, x04, x10, x11, x12, x13, x14] →
          Hid (∀ W4, Near B6 B6 W3 W4 → Q (.returned (.agg #[.int .i64 kk, .int .i64 0, .string ⟨#[]⟩, .slice pl ll cl, .slice (some ⟨BR, 0, none⟩) 2 2])) W4)))))),
   Calls Tryd.prog 42 #[.agg #[.int .i64 kk, .int .i64 0, .string ⟨#[]⟩, .slice pl ll cl, .slice (some ⟨b, off, none⟩) 2 cap], .int .i64 d, fv] w Q)
  {G : Gh} {w : World} {c : Value} (hS : SInv C.glob G w σ) (hcl : Go.Ab.Clean G 0) (hr : Rel G w t.val c) (hcap : Mk.Caps G w cap capv) :
  Calls Tryd.prog 42 #[c, .int .i64 d, .func (.func f) #[] capv.toArray] w (Mk.WalkQ C G w σ2 (tmCells kk 0 (ByteArray.mk #[]) [] [ca, cb])) := by
 obtain ⟨pl, cl, pa, cap', rfl, rl, ra⟩ := Mk.tm_rel hr
 unfold Tm.args at ra
 rw [hk] at ra
 obtain ⟨bb, off, rfl, hlim, hkids⟩ := Mk.kids_rel (by simp) ra
 obtain ⟨y00, y01, y02, y03, y04, g0, r0⟩ := hkids 0 a rfl
 obtain ⟨y10, y11, y12, y13, y14, g1, r1⟩ := hkids 1 b rfl
 simp only [Nat.zero_mul, Nat.add_zero, Nat.one_mul] at g0 g1
 simp only [List.length_cons, List.length_nil] at hlim
 rw [hlv] at rl
 simp only [hk, hkind, hnum, hname, hlv, List.length_cons, List.length_nil]
 refine walk pl 0 cl cap' bb off _ w _ _ _ _ _ _ _ _ _ _ _ (Mk.shp_of r0) (Mk.shp_of r1) g0 g1 fun W B3 B6 B7 BR hF hC f0 => ?_
 obtain ⟨hG0, up0⟩ := Mk.wk_start (C := C) hS hcl hF hC
 have hne : BR ≠ B6 := by rw [hF.br, hF.b6]; omega
 have gz : Mk.Five W bb (off + 5) y10 y11 y12 y13 y14 := five_heap g1 fun j hj => cell_heap (hF.below.block bb (lim_lt hS.wf (o := off) (by omega)))
 refine Mk.wk_child iha ha hG0 hC (up0 _ _ r0) (hcap.mono up0) gz (by omega) _ fun G1 W2 x00 x01 x02 x03 x04 hG1 up1 lim1 _ hx0 hl0 q0 W3 hN3 hC3 f1 => ?_
 have m3 : Mine w.heap.size G1 W2 W3 := Mine.of_near hN3 hG1.orr hG1.orr
 have up3 := fun v c (h : Rel G1 W2 v c) => m3.rel hG1.sinv.wf h
 refine Mk.wk_child ihb hb (hG1.write m3) hC3 (up3 _ _ (up1 _ _ (up0 _ _ r1))) ((hcap.mono up0).mono fun v c h => up3 _ _ (up1 _ _ h)) f1 (by have := lim1 bb; omega) _ fun G2 W4 x10 x11 x12 x13 x14 hG2 up2 lim2 _ hx1 hl1 q1 W5 hN5 hC5 W6 hN6 => ?_
 have up4 := fun v c (h : Rel G1 W2 v c) => up2 v c (up3 v c h)
 refine Mk.wk_done (es := [ca, cb]) (xs := [[x00, x01, x02, x03, x04], [x10, x11, x12, x13, x14]]) (ls := []) hG2 hne hN5 hC5 hN6 (up4 _ _ (up1 _ _ (up0 _ _ rl))) rfl ?_ ?_ ?_ ?_ ?_
 ·intro i e he
  match i with
  | 0 => simp at he; subst he; exact hl0
  | 1 => simp at he; subst he; exact hl1
  | i + 2 => simp at he
 ·intro i x hx
  match i with
  | 0 => simp at hx; subst hx; rfl
  | 1 => simp at hx; subst hx; rfl
  | i + 2 => simp at hx
 ·intro i x hx
  match i with
  | 0 => simp at hx; subst hx; exact hx0.one
  | 1 => simp at hx; subst hx; exact hx1.one
  | i + 2 => simp at hx
 ·intro i e x he hx
  match i with
  | 0 => simp at hx he; subst hx; subst he; exact up4 _ _ q0
  | 1 => simp at hx he; subst hx; subst he; exact q1
  | i + 2 => simp at hx
 ·intro i j x c hx hj
  match i with
  | 0 =>
   simp at hx; subst hx
   match j with
   | 0 => simpa using hj
   | 1 => simpa using hj
   | 2 => simpa using hj
   | 3 => simpa using hj
   | 4 => simpa using hj
   | j + 5 => simp at hj
  | 1 =>
   simp at hx; subst hx
   match j with
   | 0 => simpa using hj
   | 1 => simpa using hj
   | 2 => simpa using hj
   | 3 => simpa using hj
   | 4 => simpa using hj
   | j + 5 => simp at hj
  | i + 2 => simp at hx
theorem Mk.walk_at_app {a b : Tm} (iha : Mk.WalkAt C call f cap a) (ihb : Mk.WalkAt C call f cap b) : Mk.WalkAt C call f cap (.app a b) := by
 intro d σ cs σ' h G w c capv hS hcl hr hcap
 simp only [Mk.walkV, Option.bind_eq_some_iff] at h
 obtain ⟨⟨ca, σ1⟩, ha, ⟨cb, σ2⟩, hb, h⟩ := h
 obtain ⟨rfl, rfl⟩ := Prod.mk.inj (Option.some.inj h)
 exact Mk.node_two (kk := 3) (s2 := fun d => d) iha ihb ha hb rfl rfl rfl rfl rfl (fun pl ll cl cap b off fv w y00 y01 y02 y03 y04 y10 y11 y12 y13 y14 Q h0 h1 g0 g1 h => Mk.walk_app 0 (ByteArray.mk #[]) pl ll cl cap b off d fv w y00 y01 y02 y03 y04 y10 y11 y12 y13 y14 Q h0 h1 g0 g1 h) hS hcl hr hcap
theorem Mk.walk_at_bind {kk : Int} (hk0 : 4 ≤ kk) (hk1 : kk ≤ 5) {t a b : Tm} {d : Int} {σ σ1 σ2 : Sto} {ca cb : List V} (iha : Mk.WalkAt C call f cap a) (ihb : Mk.WalkAt C call f cap b)
  (ha : Mk.walkV call f cap a d σ = some (ca, σ1)) (hb : Mk.walkV call f cap b (d + 1) σ1 = some (cb, σ2)) (hd0 : 0 ≤ d) (hd1 : d < 1152921504606846976) (hk : t.kids = [a, b]) (hkind : t.kind = kk) (hnum : t.num = 0) (hname : t.name = ByteArray.mk #[]) (hlv : t.lvs = [])
  {G : Gh} {w : World} {c : Value} (hS : SInv C.glob G w σ) (hcl : Go.Ab.Clean G 0) (hr : Rel G w t.val c) (hcap : Mk.Caps G w cap capv) :
  Calls Tryd.prog 42 #[c, .int .i64 d, .func (.func f) #[] capv.toArray] w (Mk.WalkQ C G w σ2 (tmCells kk 0 (ByteArray.mk #[]) [] [ca, cb])) :=
 Mk.node_two (kk := kk) (s2 := fun d => d + 1) iha ihb ha hb hk hkind hnum hname hlv (fun pl ll cl cap b off fv w y00 y01 y02 y03 y04 y10 y11 y12 y13 y14 Q h0 h1 g0 g1 h => Mk.walk_bind kk hk0 hk1 0 (ByteArray.mk #[]) pl ll cl cap b off d hd0 hd1 fv w y00 y01 y02 y03 y04 y10 y11 y12 y13 y14 Q h0 h1 g0 g1 h) hS hcl hr hcap
end
end Go.Proofs
end
section
namespace Go.Proofs
open Go.RowKit Go.Ab Go.Ab.Mk
set_option maxRecDepth 100000
set_option maxHeartbeats 1000000
section
variable {C : Ctx} {call : CallF} {f : FuncId} {cap : List V} {capv : List Value}
theorem five_near {W W2 : World} {B b off : Nat} {z0 z1 z2 z3 z4 : Value} (h : Mk.Five W b off z0 z1 z2 z3 z4) (hN : Near B B W W2) (hne : b ≠ B) : Mk.Five W2 b off z0 z1 z2 z3 z4 := five_heap h fun _ _ => cell_heap (hN.heap b hne hne)
theorem Mk.walk_at_let {a b t2 : Tm} (iha : Mk.WalkAt C call f cap a) (ihb : Mk.WalkAt C call f cap b) (ihc : Mk.WalkAt C call f cap t2) : Mk.WalkAt C call f cap (.letin a b t2) := by
 intro d σ cs σ3 h G w c capv hS hcl hr hcap
 simp only [Mk.walkV, Option.bind_eq_some_iff] at h
 obtain ⟨⟨ca, σ1⟩, ha, ⟨cb, σ2⟩, hb, _, hd, ⟨cc, σ3'⟩, hc, h⟩ := h
 obtain ⟨rfl, rfl⟩ := Prod.mk.inj (Option.some.inj h)
 obtain ⟨hd0, hd1⟩ : 0 ≤ d ∧ d < 1152921504606846976 := by
  unfold grd at hd
  cases h1 : (decide (0 ≤ d) && decide (d < 2 ^ 60)) with
  | false => rw [h1] at hd; simp at hd
  | true => rw [Bool.and_eq_true] at h1; exact ⟨of_decide_eq_true h1.1, of_decide_eq_true h1.2⟩
 obtain ⟨pl, cl, pa, cap', rfl, rl, ra⟩ := Mk.tm_rel hr
 unfold Tm.args at ra
 simp only [Tm.kids] at ra
 obtain ⟨bb, off, rfl, hlim, hkids⟩ := Mk.kids_rel (L := [a, b, t2]) (by simp) ra
 obtain ⟨y00, y01, y02, y03, y04, g0, r0⟩ := hkids 0 a rfl
 obtain ⟨y10, y11, y12, y13, y14, g1, r1⟩ := hkids 1 b rfl
 obtain ⟨y20, y21, y22, y23, y24, g2, r2⟩ := hkids 2 t2 rfl
 simp only [Nat.zero_mul, Nat.add_zero, Nat.one_mul, Nat.reduceMul] at g0 g1 g2
 simp only [List.length_cons, List.length_nil] at hlim
 simp only [Tm.lvs] at rl
 simp only [Tm.kids, Tm.kind, Tm.num, Tm.name, Tm.lvs, List.length_cons, List.length_nil]
 refine Mk.walk_let 0 (ByteArray.mk #[]) pl 0 cl cap' bb off d hd0 hd1 _ w _ _ _ _ _ _ _ _ _ _ _ _ _ _ _ _ (Mk.shp_of r0) (Mk.shp_of r1) (Mk.shp_of r2) g0 g1 g2 fun W B3 B6 B7 BR hF hC f0 => ?_
 obtain ⟨hG0, up0⟩ := Mk.wk_start (C := C) hS hcl hF hC
 have hne : BR ≠ B6 := by rw [hF.br, hF.b6]; omega
 have hbb := lim_lt hS.wf (b := bb) (o := off) (by omega)
 have hbr : bb ≠ BR := by rw [hF.br]; omega
 have gz : Mk.Five W bb (off + 5) y10 y11 y12 y13 y14 := five_heap g1 fun j hj => cell_heap (hF.below.block bb hbb)
 have gz2 : Mk.Five W bb (off + 10) y20 y21 y22 y23 y24 := five_heap g2 fun j hj => cell_heap (hF.below.block bb hbb)
 refine Mk.wk_child iha ha hG0 hC (up0 _ _ r0) (hcap.mono up0) gz (by omega) _ fun G1 W2 x00 x01 x02 x03 x04 hG1 up1 lim1 cel1 hx0 hl0 q0 W3 hN3 hC3 f1 => ?_
 have m3 : Mine w.heap.size G1 W2 W3 := Mine.of_near hN3 hG1.orr hG1.orr
 have up3 := fun v c (h : Rel G1 W2 v c) => m3.rel hG1.sinv.wf h
 have gz3 : Mk.Five W3 bb (off + 10) y20 y21 y22 y23 y24 := five_near (five_heap gz2 fun j hj => cel1 bb (off + 10 + j) (by omega)) hN3 hbr
 refine Mk.wk_child ihb hb (hG1.write m3) hC3 (up3 _ _ (up1 _ _ (up0 _ _ r1))) ((hcap.mono up0).mono fun v c h => up3 _ _ (up1 _ _ h)) gz3 (by have := lim1 bb; omega) _ fun G2 W4 x10 x11 x12 x13 x14 hG2 up2 lim2 cel2 hx1 hl1 q1 W5 hN5 hC5 f2 => ?_
 have m5 : Mine w.heap.size G2 W4 W5 := Mine.of_near hN5 hG2.orr hG2.orr
 have up5 := fun v c (h : Rel G2 W4 v c) => m5.rel hG2.sinv.wf h
 have up15 := fun v c (h : Rel G1 W2 v c) => up5 v c (up2 v c (up3 v c h))
 refine Mk.wk_child ihc hc (hG2.write m5) hC5 (up15 _ _ (up1 _ _ (up0 _ _ r2))) ((hcap.mono up0).mono fun v c h => up15 _ _ (up1 _ _ h)) f2 (by have := lim1 bb; have := lim2 bb; omega) _ fun G3 W6 x20 x21 x22 x23 x24 hG3 up6 lim3 _ hx2 hl2 q2 W7 hN7 hC7 W8 hN8 => ?_
 have up16 := fun v c (h : Rel G1 W2 v c) => up6 v c (up15 v c h)
 have up26 := fun v c (h : Rel G2 W4 v c) => up6 v c (up5 v c h)
 refine Mk.wk_done (es := [ca, cb, cc]) (xs := [[x00, x01, x02, x03, x04], [x10, x11, x12, x13, x14], [x20, x21, x22, x23, x24]]) (ls := []) hG3 hne hN7 hC7 hN8 (up16 _ _ (up1 _ _ (up0 _ _ rl))) rfl ?_ ?_ ?_ ?_ ?_
 ·intro i e he
  match i with
  | 0 => simp at he; subst he; exact hl0
  | 1 => simp at he; subst he; exact hl1
  | 2 => simp at he; subst he; exact hl2
  | i + 3 => simp at he
 ·intro i x hx
  match i with
  | 0 => simp at hx; subst hx; rfl
  | 1 => simp at hx; subst hx; rfl
  | 2 => simp at hx; subst hx; rfl
  | i + 3 => simp at hx
 ·intro i x hx
  match i with
  | 0 => simp at hx; subst hx; exact hx0.one
  | 1 => simp at hx; subst hx; exact hx1.one
  | 2 => simp at hx; subst hx; exact hx2.one
  | i + 3 => simp at hx
 ·intro i e x he hx
  match i with
  | 0 => simp at hx he; subst hx; subst he; exact up16 _ _ q0
  | 1 => simp at hx he; subst hx; subst he; exact up26 _ _ q1
  | 2 => simp at hx he; subst hx; subst he; exact q2
  | i + 3 => simp at hx
 ·intro i j x c hx hj
  match i with
  | 0 =>
   simp at hx; subst hx
   match j with
   | 0 => simpa using hj
   | 1 => simpa using hj
   | 2 => simpa using hj
   | 3 => simpa using hj
   | 4 => simpa using hj
   | j + 5 => simp at hj
  | 1 =>
   simp at hx; subst hx
   match j with
   | 0 => simpa using hj
   | 1 => simpa using hj
   | 2 => simpa using hj
   | 3 => simpa using hj
   | 4 => simpa using hj
   | j + 5 => simp at hj
  | 2 =>
   simp at hx; subst hx
   match j with
   | 0 => simpa using hj
   | 1 => simpa using hj
   | 2 => simpa using hj
   | 3 => simpa using hj
   | 4 => simpa using hj
   | j + 5 => simp at hj
  | i + 3 => simp at hx
theorem Mk.walk_var (f : FuncId) (capv : Array Value) (n : Int) (s : ByteArray) (pl pa : Option Addr) (ll cl la ca : Nat) (d : Int) (w : World) (Q : Ending → World → Prop)
  (henter : ∀ (args : Array Value) (w : World), (callFunc f args).run Tryd.prog w = .ok (.enter f args) w)
  (h : ∀ W, W = (w.alloc (.cells #[.int .i64 0, .int .i64 n, .string s, .slice pl ll cl, .slice pa la ca] 29)).alloc (.cells #[.int .i64 0, .int .i64 0, .string ⟨#[]⟩, .slice none 0 0, .slice none 0 0] 29) →
   Hid (Calls Tryd.prog f (#[.agg #[.int .i64 0, .int .i64 n, .string s, .slice pl ll cl, .slice pa la ca], .int .i64 d] ++ capv) W fun e W2 =>
    ∃ x0 x1 x2 x3 x4, e = .returned (.agg #[x0, x1, x2, x3, x4]) ∧ Mk.ShpW x0 x1 x2 x3 x4 ∧ W2.heap[w.heap.size + 1]? = some (.cells #[.int .i64 0, .int .i64 0, .string ⟨#[]⟩, .slice none 0 0, .slice none 0 0] 29 (0, 0)) ∧
     Hid (∀ W3, Near (w.heap.size + 1) (w.heap.size + 1) W2 W3 → Q (.returned (.agg #[x0, x1, x2, x3, x4])) W3))) :
  Calls Tryd.prog 42 #[.agg #[.int .i64 0, .int .i64 n, .string s, .slice pl ll cl, .slice pa la ca], .int .i64 d, .func (.func f) #[] capv] w Q := by
 have hh := h _ rfl
 clear h
 go_enter Tryd.func42, Tryd.ntmps42
 go_wp2_with fail
 refine hh.out.mono ?_
 clear hh
 rintro e W2 ⟨x0, x1, x2, x3, x4, rfl, hx, h6, hK⟩
 generalize w.heap.size + 1 = B6 at *
 have r0 : W2.cell? ⟨B6, 0, none⟩ = some (.int .i64 0) := cell_of h6 0
 have r1 : W2.cell? ⟨B6, 1, none⟩ = some (.int .i64 0) := cell_of h6 1
 have r2 : W2.cell? ⟨B6, 2, none⟩ = some (.string ⟨#[]⟩) := cell_of h6 2
 have r3 : W2.cell? ⟨B6, 3, none⟩ = some (.slice none 0 0) := cell_of h6 3
 have r4 : W2.cell? ⟨B6, 4, none⟩ = some (.slice none 0 0) := cell_of h6 4
 have q0 := frozen_of h6 0
 have q1 := frozen_of h6 1
 have q2 := frozen_of h6 2
 have q3 := frozen_of h6 3
 have q4 := frozen_of h6 4
 obtain ⟨xn, xm, xs, xp, xl, xc, xpp, xll, xcc⟩ := hx
 go_wp2_with fail
 exact Mk.walk_end5 h6 rfl (hK.out _ (near5 _ _ _))
end
end Go.Proofs
end
