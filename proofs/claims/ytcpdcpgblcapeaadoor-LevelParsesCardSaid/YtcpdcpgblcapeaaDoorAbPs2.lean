/- level.Parse, walked. -/
import Derived.Test.YtcpdcpgblcapeaaDoorAbPs1
import Derived.Test.YtcpdcpgblcapeaaDoorAbPs
set_option linter.unusedSimpArgs false
set_option linter.unusedVariables false
set_option linter.deprecated false
namespace Go.Proofs
open Go.RowKit Go.Ab
set_option maxRecDepth 100000
set_option maxHeartbeats 1000000
theorem Mk.parse_long (s : ByteArray) (w : World) (hb : (s.size : Int) > 20000) :
    Calls Tryd.prog 16 #[.string s] w fun en w' => en = .returned (.tuple #[.agg #[.int .i64 0, .string (ByteArray.mk #[]), .slice none 0 0], .iface 66 (.pointer (some ⟨w.heap.size + 1 + 1, 0, none⟩))]) ∧
      w' = ((w.alloc (.cells #[.int .i64 0, .string (ByteArray.mk #[]), .slice none 0 0] 31)).alloc (.cells #[.iface 66 (.pointer (some ⟨w.heap.size + 1 + 1, 0, none⟩))] 44)).alloc (.cells #[.int .i64 2, .int .i64 0] 33) := by
  have hmf : ∀ (fn : Fn) (first cap : Array Value) (w : World), (Instr.makeFunc fn first cap).run Tryd.prog w = .ok (.func fn first cap) w := fun _ _ _ _ => rfl
  go_enter_defers Tryd.func16, Tryd.ntmps16
  go_wp2
  simp [bodyPostD, Leaves, settle, results, Tryd.results16, go_sem]

def Mk.zlv : Array Value := #[.int .i64 0, .string (ByteArray.mk #[]), .slice none 0 0]
/-- What is asked of the calls of the parse: a scanner, a level, an end; the parse's own two cells stay as they were. -/
structure Mk.Has (b : Nat) (x y : Array Value) (w : World) : Prop where
  l : w.heap[b]? = some (.cells x 31 (0, 0))
  e : w.heap[b + 1]? = some (.cells y 44 (0, 0))
theorem Mk.Has.c0 {b : Nat} {x0 x1 x2 : Value} {y : Array Value} {w : World} (h : Mk.Has b #[x0, x1, x2] y w) : w.cell? ⟨b, 0, none⟩ = some x0 ∧ w.cell? ⟨b, 1, none⟩ = some x1 ∧ w.cell? ⟨b, 2, none⟩ = some x2 ∧ w.frozen? ⟨b, 0, none⟩ = false ∧ w.frozen? ⟨b, 1, none⟩ = false ∧ w.frozen? ⟨b, 2, none⟩ = false := by
  simp [World.cell?, World.frozen?, h.l]
theorem Mk.Has.e0 {b : Nat} {x : Array Value} {y : Value} {w : World} (h : Mk.Has b x #[y] w) : w.cell? ⟨b + 1, 0, none⟩ = some y ∧ w.frozen? ⟨b + 1, 0, none⟩ = false := by
  simp [World.cell?, World.frozen?, h.e]

theorem Mk.Has.setE {b : Nat} {x : Array Value} {y v : Value} {w : World} (h : Mk.Has b x #[y] w) : Mk.Has b x #[v] (w.setCell ⟨b + 1, 0, none⟩ v) := by
  refine ⟨?_, ?_⟩
  · rw [heap_setCell_other _ _ _ _ (by simp)]; exact h.l
  · rw [heap_setCell_same _ _ _ _ _ _ h.e]; rfl
theorem Mk.Has.setL {b : Nat} {x0 x1 x2 y0 y1 y2 : Value} {y : Array Value} {w : World} (h : Mk.Has b #[x0, x1, x2] y w) :
    Mk.Has b #[y0, y1, y2] y (((w.setCell ⟨b, 0, none⟩ y0).setCell ⟨b, 1, none⟩ y1).setCell ⟨b, 2, none⟩ y2) := by
  refine ⟨?_, ?_⟩
  · rw [heap_setCell_same _ _ _ _ _ _ (heap_setCell_same _ _ _ _ _ _ (heap_setCell_same _ _ _ _ _ _ h.l))]; rfl
  · rw [heap_setCell_other _ _ _ _ (by simp), heap_setCell_other _ _ _ _ (by simp), heap_setCell_other _ _ _ _ (by simp)]; exact h.e
/-- The end of the parse: what 36 must leave. -/
def Mk.K5 (b : Nat) (x : Array Value) (Q : Ending → World → Prop) : Ending → World → Prop := fun e w5 =>
  (e = .returned (.tuple #[]) ∧ Mk.Has b x #[.nilIface] w5 ∧ ∀ w', Near b (b + 1) w5 w' → Q (.returned (.tuple #[.agg x, .nilIface])) w') ∨
  (∃ v, e = .panicked [{ v := .iface 66 v, recovered := false }] ∧ Mk.Has b x #[.nilIface] w5 ∧ ∀ w', Near b (b + 1) w5 w' → Q (.returned (.tuple #[.agg Mk.zlv, .iface 66 v])) w')
/-- The three parts of a level. -/
inductive Mk.Shp : Value → Value → Value → Prop
  | mk (n : Int) (st : ByteArray) (p : Option Addr) (l c : Nat) : Mk.Shp (.int .i64 n) (.string st) (.slice p l c)
/-- The level: what 35 must leave. -/
def Mk.K4 (b : Nat) (q : Addr) (Q : Ending → World → Prop) : Ending → World → Prop := fun e w4 =>
  (∃ x0 x1 x2, e = .returned (.agg #[x0, x1, x2]) ∧ Mk.Shp x0 x1 x2 ∧ Mk.Has b Mk.zlv #[.nilIface] w4 ∧
    Hid (∀ w', Near b (b + 1) w4 w' → Mk.Has b #[x0, x1, x2] #[.nilIface] w' → Calls Tryd.prog 36 #[.pointer (some q)] w' (Mk.K5 b #[x0, x1, x2] Q))) ∨
  (∃ v, e = .panicked [{ v := .iface 66 v, recovered := false }] ∧ Mk.Has b Mk.zlv #[.nilIface] w4 ∧ ∀ w', Near b (b + 1) w4 w' → Q (.returned (.tuple #[.agg Mk.zlv, .iface 66 v])) w')
/-- The scanner: what 34 must leave. -/
def Mk.K3 (b : Nat) (Q : Ending → World → Prop) : Ending → World → Prop := fun e w3 =>
  ∃ q : Addr, e = .returned (.pointer (some q)) ∧ Calls Tryd.prog 35 #[.pointer (some q)] w3 (Mk.K4 b q Q)

theorem Mk.parse_short (s : ByteArray) (w : World) (hb : ¬ (s.size : Int) > 20000) (Q : Ending → World → Prop)
    (h : Calls Tryd.prog 34 #[.string s] ((w.alloc (.cells #[.int .i64 0, .string (ByteArray.mk #[]), .slice none 0 0] 31)).alloc (.cells #[.nilIface] 44)) (Mk.K3 w.heap.size Q)) :
    Calls Tryd.prog 16 #[.string s] w Q := by
  have hmf : ∀ (fn : Fn) (first cap : Array Value) (w : World), (Instr.makeFunc fn first cap).run Tryd.prog w = .ok (.func fn first cap) w := fun _ _ _ _ => rfl
  go_enter_defers Tryd.func16, Tryd.ntmps16
  go_wp2_with (go_at_call 34; refine h.mono ?_)
  clear h
  rintro e w3 ⟨q, rfl, h35⟩
  go_wp2_with (go_at_call 35; refine h35.mono ?_)
  clear h35
  rintro e w4 (⟨x0, x1, x2, rfl, hx, hh, h36⟩ | ⟨v, rfl, hh, hq⟩)
  · obtain ⟨c0, c1, c2, z0, z1, z2⟩ := hh.c0
    go_wp2_with (go_at_call 36; skip)
    obtain ⟨n, st, p, l, c⟩ := hx
    have n3 : Near w.heap.size (w.heap.size + 1) w4 (((w4.setCell ⟨w.heap.size, 0, none⟩ (.int .i64 n)).setCell ⟨w.heap.size, 1, none⟩ (.string st)).setCell ⟨w.heap.size, 2, none⟩ (.slice p l c)) :=
      (((Near.refl w.heap.size (w.heap.size + 1) w4).setCell ⟨w.heap.size, 0, none⟩ (.inl rfl) _).setCell ⟨w.heap.size, 1, none⟩ (.inl rfl) _).setCell ⟨w.heap.size, 2, none⟩ (.inl rfl) _
    have h3 := hh.setL (y0 := .int .i64 n) (y1 := .string st) (y2 := .slice p l c)
    have h36' := h36.out _ n3 h3
    have d1 : (w4.setCell ⟨w.heap.size, 0, none⟩ (.int .i64 n)).cell? ⟨w.heap.size, 1, none⟩ = some (.string (ByteArray.mk #[])) := by rw [World.cell?_setCell_other _ _ _ _ (by simp)]; exact c1
    have d2 : ((w4.setCell ⟨w.heap.size, 0, none⟩ (.int .i64 n)).setCell ⟨w.heap.size, 1, none⟩ (.string st)).cell? ⟨w.heap.size, 2, none⟩ = some (.slice none 0 0) := by
      rw [World.cell?_setCell_other _ _ _ _ (by simp), World.cell?_setCell_other _ _ _ _ (by simp)]; exact c2
    simp only [run_store_int, run_store_string, run_store_slice, stored, World.frozen?_setCell, c0, d1, d2, z0, z1, z2, Result.andThen, Bool.false_eq_true, if_false]
    clear h36 d1 d2 n3 hh c0 c1 c2 z0 z1 z2
    generalize (((w4.setCell ⟨w.heap.size, 0, none⟩ (.int .i64 n)).setCell ⟨w.heap.size, 1, none⟩ (.string st)).setCell ⟨w.heap.size, 2, none⟩ (.slice p l c)) = w4' at *
    clear w4
    simp only [Oper.upon, Act.put]
    rename_i K7 a7 K6 a6
    apply a6
    clear a6 K6
    simp only [wpList, Exit.then]
    apply a7
    clear a7 K7
    go_wp2_with (go_at_call 36; refine h36'.mono ?_)
    clear h36'
    rintro e w5 (⟨rfl, hh, hq⟩ | ⟨v, rfl, hh, hq⟩)
    · obtain ⟨c0, c1, c2, z0, z1, z2⟩ := hh.c0
      obtain ⟨c3, z3⟩ := hh.e0
      clear h3
      go_wp2
      have hh2 := hh.setL (y0 := .int .i64 n) (y1 := .string st) (y2 := .slice p l c)
      have hh3 := hh2.setE (v := .nilIface)
      have hn : Near w.heap.size (w.heap.size + 1) w5 ((((w5.setCell ⟨w.heap.size, 0, none⟩ (.int .i64 n)).setCell ⟨w.heap.size, 1, none⟩ (.string st)).setCell ⟨w.heap.size, 2, none⟩ (.slice p l c)).setCell ⟨w.heap.size + 1, 0, none⟩ .nilIface) :=
        ((((Near.refl w.heap.size (w.heap.size + 1) w5).setCell ⟨w.heap.size, 0, none⟩ (.inl rfl) _).setCell ⟨w.heap.size, 1, none⟩ (.inl rfl) _).setCell ⟨w.heap.size, 2, none⟩ (.inl rfl) _).setCell ⟨w.heap.size + 1, 0, none⟩ (.inr rfl) _
      have hq' := hq _ hn
      obtain ⟨k0, k1, k2, j0, j1, j2⟩ := hh3.c0
      obtain ⟨k3, j3⟩ := hh3.e0
      clear hh2 hn hq
      generalize (((w5.setCell ⟨w.heap.size, 0, none⟩ (.int .i64 n)).setCell ⟨w.heap.size, 1, none⟩ (.string st)).setCell ⟨w.heap.size, 2, none⟩ (.slice p l c)).setCell ⟨w.heap.size + 1, 0, none⟩ .nilIface = w6 at *
      simp [bodyPostD, Leaves, settle, go_sem]
      refine ⟨33, _, ⟨rfl, rfl⟩, (Mk.catch_idle _ _).mono ?_⟩
      rintro e u w7 ⟨rfl, rfl, rfl⟩
      simp
      refine ⟨32, _, ⟨rfl, rfl⟩, (Mk.clos_nil _ _ _ _ k3).mono ?_⟩
      rintro e u w7 ⟨rfl, rfl, rfl⟩
      simp [Leaves, settle, results, Tryd.results16, go_sem, k0, k1, k2, k3]
      exact hq'
    · obtain ⟨c0, z0⟩ := hh.e0
      have hw : (w5.setCell ⟨w.heap.size + 1, 0, none⟩ (.iface 66 v)).cell? ⟨w.heap.size + 1, 0, none⟩ = some (.iface 66 v) := World.cell?_setCell_same' _ _ _ (by simp [c0])
      have hh1 := hh.setE (v := .iface 66 v)
      have hh2 := hh1.setL (y0 := .int .i64 0) (y1 := .string (ByteArray.mk #[])) (y2 := .slice none 0 0)
      simp [bodyPostD, Leaves, settle, go_sem]
      refine ⟨33, _, ⟨rfl, rfl⟩, (Mk.catch_pan _ v w5 .nilIface c0 z0).mono ?_⟩
      rintro e u w6 ⟨rfl, rfl, rfl⟩
      simp
      refine ⟨32, _, ⟨rfl, rfl⟩, (Mk.clos_err _ _ _ _ v _ 31 hw hh1.l rfl).mono ?_⟩
      rintro e u w6 ⟨rfl, rfl, rfl⟩
      simp [putCells]
      obtain ⟨k0, k1, k2, j0, j1, j2⟩ := hh2.c0
      obtain ⟨k3, j3⟩ := hh2.e0
      have hn : Near w.heap.size (w.heap.size + 1) w5 ((((w5.setCell ⟨w.heap.size + 1, 0, none⟩ (.iface 66 v)).setCell ⟨w.heap.size, 0, none⟩ (.int .i64 0)).setCell ⟨w.heap.size, 1, none⟩ (.string (ByteArray.mk #[]))).setCell ⟨w.heap.size, 2, none⟩ (.slice none 0 0)) :=
        ((((Near.refl w.heap.size (w.heap.size + 1) w5).setCell ⟨w.heap.size + 1, 0, none⟩ (.inr rfl) _).setCell ⟨w.heap.size, 0, none⟩ (.inl rfl) _).setCell ⟨w.heap.size, 1, none⟩ (.inl rfl) _).setCell ⟨w.heap.size, 2, none⟩ (.inl rfl) _
      have := hq _ hn
      generalize (((w5.setCell ⟨w.heap.size + 1, 0, none⟩ (.iface 66 v)).setCell ⟨w.heap.size, 0, none⟩ (.int .i64 0)).setCell ⟨w.heap.size, 1, none⟩ (.string (ByteArray.mk #[]))).setCell ⟨w.heap.size, 2, none⟩ (.slice none 0 0) = w6 at *
      simp [Leaves, settle, results, Tryd.results16, go_sem, k0, k1, k2, k3]
      exact this
  · obtain ⟨c0, z0⟩ := hh.e0
    have hw : (w4.setCell ⟨w.heap.size + 1, 0, none⟩ (.iface 66 v)).cell? ⟨w.heap.size + 1, 0, none⟩ = some (.iface 66 v) := World.cell?_setCell_same' _ _ _ (by simp [c0])
    have hh1 := hh.setE (v := .iface 66 v)
    have hh2 := hh1.setL (y0 := .int .i64 0) (y1 := .string (ByteArray.mk #[])) (y2 := .slice none 0 0)
    simp [bodyPostD, Leaves, settle, go_sem]
    refine ⟨33, _, ⟨rfl, rfl⟩, (Mk.catch_pan _ v w4 .nilIface c0 z0).mono ?_⟩
    rintro e u w5 ⟨rfl, rfl, rfl⟩
    simp
    refine ⟨32, _, ⟨rfl, rfl⟩, (Mk.clos_err _ _ _ _ v _ 31 hw hh1.l rfl).mono ?_⟩
    rintro e u w5 ⟨rfl, rfl, rfl⟩
    simp [putCells]
    obtain ⟨k0, k1, k2, j0, j1, j2⟩ := hh2.c0
    obtain ⟨k3, j3⟩ := hh2.e0
    have hn : Near w.heap.size (w.heap.size + 1) w4 ((((w4.setCell ⟨w.heap.size + 1, 0, none⟩ (.iface 66 v)).setCell ⟨w.heap.size, 0, none⟩ (.int .i64 0)).setCell ⟨w.heap.size, 1, none⟩ (.string (ByteArray.mk #[]))).setCell ⟨w.heap.size, 2, none⟩ (.slice none 0 0)) :=
      ((((Near.refl w.heap.size (w.heap.size + 1) w4).setCell ⟨w.heap.size + 1, 0, none⟩ (.inr rfl) _).setCell ⟨w.heap.size, 0, none⟩ (.inl rfl) _).setCell ⟨w.heap.size, 1, none⟩ (.inl rfl) _).setCell ⟨w.heap.size, 2, none⟩ (.inl rfl) _
    have := hq _ hn
    generalize (((w4.setCell ⟨w.heap.size + 1, 0, none⟩ (.iface 66 v)).setCell ⟨w.heap.size, 0, none⟩ (.int .i64 0)).setCell ⟨w.heap.size, 1, none⟩ (.string (ByteArray.mk #[]))).setCell ⟨w.heap.size, 2, none⟩ (.slice none 0 0) = w5 at *
    simp [Leaves, settle, results, Tryd.results16, go_sem, k0, k1, k2, k3]
    exact this
end Go.Proofs
