/- api.Code, walked. The plain laws: what the program's Parse comes to, against what the reference reads. the deferred Catch, walked. term.Parse's deferred call, walked. term.Parse, walked. term.Parse: what it comes to, over the calls it makes; its own two cells are nobody's. -/
import Derived.Test.YtkecplbpffhdnaaGreatDoorAbPs
import Derived.Test.YtkecplbpffhdnaaGreatDoorLvT
import Derived.Test.YtkecplbpffhdnaaGreatDoorProg
import Derived.Test.YtkecplbpffhdnaaGreatDoorAbMk0
import Derived.WalkKit
import Derived.Defers
import Derived.Recover
import Derived.Laws.Pointers
import Derived.Laws.Externs
import Derived.Test.YtkecplbpffhdnaaGreatDoorAbOp2
set_option linter.unusedSimpArgs false
set_option linter.unusedVariables false
set_option linter.deprecated false
section
namespace Go.Proofs
open Go.RowKit Go.Ab
set_option maxRecDepth 100000
set_option maxHeartbeats 1000000
theorem Mk.code_nil (w : World) : Calls Tryz.prog 26 #[.nilIface] w fun e w' => e = .returned (.tuple #[.int .i64 0, .int .i64 0]) ∧ w' = w := by
  go_enter Tryz.func26, Tryz.ntmps26
  go_wp2
  refine bodyPost_ret (by simp [results, Tryz.results26, go_sem]; try rfl) rfl ?_
  exact ⟨rfl, rfl⟩
theorem Mk.code_hit (b : Nat) (c a : Int) (w : World) (hg : w.cell? ⟨2, 0, none⟩ = some (.iface 135 (.agg #[.pointer (some ⟨10, 32, none⟩)])))
    (h0 : w.cell? ⟨b, 0, none⟩ = some (.int .i64 c)) (h1 : w.cell? ⟨b, 1, none⟩ = some (.int .i64 a)) :
    Calls Tryz.prog 26 #[.iface 54 (.pointer (some ⟨b, 0, none⟩))] w fun e w' => e = .returned (.tuple #[.int .i64 c, .int .i64 a]) ∧ Below w.heap.size w w' := by
  have hlt : ∀ (p : Addr) (x : Value), w.cell? p = some x → p.block < w.heap.size := fun p x hx => by
    rcases Nat.lt_or_ge p.block w.heap.size with h | h
    · exact h
    · simp [World.cell?, Array.getElem?_eq_none h] at hx
  have hA := Mk.as_hit ⟨b, 0, none⟩ ⟨w.heap.size, 0, none⟩ (.pointer none) (w.alloc (.cells #[.pointer none] 54))
    (by rw [World.cell?_alloc_lt _ _ ⟨2, 0, none⟩ (hlt _ _ hg)]; exact hg) (by rw [World.cell?_alloc_at _ _ _ _ rfl]; rfl) (by simp only [World.frozen?, heap_alloc_new]; rfl)
  go_enter Tryz.func26, Tryz.ntmps26
  go_wp2_with (go_at_call 55; refine hA.mono ?_)
  clear hA
  rintro e w1 ⟨rfl, hw⟩
  have hB : Below w.heap.size w w1 := by
    rw [hw]
    refine Below.setCell (p := ⟨w.heap.size, 0, none⟩) ?_ (Nat.le_refl _) _
    refine Below.alloc ?_ (by simp; omega) _
    refine Below.alloc ?_ (by simp; omega) _
    refine Below.alloc ?_ (by simp; omega) _
    refine Below.alloc ?_ (by simp) _
    exact Below.alloc (Below.refl _ _) (Nat.le_refl _) _
  have k0 : w1.cell? ⟨b, 0, none⟩ = some (.int .i64 c) := (hB.cell (hlt _ _ h0)).trans h0
  have k1 : w1.cell? ⟨b, 1, none⟩ = some (.int .i64 a) := (hB.cell (hlt _ _ h1)).trans h1
  have kt : w1.cell? ⟨w.heap.size, 0, none⟩ = some (.pointer (some ⟨b, 0, none⟩)) := by
    rw [hw]
    refine World.cell?_setCell_same' _ _ _ ?_
    rw [World.cell?_alloc_lt _ _ ⟨w.heap.size, 0, none⟩ (by simp; omega), World.cell?_alloc_lt _ _ ⟨w.heap.size, 0, none⟩ (by simp; omega), World.cell?_alloc_lt _ _ ⟨w.heap.size, 0, none⟩ (by simp; omega), World.cell?_alloc_lt _ _ ⟨w.heap.size, 0, none⟩ (by simp), World.cell?_alloc_at _ _ _ _ rfl]
    rfl
  clear hw
  go_wp2
  go_region
  all_goals (go_wp2; refine bodyPost_ret (by simp [results, Tryz.results26, go_sem]; try rfl) rfl ?_; exact ⟨rfl, hB.os, hB.tape, hB.output, hB.size, hB.block⟩)
end Go.Proofs
namespace Go.Ab
open Go.RowKit Go.Proofs
theorem below_ext {gl : Nat → Option (List V)} {G : Gh} {w w' : World} {σ : Sto} (h : SInv gl G w σ) (hB : RowKit.Below w.heap.size w w') : Ext G w G w' ∧ SInv gl G w' σ := by
  have e : Ext G w G w' := ⟨Nat.le_refl _, fun _ _ => rfl, fun _ _ => rfl, fun _ => Nat.le_refl _, fun b o ho => hB.cell (lim_lt h.wf ho), hB.os, hB.tape, hB.output, hB.size, fun i hi ho => ⟨hB.block i hi, rfl, ho⟩⟩
  refine ⟨e, fun i hi => h.wf i (Nat.le_trans hB.size hi), fun g cs hg => (h.glob g cs hg).mono e, h.N, fun b hb => ?_, fun b cs hb => ?_⟩
  · obtain ⟨cv, fr, q1⟩ := h.typed b hb
    obtain ⟨_, _, _, _, q3, _⟩ := h.blk b σ[b] (List.getElem?_eq_getElem hb)
    exact ⟨cv, fr, by rw [hB.block _ (owner_lt h.wf q3)]; exact q1⟩
  · obtain ⟨cv, el, g1, g2, g3, g4, g5⟩ := h.blk b cs hb
    refine ⟨cv, el, by rw [hB.block _ (owner_lt h.wf g3)]; exact g1, g2, g3, g4, fun j c x hc hx => ?_⟩
    obtain ⟨e1, e2⟩ := g5 j c x hc hx
    exact ⟨e1.move e fun _ i hi => ⟨hB.block i (owner_lt h.wf hi), rfl, hi⟩, e2⟩

/-- What lies in errors.errorType. -/
def Mk.hv : Value := .iface 135 (.agg #[.pointer (some ⟨10, 32, none⟩)])
def Mk.codeS (args : List Cell) (σ : Sto) : Option Res :=
  match args with
  | [(.nilIface, _)] => some (.ret [(.int .i64 0, false), (.int .i64 0, false)], σ)
  | [(.iface t (.ptr t' b o), _)] => if t = 54 ∧ t' = 36 ∧ o = 0 then (match σ[b]? with
    | some [(.int k c, _), (.int k' a, _)] => if k = .i64 ∧ k' = .i64 then some (.ret [(.int .i64 c, false), (.int .i64 a, false)], σ) else none
    | _ => none) else none
  | _ => none

theorem code_ok {C : Ctx} (hgl : C.glob 2 = some [.lit Mk.hv]) (henter : ∀ (args : Array Value) (w : World), (callFunc 26 args).run Tryz.prog w = .ok (.enter 26 args) w) :
    CallOk Tryz.prog C (fun g args σ => if g = 26 then Mk.codeS args σ else none) := by
  intro g args σ r h
  simp only at h
  split at h
  case isFalse => simp at h
  rename_i hg
  subst hg
  refine ⟨henter, fun G w vals hS hcl hlen hv => ?_⟩
  have hcell : w.cell? ⟨2, 0, none⟩ = some Mk.hv := by
    have hr := hS.glob 2 _ hgl
    generalize hp : Value.pointer (some ⟨2, 0, none⟩) = pv at hr
    cases hr with
    | eptr _ _ _ b off cs h1 h2 h3 h4 h5 =>
      obtain ⟨c, rfl⟩ : ∃ c, cs = [c] := by
        match cs, h2 with
        | [c], _ => exact ⟨c, rfl⟩
      have hc := h4 0 c rfl
      have hl := h5 0 _ c rfl rfl
      cases hl with
      | lit _ _ =>
        simp at hp
        obtain ⟨rfl, h0⟩ := hp
        obtain rfl : off = 0 := by omega
        exact hc.1
  unfold Mk.codeS at h
  split at h
  case h_3 => simp at h
  · rename_i ow
    obtain rfl := Option.some.inj h
    obtain ⟨x, rfl⟩ : ∃ x, vals = [x] := by
      match vals, hlen with
      | [x], _ => exact ⟨x, rfl⟩
    have hx := (hv 0 _ x rfl rfl).1
    simp only at hx
    cases hx with
    | nilIface =>
    refine (Mk.code_nil w).mono fun en w' ⟨he, hw⟩ => ?_
    subst he; subst hw
    exact ⟨G, Ext.refl _ _, hS, end_two (.int _ _) (.int _ _)⟩
  · rename_i t t' b o ow
    split at h
    case isFalse => simp at h
    rename_i hh
    obtain ⟨rfl, rfl, rfl⟩ := hh
    split at h
    case h_2 => simp at h
    rename_i k c o1 k' a o2 hb
    split at h
    case isFalse => simp at h
    rename_i hh
    obtain ⟨rfl, rfl⟩ := hh
    obtain rfl := Option.some.inj h
    obtain ⟨x, rfl⟩ : ∃ x, vals = [x] := by
      match vals, hlen with
      | [x], _ => exact ⟨x, rfl⟩
    have hx := (hv 0 _ x rfl rfl).1
    simp only at hx
    cases hx with
    | iface _ _ cx hcx =>
    cases hcx with
    | ptr _ _ _ hbN hty =>
    obtain ⟨cv, el, g1, g2, g3, g4, g5⟩ := hS.blk b _ hb
    simp only [List.length_cons, List.length_nil] at g2
    obtain ⟨y0, h0⟩ : ∃ y, cv[0]? = some y := ⟨cv[0], by simp [g2]⟩
    obtain ⟨y1, h1⟩ : ∃ y, cv[1]? = some y := ⟨cv[1], by simp [g2]⟩
    have r0 := (g5 0 _ y0 rfl h0).1.1
    have r1 := (g5 1 _ y1 rfl h1).1.1
    simp only at r0 r1
    cases r0
    cases r1
    refine (Mk.code_hit (G.μ b) c a w hcell (by simp only [World.cell?, g1]; simpa using h0) (by simp only [World.cell?, g1]; simpa using h1)).mono fun en w' ⟨he, hB⟩ => ?_
    subst he
    obtain ⟨f1, f2⟩ := below_ext hS hB
    exact ⟨G, f1, f2, end_two (.int _ _) (.int _ _)⟩
end Go.Ab
end
section
namespace Go.Ab.Mk
open Go.Proofs Go.Ab

/-- The fault that was handed back: none, or a place of the store with its code and its place. -/
def ErrOk (err : V) (σ : Sto) (c a : Int) : Prop := (c = 0 ∧ err = .nilIface) ∨ ∃ b, err = .iface 54 (.ptr 36 b 0) ∧ σ[b]? = some (fcell c a)
theorem ErrOk.more {err : V} {σ : Sto} {c a : Int} (h : ErrOk err σ c a) (σ' : Sto) : ErrOk err (σ ++ σ') c a := by
  rcases h with h | ⟨b, h1, h2⟩
  · exact .inl h
  · exact .inr ⟨b, h1, by rw [List.getElem?_append_left (List.getElem?_eq_some_iff.1 h2).1]; exact h2⟩

theorem newScanner_law {s : ByteArray} (hs : s.size < 2 ^ 61) (σ : Sto) : lim C 21 [(.str s, false)] σ = some (.ret [(.ptr 69 σ.length 0, false)], σ ++ [(stepV s 0).cells s]) :=
  newScanner_lim (n := 0) <| by
    have h := step_law (σ := σ ++ [[]]) (r := σ.length) (by simp) hs (st := ⟨0, ByteArray.mk #[], 0⟩) (Nat.zero_le _)
    have hg : ∀ x : List Cell, (σ ++ [[]]).set σ.length x = σ ++ [x] := fun x => by rw [List.set_append_right _ _ (Nat.le_refl _)]; simp
    rw [hg, hg] at h
    have e0 : [((V.str s), false), ((V.int .i64 (0 : Int)), false), ((V.str (ByteArray.mk #[])), false), ((V.int .i64 (0 : Int)), false)] = SC.cells s ⟨0, ByteArray.mk #[], 0⟩ := rfl
    simp only [newScanner, newScannerF, e0, callK_ret0 h]

theorem rdone_stuck {s : ByteArray} {st : RS} (h : st.c ≠ 0) : rdoneV s st = st := by
  have h1 : (st.c == 0) = false := by simpa using h
  unfold rdoneV rfailV
  simp only [h1, cond_false]
  cases (!(tokV s st.p).ok || !isNo (tokV s st.p).t) <;> simp only [cond_true, cond_false]

end Go.Ab.Mk
end
section
namespace Go.Proofs
open Go.RowKit Go.Ab
set_option maxRecDepth 100000
set_option maxHeartbeats 1000000

theorem Mk.catch_idle (p : Addr) (w : World) :
    CallsD Tryz.prog 20 #[.pointer (some p)] .returning w fun e u' w' => e = .returned (.tuple #[]) ∧ u' = .returning ∧ w' = w := by
  refine callsD_of_wpS Tryz.func20 rfl fun c₀ cs hu => ?_
  apply wpS_seq
  apply wpS_region
  simp [wpOpsS, go_sem, recoverD, hu, Tryz.ntmps20, Exit.thenS]
  refine wpS_of_wp ?_
  go_wp2
  cases c₀
  simp_all [bodyPostS, results, Tryz.results20]
theorem Mk.catch_pan (p : Addr) (v : Value) (w : World) (x : Value) (hc : w.cell? p = some x) (hz : w.frozen? p = false) :
    CallsD Tryz.prog 20 #[.pointer (some p)] (.panicking [{ v := .iface 54 v, recovered := false }]) w fun e u' w' =>
      e = .returned (.tuple #[]) ∧ u' = .panicking [{ v := .iface 54 v, recovered := true }] ∧ w' = w.setCell p (.iface 54 v) := by
  have hta : (Instr.typeAssert (.iface 54 v) 20 54 true).run Tryz.prog w = .ok (.tuple #[v, .bool true]) w := by kernel_rfl
  refine callsD_of_wpS Tryz.func20 rfl fun c₀ cs hu => ?_
  apply wpS_seq
  apply wpS_region
  simp [wpOpsS, go_sem, recoverD, hu, Tryz.ntmps20, Exit.thenS]
  refine wpS_of_wp ?_
  go_wp2
  cases c₀
  simp_all [bodyPostS, results, Tryz.results20]
end Go.Proofs
end
section
namespace Go.Proofs
open Go.RowKit Go.Ab
set_option maxRecDepth 100000
set_option maxHeartbeats 1000000
theorem Mk.tclos_nil (p q : Addr) (u : FrameMode) (w : World) (hc : w.cell? p = some .nilIface) :
    CallsD Tryz.prog 19 #[.pointer (some p), .pointer (some q)] u w fun e u' w' => u' = u ∧ (e = .returned (.tuple #[]) ∧ w' = w) := by
  go_enter_d Tryz.func19, Tryz.ntmps19
  go_wp2
  go_end0
  exact ⟨rfl, rfl⟩
theorem Mk.tclos_err (p : Addr) (b : Nat) (u : FrameMode) (w : World) (v : Value) (cv : Array Value) (el : TypeId) (hc : w.cell? p = some (.iface 54 v)) (hb : w.heap[b]? = some (.cells cv el (0, 0))) (hs : cv.size = 5) :
    CallsD Tryz.prog 19 #[.pointer (some p), .pointer (some ⟨b, 0, none⟩)] u w fun e u' w' => u' = u ∧ (e = .returned (.tuple #[]) ∧ w' = putCells w b 0 [.int .i64 0, .int .i64 0, .string (ByteArray.mk #[]), .slice none 0 0, .slice none 0 0]) := by
  obtain ⟨x0, x1, x2, x3, x4, rfl⟩ : ∃ x0 x1 x2 x3 x4, cv = #[x0, x1, x2, x3, x4] := by
    obtain ⟨l⟩ := cv
    match l, hs with
    | [x0, x1, x2, x3, x4], _ => exact ⟨x0, x1, x2, x3, x4, rfl⟩
  have h0 : w.cell? ⟨b, 0, none⟩ = some x0 := by simp [World.cell?, hb]
  have h1 : w.cell? ⟨b, 1, none⟩ = some x1 := by simp [World.cell?, hb]
  have h2 : w.cell? ⟨b, 2, none⟩ = some x2 := by simp [World.cell?, hb]
  have h3 : w.cell? ⟨b, 3, none⟩ = some x3 := by simp [World.cell?, hb]
  have h4 : w.cell? ⟨b, 4, none⟩ = some x4 := by simp [World.cell?, hb]
  have z3 : w.frozen? ⟨b, 3, none⟩ = false := by simp [World.frozen?, hb]
  have z4 : w.frozen? ⟨b, 4, none⟩ = false := by simp [World.frozen?, hb]
  have z0 : w.frozen? ⟨b, 0, none⟩ = false := by simp [World.frozen?, hb]
  have z1 : w.frozen? ⟨b, 1, none⟩ = false := by simp [World.frozen?, hb]
  have z2 : w.frozen? ⟨b, 2, none⟩ = false := by simp [World.frozen?, hb]
  go_enter_d Tryz.func19, Tryz.ntmps19
  go_wp2
  go_end0
  exact ⟨rfl, rfl⟩
end Go.Proofs
end
section
namespace Go.Proofs
open Go.RowKit Go.Ab
set_option maxRecDepth 100000
set_option maxHeartbeats 1000000
theorem Mk.tparse_long (s : ByteArray) (w : World) (hb : (s.size : Int) > 20000) :
    Calls Tryz.prog 7 #[.string s] w fun en w' => en = .returned (.tuple #[.agg #[.int .i64 0, .int .i64 0, .string (ByteArray.mk #[]), .slice none 0 0, .slice none 0 0], .iface 54 (.pointer (some ⟨w.heap.size + 1 + 1, 0, none⟩))]) ∧
      w' = ((w.alloc (.cells #[.int .i64 0, .int .i64 0, .string (ByteArray.mk #[]), .slice none 0 0, .slice none 0 0] 30)).alloc (.cells #[.iface 54 (.pointer (some ⟨w.heap.size + 1 + 1, 0, none⟩))] 32)).alloc (.cells #[.int .i64 2, .int .i64 0] 36) := by
  have hmf : ∀ (fn : Fn) (first cap : Array Value) (w : World), (Instr.makeFunc fn first cap).run Tryz.prog w = .ok (.func fn first cap) w := fun _ _ _ _ => rfl
  go_enter_defers Tryz.func7, Tryz.ntmps7
  go_wp2
  simp [bodyPostD, Leaves, settle, results, Tryz.results7, go_sem]

def Mk.ztm : Array Value := #[.int .i64 0, .int .i64 0, .string (ByteArray.mk #[]), .slice none 0 0, .slice none 0 0]
/-- What is asked of the calls of the parse: a scanner, a level, an end; the parse's own two cells stay as they were. -/
structure Mk.HasT (b : Nat) (x y : Array Value) (w : World) : Prop where
  l : w.heap[b]? = some (.cells x 30 (0, 0))
  e : w.heap[b + 1]? = some (.cells y 32 (0, 0))
theorem Mk.HasT.c0 {b : Nat} {x0 x1 x2 x3 x4 : Value} {y : Array Value} {w : World} (h : Mk.HasT b #[x0, x1, x2, x3, x4] y w) : w.cell? ⟨b, 0, none⟩ = some x0 ∧ w.cell? ⟨b, 1, none⟩ = some x1 ∧ w.cell? ⟨b, 2, none⟩ = some x2 ∧ w.cell? ⟨b, 3, none⟩ = some x3 ∧ w.cell? ⟨b, 4, none⟩ = some x4 ∧ w.frozen? ⟨b, 0, none⟩ = false ∧ w.frozen? ⟨b, 1, none⟩ = false ∧ w.frozen? ⟨b, 2, none⟩ = false ∧ w.frozen? ⟨b, 3, none⟩ = false ∧ w.frozen? ⟨b, 4, none⟩ = false := by
  simp [World.cell?, World.frozen?, h.l]
theorem Mk.HasT.e0 {b : Nat} {x : Array Value} {y : Value} {w : World} (h : Mk.HasT b x #[y] w) : w.cell? ⟨b + 1, 0, none⟩ = some y ∧ w.frozen? ⟨b + 1, 0, none⟩ = false := by
  simp [World.cell?, World.frozen?, h.e]

theorem Mk.HasT.setE {b : Nat} {x : Array Value} {y v : Value} {w : World} (h : Mk.HasT b x #[y] w) : Mk.HasT b x #[v] (w.setCell ⟨b + 1, 0, none⟩ v) := by
  refine ⟨?_, ?_⟩
  · rw [heap_setCell_other _ _ _ _ (by simp)]; exact h.l
  · rw [heap_setCell_same _ _ _ _ _ _ h.e]; rfl
theorem Mk.HasT.setL {b : Nat} {x0 x1 x2 x3 x4 y0 y1 y2 y3 y4 : Value} {y : Array Value} {w : World} (h : Mk.HasT b #[x0, x1, x2, x3, x4] y w) :
    Mk.HasT b #[y0, y1, y2, y3, y4] y (((((w.setCell ⟨b, 0, none⟩ y0).setCell ⟨b, 1, none⟩ y1).setCell ⟨b, 2, none⟩ y2).setCell ⟨b, 3, none⟩ y3).setCell ⟨b, 4, none⟩ y4) := by
  refine ⟨?_, ?_⟩
  · rw [heap_setCell_same _ _ _ _ _ _ (heap_setCell_same _ _ _ _ _ _ (heap_setCell_same _ _ _ _ _ _ (heap_setCell_same _ _ _ _ _ _ (heap_setCell_same _ _ _ _ _ _ h.l))))]; rfl
  · rw [heap_setCell_other _ _ _ _ (by simp), heap_setCell_other _ _ _ _ (by simp), heap_setCell_other _ _ _ _ (by simp), heap_setCell_other _ _ _ _ (by simp), heap_setCell_other _ _ _ _ (by simp)]; exact h.e
/-- The end of the parse: what 36 must leave. -/
def Mk.T5 (b : Nat) (x : Array Value) (Q : Ending → World → Prop) : Ending → World → Prop := fun e w5 =>
  (e = .returned (.tuple #[]) ∧ Mk.HasT b x #[.nilIface] w5 ∧ ∀ w', Near b (b + 1) w5 w' → Q (.returned (.tuple #[.agg x, .nilIface])) w') ∨
  (∃ v, e = .panicked [{ v := .iface 54 v, recovered := false }] ∧ Mk.HasT b x #[.nilIface] w5 ∧ ∀ w', Near b (b + 1) w5 w' → Q (.returned (.tuple #[.agg Mk.ztm, .iface 54 v])) w')
/-- The three parts of a level. -/
inductive Mk.ShpT : Value → Value → Value → Value → Value → Prop
  | mk (n m : Int) (st : ByteArray) (p : Option Addr) (l c : Nat) (pp : Option Addr) (ll cc : Nat) : Mk.ShpT (.int .i64 n) (.int .i64 m) (.string st) (.slice p l c) (.slice pp ll cc)
/-- The level: what 35 must leave. -/
def Mk.T4 (b : Nat) (q : Addr) (Q : Ending → World → Prop) : Ending → World → Prop := fun e w4 =>
  (∃ x0 x1 x2 x3 x4, e = .returned (.agg #[x0, x1, x2, x3, x4]) ∧ Mk.ShpT x0 x1 x2 x3 x4 ∧ Mk.HasT b Mk.ztm #[.nilIface] w4 ∧
    Hid (∀ w', Near b (b + 1) w4 w' → Mk.HasT b #[x0, x1, x2, x3, x4] #[.nilIface] w' → Calls Tryz.prog 23 #[.pointer (some q)] w' (Mk.T5 b #[x0, x1, x2, x3, x4] Q))) ∨
  (∃ v, e = .panicked [{ v := .iface 54 v, recovered := false }] ∧ Mk.HasT b Mk.ztm #[.nilIface] w4 ∧ ∀ w', Near b (b + 1) w4 w' → Q (.returned (.tuple #[.agg Mk.ztm, .iface 54 v])) w')
/-- The scanner: what 34 must leave. -/
def Mk.T3 (b : Nat) (Q : Ending → World → Prop) : Ending → World → Prop := fun e w3 =>
  ∃ q : Addr, e = .returned (.pointer (some q)) ∧ Calls Tryz.prog 22 #[.pointer (some q)] w3 (Mk.T4 b q Q)

theorem Mk.tparse_short (s : ByteArray) (w : World) (hb : ¬ (s.size : Int) > 20000) (Q : Ending → World → Prop)
    (h : Calls Tryz.prog 21 #[.string s] ((w.alloc (.cells #[.int .i64 0, .int .i64 0, .string (ByteArray.mk #[]), .slice none 0 0, .slice none 0 0] 30)).alloc (.cells #[.nilIface] 32)) (Mk.T3 w.heap.size Q)) :
    Calls Tryz.prog 7 #[.string s] w Q := by
  have hmf : ∀ (fn : Fn) (first cap : Array Value) (w : World), (Instr.makeFunc fn first cap).run Tryz.prog w = .ok (.func fn first cap) w := fun _ _ _ _ => rfl
  go_enter_defers Tryz.func7, Tryz.ntmps7
  go_wp2_with (go_at_call 21; refine h.mono ?_)
  clear h
  rintro e w3 ⟨q, rfl, h35⟩
  go_wp2_with (go_at_call 22; refine h35.mono ?_)
  clear h35
  rintro e w4 (⟨x0, x1, x2, x3, x4, rfl, hx, hh, h36⟩ | ⟨v, rfl, hh, hq⟩)
  · obtain ⟨c0, c1, c2, c3, c4, z0, z1, z2, z3, z4⟩ := hh.c0
    go_wp2_with (go_at_call 23; skip)
    obtain ⟨n, m, st, p, l, c, pp, ll, cc⟩ := hx
    have n3 : Near w.heap.size (w.heap.size + 1) w4 (((((w4.setCell ⟨w.heap.size, 0, none⟩ (.int .i64 n)).setCell ⟨w.heap.size, 1, none⟩ (.int .i64 m)).setCell ⟨w.heap.size, 2, none⟩ (.string st)).setCell ⟨w.heap.size, 3, none⟩ (.slice p l c)).setCell ⟨w.heap.size, 4, none⟩ (.slice pp ll cc)) :=
      (((((Near.refl w.heap.size (w.heap.size + 1) w4).setCell ⟨w.heap.size, 0, none⟩ (.inl rfl) _).setCell ⟨w.heap.size, 1, none⟩ (.inl rfl) _).setCell ⟨w.heap.size, 2, none⟩ (.inl rfl) _).setCell ⟨w.heap.size, 3, none⟩ (.inl rfl) _).setCell ⟨w.heap.size, 4, none⟩ (.inl rfl) _
    have h3 := hh.setL (y0 := .int .i64 n) (y1 := .int .i64 m) (y2 := .string st) (y3 := .slice p l c) (y4 := .slice pp ll cc)
    have h36' := h36.out _ n3 h3
    have d1 : (w4.setCell ⟨w.heap.size, 0, none⟩ (.int .i64 n)).cell? ⟨w.heap.size, 1, none⟩ = some (.int .i64 0) := by
      rw [World.cell?_setCell_other _ _ _ _ (by simp)]; exact c1
    have d2 : ((w4.setCell ⟨w.heap.size, 0, none⟩ (.int .i64 n)).setCell ⟨w.heap.size, 1, none⟩ (.int .i64 m)).cell? ⟨w.heap.size, 2, none⟩ = some (.string (ByteArray.mk #[])) := by
      rw [World.cell?_setCell_other _ _ _ _ (by simp), World.cell?_setCell_other _ _ _ _ (by simp)]; exact c2
    have d3 : (((w4.setCell ⟨w.heap.size, 0, none⟩ (.int .i64 n)).setCell ⟨w.heap.size, 1, none⟩ (.int .i64 m)).setCell ⟨w.heap.size, 2, none⟩ (.string st)).cell? ⟨w.heap.size, 3, none⟩ = some (.slice none 0 0) := by
      rw [World.cell?_setCell_other _ _ _ _ (by simp), World.cell?_setCell_other _ _ _ _ (by simp), World.cell?_setCell_other _ _ _ _ (by simp)]; exact c3
    have d4 : ((((w4.setCell ⟨w.heap.size, 0, none⟩ (.int .i64 n)).setCell ⟨w.heap.size, 1, none⟩ (.int .i64 m)).setCell ⟨w.heap.size, 2, none⟩ (.string st)).setCell ⟨w.heap.size, 3, none⟩ (.slice p l c)).cell? ⟨w.heap.size, 4, none⟩ = some (.slice none 0 0) := by
      rw [World.cell?_setCell_other _ _ _ _ (by simp), World.cell?_setCell_other _ _ _ _ (by simp), World.cell?_setCell_other _ _ _ _ (by simp), World.cell?_setCell_other _ _ _ _ (by simp)]; exact c4
    simp only [run_store_int, run_store_string, run_store_slice, stored, World.frozen?_setCell, c0, d1, d2, d3, d4, z0, z1, z2, z3, z4, Result.andThen, Bool.false_eq_true, if_false]
    clear h36 d1 d2 d3 d4 n3 hh c0 c1 c2 c3 c4 z0 z1 z2 z3 z4
    generalize (((((w4.setCell ⟨w.heap.size, 0, none⟩ (.int .i64 n)).setCell ⟨w.heap.size, 1, none⟩ (.int .i64 m)).setCell ⟨w.heap.size, 2, none⟩ (.string st)).setCell ⟨w.heap.size, 3, none⟩ (.slice p l c)).setCell ⟨w.heap.size, 4, none⟩ (.slice pp ll cc)) = w4' at *
    clear w4
    simp only [Oper.upon, Act.put]
    rename_i K7 a7 K6 a6
    apply a6
    clear a6 K6
    simp only [wpList, Exit.then]
    apply a7
    clear a7 K7
    go_wp2_with (go_at_call 23; refine h36'.mono ?_)
    clear h36'
    rintro e w5 (⟨rfl, hh, hq⟩ | ⟨v, rfl, hh, hq⟩)
    · obtain ⟨c0, c1, c2, c3, c4, z0, z1, z2, z3, z4⟩ := hh.c0
      obtain ⟨c5, z5⟩ := hh.e0
      clear h3
      go_wp2
      have hh2 := hh.setL (y0 := .int .i64 n) (y1 := .int .i64 m) (y2 := .string st) (y3 := .slice p l c) (y4 := .slice pp ll cc)
      have hh3 := hh2.setE (v := .nilIface)
      have hn : Near w.heap.size (w.heap.size + 1) w5 ((((((w5.setCell ⟨w.heap.size, 0, none⟩ (.int .i64 n)).setCell ⟨w.heap.size, 1, none⟩ (.int .i64 m)).setCell ⟨w.heap.size, 2, none⟩ (.string st)).setCell ⟨w.heap.size, 3, none⟩ (.slice p l c)).setCell ⟨w.heap.size, 4, none⟩ (.slice pp ll cc)).setCell ⟨w.heap.size + 1, 0, none⟩ .nilIface) :=
        ((((((Near.refl w.heap.size (w.heap.size + 1) w5).setCell ⟨w.heap.size, 0, none⟩ (.inl rfl) _).setCell ⟨w.heap.size, 1, none⟩ (.inl rfl) _).setCell ⟨w.heap.size, 2, none⟩ (.inl rfl) _).setCell ⟨w.heap.size, 3, none⟩ (.inl rfl) _).setCell ⟨w.heap.size, 4, none⟩ (.inl rfl) _).setCell ⟨w.heap.size + 1, 0, none⟩ (.inr rfl) _
      have hq' := hq _ hn
      obtain ⟨k0, k1, k2, k3, k4, j0, j1, j2, j3, j4⟩ := hh3.c0
      obtain ⟨k5, j5⟩ := hh3.e0
      clear hh2 hn hq
      generalize (((((w5.setCell ⟨w.heap.size, 0, none⟩ (.int .i64 n)).setCell ⟨w.heap.size, 1, none⟩ (.int .i64 m)).setCell ⟨w.heap.size, 2, none⟩ (.string st)).setCell ⟨w.heap.size, 3, none⟩ (.slice p l c)).setCell ⟨w.heap.size, 4, none⟩ (.slice pp ll cc)).setCell ⟨w.heap.size + 1, 0, none⟩ .nilIface = w6 at *
      simp [bodyPostD, Leaves, settle, go_sem]
      refine ⟨20, _, ⟨rfl, rfl⟩, (Mk.catch_idle _ _).mono ?_⟩
      rintro e u w7 ⟨rfl, rfl, rfl⟩
      simp
      refine ⟨19, _, ⟨rfl, rfl⟩, (Mk.tclos_nil _ _ _ _ k5).mono ?_⟩
      rintro e u w7 ⟨rfl, rfl, rfl⟩
      simp [Leaves, settle, results, Tryz.results7, go_sem, k0, k1, k2, k3, k4, k5]
      exact hq'
    · obtain ⟨c0, z0⟩ := hh.e0
      have hw : (w5.setCell ⟨w.heap.size + 1, 0, none⟩ (.iface 54 v)).cell? ⟨w.heap.size + 1, 0, none⟩ = some (.iface 54 v) := World.cell?_setCell_same' _ _ _ (by simp [c0])
      have hh1 := hh.setE (v := .iface 54 v)
      have hh2 := hh1.setL (y0 := .int .i64 0) (y1 := .int .i64 0) (y2 := .string (ByteArray.mk #[])) (y3 := .slice none 0 0) (y4 := .slice none 0 0)
      simp [bodyPostD, Leaves, settle, go_sem]
      refine ⟨20, _, ⟨rfl, rfl⟩, (Mk.catch_pan _ v w5 .nilIface c0 z0).mono ?_⟩
      rintro e u w6 ⟨rfl, rfl, rfl⟩
      simp
      refine ⟨19, _, ⟨rfl, rfl⟩, (Mk.tclos_err _ _ _ _ v _ 30 hw hh1.l rfl).mono ?_⟩
      rintro e u w6 ⟨rfl, rfl, rfl⟩
      simp [putCells]
      obtain ⟨k0, k1, k2, k3, k4, j0, j1, j2, j3, j4⟩ := hh2.c0
      obtain ⟨k5, j5⟩ := hh2.e0
      have hn : Near w.heap.size (w.heap.size + 1) w5 ((((((w5.setCell ⟨w.heap.size + 1, 0, none⟩ (.iface 54 v)).setCell ⟨w.heap.size, 0, none⟩ (.int .i64 0)).setCell ⟨w.heap.size, 1, none⟩ (.int .i64 0)).setCell ⟨w.heap.size, 2, none⟩ (.string (ByteArray.mk #[]))).setCell ⟨w.heap.size, 3, none⟩ (.slice none 0 0)).setCell ⟨w.heap.size, 4, none⟩ (.slice none 0 0)) :=
        ((((((Near.refl w.heap.size (w.heap.size + 1) w5).setCell ⟨w.heap.size + 1, 0, none⟩ (.inr rfl) _).setCell ⟨w.heap.size, 0, none⟩ (.inl rfl) _).setCell ⟨w.heap.size, 1, none⟩ (.inl rfl) _).setCell ⟨w.heap.size, 2, none⟩ (.inl rfl) _).setCell ⟨w.heap.size, 3, none⟩ (.inl rfl) _).setCell ⟨w.heap.size, 4, none⟩ (.inl rfl) _
      have := hq _ hn
      generalize (((((w5.setCell ⟨w.heap.size + 1, 0, none⟩ (.iface 54 v)).setCell ⟨w.heap.size, 0, none⟩ (.int .i64 0)).setCell ⟨w.heap.size, 1, none⟩ (.int .i64 0)).setCell ⟨w.heap.size, 2, none⟩ (.string (ByteArray.mk #[]))).setCell ⟨w.heap.size, 3, none⟩ (.slice none 0 0)).setCell ⟨w.heap.size, 4, none⟩ (.slice none 0 0) = w6 at *
      simp [Leaves, settle, results, Tryz.results7, go_sem, k0, k1, k2, k3, k4, k5]
      exact this
  · obtain ⟨c0, z0⟩ := hh.e0
    have hw : (w4.setCell ⟨w.heap.size + 1, 0, none⟩ (.iface 54 v)).cell? ⟨w.heap.size + 1, 0, none⟩ = some (.iface 54 v) := World.cell?_setCell_same' _ _ _ (by simp [c0])
    have hh1 := hh.setE (v := .iface 54 v)
    have hh2 := hh1.setL (y0 := .int .i64 0) (y1 := .int .i64 0) (y2 := .string (ByteArray.mk #[])) (y3 := .slice none 0 0) (y4 := .slice none 0 0)
    simp [bodyPostD, Leaves, settle, go_sem]
    refine ⟨20, _, ⟨rfl, rfl⟩, (Mk.catch_pan _ v w4 .nilIface c0 z0).mono ?_⟩
    rintro e u w5 ⟨rfl, rfl, rfl⟩
    simp
    refine ⟨19, _, ⟨rfl, rfl⟩, (Mk.tclos_err _ _ _ _ v _ 30 hw hh1.l rfl).mono ?_⟩
    rintro e u w5 ⟨rfl, rfl, rfl⟩
    simp [putCells]
    obtain ⟨k0, k1, k2, k3, k4, j0, j1, j2, j3, j4⟩ := hh2.c0
    obtain ⟨k5, j5⟩ := hh2.e0
    have hn : Near w.heap.size (w.heap.size + 1) w4 ((((((w4.setCell ⟨w.heap.size + 1, 0, none⟩ (.iface 54 v)).setCell ⟨w.heap.size, 0, none⟩ (.int .i64 0)).setCell ⟨w.heap.size, 1, none⟩ (.int .i64 0)).setCell ⟨w.heap.size, 2, none⟩ (.string (ByteArray.mk #[]))).setCell ⟨w.heap.size, 3, none⟩ (.slice none 0 0)).setCell ⟨w.heap.size, 4, none⟩ (.slice none 0 0)) :=
      ((((((Near.refl w.heap.size (w.heap.size + 1) w4).setCell ⟨w.heap.size + 1, 0, none⟩ (.inr rfl) _).setCell ⟨w.heap.size, 0, none⟩ (.inl rfl) _).setCell ⟨w.heap.size, 1, none⟩ (.inl rfl) _).setCell ⟨w.heap.size, 2, none⟩ (.inl rfl) _).setCell ⟨w.heap.size, 3, none⟩ (.inl rfl) _).setCell ⟨w.heap.size, 4, none⟩ (.inl rfl) _
    have := hq _ hn
    generalize (((((w4.setCell ⟨w.heap.size + 1, 0, none⟩ (.iface 54 v)).setCell ⟨w.heap.size, 0, none⟩ (.int .i64 0)).setCell ⟨w.heap.size, 1, none⟩ (.int .i64 0)).setCell ⟨w.heap.size, 2, none⟩ (.string (ByteArray.mk #[]))).setCell ⟨w.heap.size, 3, none⟩ (.slice none 0 0)).setCell ⟨w.heap.size, 4, none⟩ (.slice none 0 0) = w5 at *
    simp [Leaves, settle, results, Tryz.results7, go_sem, k0, k1, k2, k3, k4, k5]
    exact this
end Go.Proofs
end
section
namespace Go.Ab
open Go.RowKit Go.Proofs

/-- The parse's two cells: they lie there, nobody holds them, nothing of them is settled. -/
structure KpT (B : Nat) (G : Gh) (w : World) (x y : Array Value) : Prop where
  has : Mk.HasT B x y w
  oa : G.owner B = none
  ob : G.owner (B + 1) = none
  la : G.lim B = 0
  lb : G.lim (B + 1) = 0
theorem KpT.lt {B : Nat} {G : Gh} {w : World} {x y : Array Value} (h : KpT B G w x y) : B + 1 < w.heap.size := by
  have := h.has.e
  exact (Array.getElem?_eq_some_iff.1 this).1
theorem KpT.ext {B : Nat} {G G' : Gh} {w w' : World} {x y : Array Value} (h : KpT B G w x y) (e : Ext G w G' w') : KpT B G' w' x y := by
  have hl := h.lt
  obtain ⟨a1, a2, a3⟩ := e.old B (by omega) h.oa
  obtain ⟨b1, b2, b3⟩ := e.old (B + 1) hl h.ob
  exact ⟨⟨by rw [a1]; exact h.has.l, by rw [b1]; exact h.has.e⟩, a3, b3, by rw [a2]; exact h.la, by rw [b2]; exact h.lb⟩

def Mk.ztmV : V := .agg [.int .i64 0, .int .i64 0, .str (ByteArray.mk #[]), .slice 3 90 [], .slice 5 30 []]
def Mk.tmV (k m : Int) (n : ByteArray) (a b : V) : V := .agg [.int .i64 k, .int .i64 m, .str n, a, b]
def Mk.asTm (v : V) : Option (Int × Int × ByteArray × V × V) := match v with
  | .agg [.int .i64 k, .int .i64 m, .str n, a, b] => if (slv a && slv b) = true then some (k, m, n, a, b) else none
  | _ => none
theorem Mk.asTm_inv {v : V} {x : Int × Int × ByteArray × V × V} (h : Mk.asTm v = some x) : v = Mk.tmV x.1 x.2.1 x.2.2.1 x.2.2.2.1 x.2.2.2.2 ∧ slv x.2.2.2.1 = true ∧ slv x.2.2.2.2 = true := by
  unfold Mk.asTm at h
  split at h
  · split at h
    · rename_i hh
      obtain rfl := Option.some.inj h
      have := Bool.and_eq_true_iff.1 hh
      exact ⟨rfl, this.1, this.2⟩
    · simp at h
  · simp at h
def fc2t : List Cell := [(.int .i64 2, false), (.int .i64 0, false)]
/-- What a panic that is caught comes to. -/
def Mk.caughtT (v : V) (σ : Sto) : Option Res := match v with
  | .iface t x => if t = 54 then some (.ret [(Mk.ztmV, false), (.iface 54 x, false)], σ) else none
  | _ => none
theorem Mk.caughtT_inv {v : V} {σ : Sto} {r : Res} (h : Mk.caughtT v σ = some r) : ∃ x, v = .iface 54 x ∧ r = (.ret [(Mk.ztmV, false), (.iface 54 x, false)], σ) := by
  unfold Mk.caughtT at h
  split at h
  · split at h
    · rename_i t x ht; subst ht; exact ⟨x, rfl, (Option.some.inj h).symm⟩
    · simp at h
  · simp at h
/-- The end's call. -/
def Mk.tparse5 (l : V) : Option Res → Option Res
  | some (.ret [], σ) => some (.ret [(l, false), (.nilIface, false)], σ)
  | some (.pan v, σ) => Mk.caughtT v σ
  | _ => none
/-- The level's call. -/
def Mk.tparse4 (call : CallF) (q : V) : Option Res → Option Res
  | some (.ret [(l, _)], σ) => (Mk.asTm l).bind fun _ => Mk.tparse5 l (call 23 [(q, false)] σ)
  | some (.pan v, σ) => Mk.caughtT v σ
  | _ => none
/-- The scanner's call. -/
def Mk.tparse3 (call : CallF) : Option Res → Option Res
  | some (.ret [(.ptr t b o, _)], σ) => Mk.tparse4 call (.ptr t b o) (call 22 [(.ptr t b o, false)] σ)
  | _ => none
def Mk.tparseS (call : CallF) (args : List Cell) (σ : Sto) : Option Res :=
  match args with
  | [(.str s, _)] =>
    if (s.size : Int) > 20000 then some (.ret [(Mk.ztmV, false), (.iface 54 (.ptr 36 σ.length 0), false)], σ ++ [fc2t])
    else Mk.tparse3 call (call 21 [(.str s, false)] σ)
  | _ => none

section
variable {C : Ctx} {call : CallF}

theorem rel_ztm (G : Gh) (w : World) : Rel G w Mk.ztmV (.agg #[.int .i64 0, .int .i64 0, .string (ByteArray.mk #[]), .slice none 0 0, .slice none 0 0]) := by
  refine Rel.agg _ [.int .i64 0, .int .i64 0, .string (ByteArray.mk #[]), .slice none 0 0, .slice none 0 0] rfl ?_ ?_
  · intro i x hx
    match i with
    | 0 => simp at hx; subst hx; rfl
    | 1 => simp at hx; subst hx; rfl
    | 2 => simp at hx; subst hx; rfl
    | 3 => simp at hx; subst hx; rfl
    | 4 => simp at hx; subst hx; rfl
    | i + 5 => simp at hx
  · intro i v x hv hx
    match i with
    | 0 => simp at hx hv; subst hx; subst hv; exact .int _ _
    | 1 => simp at hx hv; subst hx; subst hv; exact .int _ _
    | 2 => simp at hx hv; subst hx; subst hv; exact .str _
    | 3 => simp at hx hv; subst hx; subst hv; exact .snil _ _
    | 4 => simp at hx hv; subst hx; subst hv; exact .snil _ _
    | i + 5 => simp at hx
theorem slv_rel {G : Gh} {w : World} {a : V} {c : Value} (ha : slv a = true) (h : Rel G w a c) : ∃ p l k, c = .slice p l k := by
  unfold slv at ha
  split at ha
  · cases h <;> exact ⟨_, _, _, rfl⟩
  · cases h; exact ⟨_, _, _, rfl⟩
  · simp at ha
theorem rel_tm {G : Gh} {w : World} {k m : Int} {n : ByteArray} {a b : V} {c : Value} (ha : slv a = true) (hb : slv b = true) (h : Rel G w (Mk.tmV k m n a b) c) : ∃ x0 x1 x2 x3 x4, c = .agg #[x0, x1, x2, x3, x4] ∧ Mk.ShpT x0 x1 x2 x3 x4 := by
  cases h with
  | agg _ xs h1 h2 h3 =>
    obtain ⟨x0, x1, x2, x3, x4, rfl⟩ : ∃ x0 x1 x2 x3 x4, xs = [x0, x1, x2, x3, x4] := by
      match xs, h1 with
      | [x0, x1, x2, x3, x4], _ => exact ⟨x0, x1, x2, x3, x4, rfl⟩
    refine ⟨x0, x1, x2, x3, x4, rfl, ?_⟩
    have r0 := h3 0 _ _ rfl rfl
    have r1 := h3 1 _ _ rfl rfl
    have r2 := h3 2 _ _ rfl rfl
    obtain ⟨_, _, _, rfl⟩ := slv_rel ha (h3 3 _ _ rfl rfl)
    obtain ⟨_, _, _, rfl⟩ := slv_rel hb (h3 4 _ _ rfl rfl)
    cases r0
    cases r1
    cases r2
    exact .mk _ _ _ _ _ _ _ _ _

theorem tparse_ok (hcall : CallOk Tryz.prog C call) (henter : ∀ (args : Array Value) (w : World), (callFunc 7 args).run Tryz.prog w = .ok (.enter 7 args) w) :
    CallOk Tryz.prog C (fun g args σ => if g = 7 then Mk.tparseS call args σ else none) := by
  intro g args σ r h
  simp only at h
  split at h
  case isFalse => simp at h
  rename_i hg
  subst hg
  refine ⟨henter, fun G w vals hS hcl hlen hv => ?_⟩
  unfold Mk.tparseS at h
  split at h
  case h_2 => simp at h
  rename_i s ow
  obtain ⟨x, rfl⟩ : ∃ x, vals = [x] := by
    match vals, hlen with
    | [x], _ => exact ⟨x, rfl⟩
  have hx := (hv 0 _ x rfl rfl).1
  simp only at hx
  cases hx with
  | str =>
  have I1 := ((sinv_inv hS).alloc (.cells #[.int .i64 0, .int .i64 0, .string (ByteArray.mk #[]), .slice none 0 0, .slice none 0 0] 30) 0 none)
  have E1 := Ext.alloc hS.wf (.cells #[.int .i64 0, .int .i64 0, .string (ByteArray.mk #[]), .slice none 0 0, .slice none 0 0] 30) 0 none
  split at h
  · rename_i hb
    obtain rfl := Option.some.inj h
    have I2 := I1.alloc (.cells #[.iface 54 (.pointer (some ⟨w.heap.size + 1 + 1, 0, none⟩))] 32) 0 none
    have E2 := Ext.alloc I1.sto.wf (.cells #[.iface 54 (.pointer (some ⟨w.heap.size + 1 + 1, 0, none⟩))] 32) 0 none
    obtain ⟨G3, E3, I3, n3, m3, t3⟩ := I2.newSto (C := { C with glob := C.glob }) fc2t #[.int .i64 2, .int .i64 0] 36 rfl (fun j c x hc hx => by
      match j with
      | 0 => simp [fc2t] at hc hx; subst hc; subst hx; exact ⟨⟨.int _ _, fun ho => by simp at ho⟩, rfl⟩
      | 1 => simp [fc2t] at hc hx; subst hc; subst hx; exact ⟨⟨.int _ _, fun ho => by simp at ho⟩, rfl⟩
      | j + 2 => simp [fc2t] at hc)
    refine (Mk.tparse_long s w hb).mono fun en w' ⟨he, hw⟩ => ?_
    subst he; subst hw
    refine ⟨G3, (E1.trans E2).trans E3, I3.sto, end_two (rel_ztm _ _) (.iface 54 _ _ ?_)⟩
    have hp := Rel.ptr (G := G3) (w := ((w.alloc (.cells #[.int .i64 0, .int .i64 0, .string (ByteArray.mk #[]), .slice none 0 0, .slice none 0 0] 30)).alloc (.cells #[.iface 54 (.pointer (some ⟨w.heap.size + 1 + 1, 0, none⟩))] 32)).alloc (.cells #[.int .i64 2, .int .i64 0] 36)) 36 σ.length 0 (by rw [n3]; simp) t3
    have hm : G3.μ σ.length = w.heap.size + 1 + 1 := by rw [show σ.length = _ from rfl, m3]; simp
    rw [hm] at hp
    exact hp
  · rename_i hb
    have I2 := I1.alloc (.cells #[.nilIface] 32) 0 none
    have E2 := E1.trans (Ext.alloc I1.sto.wf (.cells #[.nilIface] 32) 0 none)
    have K1 : KpT w.heap.size ((G.new w 0 none).new (w.alloc (.cells #[.int .i64 0, .int .i64 0, .string (ByteArray.mk #[]), .slice none 0 0, .slice none 0 0] 30)) 0 none)
        ((w.alloc (.cells #[.int .i64 0, .int .i64 0, .string (ByteArray.mk #[]), .slice none 0 0, .slice none 0 0] 30)).alloc (.cells #[.nilIface] 32)) #[.int .i64 0, .int .i64 0, .string (ByteArray.mk #[]), .slice none 0 0, .slice none 0 0] #[.nilIface] := by
      have hw0 := hS.wf w.heap.size (Nat.le_refl _)
      refine ⟨⟨?_, ?_⟩, ?_, ?_, ?_, ?_⟩
      · rw [heap_alloc_lt (by simp)]; exact heap_alloc_new _ _
      · have := heap_alloc_new (w.alloc (.cells #[.int .i64 0, .int .i64 0, .string (ByteArray.mk #[]), .slice none 0 0, .slice none 0 0] 30)) (.cells #[.nilIface] 32)
        simpa using this
      · simp [Gh.new, upd]
      · simp [Gh.new, upd]
      · simp [Gh.new, upd]
      · simp [Gh.new, upd]
    have C1 : Clean ((G.new w 0 none).new (w.alloc (.cells #[.int .i64 0, .int .i64 0, .string (ByteArray.mk #[]), .slice none 0 0, .slice none 0 0] 30)) 0 none) 1 := by
      intro i p hp
      simp only [Gh.new, upd] at hp
      split at hp
      · simp at hp
      · split at hp
        · simp at hp
        · exact hcl i p hp
    have S1 := I2.sto
    generalize hG1 : (G.new w 0 none).new (w.alloc (.cells #[.int .i64 0, .int .i64 0, .string (ByteArray.mk #[]), .slice none 0 0, .slice none 0 0] 30)) 0 none = G1 at *
    have B1 := E2.toB (Nat.le_refl w.heap.size)
    generalize hr34 : call 21 [(.str s, false)] σ = r34 at h
    unfold Mk.tparse3 at h
    split at h
    case h_2 => simp at h
    rename_i t b o ow3 σ3
    refine Mk.tparse_short s w hb _ ?_
    refine ((hcall 21 _ _ _ hr34).2 G1 _ [.string s] S1 C1 rfl (fun i c x hc hx => by
      match i with
      | 0 => simp at hc hx; subst hc; subst hx; exact ⟨.str _, fun ho => by simp at ho⟩
      | i + 1 => simp at hc)).mono fun e w3 hh => ?_
    obtain ⟨G3, E3, S3, cs, hcl3, rfl, hrel⟩ := hh
    obtain ⟨c3, rfl⟩ : ∃ c, cs = [c] := by
      match cs, hcl3 with
      | [c], _ => exact ⟨c, rfl⟩
    have hp3 := (hrel 0 _ _ rfl rfl).1
    simp only at hp3
    have hp3' := hp3
    cases hp3 with
    | ptr _ _ _ hbN hty =>
    refine ⟨⟨G3.μ b, o, none⟩, by simp, ?_⟩
    have K3 := (K1.ext E3).ext (Gh.bare_ext (G := G3))
    have B3 := (B1.trans (E3.toB (by simp; omega))).trans ((Gh.bare_ext (G := G3)).toB (by have := K3.lt; omega))
    have S3' := S3.bare
    have R3 := hp3'.mono (Gh.bare_ext (G := G3) (w := w3))
    clear hp3' E3 S3 hrel
    generalize hr35 : call 22 [(.ptr t b o, false)] σ3 = r35 at h
    unfold Mk.tparse4 at h
    split at h
    case h_3 => simp at h
    · rename_i l owl σ4
      obtain ⟨lx, hlx, h⟩ := bind2 h
      obtain ⟨rfl, hsl, hsl2⟩ := Mk.asTm_inv hlx
      have H35 := (hcall 22 _ _ _ hr35).2 G3.bare w3 [.pointer (some ⟨G3.μ b, o, none⟩)] S3' (Gh.bare_clean _) rfl (fun i c x hc hx => by
        match i with
        | 0 => simp at hc hx; subst hc; subst hx; exact ⟨R3, fun ho => by simp at ho⟩
        | i + 1 => simp at hc)
      refine H35.mono fun e w4 hh => ?_
      obtain ⟨G4, E4, S4, cs, hcl4, rfl, hrel⟩ := hh
      obtain ⟨c4, rfl⟩ : ∃ c, cs = [c] := by
        match cs, hcl4 with
        | [c], _ => exact ⟨c, rfl⟩
      have hl4 := (hrel 0 _ _ rfl rfl).1
      simp only at hl4
      obtain ⟨x0, x1, x2, x3, x4, rfl, hshp⟩ := rel_tm hsl hsl2 hl4
      have K4 := (K3.ext E4)
      have B4 := B3.trans (E4.toB (by have := K3.lt; omega))
      refine .inl ⟨x0, x1, x2, x3, x4, by simp, hshp, K4.has, fun w4' hn hhas => ?_⟩
      have K4' : KpT w.heap.size G4.bare w4' #[x0, x1, x2, x3, x4] #[.nilIface] := ⟨hhas, Gh.bare_none K4.oa, Gh.bare_none K4.ob, K4.la, K4.lb⟩
      have S4' := (hn.sinv K4.la K4.lb K4.oa K4.ob S4).bare
      have B4' := (B4.trans (hn.extB K4.la K4.lb (Nat.le_refl _) (by omega))).trans ((Gh.bare_ext (G := G4)).toB (by have := K4'.lt; omega))
      have R4 := (hn.rel K4.la K4.lb (R3.mono E4)).mono (Gh.bare_ext (G := G4) (w := w4'))
      have hl4' := (hn.rel K4.la K4.lb hl4).mono (Gh.bare_ext (G := G4) (w := w4'))
      generalize hr36 : call 23 [(.ptr t b o, false)] σ4 = r36 at h
      have H36 : ∀ r, call 23 [(.ptr t b o, false)] σ4 = some r → _ := fun r hr => (hcall 23 _ _ r hr).2 G4.bare w4' [.pointer (some ⟨G3.μ b, o, none⟩)] S4' (Gh.bare_clean _) rfl (fun i c x hc hx => by
        match i with
        | 0 => simp at hc hx; subst hc; subst hx; exact ⟨R4, fun ho => by simp at ho⟩
        | i + 1 => simp at hc)
      unfold Mk.tparse5 at h
      split at h
      case h_3 => simp at h
      · rename_i σ5
        obtain rfl := Option.some.inj h
        refine (H36 _ hr36).mono fun e w5 hh => ?_
        obtain ⟨G5, E5, S5, cs, hcl5, rfl, hrel5⟩ := hh
        obtain rfl : cs = [] := List.length_eq_zero_iff.1 hcl5
        have K5 := K4'.ext E5
        have B5 := B4'.trans (E5.toB (by have := K4'.lt; omega))
        refine .inl ⟨by simp, K5.has, fun w6 hn6 => ⟨G5, (B5.trans (hn6.extB K5.la K5.lb (Nat.le_refl _) (by omega))).toExt, hn6.sinv K5.la K5.lb K5.oa K5.ob S5, ?_⟩⟩
        exact end_two (hn6.rel K5.la K5.lb (hl4'.mono E5)) .nilIface
      · rename_i v σ5
        obtain ⟨x, rfl, rfl⟩ := Mk.caughtT_inv h
        refine (H36 _ hr36).mono fun e w5 hh => ?_
        obtain ⟨G5, E5, S5, c5, rfl, hrel5⟩ := hh
        have K5 := K4'.ext E5
        have B5 := B4'.trans (E5.toB (by have := K4'.lt; omega))
        cases hrel5 with
        | iface _ _ cx hcx =>
        refine .inr ⟨cx, rfl, K5.has, fun w6 hn6 => ⟨G5, (B5.trans (hn6.extB K5.la K5.lb (Nat.le_refl _) (by omega))).toExt, hn6.sinv K5.la K5.lb K5.oa K5.ob S5, ?_⟩⟩
        exact end_two (rel_ztm _ _) (.iface _ _ _ (hn6.rel K5.la K5.lb hcx))
    · rename_i v σ4
      obtain ⟨x, rfl, rfl⟩ := Mk.caughtT_inv h
      have H35 := (hcall 22 _ _ _ hr35).2 G3.bare w3 [.pointer (some ⟨G3.μ b, o, none⟩)] S3' (Gh.bare_clean _) rfl (fun i c x hc hx => by
        match i with
        | 0 => simp at hc hx; subst hc; subst hx; exact ⟨R3, fun ho => by simp at ho⟩
        | i + 1 => simp at hc)
      refine H35.mono fun e w4 hh => ?_
      obtain ⟨G4, E4, S4, c4, rfl, hrel4⟩ := hh
      have K4 := (K3.ext E4)
      have B4 := B3.trans (E4.toB (by have := K3.lt; omega))
      cases hrel4 with
      | iface _ _ cx hcx =>
      refine .inr ⟨cx, rfl, K4.has, fun w6 hn6 => ⟨G4, (B4.trans (hn6.extB K4.la K4.lb (Nat.le_refl _) (by omega))).toExt, hn6.sinv K4.la K4.lb K4.oa K4.ob S4, ?_⟩⟩
      exact end_two (rel_ztm _ _) (.iface _ _ _ (hn6.rel K4.la K4.lb hcx))
end
end Go.Ab
end
