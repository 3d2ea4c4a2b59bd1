/- level.Parse's deferred calls, walked. -/
import Derived.Test.YtcpdcpgblcapeaaDoorProg
import Derived.Test.YtcpdcpgblcapeaaDoorAbExt
import Derived.WalkKit
import Derived.Defers
import Derived.Recover
import Derived.Laws.Pointers
import Derived.Laws.Externs
set_option linter.unusedSimpArgs false
set_option linter.unusedVariables false
set_option linter.deprecated false
namespace Go.Proofs
open Go.RowKit Go.Ab
set_option maxRecDepth 100000
set_option maxHeartbeats 1000000

theorem Mk.catch_idle (p : Addr) (w : World) :
    CallsD Tryd.prog 33 #[.pointer (some p)] .returning w fun e u' w' => e = .returned (.tuple #[]) ∧ u' = .returning ∧ w' = w := by
  refine callsD_of_wpS Tryd.func33 rfl fun c₀ cs hu => ?_
  apply wpS_seq
  apply wpS_region
  simp [wpOpsS, go_sem, recoverD, hu, Tryd.ntmps33, Exit.thenS]
  refine wpS_of_wp ?_
  go_wp2
  cases c₀
  simp_all [bodyPostS, results, Tryd.results33]
theorem Mk.catch_pan (p : Addr) (v : Value) (w : World) (x : Value) (hc : w.cell? p = some x) (hz : w.frozen? p = false) :
    CallsD Tryd.prog 33 #[.pointer (some p)] (.panicking [{ v := .iface 66 v, recovered := false }]) w fun e u' w' =>
      e = .returned (.tuple #[]) ∧ u' = .panicking [{ v := .iface 66 v, recovered := true }] ∧ w' = w.setCell p (.iface 66 v) := by
  have hta : (Instr.typeAssert (.iface 66 v) 20 66 true).run Tryd.prog w = .ok (.tuple #[v, .bool true]) w := by kernel_rfl
  refine callsD_of_wpS Tryd.func33 rfl fun c₀ cs hu => ?_
  apply wpS_seq
  apply wpS_region
  simp [wpOpsS, go_sem, recoverD, hu, Tryd.ntmps33, Exit.thenS]
  refine wpS_of_wp ?_
  go_wp2
  cases c₀
  simp_all [bodyPostS, results, Tryd.results33]
theorem Mk.clos_nil (p q : Addr) (u : FrameMode) (w : World) (hc : w.cell? p = some .nilIface) :
    CallsD Tryd.prog 32 #[.pointer (some p), .pointer (some q)] u w fun e u' w' => u' = u ∧ (e = .returned (.tuple #[]) ∧ w' = w) := by
  go_enter_d Tryd.func32, Tryd.ntmps32
  go_wp2
  go_end0
  exact ⟨rfl, rfl⟩
theorem Mk.clos_err (p : Addr) (b : Nat) (u : FrameMode) (w : World) (v : Value) (cv : Array Value) (el : TypeId) (hc : w.cell? p = some (.iface 66 v)) (hb : w.heap[b]? = some (.cells cv el (0, 0))) (hs : cv.size = 3) :
    CallsD Tryd.prog 32 #[.pointer (some p), .pointer (some ⟨b, 0, none⟩)] u w fun e u' w' => u' = u ∧ (e = .returned (.tuple #[]) ∧ w' = putCells w b 0 [.int .i64 0, .string (ByteArray.mk #[]), .slice none 0 0]) := by
  obtain ⟨x0, x1, x2, rfl⟩ : ∃ x0 x1 x2, cv = #[x0, x1, x2] := by
    obtain ⟨l⟩ := cv
    match l, hs with
    | [x0, x1, x2], _ => exact ⟨x0, x1, x2, rfl⟩
  have h0 : w.cell? ⟨b, 0, none⟩ = some x0 := by simp [World.cell?, hb]
  have h1 : w.cell? ⟨b, 1, none⟩ = some x1 := by simp [World.cell?, hb]
  have h2 : w.cell? ⟨b, 2, none⟩ = some x2 := by simp [World.cell?, hb]
  have z0 : w.frozen? ⟨b, 0, none⟩ = false := by simp [World.frozen?, hb]
  have z1 : w.frozen? ⟨b, 1, none⟩ = false := by simp [World.frozen?, hb]
  have z2 : w.frozen? ⟨b, 2, none⟩ = false := by simp [World.frozen?, hb]
  go_enter_d Tryd.func32, Tryd.ntmps32
  go_wp2
  go_end0
  exact ⟨rfl, rfl⟩
end Go.Proofs
