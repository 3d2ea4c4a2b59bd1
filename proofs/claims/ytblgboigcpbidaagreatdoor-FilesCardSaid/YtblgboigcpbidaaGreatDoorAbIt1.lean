/- Numbers as text: strconv.Itoa by the shelf's proved contract, laid here; the reference's digits, walked. Printed by genit.py. -/
import Derived.Test.YtblgboigcpbidaaGreatDoorProg
import Derived.Test.YtblgboigcpbidaaGreatDoorAbBl
import Derived.Test.YtblgboigcpbidaaGreatDoorAbOps
import Derived.Shelf.Strconv.Itoa3
import Derived.Laws.IdiomStrings
import Derived.WalkKit
import Derived.RegionTactic
set_option linter.unusedSimpArgs false
set_option linter.unusedVariables false
set_option linter.deprecated false
namespace Go.Proofs
open Go.RowKit Go.Ab
set_option maxRecDepth 100000
set_option maxHeartbeats 1000000
def Mk.itoaRen : Go.Shelf.Ren where
 f := fun x => match x with
  | 171 => 24
  | 243 => 42
  | 246 => 71
  | 283 => 88
  | 284 => 89
  | 285 => 90
  | 286 => 91
  | 129 => 99
  | 317 => 98
  | 318 => 100
  | 319 => 101
  | 320 => 102
  | 337 => 108
  | 338 => 109
  | n => n
 t := fun x => match x with
  | 3 => 3
  | 9 => 9
  | 2 => 2
  | 4 => 4
  | 171 => 143
  | 0 => 0
  | 53 => 144
  | 37 => 61
  | 5 => 5
  | 173 => 147
  | 212 => 160
  | 51 => 161
  | 20 => 20
  | 213 => 162
  | 46 => 152
  | 232 => 176
  | 233 => 177
  | n => n
 g := fun x => match x with
  | 17 => 6
  | 18 => 8
  | 19 => 9
  | n => n
theorem Mk.itoaLaid : LaysM.n171 Tryz.prog Mk.itoaRen where
 mixed := by kernel_rfl
 f129 := Tryz.func99.trans (congrArg some rfl)
 f171 := Tryz.func24.trans (congrArg some rfl)
 f243 := Tryz.func42.trans (congrArg some rfl)
 f246 := Tryz.func71.trans (congrArg some rfl)
 f283 := Tryz.func88.trans (congrArg some rfl)
 f284 := Tryz.func89.trans (congrArg some rfl)
 f285 := Tryz.func90.trans (congrArg some rfl)
 f286 := Tryz.func91.trans (congrArg some rfl)
 f317 := Tryz.func98.trans (congrArg some rfl)
 f318 := Tryz.func100.trans (congrArg some rfl)
 f319 := Tryz.func101.trans (congrArg some rfl)
 f320 := Tryz.func102.trans (congrArg some rfl)
 f337 := Tryz.func108.trans (congrArg some rfl)
 f338 := Tryz.func109.trans (congrArg some rfl)
 t0 := Tryz.underlying0
 a0 := fun _ => by kernel_rfl
 z0 := fun _ => by kernel_rfl
 v0 := fun _ => by kernel_rfl
 t2 := Tryz.underlying2
 a2 := fun _ => by kernel_rfl
 z2 := fun _ => by kernel_rfl
 v2 := fun _ => by kernel_rfl
 t3 := Tryz.underlying3
 a3 := fun _ => by kernel_rfl
 z3 := fun _ => by kernel_rfl
 v3 := fun _ => by kernel_rfl
 t4 := Tryz.underlying4
 a4 := fun _ => by kernel_rfl
 z4 := fun _ => by kernel_rfl
 v4 := fun _ => by kernel_rfl
 t5 := Tryz.underlying5
 a5 := fun _ => by kernel_rfl
 z5 := fun _ => by kernel_rfl
 v5 := fun _ => by kernel_rfl
 t9 := Tryz.underlying9
 a9 := fun _ => by kernel_rfl
 z9 := fun _ => by kernel_rfl
 v9 := fun _ => by kernel_rfl
 t20 := Tryz.underlying20
 a20 := fun _ => by kernel_rfl
 z20 := fun _ => by kernel_rfl
 v20 := fun _ => by kernel_rfl
 t37 := Tryz.underlying61
 a37 := fun _ => by kernel_rfl
 z37 := fun _ => by kernel_rfl
 v37 := fun _ => by kernel_rfl
 t46 := Tryz.underlying152
 a46 := fun _ => by kernel_rfl
 z46 := fun _ => by kernel_rfl
 v46 := fun _ => by kernel_rfl
 t51 := Tryz.underlying161
 a51 := fun _ => by kernel_rfl
 z51 := fun _ => by kernel_rfl
 v51 := fun _ => by kernel_rfl
 t53 := Tryz.underlying144
 a53 := fun _ => by kernel_rfl
 z53 := fun _ => by kernel_rfl
 v53 := fun _ => by kernel_rfl
 t171 := Tryz.underlying143
 a171 := fun _ => by kernel_rfl
 z171 := fun _ => by kernel_rfl
 v171 := fun _ => by kernel_rfl
 t173 := Tryz.underlying147
 a173 := fun _ => by kernel_rfl
 z173 := fun _ => by kernel_rfl
 v173 := fun _ => by kernel_rfl
 t212 := Tryz.underlying160
 a212 := fun _ => by kernel_rfl
 z212 := fun _ => by kernel_rfl
 v212 := fun _ => by kernel_rfl
 t213 := Tryz.underlying162
 a213 := fun _ => by kernel_rfl
 z213 := fun _ => by kernel_rfl
 t232 := Tryz.underlying176
 a232 := fun _ => by kernel_rfl
 z232 := fun _ => by kernel_rfl
 v232 := fun _ => by kernel_rfl
 t233 := Tryz.underlying177
 a233 := fun _ => by kernel_rfl
 z233 := fun _ => by kernel_rfl
 v233 := fun _ => by kernel_rfl
 g17 := by kernel_rfl
 g18 := by kernel_rfl
 g19 := by kernel_rfl
 i0 := by kernel_rfl
 i2 := by kernel_rfl
 i3 := by kernel_rfl
 i4 := by kernel_rfl
 i5 := by kernel_rfl
 i9 := by kernel_rfl
 i20 := by kernel_rfl
 i37 := by kernel_rfl
 i46 := by kernel_rfl
 i51 := by kernel_rfl
 i53 := by kernel_rfl
 i171 := by kernel_rfl
 i173 := by kernel_rfl
 i212 := by kernel_rfl
 i232 := by kernel_rfl
 i233 := by kernel_rfl
 m17 := by kernel_rfl
 m18 := by kernel_rfl
 m19 := by kernel_rfl
theorem grow_below {w w' : World} (os : Array Obj) {k : Nat} (h : Below k w w') (hk : k ≤ w.heap.size) : Below k w (Go.Sort.grow w' os) :=
 ⟨h.os, h.tape, h.output, by show w.heap.size ≤ (w'.heap ++ os).size; rw [Array.size_append]; exact Nat.le_trans h.size (Nat.le_add_right _ _), fun i hi => by
  show (w'.heap ++ os)[i]? = w.heap[i]?
  rw [Array.getElem?_append_left (Nat.lt_of_lt_of_le hi (Nat.le_trans hk h.size))]
  exact h.block i hi⟩
theorem drewN_below {w w' : World} {k : Nat} (h : Below k w w') (n : Nat) : Below k w (w'.drewN n) := ⟨h.os, h.tape, h.output, h.size, h.block⟩
theorem Mk.itoa_ok (n : Nat) (hn : n < 4611686018427387904) (w : World) (htab : Lib.TabIs Tryz.prog w "internal/strconv.uint64pow10" .u64 Lib.pow10Tab) :
  Calls Tryz.prog 24 #[.int .i64 n] w fun e w' => e = .returned (.string ⟨(Lib.decDigits n).toArray⟩) ∧ Below w.heap.size w w' := by
 refine (Any.strconv_Itoa Mk.itoaLaid (n : Int) (by omega) (by omega) w htab).mono ?_
 rintro e w' ⟨rfl, k, os, rfl⟩
 refine ⟨?_, grow_below os (drewN_below (Below.refl _ _) k) (Nat.le_refl _)⟩
 have : Lib.itoa (n : Int) = Lib.decDigits n := by
  unfold Lib.itoa
  rw [if_neg (by omega)]
  rfl
 rw [this]
def Mk.TextQ (w : World) (ds : List UInt8) : Ending → World → Prop := fun e w' => e = .returned (.string ⟨ds.toArray⟩) ∧ Below w.heap.size w w'
end Go.Proofs
