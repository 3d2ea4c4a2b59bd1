/- Numbers as text: strconv.Itoa by the shelf's proved contract, laid here; the reference's digits, walked. Printed by genit.py. -/
import Derived.Test.YtifoglinlcfelaaGreatDoorProg
import Derived.Test.YtifoglinlcfelaaGreatDoorAbMp
import Derived.Test.YtifoglinlcfelaaGreatDoorAbLim
import Derived.Shelf.Strconv.Itoa3
import Derived.Laws.IdiomStrings
import Derived.WalkKit
import Derived.RegionTactic
set_option linter.unusedSimpArgs false
set_option linter.unusedVariables false
set_option linter.deprecated false
namespace Go.Proofs
open Go.RowKit Go.Ab
set_option maxRecDepth 100000
set_option maxHeartbeats 1000000
def Mk.itoaRen : Go.Shelf.Ren where
 f := fun x => match x with
  | 171 => 74
  | 243 => 84
  | 246 => 90
  | 283 => 93
  | 284 => 94
  | 285 => 95
  | 286 => 96
  | 129 => 99
  | 317 => 98
  | 318 => 100
  | 319 => 101
  | 320 => 102
  | 337 => 103
  | 338 => 104
  | n => n
 t := fun x => match x with
  | 3 => 3
  | 9 => 9
  | 2 => 2
  | 4 => 4
  | 171 => 113
  | 0 => 0
  | 53 => 114
  | 37 => 73
  | 5 => 5
  | 173 => 117
  | 212 => 122
  | 51 => 123
  | 20 => 20
  | 213 => 124
  | 46 => 126
  | 232 => 130
  | 233 => 131
  | n => n
 g := fun x => match x with
  | 17 => 3
  | 18 => 4
  | 19 => 5
  | n => n
theorem Mk.itoaLaid : LaysM.n171 Tryz.prog Mk.itoaRen where
 mixed := by kernel_rfl
 f129 := Tryz.func99.trans (congrArg some rfl)
 f171 := Tryz.func74.trans (congrArg some rfl)
 f243 := Tryz.func84.trans (congrArg some rfl)
 f246 := Tryz.func90.trans (congrArg some rfl)
 f283 := Tryz.func93.trans (congrArg some rfl)
 f284 := Tryz.func94.trans (congrArg some rfl)
 f285 := Tryz.func95.trans (congrArg some rfl)
 f286 := Tryz.func96.trans (congrArg some rfl)
 f317 := Tryz.func98.trans (congrArg some rfl)
 f318 := Tryz.func100.trans (congrArg some rfl)
 f319 := Tryz.func101.trans (congrArg some rfl)
 f320 := Tryz.func102.trans (congrArg some rfl)
 f337 := Tryz.func103.trans (congrArg some rfl)
 f338 := Tryz.func104.trans (congrArg some rfl)
 t0 := Tryz.underlying0
 a0 := fun _ => by kernel_rfl
 z0 := fun _ => by kernel_rfl
 v0 := fun _ => by kernel_rfl
 t2 := Tryz.underlying2
 a2 := fun _ => by kernel_rfl
 z2 := fun _ => by kernel_rfl
 v2 := fun _ => by kernel_rfl
 t3 := Tryz.underlying3
 a3 := fun _ => by kernel_rfl
 z3 := fun _ => by kernel_rfl
 v3 := fun _ => by kernel_rfl
 t4 := Tryz.underlying4
 a4 := fun _ => by kernel_rfl
 z4 := fun _ => by kernel_rfl
 v4 := fun _ => by kernel_rfl
 t5 := Tryz.underlying5
 a5 := fun _ => by kernel_rfl
 z5 := fun _ => by kernel_rfl
 v5 := fun _ => by kernel_rfl
 t9 := Tryz.underlying9
 a9 := fun _ => by kernel_rfl
 z9 := fun _ => by kernel_rfl
 v9 := fun _ => by kernel_rfl
 t20 := Tryz.underlying20
 a20 := fun _ => by kernel_rfl
 z20 := fun _ => by kernel_rfl
 v20 := fun _ => by kernel_rfl
 t37 := Tryz.underlying73
 a37 := fun _ => by kernel_rfl
 z37 := fun _ => by kernel_rfl
 v37 := fun _ => by kernel_rfl
 t46 := Tryz.underlying126
 a46 := fun _ => by kernel_rfl
 z46 := fun _ => by kernel_rfl
 v46 := fun _ => by kernel_rfl
 t51 := Tryz.underlying123
 a51 := fun _ => by kernel_rfl
 z51 := fun _ => by kernel_rfl
 v51 := fun _ => by kernel_rfl
 t53 := Tryz.underlying114
 a53 := fun _ => by kernel_rfl
 z53 := fun _ => by kernel_rfl
 v53 := fun _ => by kernel_rfl
 t171 := Tryz.underlying113
 a171 := fun _ => by kernel_rfl
 z171 := fun _ => by kernel_rfl
 v171 := fun _ => by kernel_rfl
 t173 := Tryz.underlying117
 a173 := fun _ => by kernel_rfl
 z173 := fun _ => by kernel_rfl
 v173 := fun _ => by kernel_rfl
 t212 := Tryz.underlying122
 a212 := fun _ => by kernel_rfl
 z212 := fun _ => by kernel_rfl
 v212 := fun _ => by kernel_rfl
 t213 := Tryz.underlying124
 a213 := fun _ => by kernel_rfl
 z213 := fun _ => by kernel_rfl
 t232 := Tryz.underlying130
 a232 := fun _ => by kernel_rfl
 z232 := fun _ => by kernel_rfl
 v232 := fun _ => by kernel_rfl
 t233 := Tryz.underlying131
 a233 := fun _ => by kernel_rfl
 z233 := fun _ => by kernel_rfl
 v233 := fun _ => by kernel_rfl
 g17 := by kernel_rfl
 g18 := by kernel_rfl
 g19 := by kernel_rfl
 i0 := by kernel_rfl
 i2 := by kernel_rfl
 i3 := by kernel_rfl
 i4 := by kernel_rfl
 i5 := by kernel_rfl
 i9 := by kernel_rfl
 i20 := by kernel_rfl
 i37 := by kernel_rfl
 i46 := by kernel_rfl
 i51 := by kernel_rfl
 i53 := by kernel_rfl
 i171 := by kernel_rfl
 i173 := by kernel_rfl
 i212 := by kernel_rfl
 i232 := by kernel_rfl
 i233 := by kernel_rfl
 m17 := by kernel_rfl
 m18 := by kernel_rfl
 m19 := by kernel_rfl
theorem grow_below {w w' : World} (os : Array Obj) {k : Nat} (h : Below k w w') (hk : k ≤ w.heap.size) : Below k w (Go.Sort.grow w' os) :=
 ⟨h.os, h.tape, h.output, by show w.heap.size ≤ (w'.heap ++ os).size; rw [Array.size_append]; exact Nat.le_trans h.size (Nat.le_add_right _ _), fun i hi => by
  show (w'.heap ++ os)[i]? = w.heap[i]?
  rw [Array.getElem?_append_left (Nat.lt_of_lt_of_le hi (Nat.le_trans hk h.size))]
  exact h.block i hi⟩
theorem drewN_below {w w' : World} {k : Nat} (h : Below k w w') (n : Nat) : Below k w (w'.drewN n) := ⟨h.os, h.tape, h.output, h.size, h.block⟩
theorem Mk.itoa_ok (n : Nat) (hn : n < 4611686018427387904) (w : World) (htab : Lib.TabIs Tryz.prog w "internal/strconv.uint64pow10" .u64 Lib.pow10Tab) :
  Calls Tryz.prog 74 #[.int .i64 n] w fun e w' => e = .returned (.string ⟨(Lib.decDigits n).toArray⟩) ∧ Below w.heap.size w w' := by
 refine (Any.strconv_Itoa Mk.itoaLaid (n : Int) (by omega) (by omega) w htab).mono ?_
 rintro e w' ⟨rfl, k, os, rfl⟩
 refine ⟨?_, grow_below os (drewN_below (Below.refl _ _) k) (Nat.le_refl _)⟩
 have : Lib.itoa (n : Int) = Lib.decDigits n := by
  unfold Lib.itoa
  rw [if_neg (by omega)]
  rfl
 rw [this]
theorem Mk.dig_conv (u : Nat) (w : World) : (convert 73 9 (.slice (some ⟨w.heap.size, 0, none⟩) 1 1)).run Tryz.prog (w.alloc (.cells #[.int .u8 (48 + (u : Int) % 10)] 5)) = .ok (.string ⟨#[UInt8.ofNat (48 + u % 10)]⟩) (w.alloc (.cells #[.int .u8 (48 + (u : Int) % 10)] 5)) := by
 have h := run_convert_bytes_back (P := Tryz.prog) (w.alloc (.cells #[.int .u8 (48 + (u : Int) % 10)] 5)) 73 9 5 ⟨w.heap.size, 0, none⟩ 1 [UInt8.ofNat (48 + u % 10)] Tryz.underlying73 Tryz.underlying5 Tryz.underlying9 (fun j hj => by
  have hj0 : j = 0 := by simpa using hj
  subst hj0
  have : ((UInt8.ofNat (48 + u % 10)).toNat : Int) = 48 + (u : Int) % 10 := by
   rw [UInt8.toNat_ofNat']
   omega
  simp only [List.getElem_cons_zero, this]
  exact cell_new rfl)
 exact h
theorem dec_len : ∀ (k u : Nat), u ≤ k → (Lib.decDigits u).length ≤ u + 1
 | 0, u, h => by rw [Lib.decDigits, dif_pos (by omega)]; simp
 | k + 1, u, h => by
  rw [Lib.decDigits]
  split
  ·simp
  ·have := dec_len k (u / 10) (by omega)
   simp only [List.length_append, List.length_cons, List.length_nil]
   omega
def Mk.TextQ (w : World) (ds : List UInt8) : Ending → World → Prop := fun e w' => e = .returned (.string ⟨ds.toArray⟩) ∧ Below w.heap.size w w'
theorem Mk.digits_ok : ∀ (k u : Nat), u ≤ k → u < 4611686018427387904 → ∀ w : World, Calls Tryz.prog 57 #[.int .i64 u] w (Mk.TextQ w (Lib.decDigits u)) := by
 intro k
 induction k with
 | zero =>
  intro u hk hu w
  have hcv := Mk.dig_conv u w
  have hlt : (u : Int) < 10 := by omega
  have hd : Lib.decDigits u = [UInt8.ofNat (48 + u % 10)] := by rw [Lib.decDigits, dif_pos (by omega), Nat.mod_eq_of_lt (by omega)]
  rw [hd]
  generalize UInt8.ofNat (48 + u % 10) = c at hcv
  clear hd
  go_enter Tryz.func57, Tryz.ntmps57
  go_wp2_with fail
  go_ret
  exact ⟨rfl, (Below.refl _ _).alloc (Nat.le_refl _) _⟩
 | succ k ih =>
  intro u hk hu w
  have hcv := Mk.dig_conv u w
  by_cases hlt : u < 10
  ·have hd : Lib.decDigits u = [UInt8.ofNat (48 + u % 10)] := by rw [Lib.decDigits, dif_pos (by omega), Nat.mod_eq_of_lt (by omega)]
   rw [hd]
   have hlt' : (u : Int) < 10 := by omega
   generalize UInt8.ofNat (48 + u % 10) = c at hcv
   clear hd ih
   go_enter Tryz.func57, Tryz.ntmps57
   go_wp2_with fail
   go_ret
   exact ⟨rfl, (Below.refl _ _).alloc (Nat.le_refl _) _⟩
  ·have hd : Lib.decDigits u = Lib.decDigits (u / 10) ++ [UInt8.ofNat (48 + u % 10)] := by rw [Lib.decDigits, dif_neg (by omega)]
   have hlt' : ¬ (u : Int) < 10 := by omega
   have hq := ih (u / 10) (by omega) (by omega)
   have e : ((u / 10 : Nat) : Int) = (u : Int) / 10 := by omega
   rw [e] at hq
   rw [hd]
   generalize UInt8.ofNat (48 + u % 10) = c at hcv
   have hlen := dec_len (u / 10) (u / 10) (Nat.le_refl _)
   have hlen' : (Lib.decDigits (u / 10)).length + 1 ≤ 9223372036854775807 := by omega
   clear hlen
   generalize Lib.decDigits (u / 10) = ds at hq hlen'
   clear ih e hd
   go_enter Tryz.func57, Tryz.ntmps57
   go_wp2_with (go_at_call 57; refine (hq _).mono ?_)
   rintro e w2 ⟨rfl, hB⟩
   have hB' : Hid (Below w.heap.size w w2) := ((Below.refl _ _).alloc (Nat.le_refl _) _).trans (hB.mono (by simp))
   clear hB hq hcv
   go_wp2_with fail
   go_ret
   refine ⟨?_, hB'.out⟩
   have : (⟨ds.toArray⟩ ++ ⟨#[c]⟩ : ByteArray) = ⟨(ds ++ [c]).toArray⟩ := by apply ByteArray.ext; simp
   rw [this]
   rfl
end Go.Proofs
