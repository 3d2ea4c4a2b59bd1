/- AbMk4: printed by program: functions of the program, their code told as plain Lean, and the equations. -/
import Derived.Test.YtkecplbpffhdnaaGreatDoorAbMk0
set_option linter.unusedSimpArgs false
set_option linter.unusedVariables false
set_option linter.deprecated false
set_option maxRecDepth 100000
namespace Go.Ab.Mk
open Go.Proofs Go.Ab
/-! provekernelref.alike -/
noncomputable def alikek0 : List Nat := [2, 3, 4, 7]
noncomputable def alikek1 : List Nat := [2, 3, 4, 9]
noncomputable def alikes1 (call : CallF) (rec1 : Bool → Int → Int → Int → ByteArray → List (List V) → List (List V) → Int → Int → ByteArray → List (List V) → List (List V) → Sto → Option Res) (wide_2 : Bool) (i_9 : Int) (a_3c0 : Int) (a_3c1 : Int) (a_3c2 : ByteArray) (a_3c3 : List (List V)) (a_3c4 : List (List V)) (b_4c0 : Int) (b_4c1 : Int) (b_4c2 : ByteArray) (b_4c3 : List (List V)) (b_4c4 : List (List V)) (σ : Sto) : Option Res :=
  bif (decide (i_9 < (a_3c4.length : Int))) then
  (grd (decide (0 ≤ i_9) && decide (i_9 < a_3c4.length))).bind fun _ =>
  (grd (decide (0 ≤ i_9) && decide (i_9 < b_4c4.length))).bind fun _ =>
  callK call 27 [((V.agg [(List.getD (List.getD a_3c4 (Int.toNat i_9) []) 0 V.any), (List.getD (List.getD a_3c4 (Int.toNat i_9) []) 1 V.any), (List.getD (List.getD a_3c4 (Int.toNat i_9) []) 2 V.any), (List.getD (List.getD a_3c4 (Int.toNat i_9) []) 3 V.any), (List.getD (List.getD a_3c4 (Int.toNat i_9) []) 4 V.any)]), false), ((V.agg [(List.getD (List.getD b_4c4 (Int.toNat i_9) []) 0 V.any), (List.getD (List.getD b_4c4 (Int.toNat i_9) []) 1 V.any), (List.getD (List.getD b_4c4 (Int.toNat i_9) []) 2 V.any), (List.getD (List.getD b_4c4 (Int.toNat i_9) []) 3 V.any), (List.getD (List.getD b_4c4 (Int.toNat i_9) []) 4 V.any)]), false), ((V.bool wide_2), false)] σ 1 (fun vs1 σ2 =>
  (V.asBool (List.getD vs1 0 cellD).1).bind fun b4 =>
  bif (!b4) then
  some (.ret [((V.bool false), false)], σ2)
  else
  rec1 wide_2 (IntKind.wrap .i64 (i_9 + (1 : Int))) a_3c0 a_3c1 a_3c2 a_3c3 a_3c4 b_4c0 b_4c1 b_4c2 b_4c3 b_4c4 σ2) (fun p3 σ2 => some (.pan p3, σ2))
  else
  some (.ret [((V.bool true), false)], σ)
noncomputable def alikel1 (call : CallF) (n : Nat) : Nat → Bool → Int → Int → Int → ByteArray → List (List V) → List (List V) → Int → Int → ByteArray → List (List V) → List (List V) → Sto → Option Res
  | 0 => fun _ _ _ _ _ _ _ _ _ _ _ _ _ => none
  | m + 1 => alikes1 call (alikel1 call n m)
noncomputable def aliket1 (wide_2 : Bool) (i_9 : Int) (a_3c0 : Int) (a_3c1 : Int) (a_3c2 : ByteArray) (a_3c3 : List (List V)) (a_3c4 : List (List V)) (b_4c0 : Int) (b_4c1 : Int) (b_4c2 : ByteArray) (b_4c3 : List (List V)) (b_4c4 : List (List V)) (σ : Sto) : St := ⟨[.dead, .dead, .val (V.bool wide_2) false, .lptr 3 0, .lptr 4 0, .dead, .dead, .dead, .dead, .val (V.int .i64 i_9) false, .dead, .dead, .dead, .dead, .dead, .dead, .dead, .dead, .dead, .dead, .dead, .dead, .dead, .dead, .dead, .dead, .dead, .dead, .dead, .dead, .dead, .dead, .dead, .dead, .dead, .dead, .dead, .dead, .dead, .dead, .dead, .dead, .dead, .dead, .dead, .dead, .dead, .dead, .dead, .dead, .dead, .dead, .dead, .dead, .dead, .dead, .dead, .dead, .dead, .dead, .dead, .dead, .dead, .dead, .dead, .dead, .dead, .dead, .dead, .dead, .dead, .dead, .dead, .dead, .dead, .dead, .dead, .dead, .dead, .dead, .dead, .dead, .dead, .dead, .dead, .dead, .dead, .dead, .dead, .dead, .dead, .dead, .dead, .dead, .dead, .dead, .dead, .dead, .dead, .dead, .dead, .dead, .dead, .dead, .dead], [[], [], [], [((V.int .i64 a_3c0), false), ((V.int .i64 a_3c1), false), ((V.str a_3c2), false), ((V.slice 3 90 a_3c3), false), ((V.slice 5 30 a_3c4), false)], [((V.int .i64 b_4c0), false), ((V.int .i64 b_4c1), false), ((V.str b_4c2), false), ((V.slice 3 90 b_4c3), false), ((V.slice 5 30 b_4c4), false)], [], [], [], [], [], [], [], [], [], [], [], [], [], [], [], [], [], [], [], [], [], [], [], [], [], [], [], [], [], [], [], [], [], [], [], [], [], [], [], [], [], [], [], [], [], [], [], [], [], [], [], [], [], [], [], [], [], [], [], [], [], [], [], [], [], [], [], [], [], [], [], [], [], [], [], [], [], [], [], [], [], [], [], [], [], [], [], [], [], [], [], [], [], [], [], [], [], [], [], []], σ⟩
noncomputable def alikes0 (call : CallF) (L1 : Bool → Int → Int → Int → ByteArray → List (List V) → List (List V) → Int → Int → ByteArray → List (List V) → List (List V) → Sto → Option Res) (rec0 : Bool → Int → Int → Int → ByteArray → List (List V) → List (List V) → Int → Int → ByteArray → List (List V) → List (List V) → Sto → Option Res) (wide_2 : Bool) (i_7 : Int) (a_3c0 : Int) (a_3c1 : Int) (a_3c2 : ByteArray) (a_3c3 : List (List V)) (a_3c4 : List (List V)) (b_4c0 : Int) (b_4c1 : Int) (b_4c2 : ByteArray) (b_4c3 : List (List V)) (b_4c4 : List (List V)) (σ : Sto) : Option Res :=
  bif (decide (i_7 < (a_3c3.length : Int))) then
  (grd (decide (0 ≤ i_7) && decide (i_7 < a_3c3.length))).bind fun _ =>
  (grd (decide (0 ≤ i_7) && decide (i_7 < b_4c3.length))).bind fun _ =>
  callK call 56 [((V.agg [(List.getD (List.getD a_3c3 (Int.toNat i_7) []) 0 V.any), (List.getD (List.getD a_3c3 (Int.toNat i_7) []) 1 V.any), (List.getD (List.getD a_3c3 (Int.toNat i_7) []) 2 V.any)]), false), ((V.agg [(List.getD (List.getD b_4c3 (Int.toNat i_7) []) 0 V.any), (List.getD (List.getD b_4c3 (Int.toNat i_7) []) 1 V.any), (List.getD (List.getD b_4c3 (Int.toNat i_7) []) 2 V.any)]), false)] σ 1 (fun vs1 σ2 =>
  (V.asBool (List.getD vs1 0 cellD).1).bind fun b4 =>
  bif (!b4) then
  bif wide_2 then
  (grd (decide (0 ≤ i_7) && decide (i_7 < a_3c3.length))).bind fun _ =>
  (grd (decide (0 ≤ i_7) && decide (i_7 < b_4c3.length))).bind fun _ =>
  callK call 57 [((V.agg [(List.getD (List.getD a_3c3 (Int.toNat i_7) []) 0 V.any), (List.getD (List.getD a_3c3 (Int.toNat i_7) []) 1 V.any), (List.getD (List.getD a_3c3 (Int.toNat i_7) []) 2 V.any)]), false), ((V.agg [(List.getD (List.getD b_4c3 (Int.toNat i_7) []) 0 V.any), (List.getD (List.getD b_4c3 (Int.toNat i_7) []) 1 V.any), (List.getD (List.getD b_4c3 (Int.toNat i_7) []) 2 V.any)]), false)] σ2 1 (fun vs5 σ6 =>
  (V.asBool (List.getD vs5 0 cellD).1).bind fun b8 =>
  bif (!b8) then
  some (.ret [((V.bool false), false)], σ6)
  else
  rec0 wide_2 (IntKind.wrap .i64 (i_7 + (1 : Int))) a_3c0 a_3c1 a_3c2 a_3c3 a_3c4 b_4c0 b_4c1 b_4c2 b_4c3 b_4c4 σ6) (fun p7 σ6 => some (.pan p7, σ6))
  else
  (V.asBool (List.getD vs1 0 cellD).1).bind fun b9 =>
  bif (!b9) then
  some (.ret [((V.bool false), false)], σ2)
  else
  rec0 wide_2 (IntKind.wrap .i64 (i_7 + (1 : Int))) a_3c0 a_3c1 a_3c2 a_3c3 a_3c4 b_4c0 b_4c1 b_4c2 b_4c3 b_4c4 σ2
  else
  (V.asBool (List.getD vs1 0 cellD).1).bind fun b10 =>
  bif (!b10) then
  some (.ret [((V.bool false), false)], σ2)
  else
  rec0 wide_2 (IntKind.wrap .i64 (i_7 + (1 : Int))) a_3c0 a_3c1 a_3c2 a_3c3 a_3c4 b_4c0 b_4c1 b_4c2 b_4c3 b_4c4 σ2) (fun p3 σ2 => some (.pan p3, σ2))
  else
  L1 wide_2 (0 : Int) a_3c0 a_3c1 a_3c2 a_3c3 a_3c4 b_4c0 b_4c1 b_4c2 b_4c3 b_4c4 σ
noncomputable def alikel0 (call : CallF) (n : Nat) : Nat → Bool → Int → Int → Int → ByteArray → List (List V) → List (List V) → Int → Int → ByteArray → List (List V) → List (List V) → Sto → Option Res
  | 0 => fun _ _ _ _ _ _ _ _ _ _ _ _ _ => none
  | m + 1 => alikes0 call (alikel1 call n n) (alikel0 call n m)
noncomputable def aliket0 (wide_2 : Bool) (i_7 : Int) (a_3c0 : Int) (a_3c1 : Int) (a_3c2 : ByteArray) (a_3c3 : List (List V)) (a_3c4 : List (List V)) (b_4c0 : Int) (b_4c1 : Int) (b_4c2 : ByteArray) (b_4c3 : List (List V)) (b_4c4 : List (List V)) (σ : Sto) : St := ⟨[.dead, .dead, .val (V.bool wide_2) false, .lptr 3 0, .lptr 4 0, .dead, .dead, .val (V.int .i64 i_7) false, .dead, .dead, .dead, .dead, .dead, .dead, .dead, .dead, .dead, .dead, .dead, .dead, .dead, .dead, .dead, .dead, .dead, .dead, .dead, .dead, .dead, .dead, .dead, .dead, .dead, .dead, .dead, .dead, .dead, .dead, .dead, .dead, .dead, .dead, .dead, .dead, .dead, .dead, .dead, .dead, .dead, .dead, .dead, .dead, .dead, .dead, .dead, .dead, .dead, .dead, .dead, .dead, .dead, .dead, .dead, .dead, .dead, .dead, .dead, .dead, .dead, .dead, .dead, .dead, .dead, .dead, .dead, .dead, .dead, .dead, .dead, .dead, .dead, .dead, .dead, .dead, .dead, .dead, .dead, .dead, .dead, .dead, .dead, .dead, .dead, .dead, .dead, .dead, .dead, .dead, .dead, .dead, .dead, .dead, .dead, .dead, .dead], [[], [], [], [((V.int .i64 a_3c0), false), ((V.int .i64 a_3c1), false), ((V.str a_3c2), false), ((V.slice 3 90 a_3c3), false), ((V.slice 5 30 a_3c4), false)], [((V.int .i64 b_4c0), false), ((V.int .i64 b_4c1), false), ((V.str b_4c2), false), ((V.slice 3 90 b_4c3), false), ((V.slice 5 30 b_4c4), false)], [], [], [], [], [], [], [], [], [], [], [], [], [], [], [], [], [], [], [], [], [], [], [], [], [], [], [], [], [], [], [], [], [], [], [], [], [], [], [], [], [], [], [], [], [], [], [], [], [], [], [], [], [], [], [], [], [], [], [], [], [], [], [], [], [], [], [], [], [], [], [], [], [], [], [], [], [], [], [], [], [], [], [], [], [], [], [], [], [], [], [], [], [], [], [], [], [], [], [], []], σ⟩
noncomputable def alikeF (call : CallF) (L0 : Bool → Int → Int → Int → ByteArray → List (List V) → List (List V) → Int → Int → ByteArray → List (List V) → List (List V) → Sto → Option Res) (a_0_0 : Int) (a_0_1 : Int) (a_0_2 : ByteArray) (a_0_3 : List (List V)) (a_0_4 : List (List V)) (b_1_0 : Int) (b_1_1 : Int) (b_1_2 : ByteArray) (b_1_3 : List (List V)) (b_1_4 : List (List V)) (wide_2 : Bool) (σ : Sto) : Option Res :=
  bif (a_0_0 != b_1_0) then
  some (.ret [((V.bool false), false)], σ)
  else
  bif (a_0_1 != b_1_1) then
  some (.ret [((V.bool false), false)], σ)
  else
  bif (!(a_0_2.toList == b_1_2.toList)) then
  some (.ret [((V.bool false), false)], σ)
  else
  bif ((a_0_3.length : Int) != (b_1_3.length : Int)) then
  some (.ret [((V.bool false), false)], σ)
  else
  bif ((a_0_4.length : Int) != (b_1_4.length : Int)) then
  some (.ret [((V.bool false), false)], σ)
  else
  L0 wide_2 (0 : Int) a_0_0 a_0_1 a_0_2 a_0_3 a_0_4 b_1_0 b_1_1 b_1_2 b_1_3 b_1_4 σ
noncomputable def alike (call : CallF) (n : Nat) (a_0_0 : Int) (a_0_1 : Int) (a_0_2 : ByteArray) (a_0_3 : List (List V)) (a_0_4 : List (List V)) (b_1_0 : Int) (b_1_1 : Int) (b_1_2 : ByteArray) (b_1_3 : List (List V)) (b_1_4 : List (List V)) (wide_2 : Bool) (σ : Sto) : Option Res := alikeF call (alikel0 call n n) a_0_0 a_0_1 a_0_2 a_0_3 a_0_4 b_1_0 b_1_1 b_1_2 b_1_3 b_1_4 wide_2 σ
theorem alikes1_eq (call : CallF) (n : Nat) (F1 : St → Option Res) (wide_2 : Bool) (i_9 : Int) (a_3c0 : Int) (a_3c1 : Int) (a_3c2 : ByteArray) (a_3c3 : List (List V)) (a_3c4 : List (List V)) (b_4c0 : Int) (b_4c1 : Int) (b_4c2 : ByteArray) (b_4c3 : List (List V)) (b_4c4 : List (List V)) (σ : Sto) :
    aexec C alikeH call n (codeL (codeL (codeR (codeL (codeR (codeR (codeR alikeC))))))) 0 (aliket1 wide_2 i_9 a_3c0 a_3c1 a_3c2 a_3c3 a_3c4 b_4c0 b_4c1 b_4c2 b_4c3 b_4c4 σ) (kloop alikek1 F1 (kblk 2 (kseq (fun st' => aexec C alikeH call n (codeR (codeR (codeR (codeR alikeC)))) 0 st' (kfin C alikeD)) (kfin C alikeD)))) =
    alikes1 call (fun wide_2 i_9 a_3c0 a_3c1 a_3c2 a_3c3 a_3c4 b_4c0 b_4c1 b_4c2 b_4c3 b_4c4 σ => F1 (aliket1 wide_2 i_9 a_3c0 a_3c1 a_3c2 a_3c3 a_3c4 b_4c0 b_4c1 b_4c2 b_4c3 b_4c4 σ)) wide_2 i_9 a_3c0 a_3c1 a_3c2 a_3c3 a_3c4 b_4c0 b_4c1 b_4c2 b_4c3 b_4c4 σ := by kernel_rfl
theorem alikel1_eq (call : CallF) (n : Nat) : ∀ (m : Nat) (wide_2 : Bool) (i_9 : Int) (a_3c0 : Int) (a_3c1 : Int) (a_3c2 : ByteArray) (a_3c3 : List (List V)) (a_3c4 : List (List V)) (b_4c0 : Int) (b_4c1 : Int) (b_4c2 : ByteArray) (b_4c3 : List (List V)) (b_4c4 : List (List V)) (σ : Sto),
    aloop (fun st K => aexec C alikeH call n (codeL (codeL (codeR (codeL (codeR (codeR (codeR alikeC))))))) 0 st K) alikek1 m (aliket1 wide_2 i_9 a_3c0 a_3c1 a_3c2 a_3c3 a_3c4 b_4c0 b_4c1 b_4c2 b_4c3 b_4c4 σ) (kblk 2 (kseq (fun st' => aexec C alikeH call n (codeR (codeR (codeR (codeR alikeC)))) 0 st' (kfin C alikeD)) (kfin C alikeD))) = alikel1 call n m wide_2 i_9 a_3c0 a_3c1 a_3c2 a_3c3 a_3c4 b_4c0 b_4c1 b_4c2 b_4c3 b_4c4 σ
  | 0, wide_2, i_9, a_3c0, a_3c1, a_3c2, a_3c3, a_3c4, b_4c0, b_4c1, b_4c2, b_4c3, b_4c4, σ => rfl
  | m + 1, wide_2, i_9, a_3c0, a_3c1, a_3c2, a_3c3, a_3c4, b_4c0, b_4c1, b_4c2, b_4c3, b_4c4, σ => by
    rw [aloop, alikes1_eq]
    simp only [alikel1_eq call n m]
    rfl
theorem alikes0_eq (call : CallF) (n : Nat) (F0 : St → Option Res) (wide_2 : Bool) (i_7 : Int) (a_3c0 : Int) (a_3c1 : Int) (a_3c2 : ByteArray) (a_3c3 : List (List V)) (a_3c4 : List (List V)) (b_4c0 : Int) (b_4c1 : Int) (b_4c2 : ByteArray) (b_4c3 : List (List V)) (b_4c4 : List (List V)) (σ : Sto) :
    aexec C alikeH call n (codeL (codeL (codeR (codeL (codeR (codeR alikeC)))))) 0 (aliket0 wide_2 i_7 a_3c0 a_3c1 a_3c2 a_3c3 a_3c4 b_4c0 b_4c1 b_4c2 b_4c3 b_4c4 σ) (kloop alikek0 F0 (kblk 0 (kseq (fun st' => aexec C alikeH call n (codeR (codeR (codeR alikeC))) 0 st' (kfin C alikeD)) (kfin C alikeD)))) =
    alikes0 call (fun wide_2 i_9 a_3c0 a_3c1 a_3c2 a_3c3 a_3c4 b_4c0 b_4c1 b_4c2 b_4c3 b_4c4 σ => aloop (fun st K => aexec C alikeH call n (codeL (codeL (codeR (codeL (codeR (codeR (codeR alikeC))))))) 0 st K) alikek1 n (aliket1 wide_2 i_9 a_3c0 a_3c1 a_3c2 a_3c3 a_3c4 b_4c0 b_4c1 b_4c2 b_4c3 b_4c4 σ) (kblk 2 (kseq (fun st' => aexec C alikeH call n (codeR (codeR (codeR (codeR alikeC)))) 0 st' (kfin C alikeD)) (kfin C alikeD)))) (fun wide_2 i_7 a_3c0 a_3c1 a_3c2 a_3c3 a_3c4 b_4c0 b_4c1 b_4c2 b_4c3 b_4c4 σ => F0 (aliket0 wide_2 i_7 a_3c0 a_3c1 a_3c2 a_3c3 a_3c4 b_4c0 b_4c1 b_4c2 b_4c3 b_4c4 σ)) wide_2 i_7 a_3c0 a_3c1 a_3c2 a_3c3 a_3c4 b_4c0 b_4c1 b_4c2 b_4c3 b_4c4 σ := by kernel_rfl
theorem alikel0_eq (call : CallF) (n : Nat) : ∀ (m : Nat) (wide_2 : Bool) (i_7 : Int) (a_3c0 : Int) (a_3c1 : Int) (a_3c2 : ByteArray) (a_3c3 : List (List V)) (a_3c4 : List (List V)) (b_4c0 : Int) (b_4c1 : Int) (b_4c2 : ByteArray) (b_4c3 : List (List V)) (b_4c4 : List (List V)) (σ : Sto),
    aloop (fun st K => aexec C alikeH call n (codeL (codeL (codeR (codeL (codeR (codeR alikeC)))))) 0 st K) alikek0 m (aliket0 wide_2 i_7 a_3c0 a_3c1 a_3c2 a_3c3 a_3c4 b_4c0 b_4c1 b_4c2 b_4c3 b_4c4 σ) (kblk 0 (kseq (fun st' => aexec C alikeH call n (codeR (codeR (codeR alikeC))) 0 st' (kfin C alikeD)) (kfin C alikeD))) = alikel0 call n m wide_2 i_7 a_3c0 a_3c1 a_3c2 a_3c3 a_3c4 b_4c0 b_4c1 b_4c2 b_4c3 b_4c4 σ
  | 0, wide_2, i_7, a_3c0, a_3c1, a_3c2, a_3c3, a_3c4, b_4c0, b_4c1, b_4c2, b_4c3, b_4c4, σ => rfl
  | m + 1, wide_2, i_7, a_3c0, a_3c1, a_3c2, a_3c3, a_3c4, b_4c0, b_4c1, b_4c2, b_4c3, b_4c4, σ => by
    rw [aloop, alikes0_eq]
    simp only [alikel0_eq call n m, alikel1_eq]
    rfl
theorem alike_eqF (call : CallF) (n : Nat) (a_0_0 : Int) (a_0_1 : Int) (a_0_2 : ByteArray) (a_0_3 : List (List V)) (a_0_4 : List (List V)) (b_1_0 : Int) (b_1_1 : Int) (b_1_2 : ByteArray) (b_1_3 : List (List V)) (b_1_4 : List (List V)) (wide_2 : Bool) (σ : Sto) : afun C alikeD call n [((V.agg [(V.int .i64 a_0_0), (V.int .i64 a_0_1), (V.str a_0_2), (V.slice 3 90 a_0_3), (V.slice 5 30 a_0_4)]), false), ((V.agg [(V.int .i64 b_1_0), (V.int .i64 b_1_1), (V.str b_1_2), (V.slice 3 90 b_1_3), (V.slice 5 30 b_1_4)]), false), ((V.bool wide_2), false)] σ =
    alikeF call (fun wide_2 i_7 a_3c0 a_3c1 a_3c2 a_3c3 a_3c4 b_4c0 b_4c1 b_4c2 b_4c3 b_4c4 σ => aloop (fun st K => aexec C alikeH call n (codeL (codeL (codeR (codeL (codeR (codeR alikeC)))))) 0 st K) alikek0 n (aliket0 wide_2 i_7 a_3c0 a_3c1 a_3c2 a_3c3 a_3c4 b_4c0 b_4c1 b_4c2 b_4c3 b_4c4 σ) (kblk 0 (kseq (fun st' => aexec C alikeH call n (codeR (codeR (codeR alikeC))) 0 st' (kfin C alikeD)) (kfin C alikeD)))) a_0_0 a_0_1 a_0_2 a_0_3 a_0_4 b_1_0 b_1_1 b_1_2 b_1_3 b_1_4 wide_2 σ := by kernel_rfl
theorem alike_eq (call : CallF) (n : Nat) (a_0_0 : Int) (a_0_1 : Int) (a_0_2 : ByteArray) (a_0_3 : List (List V)) (a_0_4 : List (List V)) (b_1_0 : Int) (b_1_1 : Int) (b_1_2 : ByteArray) (b_1_3 : List (List V)) (b_1_4 : List (List V)) (wide_2 : Bool) (σ : Sto) : afun C alikeD call n [((V.agg [(V.int .i64 a_0_0), (V.int .i64 a_0_1), (V.str a_0_2), (V.slice 3 90 a_0_3), (V.slice 5 30 a_0_4)]), false), ((V.agg [(V.int .i64 b_1_0), (V.int .i64 b_1_1), (V.str b_1_2), (V.slice 3 90 b_1_3), (V.slice 5 30 b_1_4)]), false), ((V.bool wide_2), false)] σ = alike call n a_0_0 a_0_1 a_0_2 a_0_3 a_0_4 b_1_0 b_1_1 b_1_2 b_1_3 b_1_4 wide_2 σ := by
  rw [alike_eqF]
  simp only [alikel0_eq]
  rfl
theorem alike_call (n : Nat) (a_0_0 : Int) (a_0_1 : Int) (a_0_2 : ByteArray) (a_0_3 : List (List V)) (a_0_4 : List (List V)) (b_1_0 : Int) (b_1_1 : Int) (b_1_2 : ByteArray) (b_1_3 : List (List V)) (b_1_4 : List (List V)) (wide_2 : Bool) (σ : Sto) : acall C (n + 1) 27 [((V.agg [(V.int .i64 a_0_0), (V.int .i64 a_0_1), (V.str a_0_2), (V.slice 3 90 a_0_3), (V.slice 5 30 a_0_4)]), false), ((V.agg [(V.int .i64 b_1_0), (V.int .i64 b_1_1), (V.str b_1_2), (V.slice 3 90 b_1_3), (V.slice 5 30 b_1_4)]), false), ((V.bool wide_2), false)] σ = alike (acall C n) n a_0_0 a_0_1 a_0_2 a_0_3 a_0_4 b_1_0 b_1_1 b_1_2 b_1_3 b_1_4 wide_2 σ :=
  (show acall C (n + 1) 27 [((V.agg [(V.int .i64 a_0_0), (V.int .i64 a_0_1), (V.str a_0_2), (V.slice 3 90 a_0_3), (V.slice 5 30 a_0_4)]), false), ((V.agg [(V.int .i64 b_1_0), (V.int .i64 b_1_1), (V.str b_1_2), (V.slice 3 90 b_1_3), (V.slice 5 30 b_1_4)]), false), ((V.bool wide_2), false)] σ = afun C alikeD (acall C n) n [((V.agg [(V.int .i64 a_0_0), (V.int .i64 a_0_1), (V.str a_0_2), (V.slice 3 90 a_0_3), (V.slice 5 30 a_0_4)]), false), ((V.agg [(V.int .i64 b_1_0), (V.int .i64 b_1_1), (V.str b_1_2), (V.slice 3 90 b_1_3), (V.slice 5 30 b_1_4)]), false), ((V.bool wide_2), false)] σ by kernel_rfl).trans (alike_eq _ _ a_0_0 a_0_1 a_0_2 a_0_3 a_0_4 b_1_0 b_1_1 b_1_2 b_1_3 b_1_4 wide_2 σ)
theorem alike_lim {n : Nat} {a_0_0 : Int} {a_0_1 : Int} {a_0_2 : ByteArray} {a_0_3 : List (List V)} {a_0_4 : List (List V)} {b_1_0 : Int} {b_1_1 : Int} {b_1_2 : ByteArray} {b_1_3 : List (List V)} {b_1_4 : List (List V)} {wide_2 : Bool} {b0 b1 b2 : Bool} {σ : Sto} {r : Res} (h : alike (lim C) n a_0_0 a_0_1 a_0_2 a_0_3 a_0_4 b_1_0 b_1_1 b_1_2 b_1_3 b_1_4 wide_2 σ = some r) : lim C 27 [((V.agg [(V.int .i64 a_0_0), (V.int .i64 a_0_1), (V.str a_0_2), (V.slice 3 90 a_0_3), (V.slice 5 30 a_0_4)]), b0), ((V.agg [(V.int .i64 b_1_0), (V.int .i64 b_1_1), (V.str b_1_2), (V.slice 3 90 b_1_3), (V.slice 5 30 b_1_4)]), b1), ((V.bool wide_2), b2)] σ = some r :=
  lim_of (d := alikeD) (by kernel_rfl) (by kernel_rfl) n (show afun C alikeD (lim C) n [((V.agg [(V.int .i64 a_0_0), (V.int .i64 a_0_1), (V.str a_0_2), (V.slice 3 90 a_0_3), (V.slice 5 30 a_0_4)]), false), ((V.agg [(V.int .i64 b_1_0), (V.int .i64 b_1_1), (V.str b_1_2), (V.slice 3 90 b_1_3), (V.slice 5 30 b_1_4)]), false), ((V.bool wide_2), false)] σ = some r from (alike_eq (lim C) n a_0_0 a_0_1 a_0_2 a_0_3 a_0_4 b_1_0 b_1_1 b_1_2 b_1_3 b_1_4 wide_2 σ).trans h)
/-! strings.CutPrefix -/
noncomputable def cutPrefixF (call : CallF) (s_0 : ByteArray) (prefix_1 : ByteArray) (σ : Sto) : Option Res :=
  callK call 71 [((V.str s_0), false), ((V.str prefix_1), false)] σ 2 (fun vs1 σ2 =>
  some (.ret [((List.getD vs1 0 cellD).1, false), ((List.getD vs1 1 cellD).1, false)], σ2)) (fun p3 σ2 => some (.pan p3, σ2))
noncomputable def cutPrefix (call : CallF) (n : Nat) (s_0 : ByteArray) (prefix_1 : ByteArray) (σ : Sto) : Option Res := cutPrefixF call s_0 prefix_1 σ
theorem cutPrefix_eqF (call : CallF) (n : Nat) (s_0 : ByteArray) (prefix_1 : ByteArray) (σ : Sto) : afun C cutPrefixD call n [((V.str s_0), false), ((V.str prefix_1), false)] σ =
    cutPrefixF call s_0 prefix_1 σ := by kernel_rfl
theorem cutPrefix_eq (call : CallF) (n : Nat) (s_0 : ByteArray) (prefix_1 : ByteArray) (σ : Sto) : afun C cutPrefixD call n [((V.str s_0), false), ((V.str prefix_1), false)] σ = cutPrefix call n s_0 prefix_1 σ := cutPrefix_eqF call n s_0 prefix_1 σ
theorem cutPrefix_call (n : Nat) (s_0 : ByteArray) (prefix_1 : ByteArray) (σ : Sto) : acall C (n + 1) 40 [((V.str s_0), false), ((V.str prefix_1), false)] σ = cutPrefix (acall C n) n s_0 prefix_1 σ :=
  (show acall C (n + 1) 40 [((V.str s_0), false), ((V.str prefix_1), false)] σ = afun C cutPrefixD (acall C n) n [((V.str s_0), false), ((V.str prefix_1), false)] σ by kernel_rfl).trans (cutPrefix_eq _ _ s_0 prefix_1 σ)
theorem cutPrefix_lim {n : Nat} {s_0 : ByteArray} {prefix_1 : ByteArray} {b0 b1 : Bool} {σ : Sto} {r : Res} (h : cutPrefix (lim C) n s_0 prefix_1 σ = some r) : lim C 40 [((V.str s_0), b0), ((V.str prefix_1), b1)] σ = some r :=
  lim_of (d := cutPrefixD) (by kernel_rfl) (by kernel_rfl) n (show afun C cutPrefixD (lim C) n [((V.str s_0), false), ((V.str prefix_1), false)] σ = some r from (cutPrefix_eq (lim C) n s_0 prefix_1 σ).trans h)
/-! stringslite.CutPrefix -/
noncomputable def cutPrefix1F (call : CallF) (s_0 : ByteArray) (prefix_1 : ByteArray) (σ : Sto) : Option Res :=
  callK call 87 [((V.str s_0), false), ((V.str prefix_1), false)] σ 1 (fun vs1 σ2 =>
  (V.asBool (List.getD vs1 0 cellD).1).bind fun b4 =>
  bif (!b4) then
  some (.ret [((V.str s_0), false), ((V.bool false), false)], σ2)
  else
  (grd (decide (0 ≤ (prefix_1.size : Int)) && decide ((prefix_1.size : Int) ≤ (s_0.size : Int)) && decide ((s_0.size : Int) ≤ s_0.size))).bind fun _ =>
  some (.ret [((V.str (s_0.extract (Int.toNat (prefix_1.size : Int)) (Int.toNat (s_0.size : Int)))), false), ((V.bool true), false)], σ2)) (fun p3 σ2 => some (.pan p3, σ2))
noncomputable def cutPrefix1 (call : CallF) (n : Nat) (s_0 : ByteArray) (prefix_1 : ByteArray) (σ : Sto) : Option Res := cutPrefix1F call s_0 prefix_1 σ
theorem cutPrefix1_eqF (call : CallF) (n : Nat) (s_0 : ByteArray) (prefix_1 : ByteArray) (σ : Sto) : afun C cutPrefix1D call n [((V.str s_0), false), ((V.str prefix_1), false)] σ =
    cutPrefix1F call s_0 prefix_1 σ := by kernel_rfl
theorem cutPrefix1_eq (call : CallF) (n : Nat) (s_0 : ByteArray) (prefix_1 : ByteArray) (σ : Sto) : afun C cutPrefix1D call n [((V.str s_0), false), ((V.str prefix_1), false)] σ = cutPrefix1 call n s_0 prefix_1 σ := cutPrefix1_eqF call n s_0 prefix_1 σ
theorem cutPrefix1_call (n : Nat) (s_0 : ByteArray) (prefix_1 : ByteArray) (σ : Sto) : acall C (n + 1) 71 [((V.str s_0), false), ((V.str prefix_1), false)] σ = cutPrefix1 (acall C n) n s_0 prefix_1 σ :=
  (show acall C (n + 1) 71 [((V.str s_0), false), ((V.str prefix_1), false)] σ = afun C cutPrefix1D (acall C n) n [((V.str s_0), false), ((V.str prefix_1), false)] σ by kernel_rfl).trans (cutPrefix1_eq _ _ s_0 prefix_1 σ)
theorem cutPrefix1_lim {n : Nat} {s_0 : ByteArray} {prefix_1 : ByteArray} {b0 b1 : Bool} {σ : Sto} {r : Res} (h : cutPrefix1 (lim C) n s_0 prefix_1 σ = some r) : lim C 71 [((V.str s_0), b0), ((V.str prefix_1), b1)] σ = some r :=
  lim_of (d := cutPrefix1D) (by kernel_rfl) (by kernel_rfl) n (show afun C cutPrefix1D (lim C) n [((V.str s_0), false), ((V.str prefix_1), false)] σ = some r from (cutPrefix1_eq (lim C) n s_0 prefix_1 σ).trans h)
/-! stringslite.HasPrefix -/
noncomputable def hasPrefixF (call : CallF) (s_0 : ByteArray) (prefix_1 : ByteArray) (σ : Sto) : Option Res :=
  bif (decide ((s_0.size : Int) ≥ (prefix_1.size : Int))) then
  (grd (decide (0 ≤ (0 : Int)) && decide ((0 : Int) ≤ (prefix_1.size : Int)) && decide ((prefix_1.size : Int) ≤ s_0.size))).bind fun _ =>
  some (.ret [((V.bool ((s_0.extract (Int.toNat (0 : Int)) (Int.toNat (prefix_1.size : Int))).toList == prefix_1.toList)), false)], σ)
  else
  some (.ret [((V.bool false), false)], σ)
noncomputable def hasPrefix (call : CallF) (n : Nat) (s_0 : ByteArray) (prefix_1 : ByteArray) (σ : Sto) : Option Res := hasPrefixF call s_0 prefix_1 σ
theorem hasPrefix_eqF (call : CallF) (n : Nat) (s_0 : ByteArray) (prefix_1 : ByteArray) (σ : Sto) : afun C hasPrefixD call n [((V.str s_0), false), ((V.str prefix_1), false)] σ =
    hasPrefixF call s_0 prefix_1 σ := by kernel_rfl
theorem hasPrefix_eq (call : CallF) (n : Nat) (s_0 : ByteArray) (prefix_1 : ByteArray) (σ : Sto) : afun C hasPrefixD call n [((V.str s_0), false), ((V.str prefix_1), false)] σ = hasPrefix call n s_0 prefix_1 σ := hasPrefix_eqF call n s_0 prefix_1 σ
theorem hasPrefix_call (n : Nat) (s_0 : ByteArray) (prefix_1 : ByteArray) (σ : Sto) : acall C (n + 1) 87 [((V.str s_0), false), ((V.str prefix_1), false)] σ = hasPrefix (acall C n) n s_0 prefix_1 σ :=
  (show acall C (n + 1) 87 [((V.str s_0), false), ((V.str prefix_1), false)] σ = afun C hasPrefixD (acall C n) n [((V.str s_0), false), ((V.str prefix_1), false)] σ by kernel_rfl).trans (hasPrefix_eq _ _ s_0 prefix_1 σ)
theorem hasPrefix_lim {n : Nat} {s_0 : ByteArray} {prefix_1 : ByteArray} {b0 b1 : Bool} {σ : Sto} {r : Res} (h : hasPrefix (lim C) n s_0 prefix_1 σ = some r) : lim C 87 [((V.str s_0), b0), ((V.str prefix_1), b1)] σ = some r :=
  lim_of (d := hasPrefixD) (by kernel_rfl) (by kernel_rfl) n (show afun C hasPrefixD (lim C) n [((V.str s_0), false), ((V.str prefix_1), false)] σ = some r from (hasPrefix_eq (lim C) n s_0 prefix_1 σ).trans h)
/-! provekernelref.number -/
noncomputable def numberk0 : List Nat := [0, 3, 4]
noncomputable def numbers0 (call : CallF) (rec0 : ByteArray → Int → Int → Sto → Option Res) (t_0 : ByteArray) (vn_3 : Int) (i_4 : Int) (σ : Sto) : Option Res :=
  bif (decide (i_4 < (t_0.size : Int))) then
  (grd (decide (0 ≤ i_4) && decide (i_4 < t_0.size))).bind fun _ =>
  rec0 t_0 (IntKind.wrap .i64 ((IntKind.wrap .i64 ((10 : Int) * vn_3)) + (IntKind.wrap .i64 ((IntKind.wrap .u8 ((byteAt t_0 (Int.toNat i_4)) - (48 : Int))))))) (IntKind.wrap .i64 (i_4 + (1 : Int))) σ
  else
  some (.ret [((V.int .i64 vn_3), false)], σ)
noncomputable def numberl0 (call : CallF) (n : Nat) : Nat → ByteArray → Int → Int → Sto → Option Res
  | 0 => fun _ _ _ _ => none
  | m + 1 => numbers0 call (numberl0 call n m)
noncomputable def numbert0 (t_0 : ByteArray) (vn_3 : Int) (i_4 : Int) (σ : Sto) : St := ⟨[.val (V.str t_0) false, .dead, .dead, .val (V.int .i64 vn_3) false, .val (V.int .i64 i_4) false, .dead, .dead, .dead, .dead, .dead, .dead, .dead, .dead, .dead, .dead, .dead, .dead, .dead, .dead, .dead], [[], [], [], [], [], [], [], [], [], [], [], [], [], [], [], [], [], [], [], []], σ⟩
noncomputable def numberF (call : CallF) (L0 : ByteArray → Int → Int → Sto → Option Res) (t_0 : ByteArray) (σ : Sto) : Option Res :=
  L0 t_0 (0 : Int) (0 : Int) σ
noncomputable def number (call : CallF) (n : Nat) (t_0 : ByteArray) (σ : Sto) : Option Res := numberF call (numberl0 call n n) t_0 σ
theorem numbers0_eq (call : CallF) (n : Nat) (F0 : St → Option Res) (t_0 : ByteArray) (vn_3 : Int) (i_4 : Int) (σ : Sto) :
    aexec C numberH call n (codeL (codeL (codeR (codeL (codeR (codeR numberC)))))) 0 (numbert0 t_0 vn_3 i_4 σ) (kloop numberk0 F0 (kblk 0 (kseq (fun st' => aexec C numberH call n (codeR (codeR (codeR numberC))) 0 st' (kfin C numberD)) (kfin C numberD)))) =
    numbers0 call (fun t_0 vn_3 i_4 σ => F0 (numbert0 t_0 vn_3 i_4 σ)) t_0 vn_3 i_4 σ := by kernel_rfl
theorem numberl0_eq (call : CallF) (n : Nat) : ∀ (m : Nat) (t_0 : ByteArray) (vn_3 : Int) (i_4 : Int) (σ : Sto),
    aloop (fun st K => aexec C numberH call n (codeL (codeL (codeR (codeL (codeR (codeR numberC)))))) 0 st K) numberk0 m (numbert0 t_0 vn_3 i_4 σ) (kblk 0 (kseq (fun st' => aexec C numberH call n (codeR (codeR (codeR numberC))) 0 st' (kfin C numberD)) (kfin C numberD))) = numberl0 call n m t_0 vn_3 i_4 σ
  | 0, t_0, vn_3, i_4, σ => rfl
  | m + 1, t_0, vn_3, i_4, σ => by
    rw [aloop, numbers0_eq]
    simp only [numberl0_eq call n m]
    rfl
theorem number_eqF (call : CallF) (n : Nat) (t_0 : ByteArray) (σ : Sto) : afun C numberD call n [((V.str t_0), false)] σ =
    numberF call (fun t_0 vn_3 i_4 σ => aloop (fun st K => aexec C numberH call n (codeL (codeL (codeR (codeL (codeR (codeR numberC)))))) 0 st K) numberk0 n (numbert0 t_0 vn_3 i_4 σ) (kblk 0 (kseq (fun st' => aexec C numberH call n (codeR (codeR (codeR numberC))) 0 st' (kfin C numberD)) (kfin C numberD)))) t_0 σ := by kernel_rfl
theorem number_eq (call : CallF) (n : Nat) (t_0 : ByteArray) (σ : Sto) : afun C numberD call n [((V.str t_0), false)] σ = number call n t_0 σ := by
  rw [number_eqF]
  simp only [numberl0_eq]
  rfl
theorem number_call (n : Nat) (t_0 : ByteArray) (σ : Sto) : acall C (n + 1) 50 [((V.str t_0), false)] σ = number (acall C n) n t_0 σ :=
  (show acall C (n + 1) 50 [((V.str t_0), false)] σ = afun C numberD (acall C n) n [((V.str t_0), false)] σ by kernel_rfl).trans (number_eq _ _ t_0 σ)
theorem number_lim {n : Nat} {t_0 : ByteArray} {b0 : Bool} {σ : Sto} {r : Res} (h : number (lim C) n t_0 σ = some r) : lim C 50 [((V.str t_0), b0)] σ = some r :=
  lim_of (d := numberD) (by kernel_rfl) (by kernel_rfl) n (show afun C numberD (lim C) n [((V.str t_0), false)] σ = some r from (number_eq (lim C) n t_0 σ).trans h)
/-! provekernelref.Reader).name -/
noncomputable def rnameF (call : CallF) (r_0 : Nat) (σ : Sto) : Option Res :=
  callK call 47 [((V.ptr 62 r_0 0), false)] σ 3 (fun vs1 σ2 =>
  callK call 75 [((List.getD vs1 0 cellD).1, false)] σ2 1 (fun vs4 σ5 =>
  (V.asBool (List.getD vs1 2 cellD).1).bind fun b7 =>
  bif (!b7) then
  callK call 48 [((V.ptr 62 r_0 0), false), ((List.getD vs1 1 cellD).1, false)] σ5 0 (fun vs8 σ9 =>
  (memGet σ9 (V.ptr 62 r_0 2) false 1).bind fun m11 =>
  (V.asInt m11 .i64).bind fun i12 =>
  bif (i12 != (0 : Int)) then
  some (.ret [((V.str (ByteArray.mk #[])), false)], σ9)
  else
  (V.asStr (List.getD vs1 0 cellD).1).bind fun s13 =>
  (V.asInt (List.getD vs1 1 cellD).1 .i64).bind fun i14 =>
  (memSet σ9 (V.ptr 62 r_0 1) [((V.int .i64 (IntKind.wrap .i64 (i14 + (s13.size : Int)))), false)]).bind fun m15 =>
  some (.ret [((List.getD vs1 0 cellD).1, false)], m15)) (fun p10 σ9 => some (.pan p10, σ9))
  else
  (V.asBool (List.getD vs4 0 cellD).1).bind fun b16 =>
  bif (!b16) then
  callK call 48 [((V.ptr 62 r_0 0), false), ((List.getD vs1 1 cellD).1, false)] σ5 0 (fun vs17 σ18 =>
  (memGet σ18 (V.ptr 62 r_0 2) false 1).bind fun m20 =>
  (V.asInt m20 .i64).bind fun i21 =>
  bif (i21 != (0 : Int)) then
  some (.ret [((V.str (ByteArray.mk #[])), false)], σ18)
  else
  (V.asStr (List.getD vs1 0 cellD).1).bind fun s22 =>
  (V.asInt (List.getD vs1 1 cellD).1 .i64).bind fun i23 =>
  (memSet σ18 (V.ptr 62 r_0 1) [((V.int .i64 (IntKind.wrap .i64 (i23 + (s22.size : Int)))), false)]).bind fun m24 =>
  some (.ret [((List.getD vs1 0 cellD).1, false)], m24)) (fun p19 σ18 => some (.pan p19, σ18))
  else
  (memGet σ5 (V.ptr 62 r_0 2) false 1).bind fun m25 =>
  (V.asInt m25 .i64).bind fun i26 =>
  bif (i26 != (0 : Int)) then
  some (.ret [((V.str (ByteArray.mk #[])), false)], σ5)
  else
  (V.asStr (List.getD vs1 0 cellD).1).bind fun s27 =>
  (V.asInt (List.getD vs1 1 cellD).1 .i64).bind fun i28 =>
  (memSet σ5 (V.ptr 62 r_0 1) [((V.int .i64 (IntKind.wrap .i64 (i28 + (s27.size : Int)))), false)]).bind fun m29 =>
  some (.ret [((List.getD vs1 0 cellD).1, false)], m29)) (fun p6 σ5 => some (.pan p6, σ5))) (fun p3 σ2 => some (.pan p3, σ2))
noncomputable def rname (call : CallF) (n : Nat) (r_0 : Nat) (σ : Sto) : Option Res := rnameF call r_0 σ
theorem rname_eqF (call : CallF) (n : Nat) (r_0 : Nat) (σ : Sto) : afun C rnameD call n [((V.ptr 62 r_0 0), false)] σ =
    rnameF call r_0 σ := by kernel_rfl
theorem rname_eq (call : CallF) (n : Nat) (r_0 : Nat) (σ : Sto) : afun C rnameD call n [((V.ptr 62 r_0 0), false)] σ = rname call n r_0 σ := rname_eqF call n r_0 σ
theorem rname_call (n : Nat) (r_0 : Nat) (σ : Sto) : acall C (n + 1) 52 [((V.ptr 62 r_0 0), false)] σ = rname (acall C n) n r_0 σ :=
  (show acall C (n + 1) 52 [((V.ptr 62 r_0 0), false)] σ = afun C rnameD (acall C n) n [((V.ptr 62 r_0 0), false)] σ by kernel_rfl).trans (rname_eq _ _ r_0 σ)
theorem rname_lim {n : Nat} {r_0 : Nat} {b0 : Bool} {σ : Sto} {r : Res} (h : rname (lim C) n r_0 σ = some r) : lim C 52 [((V.ptr 62 r_0 0), b0)] σ = some r :=
  lim_of (d := rnameD) (by kernel_rfl) (by kernel_rfl) n (show afun C rnameD (lim C) n [((V.ptr 62 r_0 0), false)] σ = some r from (rname_eq (lim C) n r_0 σ).trans h)
/-! provekernelref.Reader).peek -/
noncomputable def rpeekF (call : CallF) (r_0 : Nat) (σ : Sto) : Option Res :=
  callK call 47 [((V.ptr 62 r_0 0), false)] σ 3 (fun vs1 σ2 =>
  (V.asBool (List.getD vs1 2 cellD).1).bind fun b4 =>
  bif (!b4) then
  some (.ret [((V.str (ByteArray.mk #[])), false)], σ2)
  else
  (memGet σ2 (V.ptr 62 r_0 2) false 1).bind fun m5 =>
  (V.asInt m5 .i64).bind fun i6 =>
  bif (i6 != (0 : Int)) then
  some (.ret [((V.str (ByteArray.mk #[])), false)], σ2)
  else
  some (.ret [((List.getD vs1 0 cellD).1, false)], σ2)) (fun p3 σ2 => some (.pan p3, σ2))
noncomputable def rpeek (call : CallF) (n : Nat) (r_0 : Nat) (σ : Sto) : Option Res := rpeekF call r_0 σ
theorem rpeek_eqF (call : CallF) (n : Nat) (r_0 : Nat) (σ : Sto) : afun C rpeekD call n [((V.ptr 62 r_0 0), false)] σ =
    rpeekF call r_0 σ := by kernel_rfl
theorem rpeek_eq (call : CallF) (n : Nat) (r_0 : Nat) (σ : Sto) : afun C rpeekD call n [((V.ptr 62 r_0 0), false)] σ = rpeek call n r_0 σ := rpeek_eqF call n r_0 σ
theorem rpeek_call (n : Nat) (r_0 : Nat) (σ : Sto) : acall C (n + 1) 53 [((V.ptr 62 r_0 0), false)] σ = rpeek (acall C n) n r_0 σ :=
  (show acall C (n + 1) 53 [((V.ptr 62 r_0 0), false)] σ = afun C rpeekD (acall C n) n [((V.ptr 62 r_0 0), false)] σ by kernel_rfl).trans (rpeek_eq _ _ r_0 σ)
theorem rpeek_lim {n : Nat} {r_0 : Nat} {b0 : Bool} {σ : Sto} {r : Res} (h : rpeek (lim C) n r_0 σ = some r) : lim C 53 [((V.ptr 62 r_0 0), b0)] σ = some r :=
  lim_of (d := rpeekD) (by kernel_rfl) (by kernel_rfl) n (show afun C rpeekD (lim C) n [((V.ptr 62 r_0 0), false)] σ = some r from (rpeek_eq (lim C) n r_0 σ).trans h)
/-! strconv.Atoi -/
noncomputable def atoiF (call : CallF) (s_0 : ByteArray) (σ : Sto) : Option Res :=
  callK call 72 [((V.str s_0), false)] σ 2 (fun vs1 σ2 =>
  (V.ifaceNil (List.getD vs1 1 cellD).1).bind fun b4 =>
  bif (!b4) then
  callK call 73 [((V.str (ByteArray.mk #[65, 116, 111, 105])), false), ((V.str s_0), false), ((V.int .i64 (0 : Int)), false), ((V.int .i64 (0 : Int)), false), ((List.getD vs1 1 cellD).1, false)] σ2 1 (fun vs5 σ6 =>
  some (.ret [((List.getD vs1 0 cellD).1, false), ((List.getD vs5 0 cellD).1, false)], σ6)) (fun p7 σ6 => some (.pan p7, σ6))
  else
  some (.ret [((List.getD vs1 0 cellD).1, false), (V.nilIface, false)], σ2)) (fun p3 σ2 => some (.pan p3, σ2))
noncomputable def atoi (call : CallF) (n : Nat) (s_0 : ByteArray) (σ : Sto) : Option Res := atoiF call s_0 σ
theorem atoi_eqF (call : CallF) (n : Nat) (s_0 : ByteArray) (σ : Sto) : afun C atoiD call n [((V.str s_0), false)] σ =
    atoiF call s_0 σ := by kernel_rfl
theorem atoi_eq (call : CallF) (n : Nat) (s_0 : ByteArray) (σ : Sto) : afun C atoiD call n [((V.str s_0), false)] σ = atoi call n s_0 σ := atoi_eqF call n s_0 σ
theorem atoi_call (n : Nat) (s_0 : ByteArray) (σ : Sto) : acall C (n + 1) 41 [((V.str s_0), false)] σ = atoi (acall C n) n s_0 σ :=
  (show acall C (n + 1) 41 [((V.str s_0), false)] σ = afun C atoiD (acall C n) n [((V.str s_0), false)] σ by kernel_rfl).trans (atoi_eq _ _ s_0 σ)
theorem atoi_lim {n : Nat} {s_0 : ByteArray} {b0 : Bool} {σ : Sto} {r : Res} (h : atoi (lim C) n s_0 σ = some r) : lim C 41 [((V.str s_0), b0)] σ = some r :=
  lim_of (d := atoiD) (by kernel_rfl) (by kernel_rfl) n (show afun C atoiD (lim C) n [((V.str s_0), false)] σ = some r from (atoi_eq (lim C) n s_0 σ).trans h)
/-! strconv.Atoi -/
noncomputable def iatoik0 : List Nat := [5, 6, 47, 48, 49]
noncomputable def iatois0 (call : CallF) (rec0 : ByteArray → Int → List (List V) → Int → Int → Sto → Option Res) (s0_5 : ByteArray) (vn_6 : Int) (t_47 : List (List V)) (t_48 : Int) (t_49 : Int) (σ : Sto) : Option Res :=
  bif (decide (t_49 < t_48)) then
  (grd (decide (0 ≤ t_49) && decide (t_49 < t_47.length))).bind fun _ =>
  (V.asInt (List.getD (List.getD t_47 (Int.toNat t_49) []) 0 V.any) .u8).bind fun i1 =>
  bif (decide ((IntKind.wrap .u8 (i1 - (48 : Int))) > (9 : Int))) then
  some (.ret [((V.int .i64 (0 : Int)), false), ((V.iface 128 (V.int .i64 (2 : Int))), false)], σ)
  else
  rec0 s0_5 (IntKind.wrap .i64 ((IntKind.wrap .i64 (vn_6 * (10 : Int))) + (IntKind.wrap .i64 ((IntKind.wrap .u8 (i1 - (48 : Int))))))) t_47 t_48 (IntKind.wrap .i64 (t_49 + (1 : Int))) σ
  else
  (grd (decide (0 ≤ (0 : Int)) && decide ((0 : Int) < s0_5.size))).bind fun _ =>
  bif ((byteAt s0_5 (Int.toNat (0 : Int))) == (45 : Int)) then
  some (.ret [((V.int .i64 (IntKind.wrap .i64 ((0 : Int) - vn_6))), false), (V.nilIface, false)], σ)
  else
  some (.ret [((V.int .i64 vn_6), false), (V.nilIface, false)], σ)
noncomputable def iatoil0 (call : CallF) (n : Nat) : Nat → ByteArray → Int → List (List V) → Int → Int → Sto → Option Res
  | 0 => fun _ _ _ _ _ _ => none
  | m + 1 => iatois0 call (iatoil0 call n m)
noncomputable def iatoit0 (s0_5 : ByteArray) (vn_6 : Int) (t_47 : List (List V)) (t_48 : Int) (t_49 : Int) (σ : Sto) : St := ⟨[.dead, .dead, .dead, .dead, .dead, .val (V.str s0_5) false, .val (V.int .i64 vn_6) false, .dead, .dead, .dead, .dead, .dead, .dead, .dead, .dead, .dead, .dead, .dead, .dead, .dead, .dead, .dead, .dead, .dead, .dead, .dead, .dead, .dead, .dead, .dead, .dead, .dead, .dead, .dead, .dead, .dead, .dead, .dead, .dead, .dead, .dead, .dead, .dead, .dead, .dead, .dead, .dead, .val (V.slice 1 5 t_47) false, .val (V.int .i64 t_48) false, .val (V.int .i64 t_49) false, .dead, .dead, .dead, .dead, .dead, .dead, .dead, .dead, .dead, .dead, .dead, .dead, .dead, .dead, .dead, .dead, .dead, .dead, .dead, .dead, .dead, .dead, .dead, .dead, .dead, .dead, .dead], [[], [], [], [], [], [], [], [], [], [], [], [], [], [], [], [], [], [], [], [], [], [], [], [], [], [], [], [], [], [], [], [], [], [], [], [], [], [], [], [], [], [], [], [], [], [], [], [], [], [], [], [], [], [], [], [], [], [], [], [], [], [], [], [], [], [], [], [], [], [], [], [], [], [], [], [], []], σ⟩
noncomputable def iatoiF (call : CallF) (L0 : ByteArray → Int → List (List V) → Int → Int → Sto → Option Res) (s_0 : ByteArray) (σ : Sto) : Option Res :=
  bif (decide ((0 : Int) < (s_0.size : Int))) then
  bif (decide ((s_0.size : Int) < (19 : Int))) then
  (grd (decide (0 ≤ (0 : Int)) && decide ((0 : Int) < s_0.size))).bind fun _ =>
  bif ((byteAt s_0 (Int.toNat (0 : Int))) == (45 : Int)) then
  (grd (decide (0 ≤ (1 : Int)) && decide ((1 : Int) ≤ (s_0.size : Int)) && decide ((s_0.size : Int) ≤ s_0.size))).bind fun _ =>
  bif (decide (((s_0.extract (Int.toNat (1 : Int)) (Int.toNat (s_0.size : Int))).size : Int) < (1 : Int))) then
  some (.ret [((V.int .i64 (0 : Int)), false), ((V.iface 128 (V.int .i64 (2 : Int))), false)], σ)
  else
  L0 s_0 (0 : Int) (bytesV (s_0.extract (Int.toNat (1 : Int)) (Int.toNat (s_0.size : Int)))) ((bytesV (s_0.extract (Int.toNat (1 : Int)) (Int.toNat (s_0.size : Int)))).length : Int) (0 : Int) σ
  else
  (grd (decide (0 ≤ (0 : Int)) && decide ((0 : Int) < s_0.size))).bind fun _ =>
  bif ((byteAt s_0 (Int.toNat (0 : Int))) == (43 : Int)) then
  (grd (decide (0 ≤ (1 : Int)) && decide ((1 : Int) ≤ (s_0.size : Int)) && decide ((s_0.size : Int) ≤ s_0.size))).bind fun _ =>
  bif (decide (((s_0.extract (Int.toNat (1 : Int)) (Int.toNat (s_0.size : Int))).size : Int) < (1 : Int))) then
  some (.ret [((V.int .i64 (0 : Int)), false), ((V.iface 128 (V.int .i64 (2 : Int))), false)], σ)
  else
  L0 s_0 (0 : Int) (bytesV (s_0.extract (Int.toNat (1 : Int)) (Int.toNat (s_0.size : Int)))) ((bytesV (s_0.extract (Int.toNat (1 : Int)) (Int.toNat (s_0.size : Int)))).length : Int) (0 : Int) σ
  else
  L0 s_0 (0 : Int) (bytesV s_0) ((bytesV s_0).length : Int) (0 : Int) σ
  else
  callK call 88 [((V.str s_0), false), ((V.int .i64 (10 : Int)), false), ((V.int .i64 (0 : Int)), false)] σ 2 (fun vs1 σ2 =>
  some (.ret [((List.getD vs1 0 cellD).1, false), ((List.getD vs1 1 cellD).1, false)], σ2)) (fun p3 σ2 => some (.pan p3, σ2))
  else
  callK call 88 [((V.str s_0), false), ((V.int .i64 (10 : Int)), false), ((V.int .i64 (0 : Int)), false)] σ 2 (fun vs4 σ5 =>
  some (.ret [((List.getD vs4 0 cellD).1, false), ((List.getD vs4 1 cellD).1, false)], σ5)) (fun p6 σ5 => some (.pan p6, σ5))
noncomputable def iatoi (call : CallF) (n : Nat) (s_0 : ByteArray) (σ : Sto) : Option Res := iatoiF call (iatoil0 call n n) s_0 σ
theorem iatois0_eq (call : CallF) (n : Nat) (F0 : St → Option Res) (s0_5 : ByteArray) (vn_6 : Int) (t_47 : List (List V)) (t_48 : Int) (t_49 : Int) (σ : Sto) :
    aexec C iatoiH call n (codeL (codeL (codeR (codeL (codeR (codeR (codeR (codeL (codeR (codeL (codeR (codeR iatoiC)))))))))))) 0 (iatoit0 s0_5 vn_6 t_47 t_48 t_49 σ) (kloop iatoik0 F0 (kblk 0 (kseq (fun st' => aexec C iatoiH call n (codeR (codeR (codeR (codeR (codeL (codeR (codeL (codeR (codeR iatoiC))))))))) 0 st' (kseq (fun st' => aexec C iatoiH call n (codeR (codeR (codeR iatoiC))) 0 st' (kfin C iatoiD)) (kfin C iatoiD))) (kseq (fun st' => aexec C iatoiH call n (codeR (codeR (codeR iatoiC))) 0 st' (kfin C iatoiD)) (kfin C iatoiD))))) =
    iatois0 call (fun s0_5 vn_6 t_47 t_48 t_49 σ => F0 (iatoit0 s0_5 vn_6 t_47 t_48 t_49 σ)) s0_5 vn_6 t_47 t_48 t_49 σ := by kernel_rfl
theorem iatoil0_eq (call : CallF) (n : Nat) : ∀ (m : Nat) (s0_5 : ByteArray) (vn_6 : Int) (t_47 : List (List V)) (t_48 : Int) (t_49 : Int) (σ : Sto),
    aloop (fun st K => aexec C iatoiH call n (codeL (codeL (codeR (codeL (codeR (codeR (codeR (codeL (codeR (codeL (codeR (codeR iatoiC)))))))))))) 0 st K) iatoik0 m (iatoit0 s0_5 vn_6 t_47 t_48 t_49 σ) (kblk 0 (kseq (fun st' => aexec C iatoiH call n (codeR (codeR (codeR (codeR (codeL (codeR (codeL (codeR (codeR iatoiC))))))))) 0 st' (kseq (fun st' => aexec C iatoiH call n (codeR (codeR (codeR iatoiC))) 0 st' (kfin C iatoiD)) (kfin C iatoiD))) (kseq (fun st' => aexec C iatoiH call n (codeR (codeR (codeR iatoiC))) 0 st' (kfin C iatoiD)) (kfin C iatoiD)))) = iatoil0 call n m s0_5 vn_6 t_47 t_48 t_49 σ
  | 0, s0_5, vn_6, t_47, t_48, t_49, σ => rfl
  | m + 1, s0_5, vn_6, t_47, t_48, t_49, σ => by
    rw [aloop, iatois0_eq]
    simp only [iatoil0_eq call n m]
    rfl
theorem iatoi_eqF (call : CallF) (n : Nat) (s_0 : ByteArray) (σ : Sto) : afun C iatoiD call n [((V.str s_0), false)] σ =
    iatoiF call (fun s0_5 vn_6 t_47 t_48 t_49 σ => aloop (fun st K => aexec C iatoiH call n (codeL (codeL (codeR (codeL (codeR (codeR (codeR (codeL (codeR (codeL (codeR (codeR iatoiC)))))))))))) 0 st K) iatoik0 n (iatoit0 s0_5 vn_6 t_47 t_48 t_49 σ) (kblk 0 (kseq (fun st' => aexec C iatoiH call n (codeR (codeR (codeR (codeR (codeL (codeR (codeL (codeR (codeR iatoiC))))))))) 0 st' (kseq (fun st' => aexec C iatoiH call n (codeR (codeR (codeR iatoiC))) 0 st' (kfin C iatoiD)) (kfin C iatoiD))) (kseq (fun st' => aexec C iatoiH call n (codeR (codeR (codeR iatoiC))) 0 st' (kfin C iatoiD)) (kfin C iatoiD))))) s_0 σ := by kernel_rfl
theorem iatoi_eq (call : CallF) (n : Nat) (s_0 : ByteArray) (σ : Sto) : afun C iatoiD call n [((V.str s_0), false)] σ = iatoi call n s_0 σ := by
  rw [iatoi_eqF]
  simp only [iatoil0_eq]
  rfl
theorem iatoi_call (n : Nat) (s_0 : ByteArray) (σ : Sto) : acall C (n + 1) 72 [((V.str s_0), false)] σ = iatoi (acall C n) n s_0 σ :=
  (show acall C (n + 1) 72 [((V.str s_0), false)] σ = afun C iatoiD (acall C n) n [((V.str s_0), false)] σ by kernel_rfl).trans (iatoi_eq _ _ s_0 σ)
theorem iatoi_lim {n : Nat} {s_0 : ByteArray} {b0 : Bool} {σ : Sto} {r : Res} (h : iatoi (lim C) n s_0 σ = some r) : lim C 72 [((V.str s_0), b0)] σ = some r :=
  lim_of (d := iatoiD) (by kernel_rfl) (by kernel_rfl) n (show afun C iatoiD (lim C) n [((V.str s_0), false)] σ = some r from (iatoi_eq (lim C) n s_0 σ).trans h)
end Go.Ab.Mk
