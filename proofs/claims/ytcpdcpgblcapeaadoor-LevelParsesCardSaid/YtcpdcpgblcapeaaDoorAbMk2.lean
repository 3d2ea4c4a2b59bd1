/- AbMk2: printed by program: functions of the program, their code told as plain Lean, and the equations. -/
import Derived.Test.YtcpdcpgblcapeaaDoorAbMk0
set_option linter.unusedSimpArgs false
set_option linter.unusedVariables false
set_option linter.deprecated false
set_option maxRecDepth 100000
namespace Go.Ab.Mk
open Go.Proofs Go.Ab
/-! provekernelref.SameLevel -/
noncomputable def sameLevelk0 : List Nat := [2, 3, 5]
noncomputable def sameLevels0 (call : CallF) (rec0 : Int → Int → ByteArray → List (List V) → Int → ByteArray → List (List V) → Sto → Option Res) (i_5 : Int) (a_2c0 : Int) (a_2c1 : ByteArray) (a_2c2 : List (List V)) (b_3c0 : Int) (b_3c1 : ByteArray) (b_3c2 : List (List V)) (σ : Sto) : Option Res :=
  bif (decide (i_5 < (a_2c2.length : Int))) then
  (grd (decide (0 ≤ i_5) && decide (i_5 < a_2c2.length))).bind fun _ =>
  (grd (decide (0 ≤ i_5) && decide (i_5 < b_3c2.length))).bind fun _ =>
  callK call 22 [((V.agg [(List.getD (List.getD a_2c2 (Int.toNat i_5) []) 0 V.any), (List.getD (List.getD a_2c2 (Int.toNat i_5) []) 1 V.any), (List.getD (List.getD a_2c2 (Int.toNat i_5) []) 2 V.any)]), false), ((V.agg [(List.getD (List.getD b_3c2 (Int.toNat i_5) []) 0 V.any), (List.getD (List.getD b_3c2 (Int.toNat i_5) []) 1 V.any), (List.getD (List.getD b_3c2 (Int.toNat i_5) []) 2 V.any)]), false)] σ 1 (fun vs1 σ2 =>
  (V.asBool (List.getD vs1 0 cellD).1).bind fun b4 =>
  bif (!b4) then
  some (.ret [((V.bool false), false)], σ2)
  else
  rec0 (IntKind.wrap .i64 (i_5 + (1 : Int))) a_2c0 a_2c1 a_2c2 b_3c0 b_3c1 b_3c2 σ2) (fun p3 σ2 => some (.pan p3, σ2))
  else
  some (.ret [((V.bool true), false)], σ)
noncomputable def sameLevell0 (call : CallF) (n : Nat) : Nat → Int → Int → ByteArray → List (List V) → Int → ByteArray → List (List V) → Sto → Option Res
  | 0 => fun _ _ _ _ _ _ _ _ => none
  | m + 1 => sameLevels0 call (sameLevell0 call n m)
noncomputable def sameLevelt0 (i_5 : Int) (a_2c0 : Int) (a_2c1 : ByteArray) (a_2c2 : List (List V)) (b_3c0 : Int) (b_3c1 : ByteArray) (b_3c2 : List (List V)) (σ : Sto) : St := ⟨[.dead, .dead, .lptr 2 0, .lptr 3 0, .dead, .val (V.int .i64 i_5) false, .dead, .dead, .dead, .dead, .dead, .dead, .dead, .dead, .dead, .dead, .dead, .dead, .dead, .dead, .dead, .dead, .dead, .dead, .dead, .dead, .dead, .dead, .dead, .dead, .dead, .dead, .dead, .dead, .dead, .dead, .dead, .dead, .dead, .dead, .dead, .dead, .dead, .dead, .dead, .dead, .dead, .dead], [[], [], [((V.int .i64 a_2c0), false), ((V.str a_2c1), false), ((V.slice 3 31 a_2c2), false)], [((V.int .i64 b_3c0), false), ((V.str b_3c1), false), ((V.slice 3 31 b_3c2), false)], [], [], [], [], [], [], [], [], [], [], [], [], [], [], [], [], [], [], [], [], [], [], [], [], [], [], [], [], [], [], [], [], [], [], [], [], [], [], [], [], [], [], [], []], σ⟩
noncomputable def sameLevelF (call : CallF) (L0 : Int → Int → ByteArray → List (List V) → Int → ByteArray → List (List V) → Sto → Option Res) (a_0_0 : Int) (a_0_1 : ByteArray) (a_0_2 : List (List V)) (b_1_0 : Int) (b_1_1 : ByteArray) (b_1_2 : List (List V)) (σ : Sto) : Option Res :=
  bif (a_0_0 != b_1_0) then
  some (.ret [((V.bool false), false)], σ)
  else
  bif (!(a_0_1.toList == b_1_1.toList)) then
  some (.ret [((V.bool false), false)], σ)
  else
  bif ((a_0_2.length : Int) != (b_1_2.length : Int)) then
  some (.ret [((V.bool false), false)], σ)
  else
  L0 (0 : Int) a_0_0 a_0_1 a_0_2 b_1_0 b_1_1 b_1_2 σ
noncomputable def sameLevel (call : CallF) (n : Nat) (a_0_0 : Int) (a_0_1 : ByteArray) (a_0_2 : List (List V)) (b_1_0 : Int) (b_1_1 : ByteArray) (b_1_2 : List (List V)) (σ : Sto) : Option Res := sameLevelF call (sameLevell0 call n n) a_0_0 a_0_1 a_0_2 b_1_0 b_1_1 b_1_2 σ
theorem sameLevels0_eq (call : CallF) (n : Nat) (F0 : St → Option Res) (i_5 : Int) (a_2c0 : Int) (a_2c1 : ByteArray) (a_2c2 : List (List V)) (b_3c0 : Int) (b_3c1 : ByteArray) (b_3c2 : List (List V)) (σ : Sto) :
    aexec C sameLevelH call n (codeL (codeL (codeR (codeL (codeR (codeR sameLevelC)))))) 0 (sameLevelt0 i_5 a_2c0 a_2c1 a_2c2 b_3c0 b_3c1 b_3c2 σ) (kloop sameLevelk0 F0 (kblk 0 (kseq (fun st' => aexec C sameLevelH call n (codeR (codeR (codeR sameLevelC))) 0 st' (kfin C sameLevelD)) (kfin C sameLevelD)))) =
    sameLevels0 call (fun i_5 a_2c0 a_2c1 a_2c2 b_3c0 b_3c1 b_3c2 σ => F0 (sameLevelt0 i_5 a_2c0 a_2c1 a_2c2 b_3c0 b_3c1 b_3c2 σ)) i_5 a_2c0 a_2c1 a_2c2 b_3c0 b_3c1 b_3c2 σ := by kernel_rfl
theorem sameLevell0_eq (call : CallF) (n : Nat) : ∀ (m : Nat) (i_5 : Int) (a_2c0 : Int) (a_2c1 : ByteArray) (a_2c2 : List (List V)) (b_3c0 : Int) (b_3c1 : ByteArray) (b_3c2 : List (List V)) (σ : Sto),
    aloop (fun st K => aexec C sameLevelH call n (codeL (codeL (codeR (codeL (codeR (codeR sameLevelC)))))) 0 st K) sameLevelk0 m (sameLevelt0 i_5 a_2c0 a_2c1 a_2c2 b_3c0 b_3c1 b_3c2 σ) (kblk 0 (kseq (fun st' => aexec C sameLevelH call n (codeR (codeR (codeR sameLevelC))) 0 st' (kfin C sameLevelD)) (kfin C sameLevelD))) = sameLevell0 call n m i_5 a_2c0 a_2c1 a_2c2 b_3c0 b_3c1 b_3c2 σ
  | 0, i_5, a_2c0, a_2c1, a_2c2, b_3c0, b_3c1, b_3c2, σ => rfl
  | m + 1, i_5, a_2c0, a_2c1, a_2c2, b_3c0, b_3c1, b_3c2, σ => by
    rw [aloop, sameLevels0_eq]
    simp only [sameLevell0_eq call n m]
    rfl
theorem sameLevel_eqF (call : CallF) (n : Nat) (a_0_0 : Int) (a_0_1 : ByteArray) (a_0_2 : List (List V)) (b_1_0 : Int) (b_1_1 : ByteArray) (b_1_2 : List (List V)) (σ : Sto) : afun C sameLevelD call n [((V.agg [(V.int .i64 a_0_0), (V.str a_0_1), (V.slice 3 31 a_0_2)]), false), ((V.agg [(V.int .i64 b_1_0), (V.str b_1_1), (V.slice 3 31 b_1_2)]), false)] σ =
    sameLevelF call (fun i_5 a_2c0 a_2c1 a_2c2 b_3c0 b_3c1 b_3c2 σ => aloop (fun st K => aexec C sameLevelH call n (codeL (codeL (codeR (codeL (codeR (codeR sameLevelC)))))) 0 st K) sameLevelk0 n (sameLevelt0 i_5 a_2c0 a_2c1 a_2c2 b_3c0 b_3c1 b_3c2 σ) (kblk 0 (kseq (fun st' => aexec C sameLevelH call n (codeR (codeR (codeR sameLevelC))) 0 st' (kfin C sameLevelD)) (kfin C sameLevelD)))) a_0_0 a_0_1 a_0_2 b_1_0 b_1_1 b_1_2 σ := by kernel_rfl
theorem sameLevel_eq (call : CallF) (n : Nat) (a_0_0 : Int) (a_0_1 : ByteArray) (a_0_2 : List (List V)) (b_1_0 : Int) (b_1_1 : ByteArray) (b_1_2 : List (List V)) (σ : Sto) : afun C sameLevelD call n [((V.agg [(V.int .i64 a_0_0), (V.str a_0_1), (V.slice 3 31 a_0_2)]), false), ((V.agg [(V.int .i64 b_1_0), (V.str b_1_1), (V.slice 3 31 b_1_2)]), false)] σ = sameLevel call n a_0_0 a_0_1 a_0_2 b_1_0 b_1_1 b_1_2 σ := by
  rw [sameLevel_eqF]
  simp only [sameLevell0_eq]
  rfl
theorem sameLevel_call (n : Nat) (a_0_0 : Int) (a_0_1 : ByteArray) (a_0_2 : List (List V)) (b_1_0 : Int) (b_1_1 : ByteArray) (b_1_2 : List (List V)) (σ : Sto) : acall C (n + 1) 22 [((V.agg [(V.int .i64 a_0_0), (V.str a_0_1), (V.slice 3 31 a_0_2)]), false), ((V.agg [(V.int .i64 b_1_0), (V.str b_1_1), (V.slice 3 31 b_1_2)]), false)] σ = sameLevel (acall C n) n a_0_0 a_0_1 a_0_2 b_1_0 b_1_1 b_1_2 σ :=
  (show acall C (n + 1) 22 [((V.agg [(V.int .i64 a_0_0), (V.str a_0_1), (V.slice 3 31 a_0_2)]), false), ((V.agg [(V.int .i64 b_1_0), (V.str b_1_1), (V.slice 3 31 b_1_2)]), false)] σ = afun C sameLevelD (acall C n) n [((V.agg [(V.int .i64 a_0_0), (V.str a_0_1), (V.slice 3 31 a_0_2)]), false), ((V.agg [(V.int .i64 b_1_0), (V.str b_1_1), (V.slice 3 31 b_1_2)]), false)] σ by kernel_rfl).trans (sameLevel_eq _ _ a_0_0 a_0_1 a_0_2 b_1_0 b_1_1 b_1_2 σ)
theorem sameLevel_lim {n : Nat} {a_0_0 : Int} {a_0_1 : ByteArray} {a_0_2 : List (List V)} {b_1_0 : Int} {b_1_1 : ByteArray} {b_1_2 : List (List V)} {b0 b1 : Bool} {σ : Sto} {r : Res} (h : sameLevel (lim C) n a_0_0 a_0_1 a_0_2 b_1_0 b_1_1 b_1_2 σ = some r) : lim C 22 [((V.agg [(V.int .i64 a_0_0), (V.str a_0_1), (V.slice 3 31 a_0_2)]), b0), ((V.agg [(V.int .i64 b_1_0), (V.str b_1_1), (V.slice 3 31 b_1_2)]), b1)] σ = some r :=
  lim_of (d := sameLevelD) (by kernel_rfl) (by kernel_rfl) n (show afun C sameLevelD (lim C) n [((V.agg [(V.int .i64 a_0_0), (V.str a_0_1), (V.slice 3 31 a_0_2)]), false), ((V.agg [(V.int .i64 b_1_0), (V.str b_1_1), (V.slice 3 31 b_1_2)]), false)] σ = some r from (sameLevel_eq (lim C) n a_0_0 a_0_1 a_0_2 b_1_0 b_1_1 b_1_2 σ).trans h)
/-! provekernelref.Worth -/
noncomputable def rworthk0 : List Nat := [1, 2, 3, 7]
noncomputable def rworths0 (call : CallF) (rec0 : List (List V) → List (List V) → Int → Int → ByteArray → List (List V) → Sto → Option Res) (params_1 : List (List V)) (ns_2 : List (List V)) (i_7 : Int) (l_3c0 : Int) (l_3c1 : ByteArray) (l_3c2 : List (List V)) (σ : Sto) : Option Res :=
  bif (decide (i_7 < (params_1.length : Int))) then
  (grd (decide (0 ≤ i_7) && decide (i_7 < params_1.length))).bind fun _ =>
  (V.asStr (List.getD (List.getD params_1 (Int.toNat i_7) []) 0 V.any)).bind fun s1 =>
  bif (s1.toList == l_3c1.toList) then
  (grd (decide (0 ≤ i_7) && decide (i_7 < ns_2.length))).bind fun _ =>
  some (.ret [((List.getD (List.getD ns_2 (Int.toNat i_7) []) 0 V.any), false)], σ)
  else
  rec0 params_1 ns_2 (IntKind.wrap .i64 (i_7 + (1 : Int))) l_3c0 l_3c1 l_3c2 σ
  else
  some (.ret [((V.int .i64 (0 : Int)), false)], σ)
noncomputable def rworthl0 (call : CallF) (n : Nat) : Nat → List (List V) → List (List V) → Int → Int → ByteArray → List (List V) → Sto → Option Res
  | 0 => fun _ _ _ _ _ _ _ => none
  | m + 1 => rworths0 call (rworthl0 call n m)
noncomputable def rwortht0 (params_1 : List (List V)) (ns_2 : List (List V)) (i_7 : Int) (l_3c0 : Int) (l_3c1 : ByteArray) (l_3c2 : List (List V)) (σ : Sto) : St := ⟨[.dead, .val (V.slice 1 9 params_1) false, .val (V.slice 1 3 ns_2) false, .lptr 3 0, .dead, .dead, .dead, .val (V.int .i64 i_7) false, .dead, .dead, .dead, .dead, .dead, .dead, .dead, .dead, .dead, .dead, .dead, .dead, .dead, .dead, .dead, .dead, .dead, .dead, .dead, .dead, .dead, .dead, .dead, .dead, .dead, .dead, .dead, .dead, .dead, .dead, .dead, .dead, .dead, .dead, .dead, .dead, .dead, .dead, .dead, .dead, .dead, .dead, .dead, .dead, .dead, .dead, .dead, .dead, .dead, .dead, .dead, .dead, .dead, .dead, .dead, .dead, .dead, .dead, .dead, .dead, .dead], [[], [], [], [((V.int .i64 l_3c0), false), ((V.str l_3c1), false), ((V.slice 3 31 l_3c2), false)], [], [], [], [], [], [], [], [], [], [], [], [], [], [], [], [], [], [], [], [], [], [], [], [], [], [], [], [], [], [], [], [], [], [], [], [], [], [], [], [], [], [], [], [], [], [], [], [], [], [], [], [], [], [], [], [], [], [], [], [], [], [], [], [], []], σ⟩
noncomputable def rworthF (call : CallF) (L0 : List (List V) → List (List V) → Int → Int → ByteArray → List (List V) → Sto → Option Res) (l_0_0 : Int) (l_0_1 : ByteArray) (l_0_2 : List (List V)) (params_1 : List (List V)) (ns_2 : List (List V)) (σ : Sto) : Option Res :=
  bif (l_0_0 == (0 : Int)) then
  some (.ret [((V.int .i64 (0 : Int)), false)], σ)
  else
  bif (l_0_0 == (1 : Int)) then
  (grd (decide (0 ≤ (0 : Int)) && decide ((0 : Int) < l_0_2.length))).bind fun _ =>
  callK call 23 [((V.agg [(List.getD (List.getD l_0_2 (Int.toNat (0 : Int)) []) 0 V.any), (List.getD (List.getD l_0_2 (Int.toNat (0 : Int)) []) 1 V.any), (List.getD (List.getD l_0_2 (Int.toNat (0 : Int)) []) 2 V.any)]), false), ((V.slice 1 9 params_1), false), ((V.slice 1 3 ns_2), false)] σ 1 (fun vs1 σ2 =>
  (V.asInt (List.getD vs1 0 cellD).1 .i64).bind fun i4 =>
  some (.ret [((V.int .i64 (IntKind.wrap .i64 (i4 + (1 : Int)))), false)], σ2)) (fun p3 σ2 => some (.pan p3, σ2))
  else
  bif (l_0_0 == (4 : Int)) then
  L0 params_1 ns_2 (0 : Int) l_0_0 l_0_1 l_0_2 σ
  else
  (grd (decide (0 ≤ (0 : Int)) && decide ((0 : Int) < l_0_2.length))).bind fun _ =>
  callK call 23 [((V.agg [(List.getD (List.getD l_0_2 (Int.toNat (0 : Int)) []) 0 V.any), (List.getD (List.getD l_0_2 (Int.toNat (0 : Int)) []) 1 V.any), (List.getD (List.getD l_0_2 (Int.toNat (0 : Int)) []) 2 V.any)]), false), ((V.slice 1 9 params_1), false), ((V.slice 1 3 ns_2), false)] σ 1 (fun vs5 σ6 =>
  (grd (decide (0 ≤ (1 : Int)) && decide ((1 : Int) < l_0_2.length))).bind fun _ =>
  callK call 23 [((V.agg [(List.getD (List.getD l_0_2 (Int.toNat (1 : Int)) []) 0 V.any), (List.getD (List.getD l_0_2 (Int.toNat (1 : Int)) []) 1 V.any), (List.getD (List.getD l_0_2 (Int.toNat (1 : Int)) []) 2 V.any)]), false), ((V.slice 1 9 params_1), false), ((V.slice 1 3 ns_2), false)] σ6 1 (fun vs8 σ9 =>
  bif (l_0_0 == (3 : Int)) then
  (V.asInt (List.getD vs8 0 cellD).1 .i64).bind fun i11 =>
  bif (i11 == (0 : Int)) then
  some (.ret [((V.int .i64 (0 : Int)), false)], σ9)
  else
  (V.asInt (List.getD vs8 0 cellD).1 .i64).bind fun i12 =>
  (V.asInt (List.getD vs5 0 cellD).1 .i64).bind fun i13 =>
  bif (decide (i12 > i13)) then
  some (.ret [((List.getD vs8 0 cellD).1, false)], σ9)
  else
  some (.ret [((List.getD vs5 0 cellD).1, false)], σ9)
  else
  (V.asInt (List.getD vs8 0 cellD).1 .i64).bind fun i14 =>
  (V.asInt (List.getD vs5 0 cellD).1 .i64).bind fun i15 =>
  bif (decide (i14 > i15)) then
  some (.ret [((List.getD vs8 0 cellD).1, false)], σ9)
  else
  some (.ret [((List.getD vs5 0 cellD).1, false)], σ9)) (fun p10 σ9 => some (.pan p10, σ9))) (fun p7 σ6 => some (.pan p7, σ6))
noncomputable def rworth (call : CallF) (n : Nat) (l_0_0 : Int) (l_0_1 : ByteArray) (l_0_2 : List (List V)) (params_1 : List (List V)) (ns_2 : List (List V)) (σ : Sto) : Option Res := rworthF call (rworthl0 call n n) l_0_0 l_0_1 l_0_2 params_1 ns_2 σ
theorem rworths0_eq (call : CallF) (n : Nat) (F0 : St → Option Res) (params_1 : List (List V)) (ns_2 : List (List V)) (i_7 : Int) (l_3c0 : Int) (l_3c1 : ByteArray) (l_3c2 : List (List V)) (σ : Sto) :
    aexec C rworthH call n (codeL (codeL (codeR (codeL (codeL (codeR (codeR (codeR (codeR (codeR (codeL (codeR (codeL (codeR rworthC)))))))))))))) 0 (rwortht0 params_1 ns_2 i_7 l_3c0 l_3c1 l_3c2 σ) (kloop rworthk0 F0 (kblk 1 (kseq (fun st' => aexec C rworthH call n (codeR (codeL (codeR (codeR (codeR (codeR (codeR (codeL (codeR (codeL (codeR rworthC))))))))))) 0 st' (kblk 0 (kseq (fun st' => aexec C rworthH call n (codeR (codeR rworthC)) 0 st' (kfin C rworthD)) (kfin C rworthD)))) (kblk 0 (kseq (fun st' => aexec C rworthH call n (codeR (codeR rworthC)) 0 st' (kfin C rworthD)) (kfin C rworthD)))))) =
    rworths0 call (fun params_1 ns_2 i_7 l_3c0 l_3c1 l_3c2 σ => F0 (rwortht0 params_1 ns_2 i_7 l_3c0 l_3c1 l_3c2 σ)) params_1 ns_2 i_7 l_3c0 l_3c1 l_3c2 σ := by kernel_rfl
theorem rworthl0_eq (call : CallF) (n : Nat) : ∀ (m : Nat) (params_1 : List (List V)) (ns_2 : List (List V)) (i_7 : Int) (l_3c0 : Int) (l_3c1 : ByteArray) (l_3c2 : List (List V)) (σ : Sto),
    aloop (fun st K => aexec C rworthH call n (codeL (codeL (codeR (codeL (codeL (codeR (codeR (codeR (codeR (codeR (codeL (codeR (codeL (codeR rworthC)))))))))))))) 0 st K) rworthk0 m (rwortht0 params_1 ns_2 i_7 l_3c0 l_3c1 l_3c2 σ) (kblk 1 (kseq (fun st' => aexec C rworthH call n (codeR (codeL (codeR (codeR (codeR (codeR (codeR (codeL (codeR (codeL (codeR rworthC))))))))))) 0 st' (kblk 0 (kseq (fun st' => aexec C rworthH call n (codeR (codeR rworthC)) 0 st' (kfin C rworthD)) (kfin C rworthD)))) (kblk 0 (kseq (fun st' => aexec C rworthH call n (codeR (codeR rworthC)) 0 st' (kfin C rworthD)) (kfin C rworthD))))) = rworthl0 call n m params_1 ns_2 i_7 l_3c0 l_3c1 l_3c2 σ
  | 0, params_1, ns_2, i_7, l_3c0, l_3c1, l_3c2, σ => rfl
  | m + 1, params_1, ns_2, i_7, l_3c0, l_3c1, l_3c2, σ => by
    rw [aloop, rworths0_eq]
    simp only [rworthl0_eq call n m]
    rfl
theorem rworth_eqF (call : CallF) (n : Nat) (l_0_0 : Int) (l_0_1 : ByteArray) (l_0_2 : List (List V)) (params_1 : List (List V)) (ns_2 : List (List V)) (σ : Sto) : afun C rworthD call n [((V.agg [(V.int .i64 l_0_0), (V.str l_0_1), (V.slice 3 31 l_0_2)]), false), ((V.slice 1 9 params_1), false), ((V.slice 1 3 ns_2), false)] σ =
    rworthF call (fun params_1 ns_2 i_7 l_3c0 l_3c1 l_3c2 σ => aloop (fun st K => aexec C rworthH call n (codeL (codeL (codeR (codeL (codeL (codeR (codeR (codeR (codeR (codeR (codeL (codeR (codeL (codeR rworthC)))))))))))))) 0 st K) rworthk0 n (rwortht0 params_1 ns_2 i_7 l_3c0 l_3c1 l_3c2 σ) (kblk 1 (kseq (fun st' => aexec C rworthH call n (codeR (codeL (codeR (codeR (codeR (codeR (codeR (codeL (codeR (codeL (codeR rworthC))))))))))) 0 st' (kblk 0 (kseq (fun st' => aexec C rworthH call n (codeR (codeR rworthC)) 0 st' (kfin C rworthD)) (kfin C rworthD)))) (kblk 0 (kseq (fun st' => aexec C rworthH call n (codeR (codeR rworthC)) 0 st' (kfin C rworthD)) (kfin C rworthD)))))) l_0_0 l_0_1 l_0_2 params_1 ns_2 σ := by kernel_rfl
theorem rworth_eq (call : CallF) (n : Nat) (l_0_0 : Int) (l_0_1 : ByteArray) (l_0_2 : List (List V)) (params_1 : List (List V)) (ns_2 : List (List V)) (σ : Sto) : afun C rworthD call n [((V.agg [(V.int .i64 l_0_0), (V.str l_0_1), (V.slice 3 31 l_0_2)]), false), ((V.slice 1 9 params_1), false), ((V.slice 1 3 ns_2), false)] σ = rworth call n l_0_0 l_0_1 l_0_2 params_1 ns_2 σ := by
  rw [rworth_eqF]
  simp only [rworthl0_eq]
  rfl
theorem rworth_call (n : Nat) (l_0_0 : Int) (l_0_1 : ByteArray) (l_0_2 : List (List V)) (params_1 : List (List V)) (ns_2 : List (List V)) (σ : Sto) : acall C (n + 1) 23 [((V.agg [(V.int .i64 l_0_0), (V.str l_0_1), (V.slice 3 31 l_0_2)]), false), ((V.slice 1 9 params_1), false), ((V.slice 1 3 ns_2), false)] σ = rworth (acall C n) n l_0_0 l_0_1 l_0_2 params_1 ns_2 σ :=
  (show acall C (n + 1) 23 [((V.agg [(V.int .i64 l_0_0), (V.str l_0_1), (V.slice 3 31 l_0_2)]), false), ((V.slice 1 9 params_1), false), ((V.slice 1 3 ns_2), false)] σ = afun C rworthD (acall C n) n [((V.agg [(V.int .i64 l_0_0), (V.str l_0_1), (V.slice 3 31 l_0_2)]), false), ((V.slice 1 9 params_1), false), ((V.slice 1 3 ns_2), false)] σ by kernel_rfl).trans (rworth_eq _ _ l_0_0 l_0_1 l_0_2 params_1 ns_2 σ)
theorem rworth_lim {n : Nat} {l_0_0 : Int} {l_0_1 : ByteArray} {l_0_2 : List (List V)} {params_1 : List (List V)} {ns_2 : List (List V)} {b0 b1 b2 : Bool} {σ : Sto} {r : Res} (h : rworth (lim C) n l_0_0 l_0_1 l_0_2 params_1 ns_2 σ = some r) : lim C 23 [((V.agg [(V.int .i64 l_0_0), (V.str l_0_1), (V.slice 3 31 l_0_2)]), b0), ((V.slice 1 9 params_1), b1), ((V.slice 1 3 ns_2), b2)] σ = some r :=
  lim_of (d := rworthD) (by kernel_rfl) (by kernel_rfl) n (show afun C rworthD (lim C) n [((V.agg [(V.int .i64 l_0_0), (V.str l_0_1), (V.slice 3 31 l_0_2)]), false), ((V.slice 1 9 params_1), false), ((V.slice 1 3 ns_2), false)] σ = some r from (rworth_eq (lim C) n l_0_0 l_0_1 l_0_2 params_1 ns_2 σ).trans h)
/-! provekernelref.Reader).level -/
noncomputable def rlevelF (call : CallF) (r_0 : Nat) (σ : Sto) : Option Res :=
  callK call 41 [((V.ptr 53 r_0 0), false)] σ 3 (fun vs1 σ2 =>
  callK call 42 [((List.getD vs1 0 cellD).1, false)] σ2 1 (fun vs4 σ5 =>
  (memGet σ5 (V.ptr 53 r_0 2) false 1).bind fun m7 =>
  (V.asInt m7 .i64).bind fun i8 =>
  bif (i8 != (0 : Int)) then
  some (.ret [((V.agg [(V.int .i64 (0 : Int)), (V.str (ByteArray.mk #[])), (V.slice 3 31 [])]), false)], σ5)
  else
  (V.asStr (List.getD vs1 0 cellD).1).bind fun s9 =>
  bif (s9.toList == (ByteArray.mk #[48]).toList) then
  callK call 43 [((V.ptr 53 r_0 0), false)] σ5 1 (fun vs10 σ11 =>
  some (.ret [((V.agg [(V.int .i64 (0 : Int)), (V.str (ByteArray.mk #[])), (V.slice 3 31 [])]), false)], σ11)) (fun p12 σ11 => some (.pan p12, σ11))
  else
  (V.asBool (List.getD vs4 0 cellD).1).bind fun b13 =>
  bif b13 then
  callK call 43 [((V.ptr 53 r_0 0), false)] σ5 1 (fun vs14 σ15 =>
  (grd ((V.fits (List.getD vs1 0 cellD).1 false 1 && true))).bind fun _ =>
  some (.ret [((V.agg [(V.int .i64 (4 : Int)), (List.getD vs1 0 cellD).1, (V.slice 3 31 [])]), false)], σ15)) (fun p16 σ15 => some (.pan p16, σ15))
  else
  (V.asStr (List.getD vs1 0 cellD).1).bind fun s17 =>
  bif (s17.toList == (ByteArray.mk #[40]).toList) then
  callK call 43 [((V.ptr 53 r_0 0), false)] σ5 1 (fun vs18 σ19 =>
  callK call 41 [((V.ptr 53 r_0 0), false)] σ19 3 (fun vs21 σ22 =>
  (V.asStr (List.getD vs21 0 cellD).1).bind fun s24 =>
  bif (s24.toList == (ByteArray.mk #[115]).toList) then
  callK call 43 [((V.ptr 53 r_0 0), false)] σ22 1 (fun vs25 σ26 =>
  callK call 25 [((V.ptr 53 r_0 0), false)] σ26 1 (fun vs28 σ29 =>
  (grd ((V.fits (List.getD vs28 0 cellD).1 true 3 && true))).bind fun _ =>
  (grd (room (0 + 1))).bind fun _ =>
  callK call 45 [((V.ptr 53 r_0 0), false), ((V.str (ByteArray.mk #[41])), false)] σ29 0 (fun vs31 σ32 =>
  some (.ret [((V.agg [(V.int .i64 (1 : Int)), (V.str (ByteArray.mk #[])), (V.slice 3 31 [[(V.cell (List.getD vs28 0 cellD).1 0), (V.cell (List.getD vs28 0 cellD).1 1), (V.cell (List.getD vs28 0 cellD).1 2)]])]), false)], σ32)) (fun p33 σ32 => some (.pan p33, σ32))) (fun p30 σ29 => some (.pan p30, σ29))) (fun p27 σ26 => some (.pan p27, σ26))
  else
  (V.asStr (List.getD vs21 0 cellD).1).bind fun s34 =>
  bif (s34.toList == (ByteArray.mk #[109, 97, 120]).toList) then
  callK call 43 [((V.ptr 53 r_0 0), false)] σ22 1 (fun vs35 σ36 =>
  callK call 25 [((V.ptr 53 r_0 0), false)] σ36 1 (fun vs38 σ39 =>
  (grd ((V.fits (List.getD vs38 0 cellD).1 true 3 && true))).bind fun _ =>
  (grd (room (0 + 1))).bind fun _ =>
  callK call 25 [((V.ptr 53 r_0 0), false)] σ39 1 (fun vs41 σ42 =>
  (grd ((V.fits (List.getD vs41 0 cellD).1 true 3 && true))).bind fun _ =>
  (grd (room (1 + 1))).bind fun _ =>
  callK call 45 [((V.ptr 53 r_0 0), false), ((V.str (ByteArray.mk #[41])), false)] σ42 0 (fun vs44 σ45 =>
  some (.ret [((V.agg [(V.int .i64 (2 : Int)), (V.str (ByteArray.mk #[])), (V.slice 3 31 [[(V.cell (List.getD vs38 0 cellD).1 0), (V.cell (List.getD vs38 0 cellD).1 1), (V.cell (List.getD vs38 0 cellD).1 2)], [(V.cell (List.getD vs41 0 cellD).1 0), (V.cell (List.getD vs41 0 cellD).1 1), (V.cell (List.getD vs41 0 cellD).1 2)]])]), false)], σ45)) (fun p46 σ45 => some (.pan p46, σ45))) (fun p43 σ42 => some (.pan p43, σ42))) (fun p40 σ39 => some (.pan p40, σ39))) (fun p37 σ36 => some (.pan p37, σ36))
  else
  (V.asStr (List.getD vs21 0 cellD).1).bind fun s47 =>
  bif (s47.toList == (ByteArray.mk #[105, 109, 97, 120]).toList) then
  callK call 43 [((V.ptr 53 r_0 0), false)] σ22 1 (fun vs48 σ49 =>
  callK call 25 [((V.ptr 53 r_0 0), false)] σ49 1 (fun vs51 σ52 =>
  (grd ((V.fits (List.getD vs51 0 cellD).1 true 3 && true))).bind fun _ =>
  (grd (room (0 + 1))).bind fun _ =>
  callK call 25 [((V.ptr 53 r_0 0), false)] σ52 1 (fun vs54 σ55 =>
  (grd ((V.fits (List.getD vs54 0 cellD).1 true 3 && true))).bind fun _ =>
  (grd (room (1 + 1))).bind fun _ =>
  callK call 45 [((V.ptr 53 r_0 0), false), ((V.str (ByteArray.mk #[41])), false)] σ55 0 (fun vs57 σ58 =>
  some (.ret [((V.agg [(V.int .i64 (3 : Int)), (V.str (ByteArray.mk #[])), (V.slice 3 31 [[(V.cell (List.getD vs51 0 cellD).1 0), (V.cell (List.getD vs51 0 cellD).1 1), (V.cell (List.getD vs51 0 cellD).1 2)], [(V.cell (List.getD vs54 0 cellD).1 0), (V.cell (List.getD vs54 0 cellD).1 1), (V.cell (List.getD vs54 0 cellD).1 2)]])]), false)], σ58)) (fun p59 σ58 => some (.pan p59, σ58))) (fun p56 σ55 => some (.pan p56, σ55))) (fun p53 σ52 => some (.pan p53, σ52))) (fun p50 σ49 => some (.pan p50, σ49))
  else
  callK call 44 [((V.ptr 53 r_0 0), false), ((List.getD vs21 1 cellD).1, false)] σ22 0 (fun vs60 σ61 =>
  some (.ret [((V.agg [(V.int .i64 (0 : Int)), (V.str (ByteArray.mk #[])), (V.slice 3 31 [])]), false)], σ61)) (fun p62 σ61 => some (.pan p62, σ61))) (fun p23 σ22 => some (.pan p23, σ22))) (fun p20 σ19 => some (.pan p20, σ19))
  else
  callK call 44 [((V.ptr 53 r_0 0), false), ((List.getD vs1 1 cellD).1, false)] σ5 0 (fun vs63 σ64 =>
  some (.ret [((V.agg [(V.int .i64 (0 : Int)), (V.str (ByteArray.mk #[])), (V.slice 3 31 [])]), false)], σ64)) (fun p65 σ64 => some (.pan p65, σ64))) (fun p6 σ5 => some (.pan p6, σ5))) (fun p3 σ2 => some (.pan p3, σ2))
noncomputable def rlevel (call : CallF) (n : Nat) (r_0 : Nat) (σ : Sto) : Option Res := rlevelF call r_0 σ
theorem rlevel_eqF (call : CallF) (n : Nat) (r_0 : Nat) (σ : Sto) : afun C rlevelD call n [((V.ptr 53 r_0 0), false)] σ =
    rlevelF call r_0 σ := by kernel_rfl
theorem rlevel_eq (call : CallF) (n : Nat) (r_0 : Nat) (σ : Sto) : afun C rlevelD call n [((V.ptr 53 r_0 0), false)] σ = rlevel call n r_0 σ := rlevel_eqF call n r_0 σ
theorem rlevel_call (n : Nat) (r_0 : Nat) (σ : Sto) : acall C (n + 1) 25 [((V.ptr 53 r_0 0), false)] σ = rlevel (acall C n) n r_0 σ :=
  (show acall C (n + 1) 25 [((V.ptr 53 r_0 0), false)] σ = afun C rlevelD (acall C n) n [((V.ptr 53 r_0 0), false)] σ by kernel_rfl).trans (rlevel_eq _ _ r_0 σ)
theorem rlevel_lim {n : Nat} {r_0 : Nat} {b0 : Bool} {σ : Sto} {r : Res} (h : rlevel (lim C) n r_0 σ = some r) : lim C 25 [((V.ptr 53 r_0 0), b0)] σ = some r :=
  lim_of (d := rlevelD) (by kernel_rfl) (by kernel_rfl) n (show afun C rlevelD (lim C) n [((V.ptr 53 r_0 0), false)] σ = some r from (rlevel_eq (lim C) n r_0 σ).trans h)
/-! provekernelref.Reader).done -/
noncomputable def rdoneF (call : CallF) (r_0 : Nat) (σ : Sto) : Option Res :=
  callK call 41 [((V.ptr 53 r_0 0), false)] σ 3 (fun vs1 σ2 =>
  (V.asBool (List.getD vs1 2 cellD).1).bind fun b4 =>
  bif (!b4) then
  callK call 44 [((V.ptr 53 r_0 0), false), ((List.getD vs1 1 cellD).1, false)] σ2 0 (fun vs5 σ6 =>
  (memGet σ6 (V.ptr 53 r_0 2) true 2).bind fun m8 =>
  (grd (V.fits m8 true 2)).bind fun _ =>
  some (.ret [((V.agg [(V.cell m8 0), (V.cell m8 1)]), false)], σ6)) (fun p7 σ6 => some (.pan p7, σ6))
  else
  (V.asStr (List.getD vs1 0 cellD).1).bind fun s9 =>
  bif (!(s9.toList == (ByteArray.mk #[]).toList)) then
  callK call 44 [((V.ptr 53 r_0 0), false), ((List.getD vs1 1 cellD).1, false)] σ2 0 (fun vs10 σ11 =>
  (memGet σ11 (V.ptr 53 r_0 2) true 2).bind fun m13 =>
  (grd (V.fits m13 true 2)).bind fun _ =>
  some (.ret [((V.agg [(V.cell m13 0), (V.cell m13 1)]), false)], σ11)) (fun p12 σ11 => some (.pan p12, σ11))
  else
  (memGet σ2 (V.ptr 53 r_0 2) true 2).bind fun m14 =>
  (grd (V.fits m14 true 2)).bind fun _ =>
  some (.ret [((V.agg [(V.cell m14 0), (V.cell m14 1)]), false)], σ2)) (fun p3 σ2 => some (.pan p3, σ2))
noncomputable def rdone (call : CallF) (n : Nat) (r_0 : Nat) (σ : Sto) : Option Res := rdoneF call r_0 σ
theorem rdone_eqF (call : CallF) (n : Nat) (r_0 : Nat) (σ : Sto) : afun C rdoneD call n [((V.ptr 53 r_0 0), false)] σ =
    rdoneF call r_0 σ := by kernel_rfl
theorem rdone_eq (call : CallF) (n : Nat) (r_0 : Nat) (σ : Sto) : afun C rdoneD call n [((V.ptr 53 r_0 0), false)] σ = rdone call n r_0 σ := rdone_eqF call n r_0 σ
theorem rdone_call (n : Nat) (r_0 : Nat) (σ : Sto) : acall C (n + 1) 26 [((V.ptr 53 r_0 0), false)] σ = rdone (acall C n) n r_0 σ :=
  (show acall C (n + 1) 26 [((V.ptr 53 r_0 0), false)] σ = afun C rdoneD (acall C n) n [((V.ptr 53 r_0 0), false)] σ by kernel_rfl).trans (rdone_eq _ _ r_0 σ)
theorem rdone_lim {n : Nat} {r_0 : Nat} {b0 : Bool} {σ : Sto} {r : Res} (h : rdone (lim C) n r_0 σ = some r) : lim C 26 [((V.ptr 53 r_0 0), b0)] σ = some r :=
  lim_of (d := rdoneD) (by kernel_rfl) (by kernel_rfl) n (show afun C rdoneD (lim C) n [((V.ptr 53 r_0 0), false)] σ = some r from (rdone_eq (lim C) n r_0 σ).trans h)
/-! provekernelref.among -/
noncomputable def amongk0 : List Nat := [0, 1, 5]
noncomputable def amongs0 (call : CallF) (rec0 : ByteArray → List (List V) → Int → Sto → Option Res) (name_0 : ByteArray) (l_1 : List (List V)) (i_5 : Int) (σ : Sto) : Option Res :=
  bif (decide (i_5 < (l_1.length : Int))) then
  (grd (decide (0 ≤ i_5) && decide (i_5 < l_1.length))).bind fun _ =>
  (V.asStr (List.getD (List.getD l_1 (Int.toNat i_5) []) 0 V.any)).bind fun s1 =>
  bif (s1.toList == name_0.toList) then
  some (.ret [((V.bool true), false)], σ)
  else
  rec0 name_0 l_1 (IntKind.wrap .i64 (i_5 + (1 : Int))) σ
  else
  some (.ret [((V.bool false), false)], σ)
noncomputable def amongl0 (call : CallF) (n : Nat) : Nat → ByteArray → List (List V) → Int → Sto → Option Res
  | 0 => fun _ _ _ _ => none
  | m + 1 => amongs0 call (amongl0 call n m)
noncomputable def amongt0 (name_0 : ByteArray) (l_1 : List (List V)) (i_5 : Int) (σ : Sto) : St := ⟨[.val (V.str name_0) false, .val (V.slice 1 9 l_1) false, .dead, .dead, .dead, .val (V.int .i64 i_5) false, .dead, .dead, .dead, .dead, .dead, .dead, .dead, .dead, .dead, .dead, .dead, .dead], [[], [], [], [], [], [], [], [], [], [], [], [], [], [], [], [], [], []], σ⟩
noncomputable def amongF (call : CallF) (L0 : ByteArray → List (List V) → Int → Sto → Option Res) (name_0 : ByteArray) (l_1 : List (List V)) (σ : Sto) : Option Res :=
  L0 name_0 l_1 (0 : Int) σ
noncomputable def among (call : CallF) (n : Nat) (name_0 : ByteArray) (l_1 : List (List V)) (σ : Sto) : Option Res := amongF call (amongl0 call n n) name_0 l_1 σ
theorem amongs0_eq (call : CallF) (n : Nat) (F0 : St → Option Res) (name_0 : ByteArray) (l_1 : List (List V)) (i_5 : Int) (σ : Sto) :
    aexec C amongH call n (codeL (codeL (codeR (codeL (codeR amongC))))) 0 (amongt0 name_0 l_1 i_5 σ) (kloop amongk0 F0 (kblk 0 (kseq (fun st' => aexec C amongH call n (codeR (codeR amongC)) 0 st' (kfin C amongD)) (kfin C amongD)))) =
    amongs0 call (fun name_0 l_1 i_5 σ => F0 (amongt0 name_0 l_1 i_5 σ)) name_0 l_1 i_5 σ := by kernel_rfl
theorem amongl0_eq (call : CallF) (n : Nat) : ∀ (m : Nat) (name_0 : ByteArray) (l_1 : List (List V)) (i_5 : Int) (σ : Sto),
    aloop (fun st K => aexec C amongH call n (codeL (codeL (codeR (codeL (codeR amongC))))) 0 st K) amongk0 m (amongt0 name_0 l_1 i_5 σ) (kblk 0 (kseq (fun st' => aexec C amongH call n (codeR (codeR amongC)) 0 st' (kfin C amongD)) (kfin C amongD))) = amongl0 call n m name_0 l_1 i_5 σ
  | 0, name_0, l_1, i_5, σ => rfl
  | m + 1, name_0, l_1, i_5, σ => by
    rw [aloop, amongs0_eq]
    simp only [amongl0_eq call n m]
    rfl
theorem among_eqF (call : CallF) (n : Nat) (name_0 : ByteArray) (l_1 : List (List V)) (σ : Sto) : afun C amongD call n [((V.str name_0), false), ((V.slice 1 9 l_1), false)] σ =
    amongF call (fun name_0 l_1 i_5 σ => aloop (fun st K => aexec C amongH call n (codeL (codeL (codeR (codeL (codeR amongC))))) 0 st K) amongk0 n (amongt0 name_0 l_1 i_5 σ) (kblk 0 (kseq (fun st' => aexec C amongH call n (codeR (codeR amongC)) 0 st' (kfin C amongD)) (kfin C amongD)))) name_0 l_1 σ := by kernel_rfl
theorem among_eq (call : CallF) (n : Nat) (name_0 : ByteArray) (l_1 : List (List V)) (σ : Sto) : afun C amongD call n [((V.str name_0), false), ((V.slice 1 9 l_1), false)] σ = among call n name_0 l_1 σ := by
  rw [among_eqF]
  simp only [amongl0_eq]
  rfl
theorem among_call (n : Nat) (name_0 : ByteArray) (l_1 : List (List V)) (σ : Sto) : acall C (n + 1) 27 [((V.str name_0), false), ((V.slice 1 9 l_1), false)] σ = among (acall C n) n name_0 l_1 σ :=
  (show acall C (n + 1) 27 [((V.str name_0), false), ((V.slice 1 9 l_1), false)] σ = afun C amongD (acall C n) n [((V.str name_0), false), ((V.slice 1 9 l_1), false)] σ by kernel_rfl).trans (among_eq _ _ name_0 l_1 σ)
theorem among_lim {n : Nat} {name_0 : ByteArray} {l_1 : List (List V)} {b0 b1 : Bool} {σ : Sto} {r : Res} (h : among (lim C) n name_0 l_1 σ = some r) : lim C 27 [((V.str name_0), b0), ((V.slice 1 9 l_1), b1)] σ = some r :=
  lim_of (d := amongD) (by kernel_rfl) (by kernel_rfl) n (show afun C amongD (lim C) n [((V.str name_0), false), ((V.slice 1 9 l_1), false)] σ = some r from (among_eq (lim C) n name_0 l_1 σ).trans h)
/-! slices.Index[[]string,string] -/
noncomputable def indexk0 : List Nat := [0, 1, 7, 8]
noncomputable def indexs0 (call : CallF) (rec0 : List (List V) → ByteArray → Int → Int → Sto → Option Res) (s_0 : List (List V)) (v_1 : ByteArray) (t_7 : Int) (t_8 : Int) (σ : Sto) : Option Res :=
  bif (decide (t_8 < t_7)) then
  (grd (decide (0 ≤ t_8) && decide (t_8 < s_0.length))).bind fun _ =>
  (V.asStr (List.getD (List.getD s_0 (Int.toNat t_8) []) 0 V.any)).bind fun s1 =>
  bif (v_1.toList == s1.toList) then
  some (.ret [((V.int .i64 t_8), false)], σ)
  else
  rec0 s_0 v_1 t_7 (IntKind.wrap .i64 (t_8 + (1 : Int))) σ
  else
  some (.ret [((V.int .i64 (-1 : Int)), false)], σ)
noncomputable def indexl0 (call : CallF) (n : Nat) : Nat → List (List V) → ByteArray → Int → Int → Sto → Option Res
  | 0 => fun _ _ _ _ _ => none
  | m + 1 => indexs0 call (indexl0 call n m)
noncomputable def indext0 (s_0 : List (List V)) (v_1 : ByteArray) (t_7 : Int) (t_8 : Int) (σ : Sto) : St := ⟨[.val (V.slice 1 9 s_0) false, .val (V.str v_1) false, .dead, .dead, .dead, .dead, .dead, .val (V.int .i64 t_7) false, .val (V.int .i64 t_8) false, .dead, .dead, .dead, .dead, .dead, .dead, .dead, .dead, .dead, .dead], [[], [], [], [], [], [], [], [], [], [], [], [], [], [], [], [], [], [], []], σ⟩
noncomputable def indexF (call : CallF) (L0 : List (List V) → ByteArray → Int → Int → Sto → Option Res) (s_0 : List (List V)) (v_1 : ByteArray) (σ : Sto) : Option Res :=
  L0 s_0 v_1 (s_0.length : Int) (0 : Int) σ
noncomputable def index (call : CallF) (n : Nat) (s_0 : List (List V)) (v_1 : ByteArray) (σ : Sto) : Option Res := indexF call (indexl0 call n n) s_0 v_1 σ
theorem indexs0_eq (call : CallF) (n : Nat) (F0 : St → Option Res) (s_0 : List (List V)) (v_1 : ByteArray) (t_7 : Int) (t_8 : Int) (σ : Sto) :
    aexec C indexH call n (codeL (codeL (codeR (codeL (codeR indexC))))) 0 (indext0 s_0 v_1 t_7 t_8 σ) (kloop indexk0 F0 (kblk 0 (kseq (fun st' => aexec C indexH call n (codeR (codeR indexC)) 0 st' (kfin C indexD)) (kfin C indexD)))) =
    indexs0 call (fun s_0 v_1 t_7 t_8 σ => F0 (indext0 s_0 v_1 t_7 t_8 σ)) s_0 v_1 t_7 t_8 σ := by kernel_rfl
theorem indexl0_eq (call : CallF) (n : Nat) : ∀ (m : Nat) (s_0 : List (List V)) (v_1 : ByteArray) (t_7 : Int) (t_8 : Int) (σ : Sto),
    aloop (fun st K => aexec C indexH call n (codeL (codeL (codeR (codeL (codeR indexC))))) 0 st K) indexk0 m (indext0 s_0 v_1 t_7 t_8 σ) (kblk 0 (kseq (fun st' => aexec C indexH call n (codeR (codeR indexC)) 0 st' (kfin C indexD)) (kfin C indexD))) = indexl0 call n m s_0 v_1 t_7 t_8 σ
  | 0, s_0, v_1, t_7, t_8, σ => rfl
  | m + 1, s_0, v_1, t_7, t_8, σ => by
    rw [aloop, indexs0_eq]
    simp only [indexl0_eq call n m]
    rfl
theorem index_eqF (call : CallF) (n : Nat) (s_0 : List (List V)) (v_1 : ByteArray) (σ : Sto) : afun C indexD call n [((V.slice 1 9 s_0), false), ((V.str v_1), false)] σ =
    indexF call (fun s_0 v_1 t_7 t_8 σ => aloop (fun st K => aexec C indexH call n (codeL (codeL (codeR (codeL (codeR indexC))))) 0 st K) indexk0 n (indext0 s_0 v_1 t_7 t_8 σ) (kblk 0 (kseq (fun st' => aexec C indexH call n (codeR (codeR indexC)) 0 st' (kfin C indexD)) (kfin C indexD)))) s_0 v_1 σ := by kernel_rfl
theorem index_eq (call : CallF) (n : Nat) (s_0 : List (List V)) (v_1 : ByteArray) (σ : Sto) : afun C indexD call n [((V.slice 1 9 s_0), false), ((V.str v_1), false)] σ = index call n s_0 v_1 σ := by
  rw [index_eqF]
  simp only [indexl0_eq]
  rfl
theorem index_call (n : Nat) (s_0 : List (List V)) (v_1 : ByteArray) (σ : Sto) : acall C (n + 1) 28 [((V.slice 1 9 s_0), false), ((V.str v_1), false)] σ = index (acall C n) n s_0 v_1 σ :=
  (show acall C (n + 1) 28 [((V.slice 1 9 s_0), false), ((V.str v_1), false)] σ = afun C indexD (acall C n) n [((V.slice 1 9 s_0), false), ((V.str v_1), false)] σ by kernel_rfl).trans (index_eq _ _ s_0 v_1 σ)
theorem index_lim {n : Nat} {s_0 : List (List V)} {v_1 : ByteArray} {b0 b1 : Bool} {σ : Sto} {r : Res} (h : index (lim C) n s_0 v_1 σ = some r) : lim C 28 [((V.slice 1 9 s_0), b0), ((V.str v_1), b1)] σ = some r :=
  lim_of (d := indexD) (by kernel_rfl) (by kernel_rfl) n (show afun C indexD (lim C) n [((V.slice 1 9 s_0), false), ((V.str v_1), false)] σ = some r from (index_eq (lim C) n s_0 v_1 σ).trans h)
/-! level.each -/
noncomputable def eachk0 : List Nat := [1, 14, 15, 16]
noncomputable def eachs0 (call : CallF) (rec0 : V → List (List V) → Int → Int → Sto → Option Res) (f_1 : V) (t_14 : List (List V)) (t_15 : Int) (t_16 : Int) (σ : Sto) : Option Res :=
  bif (decide (t_16 < t_15)) then
  (grd (decide (0 ≤ t_16) && decide (t_16 < t_14.length))).bind fun _ =>
  callK call 37 [((V.agg [(List.getD (List.getD t_14 (Int.toNat t_16) []) 0 V.any), (List.getD (List.getD t_14 (Int.toNat t_16) []) 1 V.any), (List.getD (List.getD t_14 (Int.toNat t_16) []) 2 V.any)]), false), (f_1, false)] σ 0 (fun vs1 σ2 =>
  rec0 f_1 t_14 t_15 (IntKind.wrap .i64 (t_16 + (1 : Int))) σ2) (fun p3 σ2 => some (.pan p3, σ2))
  else
  some (.ret [], σ)
noncomputable def eachl0 (call : CallF) (n : Nat) : Nat → V → List (List V) → Int → Int → Sto → Option Res
  | 0 => fun _ _ _ _ _ => none
  | m + 1 => eachs0 call (eachl0 call n m)
noncomputable def eacht0 (f_1 : V) (t_14 : List (List V)) (t_15 : Int) (t_16 : Int) (σ : Sto) : St := ⟨[.dead, .val f_1 false, .dead, .dead, .dead, .dead, .dead, .dead, .dead, .dead, .dead, .dead, .dead, .dead, .val (V.slice 3 31 t_14) false, .val (V.int .i64 t_15) false, .val (V.int .i64 t_16) false, .dead, .dead, .dead, .dead, .dead, .dead, .dead], [[], [], [], [], [], [], [], [], [], [], [], [], [], [], [], [], [], [], [], [], [], [], [], []], σ⟩
noncomputable def eachF (call : CallF) (L0 : V → List (List V) → Int → Int → Sto → Option Res) (l_0_0 : Int) (l_0_1 : ByteArray) (l_0_2 : List (List V)) (f_1 : V) (σ : Sto) : Option Res :=
  bif (l_0_0 == (4 : Int)) then
  (V.asFunc f_1).bind fun fn1 =>
  callK call fn1.1 (fn1.2.1.map (fun v => (v, false)) ++ [((V.str l_0_1), false)] ++ fn1.2.2.map fun v => (v, false)) σ 0 (fun vs2 σ3 =>
  L0 f_1 l_0_2 (l_0_2.length : Int) (0 : Int) σ3) (fun p4 σ3 => some (.pan p4, σ3))
  else
  L0 f_1 l_0_2 (l_0_2.length : Int) (0 : Int) σ
noncomputable def each (call : CallF) (n : Nat) (l_0_0 : Int) (l_0_1 : ByteArray) (l_0_2 : List (List V)) (f_1 : V) (σ : Sto) : Option Res := eachF call (eachl0 call n n) l_0_0 l_0_1 l_0_2 f_1 σ
theorem eachs0_eq (call : CallF) (n : Nat) (F0 : St → Option Res) (f_1 : V) (t_14 : List (List V)) (t_15 : Int) (t_16 : Int) (σ : Sto) :
    aexec C eachH call n (codeL (codeL (codeR (codeR (codeR eachC))))) 0 (eacht0 f_1 t_14 t_15 t_16 σ) (kloop eachk0 F0 (kblk 0 (kfin C eachD))) =
    eachs0 call (fun f_1 t_14 t_15 t_16 σ => F0 (eacht0 f_1 t_14 t_15 t_16 σ)) f_1 t_14 t_15 t_16 σ := by kernel_rfl
theorem eachl0_eq (call : CallF) (n : Nat) : ∀ (m : Nat) (f_1 : V) (t_14 : List (List V)) (t_15 : Int) (t_16 : Int) (σ : Sto),
    aloop (fun st K => aexec C eachH call n (codeL (codeL (codeR (codeR (codeR eachC))))) 0 st K) eachk0 m (eacht0 f_1 t_14 t_15 t_16 σ) (kblk 0 (kfin C eachD)) = eachl0 call n m f_1 t_14 t_15 t_16 σ
  | 0, f_1, t_14, t_15, t_16, σ => rfl
  | m + 1, f_1, t_14, t_15, t_16, σ => by
    rw [aloop, eachs0_eq]
    simp only [eachl0_eq call n m]
    rfl
theorem each_eqF (call : CallF) (n : Nat) (l_0_0 : Int) (l_0_1 : ByteArray) (l_0_2 : List (List V)) (f_1 : V) (σ : Sto) : afun C eachD call n [((V.agg [(V.int .i64 l_0_0), (V.str l_0_1), (V.slice 3 31 l_0_2)]), false), (f_1, false)] σ =
    eachF call (fun f_1 t_14 t_15 t_16 σ => aloop (fun st K => aexec C eachH call n (codeL (codeL (codeR (codeR (codeR eachC))))) 0 st K) eachk0 n (eacht0 f_1 t_14 t_15 t_16 σ) (kblk 0 (kfin C eachD))) l_0_0 l_0_1 l_0_2 f_1 σ := by kernel_rfl
theorem each_eq (call : CallF) (n : Nat) (l_0_0 : Int) (l_0_1 : ByteArray) (l_0_2 : List (List V)) (f_1 : V) (σ : Sto) : afun C eachD call n [((V.agg [(V.int .i64 l_0_0), (V.str l_0_1), (V.slice 3 31 l_0_2)]), false), (f_1, false)] σ = each call n l_0_0 l_0_1 l_0_2 f_1 σ := by
  rw [each_eqF]
  simp only [eachl0_eq]
  rfl
theorem each_call (n : Nat) (l_0_0 : Int) (l_0_1 : ByteArray) (l_0_2 : List (List V)) (f_1 : V) (σ : Sto) : acall C (n + 1) 37 [((V.agg [(V.int .i64 l_0_0), (V.str l_0_1), (V.slice 3 31 l_0_2)]), false), (f_1, false)] σ = each (acall C n) n l_0_0 l_0_1 l_0_2 f_1 σ :=
  (show acall C (n + 1) 37 [((V.agg [(V.int .i64 l_0_0), (V.str l_0_1), (V.slice 3 31 l_0_2)]), false), (f_1, false)] σ = afun C eachD (acall C n) n [((V.agg [(V.int .i64 l_0_0), (V.str l_0_1), (V.slice 3 31 l_0_2)]), false), (f_1, false)] σ by kernel_rfl).trans (each_eq _ _ l_0_0 l_0_1 l_0_2 f_1 σ)
theorem each_lim {n : Nat} {l_0_0 : Int} {l_0_1 : ByteArray} {l_0_2 : List (List V)} {f_1 : V} {b0 b1 : Bool} {σ : Sto} {r : Res} (h : each (lim C) n l_0_0 l_0_1 l_0_2 f_1 σ = some r) : lim C 37 [((V.agg [(V.int .i64 l_0_0), (V.str l_0_1), (V.slice 3 31 l_0_2)]), b0), (f_1, b1)] σ = some r :=
  lim_of (d := eachD) (by kernel_rfl) (by kernel_rfl) n (show afun C eachD (lim C) n [((V.agg [(V.int .i64 l_0_0), (V.str l_0_1), (V.slice 3 31 l_0_2)]), false), (f_1, false)] σ = some r from (each_eq (lim C) n l_0_0 l_0_1 l_0_2 f_1 σ).trans h)
/-! level.Params$1 -/
noncomputable def params1F (call : CallF) (p_0 : ByteArray) (c_1 : Nat) (σ : Sto) : Option Res :=
  (memGet σ (V.ptr 36 c_1 0) false 1).bind fun m1 =>
  callK call 39 [(m1, false), ((V.str p_0), false)] σ 1 (fun vs2 σ3 =>
  (V.asBool (List.getD vs2 0 cellD).1).bind fun b5 =>
  bif (!b5) then
  (memTake σ3 (V.ptr 36 c_1 0)).bind fun m6 =>
  (V.asSlice m6.1 1 9).bind fun l7 =>
  (grd (room (List.length l7 + 1))).bind fun _ =>
  (memSet m6.2 (V.ptr 36 c_1 0) [((V.slice 1 9 (l7 ++ [[(V.str p_0)]])), true)]).bind fun m8 =>
  some (.ret [], m8)
  else
  some (.ret [], σ3)) (fun p4 σ3 => some (.pan p4, σ3))
noncomputable def params1 (call : CallF) (n : Nat) (p_0 : ByteArray) (c_1 : Nat) (σ : Sto) : Option Res := params1F call p_0 c_1 σ
theorem params1_eqF (call : CallF) (n : Nat) (p_0 : ByteArray) (c_1 : Nat) (σ : Sto) : afun C params1D call n [((V.str p_0), false), ((V.ptr 36 c_1 0), false)] σ =
    params1F call p_0 c_1 σ := by kernel_rfl
theorem params1_eq (call : CallF) (n : Nat) (p_0 : ByteArray) (c_1 : Nat) (σ : Sto) : afun C params1D call n [((V.str p_0), false), ((V.ptr 36 c_1 0), false)] σ = params1 call n p_0 c_1 σ := params1_eqF call n p_0 c_1 σ
theorem params1_call (n : Nat) (p_0 : ByteArray) (c_1 : Nat) (σ : Sto) : acall C (n + 1) 38 [((V.str p_0), false), ((V.ptr 36 c_1 0), false)] σ = params1 (acall C n) n p_0 c_1 σ :=
  (show acall C (n + 1) 38 [((V.str p_0), false), ((V.ptr 36 c_1 0), false)] σ = afun C params1D (acall C n) n [((V.str p_0), false), ((V.ptr 36 c_1 0), false)] σ by kernel_rfl).trans (params1_eq _ _ p_0 c_1 σ)
theorem params1_lim {n : Nat} {p_0 : ByteArray} {c_1 : Nat} {b0 b1 : Bool} {σ : Sto} {r : Res} (h : params1 (lim C) n p_0 c_1 σ = some r) : lim C 38 [((V.str p_0), b0), ((V.ptr 36 c_1 0), b1)] σ = some r :=
  lim_of (d := params1D) (by kernel_rfl) (by kernel_rfl) n (show afun C params1D (lim C) n [((V.str p_0), false), ((V.ptr 36 c_1 0), false)] σ = some r from (params1_eq (lim C) n p_0 c_1 σ).trans h)
/-! slices.Contains[[]string,string] -/
noncomputable def containsF (call : CallF) (s_0 : List (List V)) (v_1 : ByteArray) (σ : Sto) : Option Res :=
  callK call 28 [((V.slice 1 9 s_0), false), ((V.str v_1), false)] σ 1 (fun vs1 σ2 =>
  (V.asInt (List.getD vs1 0 cellD).1 .i64).bind fun i4 =>
  some (.ret [((V.bool (decide (i4 ≥ (0 : Int)))), false)], σ2)) (fun p3 σ2 => some (.pan p3, σ2))
noncomputable def contains (call : CallF) (n : Nat) (s_0 : List (List V)) (v_1 : ByteArray) (σ : Sto) : Option Res := containsF call s_0 v_1 σ
theorem contains_eqF (call : CallF) (n : Nat) (s_0 : List (List V)) (v_1 : ByteArray) (σ : Sto) : afun C containsD call n [((V.slice 1 9 s_0), false), ((V.str v_1), false)] σ =
    containsF call s_0 v_1 σ := by kernel_rfl
theorem contains_eq (call : CallF) (n : Nat) (s_0 : List (List V)) (v_1 : ByteArray) (σ : Sto) : afun C containsD call n [((V.slice 1 9 s_0), false), ((V.str v_1), false)] σ = contains call n s_0 v_1 σ := contains_eqF call n s_0 v_1 σ
theorem contains_call (n : Nat) (s_0 : List (List V)) (v_1 : ByteArray) (σ : Sto) : acall C (n + 1) 39 [((V.slice 1 9 s_0), false), ((V.str v_1), false)] σ = contains (acall C n) n s_0 v_1 σ :=
  (show acall C (n + 1) 39 [((V.slice 1 9 s_0), false), ((V.str v_1), false)] σ = afun C containsD (acall C n) n [((V.slice 1 9 s_0), false), ((V.str v_1), false)] σ by kernel_rfl).trans (contains_eq _ _ s_0 v_1 σ)
theorem contains_lim {n : Nat} {s_0 : List (List V)} {v_1 : ByteArray} {b0 b1 : Bool} {σ : Sto} {r : Res} (h : contains (lim C) n s_0 v_1 σ = some r) : lim C 39 [((V.slice 1 9 s_0), b0), ((V.str v_1), b1)] σ = some r :=
  lim_of (d := containsD) (by kernel_rfl) (by kernel_rfl) n (show afun C containsD (lim C) n [((V.slice 1 9 s_0), false), ((V.str v_1), false)] σ = some r from (contains_eq (lim C) n s_0 v_1 σ).trans h)
end Go.Ab.Mk
