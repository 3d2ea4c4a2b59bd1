/- AbMq1: printed by program: functions of the program, their code told as plain Lean, and the equations. -/
import Derived.Test.YtcpdcpgblcapeaaDoorAbMq0
set_option linter.unusedSimpArgs false
set_option linter.unusedVariables false
set_option linter.deprecated false
set_option maxRecDepth 100000
namespace Go.Ab.Mq
open Go.Proofs Go.Ab
/-! provekernellaw.LevelParses -/
noncomputable def levelParsesk0 : List Nat := [0, 3]
noncomputable def levelParsess0 (call : CallF) (rec0 : List (List V) → Int → Sto → Option Res) (script_0 : List (List V)) (i_3 : Int) (σ : Sto) : Option Res :=
  bif (decide (i_3 < (script_0.length : Int))) then
  bif (decide (i_3 < (1152921504606846976 : Int))) then
  (grd (decide (0 ≤ i_3) && decide (i_3 < script_0.length))).bind fun _ =>
  callK call 7 [((List.getD (List.getD script_0 (Int.toNat i_3) []) 1 V.any), false)] σ 1 (fun vs1 σ2 =>
  (grd (decide (0 ≤ i_3) && decide (i_3 < script_0.length))).bind fun _ =>
  callK call 7 [((List.getD (List.getD script_0 (Int.toNat i_3) []) 2 V.any), false)] σ2 1 (fun vs4 σ5 =>
  (V.asBool (List.getD vs1 0 cellD).1).bind fun b7 =>
  bif (!b7) then
  some (.ret [((V.bool false), false)], σ5)
  else
  (V.asBool (List.getD vs4 0 cellD).1).bind fun b8 =>
  bif (!b8) then
  some (.ret [((V.bool false), false)], σ5)
  else
  rec0 script_0 (IntKind.wrap .i64 (i_3 + (1 : Int))) σ5) (fun p6 σ5 => some (.pan p6, σ5))) (fun p3 σ2 => some (.pan p3, σ2))
  else
  some (.ret [((V.bool true), false)], σ)
  else
  some (.ret [((V.bool true), false)], σ)
noncomputable def levelParsesl0 (call : CallF) (n : Nat) : Nat → List (List V) → Int → Sto → Option Res
  | 0 => fun _ _ _ => none
  | m + 1 => levelParsess0 call (levelParsesl0 call n m)
noncomputable def levelParsest0 (script_0 : List (List V)) (i_3 : Int) (σ : Sto) : St := ⟨[.val (V.slice 6 25 script_0) false, .dead, .dead, .val (V.int .i64 i_3) false, .dead, .dead, .dead, .dead, .dead, .dead, .dead, .dead, .dead, .dead, .dead, .dead, .dead, .dead, .dead, .dead, .dead, .dead, .dead, .dead, .dead, .dead, .dead, .dead, .dead, .dead, .dead, .dead, .dead, .dead], [[], [], [], [], [], [], [], [], [], [], [], [], [], [], [], [], [], [], [], [], [], [], [], [], [], [], [], [], [], [], [], [], [], []], σ⟩
noncomputable def levelParsesF (call : CallF) (L0 : List (List V) → Int → Sto → Option Res) (script_0 : List (List V)) (σ : Sto) : Option Res :=
  L0 script_0 (0 : Int) σ
noncomputable def levelParses (call : CallF) (n : Nat) (script_0 : List (List V)) (σ : Sto) : Option Res := levelParsesF call (levelParsesl0 call n n) script_0 σ
theorem levelParsess0_eq (call : CallF) (n : Nat) (F0 : St → Option Res) (script_0 : List (List V)) (i_3 : Int) (σ : Sto) :
    aexec C levelParsesH call n (codeL (codeL (codeR (codeL (codeR levelParsesC))))) 0 (levelParsest0 script_0 i_3 σ) (kloop levelParsesk0 F0 (kblk 0 (kseq (fun st' => aexec C levelParsesH call n (codeR (codeR levelParsesC)) 0 st' (kfin C levelParsesD)) (kfin C levelParsesD)))) =
    levelParsess0 call (fun script_0 i_3 σ => F0 (levelParsest0 script_0 i_3 σ)) script_0 i_3 σ := by kernel_rfl
theorem levelParsesl0_eq (call : CallF) (n : Nat) : ∀ (m : Nat) (script_0 : List (List V)) (i_3 : Int) (σ : Sto),
    aloop (fun st K => aexec C levelParsesH call n (codeL (codeL (codeR (codeL (codeR levelParsesC))))) 0 st K) levelParsesk0 m (levelParsest0 script_0 i_3 σ) (kblk 0 (kseq (fun st' => aexec C levelParsesH call n (codeR (codeR levelParsesC)) 0 st' (kfin C levelParsesD)) (kfin C levelParsesD))) = levelParsesl0 call n m script_0 i_3 σ
  | 0, script_0, i_3, σ => rfl
  | m + 1, script_0, i_3, σ => by
    rw [aloop, levelParsess0_eq]
    simp only [levelParsesl0_eq call n m]
    rfl
theorem levelParses_eqF (call : CallF) (n : Nat) (script_0 : List (List V)) (σ : Sto) : afun C levelParsesD call n [((V.slice 6 25 script_0), false)] σ =
    levelParsesF call (fun script_0 i_3 σ => aloop (fun st K => aexec C levelParsesH call n (codeL (codeL (codeR (codeL (codeR levelParsesC))))) 0 st K) levelParsesk0 n (levelParsest0 script_0 i_3 σ) (kblk 0 (kseq (fun st' => aexec C levelParsesH call n (codeR (codeR levelParsesC)) 0 st' (kfin C levelParsesD)) (kfin C levelParsesD)))) script_0 σ := by kernel_rfl
theorem levelParses_eq (call : CallF) (n : Nat) (script_0 : List (List V)) (σ : Sto) : afun C levelParsesD call n [((V.slice 6 25 script_0), false)] σ = levelParses call n script_0 σ := by
  rw [levelParses_eqF]
  simp only [levelParsesl0_eq]
  rfl
theorem levelParses_call (n : Nat) (script_0 : List (List V)) (σ : Sto) : acall C (n + 1) 4 [((V.slice 6 25 script_0), false)] σ = levelParses (acall C n) n script_0 σ :=
  (show acall C (n + 1) 4 [((V.slice 6 25 script_0), false)] σ = afun C levelParsesD (acall C n) n [((V.slice 6 25 script_0), false)] σ by kernel_rfl).trans (levelParses_eq _ _ script_0 σ)
theorem levelParses_lim {n : Nat} {script_0 : List (List V)} {b0 : Bool} {σ : Sto} {r : Res} (h : levelParses (lim C) n script_0 σ = some r) : lim C 4 [((V.slice 6 25 script_0), b0)] σ = some r :=
  lim_of (d := levelParsesD) (by kernel_rfl) (by kernel_rfl) n (show afun C levelParsesD (lim C) n [((V.slice 6 25 script_0), false)] σ = some r from (levelParses_eq (lim C) n script_0 σ).trans h)
/-! provekernellaw.levelParsed -/
noncomputable def levelParsedF (call : CallF) (s_0 : ByteArray) (σ : Sto) : Option Res :=
  callK call 16 [((V.str s_0), false)] σ 2 (fun vs1 σ2 =>
  (grd (V.fits (List.getD vs1 0 cellD).1 true 3)).bind fun _ =>
  callK call 9 [((V.str s_0), false)] σ2 2 (fun vs4 σ5 =>
  (grd (V.fits (List.getD vs4 0 cellD).1 true 3)).bind fun _ =>
  (grd (V.fits (List.getD vs4 1 cellD).1 true 2)).bind fun _ =>
  callK call 24 [((List.getD vs1 1 cellD).1, false), ((V.agg [(V.cell (List.getD vs4 1 cellD).1 0), (V.cell (List.getD vs4 1 cellD).1 1)]), false)] σ5 1 (fun vs7 σ8 =>
  callK call 22 [((V.agg [(V.cell (List.getD vs1 0 cellD).1 0), (V.cell (List.getD vs1 0 cellD).1 1), (V.cell (List.getD vs1 0 cellD).1 2)]), false), ((V.agg [(V.cell (List.getD vs4 0 cellD).1 0), (V.cell (List.getD vs4 0 cellD).1 1), (V.cell (List.getD vs4 0 cellD).1 2)]), false)] σ8 1 (fun vs10 σ11 =>
  (V.asBool (List.getD vs7 0 cellD).1).bind fun b13 =>
  bif b13 then
  some (.ret [((List.getD vs10 0 cellD).1, false)], σ11)
  else
  some (.ret [((V.bool false), false)], σ11)) (fun p12 σ11 => some (.pan p12, σ11))) (fun p9 σ8 => some (.pan p9, σ8))) (fun p6 σ5 => some (.pan p6, σ5))) (fun p3 σ2 => some (.pan p3, σ2))
noncomputable def levelParsed (call : CallF) (n : Nat) (s_0 : ByteArray) (σ : Sto) : Option Res := levelParsedF call s_0 σ
theorem levelParsed_eqF (call : CallF) (n : Nat) (s_0 : ByteArray) (σ : Sto) : afun C levelParsedD call n [((V.str s_0), false)] σ =
    levelParsedF call s_0 σ := by kernel_rfl
theorem levelParsed_eq (call : CallF) (n : Nat) (s_0 : ByteArray) (σ : Sto) : afun C levelParsedD call n [((V.str s_0), false)] σ = levelParsed call n s_0 σ := levelParsed_eqF call n s_0 σ
theorem levelParsed_call (n : Nat) (s_0 : ByteArray) (σ : Sto) : acall C (n + 1) 7 [((V.str s_0), false)] σ = levelParsed (acall C n) n s_0 σ :=
  (show acall C (n + 1) 7 [((V.str s_0), false)] σ = afun C levelParsedD (acall C n) n [((V.str s_0), false)] σ by kernel_rfl).trans (levelParsed_eq _ _ s_0 σ)
theorem levelParsed_lim {n : Nat} {s_0 : ByteArray} {b0 : Bool} {σ : Sto} {r : Res} (h : levelParsed (lim C) n s_0 σ = some r) : lim C 7 [((V.str s_0), b0)] σ = some r :=
  lim_of (d := levelParsedD) (by kernel_rfl) (by kernel_rfl) n (show afun C levelParsedD (lim C) n [((V.str s_0), false)] σ = some r from (levelParsed_eq (lim C) n s_0 σ).trans h)
/-! provekernellaw.faulty -/
noncomputable def faultyF (call : CallF) (err_0 : V) (f_1_0 : Int) (f_1_1 : Int) (σ : Sto) : Option Res :=
  callK call 40 [(err_0, false)] σ 2 (fun vs1 σ2 =>
  (V.asInt (List.getD vs1 0 cellD).1 .i64).bind fun i4 =>
  bif (i4 == f_1_0) then
  (V.asInt (List.getD vs1 0 cellD).1 .i64).bind fun i5 =>
  bif (i5 == (0 : Int)) then
  some (.ret [((V.bool true), false)], σ2)
  else
  (V.asInt (List.getD vs1 1 cellD).1 .i64).bind fun i6 =>
  some (.ret [((V.bool (i6 == f_1_1)), false)], σ2)
  else
  some (.ret [((V.bool false), false)], σ2)) (fun p3 σ2 => some (.pan p3, σ2))
noncomputable def faulty (call : CallF) (n : Nat) (err_0 : V) (f_1_0 : Int) (f_1_1 : Int) (σ : Sto) : Option Res := faultyF call err_0 f_1_0 f_1_1 σ
theorem faulty_eqF (call : CallF) (n : Nat) (err_0 : V) (f_1_0 : Int) (f_1_1 : Int) (σ : Sto) : afun C faultyD call n [(err_0, false), ((V.agg [(V.int .i64 f_1_0), (V.int .i64 f_1_1)]), false)] σ =
    faultyF call err_0 f_1_0 f_1_1 σ := by kernel_rfl
theorem faulty_eq (call : CallF) (n : Nat) (err_0 : V) (f_1_0 : Int) (f_1_1 : Int) (σ : Sto) : afun C faultyD call n [(err_0, false), ((V.agg [(V.int .i64 f_1_0), (V.int .i64 f_1_1)]), false)] σ = faulty call n err_0 f_1_0 f_1_1 σ := faulty_eqF call n err_0 f_1_0 f_1_1 σ
theorem faulty_call (n : Nat) (err_0 : V) (f_1_0 : Int) (f_1_1 : Int) (σ : Sto) : acall C (n + 1) 24 [(err_0, false), ((V.agg [(V.int .i64 f_1_0), (V.int .i64 f_1_1)]), false)] σ = faulty (acall C n) n err_0 f_1_0 f_1_1 σ :=
  (show acall C (n + 1) 24 [(err_0, false), ((V.agg [(V.int .i64 f_1_0), (V.int .i64 f_1_1)]), false)] σ = afun C faultyD (acall C n) n [(err_0, false), ((V.agg [(V.int .i64 f_1_0), (V.int .i64 f_1_1)]), false)] σ by kernel_rfl).trans (faulty_eq _ _ err_0 f_1_0 f_1_1 σ)
theorem faulty_lim {n : Nat} {err_0 : V} {f_1_0 : Int} {f_1_1 : Int} {b0 b1 : Bool} {σ : Sto} {r : Res} (h : faulty (lim C) n err_0 f_1_0 f_1_1 σ = some r) : lim C 24 [(err_0, b0), ((V.agg [(V.int .i64 f_1_0), (V.int .i64 f_1_1)]), b1)] σ = some r :=
  lim_of (d := faultyD) (by kernel_rfl) (by kernel_rfl) n (show afun C faultyD (lim C) n [(err_0, false), ((V.agg [(V.int .i64 f_1_0), (V.int .i64 f_1_1)]), false)] σ = some r from (faulty_eq (lim C) n err_0 f_1_0 f_1_1 σ).trans h)
end Go.Ab.Mq
