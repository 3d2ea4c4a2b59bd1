/- AbMk2: printed by program: functions of the program, their code told as plain Lean, and the equations. -/
import Derived.Test.YtkecplbpffhdnaaGreatDoorAbMk0
set_option linter.unusedSimpArgs false
set_option linter.unusedVariables false
set_option linter.deprecated false
set_option maxRecDepth 100000
namespace Go.Ab.Mk
open Go.Proofs Go.Ab
/-! provekernelref.nameByte -/
noncomputable def nameByteF (call : CallF) (c_0 : Int) (first_1 : Bool) (σ : Sto) : Option Res :=
  bif (decide (c_0 ≥ (97 : Int))) then
  bif (decide (c_0 ≤ (122 : Int))) then
  some (.ret [((V.bool true), false)], σ)
  else
  bif (decide (c_0 ≥ (65 : Int))) then
  bif (decide (c_0 ≤ (90 : Int))) then
  some (.ret [((V.bool true), false)], σ)
  else
  bif (c_0 == (95 : Int)) then
  some (.ret [((V.bool true), false)], σ)
  else
  bif (!first_1) then
  bif (decide (c_0 ≥ (48 : Int))) then
  bif (decide (c_0 ≤ (57 : Int))) then
  some (.ret [((V.bool true), false)], σ)
  else
  bif (c_0 == (46 : Int)) then
  some (.ret [((V.bool true), false)], σ)
  else
  some (.ret [((V.bool (c_0 == (39 : Int))), false)], σ)
  else
  bif (c_0 == (46 : Int)) then
  some (.ret [((V.bool true), false)], σ)
  else
  some (.ret [((V.bool (c_0 == (39 : Int))), false)], σ)
  else
  some (.ret [((V.bool false), false)], σ)
  else
  bif (c_0 == (95 : Int)) then
  some (.ret [((V.bool true), false)], σ)
  else
  bif (!first_1) then
  bif (decide (c_0 ≥ (48 : Int))) then
  bif (decide (c_0 ≤ (57 : Int))) then
  some (.ret [((V.bool true), false)], σ)
  else
  bif (c_0 == (46 : Int)) then
  some (.ret [((V.bool true), false)], σ)
  else
  some (.ret [((V.bool (c_0 == (39 : Int))), false)], σ)
  else
  bif (c_0 == (46 : Int)) then
  some (.ret [((V.bool true), false)], σ)
  else
  some (.ret [((V.bool (c_0 == (39 : Int))), false)], σ)
  else
  some (.ret [((V.bool false), false)], σ)
  else
  bif (decide (c_0 ≥ (65 : Int))) then
  bif (decide (c_0 ≤ (90 : Int))) then
  some (.ret [((V.bool true), false)], σ)
  else
  bif (c_0 == (95 : Int)) then
  some (.ret [((V.bool true), false)], σ)
  else
  bif (!first_1) then
  bif (decide (c_0 ≥ (48 : Int))) then
  bif (decide (c_0 ≤ (57 : Int))) then
  some (.ret [((V.bool true), false)], σ)
  else
  bif (c_0 == (46 : Int)) then
  some (.ret [((V.bool true), false)], σ)
  else
  some (.ret [((V.bool (c_0 == (39 : Int))), false)], σ)
  else
  bif (c_0 == (46 : Int)) then
  some (.ret [((V.bool true), false)], σ)
  else
  some (.ret [((V.bool (c_0 == (39 : Int))), false)], σ)
  else
  some (.ret [((V.bool false), false)], σ)
  else
  bif (c_0 == (95 : Int)) then
  some (.ret [((V.bool true), false)], σ)
  else
  bif (!first_1) then
  bif (decide (c_0 ≥ (48 : Int))) then
  bif (decide (c_0 ≤ (57 : Int))) then
  some (.ret [((V.bool true), false)], σ)
  else
  bif (c_0 == (46 : Int)) then
  some (.ret [((V.bool true), false)], σ)
  else
  some (.ret [((V.bool (c_0 == (39 : Int))), false)], σ)
  else
  bif (c_0 == (46 : Int)) then
  some (.ret [((V.bool true), false)], σ)
  else
  some (.ret [((V.bool (c_0 == (39 : Int))), false)], σ)
  else
  some (.ret [((V.bool false), false)], σ)
noncomputable def nameByte (call : CallF) (n : Nat) (c_0 : Int) (first_1 : Bool) (σ : Sto) : Option Res := nameByteF call c_0 first_1 σ
theorem nameByte_eqF (call : CallF) (n : Nat) (c_0 : Int) (first_1 : Bool) (σ : Sto) : afun C nameByteD call n [((V.int .u8 c_0), false), ((V.bool first_1), false)] σ =
    nameByteF call c_0 first_1 σ := by kernel_rfl
theorem nameByte_eq (call : CallF) (n : Nat) (c_0 : Int) (first_1 : Bool) (σ : Sto) : afun C nameByteD call n [((V.int .u8 c_0), false), ((V.bool first_1), false)] σ = nameByte call n c_0 first_1 σ := nameByte_eqF call n c_0 first_1 σ
theorem nameByte_call (n : Nat) (c_0 : Int) (first_1 : Bool) (σ : Sto) : acall C (n + 1) 74 [((V.int .u8 c_0), false), ((V.bool first_1), false)] σ = nameByte (acall C n) n c_0 first_1 σ :=
  (show acall C (n + 1) 74 [((V.int .u8 c_0), false), ((V.bool first_1), false)] σ = afun C nameByteD (acall C n) n [((V.int .u8 c_0), false), ((V.bool first_1), false)] σ by kernel_rfl).trans (nameByte_eq _ _ c_0 first_1 σ)
theorem nameByte_lim {n : Nat} {c_0 : Int} {first_1 : Bool} {b0 b1 : Bool} {σ : Sto} {r : Res} (h : nameByte (lim C) n c_0 first_1 σ = some r) : lim C 74 [((V.int .u8 c_0), b0), ((V.bool first_1), b1)] σ = some r :=
  lim_of (d := nameByteD) (by kernel_rfl) (by kernel_rfl) n (show afun C nameByteD (lim C) n [((V.int .u8 c_0), false), ((V.bool first_1), false)] σ = some r from (nameByte_eq (lim C) n c_0 first_1 σ).trans h)
/-! level.NewScanner -/
noncomputable def newScannerF (call : CallF) (text_0 : ByteArray) (σ : Sto) : Option Res :=
  callK call 39 [((V.ptr 69 (List.length σ) 0), false)] (σ ++ [[((V.str text_0), false), ((V.int .i64 (0 : Int)), false), ((V.str (ByteArray.mk #[])), false), ((V.int .i64 (0 : Int)), false)]]) 0 (fun vs1 σ2 =>
  some (.ret [((V.ptr 69 (List.length σ) 0), false)], σ2)) (fun p3 σ2 => some (.pan p3, σ2))
noncomputable def newScanner (call : CallF) (n : Nat) (text_0 : ByteArray) (σ : Sto) : Option Res := newScannerF call text_0 σ
theorem newScanner_eqF (call : CallF) (n : Nat) (text_0 : ByteArray) (σ : Sto) : afun C newScannerD call n [((V.str text_0), false)] σ =
    newScannerF call text_0 σ := by kernel_rfl
theorem newScanner_eq (call : CallF) (n : Nat) (text_0 : ByteArray) (σ : Sto) : afun C newScannerD call n [((V.str text_0), false)] σ = newScanner call n text_0 σ := newScanner_eqF call n text_0 σ
theorem newScanner_call (n : Nat) (text_0 : ByteArray) (σ : Sto) : acall C (n + 1) 21 [((V.str text_0), false)] σ = newScanner (acall C n) n text_0 σ :=
  (show acall C (n + 1) 21 [((V.str text_0), false)] σ = afun C newScannerD (acall C n) n [((V.str text_0), false)] σ by kernel_rfl).trans (newScanner_eq _ _ text_0 σ)
theorem newScanner_lim {n : Nat} {text_0 : ByteArray} {b0 : Bool} {σ : Sto} {r : Res} (h : newScanner (lim C) n text_0 σ = some r) : lim C 21 [((V.str text_0), b0)] σ = some r :=
  lim_of (d := newScannerD) (by kernel_rfl) (by kernel_rfl) n (show afun C newScannerD (lim C) n [((V.str text_0), false)] σ = some r from (newScanner_eq (lim C) n text_0 σ).trans h)
/-! level.Scanner).Level -/
noncomputable def slevelF (call : CallF) (s_0 : Nat) (σ : Sto) : Option Res :=
  (memGet σ (V.ptr 69 s_0 2) false 1).bind fun m1 =>
  (V.asStr m1).bind fun s2 =>
  bif (s2.toList == (ByteArray.mk #[48]).toList) then
  callK call 39 [((V.ptr 69 s_0 0), false)] σ 0 (fun vs3 σ4 =>
  some (.ret [((V.agg [(V.int .i64 (0 : Int)), (V.str (ByteArray.mk #[])), (V.slice 3 90 [])]), false)], σ4)) (fun p5 σ4 => some (.pan p5, σ4))
  else
  (V.asStr m1).bind fun s6 =>
  bif (s6.toList == (ByteArray.mk #[40]).toList) then
  callK call 39 [((V.ptr 69 s_0 0), false)] σ 0 (fun vs7 σ8 =>
  (memGet σ8 (V.ptr 69 s_0 2) false 1).bind fun m10 =>
  (V.asStr m10).bind fun s11 =>
  bif (s11.toList == (ByteArray.mk #[115]).toList) then
  callK call 39 [((V.ptr 69 s_0 0), false)] σ8 0 (fun vs12 σ13 =>
  callK call 45 [((V.ptr 69 s_0 0), false)] σ13 1 (fun vs15 σ16 =>
  (grd ((V.fits (List.getD vs15 0 cellD).1 true 3 && true))).bind fun _ =>
  (grd (room (0 + 1))).bind fun _ =>
  callK call 43 [((V.ptr 69 s_0 0), false), ((V.str (ByteArray.mk #[41])), false)] σ16 0 (fun vs18 σ19 =>
  some (.ret [((V.agg [(V.int .i64 (1 : Int)), (V.str (ByteArray.mk #[])), (V.slice 3 90 [[(V.cell (List.getD vs15 0 cellD).1 0), (V.cell (List.getD vs15 0 cellD).1 1), (V.cell (List.getD vs15 0 cellD).1 2)]])]), false)], σ19)) (fun p20 σ19 => some (.pan p20, σ19))) (fun p17 σ16 => some (.pan p17, σ16))) (fun p14 σ13 => some (.pan p14, σ13))
  else
  (V.asStr m10).bind fun s21 =>
  bif (s21.toList == (ByteArray.mk #[109, 97, 120]).toList) then
  callK call 39 [((V.ptr 69 s_0 0), false)] σ8 0 (fun vs22 σ23 =>
  callK call 45 [((V.ptr 69 s_0 0), false)] σ23 1 (fun vs25 σ26 =>
  (grd ((V.fits (List.getD vs25 0 cellD).1 true 3 && true))).bind fun _ =>
  (grd (room (0 + 1))).bind fun _ =>
  callK call 45 [((V.ptr 69 s_0 0), false)] σ26 1 (fun vs28 σ29 =>
  (grd ((V.fits (List.getD vs28 0 cellD).1 true 3 && true))).bind fun _ =>
  (grd (room (1 + 1))).bind fun _ =>
  callK call 43 [((V.ptr 69 s_0 0), false), ((V.str (ByteArray.mk #[41])), false)] σ29 0 (fun vs31 σ32 =>
  some (.ret [((V.agg [(V.int .i64 (2 : Int)), (V.str (ByteArray.mk #[])), (V.slice 3 90 [[(V.cell (List.getD vs25 0 cellD).1 0), (V.cell (List.getD vs25 0 cellD).1 1), (V.cell (List.getD vs25 0 cellD).1 2)], [(V.cell (List.getD vs28 0 cellD).1 0), (V.cell (List.getD vs28 0 cellD).1 1), (V.cell (List.getD vs28 0 cellD).1 2)]])]), false)], σ32)) (fun p33 σ32 => some (.pan p33, σ32))) (fun p30 σ29 => some (.pan p30, σ29))) (fun p27 σ26 => some (.pan p27, σ26))) (fun p24 σ23 => some (.pan p24, σ23))
  else
  (V.asStr m10).bind fun s34 =>
  bif (s34.toList == (ByteArray.mk #[105, 109, 97, 120]).toList) then
  callK call 39 [((V.ptr 69 s_0 0), false)] σ8 0 (fun vs35 σ36 =>
  callK call 45 [((V.ptr 69 s_0 0), false)] σ36 1 (fun vs38 σ39 =>
  (grd ((V.fits (List.getD vs38 0 cellD).1 true 3 && true))).bind fun _ =>
  (grd (room (0 + 1))).bind fun _ =>
  callK call 45 [((V.ptr 69 s_0 0), false)] σ39 1 (fun vs41 σ42 =>
  (grd ((V.fits (List.getD vs41 0 cellD).1 true 3 && true))).bind fun _ =>
  (grd (room (1 + 1))).bind fun _ =>
  callK call 43 [((V.ptr 69 s_0 0), false), ((V.str (ByteArray.mk #[41])), false)] σ42 0 (fun vs44 σ45 =>
  some (.ret [((V.agg [(V.int .i64 (3 : Int)), (V.str (ByteArray.mk #[])), (V.slice 3 90 [[(V.cell (List.getD vs38 0 cellD).1 0), (V.cell (List.getD vs38 0 cellD).1 1), (V.cell (List.getD vs38 0 cellD).1 2)], [(V.cell (List.getD vs41 0 cellD).1 0), (V.cell (List.getD vs41 0 cellD).1 1), (V.cell (List.getD vs41 0 cellD).1 2)]])]), false)], σ45)) (fun p46 σ45 => some (.pan p46, σ45))) (fun p43 σ42 => some (.pan p43, σ42))) (fun p40 σ39 => some (.pan p40, σ39))) (fun p37 σ36 => some (.pan p37, σ36))
  else
  callK call 42 [((V.ptr 69 s_0 0), false)] σ8 0 (fun vs47 σ48 =>
  callK call 39 [((V.ptr 69 s_0 0), false)] σ48 0 (fun vs50 σ51 =>
  callK call 45 [((V.ptr 69 s_0 0), false)] σ51 1 (fun vs53 σ54 =>
  (grd ((V.fits (List.getD vs53 0 cellD).1 true 3 && true))).bind fun _ =>
  (grd (room (0 + 1))).bind fun _ =>
  callK call 45 [((V.ptr 69 s_0 0), false)] σ54 1 (fun vs56 σ57 =>
  (grd ((V.fits (List.getD vs56 0 cellD).1 true 3 && true))).bind fun _ =>
  (grd (room (1 + 1))).bind fun _ =>
  callK call 43 [((V.ptr 69 s_0 0), false), ((V.str (ByteArray.mk #[41])), false)] σ57 0 (fun vs59 σ60 =>
  some (.ret [((V.agg [(V.int .i64 (0 : Int)), (V.str (ByteArray.mk #[])), (V.slice 3 90 [[(V.cell (List.getD vs53 0 cellD).1 0), (V.cell (List.getD vs53 0 cellD).1 1), (V.cell (List.getD vs53 0 cellD).1 2)], [(V.cell (List.getD vs56 0 cellD).1 0), (V.cell (List.getD vs56 0 cellD).1 1), (V.cell (List.getD vs56 0 cellD).1 2)]])]), false)], σ60)) (fun p61 σ60 => some (.pan p61, σ60))) (fun p58 σ57 => some (.pan p58, σ57))) (fun p55 σ54 => some (.pan p55, σ54))) (fun p52 σ51 => some (.pan p52, σ51))) (fun p49 σ48 => some (.pan p49, σ48))) (fun p9 σ8 => some (.pan p9, σ8))
  else
  callK call 46 [((V.ptr 69 s_0 0), false)] σ 1 (fun vs62 σ63 =>
  (grd ((V.fits (List.getD vs62 0 cellD).1 false 1 && true))).bind fun _ =>
  some (.ret [((V.agg [(V.int .i64 (4 : Int)), (List.getD vs62 0 cellD).1, (V.slice 3 90 [])]), false)], σ63)) (fun p64 σ63 => some (.pan p64, σ63))
noncomputable def slevel (call : CallF) (n : Nat) (s_0 : Nat) (σ : Sto) : Option Res := slevelF call s_0 σ
theorem slevel_eqF (call : CallF) (n : Nat) (s_0 : Nat) (σ : Sto) : afun C slevelD call n [((V.ptr 69 s_0 0), false)] σ =
    slevelF call s_0 σ := by kernel_rfl
theorem slevel_eq (call : CallF) (n : Nat) (s_0 : Nat) (σ : Sto) : afun C slevelD call n [((V.ptr 69 s_0 0), false)] σ = slevel call n s_0 σ := slevel_eqF call n s_0 σ
theorem slevel_call (n : Nat) (s_0 : Nat) (σ : Sto) : acall C (n + 1) 45 [((V.ptr 69 s_0 0), false)] σ = slevel (acall C n) n s_0 σ :=
  (show acall C (n + 1) 45 [((V.ptr 69 s_0 0), false)] σ = afun C slevelD (acall C n) n [((V.ptr 69 s_0 0), false)] σ by kernel_rfl).trans (slevel_eq _ _ s_0 σ)
theorem slevel_lim {n : Nat} {s_0 : Nat} {b0 : Bool} {σ : Sto} {r : Res} (h : slevel (lim C) n s_0 σ = some r) : lim C 45 [((V.ptr 69 s_0 0), b0)] σ = some r :=
  lim_of (d := slevelD) (by kernel_rfl) (by kernel_rfl) n (show afun C slevelD (lim C) n [((V.ptr 69 s_0 0), false)] σ = some r from (slevel_eq (lim C) n s_0 σ).trans h)
/-! level.Scanner).End -/
noncomputable def sendF (call : CallF) (s_0 : Nat) (σ : Sto) : Option Res :=
  (memGet σ (V.ptr 69 s_0 2) false 1).bind fun m1 =>
  (V.asStr m1).bind fun s2 =>
  bif (!(s2.toList == (ByteArray.mk #[]).toList)) then
  callK call 42 [((V.ptr 69 s_0 0), false)] σ 0 (fun vs3 σ4 =>
  some (.ret [], σ4)) (fun p5 σ4 => some (.pan p5, σ4))
  else
  some (.ret [], σ)
noncomputable def send (call : CallF) (n : Nat) (s_0 : Nat) (σ : Sto) : Option Res := sendF call s_0 σ
theorem send_eqF (call : CallF) (n : Nat) (s_0 : Nat) (σ : Sto) : afun C sendD call n [((V.ptr 69 s_0 0), false)] σ =
    sendF call s_0 σ := by kernel_rfl
theorem send_eq (call : CallF) (n : Nat) (s_0 : Nat) (σ : Sto) : afun C sendD call n [((V.ptr 69 s_0 0), false)] σ = send call n s_0 σ := send_eqF call n s_0 σ
theorem send_call (n : Nat) (s_0 : Nat) (σ : Sto) : acall C (n + 1) 23 [((V.ptr 69 s_0 0), false)] σ = send (acall C n) n s_0 σ :=
  (show acall C (n + 1) 23 [((V.ptr 69 s_0 0), false)] σ = afun C sendD (acall C n) n [((V.ptr 69 s_0 0), false)] σ by kernel_rfl).trans (send_eq _ _ s_0 σ)
theorem send_lim {n : Nat} {s_0 : Nat} {b0 : Bool} {σ : Sto} {r : Res} (h : send (lim C) n s_0 σ = some r) : lim C 23 [((V.ptr 69 s_0 0), b0)] σ = some r :=
  lim_of (d := sendD) (by kernel_rfl) (by kernel_rfl) n (show afun C sendD (lim C) n [((V.ptr 69 s_0 0), false)] σ = some r from (send_eq (lim C) n s_0 σ).trans h)
/-! level.Scanner).Step -/
noncomputable def sstepF (call : CallF) (s_0 : Nat) (σ : Sto) : Option Res :=
  (memGet σ (V.ptr 69 s_0 1) false 1).bind fun m1 =>
  callK call 66 [((V.ptr 69 s_0 0), false), (m1, false), ((V.func (.func 67) [] []), false)] σ 1 (fun vs2 σ3 =>
  (grd (V.fits (List.getD vs2 0 cellD).1 false 1)).bind fun _ =>
  (memSet σ3 (V.ptr 69 s_0 3) [((List.getD vs2 0 cellD).1, false)]).bind fun m5 =>
  (memGet m5 (V.ptr 69 s_0 3) false 1).bind fun m6 =>
  (memGet m5 (V.ptr 69 s_0 0) false 1).bind fun m7 =>
  (V.asStr m7).bind fun s8 =>
  (V.asInt m6 .i64).bind fun i9 =>
  bif (i9 == (s8.size : Int)) then
  (memGet m5 (V.ptr 69 s_0 3) false 1).bind fun m10 =>
  (memSet m5 (V.ptr 69 s_0 2) [((V.str (ByteArray.mk #[])), false)]).bind fun m11 =>
  (grd (V.fits m10 false 1)).bind fun _ =>
  (memSet m11 (V.ptr 69 s_0 1) [(m10, false)]).bind fun m12 =>
  some (.ret [], m12)
  else
  (memGet m5 (V.ptr 69 s_0 3) false 1).bind fun m13 =>
  (V.asInt m13 .i64).bind fun i14 =>
  (memGet m5 (V.ptr 69 s_0 0) false 1).bind fun m15 =>
  (memGet m5 (V.ptr 69 s_0 3) false 1).bind fun m16 =>
  (V.asStr m15).bind fun s17 =>
  (V.asInt m16 .i64).bind fun i18 =>
  (grd (decide (0 ≤ i18) && decide (i18 < s17.size))).bind fun _ =>
  bif ((byteAt s17 (Int.toNat i18)) == (40 : Int)) then
  bif (decide ((IntKind.wrap .i64 (i14 + (1 : Int))) < (0 : Int))) then
  (memSet m5 (V.ptr 69 s_0 2) [((V.str (ByteArray.mk #[0])), false)]).bind fun m19 =>
  some (.ret [], m19)
  else
  (memGet m5 (V.ptr 69 s_0 0) false 1).bind fun m20 =>
  (memGet m5 (V.ptr 69 s_0 3) false 1).bind fun m21 =>
  (V.asStr m20).bind fun s22 =>
  (V.asInt m21 .i64).bind fun i23 =>
  (grd (decide (0 ≤ i23) && decide (i23 ≤ (IntKind.wrap .i64 (i14 + (1 : Int)))) && decide ((IntKind.wrap .i64 (i14 + (1 : Int))) ≤ s22.size))).bind fun _ =>
  (memSet m5 (V.ptr 69 s_0 2) [((V.str (s22.extract (Int.toNat i23) (Int.toNat (IntKind.wrap .i64 (i14 + (1 : Int)))))), false)]).bind fun m24 =>
  (memSet m24 (V.ptr 69 s_0 1) [((V.int .i64 (IntKind.wrap .i64 (i14 + (1 : Int)))), false)]).bind fun m25 =>
  some (.ret [], m25)
  else
  bif ((byteAt s17 (Int.toNat i18)) == (41 : Int)) then
  bif (decide ((IntKind.wrap .i64 (i14 + (1 : Int))) < (0 : Int))) then
  (memSet m5 (V.ptr 69 s_0 2) [((V.str (ByteArray.mk #[0])), false)]).bind fun m26 =>
  some (.ret [], m26)
  else
  (memGet m5 (V.ptr 69 s_0 0) false 1).bind fun m27 =>
  (memGet m5 (V.ptr 69 s_0 3) false 1).bind fun m28 =>
  (V.asStr m27).bind fun s29 =>
  (V.asInt m28 .i64).bind fun i30 =>
  (grd (decide (0 ≤ i30) && decide (i30 ≤ (IntKind.wrap .i64 (i14 + (1 : Int)))) && decide ((IntKind.wrap .i64 (i14 + (1 : Int))) ≤ s29.size))).bind fun _ =>
  (memSet m5 (V.ptr 69 s_0 2) [((V.str (s29.extract (Int.toNat i30) (Int.toNat (IntKind.wrap .i64 (i14 + (1 : Int)))))), false)]).bind fun m31 =>
  (memSet m31 (V.ptr 69 s_0 1) [((V.int .i64 (IntKind.wrap .i64 (i14 + (1 : Int)))), false)]).bind fun m32 =>
  some (.ret [], m32)
  else
  callK call 68 [((V.int .u8 (byteAt s17 (Int.toNat i18))), false)] m5 1 (fun vs33 σ34 =>
  (V.asBool (List.getD vs33 0 cellD).1).bind fun b36 =>
  bif b36 then
  (memGet σ34 (V.ptr 69 s_0 3) false 1).bind fun m37 =>
  callK call 66 [((V.ptr 69 s_0 0), false), (m37, false), ((V.func (.func 69) [] []), false)] σ34 1 (fun vs38 σ39 =>
  (memGet σ39 (V.ptr 69 s_0 3) false 1).bind fun m41 =>
  (V.asInt (List.getD vs38 0 cellD).1 .i64).bind fun i42 =>
  (V.asInt m41 .i64).bind fun i43 =>
  bif (decide ((IntKind.wrap .i64 (i42 - i43)) > (40 : Int))) then
  (memSet σ39 (V.ptr 69 s_0 2) [((V.str (ByteArray.mk #[0])), false)]).bind fun m44 =>
  some (.ret [], m44)
  else
  (V.asInt (List.getD vs38 0 cellD).1 .i64).bind fun i45 =>
  bif (decide (i45 < (0 : Int))) then
  (memSet σ39 (V.ptr 69 s_0 2) [((V.str (ByteArray.mk #[0])), false)]).bind fun m46 =>
  some (.ret [], m46)
  else
  (memGet σ39 (V.ptr 69 s_0 0) false 1).bind fun m47 =>
  (memGet σ39 (V.ptr 69 s_0 3) false 1).bind fun m48 =>
  (V.asStr m47).bind fun s49 =>
  (V.asInt m48 .i64).bind fun i50 =>
  (V.asInt (List.getD vs38 0 cellD).1 .i64).bind fun i51 =>
  (grd (decide (0 ≤ i50) && decide (i50 ≤ i51) && decide (i51 ≤ s49.size))).bind fun _ =>
  (memSet σ39 (V.ptr 69 s_0 2) [((V.str (s49.extract (Int.toNat i50) (Int.toNat i51))), false)]).bind fun m52 =>
  (grd (V.fits (List.getD vs38 0 cellD).1 false 1)).bind fun _ =>
  (memSet m52 (V.ptr 69 s_0 1) [((List.getD vs38 0 cellD).1, false)]).bind fun m53 =>
  some (.ret [], m53)) (fun p40 σ39 => some (.pan p40, σ39))
  else
  bif ((byteAt s17 (Int.toNat i18)) == (35 : Int)) then
  (memGet σ34 (V.ptr 69 s_0 3) false 1).bind fun m54 =>
  bif ((byteAt s17 (Int.toNat i18)) == (35 : Int)) then
  (V.asInt m54 .i64).bind fun i55 =>
  callK call 66 [((V.ptr 69 s_0 0), false), ((V.int .i64 (IntKind.wrap .i64 (i55 + (1 : Int)))), false), ((V.func (.func 70) [] []), false)] σ34 1 (fun vs56 σ57 =>
  (V.asInt (List.getD vs56 0 cellD).1 .i64).bind fun i59 =>
  bif ((IntKind.wrap .i64 (i59 - (IntKind.wrap .i64 (i55 + (1 : Int))))) == (0 : Int)) then
  (memSet σ57 (V.ptr 69 s_0 2) [((V.str (ByteArray.mk #[0])), false)]).bind fun m60 =>
  some (.ret [], m60)
  else
  bif (decide ((IntKind.wrap .i64 (i59 - (IntKind.wrap .i64 (i55 + (1 : Int))))) > (5 : Int))) then
  (memSet σ57 (V.ptr 69 s_0 2) [((V.str (ByteArray.mk #[0])), false)]).bind fun m61 =>
  some (.ret [], m61)
  else
  bif (decide ((IntKind.wrap .i64 (i59 - (IntKind.wrap .i64 (i55 + (1 : Int))))) > (1 : Int))) then
  (memGet σ57 (V.ptr 69 s_0 0) false 1).bind fun m62 =>
  (V.asStr m62).bind fun s63 =>
  (grd (decide (0 ≤ (IntKind.wrap .i64 (i55 + (1 : Int)))) && decide ((IntKind.wrap .i64 (i55 + (1 : Int))) < s63.size))).bind fun _ =>
  bif ((byteAt s63 (Int.toNat (IntKind.wrap .i64 (i55 + (1 : Int))))) == (48 : Int)) then
  (memSet σ57 (V.ptr 69 s_0 2) [((V.str (ByteArray.mk #[0])), false)]).bind fun m64 =>
  some (.ret [], m64)
  else
  (V.asInt (List.getD vs56 0 cellD).1 .i64).bind fun i65 =>
  bif (decide (i65 < (0 : Int))) then
  (memSet σ57 (V.ptr 69 s_0 2) [((V.str (ByteArray.mk #[0])), false)]).bind fun m66 =>
  some (.ret [], m66)
  else
  (memGet σ57 (V.ptr 69 s_0 0) false 1).bind fun m67 =>
  (memGet σ57 (V.ptr 69 s_0 3) false 1).bind fun m68 =>
  (V.asStr m67).bind fun s69 =>
  (V.asInt m68 .i64).bind fun i70 =>
  (V.asInt (List.getD vs56 0 cellD).1 .i64).bind fun i71 =>
  (grd (decide (0 ≤ i70) && decide (i70 ≤ i71) && decide (i71 ≤ s69.size))).bind fun _ =>
  (memSet σ57 (V.ptr 69 s_0 2) [((V.str (s69.extract (Int.toNat i70) (Int.toNat i71))), false)]).bind fun m72 =>
  (grd (V.fits (List.getD vs56 0 cellD).1 false 1)).bind fun _ =>
  (memSet m72 (V.ptr 69 s_0 1) [((List.getD vs56 0 cellD).1, false)]).bind fun m73 =>
  some (.ret [], m73)
  else
  (V.asInt (List.getD vs56 0 cellD).1 .i64).bind fun i74 =>
  bif (decide (i74 < (0 : Int))) then
  (memSet σ57 (V.ptr 69 s_0 2) [((V.str (ByteArray.mk #[0])), false)]).bind fun m75 =>
  some (.ret [], m75)
  else
  (memGet σ57 (V.ptr 69 s_0 0) false 1).bind fun m76 =>
  (memGet σ57 (V.ptr 69 s_0 3) false 1).bind fun m77 =>
  (V.asStr m76).bind fun s78 =>
  (V.asInt m77 .i64).bind fun i79 =>
  (V.asInt (List.getD vs56 0 cellD).1 .i64).bind fun i80 =>
  (grd (decide (0 ≤ i79) && decide (i79 ≤ i80) && decide (i80 ≤ s78.size))).bind fun _ =>
  (memSet σ57 (V.ptr 69 s_0 2) [((V.str (s78.extract (Int.toNat i79) (Int.toNat i80))), false)]).bind fun m81 =>
  (grd (V.fits (List.getD vs56 0 cellD).1 false 1)).bind fun _ =>
  (memSet m81 (V.ptr 69 s_0 1) [((List.getD vs56 0 cellD).1, false)]).bind fun m82 =>
  some (.ret [], m82)) (fun p58 σ57 => some (.pan p58, σ57))
  else
  callK call 66 [((V.ptr 69 s_0 0), false), (m54, false), ((V.func (.func 70) [] []), false)] σ34 1 (fun vs83 σ84 =>
  (V.asInt (List.getD vs83 0 cellD).1 .i64).bind fun i86 =>
  (V.asInt m54 .i64).bind fun i87 =>
  bif ((IntKind.wrap .i64 (i86 - i87)) == (0 : Int)) then
  (memSet σ84 (V.ptr 69 s_0 2) [((V.str (ByteArray.mk #[0])), false)]).bind fun m88 =>
  some (.ret [], m88)
  else
  bif (decide ((IntKind.wrap .i64 (i86 - i87)) > (5 : Int))) then
  (memSet σ84 (V.ptr 69 s_0 2) [((V.str (ByteArray.mk #[0])), false)]).bind fun m89 =>
  some (.ret [], m89)
  else
  bif (decide ((IntKind.wrap .i64 (i86 - i87)) > (1 : Int))) then
  (memGet σ84 (V.ptr 69 s_0 0) false 1).bind fun m90 =>
  (V.asStr m90).bind fun s91 =>
  (V.asInt m54 .i64).bind fun i92 =>
  (grd (decide (0 ≤ i92) && decide (i92 < s91.size))).bind fun _ =>
  bif ((byteAt s91 (Int.toNat i92)) == (48 : Int)) then
  (memSet σ84 (V.ptr 69 s_0 2) [((V.str (ByteArray.mk #[0])), false)]).bind fun m93 =>
  some (.ret [], m93)
  else
  (V.asInt (List.getD vs83 0 cellD).1 .i64).bind fun i94 =>
  bif (decide (i94 < (0 : Int))) then
  (memSet σ84 (V.ptr 69 s_0 2) [((V.str (ByteArray.mk #[0])), false)]).bind fun m95 =>
  some (.ret [], m95)
  else
  (memGet σ84 (V.ptr 69 s_0 0) false 1).bind fun m96 =>
  (memGet σ84 (V.ptr 69 s_0 3) false 1).bind fun m97 =>
  (V.asStr m96).bind fun s98 =>
  (V.asInt m97 .i64).bind fun i99 =>
  (V.asInt (List.getD vs83 0 cellD).1 .i64).bind fun i100 =>
  (grd (decide (0 ≤ i99) && decide (i99 ≤ i100) && decide (i100 ≤ s98.size))).bind fun _ =>
  (memSet σ84 (V.ptr 69 s_0 2) [((V.str (s98.extract (Int.toNat i99) (Int.toNat i100))), false)]).bind fun m101 =>
  (grd (V.fits (List.getD vs83 0 cellD).1 false 1)).bind fun _ =>
  (memSet m101 (V.ptr 69 s_0 1) [((List.getD vs83 0 cellD).1, false)]).bind fun m102 =>
  some (.ret [], m102)
  else
  (V.asInt (List.getD vs83 0 cellD).1 .i64).bind fun i103 =>
  bif (decide (i103 < (0 : Int))) then
  (memSet σ84 (V.ptr 69 s_0 2) [((V.str (ByteArray.mk #[0])), false)]).bind fun m104 =>
  some (.ret [], m104)
  else
  (memGet σ84 (V.ptr 69 s_0 0) false 1).bind fun m105 =>
  (memGet σ84 (V.ptr 69 s_0 3) false 1).bind fun m106 =>
  (V.asStr m105).bind fun s107 =>
  (V.asInt m106 .i64).bind fun i108 =>
  (V.asInt (List.getD vs83 0 cellD).1 .i64).bind fun i109 =>
  (grd (decide (0 ≤ i108) && decide (i108 ≤ i109) && decide (i109 ≤ s107.size))).bind fun _ =>
  (memSet σ84 (V.ptr 69 s_0 2) [((V.str (s107.extract (Int.toNat i108) (Int.toNat i109))), false)]).bind fun m110 =>
  (grd (V.fits (List.getD vs83 0 cellD).1 false 1)).bind fun _ =>
  (memSet m110 (V.ptr 69 s_0 1) [((List.getD vs83 0 cellD).1, false)]).bind fun m111 =>
  some (.ret [], m111)) (fun p85 σ84 => some (.pan p85, σ84))
  else
  callK call 70 [((V.int .u8 (byteAt s17 (Int.toNat i18))), false)] σ34 1 (fun vs112 σ113 =>
  (V.asBool (List.getD vs112 0 cellD).1).bind fun b115 =>
  bif b115 then
  (memGet σ113 (V.ptr 69 s_0 3) false 1).bind fun m116 =>
  bif ((byteAt s17 (Int.toNat i18)) == (35 : Int)) then
  (V.asInt m116 .i64).bind fun i117 =>
  callK call 66 [((V.ptr 69 s_0 0), false), ((V.int .i64 (IntKind.wrap .i64 (i117 + (1 : Int)))), false), ((V.func (.func 70) [] []), false)] σ113 1 (fun vs118 σ119 =>
  (V.asInt (List.getD vs118 0 cellD).1 .i64).bind fun i121 =>
  bif ((IntKind.wrap .i64 (i121 - (IntKind.wrap .i64 (i117 + (1 : Int))))) == (0 : Int)) then
  (memSet σ119 (V.ptr 69 s_0 2) [((V.str (ByteArray.mk #[0])), false)]).bind fun m122 =>
  some (.ret [], m122)
  else
  bif (decide ((IntKind.wrap .i64 (i121 - (IntKind.wrap .i64 (i117 + (1 : Int))))) > (5 : Int))) then
  (memSet σ119 (V.ptr 69 s_0 2) [((V.str (ByteArray.mk #[0])), false)]).bind fun m123 =>
  some (.ret [], m123)
  else
  bif (decide ((IntKind.wrap .i64 (i121 - (IntKind.wrap .i64 (i117 + (1 : Int))))) > (1 : Int))) then
  (memGet σ119 (V.ptr 69 s_0 0) false 1).bind fun m124 =>
  (V.asStr m124).bind fun s125 =>
  (grd (decide (0 ≤ (IntKind.wrap .i64 (i117 + (1 : Int)))) && decide ((IntKind.wrap .i64 (i117 + (1 : Int))) < s125.size))).bind fun _ =>
  bif ((byteAt s125 (Int.toNat (IntKind.wrap .i64 (i117 + (1 : Int))))) == (48 : Int)) then
  (memSet σ119 (V.ptr 69 s_0 2) [((V.str (ByteArray.mk #[0])), false)]).bind fun m126 =>
  some (.ret [], m126)
  else
  (V.asInt (List.getD vs118 0 cellD).1 .i64).bind fun i127 =>
  bif (decide (i127 < (0 : Int))) then
  (memSet σ119 (V.ptr 69 s_0 2) [((V.str (ByteArray.mk #[0])), false)]).bind fun m128 =>
  some (.ret [], m128)
  else
  (memGet σ119 (V.ptr 69 s_0 0) false 1).bind fun m129 =>
  (memGet σ119 (V.ptr 69 s_0 3) false 1).bind fun m130 =>
  (V.asStr m129).bind fun s131 =>
  (V.asInt m130 .i64).bind fun i132 =>
  (V.asInt (List.getD vs118 0 cellD).1 .i64).bind fun i133 =>
  (grd (decide (0 ≤ i132) && decide (i132 ≤ i133) && decide (i133 ≤ s131.size))).bind fun _ =>
  (memSet σ119 (V.ptr 69 s_0 2) [((V.str (s131.extract (Int.toNat i132) (Int.toNat i133))), false)]).bind fun m134 =>
  (grd (V.fits (List.getD vs118 0 cellD).1 false 1)).bind fun _ =>
  (memSet m134 (V.ptr 69 s_0 1) [((List.getD vs118 0 cellD).1, false)]).bind fun m135 =>
  some (.ret [], m135)
  else
  (V.asInt (List.getD vs118 0 cellD).1 .i64).bind fun i136 =>
  bif (decide (i136 < (0 : Int))) then
  (memSet σ119 (V.ptr 69 s_0 2) [((V.str (ByteArray.mk #[0])), false)]).bind fun m137 =>
  some (.ret [], m137)
  else
  (memGet σ119 (V.ptr 69 s_0 0) false 1).bind fun m138 =>
  (memGet σ119 (V.ptr 69 s_0 3) false 1).bind fun m139 =>
  (V.asStr m138).bind fun s140 =>
  (V.asInt m139 .i64).bind fun i141 =>
  (V.asInt (List.getD vs118 0 cellD).1 .i64).bind fun i142 =>
  (grd (decide (0 ≤ i141) && decide (i141 ≤ i142) && decide (i142 ≤ s140.size))).bind fun _ =>
  (memSet σ119 (V.ptr 69 s_0 2) [((V.str (s140.extract (Int.toNat i141) (Int.toNat i142))), false)]).bind fun m143 =>
  (grd (V.fits (List.getD vs118 0 cellD).1 false 1)).bind fun _ =>
  (memSet m143 (V.ptr 69 s_0 1) [((List.getD vs118 0 cellD).1, false)]).bind fun m144 =>
  some (.ret [], m144)) (fun p120 σ119 => some (.pan p120, σ119))
  else
  callK call 66 [((V.ptr 69 s_0 0), false), (m116, false), ((V.func (.func 70) [] []), false)] σ113 1 (fun vs145 σ146 =>
  (V.asInt (List.getD vs145 0 cellD).1 .i64).bind fun i148 =>
  (V.asInt m116 .i64).bind fun i149 =>
  bif ((IntKind.wrap .i64 (i148 - i149)) == (0 : Int)) then
  (memSet σ146 (V.ptr 69 s_0 2) [((V.str (ByteArray.mk #[0])), false)]).bind fun m150 =>
  some (.ret [], m150)
  else
  bif (decide ((IntKind.wrap .i64 (i148 - i149)) > (5 : Int))) then
  (memSet σ146 (V.ptr 69 s_0 2) [((V.str (ByteArray.mk #[0])), false)]).bind fun m151 =>
  some (.ret [], m151)
  else
  bif (decide ((IntKind.wrap .i64 (i148 - i149)) > (1 : Int))) then
  (memGet σ146 (V.ptr 69 s_0 0) false 1).bind fun m152 =>
  (V.asStr m152).bind fun s153 =>
  (V.asInt m116 .i64).bind fun i154 =>
  (grd (decide (0 ≤ i154) && decide (i154 < s153.size))).bind fun _ =>
  bif ((byteAt s153 (Int.toNat i154)) == (48 : Int)) then
  (memSet σ146 (V.ptr 69 s_0 2) [((V.str (ByteArray.mk #[0])), false)]).bind fun m155 =>
  some (.ret [], m155)
  else
  (V.asInt (List.getD vs145 0 cellD).1 .i64).bind fun i156 =>
  bif (decide (i156 < (0 : Int))) then
  (memSet σ146 (V.ptr 69 s_0 2) [((V.str (ByteArray.mk #[0])), false)]).bind fun m157 =>
  some (.ret [], m157)
  else
  (memGet σ146 (V.ptr 69 s_0 0) false 1).bind fun m158 =>
  (memGet σ146 (V.ptr 69 s_0 3) false 1).bind fun m159 =>
  (V.asStr m158).bind fun s160 =>
  (V.asInt m159 .i64).bind fun i161 =>
  (V.asInt (List.getD vs145 0 cellD).1 .i64).bind fun i162 =>
  (grd (decide (0 ≤ i161) && decide (i161 ≤ i162) && decide (i162 ≤ s160.size))).bind fun _ =>
  (memSet σ146 (V.ptr 69 s_0 2) [((V.str (s160.extract (Int.toNat i161) (Int.toNat i162))), false)]).bind fun m163 =>
  (grd (V.fits (List.getD vs145 0 cellD).1 false 1)).bind fun _ =>
  (memSet m163 (V.ptr 69 s_0 1) [((List.getD vs145 0 cellD).1, false)]).bind fun m164 =>
  some (.ret [], m164)
  else
  (V.asInt (List.getD vs145 0 cellD).1 .i64).bind fun i165 =>
  bif (decide (i165 < (0 : Int))) then
  (memSet σ146 (V.ptr 69 s_0 2) [((V.str (ByteArray.mk #[0])), false)]).bind fun m166 =>
  some (.ret [], m166)
  else
  (memGet σ146 (V.ptr 69 s_0 0) false 1).bind fun m167 =>
  (memGet σ146 (V.ptr 69 s_0 3) false 1).bind fun m168 =>
  (V.asStr m167).bind fun s169 =>
  (V.asInt m168 .i64).bind fun i170 =>
  (V.asInt (List.getD vs145 0 cellD).1 .i64).bind fun i171 =>
  (grd (decide (0 ≤ i170) && decide (i170 ≤ i171) && decide (i171 ≤ s169.size))).bind fun _ =>
  (memSet σ146 (V.ptr 69 s_0 2) [((V.str (s169.extract (Int.toNat i170) (Int.toNat i171))), false)]).bind fun m172 =>
  (grd (V.fits (List.getD vs145 0 cellD).1 false 1)).bind fun _ =>
  (memSet m172 (V.ptr 69 s_0 1) [((List.getD vs145 0 cellD).1, false)]).bind fun m173 =>
  some (.ret [], m173)) (fun p147 σ146 => some (.pan p147, σ146))
  else
  (memSet σ113 (V.ptr 69 s_0 2) [((V.str (ByteArray.mk #[0])), false)]).bind fun m174 =>
  some (.ret [], m174)) (fun p114 σ113 => some (.pan p114, σ113))) (fun p35 σ34 => some (.pan p35, σ34))) (fun p4 σ3 => some (.pan p4, σ3))
noncomputable def sstep (call : CallF) (n : Nat) (s_0 : Nat) (σ : Sto) : Option Res := sstepF call s_0 σ
theorem sstep_eqF (call : CallF) (n : Nat) (s_0 : Nat) (σ : Sto) : afun C sstepD call n [((V.ptr 69 s_0 0), false)] σ =
    sstepF call s_0 σ := by kernel_rfl
theorem sstep_eq (call : CallF) (n : Nat) (s_0 : Nat) (σ : Sto) : afun C sstepD call n [((V.ptr 69 s_0 0), false)] σ = sstep call n s_0 σ := sstep_eqF call n s_0 σ
theorem sstep_call (n : Nat) (s_0 : Nat) (σ : Sto) : acall C (n + 1) 39 [((V.ptr 69 s_0 0), false)] σ = sstep (acall C n) n s_0 σ :=
  (show acall C (n + 1) 39 [((V.ptr 69 s_0 0), false)] σ = afun C sstepD (acall C n) n [((V.ptr 69 s_0 0), false)] σ by kernel_rfl).trans (sstep_eq _ _ s_0 σ)
theorem sstep_lim {n : Nat} {s_0 : Nat} {b0 : Bool} {σ : Sto} {r : Res} (h : sstep (lim C) n s_0 σ = some r) : lim C 39 [((V.ptr 69 s_0 0), b0)] σ = some r :=
  lim_of (d := sstepD) (by kernel_rfl) (by kernel_rfl) n (show afun C sstepD (lim C) n [((V.ptr 69 s_0 0), false)] σ = some r from (sstep_eq (lim C) n s_0 σ).trans h)
/-! level.Scanner).Fail -/
noncomputable def sfailF (call : CallF) (s_0 : Nat) (σ : Sto) : Option Res :=
  (memGet σ (V.ptr 69 s_0 3) false 1).bind fun m1 =>
  (grd ((V.fits m1 false 1 && true))).bind fun _ =>
  some (.pan (V.iface 54 (V.ptr 36 (List.length σ) 0)), (σ ++ [[((V.int .i64 (1 : Int)), false), (m1, false)]]))
noncomputable def sfail (call : CallF) (n : Nat) (s_0 : Nat) (σ : Sto) : Option Res := sfailF call s_0 σ
theorem sfail_eqF (call : CallF) (n : Nat) (s_0 : Nat) (σ : Sto) : afun C sfailD call n [((V.ptr 69 s_0 0), false)] σ =
    sfailF call s_0 σ := by kernel_rfl
theorem sfail_eq (call : CallF) (n : Nat) (s_0 : Nat) (σ : Sto) : afun C sfailD call n [((V.ptr 69 s_0 0), false)] σ = sfail call n s_0 σ := sfail_eqF call n s_0 σ
theorem sfail_call (n : Nat) (s_0 : Nat) (σ : Sto) : acall C (n + 1) 42 [((V.ptr 69 s_0 0), false)] σ = sfail (acall C n) n s_0 σ :=
  (show acall C (n + 1) 42 [((V.ptr 69 s_0 0), false)] σ = afun C sfailD (acall C n) n [((V.ptr 69 s_0 0), false)] σ by kernel_rfl).trans (sfail_eq _ _ s_0 σ)
theorem sfail_lim {n : Nat} {s_0 : Nat} {b0 : Bool} {σ : Sto} {r : Res} (h : sfail (lim C) n s_0 σ = some r) : lim C 42 [((V.ptr 69 s_0 0), b0)] σ = some r :=
  lim_of (d := sfailD) (by kernel_rfl) (by kernel_rfl) n (show afun C sfailD (lim C) n [((V.ptr 69 s_0 0), false)] σ = some r from (sfail_eq (lim C) n s_0 σ).trans h)
/-! level.Scanner).Take -/
noncomputable def stakeF (call : CallF) (s_0 : Nat) (w_1 : ByteArray) (σ : Sto) : Option Res :=
  (memGet σ (V.ptr 69 s_0 2) false 1).bind fun m1 =>
  (V.asStr m1).bind fun s2 =>
  bif (!(s2.toList == w_1.toList)) then
  callK call 42 [((V.ptr 69 s_0 0), false)] σ 0 (fun vs3 σ4 =>
  callK call 39 [((V.ptr 69 s_0 0), false)] σ4 0 (fun vs6 σ7 =>
  some (.ret [], σ7)) (fun p8 σ7 => some (.pan p8, σ7))) (fun p5 σ4 => some (.pan p5, σ4))
  else
  callK call 39 [((V.ptr 69 s_0 0), false)] σ 0 (fun vs9 σ10 =>
  some (.ret [], σ10)) (fun p11 σ10 => some (.pan p11, σ10))
noncomputable def stake (call : CallF) (n : Nat) (s_0 : Nat) (w_1 : ByteArray) (σ : Sto) : Option Res := stakeF call s_0 w_1 σ
theorem stake_eqF (call : CallF) (n : Nat) (s_0 : Nat) (w_1 : ByteArray) (σ : Sto) : afun C stakeD call n [((V.ptr 69 s_0 0), false), ((V.str w_1), false)] σ =
    stakeF call s_0 w_1 σ := by kernel_rfl
theorem stake_eq (call : CallF) (n : Nat) (s_0 : Nat) (w_1 : ByteArray) (σ : Sto) : afun C stakeD call n [((V.ptr 69 s_0 0), false), ((V.str w_1), false)] σ = stake call n s_0 w_1 σ := stake_eqF call n s_0 w_1 σ
theorem stake_call (n : Nat) (s_0 : Nat) (w_1 : ByteArray) (σ : Sto) : acall C (n + 1) 43 [((V.ptr 69 s_0 0), false), ((V.str w_1), false)] σ = stake (acall C n) n s_0 w_1 σ :=
  (show acall C (n + 1) 43 [((V.ptr 69 s_0 0), false), ((V.str w_1), false)] σ = afun C stakeD (acall C n) n [((V.ptr 69 s_0 0), false), ((V.str w_1), false)] σ by kernel_rfl).trans (stake_eq _ _ s_0 w_1 σ)
theorem stake_lim {n : Nat} {s_0 : Nat} {w_1 : ByteArray} {b0 b1 : Bool} {σ : Sto} {r : Res} (h : stake (lim C) n s_0 w_1 σ = some r) : lim C 43 [((V.ptr 69 s_0 0), b0), ((V.str w_1), b1)] σ = some r :=
  lim_of (d := stakeD) (by kernel_rfl) (by kernel_rfl) n (show afun C stakeD (lim C) n [((V.ptr 69 s_0 0), false), ((V.str w_1), false)] σ = some r from (stake_eq (lim C) n s_0 w_1 σ).trans h)
/-! level.Scanner).Name -/
noncomputable def snameF (call : CallF) (s_0 : Nat) (σ : Sto) : Option Res :=
  (memGet σ (V.ptr 69 s_0 2) false 1).bind fun m1 =>
  (V.asStr m1).bind fun s2 =>
  bif (s2.toList == (ByteArray.mk #[]).toList) then
  callK call 42 [((V.ptr 69 s_0 0), false)] σ 0 (fun vs3 σ4 =>
  callK call 39 [((V.ptr 69 s_0 0), false)] σ4 0 (fun vs6 σ7 =>
  some (.ret [(m1, false)], σ7)) (fun p8 σ7 => some (.pan p8, σ7))) (fun p5 σ4 => some (.pan p5, σ4))
  else
  (V.asStr m1).bind fun s9 =>
  (grd (decide (0 ≤ (0 : Int)) && decide ((0 : Int) < s9.size))).bind fun _ =>
  callK call 68 [((V.int .u8 (byteAt s9 (Int.toNat (0 : Int)))), false)] σ 1 (fun vs10 σ11 =>
  (V.asBool (List.getD vs10 0 cellD).1).bind fun b13 =>
  bif (!b13) then
  callK call 42 [((V.ptr 69 s_0 0), false)] σ11 0 (fun vs14 σ15 =>
  callK call 39 [((V.ptr 69 s_0 0), false)] σ15 0 (fun vs17 σ18 =>
  some (.ret [(m1, false)], σ18)) (fun p19 σ18 => some (.pan p19, σ18))) (fun p16 σ15 => some (.pan p16, σ15))
  else
  callK call 39 [((V.ptr 69 s_0 0), false)] σ11 0 (fun vs20 σ21 =>
  some (.ret [(m1, false)], σ21)) (fun p22 σ21 => some (.pan p22, σ21))) (fun p12 σ11 => some (.pan p12, σ11))
noncomputable def sname (call : CallF) (n : Nat) (s_0 : Nat) (σ : Sto) : Option Res := snameF call s_0 σ
theorem sname_eqF (call : CallF) (n : Nat) (s_0 : Nat) (σ : Sto) : afun C snameD call n [((V.ptr 69 s_0 0), false)] σ =
    snameF call s_0 σ := by kernel_rfl
theorem sname_eq (call : CallF) (n : Nat) (s_0 : Nat) (σ : Sto) : afun C snameD call n [((V.ptr 69 s_0 0), false)] σ = sname call n s_0 σ := sname_eqF call n s_0 σ
theorem sname_call (n : Nat) (s_0 : Nat) (σ : Sto) : acall C (n + 1) 46 [((V.ptr 69 s_0 0), false)] σ = sname (acall C n) n s_0 σ :=
  (show acall C (n + 1) 46 [((V.ptr 69 s_0 0), false)] σ = afun C snameD (acall C n) n [((V.ptr 69 s_0 0), false)] σ by kernel_rfl).trans (sname_eq _ _ s_0 σ)
theorem sname_lim {n : Nat} {s_0 : Nat} {b0 : Bool} {σ : Sto} {r : Res} (h : sname (lim C) n s_0 σ = some r) : lim C 46 [((V.ptr 69 s_0 0), b0)] σ = some r :=
  lim_of (d := snameD) (by kernel_rfl) (by kernel_rfl) n (show afun C snameD (lim C) n [((V.ptr 69 s_0 0), false)] σ = some r from (sname_eq (lim C) n s_0 σ).trans h)
/-! level.Scanner).run -/
noncomputable def srunk0 : List Nat := [0, 1, 2]
noncomputable def sruns0 (call : CallF) (rec0 : Nat → Int → V → Sto → Option Res) (s_0 : Nat) (vfrom_1 : Int) (of_2 : V) (σ : Sto) : Option Res :=
  (memGet σ (V.ptr 69 s_0 0) false 1).bind fun m1 =>
  (V.asStr m1).bind fun s2 =>
  bif (decide (vfrom_1 < (s2.size : Int))) then
  (memGet σ (V.ptr 69 s_0 0) false 1).bind fun m3 =>
  (V.asStr m3).bind fun s4 =>
  (grd (decide (0 ≤ vfrom_1) && decide (vfrom_1 < s4.size))).bind fun _ =>
  (V.asFunc of_2).bind fun fn5 =>
  callK call fn5.1 (fn5.2.1.map (fun v => (v, false)) ++ [((V.int .u8 (byteAt s4 (Int.toNat vfrom_1))), false)] ++ fn5.2.2.map fun v => (v, false)) σ 1 (fun vs6 σ7 =>
  (V.asBool (List.getD vs6 0 cellD).1).bind fun b9 =>
  bif b9 then
  rec0 s_0 (IntKind.wrap .i64 (vfrom_1 + (1 : Int))) of_2 σ7
  else
  some (.ret [((V.int .i64 vfrom_1), false)], σ7)) (fun p8 σ7 => some (.pan p8, σ7))
  else
  some (.ret [((V.int .i64 vfrom_1), false)], σ)
noncomputable def srunl0 (call : CallF) (n : Nat) : Nat → Nat → Int → V → Sto → Option Res
  | 0 => fun _ _ _ _ => none
  | m + 1 => sruns0 call (srunl0 call n m)
noncomputable def srunt0 (s_0 : Nat) (vfrom_1 : Int) (of_2 : V) (σ : Sto) : St := ⟨[.val (V.ptr 69 s_0 0) false, .val (V.int .i64 vfrom_1) false, .val of_2 false, .dead, .dead, .dead, .dead, .dead, .dead, .dead, .dead, .dead, .dead, .dead, .dead, .dead, .dead, .dead, .dead, .dead, .dead, .dead, .dead, .dead, .dead, .dead, .dead], [[], [], [], [], [], [], [], [], [], [], [], [], [], [], [], [], [], [], [], [], [], [], [], [], [], [], []], σ⟩
noncomputable def srunF (call : CallF) (L0 : Nat → Int → V → Sto → Option Res) (s_0 : Nat) (from_1 : Int) (of_2 : V) (σ : Sto) : Option Res :=
  L0 s_0 from_1 of_2 σ
noncomputable def srun (call : CallF) (n : Nat) (s_0 : Nat) (from_1 : Int) (of_2 : V) (σ : Sto) : Option Res := srunF call (srunl0 call n n) s_0 from_1 of_2 σ
theorem sruns0_eq (call : CallF) (n : Nat) (F0 : St → Option Res) (s_0 : Nat) (vfrom_1 : Int) (of_2 : V) (σ : Sto) :
    aexec C srunH call n (codeL (codeL (codeL (codeR srunC)))) 0 (srunt0 s_0 vfrom_1 of_2 σ) (kloop srunk0 F0 (kblk 0 (kseq (fun st' => aexec C srunH call n (codeR (codeR srunC)) 0 st' (kfin C srunD)) (kfin C srunD)))) =
    sruns0 call (fun s_0 vfrom_1 of_2 σ => F0 (srunt0 s_0 vfrom_1 of_2 σ)) s_0 vfrom_1 of_2 σ := by kernel_rfl
theorem srunl0_eq (call : CallF) (n : Nat) : ∀ (m : Nat) (s_0 : Nat) (vfrom_1 : Int) (of_2 : V) (σ : Sto),
    aloop (fun st K => aexec C srunH call n (codeL (codeL (codeL (codeR srunC)))) 0 st K) srunk0 m (srunt0 s_0 vfrom_1 of_2 σ) (kblk 0 (kseq (fun st' => aexec C srunH call n (codeR (codeR srunC)) 0 st' (kfin C srunD)) (kfin C srunD))) = srunl0 call n m s_0 vfrom_1 of_2 σ
  | 0, s_0, vfrom_1, of_2, σ => rfl
  | m + 1, s_0, vfrom_1, of_2, σ => by
    rw [aloop, sruns0_eq]
    simp only [srunl0_eq call n m]
    rfl
theorem srun_eqF (call : CallF) (n : Nat) (s_0 : Nat) (from_1 : Int) (of_2 : V) (σ : Sto) : afun C srunD call n [((V.ptr 69 s_0 0), false), ((V.int .i64 from_1), false), (of_2, false)] σ =
    srunF call (fun s_0 vfrom_1 of_2 σ => aloop (fun st K => aexec C srunH call n (codeL (codeL (codeL (codeR srunC)))) 0 st K) srunk0 n (srunt0 s_0 vfrom_1 of_2 σ) (kblk 0 (kseq (fun st' => aexec C srunH call n (codeR (codeR srunC)) 0 st' (kfin C srunD)) (kfin C srunD)))) s_0 from_1 of_2 σ := by kernel_rfl
theorem srun_eq (call : CallF) (n : Nat) (s_0 : Nat) (from_1 : Int) (of_2 : V) (σ : Sto) : afun C srunD call n [((V.ptr 69 s_0 0), false), ((V.int .i64 from_1), false), (of_2, false)] σ = srun call n s_0 from_1 of_2 σ := by
  rw [srun_eqF]
  simp only [srunl0_eq]
  rfl
theorem srun_call (n : Nat) (s_0 : Nat) (from_1 : Int) (of_2 : V) (σ : Sto) : acall C (n + 1) 66 [((V.ptr 69 s_0 0), false), ((V.int .i64 from_1), false), (of_2, false)] σ = srun (acall C n) n s_0 from_1 of_2 σ :=
  (show acall C (n + 1) 66 [((V.ptr 69 s_0 0), false), ((V.int .i64 from_1), false), (of_2, false)] σ = afun C srunD (acall C n) n [((V.ptr 69 s_0 0), false), ((V.int .i64 from_1), false), (of_2, false)] σ by kernel_rfl).trans (srun_eq _ _ s_0 from_1 of_2 σ)
theorem srun_lim {n : Nat} {s_0 : Nat} {from_1 : Int} {of_2 : V} {b0 b1 b2 : Bool} {σ : Sto} {r : Res} (h : srun (lim C) n s_0 from_1 of_2 σ = some r) : lim C 66 [((V.ptr 69 s_0 0), b0), ((V.int .i64 from_1), b1), (of_2, b2)] σ = some r :=
  lim_of (d := srunD) (by kernel_rfl) (by kernel_rfl) n (show afun C srunD (lim C) n [((V.ptr 69 s_0 0), false), ((V.int .i64 from_1), false), (of_2, false)] σ = some r from (srun_eq (lim C) n s_0 from_1 of_2 σ).trans h)
/-! level.Scanner).Step$1 -/
noncomputable def sblankF (call : CallF) (c_0 : Int) (σ : Sto) : Option Res :=
  bif (c_0 == (32 : Int)) then
  some (.ret [((V.bool true), false)], σ)
  else
  bif (c_0 == (9 : Int)) then
  some (.ret [((V.bool true), false)], σ)
  else
  some (.ret [((V.bool (c_0 == (10 : Int))), false)], σ)
noncomputable def sblank (call : CallF) (n : Nat) (c_0 : Int) (σ : Sto) : Option Res := sblankF call c_0 σ
theorem sblank_eqF (call : CallF) (n : Nat) (c_0 : Int) (σ : Sto) : afun C sblankD call n [((V.int .u8 c_0), false)] σ =
    sblankF call c_0 σ := by kernel_rfl
theorem sblank_eq (call : CallF) (n : Nat) (c_0 : Int) (σ : Sto) : afun C sblankD call n [((V.int .u8 c_0), false)] σ = sblank call n c_0 σ := sblank_eqF call n c_0 σ
theorem sblank_call (n : Nat) (c_0 : Int) (σ : Sto) : acall C (n + 1) 67 [((V.int .u8 c_0), false)] σ = sblank (acall C n) n c_0 σ :=
  (show acall C (n + 1) 67 [((V.int .u8 c_0), false)] σ = afun C sblankD (acall C n) n [((V.int .u8 c_0), false)] σ by kernel_rfl).trans (sblank_eq _ _ c_0 σ)
theorem sblank_lim {n : Nat} {c_0 : Int} {b0 : Bool} {σ : Sto} {r : Res} (h : sblank (lim C) n c_0 σ = some r) : lim C 67 [((V.int .u8 c_0), b0)] σ = some r :=
  lim_of (d := sblankD) (by kernel_rfl) (by kernel_rfl) n (show afun C sblankD (lim C) n [((V.int .u8 c_0), false)] σ = some r from (sblank_eq (lim C) n c_0 σ).trans h)
/-! level.letter -/
noncomputable def letterF (call : CallF) (c_0 : Int) (σ : Sto) : Option Res :=
  bif (decide ((IntKind.wrap .u8 ((BitVec.ofInt (IntKind.bits .u8) c_0 ||| BitVec.ofInt (IntKind.bits .u8) (32 : Int)).toNat : Int)) ≥ (97 : Int))) then
  bif (decide ((IntKind.wrap .u8 ((BitVec.ofInt (IntKind.bits .u8) c_0 ||| BitVec.ofInt (IntKind.bits .u8) (32 : Int)).toNat : Int)) ≤ (122 : Int))) then
  some (.ret [((V.bool true), false)], σ)
  else
  some (.ret [((V.bool (c_0 == (95 : Int))), false)], σ)
  else
  some (.ret [((V.bool (c_0 == (95 : Int))), false)], σ)
noncomputable def letter (call : CallF) (n : Nat) (c_0 : Int) (σ : Sto) : Option Res := letterF call c_0 σ
theorem letter_eqF (call : CallF) (n : Nat) (c_0 : Int) (σ : Sto) : afun C letterD call n [((V.int .u8 c_0), false)] σ =
    letterF call c_0 σ := by kernel_rfl
theorem letter_eq (call : CallF) (n : Nat) (c_0 : Int) (σ : Sto) : afun C letterD call n [((V.int .u8 c_0), false)] σ = letter call n c_0 σ := letter_eqF call n c_0 σ
theorem letter_call (n : Nat) (c_0 : Int) (σ : Sto) : acall C (n + 1) 68 [((V.int .u8 c_0), false)] σ = letter (acall C n) n c_0 σ :=
  (show acall C (n + 1) 68 [((V.int .u8 c_0), false)] σ = afun C letterD (acall C n) n [((V.int .u8 c_0), false)] σ by kernel_rfl).trans (letter_eq _ _ c_0 σ)
theorem letter_lim {n : Nat} {c_0 : Int} {b0 : Bool} {σ : Sto} {r : Res} (h : letter (lim C) n c_0 σ = some r) : lim C 68 [((V.int .u8 c_0), b0)] σ = some r :=
  lim_of (d := letterD) (by kernel_rfl) (by kernel_rfl) n (show afun C letterD (lim C) n [((V.int .u8 c_0), false)] σ = some r from (letter_eq (lim C) n c_0 σ).trans h)
/-! level.Scanner).Step$2 -/
noncomputable def snmbF (call : CallF) (c_0 : Int) (σ : Sto) : Option Res :=
  callK call 68 [((V.int .u8 c_0), false)] σ 1 (fun vs1 σ2 =>
  (V.asBool (List.getD vs1 0 cellD).1).bind fun b4 =>
  bif b4 then
  some (.ret [((V.bool true), false)], σ2)
  else
  callK call 70 [((V.int .u8 c_0), false)] σ2 1 (fun vs5 σ6 =>
  (V.asBool (List.getD vs5 0 cellD).1).bind fun b8 =>
  bif b8 then
  some (.ret [((V.bool true), false)], σ6)
  else
  bif (c_0 == (46 : Int)) then
  some (.ret [((V.bool true), false)], σ6)
  else
  some (.ret [((V.bool (c_0 == (39 : Int))), false)], σ6)) (fun p7 σ6 => some (.pan p7, σ6))) (fun p3 σ2 => some (.pan p3, σ2))
noncomputable def snmb (call : CallF) (n : Nat) (c_0 : Int) (σ : Sto) : Option Res := snmbF call c_0 σ
theorem snmb_eqF (call : CallF) (n : Nat) (c_0 : Int) (σ : Sto) : afun C snmbD call n [((V.int .u8 c_0), false)] σ =
    snmbF call c_0 σ := by kernel_rfl
theorem snmb_eq (call : CallF) (n : Nat) (c_0 : Int) (σ : Sto) : afun C snmbD call n [((V.int .u8 c_0), false)] σ = snmb call n c_0 σ := snmb_eqF call n c_0 σ
theorem snmb_call (n : Nat) (c_0 : Int) (σ : Sto) : acall C (n + 1) 69 [((V.int .u8 c_0), false)] σ = snmb (acall C n) n c_0 σ :=
  (show acall C (n + 1) 69 [((V.int .u8 c_0), false)] σ = afun C snmbD (acall C n) n [((V.int .u8 c_0), false)] σ by kernel_rfl).trans (snmb_eq _ _ c_0 σ)
theorem snmb_lim {n : Nat} {c_0 : Int} {b0 : Bool} {σ : Sto} {r : Res} (h : snmb (lim C) n c_0 σ = some r) : lim C 69 [((V.int .u8 c_0), b0)] σ = some r :=
  lim_of (d := snmbD) (by kernel_rfl) (by kernel_rfl) n (show afun C snmbD (lim C) n [((V.int .u8 c_0), false)] σ = some r from (snmb_eq (lim C) n c_0 σ).trans h)
/-! level.digit -/
noncomputable def digitF (call : CallF) (c_0 : Int) (σ : Sto) : Option Res :=
  bif (decide (c_0 ≥ (48 : Int))) then
  some (.ret [((V.bool (decide (c_0 ≤ (57 : Int)))), false)], σ)
  else
  some (.ret [((V.bool false), false)], σ)
noncomputable def digit (call : CallF) (n : Nat) (c_0 : Int) (σ : Sto) : Option Res := digitF call c_0 σ
theorem digit_eqF (call : CallF) (n : Nat) (c_0 : Int) (σ : Sto) : afun C digitD call n [((V.int .u8 c_0), false)] σ =
    digitF call c_0 σ := by kernel_rfl
theorem digit_eq (call : CallF) (n : Nat) (c_0 : Int) (σ : Sto) : afun C digitD call n [((V.int .u8 c_0), false)] σ = digit call n c_0 σ := digit_eqF call n c_0 σ
theorem digit_call (n : Nat) (c_0 : Int) (σ : Sto) : acall C (n + 1) 70 [((V.int .u8 c_0), false)] σ = digit (acall C n) n c_0 σ :=
  (show acall C (n + 1) 70 [((V.int .u8 c_0), false)] σ = afun C digitD (acall C n) n [((V.int .u8 c_0), false)] σ by kernel_rfl).trans (digit_eq _ _ c_0 σ)
theorem digit_lim {n : Nat} {c_0 : Int} {b0 : Bool} {σ : Sto} {r : Res} (h : digit (lim C) n c_0 σ = some r) : lim C 70 [((V.int .u8 c_0), b0)] σ = some r :=
  lim_of (d := digitD) (by kernel_rfl) (by kernel_rfl) n (show afun C digitD (lim C) n [((V.int .u8 c_0), false)] σ = some r from (digit_eq (lim C) n c_0 σ).trans h)
/-! slices.Index[[]string,string] -/
noncomputable def indexk0 : List Nat := [0, 1, 7, 8]
noncomputable def indexs0 (call : CallF) (rec0 : List (List V) → ByteArray → Int → Int → Sto → Option Res) (s_0 : List (List V)) (v_1 : ByteArray) (t_7 : Int) (t_8 : Int) (σ : Sto) : Option Res :=
  bif (decide (t_8 < t_7)) then
  (grd (decide (0 ≤ t_8) && decide (t_8 < s_0.length))).bind fun _ =>
  (V.asStr (List.getD (List.getD s_0 (Int.toNat t_8) []) 0 V.any)).bind fun s1 =>
  bif (v_1.toList == s1.toList) then
  some (.ret [((V.int .i64 t_8), false)], σ)
  else
  rec0 s_0 v_1 t_7 (IntKind.wrap .i64 (t_8 + (1 : Int))) σ
  else
  some (.ret [((V.int .i64 (-1 : Int)), false)], σ)
noncomputable def indexl0 (call : CallF) (n : Nat) : Nat → List (List V) → ByteArray → Int → Int → Sto → Option Res
  | 0 => fun _ _ _ _ _ => none
  | m + 1 => indexs0 call (indexl0 call n m)
noncomputable def indext0 (s_0 : List (List V)) (v_1 : ByteArray) (t_7 : Int) (t_8 : Int) (σ : Sto) : St := ⟨[.val (V.slice 1 9 s_0) false, .val (V.str v_1) false, .dead, .dead, .dead, .dead, .dead, .val (V.int .i64 t_7) false, .val (V.int .i64 t_8) false, .dead, .dead, .dead, .dead, .dead, .dead, .dead, .dead, .dead, .dead], [[], [], [], [], [], [], [], [], [], [], [], [], [], [], [], [], [], [], []], σ⟩
noncomputable def indexF (call : CallF) (L0 : List (List V) → ByteArray → Int → Int → Sto → Option Res) (s_0 : List (List V)) (v_1 : ByteArray) (σ : Sto) : Option Res :=
  L0 s_0 v_1 (s_0.length : Int) (0 : Int) σ
noncomputable def index (call : CallF) (n : Nat) (s_0 : List (List V)) (v_1 : ByteArray) (σ : Sto) : Option Res := indexF call (indexl0 call n n) s_0 v_1 σ
theorem indexs0_eq (call : CallF) (n : Nat) (F0 : St → Option Res) (s_0 : List (List V)) (v_1 : ByteArray) (t_7 : Int) (t_8 : Int) (σ : Sto) :
    aexec C indexH call n (codeL (codeL (codeR (codeL (codeR indexC))))) 0 (indext0 s_0 v_1 t_7 t_8 σ) (kloop indexk0 F0 (kblk 0 (kseq (fun st' => aexec C indexH call n (codeR (codeR indexC)) 0 st' (kfin C indexD)) (kfin C indexD)))) =
    indexs0 call (fun s_0 v_1 t_7 t_8 σ => F0 (indext0 s_0 v_1 t_7 t_8 σ)) s_0 v_1 t_7 t_8 σ := by kernel_rfl
theorem indexl0_eq (call : CallF) (n : Nat) : ∀ (m : Nat) (s_0 : List (List V)) (v_1 : ByteArray) (t_7 : Int) (t_8 : Int) (σ : Sto),
    aloop (fun st K => aexec C indexH call n (codeL (codeL (codeR (codeL (codeR indexC))))) 0 st K) indexk0 m (indext0 s_0 v_1 t_7 t_8 σ) (kblk 0 (kseq (fun st' => aexec C indexH call n (codeR (codeR indexC)) 0 st' (kfin C indexD)) (kfin C indexD))) = indexl0 call n m s_0 v_1 t_7 t_8 σ
  | 0, s_0, v_1, t_7, t_8, σ => rfl
  | m + 1, s_0, v_1, t_7, t_8, σ => by
    rw [aloop, indexs0_eq]
    simp only [indexl0_eq call n m]
    rfl
theorem index_eqF (call : CallF) (n : Nat) (s_0 : List (List V)) (v_1 : ByteArray) (σ : Sto) : afun C indexD call n [((V.slice 1 9 s_0), false), ((V.str v_1), false)] σ =
    indexF call (fun s_0 v_1 t_7 t_8 σ => aloop (fun st K => aexec C indexH call n (codeL (codeL (codeR (codeL (codeR indexC))))) 0 st K) indexk0 n (indext0 s_0 v_1 t_7 t_8 σ) (kblk 0 (kseq (fun st' => aexec C indexH call n (codeR (codeR indexC)) 0 st' (kfin C indexD)) (kfin C indexD)))) s_0 v_1 σ := by kernel_rfl
theorem index_eq (call : CallF) (n : Nat) (s_0 : List (List V)) (v_1 : ByteArray) (σ : Sto) : afun C indexD call n [((V.slice 1 9 s_0), false), ((V.str v_1), false)] σ = index call n s_0 v_1 σ := by
  rw [index_eqF]
  simp only [indexl0_eq]
  rfl
theorem index_call (n : Nat) (s_0 : List (List V)) (v_1 : ByteArray) (σ : Sto) : acall C (n + 1) 44 [((V.slice 1 9 s_0), false), ((V.str v_1), false)] σ = index (acall C n) n s_0 v_1 σ :=
  (show acall C (n + 1) 44 [((V.slice 1 9 s_0), false), ((V.str v_1), false)] σ = afun C indexD (acall C n) n [((V.slice 1 9 s_0), false), ((V.str v_1), false)] σ by kernel_rfl).trans (index_eq _ _ s_0 v_1 σ)
theorem index_lim {n : Nat} {s_0 : List (List V)} {v_1 : ByteArray} {b0 b1 : Bool} {σ : Sto} {r : Res} (h : index (lim C) n s_0 v_1 σ = some r) : lim C 44 [((V.slice 1 9 s_0), b0), ((V.str v_1), b1)] σ = some r :=
  lim_of (d := indexD) (by kernel_rfl) (by kernel_rfl) n (show afun C indexD (lim C) n [((V.slice 1 9 s_0), false), ((V.str v_1), false)] σ = some r from (index_eq (lim C) n s_0 v_1 σ).trans h)
end Go.Ab.Mk
