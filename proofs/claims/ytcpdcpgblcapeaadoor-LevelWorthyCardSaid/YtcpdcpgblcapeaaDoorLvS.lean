/- AbMk3: printed by program: functions of the program, their code told as plain Lean, and the equations. AbMk4: printed by program: functions of the program, their code told as plain Lean, and the equations. The plain laws of the functions over levels: worth, index, contains, among, sameNames, sameLevel. The plain laws: parameters, printing, substitution. The plain laws: printing. The plain laws: substitution; a small number. The plain laws: the reader's tokens. The plain laws: the reader. The plain laws: the reader's levels. The plain laws: the program's scanner. -/
import Derived.Test.YtcpdcpgblcapeaaDoorAbMk0
import Derived.Test.YtcpdcpgblcapeaaDoorLvO1
import Derived.Test.YtcpdcpgblcapeaaDoorAbMk2
import Derived.Laws.Strings
set_option linter.unusedSimpArgs false
set_option linter.unusedVariables false
set_option linter.deprecated false
section
set_option maxRecDepth 100000
namespace Go.Ab.Mk
open Go.Proofs Go.Ab
/-! level.Scanner).End -/
noncomputable def sendF (call : CallF) (s_0 : Nat) (σ : Sto) : Option Res :=
  (memGet σ (V.ptr 90 s_0 2) false 1).bind fun m1 =>
  (V.asStr m1).bind fun s2 =>
  bif (!(s2.toList == (ByteArray.mk #[]).toList)) then
  callK call 51 [((V.ptr 90 s_0 0), false)] σ 0 (fun vs3 σ4 =>
  some (.ret [], σ4)) (fun p5 σ4 => some (.pan p5, σ4))
  else
  some (.ret [], σ)
noncomputable def send (call : CallF) (n : Nat) (s_0 : Nat) (σ : Sto) : Option Res := sendF call s_0 σ
theorem send_eqF (call : CallF) (n : Nat) (s_0 : Nat) (σ : Sto) : afun C sendD call n [((V.ptr 90 s_0 0), false)] σ =
    sendF call s_0 σ := by kernel_rfl
theorem send_eq (call : CallF) (n : Nat) (s_0 : Nat) (σ : Sto) : afun C sendD call n [((V.ptr 90 s_0 0), false)] σ = send call n s_0 σ := send_eqF call n s_0 σ
theorem send_call (n : Nat) (s_0 : Nat) (σ : Sto) : acall C (n + 1) 36 [((V.ptr 90 s_0 0), false)] σ = send (acall C n) n s_0 σ :=
  (show acall C (n + 1) 36 [((V.ptr 90 s_0 0), false)] σ = afun C sendD (acall C n) n [((V.ptr 90 s_0 0), false)] σ by kernel_rfl).trans (send_eq _ _ s_0 σ)
theorem send_lim {n : Nat} {s_0 : Nat} {b0 : Bool} {σ : Sto} {r : Res} (h : send (lim C) n s_0 σ = some r) : lim C 36 [((V.ptr 90 s_0 0), b0)] σ = some r :=
  lim_of (d := sendD) (by kernel_rfl) (by kernel_rfl) n (show afun C sendD (lim C) n [((V.ptr 90 s_0 0), false)] σ = some r from (send_eq (lim C) n s_0 σ).trans h)
/-! level.Scanner).Step -/
noncomputable def sstepF (call : CallF) (s_0 : Nat) (σ : Sto) : Option Res :=
  (memGet σ (V.ptr 90 s_0 1) false 1).bind fun m1 =>
  callK call 58 [((V.ptr 90 s_0 0), false), (m1, false), ((V.func (.func 59) [] []), false)] σ 1 (fun vs2 σ3 =>
  (grd (V.fits (List.getD vs2 0 cellD).1 false 1)).bind fun _ =>
  (memSet σ3 (V.ptr 90 s_0 3) [((List.getD vs2 0 cellD).1, false)]).bind fun m5 =>
  (memGet m5 (V.ptr 90 s_0 3) false 1).bind fun m6 =>
  (memGet m5 (V.ptr 90 s_0 0) false 1).bind fun m7 =>
  (V.asStr m7).bind fun s8 =>
  (V.asInt m6 .i64).bind fun i9 =>
  bif (i9 == (s8.size : Int)) then
  (memGet m5 (V.ptr 90 s_0 3) false 1).bind fun m10 =>
  (memSet m5 (V.ptr 90 s_0 2) [((V.str (ByteArray.mk #[])), false)]).bind fun m11 =>
  (grd (V.fits m10 false 1)).bind fun _ =>
  (memSet m11 (V.ptr 90 s_0 1) [(m10, false)]).bind fun m12 =>
  some (.ret [], m12)
  else
  (memGet m5 (V.ptr 90 s_0 3) false 1).bind fun m13 =>
  (V.asInt m13 .i64).bind fun i14 =>
  (memGet m5 (V.ptr 90 s_0 0) false 1).bind fun m15 =>
  (memGet m5 (V.ptr 90 s_0 3) false 1).bind fun m16 =>
  (V.asStr m15).bind fun s17 =>
  (V.asInt m16 .i64).bind fun i18 =>
  (grd (decide (0 ≤ i18) && decide (i18 < s17.size))).bind fun _ =>
  bif ((byteAt s17 (Int.toNat i18)) == (40 : Int)) then
  bif (decide ((IntKind.wrap .i64 (i14 + (1 : Int))) < (0 : Int))) then
  (memSet m5 (V.ptr 90 s_0 2) [((V.str (ByteArray.mk #[0])), false)]).bind fun m19 =>
  some (.ret [], m19)
  else
  (memGet m5 (V.ptr 90 s_0 0) false 1).bind fun m20 =>
  (memGet m5 (V.ptr 90 s_0 3) false 1).bind fun m21 =>
  (V.asStr m20).bind fun s22 =>
  (V.asInt m21 .i64).bind fun i23 =>
  (grd (decide (0 ≤ i23) && decide (i23 ≤ (IntKind.wrap .i64 (i14 + (1 : Int)))) && decide ((IntKind.wrap .i64 (i14 + (1 : Int))) ≤ s22.size))).bind fun _ =>
  (memSet m5 (V.ptr 90 s_0 2) [((V.str (s22.extract (Int.toNat i23) (Int.toNat (IntKind.wrap .i64 (i14 + (1 : Int)))))), false)]).bind fun m24 =>
  (memSet m24 (V.ptr 90 s_0 1) [((V.int .i64 (IntKind.wrap .i64 (i14 + (1 : Int)))), false)]).bind fun m25 =>
  some (.ret [], m25)
  else
  bif ((byteAt s17 (Int.toNat i18)) == (41 : Int)) then
  bif (decide ((IntKind.wrap .i64 (i14 + (1 : Int))) < (0 : Int))) then
  (memSet m5 (V.ptr 90 s_0 2) [((V.str (ByteArray.mk #[0])), false)]).bind fun m26 =>
  some (.ret [], m26)
  else
  (memGet m5 (V.ptr 90 s_0 0) false 1).bind fun m27 =>
  (memGet m5 (V.ptr 90 s_0 3) false 1).bind fun m28 =>
  (V.asStr m27).bind fun s29 =>
  (V.asInt m28 .i64).bind fun i30 =>
  (grd (decide (0 ≤ i30) && decide (i30 ≤ (IntKind.wrap .i64 (i14 + (1 : Int)))) && decide ((IntKind.wrap .i64 (i14 + (1 : Int))) ≤ s29.size))).bind fun _ =>
  (memSet m5 (V.ptr 90 s_0 2) [((V.str (s29.extract (Int.toNat i30) (Int.toNat (IntKind.wrap .i64 (i14 + (1 : Int)))))), false)]).bind fun m31 =>
  (memSet m31 (V.ptr 90 s_0 1) [((V.int .i64 (IntKind.wrap .i64 (i14 + (1 : Int)))), false)]).bind fun m32 =>
  some (.ret [], m32)
  else
  callK call 60 [((V.int .u8 (byteAt s17 (Int.toNat i18))), false)] m5 1 (fun vs33 σ34 =>
  (V.asBool (List.getD vs33 0 cellD).1).bind fun b36 =>
  bif b36 then
  (memGet σ34 (V.ptr 90 s_0 3) false 1).bind fun m37 =>
  callK call 58 [((V.ptr 90 s_0 0), false), (m37, false), ((V.func (.func 61) [] []), false)] σ34 1 (fun vs38 σ39 =>
  (memGet σ39 (V.ptr 90 s_0 3) false 1).bind fun m41 =>
  (V.asInt (List.getD vs38 0 cellD).1 .i64).bind fun i42 =>
  (V.asInt m41 .i64).bind fun i43 =>
  bif (decide ((IntKind.wrap .i64 (i42 - i43)) > (40 : Int))) then
  (memSet σ39 (V.ptr 90 s_0 2) [((V.str (ByteArray.mk #[0])), false)]).bind fun m44 =>
  some (.ret [], m44)
  else
  (V.asInt (List.getD vs38 0 cellD).1 .i64).bind fun i45 =>
  bif (decide (i45 < (0 : Int))) then
  (memSet σ39 (V.ptr 90 s_0 2) [((V.str (ByteArray.mk #[0])), false)]).bind fun m46 =>
  some (.ret [], m46)
  else
  (memGet σ39 (V.ptr 90 s_0 0) false 1).bind fun m47 =>
  (memGet σ39 (V.ptr 90 s_0 3) false 1).bind fun m48 =>
  (V.asStr m47).bind fun s49 =>
  (V.asInt m48 .i64).bind fun i50 =>
  (V.asInt (List.getD vs38 0 cellD).1 .i64).bind fun i51 =>
  (grd (decide (0 ≤ i50) && decide (i50 ≤ i51) && decide (i51 ≤ s49.size))).bind fun _ =>
  (memSet σ39 (V.ptr 90 s_0 2) [((V.str (s49.extract (Int.toNat i50) (Int.toNat i51))), false)]).bind fun m52 =>
  (grd (V.fits (List.getD vs38 0 cellD).1 false 1)).bind fun _ =>
  (memSet m52 (V.ptr 90 s_0 1) [((List.getD vs38 0 cellD).1, false)]).bind fun m53 =>
  some (.ret [], m53)) (fun p40 σ39 => some (.pan p40, σ39))
  else
  bif ((byteAt s17 (Int.toNat i18)) == (35 : Int)) then
  (memGet σ34 (V.ptr 90 s_0 3) false 1).bind fun m54 =>
  bif ((byteAt s17 (Int.toNat i18)) == (35 : Int)) then
  (V.asInt m54 .i64).bind fun i55 =>
  callK call 58 [((V.ptr 90 s_0 0), false), ((V.int .i64 (IntKind.wrap .i64 (i55 + (1 : Int)))), false), ((V.func (.func 62) [] []), false)] σ34 1 (fun vs56 σ57 =>
  (V.asInt (List.getD vs56 0 cellD).1 .i64).bind fun i59 =>
  bif ((IntKind.wrap .i64 (i59 - (IntKind.wrap .i64 (i55 + (1 : Int))))) == (0 : Int)) then
  (memSet σ57 (V.ptr 90 s_0 2) [((V.str (ByteArray.mk #[0])), false)]).bind fun m60 =>
  some (.ret [], m60)
  else
  bif (decide ((IntKind.wrap .i64 (i59 - (IntKind.wrap .i64 (i55 + (1 : Int))))) > (5 : Int))) then
  (memSet σ57 (V.ptr 90 s_0 2) [((V.str (ByteArray.mk #[0])), false)]).bind fun m61 =>
  some (.ret [], m61)
  else
  bif (decide ((IntKind.wrap .i64 (i59 - (IntKind.wrap .i64 (i55 + (1 : Int))))) > (1 : Int))) then
  (memGet σ57 (V.ptr 90 s_0 0) false 1).bind fun m62 =>
  (V.asStr m62).bind fun s63 =>
  (grd (decide (0 ≤ (IntKind.wrap .i64 (i55 + (1 : Int)))) && decide ((IntKind.wrap .i64 (i55 + (1 : Int))) < s63.size))).bind fun _ =>
  bif ((byteAt s63 (Int.toNat (IntKind.wrap .i64 (i55 + (1 : Int))))) == (48 : Int)) then
  (memSet σ57 (V.ptr 90 s_0 2) [((V.str (ByteArray.mk #[0])), false)]).bind fun m64 =>
  some (.ret [], m64)
  else
  (V.asInt (List.getD vs56 0 cellD).1 .i64).bind fun i65 =>
  bif (decide (i65 < (0 : Int))) then
  (memSet σ57 (V.ptr 90 s_0 2) [((V.str (ByteArray.mk #[0])), false)]).bind fun m66 =>
  some (.ret [], m66)
  else
  (memGet σ57 (V.ptr 90 s_0 0) false 1).bind fun m67 =>
  (memGet σ57 (V.ptr 90 s_0 3) false 1).bind fun m68 =>
  (V.asStr m67).bind fun s69 =>
  (V.asInt m68 .i64).bind fun i70 =>
  (V.asInt (List.getD vs56 0 cellD).1 .i64).bind fun i71 =>
  (grd (decide (0 ≤ i70) && decide (i70 ≤ i71) && decide (i71 ≤ s69.size))).bind fun _ =>
  (memSet σ57 (V.ptr 90 s_0 2) [((V.str (s69.extract (Int.toNat i70) (Int.toNat i71))), false)]).bind fun m72 =>
  (grd (V.fits (List.getD vs56 0 cellD).1 false 1)).bind fun _ =>
  (memSet m72 (V.ptr 90 s_0 1) [((List.getD vs56 0 cellD).1, false)]).bind fun m73 =>
  some (.ret [], m73)
  else
  (V.asInt (List.getD vs56 0 cellD).1 .i64).bind fun i74 =>
  bif (decide (i74 < (0 : Int))) then
  (memSet σ57 (V.ptr 90 s_0 2) [((V.str (ByteArray.mk #[0])), false)]).bind fun m75 =>
  some (.ret [], m75)
  else
  (memGet σ57 (V.ptr 90 s_0 0) false 1).bind fun m76 =>
  (memGet σ57 (V.ptr 90 s_0 3) false 1).bind fun m77 =>
  (V.asStr m76).bind fun s78 =>
  (V.asInt m77 .i64).bind fun i79 =>
  (V.asInt (List.getD vs56 0 cellD).1 .i64).bind fun i80 =>
  (grd (decide (0 ≤ i79) && decide (i79 ≤ i80) && decide (i80 ≤ s78.size))).bind fun _ =>
  (memSet σ57 (V.ptr 90 s_0 2) [((V.str (s78.extract (Int.toNat i79) (Int.toNat i80))), false)]).bind fun m81 =>
  (grd (V.fits (List.getD vs56 0 cellD).1 false 1)).bind fun _ =>
  (memSet m81 (V.ptr 90 s_0 1) [((List.getD vs56 0 cellD).1, false)]).bind fun m82 =>
  some (.ret [], m82)) (fun p58 σ57 => some (.pan p58, σ57))
  else
  callK call 58 [((V.ptr 90 s_0 0), false), (m54, false), ((V.func (.func 62) [] []), false)] σ34 1 (fun vs83 σ84 =>
  (V.asInt (List.getD vs83 0 cellD).1 .i64).bind fun i86 =>
  (V.asInt m54 .i64).bind fun i87 =>
  bif ((IntKind.wrap .i64 (i86 - i87)) == (0 : Int)) then
  (memSet σ84 (V.ptr 90 s_0 2) [((V.str (ByteArray.mk #[0])), false)]).bind fun m88 =>
  some (.ret [], m88)
  else
  bif (decide ((IntKind.wrap .i64 (i86 - i87)) > (5 : Int))) then
  (memSet σ84 (V.ptr 90 s_0 2) [((V.str (ByteArray.mk #[0])), false)]).bind fun m89 =>
  some (.ret [], m89)
  else
  bif (decide ((IntKind.wrap .i64 (i86 - i87)) > (1 : Int))) then
  (memGet σ84 (V.ptr 90 s_0 0) false 1).bind fun m90 =>
  (V.asStr m90).bind fun s91 =>
  (V.asInt m54 .i64).bind fun i92 =>
  (grd (decide (0 ≤ i92) && decide (i92 < s91.size))).bind fun _ =>
  bif ((byteAt s91 (Int.toNat i92)) == (48 : Int)) then
  (memSet σ84 (V.ptr 90 s_0 2) [((V.str (ByteArray.mk #[0])), false)]).bind fun m93 =>
  some (.ret [], m93)
  else
  (V.asInt (List.getD vs83 0 cellD).1 .i64).bind fun i94 =>
  bif (decide (i94 < (0 : Int))) then
  (memSet σ84 (V.ptr 90 s_0 2) [((V.str (ByteArray.mk #[0])), false)]).bind fun m95 =>
  some (.ret [], m95)
  else
  (memGet σ84 (V.ptr 90 s_0 0) false 1).bind fun m96 =>
  (memGet σ84 (V.ptr 90 s_0 3) false 1).bind fun m97 =>
  (V.asStr m96).bind fun s98 =>
  (V.asInt m97 .i64).bind fun i99 =>
  (V.asInt (List.getD vs83 0 cellD).1 .i64).bind fun i100 =>
  (grd (decide (0 ≤ i99) && decide (i99 ≤ i100) && decide (i100 ≤ s98.size))).bind fun _ =>
  (memSet σ84 (V.ptr 90 s_0 2) [((V.str (s98.extract (Int.toNat i99) (Int.toNat i100))), false)]).bind fun m101 =>
  (grd (V.fits (List.getD vs83 0 cellD).1 false 1)).bind fun _ =>
  (memSet m101 (V.ptr 90 s_0 1) [((List.getD vs83 0 cellD).1, false)]).bind fun m102 =>
  some (.ret [], m102)
  else
  (V.asInt (List.getD vs83 0 cellD).1 .i64).bind fun i103 =>
  bif (decide (i103 < (0 : Int))) then
  (memSet σ84 (V.ptr 90 s_0 2) [((V.str (ByteArray.mk #[0])), false)]).bind fun m104 =>
  some (.ret [], m104)
  else
  (memGet σ84 (V.ptr 90 s_0 0) false 1).bind fun m105 =>
  (memGet σ84 (V.ptr 90 s_0 3) false 1).bind fun m106 =>
  (V.asStr m105).bind fun s107 =>
  (V.asInt m106 .i64).bind fun i108 =>
  (V.asInt (List.getD vs83 0 cellD).1 .i64).bind fun i109 =>
  (grd (decide (0 ≤ i108) && decide (i108 ≤ i109) && decide (i109 ≤ s107.size))).bind fun _ =>
  (memSet σ84 (V.ptr 90 s_0 2) [((V.str (s107.extract (Int.toNat i108) (Int.toNat i109))), false)]).bind fun m110 =>
  (grd (V.fits (List.getD vs83 0 cellD).1 false 1)).bind fun _ =>
  (memSet m110 (V.ptr 90 s_0 1) [((List.getD vs83 0 cellD).1, false)]).bind fun m111 =>
  some (.ret [], m111)) (fun p85 σ84 => some (.pan p85, σ84))
  else
  callK call 62 [((V.int .u8 (byteAt s17 (Int.toNat i18))), false)] σ34 1 (fun vs112 σ113 =>
  (V.asBool (List.getD vs112 0 cellD).1).bind fun b115 =>
  bif b115 then
  (memGet σ113 (V.ptr 90 s_0 3) false 1).bind fun m116 =>
  bif ((byteAt s17 (Int.toNat i18)) == (35 : Int)) then
  (V.asInt m116 .i64).bind fun i117 =>
  callK call 58 [((V.ptr 90 s_0 0), false), ((V.int .i64 (IntKind.wrap .i64 (i117 + (1 : Int)))), false), ((V.func (.func 62) [] []), false)] σ113 1 (fun vs118 σ119 =>
  (V.asInt (List.getD vs118 0 cellD).1 .i64).bind fun i121 =>
  bif ((IntKind.wrap .i64 (i121 - (IntKind.wrap .i64 (i117 + (1 : Int))))) == (0 : Int)) then
  (memSet σ119 (V.ptr 90 s_0 2) [((V.str (ByteArray.mk #[0])), false)]).bind fun m122 =>
  some (.ret [], m122)
  else
  bif (decide ((IntKind.wrap .i64 (i121 - (IntKind.wrap .i64 (i117 + (1 : Int))))) > (5 : Int))) then
  (memSet σ119 (V.ptr 90 s_0 2) [((V.str (ByteArray.mk #[0])), false)]).bind fun m123 =>
  some (.ret [], m123)
  else
  bif (decide ((IntKind.wrap .i64 (i121 - (IntKind.wrap .i64 (i117 + (1 : Int))))) > (1 : Int))) then
  (memGet σ119 (V.ptr 90 s_0 0) false 1).bind fun m124 =>
  (V.asStr m124).bind fun s125 =>
  (grd (decide (0 ≤ (IntKind.wrap .i64 (i117 + (1 : Int)))) && decide ((IntKind.wrap .i64 (i117 + (1 : Int))) < s125.size))).bind fun _ =>
  bif ((byteAt s125 (Int.toNat (IntKind.wrap .i64 (i117 + (1 : Int))))) == (48 : Int)) then
  (memSet σ119 (V.ptr 90 s_0 2) [((V.str (ByteArray.mk #[0])), false)]).bind fun m126 =>
  some (.ret [], m126)
  else
  (V.asInt (List.getD vs118 0 cellD).1 .i64).bind fun i127 =>
  bif (decide (i127 < (0 : Int))) then
  (memSet σ119 (V.ptr 90 s_0 2) [((V.str (ByteArray.mk #[0])), false)]).bind fun m128 =>
  some (.ret [], m128)
  else
  (memGet σ119 (V.ptr 90 s_0 0) false 1).bind fun m129 =>
  (memGet σ119 (V.ptr 90 s_0 3) false 1).bind fun m130 =>
  (V.asStr m129).bind fun s131 =>
  (V.asInt m130 .i64).bind fun i132 =>
  (V.asInt (List.getD vs118 0 cellD).1 .i64).bind fun i133 =>
  (grd (decide (0 ≤ i132) && decide (i132 ≤ i133) && decide (i133 ≤ s131.size))).bind fun _ =>
  (memSet σ119 (V.ptr 90 s_0 2) [((V.str (s131.extract (Int.toNat i132) (Int.toNat i133))), false)]).bind fun m134 =>
  (grd (V.fits (List.getD vs118 0 cellD).1 false 1)).bind fun _ =>
  (memSet m134 (V.ptr 90 s_0 1) [((List.getD vs118 0 cellD).1, false)]).bind fun m135 =>
  some (.ret [], m135)
  else
  (V.asInt (List.getD vs118 0 cellD).1 .i64).bind fun i136 =>
  bif (decide (i136 < (0 : Int))) then
  (memSet σ119 (V.ptr 90 s_0 2) [((V.str (ByteArray.mk #[0])), false)]).bind fun m137 =>
  some (.ret [], m137)
  else
  (memGet σ119 (V.ptr 90 s_0 0) false 1).bind fun m138 =>
  (memGet σ119 (V.ptr 90 s_0 3) false 1).bind fun m139 =>
  (V.asStr m138).bind fun s140 =>
  (V.asInt m139 .i64).bind fun i141 =>
  (V.asInt (List.getD vs118 0 cellD).1 .i64).bind fun i142 =>
  (grd (decide (0 ≤ i141) && decide (i141 ≤ i142) && decide (i142 ≤ s140.size))).bind fun _ =>
  (memSet σ119 (V.ptr 90 s_0 2) [((V.str (s140.extract (Int.toNat i141) (Int.toNat i142))), false)]).bind fun m143 =>
  (grd (V.fits (List.getD vs118 0 cellD).1 false 1)).bind fun _ =>
  (memSet m143 (V.ptr 90 s_0 1) [((List.getD vs118 0 cellD).1, false)]).bind fun m144 =>
  some (.ret [], m144)) (fun p120 σ119 => some (.pan p120, σ119))
  else
  callK call 58 [((V.ptr 90 s_0 0), false), (m116, false), ((V.func (.func 62) [] []), false)] σ113 1 (fun vs145 σ146 =>
  (V.asInt (List.getD vs145 0 cellD).1 .i64).bind fun i148 =>
  (V.asInt m116 .i64).bind fun i149 =>
  bif ((IntKind.wrap .i64 (i148 - i149)) == (0 : Int)) then
  (memSet σ146 (V.ptr 90 s_0 2) [((V.str (ByteArray.mk #[0])), false)]).bind fun m150 =>
  some (.ret [], m150)
  else
  bif (decide ((IntKind.wrap .i64 (i148 - i149)) > (5 : Int))) then
  (memSet σ146 (V.ptr 90 s_0 2) [((V.str (ByteArray.mk #[0])), false)]).bind fun m151 =>
  some (.ret [], m151)
  else
  bif (decide ((IntKind.wrap .i64 (i148 - i149)) > (1 : Int))) then
  (memGet σ146 (V.ptr 90 s_0 0) false 1).bind fun m152 =>
  (V.asStr m152).bind fun s153 =>
  (V.asInt m116 .i64).bind fun i154 =>
  (grd (decide (0 ≤ i154) && decide (i154 < s153.size))).bind fun _ =>
  bif ((byteAt s153 (Int.toNat i154)) == (48 : Int)) then
  (memSet σ146 (V.ptr 90 s_0 2) [((V.str (ByteArray.mk #[0])), false)]).bind fun m155 =>
  some (.ret [], m155)
  else
  (V.asInt (List.getD vs145 0 cellD).1 .i64).bind fun i156 =>
  bif (decide (i156 < (0 : Int))) then
  (memSet σ146 (V.ptr 90 s_0 2) [((V.str (ByteArray.mk #[0])), false)]).bind fun m157 =>
  some (.ret [], m157)
  else
  (memGet σ146 (V.ptr 90 s_0 0) false 1).bind fun m158 =>
  (memGet σ146 (V.ptr 90 s_0 3) false 1).bind fun m159 =>
  (V.asStr m158).bind fun s160 =>
  (V.asInt m159 .i64).bind fun i161 =>
  (V.asInt (List.getD vs145 0 cellD).1 .i64).bind fun i162 =>
  (grd (decide (0 ≤ i161) && decide (i161 ≤ i162) && decide (i162 ≤ s160.size))).bind fun _ =>
  (memSet σ146 (V.ptr 90 s_0 2) [((V.str (s160.extract (Int.toNat i161) (Int.toNat i162))), false)]).bind fun m163 =>
  (grd (V.fits (List.getD vs145 0 cellD).1 false 1)).bind fun _ =>
  (memSet m163 (V.ptr 90 s_0 1) [((List.getD vs145 0 cellD).1, false)]).bind fun m164 =>
  some (.ret [], m164)
  else
  (V.asInt (List.getD vs145 0 cellD).1 .i64).bind fun i165 =>
  bif (decide (i165 < (0 : Int))) then
  (memSet σ146 (V.ptr 90 s_0 2) [((V.str (ByteArray.mk #[0])), false)]).bind fun m166 =>
  some (.ret [], m166)
  else
  (memGet σ146 (V.ptr 90 s_0 0) false 1).bind fun m167 =>
  (memGet σ146 (V.ptr 90 s_0 3) false 1).bind fun m168 =>
  (V.asStr m167).bind fun s169 =>
  (V.asInt m168 .i64).bind fun i170 =>
  (V.asInt (List.getD vs145 0 cellD).1 .i64).bind fun i171 =>
  (grd (decide (0 ≤ i170) && decide (i170 ≤ i171) && decide (i171 ≤ s169.size))).bind fun _ =>
  (memSet σ146 (V.ptr 90 s_0 2) [((V.str (s169.extract (Int.toNat i170) (Int.toNat i171))), false)]).bind fun m172 =>
  (grd (V.fits (List.getD vs145 0 cellD).1 false 1)).bind fun _ =>
  (memSet m172 (V.ptr 90 s_0 1) [((List.getD vs145 0 cellD).1, false)]).bind fun m173 =>
  some (.ret [], m173)) (fun p147 σ146 => some (.pan p147, σ146))
  else
  (memSet σ113 (V.ptr 90 s_0 2) [((V.str (ByteArray.mk #[0])), false)]).bind fun m174 =>
  some (.ret [], m174)) (fun p114 σ113 => some (.pan p114, σ113))) (fun p35 σ34 => some (.pan p35, σ34))) (fun p4 σ3 => some (.pan p4, σ3))
noncomputable def sstep (call : CallF) (n : Nat) (s_0 : Nat) (σ : Sto) : Option Res := sstepF call s_0 σ
theorem sstep_eqF (call : CallF) (n : Nat) (s_0 : Nat) (σ : Sto) : afun C sstepD call n [((V.ptr 90 s_0 0), false)] σ =
    sstepF call s_0 σ := by kernel_rfl
theorem sstep_eq (call : CallF) (n : Nat) (s_0 : Nat) (σ : Sto) : afun C sstepD call n [((V.ptr 90 s_0 0), false)] σ = sstep call n s_0 σ := sstep_eqF call n s_0 σ
theorem sstep_call (n : Nat) (s_0 : Nat) (σ : Sto) : acall C (n + 1) 50 [((V.ptr 90 s_0 0), false)] σ = sstep (acall C n) n s_0 σ :=
  (show acall C (n + 1) 50 [((V.ptr 90 s_0 0), false)] σ = afun C sstepD (acall C n) n [((V.ptr 90 s_0 0), false)] σ by kernel_rfl).trans (sstep_eq _ _ s_0 σ)
theorem sstep_lim {n : Nat} {s_0 : Nat} {b0 : Bool} {σ : Sto} {r : Res} (h : sstep (lim C) n s_0 σ = some r) : lim C 50 [((V.ptr 90 s_0 0), b0)] σ = some r :=
  lim_of (d := sstepD) (by kernel_rfl) (by kernel_rfl) n (show afun C sstepD (lim C) n [((V.ptr 90 s_0 0), false)] σ = some r from (sstep_eq (lim C) n s_0 σ).trans h)
/-! level.Scanner).Fail -/
noncomputable def sfailF (call : CallF) (s_0 : Nat) (σ : Sto) : Option Res :=
  (memGet σ (V.ptr 90 s_0 3) false 1).bind fun m1 =>
  (grd ((V.fits m1 false 1 && true))).bind fun _ =>
  some (.pan (V.iface 66 (V.ptr 33 (List.length σ) 0)), (σ ++ [[((V.int .i64 (1 : Int)), false), (m1, false)]]))
noncomputable def sfail (call : CallF) (n : Nat) (s_0 : Nat) (σ : Sto) : Option Res := sfailF call s_0 σ
theorem sfail_eqF (call : CallF) (n : Nat) (s_0 : Nat) (σ : Sto) : afun C sfailD call n [((V.ptr 90 s_0 0), false)] σ =
    sfailF call s_0 σ := by kernel_rfl
theorem sfail_eq (call : CallF) (n : Nat) (s_0 : Nat) (σ : Sto) : afun C sfailD call n [((V.ptr 90 s_0 0), false)] σ = sfail call n s_0 σ := sfail_eqF call n s_0 σ
theorem sfail_call (n : Nat) (s_0 : Nat) (σ : Sto) : acall C (n + 1) 51 [((V.ptr 90 s_0 0), false)] σ = sfail (acall C n) n s_0 σ :=
  (show acall C (n + 1) 51 [((V.ptr 90 s_0 0), false)] σ = afun C sfailD (acall C n) n [((V.ptr 90 s_0 0), false)] σ by kernel_rfl).trans (sfail_eq _ _ s_0 σ)
theorem sfail_lim {n : Nat} {s_0 : Nat} {b0 : Bool} {σ : Sto} {r : Res} (h : sfail (lim C) n s_0 σ = some r) : lim C 51 [((V.ptr 90 s_0 0), b0)] σ = some r :=
  lim_of (d := sfailD) (by kernel_rfl) (by kernel_rfl) n (show afun C sfailD (lim C) n [((V.ptr 90 s_0 0), false)] σ = some r from (sfail_eq (lim C) n s_0 σ).trans h)
/-! level.Scanner).Take -/
noncomputable def stakeF (call : CallF) (s_0 : Nat) (w_1 : ByteArray) (σ : Sto) : Option Res :=
  (memGet σ (V.ptr 90 s_0 2) false 1).bind fun m1 =>
  (V.asStr m1).bind fun s2 =>
  bif (!(s2.toList == w_1.toList)) then
  callK call 51 [((V.ptr 90 s_0 0), false)] σ 0 (fun vs3 σ4 =>
  callK call 50 [((V.ptr 90 s_0 0), false)] σ4 0 (fun vs6 σ7 =>
  some (.ret [], σ7)) (fun p8 σ7 => some (.pan p8, σ7))) (fun p5 σ4 => some (.pan p5, σ4))
  else
  callK call 50 [((V.ptr 90 s_0 0), false)] σ 0 (fun vs9 σ10 =>
  some (.ret [], σ10)) (fun p11 σ10 => some (.pan p11, σ10))
noncomputable def stake (call : CallF) (n : Nat) (s_0 : Nat) (w_1 : ByteArray) (σ : Sto) : Option Res := stakeF call s_0 w_1 σ
theorem stake_eqF (call : CallF) (n : Nat) (s_0 : Nat) (w_1 : ByteArray) (σ : Sto) : afun C stakeD call n [((V.ptr 90 s_0 0), false), ((V.str w_1), false)] σ =
    stakeF call s_0 w_1 σ := by kernel_rfl
theorem stake_eq (call : CallF) (n : Nat) (s_0 : Nat) (w_1 : ByteArray) (σ : Sto) : afun C stakeD call n [((V.ptr 90 s_0 0), false), ((V.str w_1), false)] σ = stake call n s_0 w_1 σ := stake_eqF call n s_0 w_1 σ
theorem stake_call (n : Nat) (s_0 : Nat) (w_1 : ByteArray) (σ : Sto) : acall C (n + 1) 52 [((V.ptr 90 s_0 0), false), ((V.str w_1), false)] σ = stake (acall C n) n s_0 w_1 σ :=
  (show acall C (n + 1) 52 [((V.ptr 90 s_0 0), false), ((V.str w_1), false)] σ = afun C stakeD (acall C n) n [((V.ptr 90 s_0 0), false), ((V.str w_1), false)] σ by kernel_rfl).trans (stake_eq _ _ s_0 w_1 σ)
theorem stake_lim {n : Nat} {s_0 : Nat} {w_1 : ByteArray} {b0 b1 : Bool} {σ : Sto} {r : Res} (h : stake (lim C) n s_0 w_1 σ = some r) : lim C 52 [((V.ptr 90 s_0 0), b0), ((V.str w_1), b1)] σ = some r :=
  lim_of (d := stakeD) (by kernel_rfl) (by kernel_rfl) n (show afun C stakeD (lim C) n [((V.ptr 90 s_0 0), false), ((V.str w_1), false)] σ = some r from (stake_eq (lim C) n s_0 w_1 σ).trans h)
/-! level.Scanner).Name -/
noncomputable def snameF (call : CallF) (s_0 : Nat) (σ : Sto) : Option Res :=
  (memGet σ (V.ptr 90 s_0 2) false 1).bind fun m1 =>
  (V.asStr m1).bind fun s2 =>
  bif (s2.toList == (ByteArray.mk #[]).toList) then
  callK call 51 [((V.ptr 90 s_0 0), false)] σ 0 (fun vs3 σ4 =>
  callK call 50 [((V.ptr 90 s_0 0), false)] σ4 0 (fun vs6 σ7 =>
  some (.ret [(m1, false)], σ7)) (fun p8 σ7 => some (.pan p8, σ7))) (fun p5 σ4 => some (.pan p5, σ4))
  else
  (V.asStr m1).bind fun s9 =>
  (grd (decide (0 ≤ (0 : Int)) && decide ((0 : Int) < s9.size))).bind fun _ =>
  callK call 60 [((V.int .u8 (byteAt s9 (Int.toNat (0 : Int)))), false)] σ 1 (fun vs10 σ11 =>
  (V.asBool (List.getD vs10 0 cellD).1).bind fun b13 =>
  bif (!b13) then
  callK call 51 [((V.ptr 90 s_0 0), false)] σ11 0 (fun vs14 σ15 =>
  callK call 50 [((V.ptr 90 s_0 0), false)] σ15 0 (fun vs17 σ18 =>
  some (.ret [(m1, false)], σ18)) (fun p19 σ18 => some (.pan p19, σ18))) (fun p16 σ15 => some (.pan p16, σ15))
  else
  callK call 50 [((V.ptr 90 s_0 0), false)] σ11 0 (fun vs20 σ21 =>
  some (.ret [(m1, false)], σ21)) (fun p22 σ21 => some (.pan p22, σ21))) (fun p12 σ11 => some (.pan p12, σ11))
noncomputable def sname (call : CallF) (n : Nat) (s_0 : Nat) (σ : Sto) : Option Res := snameF call s_0 σ
theorem sname_eqF (call : CallF) (n : Nat) (s_0 : Nat) (σ : Sto) : afun C snameD call n [((V.ptr 90 s_0 0), false)] σ =
    snameF call s_0 σ := by kernel_rfl
theorem sname_eq (call : CallF) (n : Nat) (s_0 : Nat) (σ : Sto) : afun C snameD call n [((V.ptr 90 s_0 0), false)] σ = sname call n s_0 σ := sname_eqF call n s_0 σ
theorem sname_call (n : Nat) (s_0 : Nat) (σ : Sto) : acall C (n + 1) 53 [((V.ptr 90 s_0 0), false)] σ = sname (acall C n) n s_0 σ :=
  (show acall C (n + 1) 53 [((V.ptr 90 s_0 0), false)] σ = afun C snameD (acall C n) n [((V.ptr 90 s_0 0), false)] σ by kernel_rfl).trans (sname_eq _ _ s_0 σ)
theorem sname_lim {n : Nat} {s_0 : Nat} {b0 : Bool} {σ : Sto} {r : Res} (h : sname (lim C) n s_0 σ = some r) : lim C 53 [((V.ptr 90 s_0 0), b0)] σ = some r :=
  lim_of (d := snameD) (by kernel_rfl) (by kernel_rfl) n (show afun C snameD (lim C) n [((V.ptr 90 s_0 0), false)] σ = some r from (sname_eq (lim C) n s_0 σ).trans h)
/-! level.Scanner).run -/
noncomputable def srunk0 : List Nat := [0, 1, 2]
noncomputable def sruns0 (call : CallF) (rec0 : Nat → Int → V → Sto → Option Res) (s_0 : Nat) (vfrom_1 : Int) (of_2 : V) (σ : Sto) : Option Res :=
  (memGet σ (V.ptr 90 s_0 0) false 1).bind fun m1 =>
  (V.asStr m1).bind fun s2 =>
  bif (decide (vfrom_1 < (s2.size : Int))) then
  (memGet σ (V.ptr 90 s_0 0) false 1).bind fun m3 =>
  (V.asStr m3).bind fun s4 =>
  (grd (decide (0 ≤ vfrom_1) && decide (vfrom_1 < s4.size))).bind fun _ =>
  (V.asFunc of_2).bind fun fn5 =>
  callK call fn5.1 (fn5.2.1.map (fun v => (v, false)) ++ [((V.int .u8 (byteAt s4 (Int.toNat vfrom_1))), false)] ++ fn5.2.2.map fun v => (v, false)) σ 1 (fun vs6 σ7 =>
  (V.asBool (List.getD vs6 0 cellD).1).bind fun b9 =>
  bif b9 then
  rec0 s_0 (IntKind.wrap .i64 (vfrom_1 + (1 : Int))) of_2 σ7
  else
  some (.ret [((V.int .i64 vfrom_1), false)], σ7)) (fun p8 σ7 => some (.pan p8, σ7))
  else
  some (.ret [((V.int .i64 vfrom_1), false)], σ)
noncomputable def srunl0 (call : CallF) (n : Nat) : Nat → Nat → Int → V → Sto → Option Res
  | 0 => fun _ _ _ _ => none
  | m + 1 => sruns0 call (srunl0 call n m)
noncomputable def srunt0 (s_0 : Nat) (vfrom_1 : Int) (of_2 : V) (σ : Sto) : St := ⟨[.val (V.ptr 90 s_0 0) false, .val (V.int .i64 vfrom_1) false, .val of_2 false, .dead, .dead, .dead, .dead, .dead, .dead, .dead, .dead, .dead, .dead, .dead, .dead, .dead, .dead, .dead, .dead, .dead, .dead, .dead, .dead, .dead, .dead, .dead, .dead], [[], [], [], [], [], [], [], [], [], [], [], [], [], [], [], [], [], [], [], [], [], [], [], [], [], [], []], σ⟩
noncomputable def srunF (call : CallF) (L0 : Nat → Int → V → Sto → Option Res) (s_0 : Nat) (from_1 : Int) (of_2 : V) (σ : Sto) : Option Res :=
  L0 s_0 from_1 of_2 σ
noncomputable def srun (call : CallF) (n : Nat) (s_0 : Nat) (from_1 : Int) (of_2 : V) (σ : Sto) : Option Res := srunF call (srunl0 call n n) s_0 from_1 of_2 σ
theorem sruns0_eq (call : CallF) (n : Nat) (F0 : St → Option Res) (s_0 : Nat) (vfrom_1 : Int) (of_2 : V) (σ : Sto) :
    aexec C srunH call n (codeL (codeL (codeL (codeR srunC)))) 0 (srunt0 s_0 vfrom_1 of_2 σ) (kloop srunk0 F0 (kblk 0 (kseq (fun st' => aexec C srunH call n (codeR (codeR srunC)) 0 st' (kfin C srunD)) (kfin C srunD)))) =
    sruns0 call (fun s_0 vfrom_1 of_2 σ => F0 (srunt0 s_0 vfrom_1 of_2 σ)) s_0 vfrom_1 of_2 σ := by kernel_rfl
theorem srunl0_eq (call : CallF) (n : Nat) : ∀ (m : Nat) (s_0 : Nat) (vfrom_1 : Int) (of_2 : V) (σ : Sto),
    aloop (fun st K => aexec C srunH call n (codeL (codeL (codeL (codeR srunC)))) 0 st K) srunk0 m (srunt0 s_0 vfrom_1 of_2 σ) (kblk 0 (kseq (fun st' => aexec C srunH call n (codeR (codeR srunC)) 0 st' (kfin C srunD)) (kfin C srunD))) = srunl0 call n m s_0 vfrom_1 of_2 σ
  | 0, s_0, vfrom_1, of_2, σ => rfl
  | m + 1, s_0, vfrom_1, of_2, σ => by
    rw [aloop, sruns0_eq]
    simp only [srunl0_eq call n m]
    rfl
theorem srun_eqF (call : CallF) (n : Nat) (s_0 : Nat) (from_1 : Int) (of_2 : V) (σ : Sto) : afun C srunD call n [((V.ptr 90 s_0 0), false), ((V.int .i64 from_1), false), (of_2, false)] σ =
    srunF call (fun s_0 vfrom_1 of_2 σ => aloop (fun st K => aexec C srunH call n (codeL (codeL (codeL (codeR srunC)))) 0 st K) srunk0 n (srunt0 s_0 vfrom_1 of_2 σ) (kblk 0 (kseq (fun st' => aexec C srunH call n (codeR (codeR srunC)) 0 st' (kfin C srunD)) (kfin C srunD)))) s_0 from_1 of_2 σ := by kernel_rfl
theorem srun_eq (call : CallF) (n : Nat) (s_0 : Nat) (from_1 : Int) (of_2 : V) (σ : Sto) : afun C srunD call n [((V.ptr 90 s_0 0), false), ((V.int .i64 from_1), false), (of_2, false)] σ = srun call n s_0 from_1 of_2 σ := by
  rw [srun_eqF]
  simp only [srunl0_eq]
  rfl
theorem srun_call (n : Nat) (s_0 : Nat) (from_1 : Int) (of_2 : V) (σ : Sto) : acall C (n + 1) 58 [((V.ptr 90 s_0 0), false), ((V.int .i64 from_1), false), (of_2, false)] σ = srun (acall C n) n s_0 from_1 of_2 σ :=
  (show acall C (n + 1) 58 [((V.ptr 90 s_0 0), false), ((V.int .i64 from_1), false), (of_2, false)] σ = afun C srunD (acall C n) n [((V.ptr 90 s_0 0), false), ((V.int .i64 from_1), false), (of_2, false)] σ by kernel_rfl).trans (srun_eq _ _ s_0 from_1 of_2 σ)
theorem srun_lim {n : Nat} {s_0 : Nat} {from_1 : Int} {of_2 : V} {b0 b1 b2 : Bool} {σ : Sto} {r : Res} (h : srun (lim C) n s_0 from_1 of_2 σ = some r) : lim C 58 [((V.ptr 90 s_0 0), b0), ((V.int .i64 from_1), b1), (of_2, b2)] σ = some r :=
  lim_of (d := srunD) (by kernel_rfl) (by kernel_rfl) n (show afun C srunD (lim C) n [((V.ptr 90 s_0 0), false), ((V.int .i64 from_1), false), (of_2, false)] σ = some r from (srun_eq (lim C) n s_0 from_1 of_2 σ).trans h)
/-! level.Scanner).Step$1 -/
noncomputable def sblankF (call : CallF) (c_0 : Int) (σ : Sto) : Option Res :=
  bif (c_0 == (32 : Int)) then
  some (.ret [((V.bool true), false)], σ)
  else
  bif (c_0 == (9 : Int)) then
  some (.ret [((V.bool true), false)], σ)
  else
  some (.ret [((V.bool (c_0 == (10 : Int))), false)], σ)
noncomputable def sblank (call : CallF) (n : Nat) (c_0 : Int) (σ : Sto) : Option Res := sblankF call c_0 σ
theorem sblank_eqF (call : CallF) (n : Nat) (c_0 : Int) (σ : Sto) : afun C sblankD call n [((V.int .u8 c_0), false)] σ =
    sblankF call c_0 σ := by kernel_rfl
theorem sblank_eq (call : CallF) (n : Nat) (c_0 : Int) (σ : Sto) : afun C sblankD call n [((V.int .u8 c_0), false)] σ = sblank call n c_0 σ := sblank_eqF call n c_0 σ
theorem sblank_call (n : Nat) (c_0 : Int) (σ : Sto) : acall C (n + 1) 59 [((V.int .u8 c_0), false)] σ = sblank (acall C n) n c_0 σ :=
  (show acall C (n + 1) 59 [((V.int .u8 c_0), false)] σ = afun C sblankD (acall C n) n [((V.int .u8 c_0), false)] σ by kernel_rfl).trans (sblank_eq _ _ c_0 σ)
theorem sblank_lim {n : Nat} {c_0 : Int} {b0 : Bool} {σ : Sto} {r : Res} (h : sblank (lim C) n c_0 σ = some r) : lim C 59 [((V.int .u8 c_0), b0)] σ = some r :=
  lim_of (d := sblankD) (by kernel_rfl) (by kernel_rfl) n (show afun C sblankD (lim C) n [((V.int .u8 c_0), false)] σ = some r from (sblank_eq (lim C) n c_0 σ).trans h)
/-! level.letter -/
noncomputable def letterF (call : CallF) (c_0 : Int) (σ : Sto) : Option Res :=
  bif (decide ((IntKind.wrap .u8 ((BitVec.ofInt (IntKind.bits .u8) c_0 ||| BitVec.ofInt (IntKind.bits .u8) (32 : Int)).toNat : Int)) ≥ (97 : Int))) then
  bif (decide ((IntKind.wrap .u8 ((BitVec.ofInt (IntKind.bits .u8) c_0 ||| BitVec.ofInt (IntKind.bits .u8) (32 : Int)).toNat : Int)) ≤ (122 : Int))) then
  some (.ret [((V.bool true), false)], σ)
  else
  some (.ret [((V.bool (c_0 == (95 : Int))), false)], σ)
  else
  some (.ret [((V.bool (c_0 == (95 : Int))), false)], σ)
noncomputable def letter (call : CallF) (n : Nat) (c_0 : Int) (σ : Sto) : Option Res := letterF call c_0 σ
theorem letter_eqF (call : CallF) (n : Nat) (c_0 : Int) (σ : Sto) : afun C letterD call n [((V.int .u8 c_0), false)] σ =
    letterF call c_0 σ := by kernel_rfl
theorem letter_eq (call : CallF) (n : Nat) (c_0 : Int) (σ : Sto) : afun C letterD call n [((V.int .u8 c_0), false)] σ = letter call n c_0 σ := letter_eqF call n c_0 σ
theorem letter_call (n : Nat) (c_0 : Int) (σ : Sto) : acall C (n + 1) 60 [((V.int .u8 c_0), false)] σ = letter (acall C n) n c_0 σ :=
  (show acall C (n + 1) 60 [((V.int .u8 c_0), false)] σ = afun C letterD (acall C n) n [((V.int .u8 c_0), false)] σ by kernel_rfl).trans (letter_eq _ _ c_0 σ)
theorem letter_lim {n : Nat} {c_0 : Int} {b0 : Bool} {σ : Sto} {r : Res} (h : letter (lim C) n c_0 σ = some r) : lim C 60 [((V.int .u8 c_0), b0)] σ = some r :=
  lim_of (d := letterD) (by kernel_rfl) (by kernel_rfl) n (show afun C letterD (lim C) n [((V.int .u8 c_0), false)] σ = some r from (letter_eq (lim C) n c_0 σ).trans h)
/-! level.Scanner).Step$2 -/
noncomputable def snmbF (call : CallF) (c_0 : Int) (σ : Sto) : Option Res :=
  callK call 60 [((V.int .u8 c_0), false)] σ 1 (fun vs1 σ2 =>
  (V.asBool (List.getD vs1 0 cellD).1).bind fun b4 =>
  bif b4 then
  some (.ret [((V.bool true), false)], σ2)
  else
  callK call 62 [((V.int .u8 c_0), false)] σ2 1 (fun vs5 σ6 =>
  (V.asBool (List.getD vs5 0 cellD).1).bind fun b8 =>
  bif b8 then
  some (.ret [((V.bool true), false)], σ6)
  else
  bif (c_0 == (46 : Int)) then
  some (.ret [((V.bool true), false)], σ6)
  else
  some (.ret [((V.bool (c_0 == (39 : Int))), false)], σ6)) (fun p7 σ6 => some (.pan p7, σ6))) (fun p3 σ2 => some (.pan p3, σ2))
noncomputable def snmb (call : CallF) (n : Nat) (c_0 : Int) (σ : Sto) : Option Res := snmbF call c_0 σ
theorem snmb_eqF (call : CallF) (n : Nat) (c_0 : Int) (σ : Sto) : afun C snmbD call n [((V.int .u8 c_0), false)] σ =
    snmbF call c_0 σ := by kernel_rfl
theorem snmb_eq (call : CallF) (n : Nat) (c_0 : Int) (σ : Sto) : afun C snmbD call n [((V.int .u8 c_0), false)] σ = snmb call n c_0 σ := snmb_eqF call n c_0 σ
theorem snmb_call (n : Nat) (c_0 : Int) (σ : Sto) : acall C (n + 1) 61 [((V.int .u8 c_0), false)] σ = snmb (acall C n) n c_0 σ :=
  (show acall C (n + 1) 61 [((V.int .u8 c_0), false)] σ = afun C snmbD (acall C n) n [((V.int .u8 c_0), false)] σ by kernel_rfl).trans (snmb_eq _ _ c_0 σ)
theorem snmb_lim {n : Nat} {c_0 : Int} {b0 : Bool} {σ : Sto} {r : Res} (h : snmb (lim C) n c_0 σ = some r) : lim C 61 [((V.int .u8 c_0), b0)] σ = some r :=
  lim_of (d := snmbD) (by kernel_rfl) (by kernel_rfl) n (show afun C snmbD (lim C) n [((V.int .u8 c_0), false)] σ = some r from (snmb_eq (lim C) n c_0 σ).trans h)
/-! level.digit -/
noncomputable def digitF (call : CallF) (c_0 : Int) (σ : Sto) : Option Res :=
  bif (decide (c_0 ≥ (48 : Int))) then
  some (.ret [((V.bool (decide (c_0 ≤ (57 : Int)))), false)], σ)
  else
  some (.ret [((V.bool false), false)], σ)
noncomputable def digit (call : CallF) (n : Nat) (c_0 : Int) (σ : Sto) : Option Res := digitF call c_0 σ
theorem digit_eqF (call : CallF) (n : Nat) (c_0 : Int) (σ : Sto) : afun C digitD call n [((V.int .u8 c_0), false)] σ =
    digitF call c_0 σ := by kernel_rfl
theorem digit_eq (call : CallF) (n : Nat) (c_0 : Int) (σ : Sto) : afun C digitD call n [((V.int .u8 c_0), false)] σ = digit call n c_0 σ := digit_eqF call n c_0 σ
theorem digit_call (n : Nat) (c_0 : Int) (σ : Sto) : acall C (n + 1) 62 [((V.int .u8 c_0), false)] σ = digit (acall C n) n c_0 σ :=
  (show acall C (n + 1) 62 [((V.int .u8 c_0), false)] σ = afun C digitD (acall C n) n [((V.int .u8 c_0), false)] σ by kernel_rfl).trans (digit_eq _ _ c_0 σ)
theorem digit_lim {n : Nat} {c_0 : Int} {b0 : Bool} {σ : Sto} {r : Res} (h : digit (lim C) n c_0 σ = some r) : lim C 62 [((V.int .u8 c_0), b0)] σ = some r :=
  lim_of (d := digitD) (by kernel_rfl) (by kernel_rfl) n (show afun C digitD (lim C) n [((V.int .u8 c_0), false)] σ = some r from (digit_eq (lim C) n c_0 σ).trans h)
end Go.Ab.Mk
end
section

end
section
namespace Go.Ab.Mk
open Go.Proofs Go.Ab

/-- A parameter's value by the lists: the first that bears the name. -/
def pval (s : ByteArray) : List ByteArray → List Int → Int
  | p :: ps, n :: ns => if p.toList == s.toList then n else pval s ps ns
  | _, _ => 0

def rworthV (ps : List ByteArray) (ns : List Int) : Lv → Int
  | .zero => 0
  | .succ l => IntKind.wrap .i64 (rworthV ps ns l + 1)
  | .max a b => bif decide (rworthV ps ns b > rworthV ps ns a) then rworthV ps ns b else rworthV ps ns a
  | .imax a b => bif rworthV ps ns b == 0 then 0 else bif decide (rworthV ps ns b > rworthV ps ns a) then rworthV ps ns b else rworthV ps ns a
  | .param s => pval s ps ns

def idx (v : ByteArray) : List ByteArray → Nat → Int
  | [], _ => -1
  | p :: ps, i => if v.toList == p.toList then i else idx v ps (i + 1)

theorem index_loop (call : CallF) (n : Nat) {ps : List ByteArray} (hb : ps.length < 2 ^ 61) (v : ByteArray) (σ : Sto) :
    ∀ (m i : Nat), i ≤ ps.length → ps.length - i < m → indexl0 call n m (strs ps) v ps.length i σ = some (.ret [(.int .i64 (idx v (ps.drop i) i), false)], σ)
  | 0, i, _, hm => by omega
  | m + 1, i, hi, hm => by
    show indexs0 call (indexl0 call n m) (strs ps) v ps.length i σ = _
    unfold indexs0
    rw [strs_length]
    by_cases hlt : i < ps.length
    · rw [d0, dlt hlt, Int.toNat_natCast, strs_get hlt, List.drop_eq_getElem_cons hlt]
      simp only [cond_true, Bool.and_self, grd, Option.bind_some, List.getD_cons_zero, V.asStr, idx]
      cases hc : v.toList == ps[i].toList with
      | true => simp
      | false =>
        simp only [cond_false, wrap_succ (show i < 2 ^ 61 by omega), Bool.false_eq_true, if_false]
        exact index_loop call n hb v σ m (i + 1) (by omega) (by omega)
    · rw [dnlt hlt, List.drop_eq_nil_of_le (by omega)]
      simp [idx]
theorem index_law {ps : List ByteArray} (hb : ps.length < 2 ^ 61) (v : ByteArray) (σ : Sto) :
    lim C 28 [(.slice 1 9 (strs ps), false), (.str v, false)] σ = some (.ret [(.int .i64 (idx v ps 0), false)], σ) :=
  index_lim (n := ps.length + 1) <| by
    have := index_loop (lim C) (ps.length + 1) hb v σ (ps.length + 1) 0 (by omega) (by omega)
    simpa [index, indexF, strs_length] using this
theorem pval_idx (s : ByteArray) : ∀ (ps : List ByteArray) (ns : List Int) (i : Nat), ps.length = ns.length →
    (idx s ps i = -1 ∧ pval s ps ns = 0) ∨ ∃ j, j < ns.length ∧ idx s ps i = ((i + j : Nat) : Int) ∧ ns[j]? = some (pval s ps ns)
  | [], [], _, _ => .inl ⟨rfl, rfl⟩
  | [], _ :: _, _, h => by simp at h
  | _ :: _, [], _, h => by simp at h
  | p :: ps, n :: ns, i, h => by
    by_cases hc : s.toList = p.toList
    · exact .inr ⟨0, by simp, by simp [idx, hc], by simp [pval, hc]⟩
    · have hc' : ¬ p.toList = s.toList := fun e => hc e.symm
      rcases pval_idx s ps ns (i + 1) (by simpa using h) with ⟨h1, h2⟩ | ⟨j, h1, h2, h3⟩
      · exact .inl ⟨by simp [idx, hc, h1], by simp [pval, hc', h2]⟩
      · refine .inr ⟨j + 1, by simp; omega, ?_, ?_⟩
        · simp only [idx, beq_iff_eq, hc, if_false, h2]; congr 1; omega
        · simp only [pval, beq_iff_eq, hc', if_false, List.getElem?_cons_succ]; exact h3

theorem worth_law {ps : List ByteArray} {ns : List Int} (hl : ps.length = ns.length) (hb : ps.length < 2 ^ 61) (σ : Sto) : ∀ (l : Lv) (b1 b2 : Bool),
    lim C 12 [(.agg [.int .i64 l.kind, .str l.name, .slice 3 31 l.args], false), (.slice 1 9 (strs ps), b1), (.slice 1 3 (ints ns), b2)] σ = some (.ret [(.int .i64 (rworthV ps ns l), false)], σ)
  | .zero, b1, b2 => worth_lim (n := 0) rfl
  | .param s, b1, b2 => worth_lim (n := 0) <| by
    have h1 := index_law hb s σ
    simp only [worth, worthF, Lv.kind, Lv.name, Lv.args, Lv.kids, List.map_nil, callK_ret1 h1, rworthV]
    rcases pval_idx s ps ns 0 hl with ⟨e1, e2⟩ | ⟨j, e1, e2, e3⟩
    · simp [e1, e2, V.asInt]
    · rw [e2, Nat.zero_add]
      obtain ⟨_, e4⟩ := List.getElem?_eq_some_iff.1 e3
      simp [V.asInt, grd, ints, e1, e4]
  | .succ l, b1, b2 => worth_lim (n := 0) <| by
    have h1 := worth_law hl hb σ l false false
    have hc : V.agg [List.getD (List.getD [l.enc] (Int.toNat (0 : Int)) []) 0 V.any, List.getD (List.getD [l.enc] (Int.toNat (0 : Int)) []) 1 V.any, List.getD (List.getD [l.enc] (Int.toNat (0 : Int)) []) 2 V.any] = V.agg [.int .i64 l.kind, .str l.name, .slice 3 31 l.args] := l.cells
    simp only [worth, worthF, Lv.kind, Lv.args, Lv.kids, List.map_cons, List.map_nil]
    simp only [hc, callK_ret1 h1]
    rfl
  | .max a b, b1, b2 => worth_lim (n := 0) <| by
    have h1 := worth_law hl hb σ a false false
    have h2 := worth_law hl hb σ b false false
    have hc : V.agg [List.getD (List.getD [a.enc, b.enc] (Int.toNat (0 : Int)) []) 0 V.any, List.getD (List.getD [a.enc, b.enc] (Int.toNat (0 : Int)) []) 1 V.any, List.getD (List.getD [a.enc, b.enc] (Int.toNat (0 : Int)) []) 2 V.any] = V.agg [.int .i64 a.kind, .str a.name, .slice 3 31 a.args] := a.cells
    have hd : V.agg [List.getD (List.getD [a.enc, b.enc] (Int.toNat (1 : Int)) []) 0 V.any, List.getD (List.getD [a.enc, b.enc] (Int.toNat (1 : Int)) []) 1 V.any, List.getD (List.getD [a.enc, b.enc] (Int.toNat (1 : Int)) []) 2 V.any] = V.agg [.int .i64 b.kind, .str b.name, .slice 3 31 b.args] := b.cells
    simp only [worth, worthF, Lv.kind, Lv.args, Lv.kids, List.map_cons, List.map_nil]
    simp only [hc, hd, rworthV, callK_ret1 h1, callK_ret1 h2]
    by_cases hx : rworthV ps ns a < rworthV ps ns b <;> simp [grd, V.asInt, hx]
  | .imax a b, b1, b2 => worth_lim (n := 0) <| by
    have h1 := worth_law hl hb σ a false false
    have h2 := worth_law hl hb σ b false false
    have hc : V.agg [List.getD (List.getD [a.enc, b.enc] (Int.toNat (0 : Int)) []) 0 V.any, List.getD (List.getD [a.enc, b.enc] (Int.toNat (0 : Int)) []) 1 V.any, List.getD (List.getD [a.enc, b.enc] (Int.toNat (0 : Int)) []) 2 V.any] = V.agg [.int .i64 a.kind, .str a.name, .slice 3 31 a.args] := a.cells
    have hd : V.agg [List.getD (List.getD [a.enc, b.enc] (Int.toNat (1 : Int)) []) 0 V.any, List.getD (List.getD [a.enc, b.enc] (Int.toNat (1 : Int)) []) 1 V.any, List.getD (List.getD [a.enc, b.enc] (Int.toNat (1 : Int)) []) 2 V.any] = V.agg [.int .i64 b.kind, .str b.name, .slice 3 31 b.args] := b.cells
    simp only [worth, worthF, Lv.kind, Lv.args, Lv.kids, List.map_cons, List.map_nil]
    simp only [hc, hd, rworthV, callK_ret1 h1, callK_ret1 h2]
    cases hy : rworthV ps ns b == 0 <;> by_cases hx : rworthV ps ns a < rworthV ps ns b <;> simp [grd, V.asInt, hx, hy]

def has (v : ByteArray) (ps : List ByteArray) : Bool := ps.any fun p => p.toList == v.toList
theorem among_loop (call : CallF) (n : Nat) {ps : List ByteArray} (hb : ps.length < 2 ^ 61) (v : ByteArray) (σ : Sto) :
    ∀ (m i : Nat), i ≤ ps.length → ps.length - i < m → amongl0 call n m v (strs ps) i σ = some (.ret [(.bool (has v (ps.drop i)), false)], σ)
  | 0, i, _, hm => by omega
  | m + 1, i, hi, hm => by
    show amongs0 call (amongl0 call n m) v (strs ps) i σ = _
    unfold amongs0
    rw [strs_length]
    by_cases hlt : i < ps.length
    · rw [d0, dlt hlt, Int.toNat_natCast, strs_get hlt, List.drop_eq_getElem_cons hlt]
      simp only [cond_true, Bool.and_self, grd, Option.bind_some, List.getD_cons_zero, V.asStr, has, List.any_cons]
      cases hc : ps[i].toList == v.toList with
      | true => simp
      | false =>
        simp only [cond_false, wrap_succ (show i < 2 ^ 61 by omega), Bool.false_or]
        exact among_loop call n hb v σ m (i + 1) (by omega) (by omega)
    · rw [dnlt hlt, List.drop_eq_nil_of_le (by omega)]
      simp [has]
theorem among_law {ps : List ByteArray} (hb : ps.length < 2 ^ 61) (v : ByteArray) (σ : Sto) :
    lim C 27 [(.str v, false), (.slice 1 9 (strs ps), false)] σ = some (.ret [(.bool (has v ps), false)], σ) :=
  among_lim (n := ps.length + 1) <| by
    have := among_loop (lim C) (ps.length + 1) hb v σ (ps.length + 1) 0 (by omega) (by omega)
    simpa [among, amongF] using this

theorem kids_few (l : Lv) : l.kids.length ≤ 2 := by cases l <;> simp [Lv.kids]
end Go.Ab.Mk
end
section
namespace Go.Ab.Mk
open Go.Proofs Go.Ab

def rparamsV : Lv → List ByteArray → List ByteArray
  | .param s, ps => bif has s ps then ps else ps ++ [s]
  | .zero, ps => ps
  | .succ l, ps => rparamsV l ps
  | .max a b, ps => rparamsV b (rparamsV a ps)
  | .imax a b, ps => rparamsV b (rparamsV a ps)
theorem rparamsV_length : ∀ (l : Lv) (ps : List ByteArray), (rparamsV l ps).length ≤ ps.length + l.size
  | .param s, ps => by simp only [rparamsV]; cases has s ps <;> simp [Lv.size]
  | .zero, ps => by simp [rparamsV]
  | .succ l, ps => by have := rparamsV_length l ps; simp only [rparamsV, Lv.size]; omega
  | .max a b, ps => by have h1 := rparamsV_length a ps; have h2 := rparamsV_length b (rparamsV a ps); simp only [rparamsV, Lv.size]; omega
  | .imax a b, ps => by have h1 := rparamsV_length a ps; have h2 := rparamsV_length b (rparamsV a ps); simp only [rparamsV, Lv.size]; omega
def kidsV : List Lv → List ByteArray → List ByteArray
  | [], ps => ps
  | c :: L, ps => kidsV L (rparamsV c ps)
def sizes : List Lv → Nat
  | [] => 0
  | c :: L => c.size + sizes L
theorem sizes_le : ∀ l : Lv, sizes l.kids < l.size
  | .param s => by simp [Lv.kids, sizes, Lv.size]
  | .zero => by simp [Lv.kids, sizes, Lv.size]
  | .succ l => by simp [Lv.kids, sizes, Lv.size]
  | .max a b => by simp [Lv.kids, sizes, Lv.size] <;> omega
  | .imax a b => by simp [Lv.kids, sizes, Lv.size] <;> omega
theorem rparams_loop (call : CallF) (n : Nat) {L : List Lv} (hb : L.length < 2 ^ 61) (k : Int) (nm : ByteArray) (σ : Sto)
    (h : ∀ c ∈ L, ∀ ps : List ByteArray, c.size + ps.length < 2 ^ 33 → call 10 [(.agg [.int .i64 c.kind, .str c.name, .slice 3 31 c.args], false), (.slice 1 9 (strs ps), true)] σ = some (.ret [(.slice 1 9 (strs (rparamsV c ps)), true)], σ)) :
    ∀ (m i : Nat) (ps : List ByteArray), i ≤ L.length → L.length - i < m → sizes (L.drop i) + ps.length < 2 ^ 33 → rparamsl0 call n m (.slice 1 9 (strs ps)) i k nm (L.map Lv.enc) σ = some (.ret [(.slice 1 9 (strs (kidsV (L.drop i) ps)), true)], σ)
  | 0, i, _, _, hm, _ => by omega
  | m + 1, i, ps, hi, hm, hs => by
    show rparamss0 call (rparamsl0 call n m) (.slice 1 9 (strs ps)) i k nm (L.map Lv.enc) σ = _
    unfold rparamss0
    rw [List.length_map]
    by_cases hlt : i < L.length
    · have hc := List.getElem?_eq_getElem hlt
      rw [drop_cons hc] at hs
      simp only [sizes] at hs
      have h1 := h _ (List.getElem_mem hlt) ps (by omega)
      have hl := rparamsV_length L[i] ps
      rw [d0, dlt hlt, kid_get hc, L[i].cells, drop_cons hc]
      simp only [cond_true, Bool.and_self, grd, Option.bind_some, callK_ret1 h1, wrap_succ (show i < 2 ^ 61 by omega), List.getD_cons_zero, kidsV]
      exact rparams_loop call n hb k nm σ h m (i + 1) _ (by omega) (by omega) (by omega)
    · rw [dnlt hlt, List.drop_eq_nil_of_le (by omega)]; rfl
theorem kidsV_eq : ∀ (l : Lv) (ps : List ByteArray), (∀ s, l ≠ .param s) → kidsV l.kids ps = rparamsV l ps
  | .param s, _, h => absurd rfl (h s)
  | .zero, _, _ => rfl
  | .succ _, _, _ => rfl
  | .max .., _, _ => rfl
  | .imax .., _, _ => rfl
theorem kind_ne {l : Lv} (h : ∀ s, l ≠ .param s) : (l.kind == (4 : Int)) = false := by cases l <;> first | rfl | exact absurd rfl (h _)
theorem rparams_law (σ : Sto) : ∀ (l : Lv) (ps : List ByteArray), l.size + ps.length < 2 ^ 33 →
    lim C 10 [(.agg [.int .i64 l.kind, .str l.name, .slice 3 31 l.args], false), (.slice 1 9 (strs ps), true)] σ = some (.ret [(.slice 1 9 (strs (rparamsV l ps)), true)], σ) :=
  Lv.ind fun l ih ps hb => rparams_lim (n := 4) <| by
    by_cases hp : ∃ s, l = .param s
    · obtain ⟨s, rfl⟩ := hp
      simp only [Lv.size] at hb
      have h1 := among_law (ps := ps) (by omega) s σ
      simp only [rparams, rparamsF, Lv.kind, Lv.name, Lv.args, Lv.kids, rparamsV, callK_ret1 h1]
      cases hx : has s ps with
      | true => simp [V.asBool]
      | false =>
        have hr : room (ps.length + 1) = true := room_ok (by omega)
        simp [V.asBool, grd, hr, strs]
    · have hp : ∀ s, l ≠ .param s := fun s hs => hp ⟨s, hs⟩
      have hf := kids_few l
      have hs := sizes_le l
      have := rparams_loop (lim C) 4 (L := l.kids) (by omega) l.kind l.name σ (fun c hc ps h => ih c hc ps h) 4 0 ps (by omega) (by omega) (by simp only [List.drop_zero]; omega)
      simp only [rparams, rparamsF, kind_ne hp, cond_false]
      rw [List.drop_zero, kidsV_eq l ps hp] at this
      exact this

theorem idx_has (v : ByteArray) : ∀ (ps : List ByteArray) (i : Nat), decide (idx v ps i ≥ 0) = has v ps
  | [], i => rfl
  | p :: ps, i => by
    simp only [idx, has, List.any_cons]
    by_cases h : v.toList = p.toList
    · simp [h]
    · have h' : ¬ p.toList = v.toList := fun e => h e.symm
      have := idx_has v ps (i + 1)
      simp only [has] at this
      simp [h, h', ← this]

theorem memGet1 {σ : Sto} {t : TypeId} {b : Nat} {c : Cell} (h : σ[b]? = some [c]) : memGet σ (.ptr t b 0) false 1 = some c.1 := by simp [memGet, h, gather]
theorem memTake1 {σ : Sto} {t : TypeId} {b : Nat} {v : V} (h : σ[b]? = some [(v, true)]) : memTake σ (.ptr t b 0) = some (v, σ.set b [(v, false)]) := by
  simp only [memTake, h, Option.bind_some]; rfl
theorem memSet1 {σ : Sto} {t : TypeId} {b : Nat} {c d : Cell} (h : σ[b]? = some [c]) : memSet σ (.ptr t b 0) [d] = some (σ.set b [d]) := by
  simp only [memSet, h, Option.bind_some]; rfl
end Go.Ab.Mk
end
section
namespace Go.Ab.Mk
open Go.Proofs Go.Ab

/-- A string of bytes. -/
def ba (l : List UInt8) : ByteArray := ⟨l.toArray⟩
theorem ba_append (a b : List UInt8) : ba a ++ ba b = ba (a ++ b) := by
  apply ByteArray.ext
  simp [ba]
theorem ba_of (s : ByteArray) : ba s.data.toList = s := by
  apply ByteArray.ext
  simp [ba]
theorem ba_size (l : List UInt8) : (ba l).size = l.length := by simp [ba, ByteArray.size]
theorem bytesV_ba (l : List UInt8) : bytesV (ba l) = bytesL l := by simp [bytesV, ba, bytesL]
theorem strRoom_ok {x y : ByteArray} (h : x.size + y.size < 2 ^ 61) : strRoom x y = true := by
  unfold strRoom
  refine decide_eq_true ?_
  by_cases h0 : x.size + y.size = 0
  · rw [h0]; simp
  · have := (Nat.log2_lt (k := 61) h0).2 h
    omega

def printL : Lv → List UInt8
  | .zero => [48]
  | .succ l => [40, 115, 32] ++ printL l ++ [41]
  | .max a b => [40, 109, 97, 120, 32] ++ printL a ++ [32] ++ printL b ++ [41]
  | .imax a b => [40, 105, 109, 97, 120, 32] ++ printL a ++ [32] ++ printL b ++ [41]
  | .param s => s.data.toList

/-- A builder's cells: used or not; its bytes. -/
def bcell (b : Nat) (u : Bool) (L : List UInt8) : List Cell := [(bif u then .ptr 63 b 0 else .nilp, false), (.slice 1 5 (bytesL L), true)]
theorem copyCheck_law {σ : Sto} {b : Nat} {u : Bool} {L : List UInt8} (h : σ[b]? = some (bcell b u L)) : lim C 57 [(.ptr 63 b 0, false)] σ = some (.ret [], σ.set b (bcell b true L)) := by
  refine lim_ext (s := copyCheckS 63) (by kernel_rfl) ?_
  obtain ⟨hlt, hget⟩ := List.getElem?_eq_some_iff.1 h
  cases u with
  | false =>
    simp only [copyCheckS, if_true]
    rw [h]
    rfl
  | true =>
    simp only [copyCheckS, if_true]
    rw [h]
    have : σ.set b (bcell b true L) = σ := by rw [← hget]; simp
    simp only [bcell, cond_true, and_self, if_true]
    exact congrArg (fun x => some (End.ret [], x)) this.symm
theorem memTakeB {σ : Sto} {t : TypeId} {b : Nat} {c : Cell} {v : V} (h : σ[b]? = some [c, (v, true)]) : memTake σ (.ptr t b 1) = some (v, σ.set b [c, (v, false)]) := by
  simp only [memTake, h, Option.bind_some]; rfl
theorem memSetB {σ : Sto} {t : TypeId} {b : Nat} {c c' d : Cell} (h : σ[b]? = some [c, c']) : memSet σ (.ptr t b 1) [d] = some (σ.set b [c, d]) := by
  simp only [memSet, h, Option.bind_some]; rfl
theorem wstring_law {σ : Sto} {b : Nat} {u : Bool} {L : List UInt8} (h : σ[b]? = some (bcell b u L)) (s : List UInt8) (hr : L.length + s.length < 2 ^ 34) :
    lim C 48 [(.ptr 63 b 0, false), (.str (ba s), false)] σ = some (.ret [(.int .i64 s.length, false), (.nilIface, false)], σ.set b (bcell b true (L ++ s))) :=
  wstring_lim (n := 0) <| by
    obtain ⟨hlt, hget⟩ := List.getElem?_eq_some_iff.1 h
    simp only [wstring, wstringF, callK_ret0 (copyCheck_law h)]
    rw [memTakeB (c := (.ptr 63 b 0, false)) (v := .slice 1 5 (bytesL L)) (by simp [hlt, bcell])]
    simp only [Option.bind_some, V.asSlice, and_self, if_true]
    rw [bytesL_length, ba_size, room_ok hr]
    rw [memSetB (c := (.ptr 63 b 0, false)) (c' := (.slice 1 5 (bytesL L), false)) (by simp [hlt])]
    simp only [grd, cond_true, Option.bind_some, List.set_set, bytesV_ba, ← bytesL_append]
    rfl
theorem wbyte_law {σ : Sto} {b : Nat} {u : Bool} {L : List UInt8} (h : σ[b]? = some (bcell b u L)) (c : UInt8) (hr : L.length + 1 < 2 ^ 34) :
    lim C 49 [(.ptr 63 b 0, false), (.int .u8 (c.toNat : Int), false)] σ = some (.ret [(.nilIface, false)], σ.set b (bcell b true (L ++ [c]))) :=
  wbyte_lim (n := 0) <| by
    obtain ⟨hlt, hget⟩ := List.getElem?_eq_some_iff.1 h
    simp only [wbyte, wbyteF, callK_ret0 (copyCheck_law h)]
    rw [memTakeB (c := (.ptr 63 b 0, false)) (v := .slice 1 5 (bytesL L)) (by simp [hlt, bcell])]
    simp only [Option.bind_some, V.asSlice, and_self, if_true]
    rw [bytesL_length, room_ok hr]
    rw [memSetB (c := (.ptr 63 b 0, false)) (c' := (.slice 1 5 (bytesL L), false)) (by simp [hlt])]
    simp only [grd, cond_true, Option.bind_some, List.set_set, bcell, bytesL_append]
    rfl
theorem callK_ret2 {call : CallF} {f : FuncId} {args : List Cell} {σ σ' : Sto} {K : List Cell → Sto → Option Res} {KP : V → Sto → Option Res} {c d : Cell} (h : call f args σ = some (.ret [c, d], σ')) :
    callK call f args σ 2 K KP = K [c, d] σ' := callK_ret h rfl
end Go.Ab.Mk
end
section
namespace Go.Ab.Mk
open Go.Proofs Go.Ab

def plv (s : ByteArray) : List ByteArray → List Lv → Lv
  | p :: ps, l :: ls => if p.toList == s.toList then l else plv s ps ls
  | _, _ => .param s
def substV (ps : List ByteArray) (ls : List Lv) : Lv → Lv
  | .zero => .zero
  | .succ l => .succ (substV ps ls l)
  | .max a b => .max (substV ps ls a) (substV ps ls b)
  | .imax a b => .imax (substV ps ls a) (substV ps ls b)
  | .param s => plv s ps ls
def encs (ls : List Lv) : List (List V) := ls.map Lv.enc
theorem substV_kids (ps : List ByteArray) (ls : List Lv) : ∀ (l : Lv), (∀ s, l ≠ .param s) → (substV ps ls l).kind = l.kind ∧ (substV ps ls l).name = l.name ∧ (substV ps ls l).kids = l.kids.map (substV ps ls)
  | .param s, h => absurd rfl (h s)
  | .zero, _ => ⟨rfl, rfl, rfl⟩
  | .succ _, _ => ⟨rfl, rfl, rfl⟩
  | .max .., _ => ⟨rfl, rfl, rfl⟩
  | .imax .., _ => ⟨rfl, rfl, rfl⟩
theorem plv_idx (s : ByteArray) : ∀ (ps : List ByteArray) (ls : List Lv) (i : Nat), ps.length = ls.length →
    (idx s ps i = -1 ∧ plv s ps ls = .param s) ∨ ∃ j, j < ls.length ∧ idx s ps i = ((i + j : Nat) : Int) ∧ ls[j]? = some (plv s ps ls)
  | [], [], _, _ => .inl ⟨rfl, rfl⟩
  | [], _ :: _, _, h => by simp at h
  | _ :: _, [], _, h => by simp at h
  | p :: ps, n :: ns, i, h => by
    by_cases hc : s.toList = p.toList
    · exact .inr ⟨0, by simp, by simp [idx, hc], by simp [plv, hc]⟩
    · have hc' : ¬ p.toList = s.toList := fun e => hc e.symm
      rcases plv_idx s ps ns (i + 1) (by simpa using h) with ⟨h1, h2⟩ | ⟨j, h1, h2, h3⟩
      · exact .inl ⟨by simp [idx, hc, h1], by simp [plv, hc', h2]⟩
      · refine .inr ⟨j + 1, by simp; omega, ?_, ?_⟩
        · simp only [idx, beq_iff_eq, hc, if_false, h2]; congr 1; omega
        · simp only [plv, beq_iff_eq, hc', if_false, List.getElem?_cons_succ]; exact h3
theorem fits_lv (l : Lv) : V.fits (.agg [.int .i64 l.kind, .str l.name, .slice 3 31 l.args]) true 3 = true := rfl
theorem cell_lv (l : Lv) : [V.cell (.agg [.int .i64 l.kind, .str l.name, .slice 3 31 l.args]) 0, V.cell (.agg [.int .i64 l.kind, .str l.name, .slice 3 31 l.args]) 1, V.cell (.agg [.int .i64 l.kind, .str l.name, .slice 3 31 l.args]) 2] = l.enc := by rw [l.enc_eq]; rfl

def limitV (n : Int) : Int := bif decide (n < 0) then Int.tmod (IntKind.wrap .i64 (0 - IntKind.wrap .i64 (n + 1))) 6 else Int.tmod n 6
theorem limit_law (n : Int) (σ : Sto) : lim C 11 [(.int .i64 n, false)] σ = some (.ret [(.int .i64 (limitV n), false)], σ) :=
  limit_lim (n := 0) <| by
    simp only [limit, limitF, limitV]
    cases decide (n < 0) <;> rfl
end Go.Ab.Mk
end
section
namespace Go.Ab.Mk
open Go.Proofs Go.Ab

def isDigit (c : Int) : Bool := decide (48 ≤ c) && decide (c ≤ 57)
def isLetter (c : Int) : Bool := (decide (97 ≤ c) && decide (c ≤ 122)) || (decide (65 ≤ c) && decide (c ≤ 90)) || c == 95
def nmByte (c : Int) (first : Bool) : Bool := isLetter c || (!first && (isDigit c || c == 46 || c == 39))
def isBlank (c : Int) : Bool := c == 32 || c == 9 || c == 10

theorem nameByte_law (c : Int) (f : Bool) (σ : Sto) : lim C 55 [(.int .u8 c, false), (.bool f, false)] σ = some (.ret [(.bool (nmByte c f), false)], σ) :=
  nameByte_lim (n := 0) <| by
    simp only [nameByte, nameByteF, nmByte, isLetter, isDigit, ge_iff_le]
    cases decide (97 ≤ c) <;> cases decide (c ≤ 122) <;> cases decide (65 ≤ c) <;> cases decide (c ≤ 90) <;> cases c == 95 <;> cases f <;> cases decide (48 ≤ c) <;> cases decide (c ≤ 57) <;> cases c == 46 <;> cases c == 39 <;> rfl

/-- The first place from i on where f is false. -/
def scan (f : Int → Bool) (s : ByteArray) (i : Nat) : Nat :=
  if h : i < s.size then (bif f (byteAt s i) then scan f s (i + 1) else i) else i
termination_by s.size - i
theorem scan_go {f : Int → Bool} {s : ByteArray} {i : Nat} (h : i < s.size) (hf : f (byteAt s i) = true) : scan f s i = scan f s (i + 1) := by
  rw [scan, dif_pos h, hf]; rfl
theorem scan_stop {f : Int → Bool} {s : ByteArray} {i : Nat} (h : ¬ (i < s.size ∧ f (byteAt s i) = true)) : scan f s i = i := by
  rw [scan]
  split
  · rename_i hi
    cases hf : f (byteAt s i) with
    | true => exact absurd ⟨hi, hf⟩ h
    | false => rfl
  · rfl
theorem scan_ge (f : Int → Bool) (s : ByteArray) : ∀ (k i : Nat), s.size - i = k → i ≤ scan f s i ∧ (i ≤ s.size → scan f s i ≤ s.size)
  | k, i, hk => by
    by_cases h : i < s.size ∧ f (byteAt s i) = true
    · rw [scan_go h.1 h.2]
      have := scan_ge f s (k - 1) (i + 1) (by omega)
      omega
    · rw [scan_stop h]; omega
theorem le_scan (f : Int → Bool) (s : ByteArray) (i : Nat) : i ≤ scan f s i := (scan_ge f s _ i rfl).1
theorem scan_le {f : Int → Bool} {s : ByteArray} {i : Nat} (h : i ≤ s.size) : scan f s i ≤ s.size := (scan_ge f s _ i rfl).2 h
theorem scan_end (f : Int → Bool) (s : ByteArray) : ∀ (k i : Nat), s.size - i = k → ¬ (scan f s i < s.size ∧ f (byteAt s (scan f s i)) = true)
  | k, i, hk => by
    by_cases h : i < s.size ∧ f (byteAt s i) = true
    · rw [scan_go h.1 h.2]
      exact scan_end f s (k - 1) (i + 1) (by omega)
    · rw [scan_stop h]; exact h

structure Tok where
  t : ByteArray
  at_ : Nat
  ok : Bool
def Tok.no (i : Nat) : Tok := ⟨ByteArray.mk #[], i, false⟩
def Tok.cells (k : Tok) : List Cell := [(.str k.t, false), (.int .i64 k.at_, false), (.bool k.ok, false)]
/-- A row of digits from i on, that ends ahead of q. -/
def numTok (s : ByteArray) (i q : Nat) (c : Int) : Tok :=
  let d := bif c == 35 then i + 1 else i
  bif q == d then .no i else bif decide (q - d > 5) then .no i else bif (decide (q - d > 1) && byteAt s d == 48) then .no i else ⟨s.extract i q, i, true⟩
def nmTok (s : ByteArray) (i q : Nat) : Tok := bif decide (q - i > 40) then .no i else ⟨s.extract i q, i, true⟩
def tokAt (s : ByteArray) (i : Nat) : Tok :=
  bif i == s.size then ⟨ByteArray.mk #[], i, true⟩ else
  bif byteAt s i == 40 then ⟨s.extract i (i + 1), i, true⟩ else bif byteAt s i == 41 then ⟨s.extract i (i + 1), i, true⟩ else
  bif nmByte (byteAt s i) true then nmTok s i (scan (nmByte · false) s (i + 1)) else
  bif byteAt s i == 35 || isDigit (byteAt s i) then numTok s i (scan isDigit s (i + 1)) (byteAt s i) else .no i
def tokV (s : ByteArray) (p : Nat) : Tok := tokAt s (scan isBlank s p)

/-- The reader's cells. -/
def rst (s : ByteArray) (p : Nat) (c a : Int) : List Cell := [(.str s, false), (.int .i64 p, false), (.int .i64 c, false), (.int .i64 a, false)]
theorem rd0 {σ : Sto} {r : Nat} {s : ByteArray} {p : Nat} {c a : Int} (h : σ[r]? = some (rst s p c a)) (t : TypeId) : memGet σ (.ptr t r 0) false 1 = some (.str s) := by simp [memGet, h, gather, rst]
theorem rd1 {σ : Sto} {r : Nat} {s : ByteArray} {p : Nat} {c a : Int} (h : σ[r]? = some (rst s p c a)) (t : TypeId) : memGet σ (.ptr t r 1) false 1 = some (.int .i64 p) := by simp [memGet, h, gather, rst]
theorem rd2 {σ : Sto} {r : Nat} {s : ByteArray} {p : Nat} {c a : Int} (h : σ[r]? = some (rst s p c a)) (t : TypeId) : memGet σ (.ptr t r 2) false 1 = some (.int .i64 c) := by simp [memGet, h, gather, rst]
theorem wrap_sub {q i : Nat} (h : i ≤ q) (hq : q < 2 ^ 61) : IntKind.wrap .i64 ((q : Int) - (i : Int)) = ((q - i : Nat) : Int) := by
  rw [← wrap_nat (n := q - i) (by omega)]
  congr 1
  omega
theorem dgt (a b : Nat) : decide ((a : Int) > (b : Int)) = decide (a > b) := by simp
theorem beqN (a b : Nat) : ((a : Int) == (b : Int)) = (a == b) := by
  rw [Bool.eq_iff_iff, beq_iff_eq, beq_iff_eq]; omega
theorem bnd2 {i q n : Nat} (h1 : i ≤ q) (h2 : q ≤ n) : (decide ((i : Int) ≤ (q : Int)) && decide ((q : Int) ≤ (n : Int))) = true := by simp; omega
theorem bnd {i q n : Nat} (h1 : i ≤ q) (h2 : q ≤ n) : (decide (0 ≤ (i : Int)) && decide ((i : Int) ≤ (q : Int)) && decide ((q : Int) ≤ (n : Int))) = true := by simp; omega

theorem tokens1_step (call : CallF) (n m : Nat) {σ : Sto} {r : Nat} {s : ByteArray} {p : Nat} {c a : Int} (h : σ[r]? = some (rst s p c a)) (hs : s.size < 2 ^ 61)
    (hc : ∀ x, call 55 [(.int .u8 x, false), (.bool false, false)] σ = some (.ret [(.bool (nmByte x false), false)], σ)) {i q : Nat} (hi : i ≤ q) (hq : q ≤ s.size) :
    rtokenl1 call n (m + 1) r (.int .i64 i) q σ = bif decide (q < s.size) && nmByte (byteAt s q) false then rtokenl1 call n m r (.int .i64 i) (q + 1 : Nat) σ else some (.ret (nmTok s i q).cells, σ) := by
  show rtokens1 call (rtokenl1 call n m) r (.int .i64 i) q σ = _
  unfold rtokens1
  have h40 : ((40 : Int)) = ((40 : Nat) : Int) := rfl
  simp only [rd0 h, Option.bind_some, V.asStr, V.asInt, if_true, callK_ret1 (hc _), Int.toNat_natCast, List.getD_cons_zero, V.asBool, wrap_sub hi (show q < 2 ^ 61 by omega), h40, dgt, bnd hi hq, grd, cond_true, nmTok, Tok.cells, Tok.no]
  by_cases h1 : q < s.size
  · simp only [dlt h1, d0, cond_true, Bool.and_self, Option.bind_some, wrap_succ (show q < 2 ^ 61 by omega), decide_eq_true h1, Bool.true_and]
    cases nmByte (byteAt s q) false with
    | true => rfl
    | false => simp only [cond_false]; cases decide (q - i > 40) <;> rfl
  · simp only [dnlt h1, cond_false, decide_eq_false h1, Bool.false_and]
    cases decide (q - i > 40) <;> rfl
theorem tokens1_loop (call : CallF) (n : Nat) {σ : Sto} {r : Nat} {s : ByteArray} {p : Nat} {c a : Int} (h : σ[r]? = some (rst s p c a)) (hs : s.size < 2 ^ 61)
    (hc : ∀ x, call 55 [(.int .u8 x, false), (.bool false, false)] σ = some (.ret [(.bool (nmByte x false), false)], σ)) {i : Nat} :
    ∀ (m q : Nat), i ≤ q → q ≤ s.size → s.size - q < m → rtokenl1 call n m r (.int .i64 i) q σ = some (.ret (nmTok s i (scan (nmByte · false) s q)).cells, σ)
  | 0, q, _, _, hm => by omega
  | m + 1, q, hi, hq, hm => by
    rw [tokens1_step call n m h hs hc hi hq]
    by_cases h1 : q < s.size ∧ nmByte (byteAt s q) false = true
    · rw [scan_go (f := (nmByte · false)) h1.1 h1.2, decide_eq_true h1.1, h1.2]
      exact tokens1_loop call n h hs hc m (q + 1) (by omega) (by omega) (by omega)
    · rw [scan_stop (f := (nmByte · false)) h1]
      have : (decide (q < s.size) && nmByte (byteAt s q) false) = false := by
        cases hb : nmByte (byteAt s q) false <;> simp_all
      rw [this]; rfl

theorem tokens2_step (call : CallF) (n m : Nat) {σ : Sto} {r : Nat} {s : ByteArray} {p : Nat} {c a : Int} (h : σ[r]? = some (rst s p c a)) (hs : s.size < 2 ^ 61) {i q : Nat} (x : Int) (hi : i < q) (hq : q ≤ s.size) :
    rtokenl2 call n (m + 1) r (.int .i64 i) q x σ = bif decide (q < s.size) && isDigit (byteAt s q) then rtokenl2 call n m r (.int .i64 i) (q + 1 : Nat) x σ else some (.ret (numTok s i q x).cells, σ) := by
  show rtokens2 call (rtokenl2 call n m) r (.int .i64 i) q x σ = _
  unfold rtokens2
  have h5 : ((5 : Int)) = ((5 : Nat) : Int) := rfl
  have h1' : ((1 : Int)) = ((1 : Nat) : Int) := rfl
  have e48 : ∀ z : Int, decide (z ≥ 48) = decide (48 ≤ z) := fun _ => rfl
  have w1 : IntKind.wrap .i64 ((i : Int) + ((1 : Nat) : Int)) = ((i + 1 : Nat) : Int) := wrap_succ (show i < 2 ^ 61 by omega)
  have w2 : IntKind.wrap .i64 ((q : Int) + ((1 : Nat) : Int)) = ((q + 1 : Nat) : Int) := wrap_succ (show q < 2 ^ 61 by omega)
  simp only [rd0 h, Option.bind_some, V.asStr, V.asInt, if_true, Int.toNat_natCast, h5, h1', w1, w2, wrap_sub (show i ≤ q by omega) (show q < 2 ^ 61 by omega), wrap_sub (show i + 1 ≤ q by omega) (show q < 2 ^ 61 by omega), dgt, beqN, bnd2 (show i ≤ q by omega) hq, d0, Bool.true_and, decide_eq_true (show s.size > i by omega), grd, cond_true, e48, numTok, Tok.cells, Tok.no]
  by_cases h1 : q < s.size
  · simp only [decide_eq_true (show s.size > q from h1), cond_true, Option.bind_some, decide_eq_true h1, Bool.true_and, isDigit]
    by_cases hx : x == 35
    · by_cases hd : q = i + 1
      · subst hd
        cases decide (48 ≤ byteAt s (i + 1)) <;> cases decide (byteAt s (i + 1) ≤ 57) <;> simp [hx]
      · have hlt : i + 1 < s.size := by omega
        have hd' : (q == i + 1) = false := by simpa using hd
        simp only [decide_eq_true (show s.size > i + 1 from hlt), hx, cond_true, hd', cond_false, Option.bind_some]
        cases decide (48 ≤ byteAt s q) <;> cases decide (byteAt s q ≤ 57) <;> cases decide (q - (i + 1) > 5) <;> cases decide (q - (i + 1) > 1) <;> cases byteAt s (i + 1) == 48 <;> rfl
    · have hd' : (q == i) = false := by simp; omega
      simp only [hx, cond_false, hd', Option.bind_some]
      cases decide (48 ≤ byteAt s q) <;> cases decide (byteAt s q ≤ 57) <;> cases decide (q - i > 5) <;> cases decide (q - i > 1) <;> cases byteAt s i == 48 <;> rfl
  · simp only [decide_eq_false (show ¬ s.size > q from h1), cond_false, decide_eq_false h1, Bool.false_and]
    by_cases hx : x == 35
    · by_cases hd : q = i + 1
      · subst hd
        simp [hx]
      · have hlt : i + 1 < s.size := by omega
        have hd' : (q == i + 1) = false := by simpa using hd
        simp only [decide_eq_true (show s.size > i + 1 from hlt), hx, cond_true, hd', cond_false, Option.bind_some]
        cases decide (q - (i + 1) > 5) <;> cases decide (q - (i + 1) > 1) <;> cases byteAt s (i + 1) == 48 <;> rfl
    · have hd' : (q == i) = false := by simp; omega
      simp only [hx, cond_false, hd', Option.bind_some]
      cases decide (q - i > 5) <;> cases decide (q - i > 1) <;> cases byteAt s i == 48 <;> rfl
theorem tokens2_loop (call : CallF) (n : Nat) {σ : Sto} {r : Nat} {s : ByteArray} {p : Nat} {c a : Int} (h : σ[r]? = some (rst s p c a)) (hs : s.size < 2 ^ 61) {i : Nat} (x : Int) :
    ∀ (m q : Nat), i < q → q ≤ s.size → s.size - q < m → rtokenl2 call n m r (.int .i64 i) q x σ = some (.ret (numTok s i (scan isDigit s q) x).cells, σ)
  | 0, q, _, _, hm => by omega
  | m + 1, q, hi, hq, hm => by
    rw [tokens2_step call n m h hs x hi hq]
    by_cases h1 : q < s.size ∧ isDigit (byteAt s q) = true
    · rw [scan_go (f := isDigit) h1.1 h1.2, decide_eq_true h1.1, h1.2]
      exact tokens2_loop call n h hs x m (q + 1) (by omega) (by omega) (by omega)
    · rw [scan_stop (f := isDigit) h1]
      have : (decide (q < s.size) && isDigit (byteAt s q)) = false := by
        cases hb : isDigit (byteAt s q) <;> simp_all
      rw [this]; rfl

theorem tokens0_loop (call : CallF) (n : Nat) {σ : Sto} {r : Nat} {s : ByteArray} {p0 : Nat} {c a : Int} (h : σ[r]? = some (rst s p0 c a)) (hs : s.size < 2 ^ 61) (hn : s.size < n)
    (hc : ∀ x f, call 55 [(.int .u8 x, false), (.bool f, false)] σ = some (.ret [(.bool (nmByte x f), false)], σ)) :
    ∀ (m p : Nat), p ≤ s.size → s.size - p < m → rtokenl0 call n m r (.int .i64 p) σ = some (.ret (tokV s p).cells, σ)
  | 0, q, _, hm => by omega
  | m + 1, p, hp, hm => by
    show rtokens0 call (rtokenl1 call n n) (rtokenl2 call n n) (rtokenl0 call n m) r (.int .i64 p) σ = _
    unfold rtokens0
    have e48 : ∀ z : Int, decide (z ≥ 48) = decide (48 ≤ z) := fun _ => rfl
    simp only [rd0 h, Option.bind_some, V.asStr, V.asInt, if_true, Int.toNat_natCast, wrap_succ (show p < 2 ^ 61 by omega), d0, Bool.true_and, callK_ret1 (hc _ _), List.getD_cons_zero, V.asBool, beqN, e48]
    by_cases h1 : p < s.size
    · have hpe : (p == s.size) = false := by simp; omega
      have hb1 : ((decide ((p : Int) ≤ ((p + 1 : Nat) : Int))) && decide (((p + 1 : Nat) : Int) ≤ (s.size : Int))) = true := by simp; omega
      simp only [dlt h1, cond_true, grd, Option.bind_some, hpe, cond_false, hb1]
      by_cases hb : isBlank (byteAt s p) = true
      · rw [tokV, scan_go h1 hb, ← tokV]
        have ih := tokens0_loop call n h hs hn hc m (p + 1) (by omega) (by omega)
        simp only [isBlank, Bool.or_eq_true] at hb
        rw [ih]
        rcases hb with (hb | hb) | hb
        · simp only [hb, cond_true]
        · cases byteAt s p == 32 <;> simp only [hb, cond_true, cond_false]
        · cases byteAt s p == 32 <;> cases byteAt s p == 9 <;> simp only [hb, cond_true, cond_false]
      · rw [tokV, scan_stop (fun hh => hb hh.2)]
        have hb' : isBlank (byteAt s p) = false := by simpa using hb
        simp only [isBlank, Bool.or_eq_false_iff] at hb'
        obtain ⟨⟨b1, b2⟩, b3⟩ := hb'
        have l1 := tokens1_loop call n h hs (fun x => hc x false) (i := p) n (p + 1) (by omega) (by omega) (by omega)
        have l2 := tokens2_loop call n h hs (i := p) (byteAt s p) n (p + 1) (by omega) (by omega) (by omega)
        simp only [b1, b2, b3, cond_false, l1, l2, tokAt, hpe, isDigit]
        cases byteAt s p == 40 <;> cases byteAt s p == 41 <;> cases nmByte (byteAt s p) true <;> cases byteAt s p == 35 <;> cases decide (48 ≤ byteAt s p) <;> cases decide (byteAt s p ≤ 57) <;> rfl
    · have hpe : p = s.size := by omega
      rw [tokV, scan_stop (fun hh => h1 hh.1)]
      rw [dnlt h1]
      simp only [cond_false, hpe, beq_self_eq_true, cond_true, tokAt, Tok.cells]
theorem token_law {σ : Sto} {r : Nat} {s : ByteArray} {p : Nat} {c a : Int} (h : σ[r]? = some (rst s p c a)) (hs : s.size < 2 ^ 61) (hp : p ≤ s.size) :
    lim C 41 [(.ptr 53 r 0, false)] σ = some (.ret (tokV s p).cells, σ) :=
  rtoken_lim (n := s.size + 1) <| by
    have := tokens0_loop (lim C) (s.size + 1) h hs (by omega) (fun x f => nameByte_law x f σ) (s.size + 1) p hp (by omega)
    simp only [rtoken, rtokenF, rd1 h, Option.bind_some]
    exact this
end Go.Ab.Mk
end
section
namespace Go.Ab.Mk
open Go.Proofs Go.Ab

structure RS where
  p : Nat
  c : Int
  a : Int
def RS.cells (s : ByteArray) (st : RS) : List Cell := rst s st.p st.c st.a
def isNo (t : ByteArray) : Bool := t.toList == (ByteArray.mk #[]).toList
def rfailV (st : RS) (i : Nat) : RS := bif st.c == 0 then ⟨st.p, 1, i⟩ else st
def rnextV (s : ByteArray) (st : RS) : ByteArray × RS :=
  let k := tokV s st.p
  let st1 := bif !k.ok || isNo k.t then rfailV st k.at_ else st
  bif st1.c != 0 then (ByteArray.mk #[], st1) else (k.t, ⟨k.at_ + k.t.size, st1.c, st1.a⟩)
def rtakeV (s : ByteArray) (st : RS) (w : ByteArray) : RS :=
  let k := tokV s st.p
  let st1 := bif !k.ok || !(k.t.toList == w.toList) then rfailV st k.at_ else st
  bif st1.c == 0 then ⟨k.at_ + k.t.size, st1.c, st1.a⟩ else st1
def isNameV (t : ByteArray) : Bool := !isNo t && nmByte (byteAt t 0) true
def rdoneV (s : ByteArray) (st : RS) : RS :=
  let k := tokV s st.p
  bif !k.ok || !isNo k.t then rfailV st k.at_ else st

theorem isNo_size {t : ByteArray} (h : isNo t = false) : 0 < t.size := by
  rcases Nat.eq_zero_or_pos t.size with h0 | h0
  · have : t = ByteArray.mk #[] := by
      apply ByteArray.ext
      exact Array.eq_empty_of_size_eq_zero h0
    subst this
    simp [isNo] at h
  · exact h0

/-! Where tokens lie. -/
structure TokOk (s : ByteArray) (p : Nat) (k : Tok) : Prop where
  ge : p ≤ k.at_
  le : k.at_ + k.t.size ≤ s.size
  no : k.ok = false → isNo k.t = true
theorem ext_size (s : ByteArray) {i q : Nat} (h1 : i ≤ q) (h2 : q ≤ s.size) : i + (s.extract i q).size = q := by
  rw [ByteArray.size_extract]; omega
theorem tokV_ok (s : ByteArray) {p : Nat} (hp : p ≤ s.size) : TokOk s p (tokV s p) := by
  have h1 := le_scan isBlank s p
  have h2 := scan_le (f := isBlank) hp
  unfold tokV
  generalize scan isBlank s p = i at h1 h2
  unfold tokAt
  have e0 : isNo (ByteArray.mk #[]) = true := by simp [isNo]
  have s0 : (ByteArray.mk #[]).size = 0 := rfl
  have no : TokOk s p (Tok.no i) := ⟨h1, by simp [Tok.no]; omega, fun _ => e0⟩
  by_cases hi : i = s.size
  · subst hi
    simp only [beq_self_eq_true, cond_true]
    exact ⟨h1, by simp [s0], fun _ => e0⟩
  · have hib : (i == s.size) = false := by simpa using hi
    simp only [hib, cond_false]
    have one : TokOk s p ⟨s.extract i (i + 1), i, true⟩ := ⟨h1, by simp only; rw [ext_size s (by omega) (by omega)]; omega, by simp⟩
    have nm : ∀ q, i + 1 ≤ q → q ≤ s.size → TokOk s p (nmTok s i q) := by
      intro q hq1 hq2
      unfold nmTok
      cases decide (q - i > 40)
      · exact ⟨h1, by simp only [cond_false]; rw [ext_size s (by omega) hq2]; exact hq2, by simp⟩
      · exact no
    have num : ∀ q x, i + 1 ≤ q → q ≤ s.size → TokOk s p (numTok s i q x) := by
      intro q x hq1 hq2
      simp only [numTok]
      generalize (bif x == 35 then i + 1 else i) = d
      cases q == d
      · cases decide (q - d > 5)
        · cases (decide (q - d > 1) && byteAt s d == 48)
          · exact ⟨h1, by simp only [cond_false]; rw [ext_size s (by omega) hq2]; exact hq2, by simp⟩
          · exact no
        · exact no
      · exact no
    have g1 := le_scan (nmByte · false) s (i + 1)
    have g2 := scan_le (f := (nmByte · false)) (s := s) (i := i + 1) (by omega)
    have g3 := le_scan isDigit s (i + 1)
    have g4 := scan_le (f := isDigit) (s := s) (i := i + 1) (by omega)
    cases byteAt s i == 40
    · cases byteAt s i == 41
      · cases nmByte (byteAt s i) true
        · cases (byteAt s i == 35 || isDigit (byteAt s i))
          · exact no
          · exact num _ _ g3 g4
        · exact nm _ g1 g2
      · exact one
    · exact one

theorem rset_same {σ : Sto} {r : Nat} {s : ByteArray} {st : RS} (h : σ[r]? = some (st.cells s)) : σ.set r (st.cells s) = σ := by
  obtain ⟨_, h⟩ := List.getElem?_eq_some_iff.1 h
  rw [← h]; simp
theorem callK_ret3 {call : CallF} {f : FuncId} {args : List Cell} {σ σ' : Sto} {K : List Cell → Sto → Option Res} {KP : V → Sto → Option Res} {cs : List Cell} (h : call f args σ = some (.ret cs, σ')) (hl : cs.length = 3) :
    callK call f args σ 3 K KP = K cs σ' := callK_ret h hl
theorem tok0 (k : Tok) : (k.cells.getD 0 cellD).1 = .str k.t := rfl
theorem tok1 (k : Tok) : (k.cells.getD 1 cellD).1 = .int .i64 k.at_ := rfl
theorem tok2 (k : Tok) : (k.cells.getD 2 cellD).1 = .bool k.ok := rfl
theorem rset2 {σ : Sto} {r : Nat} {s : ByteArray} {st : RS} (h : σ[r]? = some (st.cells s)) (t : TypeId) (x y : Int) : memSet σ (.ptr t r 2) [(.int .i64 x, false), (.int .i64 y, false)] = some (σ.set r (RS.cells s ⟨st.p, x, y⟩)) := by
  simp only [memSet, h, Option.bind_some]; rfl
theorem rset1 {σ : Sto} {r : Nat} {s : ByteArray} {st : RS} (h : σ[r]? = some (st.cells s)) (t : TypeId) (x : Nat) : memSet σ (.ptr t r 1) [(.int .i64 x, false)] = some (σ.set r (RS.cells s ⟨x, st.c, st.a⟩)) := by
  simp only [memSet, h, Option.bind_some]; rfl

theorem rfail_law {σ : Sto} {r : Nat} {s : ByteArray} {st : RS} (h : σ[r]? = some (st.cells s)) (i : Nat) :
    lim C 44 [(.ptr 53 r 0, false), (.int .i64 i, false)] σ = some (.ret [], σ.set r ((rfailV st i).cells s)) :=
  rfail_lim (n := 0) <| by
    simp only [rfail, rfailF, rd2 h, Option.bind_some, V.asInt, if_true, rset2 h, rfailV]
    cases st.c == 0
    · simp only [cond_false, rset_same h]
    · rfl
theorem set_get {σ : Sto} {r : Nat} {x : List Cell} {y : List Cell} (h : σ[r]? = some x) : (σ.set r y)[r]? = some y := by
  obtain ⟨hl, _⟩ := List.getElem?_eq_some_iff.1 h
  simp [hl]
theorem wrap_add {a b : Nat} (h : a + b < 2 ^ 62) : IntKind.wrap .i64 ((a : Int) + (b : Int)) = ((a + b : Nat) : Int) := by
  rw [← wrap_nat h]; simp
theorem rnext_law {σ : Sto} {r : Nat} {s : ByteArray} {st : RS} (h : σ[r]? = some (st.cells s)) (hs : s.size < 2 ^ 61) (hp : st.p ≤ s.size) :
    lim C 43 [(.ptr 53 r 0, false)] σ = some (.ret [(.str (rnextV s st).1, false)], σ.set r ((rnextV s st).2.cells s)) :=
  rnext_lim (n := 0) <| by
    obtain ⟨hk1, hk2, hk3⟩ := tokV_ok s hp
    have ht := token_law h hs hp
    have hw : IntKind.wrap .i64 (((tokV s st.p).at_ : Int) + ((tokV s st.p).t.size : Int)) = (((tokV s st.p).at_ + (tokV s st.p).t.size : Nat) : Int) := wrap_add (by omega)
    have fin : ∀ st1 : RS, ∀ σ1 : Sto, σ1[r]? = some (st1.cells s) → st1.p = st.p → σ1 = σ.set r (st1.cells s) →
        (bif st1.c != 0 then some (End.ret [(V.str (ByteArray.mk #[]), false)], σ1) else
          (memSet σ1 (.ptr 53 r 1) [(.int .i64 (IntKind.wrap .i64 (((tokV s st.p).at_ : Int) + ((tokV s st.p).t.size : Int))), false)]).bind fun m => some (End.ret [(V.str (tokV s st.p).t, false)], m)) =
        some (.ret [(.str (bif st1.c != 0 then (ByteArray.mk #[], st1) else ((tokV s st.p).t, (⟨(tokV s st.p).at_ + (tokV s st.p).t.size, st1.c, st1.a⟩ : RS))).1, false)],
          σ.set r ((bif st1.c != 0 then (ByteArray.mk #[], st1) else ((tokV s st.p).t, (⟨(tokV s st.p).at_ + (tokV s st.p).t.size, st1.c, st1.a⟩ : RS))).2.cells s)) := by
      intro st1 σ1 h1 hp1 hσ
      rw [hw, rset1 h1]
      cases st1.c != 0
      · simp only [cond_false, Option.bind_some]
        rw [hσ, List.set_set]
      · simp only [cond_true]
        rw [hσ]
    simp only [rnext, rnextF, callK_ret3 ht rfl, tok0, tok1, tok2, V.asBool, V.asStr, V.asInt, if_true, Option.bind_some, rnextV]
    have hf := rfail_law h (tokV s st.p).at_
    have hg : (σ.set r ((rfailV st (tokV s st.p).at_).cells s))[r]? = some ((rfailV st (tokV s st.p).at_).cells s) := set_get h
    have e0 : ((tokV s st.p).t.toList == (ByteArray.mk #[]).toList) = isNo (tokV s st.p).t := rfl
    have hfp : (rfailV st (tokV s st.p).at_).p = st.p := by unfold rfailV; cases st.c == 0 <;> rfl
    rw [e0]
    cases hok : (tokV s st.p).ok
    · simp only [Bool.not_false, cond_true, Bool.true_or, callK_ret0 hf, rd2 hg, Option.bind_some, V.asInt, if_true]
      exact fin _ _ hg hfp rfl
    · simp only [Bool.not_true, cond_false, Bool.false_or]
      cases hno : isNo (tokV s st.p).t
      · simp only [cond_false, rd2 h, Option.bind_some, V.asInt, if_true]
        exact fin _ _ h rfl (rset_same h).symm
      · simp only [cond_true, callK_ret0 hf, rd2 hg, Option.bind_some, V.asInt, if_true]
        exact fin _ _ hg hfp rfl
theorem rtake_law {σ : Sto} {r : Nat} {s : ByteArray} {st : RS} (h : σ[r]? = some (st.cells s)) (hs : s.size < 2 ^ 61) (hp : st.p ≤ s.size) (w : ByteArray) :
    lim C 45 [(.ptr 53 r 0, false), (.str w, false)] σ = some (.ret [], σ.set r ((rtakeV s st w).cells s)) :=
  rtake_lim (n := 0) <| by
    obtain ⟨hk1, hk2, hk3⟩ := tokV_ok s hp
    have ht := token_law h hs hp
    have hw : IntKind.wrap .i64 (((tokV s st.p).at_ : Int) + ((tokV s st.p).t.size : Int)) = (((tokV s st.p).at_ + (tokV s st.p).t.size : Nat) : Int) := wrap_add (by omega)
    have fin : ∀ st1 : RS, ∀ σ1 : Sto, σ1[r]? = some (st1.cells s) → σ1 = σ.set r (st1.cells s) →
        (bif st1.c == 0 then
          (memSet σ1 (.ptr 53 r 1) [(.int .i64 (IntKind.wrap .i64 (((tokV s st.p).at_ : Int) + ((tokV s st.p).t.size : Int))), false)]).bind fun m => some (End.ret [], m) else some (End.ret [], σ1)) =
        some (.ret [], σ.set r ((bif st1.c == 0 then (⟨(tokV s st.p).at_ + (tokV s st.p).t.size, st1.c, st1.a⟩ : RS) else st1).cells s)) := by
      intro st1 σ1 h1 hσ
      rw [hw, rset1 h1]
      cases st1.c == 0
      · simp only [cond_false]
        rw [hσ]
      · simp only [cond_true, Option.bind_some]
        rw [hσ, List.set_set]
    simp only [rtake, rtakeF, callK_ret3 ht rfl, tok0, tok1, tok2, V.asBool, V.asStr, V.asInt, if_true, Option.bind_some, rtakeV]
    have hf := rfail_law h (tokV s st.p).at_
    have hg : (σ.set r ((rfailV st (tokV s st.p).at_).cells s))[r]? = some ((rfailV st (tokV s st.p).at_).cells s) := set_get h
    cases hok : (tokV s st.p).ok
    · simp only [Bool.not_false, cond_true, Bool.true_or, callK_ret0 hf, rd2 hg, Option.bind_some, V.asInt, if_true]
      exact fin _ _ hg rfl
    · simp only [Bool.not_true, cond_false, Bool.false_or]
      cases hno : ((tokV s st.p).t.toList == w.toList)
      · simp only [Bool.not_false, cond_true, callK_ret0 hf, rd2 hg, Option.bind_some, V.asInt, if_true]
        exact fin _ _ hg rfl
      · simp only [Bool.not_true, cond_false, rd2 h, Option.bind_some, V.asInt, if_true]
        exact fin _ _ h (rset_same h).symm
theorem isName_law (t : ByteArray) (σ : Sto) : lim C 42 [(.str t, false)] σ = some (.ret [(.bool (isNameV t), false)], σ) :=
  isName_lim (n := 0) <| by
    have e0 : (t.toList == (ByteArray.mk #[]).toList) = isNo t := rfl
    simp only [isName, isNameF, e0, isNameV]
    cases hno : isNo t
    · have := isNo_size hno
      have hz : decide ((0 : Int) < (t.size : Int)) = true := by simp; omega
      have hn := nameByte_law (byteAt t 0) true σ
      simp only [Bool.not_false, cond_true, hz, Int.toNat_zero, callK_ret1 hn, Bool.true_and]
      rfl
    · rfl
theorem rdone_law {σ : Sto} {r : Nat} {s : ByteArray} {st : RS} (h : σ[r]? = some (st.cells s)) (hs : s.size < 2 ^ 61) (hp : st.p ≤ s.size) :
    lim C 26 [(.ptr 53 r 0, false)] σ = some (.ret [(.agg [.int .i64 (rdoneV s st).c, .int .i64 (rdoneV s st).a], false)], σ.set r ((rdoneV s st).cells s)) :=
  rdone_lim (n := 0) <| by
    have ht := token_law h hs hp
    have fin : ∀ st1 : RS, ∀ σ1 : Sto, σ1[r]? = some (st1.cells s) → σ1 = σ.set r (st1.cells s) →
        ((memGet σ1 (V.ptr 53 r 2) true 2).bind fun m => (grd (V.fits m true 2)).bind fun _ => some (End.ret [((V.agg [(V.cell m 0), (V.cell m 1)]), false)], σ1)) =
        some (.ret [(.agg [.int .i64 st1.c, .int .i64 st1.a], false)], σ.set r (st1.cells s)) := by
      intro st1 σ1 h1 hσ
      have : memGet σ1 (V.ptr 53 r 2) true 2 = some (.agg [.int .i64 st1.c, .int .i64 st1.a]) := by simp only [memGet, h1, Option.bind_some]; rfl
      rw [this, hσ]; rfl
    simp only [rdone, rdoneF, callK_ret3 ht rfl, tok0, tok1, tok2, V.asBool, V.asStr, Option.bind_some, rdoneV]
    have hf := rfail_law h (tokV s st.p).at_
    have hg : (σ.set r ((rfailV st (tokV s st.p).at_).cells s))[r]? = some ((rfailV st (tokV s st.p).at_).cells s) := set_get h
    have e0 : ((tokV s st.p).t.toList == (ByteArray.mk #[]).toList) = isNo (tokV s st.p).t := rfl
    rw [e0]
    cases hok : (tokV s st.p).ok
    · simp only [Bool.not_false, cond_true, Bool.true_or, callK_ret0 hf]
      exact fin _ _ hg rfl
    · cases hno : isNo (tokV s st.p).t
      · simp only [Bool.not_true, cond_false, Bool.false_or, Bool.not_false, cond_true, callK_ret0 hf]
        exact fin _ _ hg rfl
      · simp only [Bool.not_true, cond_false, Bool.false_or]
        exact fin _ _ h (rset_same h).symm
end Go.Ab.Mk
end
section
namespace Go.Ab.Mk
open Go.Proofs Go.Ab

def strIs (t : ByteArray) (l : List UInt8) : Bool := t.toList == (ba l).toList
def lv1 (rec : RS → Lv × RS) (s : ByteArray) (f : Lv → Lv) (st : RS) : Lv × RS := (f (rec st).1, rtakeV s (rec st).2 (ba [41]))
def lv2 (rec : RS → Lv × RS) (s : ByteArray) (f : Lv → Lv → Lv) (st : RS) : Lv × RS := (f (rec st).1 (rec (rec st).2).1, rtakeV s (rec (rec st).2).2 (ba [41]))
def lvP (rec : RS → Lv × RS) (s : ByteArray) (st : RS) : Lv × RS :=
  bif strIs (tokV s st.p).t [115] then lv1 rec s .succ (rnextV s st).2 else
  bif strIs (tokV s st.p).t [109, 97, 120] then lv2 rec s .max (rnextV s st).2 else
  bif strIs (tokV s st.p).t [105, 109, 97, 120] then lv2 rec s .imax (rnextV s st).2 else (.zero, rfailV st (tokV s st.p).at_)
/-- The next level, to a depth. -/
def rlevelV : Nat → ByteArray → RS → Lv × RS
  | 0, _, st => (.zero, st)
  | n + 1, s, st =>
    bif st.c != 0 then (.zero, st) else
    bif strIs (tokV s st.p).t [48] then (.zero, (rnextV s st).2) else
    bif isNameV (tokV s st.p).t then (.param (tokV s st.p).t, (rnextV s st).2) else
    bif strIs (tokV s st.p).t [40] then lvP (rlevelV n s) s (rnextV s st).2 else (.zero, rfailV st (tokV s st.p).at_)

theorem rfail_p (st : RS) (i : Nat) : (rfailV st i).p = st.p := by unfold rfailV; cases st.c == 0 <;> rfl
theorem rfail_c (st : RS) (i : Nat) : (rfailV st i).c ≠ 0 := by
  unfold rfailV
  cases h : st.c == 0
  · simpa using h
  · simp
theorem rnext_stuck {s : ByteArray} {st : RS} (h : st.c ≠ 0) : rnextV s st = (ByteArray.mk #[], st) := by
  have h1 : (st.c == 0) = false := by simpa using h
  have h2 : (st.c != 0) = true := by simpa using h
  unfold rnextV rfailV
  simp only [h1, cond_false]
  cases (!(tokV s st.p).ok || isNo (tokV s st.p).t) <;> simp only [cond_true, cond_false, h2]
theorem rnext_p {s : ByteArray} {st : RS} (hp : st.p ≤ s.size) : (rnextV s st).2.p ≤ s.size ∧ ((rnextV s st).2.c = 0 → st.c = 0 ∧ isNo (tokV s st.p).t = false ∧ (rnextV s st).2.p = (tokV s st.p).at_ + (tokV s st.p).t.size) := by
  obtain ⟨k1, k2, k3⟩ := tokV_ok s hp
  by_cases hc : st.c = 0
  · unfold rnextV rfailV
    simp only [hc, beq_self_eq_true, cond_true, bne_self_eq_false]
    cases hx : (!(tokV s st.p).ok || isNo (tokV s st.p).t)
    · simp only [cond_false, hc, bne_self_eq_false]
      simp only [Bool.or_eq_false_iff] at hx
      exact ⟨by omega, fun _ => ⟨trivial, hx.2, by first | rfl | trivial⟩⟩
    · simp only [cond_true]
      exact ⟨hp, fun h => by simp at h⟩
  · rw [rnext_stuck hc]
    exact ⟨hp, fun h => absurd h hc⟩
theorem rtake_p {s : ByteArray} {st : RS} {w : ByteArray} (hp : st.p ≤ s.size) : (rtakeV s st w).p ≤ s.size ∧ ((rtakeV s st w).c = 0 → st.c = 0 ∧ (tokV s st.p).t.toList = w.toList ∧ (rtakeV s st w).p = (tokV s st.p).at_ + (tokV s st.p).t.size) := by
  obtain ⟨k1, k2, k3⟩ := tokV_ok s hp
  by_cases hc : st.c = 0
  · unfold rtakeV rfailV
    simp only [hc, beq_self_eq_true, cond_true]
    cases hx : (!(tokV s st.p).ok || !((tokV s st.p).t.toList == w.toList))
    · simp only [cond_false, hc, beq_self_eq_true, cond_true]
      simp only [Bool.or_eq_false_iff] at hx
      exact ⟨by omega, fun _ => ⟨trivial, by simpa using hx.2, by first | rfl | trivial⟩⟩
    · simp only [cond_true]
      exact ⟨hp, fun h => by simp at h⟩
  · have h1 : (st.c == 0) = false := by simpa using hc
    have : rtakeV s st w = st := by
      unfold rtakeV rfailV
      simp only [h1, cond_false]
      cases (!(tokV s st.p).ok || !((tokV s st.p).t.toList == w.toList)) <;> simp only [cond_true, cond_false, h1]
    rw [this]
    exact ⟨hp, fun h => absurd h hc⟩
theorem rlevel_stuck {n : Nat} {s : ByteArray} {st : RS} (h : st.c ≠ 0) : rlevelV n s st = (.zero, st) := by
  cases n with
  | zero => rfl
  | succ n =>
    have h2 : (st.c != 0) = true := by simpa using h
    rw [rlevelV, h2]; rfl

theorem strIs_size {t : ByteArray} {l : List UInt8} (h : strIs t l = true) : t.size = l.length := by
  rw [strIs, beq_iff_eq, ByteArray.toList_eq, ByteArray.toList_eq] at h
  have := congrArg List.length h
  show t.data.size = l.length
  rw [← Array.length_toList, this]
  simp [ba]
/-- What a level takes of the text; how much it prints. -/
structure Took (s : ByteArray) (st : RS) (x : Lv × RS) : Prop where
  le : x.2.p ≤ s.size
  ok : x.2.c = 0 → st.c = 0 ∧ (printL x.1).length ≤ 2 * (x.2.p - st.p) ∧ x.1.size ≤ x.2.p - st.p ∧ st.p < x.2.p ∧ printL x.1 ≠ []
theorem rlevel_took (s : ByteArray) : ∀ (n : Nat) (st : RS), st.p ≤ s.size → (st.c ≠ 0 ∨ s.size - st.p < n) → Took s st (rlevelV n s st)
  | 0, st, hp, hn => ⟨hp, fun h => by rcases hn with hn | hn; exact absurd h hn; omega⟩
  | n + 1, st, hp, hn => by
    by_cases hc : st.c = 0
    case neg => rw [rlevel_stuck hc]; exact ⟨hp, fun h => absurd h hc⟩
    obtain ⟨k1, k2, k3⟩ := tokV_ok s hp
    obtain ⟨q1, q2⟩ := rnext_p (st := st) hp
    have hc' : (st.c != 0) = false := by simp [hc]
    simp only [rlevelV, hc', cond_false]
    cases h0 : strIs (tokV s st.p).t [48]
    case true =>
      have z := strIs_size h0
      simp only [cond_true, cond_false]
      refine ⟨q1, fun h => ?_⟩
      obtain ⟨_, _, e⟩ := q2 h
      simp only [List.length_cons, List.length_nil] at z
      refine ⟨hc, ?_, ?_, ?_, by simp [printL]⟩ <;> simp only [e, printL, Lv.size, List.length_cons, List.length_nil] <;> omega
    cases h1 : isNameV (tokV s st.p).t
    case true =>
      simp only [cond_true, cond_false]
      refine ⟨q1, fun h => ?_⟩
      obtain ⟨_, e1, e⟩ := q2 h
      have z := isNo_size e1
      have zz : (tokV s st.p).t.data.toList.length = (tokV s st.p).t.size := Array.length_toList
      refine ⟨hc, ?_, ?_, ?_, ?_⟩
      · simp only [e, printL, zz]; omega
      · simp only [e, Lv.size]; omega
      · simp only [e]; omega
      · simp only [printL]; intro hh; rw [hh] at zz; simp at zz; omega
    cases h2 : strIs (tokV s st.p).t [40]
    case false =>
      simp only [cond_false]
      exact ⟨by rw [rfail_p]; exact hp, fun h => absurd h (rfail_c _ _)⟩
    have z2 := strIs_size h2
    simp only [List.length_cons, List.length_nil] at z2
    simp only [cond_true, cond_false]
    obtain ⟨r1, r2⟩ := rnext_p (s := s) (st := (rnextV s st).2) q1
    have hn2 : (rnextV s (rnextV s st).2).2.c ≠ 0 ∨ s.size - (rnextV s (rnextV s st).2).2.p < n := by
      by_cases hz : (rnextV s (rnextV s st).2).2.c = 0
      · obtain ⟨e1, e2, e3⟩ := r2 hz
        obtain ⟨_, _, e4⟩ := q2 e1
        obtain ⟨m1, _, _⟩ := tokV_ok s q1
        rcases hn with hn | hn
        · exact absurd hc hn
        · have := isNo_size e2; right; omega
      · exact .inl hz
    have tx := rlevel_took s n _ r1 hn2
    have hn3 : (rlevelV n s (rnextV s (rnextV s st).2).2).2.c ≠ 0 ∨ s.size - (rlevelV n s (rnextV s (rnextV s st).2).2).2.p < n := by
      by_cases hz : (rlevelV n s (rnextV s (rnextV s st).2).2).2.c = 0
      · obtain ⟨e1, _, _, e2, _⟩ := tx.ok hz
        rcases hn2 with h | h
        · exact absurd e1 h
        · right; omega
      · exact .inl hz
    have ty := rlevel_took s n _ tx.le hn3
    generalize hX : rlevelV n s (rnextV s (rnextV s st).2).2 = X at tx ty hn3
    generalize hY : rlevelV n s X.2 = Y at ty
    have b41 : (ba [41]).toList = [41] := by rw [ByteArray.toList_eq]; rfl
    have one : ∀ (f : Lv → Lv) (w : List UInt8), (∀ l, (printL (f l)).length = (printL l).length + w.length + 3 ∧ (f l).size = l.size + 1 ∧ printL (f l) ≠ []) → strIs (tokV s (rnextV s st).2.p).t w = true → w.length ≥ 1 → Took s st (f X.1, rtakeV s X.2 (ba [41])) := by
      intro f w hf hw hwl
      obtain ⟨t1, t2⟩ := rtake_p (w := ba [41]) tx.le
      refine ⟨t1, fun h => ?_⟩
      obtain ⟨u1, u2, u3⟩ := t2 h
      obtain ⟨v1, v2, v3, v4, v5⟩ := tx.ok u1
      obtain ⟨w1, w2, w3⟩ := r2 v1
      obtain ⟨x1, x2, x3⟩ := q2 w1
      obtain ⟨m1, _, _⟩ := tokV_ok s q1
      obtain ⟨m2, _, _⟩ := tokV_ok s tx.le
      have z4 := strIs_size hw
      have z5 : (tokV s X.2.p).t.size = 1 := by
        have := strIs_size (l := [41]) (t := (tokV s X.2.p).t) (by simp [strIs, u2])
        simpa using this
      obtain ⟨g1, g2, g3⟩ := hf X.1
      simp only
      refine ⟨hc, ?_, ?_, ?_, g3⟩ <;> (try rw [g1]) <;> (try rw [g2]) <;> omega
    have two : ∀ (f : Lv → Lv → Lv) (w : List UInt8), (∀ l m, (printL (f l m)).length = (printL l).length + (printL m).length + w.length + 4 ∧ (f l m).size = l.size + m.size + 1 ∧ printL (f l m) ≠ []) → strIs (tokV s (rnextV s st).2.p).t w = true → w.length ≥ 1 → Took s st (f X.1 Y.1, rtakeV s Y.2 (ba [41])) := by
      intro f w hf hw hwl
      obtain ⟨t1, t2⟩ := rtake_p (w := ba [41]) ty.le
      refine ⟨t1, fun h => ?_⟩
      obtain ⟨u1, u2, u3⟩ := t2 h
      obtain ⟨y1, y2, y3, y4, y5⟩ := ty.ok u1
      obtain ⟨v1, v2, v3, v4, v5⟩ := tx.ok y1
      obtain ⟨w1, w2, w3⟩ := r2 v1
      obtain ⟨x1, x2, x3⟩ := q2 w1
      obtain ⟨m1, _, _⟩ := tokV_ok s q1
      obtain ⟨m2, _, _⟩ := tokV_ok s ty.le
      have z4 := strIs_size hw
      have z5 : (tokV s Y.2.p).t.size = 1 := by
        have := strIs_size (l := [41]) (t := (tokV s Y.2.p).t) (by simp [strIs, u2])
        simpa using this
      obtain ⟨g1, g2, g3⟩ := hf X.1 Y.1
      simp only
      refine ⟨hc, ?_, ?_, ?_, g3⟩ <;> (try rw [g1]) <;> (try rw [g2]) <;> omega
    simp only [lvP, lv1, lv2, hX, hY]
    cases h3 : strIs (tokV s (rnextV s st).2.p).t [115]
    case true => exact one .succ [115] (fun l => ⟨by simp [printL] <;> omega, rfl, by simp [printL]⟩) h3 (by simp)
    cases h4 : strIs (tokV s (rnextV s st).2.p).t [109, 97, 120]
    case true => exact two .max [109, 97, 120] (fun l m => ⟨by simp [printL]; omega, rfl, by simp [printL]⟩) h4 (by simp)
    cases h5 : strIs (tokV s (rnextV s st).2.p).t [105, 109, 97, 120]
    case true => exact two .imax [105, 109, 97, 120] (fun l m => ⟨by simp [printL]; omega, rfl, by simp [printL]⟩) h5 (by simp)
    exact ⟨by simp only [cond_false]; rw [rfail_p]; exact q1, fun h => absurd h (by simp only [cond_false]; exact rfail_c _ _)⟩

theorem lv0 : V.agg [.int .i64 0, .str (ByteArray.mk #[]), .slice 3 31 []] = V.agg [.int .i64 Lv.zero.kind, .str Lv.zero.name, .slice 3 31 Lv.zero.args] := rfl
theorem rlevel_law {r : Nat} {s : ByteArray} (hs : s.size < 2 ^ 61) : ∀ (n : Nat) (st : RS) (σ : Sto), σ[r]? = some (st.cells s) → st.p ≤ s.size → (st.c ≠ 0 ∨ s.size - st.p < n) → 0 < n →
    lim C 25 [(.ptr 53 r 0, false)] σ = some (.ret [(.agg [.int .i64 (rlevelV n s st).1.kind, .str (rlevelV n s st).1.name, .slice 3 31 (rlevelV n s st).1.args], false)], σ.set r ((rlevelV n s st).2.cells s))
  | 0, st, σ, h, hp, hn, h0 => by omega
  | n + 1, st, σ, h, hp, hn, _ => rlevel_lim (n := 0) <| by
    have ht := token_law h hs hp
    have hi := isName_law (tokV s st.p).t σ
    simp only [rlevel, rlevelF, callK_ret3 ht rfl, tok0, tok1, tok2, callK_ret1 hi, rd2 h, V.asInt, V.asStr, if_true, Option.bind_some, List.getD_cons_zero, V.asBool]
    by_cases hc : st.c = 0
    case neg =>
      have h2 : (st.c != 0) = true := by simpa using hc
      rw [rlevel_stuck hc]
      simp only [h2, cond_true, rset_same h]
      rfl
    obtain ⟨q1, q2⟩ := rnext_p (st := st) hp
    obtain ⟨r1, r2⟩ := rnext_p (s := s) (st := (rnextV s st).2) q1
    have hc' : (st.c != 0) = false := by simp [hc]
    have hnx := rnext_law h hs hp
    have hg1 : (σ.set r ((rnextV s st).2.cells s))[r]? = some ((rnextV s st).2.cells s) := set_get h
    have e48 : ∀ t : ByteArray, (t.toList == (ByteArray.mk #[48]).toList) = strIs t [48] := fun _ => rfl
    have e40 : ∀ t : ByteArray, (t.toList == (ByteArray.mk #[40]).toList) = strIs t [40] := fun _ => rfl
    have e115 : ∀ t : ByteArray, (t.toList == (ByteArray.mk #[115]).toList) = strIs t [115] := fun _ => rfl
    have emax : ∀ t : ByteArray, (t.toList == (ByteArray.mk #[109, 97, 120]).toList) = strIs t [109, 97, 120] := fun _ => rfl
    have eimax : ∀ t : ByteArray, (t.toList == (ByteArray.mk #[105, 109, 97, 120]).toList) = strIs t [105, 109, 97, 120] := fun _ => rfl
    have e41 : ByteArray.mk #[41] = ba [41] := rfl
    have hr1 : room (0 + 1) = true := by decide
    have hr2 : room (1 + 1) = true := by decide
    simp only [hc', cond_false, callK_ret1 hnx, e48, e40, e115, emax, eimax, e41, hr1, hr2]
    have ht2 := token_law hg1 hs q1
    simp only [callK_ret3 ht2 rfl, tok0, tok1, V.asStr, Option.bind_some]
    have hnx2 := rnext_law hg1 hs q1
    rw [List.set_set] at hnx2
    have hg2 : (σ.set r ((rnextV s (rnextV s st).2).2.cells s))[r]? = some ((rnextV s (rnextV s st).2).2.cells s) := set_get h
    have hf1 := rfail_law h (tokV s st.p).at_
    have hf2 := rfail_law hg1 (tokV s (rnextV s st).2.p).at_
    rw [List.set_set] at hf2
    simp only [callK_ret1 hnx2, callK_ret0 hf1, callK_ret0 hf2]
    simp only [rlevelV, hc', cond_false]
    cases h0 : strIs (tokV s st.p).t [48]
    case true => rfl
    cases h1 : isNameV (tokV s st.p).t
    case true => rfl
    cases h2 : strIs (tokV s st.p).t [40]
    case false => rfl
    simp only [cond_true, cond_false]
    have z2 := strIs_size h2
    simp only [List.length_cons, List.length_nil] at z2
    obtain ⟨k1, k2, k3⟩ := tokV_ok s hp
    have hn2 : (rnextV s (rnextV s st).2).2.c ≠ 0 ∨ s.size - (rnextV s (rnextV s st).2).2.p < n := by
      by_cases hz : (rnextV s (rnextV s st).2).2.c = 0
      · obtain ⟨e1, e2, e3⟩ := r2 hz
        obtain ⟨_, _, e4⟩ := q2 e1
        obtain ⟨m1, _, _⟩ := tokV_ok s q1
        rcases hn with hn | hn
        · exact absurd hc hn
        · have := isNo_size e2; right; omega
      · exact .inl hz
    have hn0 : 0 < n := by
      rcases hn with hn | hn
      · exact absurd hc hn
      · omega
    have tx := rlevel_took s n _ r1 hn2
    have hn3 : (rlevelV n s (rnextV s (rnextV s st).2).2).2.c ≠ 0 ∨ s.size - (rlevelV n s (rnextV s (rnextV s st).2).2).2.p < n := by
      by_cases hz : (rlevelV n s (rnextV s (rnextV s st).2).2).2.c = 0
      · obtain ⟨e1, _, _, e2, _⟩ := tx.ok hz
        rcases hn2 with h | h
        · exact absurd e1 h
        · right; omega
      · exact .inl hz
    have ty := rlevel_took s n _ tx.le hn3
    have hx := rlevel_law hs n _ _ hg2 r1 hn2 hn0
    rw [List.set_set] at hx
    have hg3 : (σ.set r ((rlevelV n s (rnextV s (rnextV s st).2).2).2.cells s))[r]? = some ((rlevelV n s (rnextV s (rnextV s st).2).2).2.cells s) := set_get h
    have hy := rlevel_law hs n _ _ hg3 tx.le hn3 hn0
    rw [List.set_set] at hy
    simp only [lvP, lv1, lv2]
    generalize rlevelV n s (rnextV s (rnextV s st).2).2 = X at tx hx hg3 hn3 hy ty ⊢
    generalize rlevelV n s X.2 = Y at hy ty ⊢
    have hg4 : (σ.set r (Y.2.cells s))[r]? = some (Y.2.cells s) := set_get h
    have htx := rtake_law hg3 hs tx.le (ba [41])
    have hty := rtake_law hg4 hs ty.le (ba [41])
    rw [List.set_set] at htx hty
    simp only [callK_ret1 hx, callK_ret1 hy, callK_ret0 htx, callK_ret0 hty, List.getD_cons_zero, fits_lv, cell_lv, grd, Bool.and_self, cond_true, Option.bind_some]
    cases h3 : strIs (tokV s (rnextV s st).2.p).t [115]
    case true => rfl
    cases h4 : strIs (tokV s (rnextV s st).2.p).t [109, 97, 120]
    case true => rfl
    cases h5 : strIs (tokV s (rnextV s st).2.p).t [105, 109, 97, 120]
    case true => rfl
    rfl

/-- What is parsed: the level, the fault's code and place. -/
def parseV (s : ByteArray) : Lv × Int × Int :=
  bif decide ((s.size : Int) > 20000) then (.zero, 2, 0) else
  let x := rlevelV (s.size + 1) s ⟨0, 0, 0⟩
  let d := rdoneV s x.2
  bif d.c != 0 then (.zero, d.c, d.a) else (x.1, d.c, d.a)
theorem parseLevel_law (s : ByteArray) (hs : s.size < 2 ^ 61) (σ : Sto) : ∃ σ', lim C 9 [(.str s, false)] σ = some (.ret [(.agg [.int .i64 (parseV s).1.kind, .str (parseV s).1.name, .slice 3 31 (parseV s).1.args], false), (.agg [.int .i64 (parseV s).2.1, .int .i64 (parseV s).2.2], false)], σ ++ σ') := by
  cases hb : decide ((s.size : Int) > 20000)
  · have h : (σ ++ [RS.cells s ⟨0, 0, 0⟩])[σ.length]? = some (RS.cells s ⟨0, 0, 0⟩) := by simp
    have h1 := rlevel_law hs (s.size + 1) ⟨0, 0, 0⟩ _ h (by simp) (.inr (by simp)) (by omega)
    have tk := rlevel_took s (s.size + 1) ⟨0, 0, 0⟩ (by simp) (.inr (by simp))
    have hg : ∀ x : List Cell, (σ ++ [RS.cells s ⟨0, 0, 0⟩]).set σ.length x = σ ++ [x] := fun x => by rw [List.set_append_right _ _ (Nat.le_refl _)]; simp
    rw [hg] at h1
    have h2' : (σ ++ [(rlevelV (s.size + 1) s ⟨0, 0, 0⟩).2.cells s])[σ.length]? = some ((rlevelV (s.size + 1) s ⟨0, 0, 0⟩).2.cells s) := by simp
    have h2 := rdone_law h2' hs tk.le
    have hg2 : ∀ x : List Cell, (σ ++ [(rlevelV (s.size + 1) s ⟨0, 0, 0⟩).2.cells s]).set σ.length x = σ ++ [x] := fun x => by rw [List.set_append_right _ _ (Nat.le_refl _)]; simp
    rw [hg2] at h2
    refine ⟨[(rdoneV s (rlevelV (s.size + 1) s ⟨0, 0, 0⟩).2).cells s], parseLevel_lim (n := 0) ?_⟩
    have e0 : [((V.str s), false), ((V.int .i64 (0 : Int)), false), ((V.int .i64 (0 : Int)), false), ((V.int .i64 (0 : Int)), false)] = RS.cells s ⟨0, 0, 0⟩ := rfl
    simp only [parseLevel, parseLevelF, hb, cond_false, e0, callK_ret1 h1, List.getD_cons_zero, fits_lv, grd, cond_true, Option.bind_some, callK_ret1 h2, parseV]
    cases hd : (rdoneV s (rlevelV (s.size + 1) s ⟨0, 0, 0⟩).2).c != 0
    · simp [V.fits, V.asInt, V.cell, hd]
    · simp [V.fits, V.asInt, V.cell, hd]
      first | rfl | exact ⟨rfl, rfl, rfl⟩
  · refine ⟨[], parseLevel_lim (n := 0) ?_⟩
    simp only [parseLevel, parseLevelF, hb, cond_true, parseV, List.append_nil]
    rfl
theorem parseV_ok {s : ByteArray} (h : (parseV s).2.1 = 0) : (printL (parseV s).1).length ≤ 2 * s.size ∧ (parseV s).1.size ≤ s.size ∧ printL (parseV s).1 ≠ [] ∧ s.size ≤ 20000 := by
  unfold parseV at *
  cases hb : decide ((s.size : Int) > 20000)
  · rw [hb] at h
    have tk := rlevel_took s (s.size + 1) ⟨0, 0, 0⟩ (by simp) (.inr (by simp))
    simp only [cond_false] at h ⊢
    have hb' : s.size ≤ 20000 := by have := of_decide_eq_false hb; omega
    cases hd : (rdoneV s (rlevelV (s.size + 1) s ⟨0, 0, 0⟩).2).c != 0
    · rw [hd] at h
      simp only [cond_false] at h ⊢
      have hc : (rlevelV (s.size + 1) s ⟨0, 0, 0⟩).2.c = 0 := by
        have hd' : (rdoneV s (rlevelV (s.size + 1) s ⟨0, 0, 0⟩).2).c = 0 := h
        simp only [rdoneV] at hd'
        cases hx : (!(tokV s (rlevelV (s.size + 1) s ⟨0, 0, 0⟩).2.p).ok || !isNo (tokV s (rlevelV (s.size + 1) s ⟨0, 0, 0⟩).2.p).t)
        · rw [hx] at hd'; exact hd'
        · rw [hx] at hd'; exact absurd hd' (rfail_c _ _)
      obtain ⟨_, a1, a2, a3, a4⟩ := tk.ok hc
      have := tk.le
      simp only at a1 a2 a3
      exact ⟨by omega, by omega, a4, hb'⟩
    · rw [hd] at h
      simp only [cond_true] at h
      rw [h] at hd; simp at hd
  · rw [hb] at h
    simp at h
end Go.Ab.Mk
end
section
namespace Go.Ab.Mk
open Go.Proofs Go.Ab

def letV (c : Int) : Bool := (decide ((IntKind.wrap .u8 ((BitVec.ofInt (IntKind.bits .u8) c ||| BitVec.ofInt (IntKind.bits .u8) (32 : Int)).toNat : Int)) ≥ (97 : Int)) && decide ((IntKind.wrap .u8 ((BitVec.ofInt (IntKind.bits .u8) c ||| BitVec.ofInt (IntKind.bits .u8) (32 : Int)).toNat : Int)) ≤ (122 : Int))) || c == 95
theorem letV_all : (List.range 256).all (fun n => letV (n : Int) == isLetter (n : Int)) = true := by decide +kernel
theorem letV_eq {n : Nat} (h : n < 256) : letV (n : Int) = isLetter (n : Int) := by
  have := List.all_eq_true.1 letV_all n (by simpa using h)
  simpa using this
theorem byteAt_lt (s : ByteArray) (i : Nat) : ∃ n : Nat, n < 256 ∧ byteAt s i = (n : Int) := ⟨(s.data.toList.getD i 0).toNat, UInt8.toNat_lt _, rfl⟩
theorem letter_law (n : Nat) (h : n < 256) (σ : Sto) : lim C 60 [(.int .u8 n, false)] σ = some (.ret [(.bool (isLetter n), false)], σ) :=
  letter_lim (n := 0) <| by
    rw [← letV_eq h]
    simp only [letter, letterF, letV]
    cases decide ((IntKind.wrap .u8 ((BitVec.ofInt (IntKind.bits .u8) (n : Int) ||| BitVec.ofInt (IntKind.bits .u8) (32 : Int)).toNat : Int)) ≥ (97 : Int)) <;> cases decide ((IntKind.wrap .u8 ((BitVec.ofInt (IntKind.bits .u8) (n : Int) ||| BitVec.ofInt (IntKind.bits .u8) (32 : Int)).toNat : Int)) ≤ (122 : Int)) <;> cases (n : Int) == 95 <;> rfl
theorem digit_law (c : Int) (σ : Sto) : lim C 62 [(.int .u8 c, false)] σ = some (.ret [(.bool (isDigit c), false)], σ) :=
  digit_lim (n := 0) <| by
    simp only [digit, digitF, isDigit, ge_iff_le]
    cases decide (48 ≤ c) <;> cases decide (c ≤ 57) <;> rfl
theorem sblank_law (c : Int) (σ : Sto) : lim C 59 [(.int .u8 c, false)] σ = some (.ret [(.bool (isBlank c), false)], σ) :=
  sblank_lim (n := 0) <| by
    simp only [sblank, sblankF, isBlank]
    cases c == 32 <;> cases c == 9 <;> cases c == 10 <;> rfl
theorem snmb_law (n : Nat) (h : n < 256) (σ : Sto) : lim C 61 [(.int .u8 n, false)] σ = some (.ret [(.bool (nmByte n false), false)], σ) :=
  snmb_lim (n := 0) <| by
    simp only [snmb, snmbF, callK_ret1 (letter_law n h σ), callK_ret1 (digit_law _ σ), List.getD_cons_zero, V.asBool, Option.bind_some, nmByte]
    cases isLetter n <;> cases isDigit n <;> cases (n : Int) == 46 <;> cases (n : Int) == 39 <;> rfl

structure SC where
  at_ : Nat
  tok : ByteArray
  pos : Nat
def SC.cells (s : ByteArray) (st : SC) : List Cell := [(.str s, false), (.int .i64 st.at_, false), (.str st.tok, false), (.int .i64 st.pos, false)]
section
variable {σ : Sto} {r : Nat} {s : ByteArray} {st : SC} {t : TypeId}
theorem sg0 (hr : r < σ.length) : memGet (σ.set r (st.cells s)) (.ptr t r 0) false 1 = some (.str s) := by simp [memGet, hr, gather, SC.cells]
theorem sg1 (hr : r < σ.length) : memGet (σ.set r (st.cells s)) (.ptr t r 1) false 1 = some (.int .i64 st.at_) := by simp [memGet, hr, gather, SC.cells]
theorem sg2 (hr : r < σ.length) : memGet (σ.set r (st.cells s)) (.ptr t r 2) false 1 = some (.str st.tok) := by simp [memGet, hr, gather, SC.cells]
theorem sg3 (hr : r < σ.length) : memGet (σ.set r (st.cells s)) (.ptr t r 3) false 1 = some (.int .i64 st.pos) := by simp [memGet, hr, gather, SC.cells]
theorem ss1 (hr : r < σ.length) (x : Nat) : memSet (σ.set r (st.cells s)) (.ptr t r 1) [(.int .i64 x, false)] = some (σ.set r (SC.cells s { st with at_ := x })) := by
  simp [memSet, hr, setCells, SC.cells]
theorem ss2 (hr : r < σ.length) (x : ByteArray) : memSet (σ.set r (st.cells s)) (.ptr t r 2) [(.str x, false)] = some (σ.set r (SC.cells s { st with tok := x })) := by
  simp [memSet, hr, setCells, SC.cells]
theorem ss3 (hr : r < σ.length) (x : Nat) : memSet (σ.set r (st.cells s)) (.ptr t r 3) [(.int .i64 x, false)] = some (σ.set r (SC.cells s { st with pos := x })) := by
  simp [memSet, hr, setCells, SC.cells]
end

theorem srun_loop (call : CallF) (n : Nat) {σ : Sto} {r : Nat} (hr : r < σ.length) {s : ByteArray} (hs : s.size < 2 ^ 61) {st : SC} {fn : FuncId} {f : Int → Bool}
    (hf : ∀ k : Nat, k < 256 → call fn [(.int .u8 k, false)] (σ.set r (st.cells s)) = some (.ret [(.bool (f k), false)], σ.set r (st.cells s))) :
    ∀ (m i : Nat), i ≤ s.size → s.size - i < m → srunl0 call n m r i (.func (.func fn) [] []) (σ.set r (st.cells s)) = some (.ret [(.int .i64 (scan f s i), false)], σ.set r (st.cells s))
  | 0, i, _, hm => by omega
  | m + 1, i, hi, hm => by
    show sruns0 call (srunl0 call n m) r i (.func (.func fn) [] []) (σ.set r (st.cells s)) = _
    unfold sruns0
    simp only [sg0 hr, Option.bind_some, V.asStr, V.asFunc, List.map_nil, List.nil_append, List.append_nil, Int.toNat_natCast]
    by_cases h1 : i < s.size
    · obtain ⟨k, hk, hb⟩ := byteAt_lt s i
      rw [hb, dlt h1, d0]
      simp only [cond_true, Bool.and_self, grd, Option.bind_some, callK_ret1 (hf k hk), List.getD_cons_zero, V.asBool, wrap_succ (show i < 2 ^ 61 by omega)]
      cases hfk : f k with
      | true =>
        rw [scan_go h1 (by rw [hb]; exact hfk)]
        exact srun_loop call n hr hs hf m (i + 1) (by omega) (by omega)
      | false =>
        rw [scan_stop (fun hh => by rw [hb, hfk] at hh; simp at hh)]
        rfl
    · rw [dnlt h1, scan_stop (fun hh => h1 hh.1)]; rfl
theorem srun_law {σ : Sto} {r : Nat} (hr : r < σ.length) {s : ByteArray} (hs : s.size < 2 ^ 61) {st : SC} {fn : FuncId} {f : Int → Bool}
    (hf : ∀ (k : Nat) (σ : Sto), k < 256 → lim C fn [(.int .u8 k, false)] σ = some (.ret [(.bool (f k), false)], σ)) {i : Nat} (hi : i ≤ s.size) :
    lim C 58 [(.ptr 90 r 0, false), (.int .i64 i, false), (.func (.func fn) [] [], false)] (σ.set r (st.cells s)) = some (.ret [(.int .i64 (scan f s i), false)], σ.set r (st.cells s)) :=
  srun_lim (n := s.size + 1) (srun_loop (lim C) (s.size + 1) hr hs (fun k hk => hf k _ hk) (s.size + 1) i hi (by omega))

/-- What a step from a place makes. -/
def stepOf (p : Nat) (k : Tok) : SC := bif k.ok then ⟨k.at_ + k.t.size, k.t, k.at_⟩ else ⟨p, ByteArray.mk #[0], k.at_⟩
def stepV (s : ByteArray) (p : Nat) : SC := stepOf p (tokV s p)
theorem wneg (n : Nat) : decide (((n : Nat) : Int) < (0 : Int)) = false := by simp
theorem nm_true (c : Int) : nmByte c true = isLetter c := by simp [nmByte]
theorem step_law {σ : Sto} {r : Nat} (hr : r < σ.length) {s : ByteArray} (hs : s.size < 2 ^ 61) {st : SC} (hp : st.at_ ≤ s.size) :
    lim C 50 [(.ptr 90 r 0, false)] (σ.set r (st.cells s)) = some (.ret [], σ.set r ((stepV s st.at_).cells s)) :=
  sstep_lim (n := 0) <| by
    have h1 := srun_law hr hs (st := st) (fn := 59) (f := isBlank) (fun k σ _ => sblank_law k σ) hp
    have hge := le_scan isBlank s st.at_
    have hle := scan_le (f := isBlank) hp
    unfold stepV tokV
    simp only [sstep, sstepF, sg1 hr, Option.bind_some, callK_ret1 h1, List.getD_cons_zero]
    generalize scan isBlank s st.at_ = i at hge hle
    have fi : ∀ x : Int, V.fits (.int .i64 x) false 1 = true := fun _ => rfl
    have h2 : ∀ j, j ≤ s.size → lim C 58 [(.ptr 90 r 0, false), (.int .i64 j, false), (.func (.func 61) [] [], false)] (σ.set r (SC.cells s { st with pos := i })) = some (.ret [(.int .i64 (scan (nmByte · false) s j), false)], σ.set r (SC.cells s { st with pos := i })) :=
      fun j hj => srun_law hr hs (st := { st with pos := i }) (fn := 61) (f := (nmByte · false)) (fun k σ hk => snmb_law k hk σ) hj
    have h3 : ∀ j, j ≤ s.size → lim C 58 [(.ptr 90 r 0, false), (.int .i64 j, false), (.func (.func 62) [] [], false)] (σ.set r (SC.cells s { st with pos := i })) = some (.ret [(.int .i64 (scan isDigit s j), false)], σ.set r (SC.cells s { st with pos := i })) :=
      fun j hj => srun_law hr hs (st := { st with pos := i }) (fn := 62) (f := isDigit) (fun k σ _ => digit_law k σ) hj
    simp only [fi, grd, cond_true, Option.bind_some, ss3 hr, sg0 hr, sg3 hr, V.asStr, V.asInt, if_true, Int.toNat_natCast, beqN]
    unfold tokAt
    by_cases hi : i = s.size
    · simp only [hi, beq_self_eq_true, cond_true, ss2 hr, ss1 hr, Option.bind_some, stepOf]
      rfl
    · have hib : (i == s.size) = false := by simpa using hi
      have hlt : i < s.size := by omega
      have w1 : IntKind.wrap .i64 ((i : Int) + 1) = ((i + 1 : Nat) : Int) := wrap_succ (by omega)
      simp only [hib, cond_false, d0, dlt hlt, Bool.and_self, cond_true, Option.bind_some, w1, wneg]
      obtain ⟨b, hb, hbe⟩ := byteAt_lt s i
      have b1 : (decide ((i : Int) ≤ ((i + 1 : Nat) : Int)) && decide (((i + 1 : Nat) : Int) ≤ (s.size : Int))) = true := by simp; omega
      have es : i + (s.extract i (i + 1)).size = i + 1 := ext_size s (by omega) (by omega)
      have hl := letter_law b hb (σ.set r (SC.cells s { st with pos := i }))
      have hd := digit_law (b : Int) (σ.set r (SC.cells s { st with pos := i }))
      have hscan1 : isLetter b = true → scan (nmByte · false) s i = scan (nmByte · false) s (i + 1) := fun h => scan_go hlt (by rw [hbe]; simp [nmByte, h])
      have hscan2 : isDigit b = true → scan isDigit s i = scan isDigit s (i + 1) := fun h => scan_go hlt (by rw [hbe]; exact h)
      have g1 := le_scan (nmByte · false) s (i + 1)
      have g2 := scan_le (f := (nmByte · false)) (s := s) (i := i + 1) (by omega)
      have g3 := le_scan isDigit s (i + 1)
      have g4 := scan_le (f := isDigit) (s := s) (i := i + 1) (by omega)
      have no : ∀ x, stepOf st.at_ (Tok.no i) = ({ at_ := st.at_, tok := ByteArray.mk #[0], pos := i } : SC) ∨ x := fun _ => .inl rfl
      have h2' := h2 i (by omega)
      have h3' := h3 i (by omega)
      have h3'' := h3 (i + 1) (by omega)
      rw [hbe]
      simp only [ss2 hr, ss1 hr, Option.bind_some, Bool.true_and, bnd2 (show i ≤ i + 1 by omega) (show i + 1 ≤ s.size by omega), Int.toNat_natCast, grd, cond_true, callK_ret1 hl, callK_ret1 hd, List.getD_cons_zero, sg0 hr, sg3 hr, callK_ret1 h2', callK_ret1 h3', callK_ret1 h3'', nm_true, V.asBool, V.asInt, V.asStr, if_true, w1]
      cases e40 : (b : Int) == 40
      case true => simp only [cond_true, stepOf, es]
      cases e41 : (b : Int) == 41
      case true => simp only [cond_true, cond_false, stepOf, es]
      cases el : isLetter b
      case true =>
        rw [hscan1 el]
        generalize scan (nmByte · false) s (i + 1) = q at g1 g2
        have h40 : ((40 : Int)) = ((40 : Nat) : Int) := rfl
        have eq1 : i + (s.extract i q).size = q := ext_size s (by omega) g2
        simp only [cond_true, cond_false, V.asBool, V.asInt, V.asStr, if_true, grd, sg0 hr, sg3 hr, fi, wneg, d0, Option.bind_some, wrap_sub (show i ≤ q by omega) (show q < 2 ^ 61 by omega), h40, dgt, wneg, Bool.true_and, bnd2 (show i ≤ q by omega) g2, Int.toNat_natCast, ss2 hr, ss1 hr, nmTok]
        cases decide (q - i > 40)
        · simp only [cond_false, stepOf, eq1, cond_true]
        · rfl
      have h5 : ((5 : Int)) = ((5 : Nat) : Int) := rfl
      have h1' : ((1 : Int)) = ((1 : Nat) : Int) := rfl
      have w1' : IntKind.wrap .i64 ((i : Int) + ((1 : Nat) : Int)) = ((i + 1 : Nat) : Int) := w1
      have h0' : ((0 : Int)) = ((0 : Nat) : Int) := rfl
      cases e35 : (b : Int) == 35
      case true =>
        generalize scan isDigit s (i + 1) = q at g3 g4
        have eq1 : i + (s.extract i q).size = q := ext_size s (by omega) g4
        simp only [cond_true, cond_false, V.asBool, V.asInt, V.asStr, if_true, grd, sg0 hr, sg3 hr, fi, wneg, d0, Option.bind_some, wrap_sub (show i + 1 ≤ q by omega) (show q < 2 ^ 61 by omega), h5, h1', w1', dgt, Bool.true_and, bnd2 (show i ≤ q by omega) g4, Int.toNat_natCast, ss2 hr, ss1 hr, numTok, e35, Bool.true_or]
        have hz : ((((q - (i + 1) : Nat) : Int)) == 0) = (q == i + 1) := by rw [Bool.eq_iff_iff, beq_iff_eq, beq_iff_eq]; omega
        rw [hz]
        by_cases hq : q = i + 1
        · subst hq; simp only [beq_self_eq_true, cond_true]; rfl
        · have hq' : (q == i + 1) = false := by simpa using hq
          have hlt1 : i + 1 < s.size := by omega
          simp only [hq', cond_false, d0, Bool.true_and, decide_eq_true (show s.size > i + 1 from hlt1), Option.bind_some, cond_true]
          cases decide (q - (i + 1) > 5) <;> cases decide (q - (i + 1) > 1) <;> cases byteAt s (i + 1) == 48 <;> (first | rfl | simp only [cond_true, cond_false, stepOf, eq1, Bool.and_self, Bool.and_false, Bool.false_and, Bool.and_true])
      cases edg : isDigit b
      case true =>
        rw [hscan2 edg]
        generalize scan isDigit s (i + 1) = q at g3 g4
        have eq1 : i + (s.extract i q).size = q := ext_size s (by omega) g4
        simp only [cond_true, cond_false, V.asBool, V.asInt, V.asStr, if_true, grd, sg0 hr, sg3 hr, fi, wneg, d0, Option.bind_some, wrap_sub (show i ≤ q by omega) (show q < 2 ^ 61 by omega), h5, h1', dgt, Bool.true_and, bnd2 (show i ≤ q by omega) g4, Int.toNat_natCast, ss2 hr, ss1 hr, numTok, e35, Bool.or_true]
        have hz : ((((q - i : Nat) : Int)) == 0) = false := by simp; omega
        have hq' : (q == i) = false := by simp; omega
        rw [hz]
        simp only [hq', cond_false, hbe, decide_eq_true (show s.size > i from hlt), cond_true, Option.bind_some]
        cases decide (q - i > 5) <;> cases decide (q - i > 1) <;> cases (b : Int) == 48 <;> (first | rfl | simp only [cond_true, cond_false, stepOf, eq1, Bool.and_self, Bool.and_false, Bool.false_and, Bool.and_true])
      simp only [cond_false, V.asBool, Option.bind_some, Bool.or_false, stepOf, Tok.no]
end Go.Ab.Mk
end
