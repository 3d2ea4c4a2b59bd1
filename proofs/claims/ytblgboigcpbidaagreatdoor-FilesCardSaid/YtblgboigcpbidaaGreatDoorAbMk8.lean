/- AbMk8: printed by program: functions of the program as plain Lean, and the equations. -/
import Derived.Test.YtblgboigcpbidaaGreatDoorAbMk1
set_option linter.unusedSimpArgs false
set_option linter.unusedVariables false
set_option linter.deprecated false
section
set_option maxRecDepth 100000
namespace Go.Ab.Mk
open Go.Proofs Go.Ab
open List (getD)
open IntKind (wrap)
noncomputable def rtokenk0 : List Nat := [0, 5, 73, 74, 86, 87, 88, 89, 90, 91, 92, 105, 106, 107, 108, 109, 110, 120, 121, 122, 123, 124, 125, 126, 129, 130, 131, 132, 133, 134, 135, 148, 149, 150, 151, 154, 155, 156, 157, 158, 159, 160, 161, 162, 163, 164, 165, 166]
noncomputable def rtokenk1 : List Nat := [0, 5, 6]
noncomputable def rtokenk2 : List Nat := [0, 5, 6, 7, 148, 149, 150, 151, 154, 155, 156, 157, 158, 159, 160, 161, 162, 163, 164, 165, 166]
noncomputable def rtokens1 (call : CallF) (rec1 : Nat → V → Int → RR) (c : Nat) (b : V) (a : Int) (σ : Sto) : Option Res :=
 (memGet σ (V.ptr 79 c 0) false 1).bind fun m1 =>
 (V.asStr m1).bind fun s2 =>
 bif (decide (a < (s2.size : Int))) then
 (memGet σ (V.ptr 79 c 0) false 1).bind fun m3 =>
 (V.asStr m3).bind fun s4 =>
 (grd (decide (0 ≤ a) && decide (a < s4.size))).bind fun _ =>
 callK call 56 [(V.int .u8 (byteAt s4 a.toNat), false), (V.bool false, false)] σ 1 (fun e d =>
 (V.asBool (getD e 0 cellD).1).bind fun b8 =>
 bif b8 then
 rec1 c b (wrap .i64 (a + (1 : Int))) d
 else
 (V.asInt b .i64).bind fun i9 =>
 bif (decide ((wrap .i64 (a - i9)) > (40 : Int))) then
 some (.ret [(V.str ⟨#[]⟩, false), (b, false), (V.bool false, false)], d)
 else
 (memGet d (V.ptr 79 c 0) false 1).bind fun m10 =>
 (V.asStr m10).bind fun s11 =>
 (V.asInt b .i64).bind fun i12 =>
 (grd (decide (0 ≤ i12) && decide (i12 ≤ a) && decide (a ≤ s11.size))).bind fun _ =>
 some (.ret [(V.str (s11.extract i12.toNat a.toNat), false), (b, false), (V.bool true, false)], d)) pnK
 else
 (V.asInt b .i64).bind fun i13 =>
 bif (decide ((wrap .i64 (a - i13)) > (40 : Int))) then
 some (.ret [(V.str ⟨#[]⟩, false), (b, false), (V.bool false, false)], σ)
 else
 (memGet σ (V.ptr 79 c 0) false 1).bind fun m14 =>
 (V.asStr m14).bind fun s15 =>
 (V.asInt b .i64).bind fun i16 =>
 (grd (decide (0 ≤ i16) && decide (i16 ≤ a) && decide (a ≤ s15.size))).bind fun _ =>
 some (.ret [(V.str (s15.extract i16.toNat a.toNat), false), (b, false), (V.bool true, false)], σ)
noncomputable def rtokenl1 (call : CallF) (n : Nat) : Nat → Nat → V → Int → RR
 | 0 => fun _ _ _ _ => none
 | m + 1 => rtokens1 call (rtokenl1 call n m)
noncomputable def rtokent1 (a : Nat) (b : V) (c : Int) (σ : Sto) : St := ⟨[.val (V.ptr 79 a 0) false] ++ dd 4 ([.val b false, .val (V.int .i64 c) false] ++ dd 170 []), nn 177 [], σ⟩
noncomputable def rtokens2 (call : CallF) (rec2 : Nat → V → Int → Int → RR) (c : Nat) (b : V) (a d : Int) (σ : Sto) : Option Res :=
 (memGet σ (V.ptr 79 c 0) false 1).bind fun m1 =>
 (V.asStr m1).bind fun s2 =>
 bif (decide (a < (s2.size : Int))) then
 (memGet σ (V.ptr 79 c 0) false 1).bind fun m3 =>
 (V.asStr m3).bind fun s4 =>
 (grd (decide (0 ≤ a) && decide (a < s4.size))).bind fun _ =>
 bif (decide ((byteAt s4 a.toNat) ≥ (48 : Int))) then
 (memGet σ (V.ptr 79 c 0) false 1).bind fun m5 =>
 (V.asStr m5).bind fun s6 =>
 (grd (decide (0 ≤ a) && decide (a < s6.size))).bind fun _ =>
 bif (decide ((byteAt s6 a.toNat) ≤ (57 : Int))) then
 rec2 c b (wrap .i64 (a + (1 : Int))) d σ
 else
 bif (d == (35 : Int)) then
 (V.asInt b .i64).bind fun i7 =>
 bif (a == (wrap .i64 (i7 + (1 : Int)))) then
 some (.ret [(V.str ⟨#[]⟩, false), (b, false), (V.bool false, false)], σ)
 else
 bif (decide ((wrap .i64 (a - (wrap .i64 (i7 + (1 : Int))))) > (5 : Int))) then
 some (.ret [(V.str ⟨#[]⟩, false), (b, false), (V.bool false, false)], σ)
 else
 bif (decide ((wrap .i64 (a - (wrap .i64 (i7 + (1 : Int))))) > (1 : Int))) then
 (memGet σ (V.ptr 79 c 0) false 1).bind fun m8 =>
 (V.asStr m8).bind fun s9 =>
 (grd (decide (0 ≤ (wrap .i64 (i7 + (1 : Int)))) && decide ((wrap .i64 (i7 + (1 : Int))) < s9.size))).bind fun _ =>
 bif ((byteAt s9 (Int.toNat (wrap .i64 (i7 + (1 : Int))))) == (48 : Int)) then
 some (.ret [(V.str ⟨#[]⟩, false), (b, false), (V.bool false, false)], σ)
 else
 (memGet σ (V.ptr 79 c 0) false 1).bind fun m10 =>
 (V.asStr m10).bind fun s11 =>
 (V.asInt b .i64).bind fun i12 =>
 (grd (decide (0 ≤ i12) && decide (i12 ≤ a) && decide (a ≤ s11.size))).bind fun _ =>
 some (.ret [(V.str (s11.extract i12.toNat a.toNat), false), (b, false), (V.bool true, false)], σ)
 else
 (memGet σ (V.ptr 79 c 0) false 1).bind fun m13 =>
 (V.asStr m13).bind fun s14 =>
 (V.asInt b .i64).bind fun i15 =>
 (grd (decide (0 ≤ i15) && decide (i15 ≤ a) && decide (a ≤ s14.size))).bind fun _ =>
 some (.ret [(V.str (s14.extract i15.toNat a.toNat), false), (b, false), (V.bool true, false)], σ)
 else
 (V.asInt b .i64).bind fun i16 =>
 bif (a == i16) then
 some (.ret [(V.str ⟨#[]⟩, false), (b, false), (V.bool false, false)], σ)
 else
 (V.asInt b .i64).bind fun i17 =>
 bif (decide ((wrap .i64 (a - i17)) > (5 : Int))) then
 some (.ret [(V.str ⟨#[]⟩, false), (b, false), (V.bool false, false)], σ)
 else
 (V.asInt b .i64).bind fun i18 =>
 bif (decide ((wrap .i64 (a - i18)) > (1 : Int))) then
 (memGet σ (V.ptr 79 c 0) false 1).bind fun m19 =>
 (V.asStr m19).bind fun s20 =>
 (V.asInt b .i64).bind fun i21 =>
 (grd (decide (0 ≤ i21) && decide (i21 < s20.size))).bind fun _ =>
 bif ((byteAt s20 i21.toNat) == (48 : Int)) then
 some (.ret [(V.str ⟨#[]⟩, false), (b, false), (V.bool false, false)], σ)
 else
 (memGet σ (V.ptr 79 c 0) false 1).bind fun m22 =>
 (V.asStr m22).bind fun s23 =>
 (V.asInt b .i64).bind fun i24 =>
 (grd (decide (0 ≤ i24) && decide (i24 ≤ a) && decide (a ≤ s23.size))).bind fun _ =>
 some (.ret [(V.str (s23.extract i24.toNat a.toNat), false), (b, false), (V.bool true, false)], σ)
 else
 (memGet σ (V.ptr 79 c 0) false 1).bind fun m25 =>
 (V.asStr m25).bind fun s26 =>
 (V.asInt b .i64).bind fun i27 =>
 (grd (decide (0 ≤ i27) && decide (i27 ≤ a) && decide (a ≤ s26.size))).bind fun _ =>
 some (.ret [(V.str (s26.extract i27.toNat a.toNat), false), (b, false), (V.bool true, false)], σ)
 else
 bif (d == (35 : Int)) then
 (V.asInt b .i64).bind fun i28 =>
 bif (a == (wrap .i64 (i28 + (1 : Int)))) then
 some (.ret [(V.str ⟨#[]⟩, false), (b, false), (V.bool false, false)], σ)
 else
 bif (decide ((wrap .i64 (a - (wrap .i64 (i28 + (1 : Int))))) > (5 : Int))) then
 some (.ret [(V.str ⟨#[]⟩, false), (b, false), (V.bool false, false)], σ)
 else
 bif (decide ((wrap .i64 (a - (wrap .i64 (i28 + (1 : Int))))) > (1 : Int))) then
 (memGet σ (V.ptr 79 c 0) false 1).bind fun m29 =>
 (V.asStr m29).bind fun s30 =>
 (grd (decide (0 ≤ (wrap .i64 (i28 + (1 : Int)))) && decide ((wrap .i64 (i28 + (1 : Int))) < s30.size))).bind fun _ =>
 bif ((byteAt s30 (Int.toNat (wrap .i64 (i28 + (1 : Int))))) == (48 : Int)) then
 some (.ret [(V.str ⟨#[]⟩, false), (b, false), (V.bool false, false)], σ)
 else
 (memGet σ (V.ptr 79 c 0) false 1).bind fun m31 =>
 (V.asStr m31).bind fun s32 =>
 (V.asInt b .i64).bind fun i33 =>
 (grd (decide (0 ≤ i33) && decide (i33 ≤ a) && decide (a ≤ s32.size))).bind fun _ =>
 some (.ret [(V.str (s32.extract i33.toNat a.toNat), false), (b, false), (V.bool true, false)], σ)
 else
 (memGet σ (V.ptr 79 c 0) false 1).bind fun m34 =>
 (V.asStr m34).bind fun s35 =>
 (V.asInt b .i64).bind fun i36 =>
 (grd (decide (0 ≤ i36) && decide (i36 ≤ a) && decide (a ≤ s35.size))).bind fun _ =>
 some (.ret [(V.str (s35.extract i36.toNat a.toNat), false), (b, false), (V.bool true, false)], σ)
 else
 (V.asInt b .i64).bind fun i37 =>
 bif (a == i37) then
 some (.ret [(V.str ⟨#[]⟩, false), (b, false), (V.bool false, false)], σ)
 else
 (V.asInt b .i64).bind fun i38 =>
 bif (decide ((wrap .i64 (a - i38)) > (5 : Int))) then
 some (.ret [(V.str ⟨#[]⟩, false), (b, false), (V.bool false, false)], σ)
 else
 (V.asInt b .i64).bind fun i39 =>
 bif (decide ((wrap .i64 (a - i39)) > (1 : Int))) then
 (memGet σ (V.ptr 79 c 0) false 1).bind fun m40 =>
 (V.asStr m40).bind fun s41 =>
 (V.asInt b .i64).bind fun i42 =>
 (grd (decide (0 ≤ i42) && decide (i42 < s41.size))).bind fun _ =>
 bif ((byteAt s41 i42.toNat) == (48 : Int)) then
 some (.ret [(V.str ⟨#[]⟩, false), (b, false), (V.bool false, false)], σ)
 else
 (memGet σ (V.ptr 79 c 0) false 1).bind fun m43 =>
 (V.asStr m43).bind fun s44 =>
 (V.asInt b .i64).bind fun i45 =>
 (grd (decide (0 ≤ i45) && decide (i45 ≤ a) && decide (a ≤ s44.size))).bind fun _ =>
 some (.ret [(V.str (s44.extract i45.toNat a.toNat), false), (b, false), (V.bool true, false)], σ)
 else
 (memGet σ (V.ptr 79 c 0) false 1).bind fun m46 =>
 (V.asStr m46).bind fun s47 =>
 (V.asInt b .i64).bind fun i48 =>
 (grd (decide (0 ≤ i48) && decide (i48 ≤ a) && decide (a ≤ s47.size))).bind fun _ =>
 some (.ret [(V.str (s47.extract i48.toNat a.toNat), false), (b, false), (V.bool true, false)], σ)
 else
 bif (d == (35 : Int)) then
 (V.asInt b .i64).bind fun i49 =>
 bif (a == (wrap .i64 (i49 + (1 : Int)))) then
 some (.ret [(V.str ⟨#[]⟩, false), (b, false), (V.bool false, false)], σ)
 else
 bif (decide ((wrap .i64 (a - (wrap .i64 (i49 + (1 : Int))))) > (5 : Int))) then
 some (.ret [(V.str ⟨#[]⟩, false), (b, false), (V.bool false, false)], σ)
 else
 bif (decide ((wrap .i64 (a - (wrap .i64 (i49 + (1 : Int))))) > (1 : Int))) then
 (memGet σ (V.ptr 79 c 0) false 1).bind fun m50 =>
 (V.asStr m50).bind fun s51 =>
 (grd (decide (0 ≤ (wrap .i64 (i49 + (1 : Int)))) && decide ((wrap .i64 (i49 + (1 : Int))) < s51.size))).bind fun _ =>
 bif ((byteAt s51 (Int.toNat (wrap .i64 (i49 + (1 : Int))))) == (48 : Int)) then
 some (.ret [(V.str ⟨#[]⟩, false), (b, false), (V.bool false, false)], σ)
 else
 (memGet σ (V.ptr 79 c 0) false 1).bind fun m52 =>
 (V.asStr m52).bind fun s53 =>
 (V.asInt b .i64).bind fun i54 =>
 (grd (decide (0 ≤ i54) && decide (i54 ≤ a) && decide (a ≤ s53.size))).bind fun _ =>
 some (.ret [(V.str (s53.extract i54.toNat a.toNat), false), (b, false), (V.bool true, false)], σ)
 else
 (memGet σ (V.ptr 79 c 0) false 1).bind fun m55 =>
 (V.asStr m55).bind fun s56 =>
 (V.asInt b .i64).bind fun i57 =>
 (grd (decide (0 ≤ i57) && decide (i57 ≤ a) && decide (a ≤ s56.size))).bind fun _ =>
 some (.ret [(V.str (s56.extract i57.toNat a.toNat), false), (b, false), (V.bool true, false)], σ)
 else
 (V.asInt b .i64).bind fun i58 =>
 bif (a == i58) then
 some (.ret [(V.str ⟨#[]⟩, false), (b, false), (V.bool false, false)], σ)
 else
 (V.asInt b .i64).bind fun i59 =>
 bif (decide ((wrap .i64 (a - i59)) > (5 : Int))) then
 some (.ret [(V.str ⟨#[]⟩, false), (b, false), (V.bool false, false)], σ)
 else
 (V.asInt b .i64).bind fun i60 =>
 bif (decide ((wrap .i64 (a - i60)) > (1 : Int))) then
 (memGet σ (V.ptr 79 c 0) false 1).bind fun m61 =>
 (V.asStr m61).bind fun s62 =>
 (V.asInt b .i64).bind fun i63 =>
 (grd (decide (0 ≤ i63) && decide (i63 < s62.size))).bind fun _ =>
 bif ((byteAt s62 i63.toNat) == (48 : Int)) then
 some (.ret [(V.str ⟨#[]⟩, false), (b, false), (V.bool false, false)], σ)
 else
 (memGet σ (V.ptr 79 c 0) false 1).bind fun m64 =>
 (V.asStr m64).bind fun s65 =>
 (V.asInt b .i64).bind fun i66 =>
 (grd (decide (0 ≤ i66) && decide (i66 ≤ a) && decide (a ≤ s65.size))).bind fun _ =>
 some (.ret [(V.str (s65.extract i66.toNat a.toNat), false), (b, false), (V.bool true, false)], σ)
 else
 (memGet σ (V.ptr 79 c 0) false 1).bind fun m67 =>
 (V.asStr m67).bind fun s68 =>
 (V.asInt b .i64).bind fun i69 =>
 (grd (decide (0 ≤ i69) && decide (i69 ≤ a) && decide (a ≤ s68.size))).bind fun _ =>
 some (.ret [(V.str (s68.extract i69.toNat a.toNat), false), (b, false), (V.bool true, false)], σ)
noncomputable def rtokenl2 (call : CallF) (n : Nat) : Nat → Nat → V → Int → Int → RR
 | 0 => fun _ _ _ _ _ => none
 | m + 1 => rtokens2 call (rtokenl2 call n m)
noncomputable def rtokent2 (a : Nat) (b : V) (c d : Int) (σ : Sto) : St := ⟨[.val (V.ptr 79 a 0) false] ++ dd 4 ([.val b false, .val (V.int .i64 c) false, .val (V.int .u8 d) false] ++ dd 169 []), nn 177 [], σ⟩
noncomputable def rtokens0 (call : CallF) (L1 : Nat → V → Int → RR) (L2 : Nat → V → Int → Int → RR) (rec0 : Nat → V → RR) (b : Nat) (a : V) (σ : Sto) : Option Res :=
 (memGet σ (V.ptr 79 b 0) false 1).bind fun m1 =>
 (V.asStr m1).bind fun s2 =>
 (V.asInt a .i64).bind fun i3 =>
 bif (decide (i3 < (s2.size : Int))) then
 (memGet σ (V.ptr 79 b 0) false 1).bind fun m4 =>
 (V.asStr m4).bind fun s5 =>
 (V.asInt a .i64).bind fun i6 =>
 (grd (decide (0 ≤ i6) && decide (i6 < s5.size))).bind fun _ =>
 bif ((byteAt s5 i6.toNat) == (32 : Int)) then
 (V.asInt a .i64).bind fun i7 =>
 rec0 b (V.int .i64 (wrap .i64 (i7 + (1 : Int)))) σ
 else
 (memGet σ (V.ptr 79 b 0) false 1).bind fun m8 =>
 (V.asStr m8).bind fun s9 =>
 (V.asInt a .i64).bind fun i10 =>
 (grd (decide (0 ≤ i10) && decide (i10 < s9.size))).bind fun _ =>
 bif ((byteAt s9 i10.toNat) == (9 : Int)) then
 (V.asInt a .i64).bind fun i11 =>
 rec0 b (V.int .i64 (wrap .i64 (i11 + (1 : Int)))) σ
 else
 (memGet σ (V.ptr 79 b 0) false 1).bind fun m12 =>
 (V.asStr m12).bind fun s13 =>
 (V.asInt a .i64).bind fun i14 =>
 (grd (decide (0 ≤ i14) && decide (i14 < s13.size))).bind fun _ =>
 bif ((byteAt s13 i14.toNat) == (10 : Int)) then
 (V.asInt a .i64).bind fun i15 =>
 rec0 b (V.int .i64 (wrap .i64 (i15 + (1 : Int)))) σ
 else
 (memGet σ (V.ptr 79 b 0) false 1).bind fun m16 =>
 (V.asStr m16).bind fun s17 =>
 (V.asInt a .i64).bind fun i18 =>
 bif (i18 == (s17.size : Int)) then
 some (.ret [(V.str ⟨#[]⟩, false), (a, false), (V.bool true, false)], σ)
 else
 (V.asInt a .i64).bind fun i19 =>
 (memGet σ (V.ptr 79 b 0) false 1).bind fun m20 =>
 (V.asStr m20).bind fun s21 =>
 (V.asInt a .i64).bind fun i22 =>
 (grd (decide (0 ≤ i22) && decide (i22 < s21.size))).bind fun _ =>
 callK call 56 [(V.int .u8 (byteAt s21 i22.toNat), false), (V.bool true, false)] σ 1 (fun e c =>
 bif ((byteAt s21 i22.toNat) == (40 : Int)) then
 (memGet c (V.ptr 79 b 0) false 1).bind fun m26 =>
 (V.asStr m26).bind fun s27 =>
 (V.asInt a .i64).bind fun i28 =>
 (grd (decide (0 ≤ i28) && decide (i28 ≤ (wrap .i64 (i19 + (1 : Int)))) && decide ((wrap .i64 (i19 + (1 : Int))) ≤ s27.size))).bind fun _ =>
 some (.ret [((V.str (s27.extract i28.toNat (Int.toNat (wrap .i64 (i19 + (1 : Int)))))), false), (a, false), (V.bool true, false)], c)
 else
 bif ((byteAt s21 i22.toNat) == (41 : Int)) then
 (memGet c (V.ptr 79 b 0) false 1).bind fun m29 =>
 (V.asStr m29).bind fun s30 =>
 (V.asInt a .i64).bind fun i31 =>
 (grd (decide (0 ≤ i31) && decide (i31 ≤ (wrap .i64 (i19 + (1 : Int)))) && decide ((wrap .i64 (i19 + (1 : Int))) ≤ s30.size))).bind fun _ =>
 some (.ret [((V.str (s30.extract i31.toNat (Int.toNat (wrap .i64 (i19 + (1 : Int)))))), false), (a, false), (V.bool true, false)], c)
 else
 (V.asBool (getD e 0 cellD).1).bind fun b32 =>
 bif b32 then
 L1 b a (wrap .i64 (i19 + (1 : Int))) c
 else
 bif ((byteAt s21 i22.toNat) == (35 : Int)) then
 L2 b a (wrap .i64 (i19 + (1 : Int))) (byteAt s21 i22.toNat) c
 else
 bif (decide ((byteAt s21 i22.toNat) ≥ (48 : Int))) then
 bif (decide ((byteAt s21 i22.toNat) ≤ (57 : Int))) then
 L2 b a (wrap .i64 (i19 + (1 : Int))) (byteAt s21 i22.toNat) c
 else
 some (.ret [(V.str ⟨#[]⟩, false), (a, false), (V.bool false, false)], c)
 else
 some (.ret [(V.str ⟨#[]⟩, false), (a, false), (V.bool false, false)], c)) pnK
 else
 (memGet σ (V.ptr 79 b 0) false 1).bind fun m33 =>
 (V.asStr m33).bind fun s34 =>
 (V.asInt a .i64).bind fun i35 =>
 bif (i35 == (s34.size : Int)) then
 some (.ret [(V.str ⟨#[]⟩, false), (a, false), (V.bool true, false)], σ)
 else
 (V.asInt a .i64).bind fun i36 =>
 (memGet σ (V.ptr 79 b 0) false 1).bind fun m37 =>
 (V.asStr m37).bind fun s38 =>
 (V.asInt a .i64).bind fun i39 =>
 (grd (decide (0 ≤ i39) && decide (i39 < s38.size))).bind fun _ =>
 callK call 56 [(V.int .u8 (byteAt s38 i39.toNat), false), (V.bool true, false)] σ 1 (fun f d =>
 bif ((byteAt s38 i39.toNat) == (40 : Int)) then
 (memGet d (V.ptr 79 b 0) false 1).bind fun m43 =>
 (V.asStr m43).bind fun s44 =>
 (V.asInt a .i64).bind fun i45 =>
 (grd (decide (0 ≤ i45) && decide (i45 ≤ (wrap .i64 (i36 + (1 : Int)))) && decide ((wrap .i64 (i36 + (1 : Int))) ≤ s44.size))).bind fun _ =>
 some (.ret [((V.str (s44.extract i45.toNat (Int.toNat (wrap .i64 (i36 + (1 : Int)))))), false), (a, false), (V.bool true, false)], d)
 else
 bif ((byteAt s38 i39.toNat) == (41 : Int)) then
 (memGet d (V.ptr 79 b 0) false 1).bind fun m46 =>
 (V.asStr m46).bind fun s47 =>
 (V.asInt a .i64).bind fun i48 =>
 (grd (decide (0 ≤ i48) && decide (i48 ≤ (wrap .i64 (i36 + (1 : Int)))) && decide ((wrap .i64 (i36 + (1 : Int))) ≤ s47.size))).bind fun _ =>
 some (.ret [((V.str (s47.extract i48.toNat (Int.toNat (wrap .i64 (i36 + (1 : Int)))))), false), (a, false), (V.bool true, false)], d)
 else
 (V.asBool (getD f 0 cellD).1).bind fun b49 =>
 bif b49 then
 L1 b a (wrap .i64 (i36 + (1 : Int))) d
 else
 bif ((byteAt s38 i39.toNat) == (35 : Int)) then
 L2 b a (wrap .i64 (i36 + (1 : Int))) (byteAt s38 i39.toNat) d
 else
 bif (decide ((byteAt s38 i39.toNat) ≥ (48 : Int))) then
 bif (decide ((byteAt s38 i39.toNat) ≤ (57 : Int))) then
 L2 b a (wrap .i64 (i36 + (1 : Int))) (byteAt s38 i39.toNat) d
 else
 some (.ret [(V.str ⟨#[]⟩, false), (a, false), (V.bool false, false)], d)
 else
 some (.ret [(V.str ⟨#[]⟩, false), (a, false), (V.bool false, false)], d)) pnK
noncomputable def rtokenl0 (call : CallF) (n : Nat) : Nat → Nat → V → RR
 | 0 => fun _ _ _ => none
 | m + 1 => rtokens0 call (rtokenl1 call n n) (rtokenl2 call n n) (rtokenl0 call n m)
noncomputable def rtokent0 (a : Nat) (b : V) (σ : Sto) : St := ⟨[.val (V.ptr 79 a 0) false] ++ dd 4 ([.val b false] ++ dd 171 []), nn 177 [], σ⟩
noncomputable def rtokenF (call : CallF) (L0 : Nat → V → RR) (a : Nat) (σ : Sto) : Option Res :=
 (memGet σ (V.ptr 79 a 1) false 1).bind fun m1 =>
 L0 a m1 σ
noncomputable def rtoken (call : CallF) (n a : Nat) (σ : Sto) : Option Res := rtokenF call (rtokenl0 call n n) a σ
theorem rtokens1_eq (call : CallF) (n : Nat) (F1 : St → Option Res) (a : Nat) (b : V) (c : Int) (σ : Sto) :
  aexec C rtokenH call n (cp [0,0,0,0,1,1,1,0,0,1,1,1,1,1,1,1] rtokenC) 0 (rtokent1 a b c σ) (kloop rtokenk1 F1 (kblk 3 (kseq (fun st' => aexec C rtokenH call n (cp [1,0,1,1,1,0,0,1,1,1,1,1,1,1] rtokenC) 0 st' (kblk 2 (kseq (fun st' => aexec C rtokenH call n (cp [1,1,1,1,1,1,1,1] rtokenC) 0 st' (kfin C rtokenD)) (kfin C rtokenD)))) (kblk 2 (kseq (fun st' => aexec C rtokenH call n (cp [1,1,1,1,1,1,1,1] rtokenC) 0 st' (kfin C rtokenD)) (kfin C rtokenD)))))) =
  rtokens1 call (fun a b c σ => F1 (rtokent1 a b c σ)) a b c σ := by kernel_rfl
theorem rtokenl1_eq (call : CallF) (n : Nat) : ∀ (m a : Nat) (b : V) (c : Int) (σ : Sto),
  aloop (fun st K => aexec C rtokenH call n (cp [0,0,0,0,1,1,1,0,0,1,1,1,1,1,1,1] rtokenC) 0 st K) rtokenk1 m (rtokent1 a b c σ) (kblk 3 (kseq (fun st' => aexec C rtokenH call n (cp [1,0,1,1,1,0,0,1,1,1,1,1,1,1] rtokenC) 0 st' (kblk 2 (kseq (fun st' => aexec C rtokenH call n (cp [1,1,1,1,1,1,1,1] rtokenC) 0 st' (kfin C rtokenD)) (kfin C rtokenD)))) (kblk 2 (kseq (fun st' => aexec C rtokenH call n (cp [1,1,1,1,1,1,1,1] rtokenC) 0 st' (kfin C rtokenD)) (kfin C rtokenD))))) = rtokenl1 call n m a b c σ
 | 0, a, b, c, σ => rfl
 | m + 1, a, b, c, σ => by
  rw [aloop, rtokens1_eq]
  simp only [rtokenl1_eq call n m]
  rfl
theorem rtokens2_eq (call : CallF) (n : Nat) (F2 : St → Option Res) (a : Nat) (b : V) (c d : Int) (σ : Sto) :
  aexec C rtokenH call n (cp [0,0,0,0,1,1,1,1,1,0,0,1,1,1,1,1,1,1] rtokenC) 0 (rtokent2 a b c d σ) (kloop rtokenk2 F2 (kblk 5 (kseq (fun st' => aexec C rtokenH call n (cp [1,0,1,1,1,1,1,0,0,1,1,1,1,1,1,1] rtokenC) 0 st' (kblk 2 (kseq (fun st' => aexec C rtokenH call n (cp [1,1,1,1,1,1,1,1] rtokenC) 0 st' (kfin C rtokenD)) (kfin C rtokenD)))) (kblk 2 (kseq (fun st' => aexec C rtokenH call n (cp [1,1,1,1,1,1,1,1] rtokenC) 0 st' (kfin C rtokenD)) (kfin C rtokenD)))))) =
  rtokens2 call (fun a b c d σ => F2 (rtokent2 a b c d σ)) a b c d σ := by kernel_rfl
theorem rtokenl2_eq (call : CallF) (n : Nat) : ∀ (m a : Nat) (b : V) (c d : Int) (σ : Sto),
  aloop (fun st K => aexec C rtokenH call n (cp [0,0,0,0,1,1,1,1,1,0,0,1,1,1,1,1,1,1] rtokenC) 0 st K) rtokenk2 m (rtokent2 a b c d σ) (kblk 5 (kseq (fun st' => aexec C rtokenH call n (cp [1,0,1,1,1,1,1,0,0,1,1,1,1,1,1,1] rtokenC) 0 st' (kblk 2 (kseq (fun st' => aexec C rtokenH call n (cp [1,1,1,1,1,1,1,1] rtokenC) 0 st' (kfin C rtokenD)) (kfin C rtokenD)))) (kblk 2 (kseq (fun st' => aexec C rtokenH call n (cp [1,1,1,1,1,1,1,1] rtokenC) 0 st' (kfin C rtokenD)) (kfin C rtokenD))))) = rtokenl2 call n m a b c d σ
 | 0, a, b, c, d, σ => rfl
 | m + 1, a, b, c, d, σ => by
  rw [aloop, rtokens2_eq]
  simp only [rtokenl2_eq call n m]
  rfl
theorem rtokens0_eq (call : CallF) (n : Nat) (F0 : St → Option Res) (a : Nat) (b : V) (σ : Sto) :
  aexec C rtokenH call n (cp [0,0,0,1,1] rtokenC) 0 (rtokent0 a b σ) (kloop rtokenk0 F0 (kblk 0 (kseq (fun st' => aexec C rtokenH call n (cp [1,1,1] rtokenC) 0 st' (kfin C rtokenD)) (kfin C rtokenD)))) =
  rtokens0 call (fun a b c σ => aloop (fun st K => aexec C rtokenH call n (cp [0,0,0,0,1,1,1,0,0,1,1,1,1,1,1,1] rtokenC) 0 st K) rtokenk1 n (rtokent1 a b c σ) (kblk 3 (kseq (fun st' => aexec C rtokenH call n (cp [1,0,1,1,1,0,0,1,1,1,1,1,1,1] rtokenC) 0 st' (kblk 2 (kseq (fun st' => aexec C rtokenH call n (cp [1,1,1,1,1,1,1,1] rtokenC) 0 st' (kfin C rtokenD)) (kfin C rtokenD)))) (kblk 2 (kseq (fun st' => aexec C rtokenH call n (cp [1,1,1,1,1,1,1,1] rtokenC) 0 st' (kfin C rtokenD)) (kfin C rtokenD)))))) (fun a b c d σ => aloop (fun st K => aexec C rtokenH call n (cp [0,0,0,0,1,1,1,1,1,0,0,1,1,1,1,1,1,1] rtokenC) 0 st K) rtokenk2 n (rtokent2 a b c d σ) (kblk 5 (kseq (fun st' => aexec C rtokenH call n (cp [1,0,1,1,1,1,1,0,0,1,1,1,1,1,1,1] rtokenC) 0 st' (kblk 2 (kseq (fun st' => aexec C rtokenH call n (cp [1,1,1,1,1,1,1,1] rtokenC) 0 st' (kfin C rtokenD)) (kfin C rtokenD)))) (kblk 2 (kseq (fun st' => aexec C rtokenH call n (cp [1,1,1,1,1,1,1,1] rtokenC) 0 st' (kfin C rtokenD)) (kfin C rtokenD)))))) (fun a b σ => F0 (rtokent0 a b σ)) a b σ := by kernel_rfl
theorem rtokenl0_eq (call : CallF) (n : Nat) : ∀ (m a : Nat) (b : V) (σ : Sto),
  aloop (fun st K => aexec C rtokenH call n (cp [0,0,0,1,1] rtokenC) 0 st K) rtokenk0 m (rtokent0 a b σ) (kblk 0 (kseq (fun st' => aexec C rtokenH call n (cp [1,1,1] rtokenC) 0 st' (kfin C rtokenD)) (kfin C rtokenD))) = rtokenl0 call n m a b σ
 | 0, a, b, σ => rfl
 | m + 1, a, b, σ => by
  rw [aloop, rtokens0_eq]
  simp only [rtokenl0_eq call n m, rtokenl1_eq, rtokenl2_eq]
  rfl
theorem rtoken_eqF (call : CallF) (n a : Nat) (σ : Sto) : afun C rtokenD call n [(V.ptr 79 a 0, false)] σ =
  rtokenF call (fun a b σ => aloop (fun st K => aexec C rtokenH call n (cp [0,0,0,1,1] rtokenC) 0 st K) rtokenk0 n (rtokent0 a b σ) (kblk 0 (kseq (fun st' => aexec C rtokenH call n (cp [1,1,1] rtokenC) 0 st' (kfin C rtokenD)) (kfin C rtokenD)))) a σ := by kernel_rfl
theorem rtoken_eq (call : CallF) (n a : Nat) (σ : Sto) : afun C rtokenD call n [(V.ptr 79 a 0, false)] σ = rtoken call n a σ := by
 rw [rtoken_eqF]
 simp only [rtokenl0_eq]
 rfl
theorem rtoken_lim {n : Nat} {a : Nat} {b0 : Bool} {σ : Sto} {r : Res} (h : rtoken (lim C) n a σ = some r) : lim C 36 [(V.ptr 79 a 0, b0)] σ = some r :=
 lim_of (d := rtokenD) (by kernel_rfl) (by kernel_rfl) n (show afun C rtokenD (lim C) n [(V.ptr 79 a 0, false)] σ = some r from (rtoken_eq (lim C) n a σ).trans h)
end Go.Ab.Mk
end
section
set_option maxRecDepth 100000
namespace Go.Ab.Mk
open Go.Proofs Go.Ab
open List (getD)
open IntKind (wrap)
noncomputable def rdeclk0 : List Nat := [0, 2, 6, 73, 74, 77, 78, 79, 82, 83, 84, 87, 88, 89, 113, 114, 115, 116, 117, 118, 121, 122, 123]
noncomputable def rdeclk1 : List Nat := [0, 2, 6]
noncomputable def rdeclk2 : List Nat := [0, 2, 6]
noncomputable def rdecls1 (call : CallF) (rec1 : Nat → Int → ByteArray → LL → Int → Int → ByteArray → LL → LL → Int → Int → ByteArray → LL → LL → Int → LL → Int → V → LL → V → V → V → V → V → V → V → V → V → V → V → LL → RR) (a : Nat) (w : Int) (x : ByteArray) (y : LL) (z a0 : Int) (a1 : ByteArray) (a2 a3 : LL) (a4 a5 : Int) (a6 : ByteArray) (a7 a8 : LL) (a9 : Int) (c0 : LL) (c : Int) (e : V) (f : LL) (g h i j k o p q r s t : V) (d : LL) (σ : Sto) : Option Res :=
 bif (c == (3 : Int)) then
 (memGet σ (V.ptr 79 a 2) false 1).bind fun m1 =>
 (V.asInt m1 .i64).bind fun i2 =>
 bif (i2 == (0 : Int)) then
 callK call 61 [(V.ptr 79 a 0, false)] σ 1 (fun c1 u =>
 (V.asStr (getD c1 0 cellD).1).bind fun s6 =>
 bif (s6.toList == (ByteArray.mk #[40]).toList) then
 callK call 57 [(V.ptr 79 a 0, false), (V.str ⟨#[40]⟩, false)] u 0 (fun d0 c2 =>
 callK call 57 [(V.ptr 79 a 0, false), (V.str ⟨#[99, 116, 111, 114]⟩, false)] c2 0 (fun d1 c3 =>
 callK call 60 [(V.ptr 79 a 0, false)] c3 1 (fun v c4 =>
 (grd ((V.fits (getD v 0 cellD).1 false 1 && true))).bind fun _ =>
 callK call 63 [(V.ptr 79 a 0, false)] c4 1 (fun b c5 =>
 (grd (V.fits (getD b 0 cellD).1 true 5)).bind fun _ =>
 callK call 57 [(V.ptr 79 a 0, false), (V.str ⟨#[41]⟩, false)] c5 0 (fun d2 c6 =>
 (grd (room (List.length d + 1))).bind fun _ =>
 rec1 a w x y z a0 a1 a2 a3 a4 a5 a6 a7 a8 a9 c0 c e f g h i j k o p q r s t (d ++ [[(getD v 0 cellD).1, V.cell (getD b 0 cellD).1 0, V.cell (getD b 0 cellD).1 1, V.cell (getD b 0 cellD).1 2, V.cell (getD b 0 cellD).1 3, V.cell (getD b 0 cellD).1 4]]) c6) pnK) pnK) pnK) pnK) pnK
 else
 callK call 57 [(V.ptr 79 a 0, false), (V.str ⟨#[41]⟩, false)] u 0 (fun d3 c7 =>
 some (.ret [(V.agg [V.int .i64 c, e, V.slice 1 9 f, g, h, i, j, k, o, p, q, r, s, t, V.slice 6 71 d], false)], c7)) pnK) pnK
 else
 callK call 57 [(V.ptr 79 a 0, false), (V.str ⟨#[41]⟩, false)] σ 0 (fun d4 c8 =>
 some (.ret [(V.agg [V.int .i64 c, e, V.slice 1 9 f, g, h, i, j, k, o, p, q, r, s, t, V.slice 6 71 d], false)], c8)) pnK
 else
 callK call 57 [(V.ptr 79 a 0, false), (V.str ⟨#[41]⟩, false)] σ 0 (fun d5 c9 =>
 some (.ret [(V.agg [V.int .i64 c, e, V.slice 1 9 f, g, h, i, j, k, o, p, q, r, s, t, V.slice 6 71 d], false)], c9)) pnK
noncomputable def rdecll1 (call : CallF) (n : Nat) : Nat → Nat → Int → ByteArray → LL → Int → Int → ByteArray → LL → LL → Int → Int → ByteArray → LL → LL → Int → LL → Int → V → LL → V → V → V → V → V → V → V → V → V → V → V → LL → RR
 | 0 => fun _ _ _ _ _ _ _ _ _ _ _ _ _ _ _ _ _ _ _ _ _ _ _ _ _ _ _ _ _ _ _ _ => none
 | m + 1 => rdecls1 call (rdecll1 call n m)
noncomputable def rdeclt1 (a : Nat) (b : Int) (c : ByteArray) (d : LL) (e f : Int) (g : ByteArray) (h i : LL) (j k : Int) (o : ByteArray) (p q : LL) (r : Int) (s : LL) (t : Int) (u : V) (v : LL) (w x y z a0 a1 a2 a3 a4 a5 a6 : V) (a7 : LL) (σ : Sto) : St := ⟨[.val (V.ptr 79 a 0) false, .dead, .lptr 2 0, .dead, .dead, .dead, .lptr 6 0] ++ dd 139 [], [[], [], [(V.int .i64 b, false), (V.str c, false), (V.slice 1 9 d, true), (V.int .i64 e, false), (V.int .i64 f, false), (V.str g, false), (V.slice 3 92 h, true), (V.slice 5 44 i, true), (V.int .i64 j, false), (V.int .i64 k, false), (V.str o, false), (V.slice 3 92 p, true), (V.slice 5 44 q, true), (V.int .i64 r, false), (V.slice 6 71 s, true)], [], [], [], [(V.int .i64 t, false), (u, false), (V.slice 1 9 v, true), (w, false), (x, false), (y, false), (z, false), (a0, false), (a1, false), (a2, false), (a3, false), (a4, false), (a5, false), (a6, false), (V.slice 6 71 a7, true)]] ++ nn 139 [], σ⟩
noncomputable def rdecls2 (call : CallF) (rec2 : Nat → Int → ByteArray → LL → Int → Int → ByteArray → LL → LL → Int → Int → ByteArray → LL → LL → Int → LL → Int → V → LL → V → V → V → V → V → Int → Int → ByteArray → LL → LL → V → LL → RR) (a : Nat) (w : Int) (x : ByteArray) (y : LL) (z a0 : Int) (a1 : ByteArray) (a2 a3 : LL) (a4 a5 : Int) (a6 : ByteArray) (a7 a8 : LL) (a9 : Int) (c0 : LL) (c : Int) (e : V) (f : LL) (g h i j k : V) (o p : Int) (q : ByteArray) (r s : LL) (t : V) (d : LL) (σ : Sto) : Option Res :=
 bif (c == (3 : Int)) then
 (memGet σ (V.ptr 79 a 2) false 1).bind fun m1 =>
 (V.asInt m1 .i64).bind fun i2 =>
 bif (i2 == (0 : Int)) then
 callK call 61 [(V.ptr 79 a 0, false)] σ 1 (fun c1 u =>
 (V.asStr (getD c1 0 cellD).1).bind fun s6 =>
 bif (s6.toList == (ByteArray.mk #[40]).toList) then
 callK call 57 [(V.ptr 79 a 0, false), (V.str ⟨#[40]⟩, false)] u 0 (fun d0 c2 =>
 callK call 57 [(V.ptr 79 a 0, false), (V.str ⟨#[99, 116, 111, 114]⟩, false)] c2 0 (fun d1 c3 =>
 callK call 60 [(V.ptr 79 a 0, false)] c3 1 (fun v c4 =>
 (grd ((V.fits (getD v 0 cellD).1 false 1 && true))).bind fun _ =>
 callK call 63 [(V.ptr 79 a 0, false)] c4 1 (fun b c5 =>
 (grd (V.fits (getD b 0 cellD).1 true 5)).bind fun _ =>
 callK call 57 [(V.ptr 79 a 0, false), (V.str ⟨#[41]⟩, false)] c5 0 (fun d2 c6 =>
 (grd (room (List.length d + 1))).bind fun _ =>
 rec2 a w x y z a0 a1 a2 a3 a4 a5 a6 a7 a8 a9 c0 c e f g h i j k o p q r s t (d ++ [[(getD v 0 cellD).1, V.cell (getD b 0 cellD).1 0, V.cell (getD b 0 cellD).1 1, V.cell (getD b 0 cellD).1 2, V.cell (getD b 0 cellD).1 3, V.cell (getD b 0 cellD).1 4]]) c6) pnK) pnK) pnK) pnK) pnK
 else
 callK call 57 [(V.ptr 79 a 0, false), (V.str ⟨#[41]⟩, false)] u 0 (fun d3 c7 =>
 some (.ret [(V.agg [V.int .i64 c, e, V.slice 1 9 f, g, h, i, j, k, V.int .i64 o, V.int .i64 p, V.str q, V.slice 3 92 r, V.slice 5 44 s, t, V.slice 6 71 d], false)], c7)) pnK) pnK
 else
 callK call 57 [(V.ptr 79 a 0, false), (V.str ⟨#[41]⟩, false)] σ 0 (fun d4 c8 =>
 some (.ret [(V.agg [V.int .i64 c, e, V.slice 1 9 f, g, h, i, j, k, V.int .i64 o, V.int .i64 p, V.str q, V.slice 3 92 r, V.slice 5 44 s, t, V.slice 6 71 d], false)], c8)) pnK
 else
 callK call 57 [(V.ptr 79 a 0, false), (V.str ⟨#[41]⟩, false)] σ 0 (fun d5 c9 =>
 some (.ret [(V.agg [V.int .i64 c, e, V.slice 1 9 f, g, h, i, j, k, V.int .i64 o, V.int .i64 p, V.str q, V.slice 3 92 r, V.slice 5 44 s, t, V.slice 6 71 d], false)], c9)) pnK
noncomputable def rdecll2 (call : CallF) (n : Nat) : Nat → Nat → Int → ByteArray → LL → Int → Int → ByteArray → LL → LL → Int → Int → ByteArray → LL → LL → Int → LL → Int → V → LL → V → V → V → V → V → Int → Int → ByteArray → LL → LL → V → LL → RR
 | 0 => fun _ _ _ _ _ _ _ _ _ _ _ _ _ _ _ _ _ _ _ _ _ _ _ _ _ _ _ _ _ _ _ _ => none
 | m + 1 => rdecls2 call (rdecll2 call n m)
noncomputable def rdeclt2 (a : Nat) (b : Int) (c : ByteArray) (d : LL) (e f : Int) (g : ByteArray) (h i : LL) (j k : Int) (o : ByteArray) (p q : LL) (r : Int) (s : LL) (t : Int) (u : V) (v : LL) (w x y z a0 : V) (a1 a2 : Int) (a3 : ByteArray) (a4 a5 : LL) (a6 : V) (a7 : LL) (σ : Sto) : St := ⟨[.val (V.ptr 79 a 0) false, .dead, .lptr 2 0, .dead, .dead, .dead, .lptr 6 0] ++ dd 139 [], [[], [], [(V.int .i64 b, false), (V.str c, false), (V.slice 1 9 d, true), (V.int .i64 e, false), (V.int .i64 f, false), (V.str g, false), (V.slice 3 92 h, true), (V.slice 5 44 i, true), (V.int .i64 j, false), (V.int .i64 k, false), (V.str o, false), (V.slice 3 92 p, true), (V.slice 5 44 q, true), (V.int .i64 r, false), (V.slice 6 71 s, true)], [], [], [], [(V.int .i64 t, false), (u, false), (V.slice 1 9 v, true), (w, false), (x, false), (y, false), (z, false), (a0, false), (V.int .i64 a1, false), (V.int .i64 a2, false), (V.str a3, false), (V.slice 3 92 a4, true), (V.slice 5 44 a5, true), (a6, false), (V.slice 6 71 a7, true)]] ++ nn 139 [], σ⟩
noncomputable def rdecls0 (call : CallF) (L1 : Nat → Int → ByteArray → LL → Int → Int → ByteArray → LL → LL → Int → Int → ByteArray → LL → LL → Int → LL → Int → V → LL → V → V → V → V → V → V → V → V → V → V → V → LL → RR) (L2 : Nat → Int → ByteArray → LL → Int → Int → ByteArray → LL → LL → Int → Int → ByteArray → LL → LL → Int → LL → Int → V → LL → V → V → V → V → V → Int → Int → ByteArray → LL → LL → V → LL → RR) (rec0 : Nat → Int → ByteArray → LL → Int → Int → ByteArray → LL → LL → Int → Int → ByteArray → LL → LL → Int → LL → Int → V → LL → Int → Int → ByteArray → LL → LL → Int → Int → ByteArray → LL → LL → Int → LL → RR) (a : Nat) (z : Int) (a0 : ByteArray) (a1 : LL) (a2 a3 : Int) (a4 : ByteArray) (a5 a6 : LL) (a7 a8 : Int) (a9 : ByteArray) (c0 c1 : LL) (c2 : Int) (c3 : LL) (b : Int) (d : V) (c : LL) (o p : Int) (q : ByteArray) (r s : LL) (f g : Int) (h : ByteArray) (i j : LL) (k : Int) (e : LL) (σ : Sto) : Option Res :=
 (memGet σ (V.ptr 79 a 2) false 1).bind fun m1 =>
 (V.asInt m1 .i64).bind fun i2 =>
 bif (i2 == (0 : Int)) then
 callK call 61 [(V.ptr 79 a 0, false)] σ 1 (fun e0 d2 =>
 (V.asStr (getD e0 0 cellD).1).bind fun s6 =>
 bif (!(s6.toList == (ByteArray.mk #[41]).toList)) then
 callK call 60 [(V.ptr 79 a 0, false)] d2 1 (fun d3 e1 =>
 (grd ((V.fits (getD d3 0 cellD).1 false 1 && true))).bind fun _ =>
 (grd (room (List.length c + 1))).bind fun _ =>
 rec0 a z a0 a1 a2 a3 a4 a5 a6 a7 a8 a9 c0 c1 c2 c3 b d (c ++ [[(getD d3 0 cellD).1]]) o p q r s f g h i j k e e1) pnK
 else
 callK call 57 [(V.ptr 79 a 0, false), (V.str ⟨#[41]⟩, false)] d2 0 (fun g0 d4 =>
 bif (b == (3 : Int)) then
 callK call 36 [(V.ptr 79 a 0, false)] d4 3 (fun t c4 =>
 (V.asBool (getD t 2 cellD).1).bind fun b16 =>
 bif (!b16) then
 callK call 58 [(V.ptr 79 a 0, false), ((getD t 1 cellD).1, false)] c4 0 (fun g1 e2 =>
 some (.ret [(V.agg [V.int .i64 b, d, V.slice 1 9 c, V.int .i64 o, V.int .i64 p, V.str q, V.slice 3 92 r, V.slice 5 44 s, V.int .i64 f, V.int .i64 g, V.str h, V.slice 3 92 i, V.slice 5 44 j, V.int .i64 k, V.slice 6 71 e], false)], e2)) pnK
 else
 (V.asStr (getD t 0 cellD).1).bind fun s20 =>
 bif (s20.toList == (ByteArray.mk #[]).toList) then
 callK call 58 [(V.ptr 79 a 0, false), ((getD t 1 cellD).1, false)] c4 0 (fun g2 e3 =>
 some (.ret [(V.agg [V.int .i64 b, d, V.slice 1 9 c, V.int .i64 o, V.int .i64 p, V.str q, V.slice 3 92 r, V.slice 5 44 s, V.int .i64 f, V.int .i64 g, V.str h, V.slice 3 92 i, V.slice 5 44 j, V.int .i64 k, V.slice 6 71 e], false)], e3)) pnK
 else
 (V.asStr (getD t 0 cellD).1).bind fun s24 =>
 (grd (decide (0 ≤ (0 : Int)) && decide ((0 : Int) < s24.size))).bind fun _ =>
 bif (decide ((byteAt s24 (Int.toNat (0 : Int))) < (48 : Int))) then
 callK call 58 [(V.ptr 79 a 0, false), ((getD t 1 cellD).1, false)] c4 0 (fun g3 e4 =>
 some (.ret [(V.agg [V.int .i64 b, d, V.slice 1 9 c, V.int .i64 o, V.int .i64 p, V.str q, V.slice 3 92 r, V.slice 5 44 s, V.int .i64 f, V.int .i64 g, V.str h, V.slice 3 92 i, V.slice 5 44 j, V.int .i64 k, V.slice 6 71 e], false)], e4)) pnK
 else
 (V.asStr (getD t 0 cellD).1).bind fun s28 =>
 (grd (decide (0 ≤ (0 : Int)) && decide ((0 : Int) < s28.size))).bind fun _ =>
 bif (decide ((byteAt s28 (Int.toNat (0 : Int))) > (57 : Int))) then
 callK call 58 [(V.ptr 79 a 0, false), ((getD t 1 cellD).1, false)] c4 0 (fun g4 e5 =>
 some (.ret [(V.agg [V.int .i64 b, d, V.slice 1 9 c, V.int .i64 o, V.int .i64 p, V.str q, V.slice 3 92 r, V.slice 5 44 s, V.int .i64 f, V.int .i64 g, V.str h, V.slice 3 92 i, V.slice 5 44 j, V.int .i64 k, V.slice 6 71 e], false)], e5)) pnK
 else
 (V.asStr (getD t 0 cellD).1).bind fun s32 =>
 bif (decide ((s32.size : Int) > (2 : Int))) then
 callK call 58 [(V.ptr 79 a 0, false), ((getD t 1 cellD).1, false)] c4 0 (fun g5 e6 =>
 some (.ret [(V.agg [V.int .i64 b, d, V.slice 1 9 c, V.int .i64 o, V.int .i64 p, V.str q, V.slice 3 92 r, V.slice 5 44 s, V.int .i64 f, V.int .i64 g, V.str h, V.slice 3 92 i, V.slice 5 44 j, V.int .i64 k, V.slice 6 71 e], false)], e6)) pnK
 else
 callK call 59 [(V.ptr 79 a 0, false)] c4 1 (fun g6 e7 =>
 callK call 62 [((getD t 0 cellD).1, false)] e7 1 (fun d0 e8 =>
 (grd (V.fits (getD d0 0 cellD).1 false 1)).bind fun _ =>
 callK call 63 [(V.ptr 79 a 0, false)] e8 1 (fun u d5 =>
 (grd (V.fits (getD u 0 cellD).1 true 5)).bind fun _ =>
 bif (b == (2 : Int)) then
 callK call 63 [(V.ptr 79 a 0, false)] d5 1 (fun c5 e9 =>
 (grd (V.fits (getD c5 0 cellD).1 true 5)).bind fun _ =>
 L1 a z a0 a1 a2 a3 a4 a5 a6 a7 a8 a9 c0 c1 c2 c3 b d c (V.cell (getD u 0 cellD).1 0) (V.cell (getD u 0 cellD).1 1) (V.cell (getD u 0 cellD).1 2) (V.cell (getD u 0 cellD).1 3) (V.cell (getD u 0 cellD).1 4) (V.cell (getD c5 0 cellD).1 0) (V.cell (getD c5 0 cellD).1 1) (V.cell (getD c5 0 cellD).1 2) (V.cell (getD c5 0 cellD).1 3) (V.cell (getD c5 0 cellD).1 4) (getD d0 0 cellD).1 e e9) pnK
 else
 L2 a z a0 a1 a2 a3 a4 a5 a6 a7 a8 a9 c0 c1 c2 c3 b d c (V.cell (getD u 0 cellD).1 0) (V.cell (getD u 0 cellD).1 1) (V.cell (getD u 0 cellD).1 2) (V.cell (getD u 0 cellD).1 3) (V.cell (getD u 0 cellD).1 4) f g h i j (getD d0 0 cellD).1 e d5) pnK) pnK) pnK) pnK
 else
 callK call 63 [(V.ptr 79 a 0, false)] d4 1 (fun v d6 =>
 (grd (V.fits (getD v 0 cellD).1 true 5)).bind fun _ =>
 bif (b == (2 : Int)) then
 callK call 63 [(V.ptr 79 a 0, false)] d6 1 (fun c6 f0 =>
 (grd (V.fits (getD c6 0 cellD).1 true 5)).bind fun _ =>
 L1 a z a0 a1 a2 a3 a4 a5 a6 a7 a8 a9 c0 c1 c2 c3 b d c (V.cell (getD v 0 cellD).1 0) (V.cell (getD v 0 cellD).1 1) (V.cell (getD v 0 cellD).1 2) (V.cell (getD v 0 cellD).1 3) (V.cell (getD v 0 cellD).1 4) (V.cell (getD c6 0 cellD).1 0) (V.cell (getD c6 0 cellD).1 1) (V.cell (getD c6 0 cellD).1 2) (V.cell (getD c6 0 cellD).1 3) (V.cell (getD c6 0 cellD).1 4) (V.int .i64 k) e f0) pnK
 else
 L2 a z a0 a1 a2 a3 a4 a5 a6 a7 a8 a9 c0 c1 c2 c3 b d c (V.cell (getD v 0 cellD).1 0) (V.cell (getD v 0 cellD).1 1) (V.cell (getD v 0 cellD).1 2) (V.cell (getD v 0 cellD).1 3) (V.cell (getD v 0 cellD).1 4) f g h i j (V.int .i64 k) e d6) pnK) pnK) pnK
 else
 callK call 57 [(V.ptr 79 a 0, false), (V.str ⟨#[41]⟩, false)] σ 0 (fun g7 d7 =>
 bif (b == (3 : Int)) then
 callK call 36 [(V.ptr 79 a 0, false)] d7 3 (fun w c7 =>
 (V.asBool (getD w 2 cellD).1).bind fun b60 =>
 bif (!b60) then
 callK call 58 [(V.ptr 79 a 0, false), ((getD w 1 cellD).1, false)] c7 0 (fun g8 f1 =>
 some (.ret [(V.agg [V.int .i64 b, d, V.slice 1 9 c, V.int .i64 o, V.int .i64 p, V.str q, V.slice 3 92 r, V.slice 5 44 s, V.int .i64 f, V.int .i64 g, V.str h, V.slice 3 92 i, V.slice 5 44 j, V.int .i64 k, V.slice 6 71 e], false)], f1)) pnK
 else
 (V.asStr (getD w 0 cellD).1).bind fun s64 =>
 bif (s64.toList == (ByteArray.mk #[]).toList) then
 callK call 58 [(V.ptr 79 a 0, false), ((getD w 1 cellD).1, false)] c7 0 (fun g9 f2 =>
 some (.ret [(V.agg [V.int .i64 b, d, V.slice 1 9 c, V.int .i64 o, V.int .i64 p, V.str q, V.slice 3 92 r, V.slice 5 44 s, V.int .i64 f, V.int .i64 g, V.str h, V.slice 3 92 i, V.slice 5 44 j, V.int .i64 k, V.slice 6 71 e], false)], f2)) pnK
 else
 (V.asStr (getD w 0 cellD).1).bind fun s68 =>
 (grd (decide (0 ≤ (0 : Int)) && decide ((0 : Int) < s68.size))).bind fun _ =>
 bif (decide ((byteAt s68 (Int.toNat (0 : Int))) < (48 : Int))) then
 callK call 58 [(V.ptr 79 a 0, false), ((getD w 1 cellD).1, false)] c7 0 (fun h0 f3 =>
 some (.ret [(V.agg [V.int .i64 b, d, V.slice 1 9 c, V.int .i64 o, V.int .i64 p, V.str q, V.slice 3 92 r, V.slice 5 44 s, V.int .i64 f, V.int .i64 g, V.str h, V.slice 3 92 i, V.slice 5 44 j, V.int .i64 k, V.slice 6 71 e], false)], f3)) pnK
 else
 (V.asStr (getD w 0 cellD).1).bind fun s72 =>
 (grd (decide (0 ≤ (0 : Int)) && decide ((0 : Int) < s72.size))).bind fun _ =>
 bif (decide ((byteAt s72 (Int.toNat (0 : Int))) > (57 : Int))) then
 callK call 58 [(V.ptr 79 a 0, false), ((getD w 1 cellD).1, false)] c7 0 (fun h1 f4 =>
 some (.ret [(V.agg [V.int .i64 b, d, V.slice 1 9 c, V.int .i64 o, V.int .i64 p, V.str q, V.slice 3 92 r, V.slice 5 44 s, V.int .i64 f, V.int .i64 g, V.str h, V.slice 3 92 i, V.slice 5 44 j, V.int .i64 k, V.slice 6 71 e], false)], f4)) pnK
 else
 (V.asStr (getD w 0 cellD).1).bind fun s76 =>
 bif (decide ((s76.size : Int) > (2 : Int))) then
 callK call 58 [(V.ptr 79 a 0, false), ((getD w 1 cellD).1, false)] c7 0 (fun h2 f5 =>
 some (.ret [(V.agg [V.int .i64 b, d, V.slice 1 9 c, V.int .i64 o, V.int .i64 p, V.str q, V.slice 3 92 r, V.slice 5 44 s, V.int .i64 f, V.int .i64 g, V.str h, V.slice 3 92 i, V.slice 5 44 j, V.int .i64 k, V.slice 6 71 e], false)], f5)) pnK
 else
 callK call 59 [(V.ptr 79 a 0, false)] c7 1 (fun h3 f6 =>
 callK call 62 [((getD w 0 cellD).1, false)] f6 1 (fun d1 f7 =>
 (grd (V.fits (getD d1 0 cellD).1 false 1)).bind fun _ =>
 callK call 63 [(V.ptr 79 a 0, false)] f7 1 (fun x d8 =>
 (grd (V.fits (getD x 0 cellD).1 true 5)).bind fun _ =>
 bif (b == (2 : Int)) then
 callK call 63 [(V.ptr 79 a 0, false)] d8 1 (fun c8 f8 =>
 (grd (V.fits (getD c8 0 cellD).1 true 5)).bind fun _ =>
 L1 a z a0 a1 a2 a3 a4 a5 a6 a7 a8 a9 c0 c1 c2 c3 b d c (V.cell (getD x 0 cellD).1 0) (V.cell (getD x 0 cellD).1 1) (V.cell (getD x 0 cellD).1 2) (V.cell (getD x 0 cellD).1 3) (V.cell (getD x 0 cellD).1 4) (V.cell (getD c8 0 cellD).1 0) (V.cell (getD c8 0 cellD).1 1) (V.cell (getD c8 0 cellD).1 2) (V.cell (getD c8 0 cellD).1 3) (V.cell (getD c8 0 cellD).1 4) (getD d1 0 cellD).1 e f8) pnK
 else
 L2 a z a0 a1 a2 a3 a4 a5 a6 a7 a8 a9 c0 c1 c2 c3 b d c (V.cell (getD x 0 cellD).1 0) (V.cell (getD x 0 cellD).1 1) (V.cell (getD x 0 cellD).1 2) (V.cell (getD x 0 cellD).1 3) (V.cell (getD x 0 cellD).1 4) f g h i j (getD d1 0 cellD).1 e d8) pnK) pnK) pnK) pnK
 else
 callK call 63 [(V.ptr 79 a 0, false)] d7 1 (fun y d9 =>
 (grd (V.fits (getD y 0 cellD).1 true 5)).bind fun _ =>
 bif (b == (2 : Int)) then
 callK call 63 [(V.ptr 79 a 0, false)] d9 1 (fun c9 f9 =>
 (grd (V.fits (getD c9 0 cellD).1 true 5)).bind fun _ =>
 L1 a z a0 a1 a2 a3 a4 a5 a6 a7 a8 a9 c0 c1 c2 c3 b d c (V.cell (getD y 0 cellD).1 0) (V.cell (getD y 0 cellD).1 1) (V.cell (getD y 0 cellD).1 2) (V.cell (getD y 0 cellD).1 3) (V.cell (getD y 0 cellD).1 4) (V.cell (getD c9 0 cellD).1 0) (V.cell (getD c9 0 cellD).1 1) (V.cell (getD c9 0 cellD).1 2) (V.cell (getD c9 0 cellD).1 3) (V.cell (getD c9 0 cellD).1 4) (V.int .i64 k) e f9) pnK
 else
 L2 a z a0 a1 a2 a3 a4 a5 a6 a7 a8 a9 c0 c1 c2 c3 b d c (V.cell (getD y 0 cellD).1 0) (V.cell (getD y 0 cellD).1 1) (V.cell (getD y 0 cellD).1 2) (V.cell (getD y 0 cellD).1 3) (V.cell (getD y 0 cellD).1 4) f g h i j (V.int .i64 k) e d9) pnK) pnK
noncomputable def rdecll0 (call : CallF) (n : Nat) : Nat → Nat → Int → ByteArray → LL → Int → Int → ByteArray → LL → LL → Int → Int → ByteArray → LL → LL → Int → LL → Int → V → LL → Int → Int → ByteArray → LL → LL → Int → Int → ByteArray → LL → LL → Int → LL → RR
 | 0 => fun _ _ _ _ _ _ _ _ _ _ _ _ _ _ _ _ _ _ _ _ _ _ _ _ _ _ _ _ _ _ _ _ => none
 | m + 1 => rdecls0 call (rdecll1 call n n) (rdecll2 call n n) (rdecll0 call n m)
noncomputable def rdeclt0 (a : Nat) (b : Int) (c : ByteArray) (d : LL) (e f : Int) (g : ByteArray) (h i : LL) (j k : Int) (o : ByteArray) (p q : LL) (r : Int) (s : LL) (t : Int) (u : V) (v : LL) (w x : Int) (y : ByteArray) (z a0 : LL) (a1 a2 : Int) (a3 : ByteArray) (a4 a5 : LL) (a6 : Int) (a7 : LL) (σ : Sto) : St := ⟨[.val (V.ptr 79 a 0) false, .dead, .lptr 2 0, .dead, .dead, .dead, .lptr 6 0] ++ dd 139 [], [[], [], [(V.int .i64 b, false), (V.str c, false), (V.slice 1 9 d, true), (V.int .i64 e, false), (V.int .i64 f, false), (V.str g, false), (V.slice 3 92 h, true), (V.slice 5 44 i, true), (V.int .i64 j, false), (V.int .i64 k, false), (V.str o, false), (V.slice 3 92 p, true), (V.slice 5 44 q, true), (V.int .i64 r, false), (V.slice 6 71 s, true)], [], [], [], [(V.int .i64 t, false), (u, false), (V.slice 1 9 v, true), (V.int .i64 w, false), (V.int .i64 x, false), (V.str y, false), (V.slice 3 92 z, true), (V.slice 5 44 a0, true), (V.int .i64 a1, false), (V.int .i64 a2, false), (V.str a3, false), (V.slice 3 92 a4, true), (V.slice 5 44 a5, true), (V.int .i64 a6, false), (V.slice 6 71 a7, true)]] ++ nn 139 [], σ⟩
noncomputable def rdeclF (call : CallF) (L0 : Nat → Int → ByteArray → LL → Int → Int → ByteArray → LL → LL → Int → Int → ByteArray → LL → LL → Int → LL → Int → V → LL → Int → Int → ByteArray → LL → LL → Int → Int → ByteArray → LL → LL → Int → LL → RR) (a : Nat) (σ : Sto) : Option Res :=
 callK call 57 [(V.ptr 79 a 0, false), (V.str ⟨#[40]⟩, false)] σ 0 (fun u g =>
 callK call 36 [(V.ptr 79 a 0, false)] g 3 (fun b c =>
 (V.asStr (getD b 0 cellD).1).bind fun s7 =>
 bif (s7.toList == (ByteArray.mk #[97, 120, 105, 111, 109]).toList) then
 callK call 59 [(V.ptr 79 a 0, false)] c 1 (fun v h =>
 callK call 60 [(V.ptr 79 a 0, false)] h 1 (fun d i =>
 (grd (V.fits (getD d 0 cellD).1 false 1)).bind fun _ =>
 callK call 57 [(V.ptr 79 a 0, false), (V.str ⟨#[40]⟩, false)] i 0 (fun w j =>
 L0 a (0 : Int) (ByteArray.mk #[]) [] (0 : Int) (0 : Int) (ByteArray.mk #[]) [] [] (0 : Int) (0 : Int) (ByteArray.mk #[]) [] [] (0 : Int) [] (1 : Int) (getD d 0 cellD).1 [] (0 : Int) (0 : Int) (ByteArray.mk #[]) [] [] (0 : Int) (0 : Int) (ByteArray.mk #[]) [] [] (0 : Int) [] j) pnK) pnK) pnK
 else
 (V.asStr (getD b 0 cellD).1).bind fun s17 =>
 bif (s17.toList == (ByteArray.mk #[100, 101, 102]).toList) then
 callK call 59 [(V.ptr 79 a 0, false)] c 1 (fun x k =>
 callK call 60 [(V.ptr 79 a 0, false)] k 1 (fun e o =>
 (grd (V.fits (getD e 0 cellD).1 false 1)).bind fun _ =>
 callK call 57 [(V.ptr 79 a 0, false), (V.str ⟨#[40]⟩, false)] o 0 (fun y p =>
 L0 a (0 : Int) (ByteArray.mk #[]) [] (0 : Int) (0 : Int) (ByteArray.mk #[]) [] [] (0 : Int) (0 : Int) (ByteArray.mk #[]) [] [] (0 : Int) [] (2 : Int) (getD e 0 cellD).1 [] (0 : Int) (0 : Int) (ByteArray.mk #[]) [] [] (0 : Int) (0 : Int) (ByteArray.mk #[]) [] [] (0 : Int) [] p) pnK) pnK) pnK
 else
 (V.asStr (getD b 0 cellD).1).bind fun s27 =>
 bif (s27.toList == (ByteArray.mk #[105, 110, 100, 117, 99, 116, 105, 118, 101]).toList) then
 callK call 59 [(V.ptr 79 a 0, false)] c 1 (fun z q =>
 callK call 60 [(V.ptr 79 a 0, false)] q 1 (fun f r =>
 (grd (V.fits (getD f 0 cellD).1 false 1)).bind fun _ =>
 callK call 57 [(V.ptr 79 a 0, false), (V.str ⟨#[40]⟩, false)] r 0 (fun a0 s =>
 L0 a (0 : Int) (ByteArray.mk #[]) [] (0 : Int) (0 : Int) (ByteArray.mk #[]) [] [] (0 : Int) (0 : Int) (ByteArray.mk #[]) [] [] (0 : Int) [] (3 : Int) (getD f 0 cellD).1 [] (0 : Int) (0 : Int) (ByteArray.mk #[]) [] [] (0 : Int) (0 : Int) (ByteArray.mk #[]) [] [] (0 : Int) [] s) pnK) pnK) pnK
 else
 callK call 58 [(V.ptr 79 a 0, false), ((getD b 1 cellD).1, false)] c 0 (fun a1 t =>
 some (.ret [((V.agg [(V.int .i64 (0 : Int)), V.str ⟨#[]⟩, V.slice 1 9 [], (V.int .i64 (0 : Int)), (V.int .i64 (0 : Int)), V.str ⟨#[]⟩, V.slice 3 92 [], V.slice 5 44 [], (V.int .i64 (0 : Int)), (V.int .i64 (0 : Int)), V.str ⟨#[]⟩, V.slice 3 92 [], V.slice 5 44 [], (V.int .i64 (0 : Int)), V.slice 6 71 []]), false)], t)) pnK) pnK) pnK
noncomputable def rdecl (call : CallF) (n a : Nat) (σ : Sto) : Option Res := rdeclF call (rdecll0 call n n) a σ
theorem rdecls1_eq (call : CallF) (n : Nat) (F1 : St → Option Res) (a : Nat) (b : Int) (c : ByteArray) (d : LL) (e f : Int) (g : ByteArray) (h i : LL) (j k : Int) (o : ByteArray) (p q : LL) (r : Int) (s : LL) (t : Int) (u : V) (v : LL) (w x y z a0 a1 a2 a3 a4 a5 a6 : V) (a7 : LL) (σ : Sto) :
  aexec C rdeclH call n (cp [0,0,0,1,1,1,1,1,1,1,1,1,1,1,1,1] rdeclC) 0 (rdeclt1 a b c d e f g h i j k o p q r s t u v w x y z a0 a1 a2 a3 a4 a5 a6 a7 σ) (kloop rdeclk1 F1 (kblk 3 (kseq (fun st' => aexec C rdeclH call n (cp [1,1,1,1,1,1,1,1,1,1,1,1,1,1] rdeclC) 0 st' (kfin C rdeclD)) (kfin C rdeclD)))) =
  rdecls1 call (fun a b c d e f g h i j k o p q r s t u v w x y z a0 a1 a2 a3 a4 a5 a6 a7 σ => F1 (rdeclt1 a b c d e f g h i j k o p q r s t u v w x y z a0 a1 a2 a3 a4 a5 a6 a7 σ)) a b c d e f g h i j k o p q r s t u v w x y z a0 a1 a2 a3 a4 a5 a6 a7 σ := by kernel_rfl
theorem rdecll1_eq (call : CallF) (n : Nat) : ∀ (m a : Nat) (b : Int) (c : ByteArray) (d : LL) (e f : Int) (g : ByteArray) (h i : LL) (j k : Int) (o : ByteArray) (p q : LL) (r : Int) (s : LL) (t : Int) (u : V) (v : LL) (w x y z a0 a1 a2 a3 a4 a5 a6 : V) (a7 : LL) (σ : Sto),
  aloop (fun st K => aexec C rdeclH call n (cp [0,0,0,1,1,1,1,1,1,1,1,1,1,1,1,1] rdeclC) 0 st K) rdeclk1 m (rdeclt1 a b c d e f g h i j k o p q r s t u v w x y z a0 a1 a2 a3 a4 a5 a6 a7 σ) (kblk 3 (kseq (fun st' => aexec C rdeclH call n (cp [1,1,1,1,1,1,1,1,1,1,1,1,1,1] rdeclC) 0 st' (kfin C rdeclD)) (kfin C rdeclD))) = rdecll1 call n m a b c d e f g h i j k o p q r s t u v w x y z a0 a1 a2 a3 a4 a5 a6 a7 σ
 | 0, a, b, c, d, e, f, g, h, i, j, k, o, p, q, r, s, t, u, v, w, x, y, z, a0, a1, a2, a3, a4, a5, a6, a7, σ => rfl
 | m + 1, a, b, c, d, e, f, g, h, i, j, k, o, p, q, r, s, t, u, v, w, x, y, z, a0, a1, a2, a3, a4, a5, a6, a7, σ => by
  rw [aloop, rdecls1_eq]
  simp only [rdecll1_eq call n m]
  rfl
theorem rdecls2_eq (call : CallF) (n : Nat) (F2 : St → Option Res) (a : Nat) (b : Int) (c : ByteArray) (d : LL) (e f : Int) (g : ByteArray) (h i : LL) (j k : Int) (o : ByteArray) (p q : LL) (r : Int) (s : LL) (t : Int) (u : V) (v : LL) (w x y z a0 : V) (a1 a2 : Int) (a3 : ByteArray) (a4 a5 : LL) (a6 : V) (a7 : LL) (σ : Sto) :
  aexec C rdeclH call n (cp [0,0,0,1,1,1,1,1,1,1,1,1,1,1,1,1] rdeclC) 0 (rdeclt2 a b c d e f g h i j k o p q r s t u v w x y z a0 a1 a2 a3 a4 a5 a6 a7 σ) (kloop rdeclk2 F2 (kblk 3 (kseq (fun st' => aexec C rdeclH call n (cp [1,1,1,1,1,1,1,1,1,1,1,1,1,1] rdeclC) 0 st' (kfin C rdeclD)) (kfin C rdeclD)))) =
  rdecls2 call (fun a b c d e f g h i j k o p q r s t u v w x y z a0 a1 a2 a3 a4 a5 a6 a7 σ => F2 (rdeclt2 a b c d e f g h i j k o p q r s t u v w x y z a0 a1 a2 a3 a4 a5 a6 a7 σ)) a b c d e f g h i j k o p q r s t u v w x y z a0 a1 a2 a3 a4 a5 a6 a7 σ := by kernel_rfl
theorem rdecll2_eq (call : CallF) (n : Nat) : ∀ (m a : Nat) (b : Int) (c : ByteArray) (d : LL) (e f : Int) (g : ByteArray) (h i : LL) (j k : Int) (o : ByteArray) (p q : LL) (r : Int) (s : LL) (t : Int) (u : V) (v : LL) (w x y z a0 : V) (a1 a2 : Int) (a3 : ByteArray) (a4 a5 : LL) (a6 : V) (a7 : LL) (σ : Sto),
  aloop (fun st K => aexec C rdeclH call n (cp [0,0,0,1,1,1,1,1,1,1,1,1,1,1,1,1] rdeclC) 0 st K) rdeclk2 m (rdeclt2 a b c d e f g h i j k o p q r s t u v w x y z a0 a1 a2 a3 a4 a5 a6 a7 σ) (kblk 3 (kseq (fun st' => aexec C rdeclH call n (cp [1,1,1,1,1,1,1,1,1,1,1,1,1,1] rdeclC) 0 st' (kfin C rdeclD)) (kfin C rdeclD))) = rdecll2 call n m a b c d e f g h i j k o p q r s t u v w x y z a0 a1 a2 a3 a4 a5 a6 a7 σ
 | 0, a, b, c, d, e, f, g, h, i, j, k, o, p, q, r, s, t, u, v, w, x, y, z, a0, a1, a2, a3, a4, a5, a6, a7, σ => rfl
 | m + 1, a, b, c, d, e, f, g, h, i, j, k, o, p, q, r, s, t, u, v, w, x, y, z, a0, a1, a2, a3, a4, a5, a6, a7, σ => by
  rw [aloop, rdecls2_eq]
  simp only [rdecll2_eq call n m]
  rfl
theorem rdecls0_eq (call : CallF) (n : Nat) (F0 : St → Option Res) (a : Nat) (b : Int) (c : ByteArray) (d : LL) (e f : Int) (g : ByteArray) (h i : LL) (j k : Int) (o : ByteArray) (p q : LL) (r : Int) (s : LL) (t : Int) (u : V) (v : LL) (w x : Int) (y : ByteArray) (z a0 : LL) (a1 a2 : Int) (a3 : ByteArray) (a4 a5 : LL) (a6 : Int) (a7 : LL) (σ : Sto) :
  aexec C rdeclH call n (cp [0,0,0,1,1,1,1,1,1,1,1] rdeclC) 0 (rdeclt0 a b c d e f g h i j k o p q r s t u v w x y z a0 a1 a2 a3 a4 a5 a6 a7 σ) (kloop rdeclk0 F0 (kblk 1 (kseq (fun st' => aexec C rdeclH call n (cp [1,1,1,1,1,1,1,1,1] rdeclC) 0 st' (kfin C rdeclD)) (kfin C rdeclD)))) =
  rdecls0 call (fun a b c d e f g h i j k o p q r s t u v w x y z a0 a1 a2 a3 a4 a5 a6 a7 σ => aloop (fun st K => aexec C rdeclH call n (cp [0,0,0,1,1,1,1,1,1,1,1,1,1,1,1,1] rdeclC) 0 st K) rdeclk1 n (rdeclt1 a b c d e f g h i j k o p q r s t u v w x y z a0 a1 a2 a3 a4 a5 a6 a7 σ) (kblk 3 (kseq (fun st' => aexec C rdeclH call n (cp [1,1,1,1,1,1,1,1,1,1,1,1,1,1] rdeclC) 0 st' (kfin C rdeclD)) (kfin C rdeclD)))) (fun a b c d e f g h i j k o p q r s t u v w x y z a0 a1 a2 a3 a4 a5 a6 a7 σ => aloop (fun st K => aexec C rdeclH call n (cp [0,0,0,1,1,1,1,1,1,1,1,1,1,1,1,1] rdeclC) 0 st K) rdeclk2 n (rdeclt2 a b c d e f g h i j k o p q r s t u v w x y z a0 a1 a2 a3 a4 a5 a6 a7 σ) (kblk 3 (kseq (fun st' => aexec C rdeclH call n (cp [1,1,1,1,1,1,1,1,1,1,1,1,1,1] rdeclC) 0 st' (kfin C rdeclD)) (kfin C rdeclD)))) (fun a b c d e f g h i j k o p q r s t u v w x y z a0 a1 a2 a3 a4 a5 a6 a7 σ => F0 (rdeclt0 a b c d e f g h i j k o p q r s t u v w x y z a0 a1 a2 a3 a4 a5 a6 a7 σ)) a b c d e f g h i j k o p q r s t u v w x y z a0 a1 a2 a3 a4 a5 a6 a7 σ := by kernel_rfl
theorem rdecll0_eq (call : CallF) (n : Nat) : ∀ (m a : Nat) (b : Int) (c : ByteArray) (d : LL) (e f : Int) (g : ByteArray) (h i : LL) (j k : Int) (o : ByteArray) (p q : LL) (r : Int) (s : LL) (t : Int) (u : V) (v : LL) (w x : Int) (y : ByteArray) (z a0 : LL) (a1 a2 : Int) (a3 : ByteArray) (a4 a5 : LL) (a6 : Int) (a7 : LL) (σ : Sto),
  aloop (fun st K => aexec C rdeclH call n (cp [0,0,0,1,1,1,1,1,1,1,1] rdeclC) 0 st K) rdeclk0 m (rdeclt0 a b c d e f g h i j k o p q r s t u v w x y z a0 a1 a2 a3 a4 a5 a6 a7 σ) (kblk 1 (kseq (fun st' => aexec C rdeclH call n (cp [1,1,1,1,1,1,1,1,1] rdeclC) 0 st' (kfin C rdeclD)) (kfin C rdeclD))) = rdecll0 call n m a b c d e f g h i j k o p q r s t u v w x y z a0 a1 a2 a3 a4 a5 a6 a7 σ
 | 0, a, b, c, d, e, f, g, h, i, j, k, o, p, q, r, s, t, u, v, w, x, y, z, a0, a1, a2, a3, a4, a5, a6, a7, σ => rfl
 | m + 1, a, b, c, d, e, f, g, h, i, j, k, o, p, q, r, s, t, u, v, w, x, y, z, a0, a1, a2, a3, a4, a5, a6, a7, σ => by
  rw [aloop, rdecls0_eq]
  simp only [rdecll0_eq call n m, rdecll1_eq, rdecll2_eq]
  rfl
theorem rdecl_eqF (call : CallF) (n a : Nat) (σ : Sto) : afun C rdeclD call n [(V.ptr 79 a 0, false)] σ =
  rdeclF call (fun a b c d e f g h i j k o p q r s t u v w x y z a0 a1 a2 a3 a4 a5 a6 a7 σ => aloop (fun st K => aexec C rdeclH call n (cp [0,0,0,1,1,1,1,1,1,1,1] rdeclC) 0 st K) rdeclk0 n (rdeclt0 a b c d e f g h i j k o p q r s t u v w x y z a0 a1 a2 a3 a4 a5 a6 a7 σ) (kblk 1 (kseq (fun st' => aexec C rdeclH call n (cp [1,1,1,1,1,1,1,1,1] rdeclC) 0 st' (kfin C rdeclD)) (kfin C rdeclD)))) a σ := by kernel_rfl
theorem rdecl_eq (call : CallF) (n a : Nat) (σ : Sto) : afun C rdeclD call n [(V.ptr 79 a 0, false)] σ = rdecl call n a σ := by
 rw [rdecl_eqF]
 simp only [rdecll0_eq]
 rfl
theorem rdecl_lim {n : Nat} {a : Nat} {b0 : Bool} {σ : Sto} {r : Res} (h : rdecl (lim C) n a σ = some r) : lim C 37 [(V.ptr 79 a 0, b0)] σ = some r :=
 lim_of (d := rdeclD) (by kernel_rfl) (by kernel_rfl) n (show afun C rdeclD (lim C) n [(V.ptr 79 a 0, false)] σ = some r from (rdecl_eq (lim C) n a σ).trans h)
end Go.Ab.Mk
end
section
set_option maxRecDepth 100000
namespace Go.Ab.Mk
open Go.Proofs Go.Ab
open List (getD)
open IntKind (wrap)
noncomputable def levelsFitk0 : List Nat := [1, 3]
noncomputable def levelsFitk1 : List Nat := [1, 5]
noncomputable def levelsFits1 (call : CallF) (rec1 : Int → Int → Int → ByteArray → LL → LL → RR) (a d e : Int) (f : ByteArray) (g b : LL) (σ : Sto) : Option Res :=
 bif (decide (a < (b.length : Int))) then
 (grd (decide (0 ≤ a) && decide (a < b.length))).bind fun _ =>
 callK call 39 [(V.agg [(getD (getD b a.toNat []) 0 V.any), (getD (getD b a.toNat []) 1 V.any), (getD (getD b a.toNat []) 2 V.any), (getD (getD b a.toNat []) 3 V.any), (getD (getD b a.toNat []) 4 V.any)], false)] σ 1 (fun h c =>
 (V.asBool (getD h 0 cellD).1).bind fun b4 =>
 bif (!b4) then
 some (.ret [(V.bool false, false)], c)
 else
 rec1 (wrap .i64 (a + (1 : Int))) d e f g b c) pnK
 else
 some (.ret [(V.bool true, false)], σ)
noncomputable def levelsFitl1 (call : CallF) (n : Nat) : Nat → Int → Int → Int → ByteArray → LL → LL → RR
 | 0 => fun _ _ _ _ _ _ _ => none
 | m + 1 => levelsFits1 call (levelsFitl1 call n m)
noncomputable def levelsFitt1 (a b c : Int) (d : ByteArray) (e f : LL) (σ : Sto) : St := ⟨[.dead, .lptr 1 0, .dead, .dead, .dead, .val (V.int .i64 a) false] ++ dd 31 [], [[], [(V.int .i64 b, false), (V.int .i64 c, false), (V.str d, false), (V.slice 3 92 e, false), (V.slice 5 44 f, false)]] ++ nn 35 [], σ⟩
noncomputable def levelsFits0 (call : CallF) (L1 rec0 : Int → Int → Int → ByteArray → LL → LL → RR) (a c d : Int) (e : ByteArray) (b f : LL) (σ : Sto) : Option Res :=
 bif (decide (a < (b.length : Int))) then
 (grd (decide (0 ≤ a) && decide (a < b.length))).bind fun _ =>
 callK call 68 [(V.agg [(getD (getD b a.toNat []) 0 V.any), (getD (getD b a.toNat []) 1 V.any), (getD (getD b a.toNat []) 2 V.any)], false), ((V.int .i64 (300 : Int)), false)] σ 1 (fun h g =>
 (V.asInt (getD h 0 cellD).1 .i64).bind fun i4 =>
 bif (decide (i4 > (300 : Int))) then
 some (.ret [(V.bool false, false)], g)
 else
 rec0 (wrap .i64 (a + (1 : Int))) c d e b f g) pnK
 else
 L1 (0 : Int) c d e b f σ
noncomputable def levelsFitl0 (call : CallF) (n : Nat) : Nat → Int → Int → Int → ByteArray → LL → LL → RR
 | 0 => fun _ _ _ _ _ _ _ => none
 | m + 1 => levelsFits0 call (levelsFitl1 call n n) (levelsFitl0 call n m)
noncomputable def levelsFitt0 (a b c : Int) (d : ByteArray) (e f : LL) (σ : Sto) : St := ⟨[.dead, .lptr 1 0, .dead, .val (V.int .i64 a) false] ++ dd 33 [], [[], [(V.int .i64 b, false), (V.int .i64 c, false), (V.str d, false), (V.slice 3 92 e, false), (V.slice 5 44 f, false)]] ++ nn 35 [], σ⟩
noncomputable def levelsFitF (call : CallF) (L0 : Int → Int → Int → ByteArray → LL → LL → RR) (a b : Int) (c : ByteArray) (d e : LL) (σ : Sto) : Option Res :=
 L0 (0 : Int) a b c d e σ
noncomputable def levelsFit (call : CallF) (n : Nat) (a b : Int) (c : ByteArray) (d e : LL) (σ : Sto) : Option Res := levelsFitF call (levelsFitl0 call n n) a b c d e σ
theorem levelsFits1_eq (call : CallF) (n : Nat) (F1 : St → Option Res) (a b c : Int) (d : ByteArray) (e f : LL) (σ : Sto) :
  aexec C levelsFitH call n (cp [0,0,1,0,1,1] levelsFitC) 0 (levelsFitt1 a b c d e f σ) (kloop levelsFitk1 F1 (kblk 2 (kseq (fun st' => aexec C levelsFitH call n (cp [1,1,1] levelsFitC) 0 st' (kfin C levelsFitD)) (kfin C levelsFitD)))) =
  levelsFits1 call (fun a b c d e f σ => F1 (levelsFitt1 a b c d e f σ)) a b c d e f σ := by kernel_rfl
theorem levelsFitl1_eq (call : CallF) (n : Nat) : ∀ (m : Nat) (a b c : Int) (d : ByteArray) (e f : LL) (σ : Sto),
  aloop (fun st K => aexec C levelsFitH call n (cp [0,0,1,0,1,1] levelsFitC) 0 st K) levelsFitk1 m (levelsFitt1 a b c d e f σ) (kblk 2 (kseq (fun st' => aexec C levelsFitH call n (cp [1,1,1] levelsFitC) 0 st' (kfin C levelsFitD)) (kfin C levelsFitD))) = levelsFitl1 call n m a b c d e f σ
 | 0, a, b, c, d, e, f, σ => rfl
 | m + 1, a, b, c, d, e, f, σ => by
  rw [aloop, levelsFits1_eq]
  simp only [levelsFitl1_eq call n m]
  rfl
theorem levelsFits0_eq (call : CallF) (n : Nat) (F0 : St → Option Res) (f a b : Int) (c : ByteArray) (d e : LL) (σ : Sto) :
  aexec C levelsFitH call n (cp [0,0,1,0,1] levelsFitC) 0 (levelsFitt0 f a b c d e σ) (kloop levelsFitk0 F0 (kblk 0 (kseq (fun st' => aexec C levelsFitH call n (codeR (codeR levelsFitC)) 0 st' (kfin C levelsFitD)) (kfin C levelsFitD)))) =
  levelsFits0 call (fun g a b c d e σ => aloop (fun st K => aexec C levelsFitH call n (cp [0,0,1,0,1,1] levelsFitC) 0 st K) levelsFitk1 n (levelsFitt1 g a b c d e σ) (kblk 2 (kseq (fun st' => aexec C levelsFitH call n (cp [1,1,1] levelsFitC) 0 st' (kfin C levelsFitD)) (kfin C levelsFitD)))) (fun f a b c d e σ => F0 (levelsFitt0 f a b c d e σ)) f a b c d e σ := by kernel_rfl
theorem levelsFitl0_eq (call : CallF) (n : Nat) : ∀ (m : Nat) (a b c : Int) (d : ByteArray) (e f : LL) (σ : Sto),
  aloop (fun st K => aexec C levelsFitH call n (cp [0,0,1,0,1] levelsFitC) 0 st K) levelsFitk0 m (levelsFitt0 a b c d e f σ) (kblk 0 (kseq (fun st' => aexec C levelsFitH call n (codeR (codeR levelsFitC)) 0 st' (kfin C levelsFitD)) (kfin C levelsFitD))) = levelsFitl0 call n m a b c d e f σ
 | 0, a, b, c, d, e, f, σ => rfl
 | m + 1, a, b, c, d, e, f, σ => by
  rw [aloop, levelsFits0_eq]
  simp only [levelsFitl0_eq call n m, levelsFitl1_eq]
  rfl
theorem levelsFit_eqF (call : CallF) (n : Nat) (a b : Int) (c : ByteArray) (d e : LL) (σ : Sto) : afun C levelsFitD call n [(V.agg [V.int .i64 a, V.int .i64 b, V.str c, V.slice 3 92 d, V.slice 5 44 e], false)] σ =
  levelsFitF call (fun f g h i j k σ => aloop (fun st K => aexec C levelsFitH call n (cp [0,0,1,0,1] levelsFitC) 0 st K) levelsFitk0 n (levelsFitt0 f g h i j k σ) (kblk 0 (kseq (fun st' => aexec C levelsFitH call n (codeR (codeR levelsFitC)) 0 st' (kfin C levelsFitD)) (kfin C levelsFitD)))) a b c d e σ := by kernel_rfl
theorem levelsFit_eq (call : CallF) (n : Nat) (a b : Int) (c : ByteArray) (d e : LL) (σ : Sto) : afun C levelsFitD call n [(V.agg [V.int .i64 a, V.int .i64 b, V.str c, V.slice 3 92 d, V.slice 5 44 e], false)] σ = levelsFit call n a b c d e σ := by
 rw [levelsFit_eqF]
 simp only [levelsFitl0_eq]
 rfl
theorem levelsFit_lim {n : Nat} {a : Int} {b : Int} {c : ByteArray} {e : LL} {f : LL} {b0 : Bool} {σ : Sto} {r : Res} (h : levelsFit (lim C) n a b c e f σ = some r) : lim C 39 [(V.agg [V.int .i64 a, V.int .i64 b, V.str c, V.slice 3 92 e, V.slice 5 44 f], b0)] σ = some r :=
 lim_of (d := levelsFitD) (by kernel_rfl) (by kernel_rfl) n (show afun C levelsFitD (lim C) n [(V.agg [V.int .i64 a, V.int .i64 b, V.str c, V.slice 3 92 e, V.slice 5 44 f], false)] σ = some r from (levelsFit_eq (lim C) n a b c e f σ).trans h)
noncomputable def twritek0 : List Nat := [0, 3, 33, 34, 35]
noncomputable def twritek1 : List Nat := [0, 46, 47, 48]
noncomputable def twrites1 (call : CallF) (rec1 : Nat → LL → Int → Int → RR) (c : Nat) (b : LL) (d a : Int) (σ : Sto) : Option Res :=
 bif (decide (a < d)) then
 (grd (decide (0 ≤ a) && decide (a < b.length))).bind fun _ =>
 callK call 73 [(V.ptr 63 c 0, false), ((V.int .u8 (32 : Int)), false)] σ 1 (fun h e =>
 callK call 43 [(V.ptr 63 c 0, false), (V.agg [(getD (getD b a.toNat []) 0 V.any), (getD (getD b a.toNat []) 1 V.any), (getD (getD b a.toNat []) 2 V.any), (getD (getD b a.toNat []) 3 V.any), (getD (getD b a.toNat []) 4 V.any)], false)] e 0 (fun i f =>
 rec1 c b d (wrap .i64 (a + (1 : Int))) f) pnK) pnK
 else
 callK call 73 [(V.ptr 63 c 0, false), ((V.int .u8 (41 : Int)), false)] σ 1 (fun j g =>
 some (.ret [], g)) pnK
noncomputable def twritel1 (call : CallF) (n : Nat) : Nat → Nat → LL → Int → Int → RR
 | 0 => fun _ _ _ _ _ => none
 | m + 1 => twrites1 call (twritel1 call n m)
noncomputable def twritet1 (a : Nat) (b : LL) (c d : Int) (σ : Sto) : St := ⟨[.val (V.ptr 63 a 0) false] ++ dd 45 ([.val (V.slice 5 44 b) false, .val (V.int .i64 c) false, .val (V.int .i64 d) false] ++ dd 11 []), nn 60 [], σ⟩
noncomputable def twrites0 (call : CallF) (L1 : Nat → LL → Int → Int → RR) (rec0 : Nat → LL → Int → Int → Int → Int → ByteArray → LL → LL → RR) (c : Nat) (b : LL) (e a f g : Int) (h : ByteArray) (i d : LL) (σ : Sto) : Option Res :=
 bif (decide (a < e)) then
 (grd (decide (0 ≤ a) && decide (a < b.length))).bind fun _ =>
 callK call 72 [(V.agg [(getD (getD b a.toNat []) 0 V.any), (getD (getD b a.toNat []) 1 V.any), (getD (getD b a.toNat []) 2 V.any)], false)] σ 1 (fun j k =>
 (V.asStr (getD j 0 cellD).1).bind fun s4 =>
 (grd (strRoom (ByteArray.mk #[32]) s4)).bind fun _ =>
 callK call 21 [(V.ptr 63 c 0, false), (V.str ((ByteArray.mk #[32]) ++ s4), false)] k 2 (fun p o =>
 rec0 c b e (wrap .i64 (a + (1 : Int))) f g h i d o) pnK) pnK
 else
 L1 c d (d.length : Int) (0 : Int) σ
noncomputable def twritel0 (call : CallF) (n : Nat) : Nat → Nat → LL → Int → Int → Int → Int → ByteArray → LL → LL → RR
 | 0 => fun _ _ _ _ _ _ _ _ _ _ => none
 | m + 1 => twrites0 call (twritel1 call n n) (twritel0 call n m)
noncomputable def twritet0 (a : Nat) (b : LL) (c d e f : Int) (g : ByteArray) (h i : LL) (σ : Sto) : St := ⟨[.val (V.ptr 63 a 0) false, .dead, .dead, .lptr 3 0] ++ dd 29 ([.val (V.slice 3 92 b) false, .val (V.int .i64 c) false, .val (V.int .i64 d) false] ++ dd 24 []), [[], [], [], [(V.int .i64 e, false), (V.int .i64 f, false), (V.str g, false), (V.slice 3 92 h, false), (V.slice 5 44 i, false)]] ++ nn 56 [], σ⟩
noncomputable def twriteF (call : CallF) (L0 : Nat → LL → Int → Int → Int → Int → ByteArray → LL → LL → RR) (c : Nat) (a e : Int) (d : ByteArray) (b f : LL) (σ : Sto) : Option Res :=
 bif (a == (0 : Int)) then
 callK call 24 [(V.int .i64 e, false)] σ 1 (fun h i =>
 (V.asStr (getD h 0 cellD).1).bind fun s4 =>
 (grd (strRoom (ByteArray.mk #[35]) s4)).bind fun _ =>
 callK call 21 [(V.ptr 63 c 0, false), (V.str ((ByteArray.mk #[35]) ++ s4), false)] i 2 (fun o j =>
 some (.ret [], j)) pnK) pnK
 else
 (grd (decide (0 ≤ a) && decide (a < 7))).bind fun _ =>
 (memGet [] (V.eptr 7 [V.str ⟨#[]⟩, V.str ⟨#[115, 111, 114, 116]⟩, V.str ⟨#[99, 111, 110, 115, 116]⟩, V.str ⟨#[97, 112, 112]⟩, V.str ⟨#[108, 97, 109]⟩, V.str ⟨#[112, 105]⟩, V.str ⟨#[108, 101, 116]⟩] (0 + Int.toNat a * 1)) false 1).bind fun m8 =>
 (V.asStr m8).bind fun s9 =>
 (grd (strRoom (ByteArray.mk #[40]) s9)).bind fun _ =>
 callK call 21 [(V.ptr 63 c 0, false), (V.str ((ByteArray.mk #[40]) ++ s9), false)] σ 2 (fun p g =>
 bif (a == (2 : Int)) then
 (grd (strRoom (ByteArray.mk #[32]) d)).bind fun _ =>
 callK call 21 [(V.ptr 63 c 0, false), (V.str ((ByteArray.mk #[32]) ++ d), false)] g 2 (fun q k =>
 L0 c b (b.length : Int) (0 : Int) a e d b f k) pnK
 else
 L0 c b (b.length : Int) (0 : Int) a e d b f g) pnK
noncomputable def twrite (call : CallF) (n a : Nat) (b c : Int) (d : ByteArray) (e f : LL) (σ : Sto) : Option Res := twriteF call (twritel0 call n n) a b c d e f σ
theorem twrites1_eq (call : CallF) (n : Nat) (F1 : St → Option Res) (a : Nat) (b : LL) (c d : Int) (σ : Sto) :
  aexec C twriteH call n (cp [0,0,1,0,1,1,1,1,1] twriteC) 0 (twritet1 a b c d σ) (kloop twritek1 F1 (kblk 2 (kseq (fun st' => aexec C twriteH call n (cp [1,1,1,1,1,1] twriteC) 0 st' (kfin C twriteD)) (kfin C twriteD)))) =
  twrites1 call (fun a b c d σ => F1 (twritet1 a b c d σ)) a b c d σ := by kernel_rfl
theorem twritel1_eq (call : CallF) (n : Nat) : ∀ (m a : Nat) (b : LL) (c d : Int) (σ : Sto),
  aloop (fun st K => aexec C twriteH call n (cp [0,0,1,0,1,1,1,1,1] twriteC) 0 st K) twritek1 m (twritet1 a b c d σ) (kblk 2 (kseq (fun st' => aexec C twriteH call n (cp [1,1,1,1,1,1] twriteC) 0 st' (kfin C twriteD)) (kfin C twriteD))) = twritel1 call n m a b c d σ
 | 0, a, b, c, d, σ => rfl
 | m + 1, a, b, c, d, σ => by
  rw [aloop, twrites1_eq]
  simp only [twritel1_eq call n m]
  rfl
theorem twrites0_eq (call : CallF) (n : Nat) (F0 : St → Option Res) (a : Nat) (b : LL) (c d e f : Int) (g : ByteArray) (h i : LL) (σ : Sto) :
  aexec C twriteH call n (cp [0,0,1,0,1,1,1,1] twriteC) 0 (twritet0 a b c d e f g h i σ) (kloop twritek0 F0 (kblk 0 (kseq (fun st' => aexec C twriteH call n (cp [1,1,1,1,1] twriteC) 0 st' (kfin C twriteD)) (kfin C twriteD)))) =
  twrites0 call (fun a j k o σ => aloop (fun st K => aexec C twriteH call n (cp [0,0,1,0,1,1,1,1,1] twriteC) 0 st K) twritek1 n (twritet1 a j k o σ) (kblk 2 (kseq (fun st' => aexec C twriteH call n (cp [1,1,1,1,1,1] twriteC) 0 st' (kfin C twriteD)) (kfin C twriteD)))) (fun a b c d e f g h i σ => F0 (twritet0 a b c d e f g h i σ)) a b c d e f g h i σ := by kernel_rfl
theorem twritel0_eq (call : CallF) (n : Nat) : ∀ (m a : Nat) (b : LL) (c d e f : Int) (g : ByteArray) (h i : LL) (σ : Sto),
  aloop (fun st K => aexec C twriteH call n (cp [0,0,1,0,1,1,1,1] twriteC) 0 st K) twritek0 m (twritet0 a b c d e f g h i σ) (kblk 0 (kseq (fun st' => aexec C twriteH call n (cp [1,1,1,1,1] twriteC) 0 st' (kfin C twriteD)) (kfin C twriteD))) = twritel0 call n m a b c d e f g h i σ
 | 0, a, b, c, d, e, f, g, h, i, σ => rfl
 | m + 1, a, b, c, d, e, f, g, h, i, σ => by
  rw [aloop, twrites0_eq]
  simp only [twritel0_eq call n m, twritel1_eq]
  rfl
theorem twrite_eqF (call : CallF) (n a : Nat) (b c : Int) (d : ByteArray) (e f : LL) (σ : Sto) : afun C twriteD call n [(V.ptr 63 a 0, false), (V.agg [V.int .i64 b, V.int .i64 c, V.str d, V.slice 3 92 e, V.slice 5 44 f], false)] σ =
  twriteF call (fun a g h i j k o p q σ => aloop (fun st K => aexec C twriteH call n (cp [0,0,1,0,1,1,1,1] twriteC) 0 st K) twritek0 n (twritet0 a g h i j k o p q σ) (kblk 0 (kseq (fun st' => aexec C twriteH call n (cp [1,1,1,1,1] twriteC) 0 st' (kfin C twriteD)) (kfin C twriteD)))) a b c d e f σ := by kernel_rfl
theorem twrite_eq (call : CallF) (n a : Nat) (b c : Int) (d : ByteArray) (e f : LL) (σ : Sto) : afun C twriteD call n [(V.ptr 63 a 0, false), (V.agg [V.int .i64 b, V.int .i64 c, V.str d, V.slice 3 92 e, V.slice 5 44 f], false)] σ = twrite call n a b c d e f σ := by
 rw [twrite_eqF]
 simp only [twritel0_eq]
 rfl
theorem twrite_lim {n : Nat} {a : Nat} {b : Int} {c : Int} {e : ByteArray} {f : LL} {g : LL} {b0 b1 : Bool} {σ : Sto} {r : Res} (h : twrite (lim C) n a b c e f g σ = some r) : lim C 43 [(V.ptr 63 a 0, b0), (V.agg [V.int .i64 b, V.int .i64 c, V.str e, V.slice 3 92 f, V.slice 5 44 g], b1)] σ = some r :=
 lim_of (d := twriteD) (by kernel_rfl) (by kernel_rfl) n (show afun C twriteD (lim C) n [(V.ptr 63 a 0, false), (V.agg [V.int .i64 b, V.int .i64 c, V.str e, V.slice 3 92 f, V.slice 5 44 g], false)] σ = some r from (twrite_eq (lim C) n a b c e f g σ).trans h)
noncomputable def alikek0 : List Nat := [2, 3, 4, 7]
noncomputable def alikek1 : List Nat := [2, 3, 4, 9]
noncomputable def alikes1 (call : CallF) (rec1 : Bool → Int → Int → Int → ByteArray → LL → LL → Int → Int → ByteArray → LL → LL → RR) (d : Bool) (a f g : Int) (h : ByteArray) (i b : LL) (j k : Int) (o : ByteArray) (p c : LL) (σ : Sto) : Option Res :=
 bif (decide (a < (b.length : Int))) then
 (grd (decide (0 ≤ a) && decide (a < b.length))).bind fun _ =>
 (grd (decide (0 ≤ a) && decide (a < c.length))).bind fun _ =>
 callK call 44 [(V.agg [(getD (getD b a.toNat []) 0 V.any), (getD (getD b a.toNat []) 1 V.any), (getD (getD b a.toNat []) 2 V.any), (getD (getD b a.toNat []) 3 V.any), (getD (getD b a.toNat []) 4 V.any)], false), (V.agg [(getD (getD c a.toNat []) 0 V.any), (getD (getD c a.toNat []) 1 V.any), (getD (getD c a.toNat []) 2 V.any), (getD (getD c a.toNat []) 3 V.any), (getD (getD c a.toNat []) 4 V.any)], false), (V.bool d, false)] σ 1 (fun q e =>
 (V.asBool (getD q 0 cellD).1).bind fun b4 =>
 bif (!b4) then
 some (.ret [(V.bool false, false)], e)
 else
 rec1 d (wrap .i64 (a + (1 : Int))) f g h i b j k o p c e) pnK
 else
 some (.ret [(V.bool true, false)], σ)
noncomputable def alikel1 (call : CallF) (n : Nat) : Nat → Bool → Int → Int → Int → ByteArray → LL → LL → Int → Int → ByteArray → LL → LL → RR
 | 0 => fun _ _ _ _ _ _ _ _ _ _ _ _ _ => none
 | m + 1 => alikes1 call (alikel1 call n m)
noncomputable def aliket1 (a : Bool) (b c d : Int) (e : ByteArray) (f g : LL) (h i : Int) (j : ByteArray) (k o : LL) (σ : Sto) : St := ⟨[.dead, .dead, .val (V.bool a) false, .lptr 3 0, .lptr 4 0] ++ dd 4 ([.val (V.int .i64 b) false] ++ dd 95 []), [[], [], [], [(V.int .i64 c, false), (V.int .i64 d, false), (V.str e, false), (V.slice 3 92 f, false), (V.slice 5 44 g, false)], [(V.int .i64 h, false), (V.int .i64 i, false), (V.str j, false), (V.slice 3 92 k, false), (V.slice 5 44 o, false)]] ++ nn 100 [], σ⟩
noncomputable def alikes0 (call : CallF) (L1 rec0 : Bool → Int → Int → Int → ByteArray → LL → LL → Int → Int → ByteArray → LL → LL → RR) (d : Bool) (a f g : Int) (h : ByteArray) (b i : LL) (j k : Int) (o : ByteArray) (c p : LL) (σ : Sto) : Option Res :=
 bif (decide (a < (b.length : Int))) then
 (grd (decide (0 ≤ a) && decide (a < b.length))).bind fun _ =>
 (grd (decide (0 ≤ a) && decide (a < c.length))).bind fun _ =>
 callK call 74 [(V.agg [(getD (getD b a.toNat []) 0 V.any), (getD (getD b a.toNat []) 1 V.any), (getD (getD b a.toNat []) 2 V.any)], false), (V.agg [(getD (getD c a.toNat []) 0 V.any), (getD (getD c a.toNat []) 1 V.any), (getD (getD c a.toNat []) 2 V.any)], false)] σ 1 (fun q e =>
 (V.asBool (getD q 0 cellD).1).bind fun b4 =>
 bif (!b4) then
 bif d then
 (grd (decide (0 ≤ a) && decide (a < b.length))).bind fun _ =>
 (grd (decide (0 ≤ a) && decide (a < c.length))).bind fun _ =>
 callK call 75 [(V.agg [(getD (getD b a.toNat []) 0 V.any), (getD (getD b a.toNat []) 1 V.any), (getD (getD b a.toNat []) 2 V.any)], false), (V.agg [(getD (getD c a.toNat []) 0 V.any), (getD (getD c a.toNat []) 1 V.any), (getD (getD c a.toNat []) 2 V.any)], false)] e 1 (fun s r =>
 (V.asBool (getD s 0 cellD).1).bind fun b8 =>
 bif (!b8) then
 some (.ret [(V.bool false, false)], r)
 else
 rec0 d (wrap .i64 (a + (1 : Int))) f g h b i j k o c p r) pnK
 else
 (V.asBool (getD q 0 cellD).1).bind fun b9 =>
 bif (!b9) then
 some (.ret [(V.bool false, false)], e)
 else
 rec0 d (wrap .i64 (a + (1 : Int))) f g h b i j k o c p e
 else
 (V.asBool (getD q 0 cellD).1).bind fun b10 =>
 bif (!b10) then
 some (.ret [(V.bool false, false)], e)
 else
 rec0 d (wrap .i64 (a + (1 : Int))) f g h b i j k o c p e) pnK
 else
 L1 d (0 : Int) f g h b i j k o c p σ
noncomputable def alikel0 (call : CallF) (n : Nat) : Nat → Bool → Int → Int → Int → ByteArray → LL → LL → Int → Int → ByteArray → LL → LL → RR
 | 0 => fun _ _ _ _ _ _ _ _ _ _ _ _ _ => none
 | m + 1 => alikes0 call (alikel1 call n n) (alikel0 call n m)
noncomputable def aliket0 (a : Bool) (b c d : Int) (e : ByteArray) (f g : LL) (h i : Int) (j : ByteArray) (k o : LL) (σ : Sto) : St := ⟨[.dead, .dead, .val (V.bool a) false, .lptr 3 0, .lptr 4 0, .dead, .dead, .val (V.int .i64 b) false] ++ dd 97 [], [[], [], [], [(V.int .i64 c, false), (V.int .i64 d, false), (V.str e, false), (V.slice 3 92 f, false), (V.slice 5 44 g, false)], [(V.int .i64 h, false), (V.int .i64 i, false), (V.str j, false), (V.slice 3 92 k, false), (V.slice 5 44 o, false)]] ++ nn 100 [], σ⟩
noncomputable def alikeF (call : CallF) (L0 : Bool → Int → Int → Int → ByteArray → LL → LL → Int → Int → ByteArray → LL → LL → RR) (a b : Int) (c : ByteArray) (d e : LL) (f g : Int) (h : ByteArray) (i j : LL) (k : Bool) (σ : Sto) : Option Res :=
 bif (a != f) then
 some (.ret [(V.bool false, false)], σ)
 else
 bif (b != g) then
 some (.ret [(V.bool false, false)], σ)
 else
 bif (!(c.toList == h.toList)) then
 some (.ret [(V.bool false, false)], σ)
 else
 bif ((d.length : Int) != (i.length : Int)) then
 some (.ret [(V.bool false, false)], σ)
 else
 bif ((e.length : Int) != (j.length : Int)) then
 some (.ret [(V.bool false, false)], σ)
 else
 L0 k (0 : Int) a b c d e f g h i j σ
noncomputable def alike (call : CallF) (n : Nat) (a b : Int) (c : ByteArray) (d e : LL) (f g : Int) (h : ByteArray) (i j : LL) (k : Bool) (σ : Sto) : Option Res := alikeF call (alikel0 call n n) a b c d e f g h i j k σ
theorem alikes1_eq (call : CallF) (n : Nat) (F1 : St → Option Res) (a : Bool) (b c d : Int) (e : ByteArray) (f g : LL) (h i : Int) (j : ByteArray) (k o : LL) (σ : Sto) :
  aexec C alikeH call n (cp [0,0,1,0,1,1,1] alikeC) 0 (aliket1 a b c d e f g h i j k o σ) (kloop alikek1 F1 (kblk 2 (kseq (fun st' => aexec C alikeH call n (cp [1,1,1,1] alikeC) 0 st' (kfin C alikeD)) (kfin C alikeD)))) =
  alikes1 call (fun a b c d e f g h i j k o σ => F1 (aliket1 a b c d e f g h i j k o σ)) a b c d e f g h i j k o σ := by kernel_rfl
theorem alikel1_eq (call : CallF) (n : Nat) : ∀ (m : Nat) (a : Bool) (b c d : Int) (e : ByteArray) (f g : LL) (h i : Int) (j : ByteArray) (k o : LL) (σ : Sto),
  aloop (fun st K => aexec C alikeH call n (cp [0,0,1,0,1,1,1] alikeC) 0 st K) alikek1 m (aliket1 a b c d e f g h i j k o σ) (kblk 2 (kseq (fun st' => aexec C alikeH call n (cp [1,1,1,1] alikeC) 0 st' (kfin C alikeD)) (kfin C alikeD))) = alikel1 call n m a b c d e f g h i j k o σ
 | 0, a, b, c, d, e, f, g, h, i, j, k, o, σ => rfl
 | m + 1, a, b, c, d, e, f, g, h, i, j, k, o, σ => by
  rw [aloop, alikes1_eq]
  simp only [alikel1_eq call n m]
  rfl
theorem alikes0_eq (call : CallF) (n : Nat) (F0 : St → Option Res) (a : Bool) (o b c : Int) (d : ByteArray) (e f : LL) (g h : Int) (i : ByteArray) (j k : LL) (σ : Sto) :
  aexec C alikeH call n (cp [0,0,1,0,1,1] alikeC) 0 (aliket0 a o b c d e f g h i j k σ) (kloop alikek0 F0 (kblk 0 (kseq (fun st' => aexec C alikeH call n (cp [1,1,1] alikeC) 0 st' (kfin C alikeD)) (kfin C alikeD)))) =
  alikes0 call (fun a p b c d e f g h i j k σ => aloop (fun st K => aexec C alikeH call n (cp [0,0,1,0,1,1,1] alikeC) 0 st K) alikek1 n (aliket1 a p b c d e f g h i j k σ) (kblk 2 (kseq (fun st' => aexec C alikeH call n (cp [1,1,1,1] alikeC) 0 st' (kfin C alikeD)) (kfin C alikeD)))) (fun a o b c d e f g h i j k σ => F0 (aliket0 a o b c d e f g h i j k σ)) a o b c d e f g h i j k σ := by kernel_rfl
theorem alikel0_eq (call : CallF) (n : Nat) : ∀ (m : Nat) (a : Bool) (b c d : Int) (e : ByteArray) (f g : LL) (h i : Int) (j : ByteArray) (k o : LL) (σ : Sto),
  aloop (fun st K => aexec C alikeH call n (cp [0,0,1,0,1,1] alikeC) 0 st K) alikek0 m (aliket0 a b c d e f g h i j k o σ) (kblk 0 (kseq (fun st' => aexec C alikeH call n (cp [1,1,1] alikeC) 0 st' (kfin C alikeD)) (kfin C alikeD))) = alikel0 call n m a b c d e f g h i j k o σ
 | 0, a, b, c, d, e, f, g, h, i, j, k, o, σ => rfl
 | m + 1, a, b, c, d, e, f, g, h, i, j, k, o, σ => by
  rw [aloop, alikes0_eq]
  simp only [alikel0_eq call n m, alikel1_eq]
  rfl
theorem alike_eqF (call : CallF) (n : Nat) (b c : Int) (d : ByteArray) (e f : LL) (g h : Int) (i : ByteArray) (j k : LL) (a : Bool) (σ : Sto) : afun C alikeD call n [(V.agg [V.int .i64 b, V.int .i64 c, V.str d, V.slice 3 92 e, V.slice 5 44 f], false), (V.agg [V.int .i64 g, V.int .i64 h, V.str i, V.slice 3 92 j, V.slice 5 44 k], false), (V.bool a, false)] σ =
  alikeF call (fun a o p q r s t u v w x y σ => aloop (fun st K => aexec C alikeH call n (cp [0,0,1,0,1,1] alikeC) 0 st K) alikek0 n (aliket0 a o p q r s t u v w x y σ) (kblk 0 (kseq (fun st' => aexec C alikeH call n (cp [1,1,1] alikeC) 0 st' (kfin C alikeD)) (kfin C alikeD)))) b c d e f g h i j k a σ := by kernel_rfl
theorem alike_eq (call : CallF) (n : Nat) (a b : Int) (c : ByteArray) (d e : LL) (f g : Int) (h : ByteArray) (i j : LL) (k : Bool) (σ : Sto) : afun C alikeD call n [(V.agg [V.int .i64 a, V.int .i64 b, V.str c, V.slice 3 92 d, V.slice 5 44 e], false), (V.agg [V.int .i64 f, V.int .i64 g, V.str h, V.slice 3 92 i, V.slice 5 44 j], false), (V.bool k, false)] σ = alike call n a b c d e f g h i j k σ := by
 rw [alike_eqF]
 simp only [alikel0_eq]
 rfl
theorem alike_lim {n : Nat} {a : Int} {b : Int} {c : ByteArray} {e : LL} {f : LL} {g : Int} {i : Int} {j : ByteArray} {k : LL} {o : LL} {p : Bool} {b0 b1 b2 : Bool} {σ : Sto} {r : Res} (h : alike (lim C) n a b c e f g i j k o p σ = some r) : lim C 44 [(V.agg [V.int .i64 a, V.int .i64 b, V.str c, V.slice 3 92 e, V.slice 5 44 f], b0), (V.agg [V.int .i64 g, V.int .i64 i, V.str j, V.slice 3 92 k, V.slice 5 44 o], b1), (V.bool p, b2)] σ = some r :=
 lim_of (d := alikeD) (by kernel_rfl) (by kernel_rfl) n (show afun C alikeD (lim C) n [(V.agg [V.int .i64 a, V.int .i64 b, V.str c, V.slice 3 92 e, V.slice 5 44 f], false), (V.agg [V.int .i64 g, V.int .i64 i, V.str j, V.slice 3 92 k, V.slice 5 44 o], false), (V.bool p, false)] σ = some r from (alike_eq (lim C) n a b c e f g i j k o p σ).trans h)
noncomputable def rprintF (call : CallF) (b : Int) (c : ByteArray) (a : LL) (σ : Sto) : Option Res :=
 bif (b == (0 : Int)) then
 some (.ret [(V.str ⟨#[48]⟩, false)], σ)
 else
 bif (b == (1 : Int)) then
 (grd (decide (0 ≤ (0 : Int)) && decide ((0 : Int) < a.length))).bind fun _ =>
 callK call 45 [((V.agg [(getD (getD a (Int.toNat (0 : Int)) []) 0 V.any), (getD (getD a (Int.toNat (0 : Int)) []) 1 V.any), (getD (getD a (Int.toNat (0 : Int)) []) 2 V.any)]), false)] σ 1 (fun d e =>
 (V.asStr (getD d 0 cellD).1).bind fun s4 =>
 (grd (strRoom (ByteArray.mk #[40, 115, 32]) s4)).bind fun _ =>
 (grd (strRoom ((ByteArray.mk #[40, 115, 32]) ++ s4) (ByteArray.mk #[41]))).bind fun _ =>
 some (.ret [(V.str (((ByteArray.mk #[40, 115, 32]) ++ s4) ++ (ByteArray.mk #[41])), false)], e)) pnK
 else
 bif (b == (4 : Int)) then
 some (.ret [(V.str c, false)], σ)
 else
 bif (b == (3 : Int)) then
 (grd (strRoom (ByteArray.mk #[40]) (ByteArray.mk #[105, 109, 97, 120]))).bind fun _ =>
 (grd (strRoom ((ByteArray.mk #[40]) ++ (ByteArray.mk #[105, 109, 97, 120])) (ByteArray.mk #[32]))).bind fun _ =>
 (grd (decide (0 ≤ (0 : Int)) && decide ((0 : Int) < a.length))).bind fun _ =>
 (grd (decide (0 ≤ (1 : Int)) && decide ((1 : Int) < a.length))).bind fun _ =>
 callK call 45 [((V.agg [(getD (getD a (Int.toNat (0 : Int)) []) 0 V.any), (getD (getD a (Int.toNat (0 : Int)) []) 1 V.any), (getD (getD a (Int.toNat (0 : Int)) []) 2 V.any)]), false)] σ 1 (fun f g =>
 (V.asStr (getD f 0 cellD).1).bind fun s8 =>
 (grd (strRoom (((ByteArray.mk #[40]) ++ (ByteArray.mk #[105, 109, 97, 120])) ++ (ByteArray.mk #[32])) s8)).bind fun _ =>
 (grd (strRoom ((((ByteArray.mk #[40]) ++ (ByteArray.mk #[105, 109, 97, 120])) ++ (ByteArray.mk #[32])) ++ s8) (ByteArray.mk #[32]))).bind fun _ =>
 callK call 45 [((V.agg [(getD (getD a (Int.toNat (1 : Int)) []) 0 V.any), (getD (getD a (Int.toNat (1 : Int)) []) 1 V.any), (getD (getD a (Int.toNat (1 : Int)) []) 2 V.any)]), false)] g 1 (fun h i =>
 (V.asStr (getD h 0 cellD).1).bind fun s12 =>
 (grd (strRoom (((((ByteArray.mk #[40]) ++ (ByteArray.mk #[105, 109, 97, 120])) ++ (ByteArray.mk #[32])) ++ s8) ++ (ByteArray.mk #[32])) s12)).bind fun _ =>
 (grd (strRoom ((((((ByteArray.mk #[40]) ++ (ByteArray.mk #[105, 109, 97, 120])) ++ (ByteArray.mk #[32])) ++ s8) ++ (ByteArray.mk #[32])) ++ s12) (ByteArray.mk #[41]))).bind fun _ =>
 some (.ret [(V.str (((((((ByteArray.mk #[40]) ++ (ByteArray.mk #[105, 109, 97, 120])) ++ (ByteArray.mk #[32])) ++ s8) ++ (ByteArray.mk #[32])) ++ s12) ++ (ByteArray.mk #[41])), false)], i)) pnK) pnK
 else
 (grd (strRoom (ByteArray.mk #[40]) (ByteArray.mk #[109, 97, 120]))).bind fun _ =>
 (grd (strRoom ((ByteArray.mk #[40]) ++ (ByteArray.mk #[109, 97, 120])) (ByteArray.mk #[32]))).bind fun _ =>
 (grd (decide (0 ≤ (0 : Int)) && decide ((0 : Int) < a.length))).bind fun _ =>
 (grd (decide (0 ≤ (1 : Int)) && decide ((1 : Int) < a.length))).bind fun _ =>
 callK call 45 [((V.agg [(getD (getD a (Int.toNat (0 : Int)) []) 0 V.any), (getD (getD a (Int.toNat (0 : Int)) []) 1 V.any), (getD (getD a (Int.toNat (0 : Int)) []) 2 V.any)]), false)] σ 1 (fun j k =>
 (V.asStr (getD j 0 cellD).1).bind fun s16 =>
 (grd (strRoom (((ByteArray.mk #[40]) ++ (ByteArray.mk #[109, 97, 120])) ++ (ByteArray.mk #[32])) s16)).bind fun _ =>
 (grd (strRoom ((((ByteArray.mk #[40]) ++ (ByteArray.mk #[109, 97, 120])) ++ (ByteArray.mk #[32])) ++ s16) (ByteArray.mk #[32]))).bind fun _ =>
 callK call 45 [((V.agg [(getD (getD a (Int.toNat (1 : Int)) []) 0 V.any), (getD (getD a (Int.toNat (1 : Int)) []) 1 V.any), (getD (getD a (Int.toNat (1 : Int)) []) 2 V.any)]), false)] k 1 (fun o p =>
 (V.asStr (getD o 0 cellD).1).bind fun s20 =>
 (grd (strRoom (((((ByteArray.mk #[40]) ++ (ByteArray.mk #[109, 97, 120])) ++ (ByteArray.mk #[32])) ++ s16) ++ (ByteArray.mk #[32])) s20)).bind fun _ =>
 (grd (strRoom ((((((ByteArray.mk #[40]) ++ (ByteArray.mk #[109, 97, 120])) ++ (ByteArray.mk #[32])) ++ s16) ++ (ByteArray.mk #[32])) ++ s20) (ByteArray.mk #[41]))).bind fun _ =>
 some (.ret [(V.str (((((((ByteArray.mk #[40]) ++ (ByteArray.mk #[109, 97, 120])) ++ (ByteArray.mk #[32])) ++ s16) ++ (ByteArray.mk #[32])) ++ s20) ++ (ByteArray.mk #[41])), false)], p)) pnK) pnK
noncomputable def rprint (call : CallF) (n : Nat) (a : Int) (b : ByteArray) (c : LL) (σ : Sto) : Option Res := rprintF call a b c σ
theorem rprint_eqF (call : CallF) (n : Nat) (a : Int) (b : ByteArray) (c : LL) (σ : Sto) : afun C rprintD call n [(V.agg [V.int .i64 a, V.str b, V.slice 3 92 c], false)] σ =
  rprintF call a b c σ := by kernel_rfl
theorem rprint_eq (call : CallF) (n : Nat) (a : Int) (b : ByteArray) (c : LL) (σ : Sto) : afun C rprintD call n [(V.agg [V.int .i64 a, V.str b, V.slice 3 92 c], false)] σ = rprint call n a b c σ := rprint_eqF call n a b c σ
theorem rprint_lim {n : Nat} {a : Int} {b : ByteArray} {c : LL} {b0 : Bool} {σ : Sto} {r : Res} (h : rprint (lim C) n a b c σ = some r) : lim C 45 [(V.agg [V.int .i64 a, V.str b, V.slice 3 92 c], b0)] σ = some r :=
 lim_of (d := rprintD) (by kernel_rfl) (by kernel_rfl) n (show afun C rprintD (lim C) n [(V.agg [V.int .i64 a, V.str b, V.slice 3 92 c], false)] σ = some r from (rprint_eq (lim C) n a b c σ).trans h)
noncomputable def srunk0 : List Nat := [0, 1, 2]
noncomputable def sruns0 (call : CallF) (rec0 : Nat → Int → V → RR) (b : Nat) (a : Int) (c : V) (σ : Sto) : Option Res :=
 (memGet σ (V.ptr 55 b 0) false 1).bind fun m1 =>
 (V.asStr m1).bind fun s2 =>
 bif (decide (a < (s2.size : Int))) then
 (memGet σ (V.ptr 55 b 0) false 1).bind fun m3 =>
 (V.asStr m3).bind fun s4 =>
 (grd (decide (0 ≤ a) && decide (a < s4.size))).bind fun _ =>
 (V.asFunc c).bind fun fn5 =>
 callK call fn5.1 (fn5.2.1.map (fun v => (v, false)) ++ [(V.int .u8 (byteAt s4 a.toNat), false)] ++ fn5.2.2.map fun v => (v, false)) σ 1 (fun e d =>
 (V.asBool (getD e 0 cellD).1).bind fun b9 =>
 bif b9 then
 rec0 b (wrap .i64 (a + (1 : Int))) c d
 else
 some (.ret [(V.int .i64 a, false)], d)) pnK
 else
 some (.ret [(V.int .i64 a, false)], σ)
noncomputable def srunl0 (call : CallF) (n : Nat) : Nat → Nat → Int → V → RR
 | 0 => fun _ _ _ _ => none
 | m + 1 => sruns0 call (srunl0 call n m)
noncomputable def srunt0 (a : Nat) (b : Int) (c : V) (σ : Sto) : St := ⟨[.val (V.ptr 55 a 0) false, .val (V.int .i64 b) false, .val c false] ++ dd 24 [], nn 27 [], σ⟩
noncomputable def srunF (call : CallF) (L0 : Nat → Int → V → RR) (a : Nat) (b : Int) (c : V) (σ : Sto) : Option Res :=
 L0 a b c σ
noncomputable def srun (call : CallF) (n a : Nat) (b : Int) (c : V) (σ : Sto) : Option Res := srunF call (srunl0 call n n) a b c σ
theorem sruns0_eq (call : CallF) (n : Nat) (F0 : St → Option Res) (a : Nat) (b : Int) (c : V) (σ : Sto) :
  aexec C srunH call n (cp [0,0,0,1] srunC) 0 (srunt0 a b c σ) (kloop srunk0 F0 (kblk 0 (kseq (fun st' => aexec C srunH call n (codeR (codeR srunC)) 0 st' (kfin C srunD)) (kfin C srunD)))) =
  sruns0 call (fun a b c σ => F0 (srunt0 a b c σ)) a b c σ := by kernel_rfl
theorem srunl0_eq (call : CallF) (n : Nat) : ∀ (m a : Nat) (b : Int) (c : V) (σ : Sto),
  aloop (fun st K => aexec C srunH call n (cp [0,0,0,1] srunC) 0 st K) srunk0 m (srunt0 a b c σ) (kblk 0 (kseq (fun st' => aexec C srunH call n (codeR (codeR srunC)) 0 st' (kfin C srunD)) (kfin C srunD))) = srunl0 call n m a b c σ
 | 0, a, b, c, σ => rfl
 | m + 1, a, b, c, σ => by
  rw [aloop, sruns0_eq]
  simp only [srunl0_eq call n m]
  rfl
theorem srun_eqF (call : CallF) (n a : Nat) (c : Int) (b : V) (σ : Sto) : afun C srunD call n [(V.ptr 55 a 0, false), (V.int .i64 c, false), (b, false)] σ =
  srunF call (fun a d b σ => aloop (fun st K => aexec C srunH call n (cp [0,0,0,1] srunC) 0 st K) srunk0 n (srunt0 a d b σ) (kblk 0 (kseq (fun st' => aexec C srunH call n (codeR (codeR srunC)) 0 st' (kfin C srunD)) (kfin C srunD)))) a c b σ := by kernel_rfl
theorem srun_eq (call : CallF) (n a : Nat) (b : Int) (c : V) (σ : Sto) : afun C srunD call n [(V.ptr 55 a 0, false), (V.int .i64 b, false), (c, false)] σ = srun call n a b c σ := by
 rw [srun_eqF]
 simp only [srunl0_eq]
 rfl
theorem srun_lim {n : Nat} {a : Nat} {b : Int} {c : V} {b0 b1 b2 : Bool} {σ : Sto} {r : Res} (h : srun (lim C) n a b c σ = some r) : lim C 46 [(V.ptr 55 a 0, b0), (V.int .i64 b, b1), (c, b2)] σ = some r :=
 lim_of (d := srunD) (by kernel_rfl) (by kernel_rfl) n (show afun C srunD (lim C) n [(V.ptr 55 a 0, false), (V.int .i64 b, false), (c, false)] σ = some r from (srun_eq (lim C) n a b c σ).trans h)
noncomputable def sblankF (call : CallF) (a : Int) (σ : Sto) : Option Res :=
 bif (a == (32 : Int)) then
 some (.ret [(V.bool true, false)], σ)
 else
 bif (a == (9 : Int)) then
 some (.ret [(V.bool true, false)], σ)
 else
 some (.ret [((V.bool (a == (10 : Int))), false)], σ)
noncomputable def sblank (call : CallF) (n : Nat) (a : Int) (σ : Sto) : Option Res := sblankF call a σ
theorem sblank_eqF (call : CallF) (n : Nat) (a : Int) (σ : Sto) : afun C sblankD call n [(V.int .u8 a, false)] σ =
  sblankF call a σ := by kernel_rfl
theorem sblank_eq (call : CallF) (n : Nat) (a : Int) (σ : Sto) : afun C sblankD call n [(V.int .u8 a, false)] σ = sblank call n a σ := sblank_eqF call n a σ
theorem sblank_lim {n : Nat} {a : Int} {b0 : Bool} {σ : Sto} {r : Res} (h : sblank (lim C) n a σ = some r) : lim C 47 [(V.int .u8 a, b0)] σ = some r :=
 lim_of (d := sblankD) (by kernel_rfl) (by kernel_rfl) n (show afun C sblankD (lim C) n [(V.int .u8 a, false)] σ = some r from (sblank_eq (lim C) n a σ).trans h)
noncomputable def letterF (call : CallF) (a : Int) (σ : Sto) : Option Res :=
 bif (decide ((IntKind.wrap .u8 ((BitVec.ofInt (IntKind.bits .u8) a ||| BitVec.ofInt (IntKind.bits .u8) (32 : Int)).toNat : Int)) ≥ (97 : Int))) then
 bif (decide ((IntKind.wrap .u8 ((BitVec.ofInt (IntKind.bits .u8) a ||| BitVec.ofInt (IntKind.bits .u8) (32 : Int)).toNat : Int)) ≤ (122 : Int))) then
 some (.ret [(V.bool true, false)], σ)
 else
 some (.ret [((V.bool (a == (95 : Int))), false)], σ)
 else
 some (.ret [((V.bool (a == (95 : Int))), false)], σ)
noncomputable def letter (call : CallF) (n : Nat) (a : Int) (σ : Sto) : Option Res := letterF call a σ
theorem letter_eqF (call : CallF) (n : Nat) (a : Int) (σ : Sto) : afun C letterD call n [(V.int .u8 a, false)] σ =
  letterF call a σ := by kernel_rfl
theorem letter_eq (call : CallF) (n : Nat) (a : Int) (σ : Sto) : afun C letterD call n [(V.int .u8 a, false)] σ = letter call n a σ := letter_eqF call n a σ
theorem letter_lim {n : Nat} {a : Int} {b0 : Bool} {σ : Sto} {r : Res} (h : letter (lim C) n a σ = some r) : lim C 48 [(V.int .u8 a, b0)] σ = some r :=
 lim_of (d := letterD) (by kernel_rfl) (by kernel_rfl) n (show afun C letterD (lim C) n [(V.int .u8 a, false)] σ = some r from (letter_eq (lim C) n a σ).trans h)
noncomputable def snmbF (call : CallF) (a : Int) (σ : Sto) : Option Res :=
 callK call 48 [(V.int .u8 a, false)] σ 1 (fun d c =>
 (V.asBool (getD d 0 cellD).1).bind fun b4 =>
 bif b4 then
 some (.ret [(V.bool true, false)], c)
 else
 callK call 50 [(V.int .u8 a, false)] c 1 (fun e b =>
 (V.asBool (getD e 0 cellD).1).bind fun b8 =>
 bif b8 then
 some (.ret [(V.bool true, false)], b)
 else
 bif (a == (46 : Int)) then
 some (.ret [(V.bool true, false)], b)
 else
 some (.ret [((V.bool (a == (39 : Int))), false)], b)) pnK) pnK
noncomputable def snmb (call : CallF) (n : Nat) (a : Int) (σ : Sto) : Option Res := snmbF call a σ
theorem snmb_eqF (call : CallF) (n : Nat) (a : Int) (σ : Sto) : afun C snmbD call n [(V.int .u8 a, false)] σ =
  snmbF call a σ := by kernel_rfl
theorem snmb_eq (call : CallF) (n : Nat) (a : Int) (σ : Sto) : afun C snmbD call n [(V.int .u8 a, false)] σ = snmb call n a σ := snmb_eqF call n a σ
theorem snmb_lim {n : Nat} {a : Int} {b0 : Bool} {σ : Sto} {r : Res} (h : snmb (lim C) n a σ = some r) : lim C 49 [(V.int .u8 a, b0)] σ = some r :=
 lim_of (d := snmbD) (by kernel_rfl) (by kernel_rfl) n (show afun C snmbD (lim C) n [(V.int .u8 a, false)] σ = some r from (snmb_eq (lim C) n a σ).trans h)
noncomputable def digitF (call : CallF) (a : Int) (σ : Sto) : Option Res :=
 bif (decide (a ≥ (48 : Int))) then
 some (.ret [((V.bool (decide (a ≤ (57 : Int)))), false)], σ)
 else
 some (.ret [(V.bool false, false)], σ)
noncomputable def digit (call : CallF) (n : Nat) (a : Int) (σ : Sto) : Option Res := digitF call a σ
theorem digit_eqF (call : CallF) (n : Nat) (a : Int) (σ : Sto) : afun C digitD call n [(V.int .u8 a, false)] σ =
  digitF call a σ := by kernel_rfl
theorem digit_eq (call : CallF) (n : Nat) (a : Int) (σ : Sto) : afun C digitD call n [(V.int .u8 a, false)] σ = digit call n a σ := digit_eqF call n a σ
theorem digit_lim {n : Nat} {a : Int} {b0 : Bool} {σ : Sto} {r : Res} (h : digit (lim C) n a σ = some r) : lim C 50 [(V.int .u8 a, b0)] σ = some r :=
 lim_of (d := digitD) (by kernel_rfl) (by kernel_rfl) n (show afun C digitD (lim C) n [(V.int .u8 a, false)] σ = some r from (digit_eq (lim C) n a σ).trans h)
end Go.Ab.Mk
end
section
set_option maxRecDepth 100000
namespace Go.Ab.Mk
open Go.Proofs Go.Ab
open List (getD)
open IntKind (wrap)
noncomputable def cutPrefixF (call : CallF) (b c : ByteArray) (σ : Sto) : Option Res :=
 callK call 81 [(V.str b, false), (V.str c, false)] σ 2 (fun a d =>
 some (.ret [((getD a 0 cellD).1, false), ((getD a 1 cellD).1, false)], d)) pnK
noncomputable def cutPrefix (call : CallF) (n : Nat) (a b : ByteArray) (σ : Sto) : Option Res := cutPrefixF call a b σ
theorem cutPrefix_eqF (call : CallF) (n : Nat) (a b : ByteArray) (σ : Sto) : afun C cutPrefixD call n [(V.str a, false), (V.str b, false)] σ =
  cutPrefixF call a b σ := by kernel_rfl
theorem cutPrefix_eq (call : CallF) (n : Nat) (a b : ByteArray) (σ : Sto) : afun C cutPrefixD call n [(V.str a, false), (V.str b, false)] σ = cutPrefix call n a b σ := cutPrefix_eqF call n a b σ
theorem cutPrefix_lim {n : Nat} {a : ByteArray} {b : ByteArray} {b0 b1 : Bool} {σ : Sto} {r : Res} (h : cutPrefix (lim C) n a b σ = some r) : lim C 53 [(V.str a, b0), (V.str b, b1)] σ = some r :=
 lim_of (d := cutPrefixD) (by kernel_rfl) (by kernel_rfl) n (show afun C cutPrefixD (lim C) n [(V.str a, false), (V.str b, false)] σ = some r from (cutPrefix_eq (lim C) n a b σ).trans h)
noncomputable def indexk0 : List Nat := [0, 1, 7, 8]
noncomputable def indexs0 (call : CallF) (rec0 : LL → ByteArray → Int → Int → RR) (b : LL) (c : ByteArray) (d a : Int) (σ : Sto) : Option Res :=
 bif (decide (a < d)) then
 (grd (decide (0 ≤ a) && decide (a < b.length))).bind fun _ =>
 (V.asStr (getD (getD b a.toNat []) 0 V.any)).bind fun s1 =>
 bif (c.toList == s1.toList) then
 some (.ret [(V.int .i64 a, false)], σ)
 else
 rec0 b c d (wrap .i64 (a + (1 : Int))) σ
 else
 some (.ret [((V.int .i64 (-1 : Int)), false)], σ)
noncomputable def indexl0 (call : CallF) (n : Nat) : Nat → LL → ByteArray → Int → Int → RR
 | 0 => fun _ _ _ _ _ => none
 | m + 1 => indexs0 call (indexl0 call n m)
noncomputable def indext0 (a : LL) (b : ByteArray) (c d : Int) (σ : Sto) : St := ⟨[.val (V.slice 1 9 a) false, .val (V.str b) false] ++ dd 5 ([.val (V.int .i64 c) false, .val (V.int .i64 d) false] ++ dd 10 []), nn 19 [], σ⟩
noncomputable def indexF (call : CallF) (L0 : LL → ByteArray → Int → Int → RR) (a : LL) (b : ByteArray) (σ : Sto) : Option Res :=
 L0 a b (a.length : Int) (0 : Int) σ
noncomputable def index (call : CallF) (n : Nat) (a : LL) (b : ByteArray) (σ : Sto) : Option Res := indexF call (indexl0 call n n) a b σ
theorem indexs0_eq (call : CallF) (n : Nat) (F0 : St → Option Res) (a : LL) (b : ByteArray) (c d : Int) (σ : Sto) :
  aexec C indexH call n (cp [0,0,1,0,1] indexC) 0 (indext0 a b c d σ) (kloop indexk0 F0 (kblk 0 (kseq (fun st' => aexec C indexH call n (codeR (codeR indexC)) 0 st' (kfin C indexD)) (kfin C indexD)))) =
  indexs0 call (fun a b c d σ => F0 (indext0 a b c d σ)) a b c d σ := by kernel_rfl
theorem indexl0_eq (call : CallF) (n : Nat) : ∀ (m : Nat) (a : LL) (b : ByteArray) (c d : Int) (σ : Sto),
  aloop (fun st K => aexec C indexH call n (cp [0,0,1,0,1] indexC) 0 st K) indexk0 m (indext0 a b c d σ) (kblk 0 (kseq (fun st' => aexec C indexH call n (codeR (codeR indexC)) 0 st' (kfin C indexD)) (kfin C indexD))) = indexl0 call n m a b c d σ
 | 0, a, b, c, d, σ => rfl
 | m + 1, a, b, c, d, σ => by
  rw [aloop, indexs0_eq]
  simp only [indexl0_eq call n m]
  rfl
theorem index_eqF (call : CallF) (n : Nat) (a : LL) (b : ByteArray) (σ : Sto) : afun C indexD call n [(V.slice 1 9 a, false), (V.str b, false)] σ =
  indexF call (fun a b c d σ => aloop (fun st K => aexec C indexH call n (cp [0,0,1,0,1] indexC) 0 st K) indexk0 n (indext0 a b c d σ) (kblk 0 (kseq (fun st' => aexec C indexH call n (codeR (codeR indexC)) 0 st' (kfin C indexD)) (kfin C indexD)))) a b σ := by kernel_rfl
theorem index_eq (call : CallF) (n : Nat) (a : LL) (b : ByteArray) (σ : Sto) : afun C indexD call n [(V.slice 1 9 a, false), (V.str b, false)] σ = index call n a b σ := by
 rw [index_eqF]
 simp only [indexl0_eq]
 rfl
theorem index_lim {n : Nat} {a : LL} {b : ByteArray} {b0 b1 : Bool} {σ : Sto} {r : Res} (h : index (lim C) n a b σ = some r) : lim C 54 [(V.slice 1 9 a, b0), (V.str b, b1)] σ = some r :=
 lim_of (d := indexD) (by kernel_rfl) (by kernel_rfl) n (show afun C indexD (lim C) n [(V.slice 1 9 a, false), (V.str b, false)] σ = some r from (index_eq (lim C) n a b σ).trans h)
noncomputable def slevelF (call : CallF) (a : Nat) (σ : Sto) : Option Res :=
 (memGet σ (V.ptr 55 a 2) false 1).bind fun m1 =>
 (V.asStr m1).bind fun s2 =>
 bif (s2.toList == (ByteArray.mk #[48]).toList) then
 callK call 29 [(V.ptr 55 a 0, false)] σ 0 (fun a5 k =>
 some (.ret [((V.agg [(V.int .i64 (0 : Int)), V.str ⟨#[]⟩, V.slice 3 92 []]), false)], k)) pnK
 else
 (V.asStr m1).bind fun s6 =>
 bif (s6.toList == (ByteArray.mk #[40]).toList) then
 callK call 29 [(V.ptr 55 a 0, false)] σ 0 (fun a6 b =>
 (memGet b (V.ptr 55 a 2) false 1).bind fun m10 =>
 (V.asStr m10).bind fun s11 =>
 bif (s11.toList == (ByteArray.mk #[115]).toList) then
 callK call 29 [(V.ptr 55 a 0, false)] b 0 (fun a7 o =>
 callK call 55 [(V.ptr 55 a 0, false)] o 1 (fun c p =>
 (grd ((V.fits (getD c 0 cellD).1 true 3 && true))).bind fun _ =>
 (grd (room (0 + 1))).bind fun _ =>
 callK call 30 [(V.ptr 55 a 0, false), (V.str ⟨#[41]⟩, false)] p 0 (fun a8 q =>
 some (.ret [((V.agg [(V.int .i64 (1 : Int)), V.str ⟨#[]⟩, V.slice 3 92 [[V.cell (getD c 0 cellD).1 0, V.cell (getD c 0 cellD).1 1, V.cell (getD c 0 cellD).1 2]]]), false)], q)) pnK) pnK) pnK
 else
 (V.asStr m10).bind fun s21 =>
 bif (s21.toList == (ByteArray.mk #[109, 97, 120]).toList) then
 callK call 29 [(V.ptr 55 a 0, false)] b 0 (fun a9 r =>
 callK call 55 [(V.ptr 55 a 0, false)] r 1 (fun d s =>
 (grd ((V.fits (getD d 0 cellD).1 true 3 && true))).bind fun _ =>
 (grd (room (0 + 1))).bind fun _ =>
 callK call 55 [(V.ptr 55 a 0, false)] s 1 (fun e t =>
 (grd ((V.fits (getD e 0 cellD).1 true 3 && true))).bind fun _ =>
 (grd (room (1 + 1))).bind fun _ =>
 callK call 30 [(V.ptr 55 a 0, false), (V.str ⟨#[41]⟩, false)] t 0 (fun c0 u =>
 some (.ret [((V.agg [(V.int .i64 (2 : Int)), V.str ⟨#[]⟩, V.slice 3 92 [[V.cell (getD d 0 cellD).1 0, V.cell (getD d 0 cellD).1 1, V.cell (getD d 0 cellD).1 2], [V.cell (getD e 0 cellD).1 0, V.cell (getD e 0 cellD).1 1, V.cell (getD e 0 cellD).1 2]]]), false)], u)) pnK) pnK) pnK) pnK
 else
 (V.asStr m10).bind fun s34 =>
 bif (s34.toList == (ByteArray.mk #[105, 109, 97, 120]).toList) then
 callK call 29 [(V.ptr 55 a 0, false)] b 0 (fun c1 v =>
 callK call 55 [(V.ptr 55 a 0, false)] v 1 (fun f w =>
 (grd ((V.fits (getD f 0 cellD).1 true 3 && true))).bind fun _ =>
 (grd (room (0 + 1))).bind fun _ =>
 callK call 55 [(V.ptr 55 a 0, false)] w 1 (fun g x =>
 (grd ((V.fits (getD g 0 cellD).1 true 3 && true))).bind fun _ =>
 (grd (room (1 + 1))).bind fun _ =>
 callK call 30 [(V.ptr 55 a 0, false), (V.str ⟨#[41]⟩, false)] x 0 (fun c2 y =>
 some (.ret [((V.agg [(V.int .i64 (3 : Int)), V.str ⟨#[]⟩, V.slice 3 92 [[V.cell (getD f 0 cellD).1 0, V.cell (getD f 0 cellD).1 1, V.cell (getD f 0 cellD).1 2], [V.cell (getD g 0 cellD).1 0, V.cell (getD g 0 cellD).1 1, V.cell (getD g 0 cellD).1 2]]]), false)], y)) pnK) pnK) pnK) pnK
 else
 callK call 32 [(V.ptr 55 a 0, false)] b 0 (fun c3 z =>
 callK call 29 [(V.ptr 55 a 0, false)] z 0 (fun c4 a0 =>
 callK call 55 [(V.ptr 55 a 0, false)] a0 1 (fun h a1 =>
 (grd ((V.fits (getD h 0 cellD).1 true 3 && true))).bind fun _ =>
 (grd (room (0 + 1))).bind fun _ =>
 callK call 55 [(V.ptr 55 a 0, false)] a1 1 (fun i a2 =>
 (grd ((V.fits (getD i 0 cellD).1 true 3 && true))).bind fun _ =>
 (grd (room (1 + 1))).bind fun _ =>
 callK call 30 [(V.ptr 55 a 0, false), (V.str ⟨#[41]⟩, false)] a2 0 (fun c5 a3 =>
 some (.ret [((V.agg [(V.int .i64 (0 : Int)), V.str ⟨#[]⟩, V.slice 3 92 [[V.cell (getD h 0 cellD).1 0, V.cell (getD h 0 cellD).1 1, V.cell (getD h 0 cellD).1 2], [V.cell (getD i 0 cellD).1 0, V.cell (getD i 0 cellD).1 1, V.cell (getD i 0 cellD).1 2]]]), false)], a3)) pnK) pnK) pnK) pnK) pnK) pnK
 else
 callK call 33 [(V.ptr 55 a 0, false)] σ 1 (fun j a4 =>
 (grd ((V.fits (getD j 0 cellD).1 false 1 && true))).bind fun _ =>
 some (.ret [((V.agg [(V.int .i64 (4 : Int)), (getD j 0 cellD).1, V.slice 3 92 []]), false)], a4)) pnK
noncomputable def slevel (call : CallF) (n a : Nat) (σ : Sto) : Option Res := slevelF call a σ
theorem slevel_eqF (call : CallF) (n a : Nat) (σ : Sto) : afun C slevelD call n [(V.ptr 55 a 0, false)] σ =
  slevelF call a σ := by kernel_rfl
theorem slevel_eq (call : CallF) (n a : Nat) (σ : Sto) : afun C slevelD call n [(V.ptr 55 a 0, false)] σ = slevel call n a σ := slevel_eqF call n a σ
theorem slevel_lim {n : Nat} {a : Nat} {b0 : Bool} {σ : Sto} {r : Res} (h : slevel (lim C) n a σ = some r) : lim C 55 [(V.ptr 55 a 0, b0)] σ = some r :=
 lim_of (d := slevelD) (by kernel_rfl) (by kernel_rfl) n (show afun C slevelD (lim C) n [(V.ptr 55 a 0, false)] σ = some r from (slevel_eq (lim C) n a σ).trans h)
noncomputable def nameByteF (call : CallF) (a : Int) (b : Bool) (σ : Sto) : Option Res :=
 bif (decide (a ≥ (97 : Int))) then
 bif (decide (a ≤ (122 : Int))) then
 some (.ret [(V.bool true, false)], σ)
 else
 bif (decide (a ≥ (65 : Int))) then
 bif (decide (a ≤ (90 : Int))) then
 some (.ret [(V.bool true, false)], σ)
 else
 bif (a == (95 : Int)) then
 some (.ret [(V.bool true, false)], σ)
 else
 bif (!b) then
 bif (decide (a ≥ (48 : Int))) then
 bif (decide (a ≤ (57 : Int))) then
 some (.ret [(V.bool true, false)], σ)
 else
 bif (a == (46 : Int)) then
 some (.ret [(V.bool true, false)], σ)
 else
 some (.ret [((V.bool (a == (39 : Int))), false)], σ)
 else
 bif (a == (46 : Int)) then
 some (.ret [(V.bool true, false)], σ)
 else
 some (.ret [((V.bool (a == (39 : Int))), false)], σ)
 else
 some (.ret [(V.bool false, false)], σ)
 else
 bif (a == (95 : Int)) then
 some (.ret [(V.bool true, false)], σ)
 else
 bif (!b) then
 bif (decide (a ≥ (48 : Int))) then
 bif (decide (a ≤ (57 : Int))) then
 some (.ret [(V.bool true, false)], σ)
 else
 bif (a == (46 : Int)) then
 some (.ret [(V.bool true, false)], σ)
 else
 some (.ret [((V.bool (a == (39 : Int))), false)], σ)
 else
 bif (a == (46 : Int)) then
 some (.ret [(V.bool true, false)], σ)
 else
 some (.ret [((V.bool (a == (39 : Int))), false)], σ)
 else
 some (.ret [(V.bool false, false)], σ)
 else
 bif (decide (a ≥ (65 : Int))) then
 bif (decide (a ≤ (90 : Int))) then
 some (.ret [(V.bool true, false)], σ)
 else
 bif (a == (95 : Int)) then
 some (.ret [(V.bool true, false)], σ)
 else
 bif (!b) then
 bif (decide (a ≥ (48 : Int))) then
 bif (decide (a ≤ (57 : Int))) then
 some (.ret [(V.bool true, false)], σ)
 else
 bif (a == (46 : Int)) then
 some (.ret [(V.bool true, false)], σ)
 else
 some (.ret [((V.bool (a == (39 : Int))), false)], σ)
 else
 bif (a == (46 : Int)) then
 some (.ret [(V.bool true, false)], σ)
 else
 some (.ret [((V.bool (a == (39 : Int))), false)], σ)
 else
 some (.ret [(V.bool false, false)], σ)
 else
 bif (a == (95 : Int)) then
 some (.ret [(V.bool true, false)], σ)
 else
 bif (!b) then
 bif (decide (a ≥ (48 : Int))) then
 bif (decide (a ≤ (57 : Int))) then
 some (.ret [(V.bool true, false)], σ)
 else
 bif (a == (46 : Int)) then
 some (.ret [(V.bool true, false)], σ)
 else
 some (.ret [((V.bool (a == (39 : Int))), false)], σ)
 else
 bif (a == (46 : Int)) then
 some (.ret [(V.bool true, false)], σ)
 else
 some (.ret [((V.bool (a == (39 : Int))), false)], σ)
 else
 some (.ret [(V.bool false, false)], σ)
noncomputable def nameByte (call : CallF) (n : Nat) (a : Int) (b : Bool) (σ : Sto) : Option Res := nameByteF call a b σ
theorem nameByte_eqF (call : CallF) (n : Nat) (a : Int) (b : Bool) (σ : Sto) : afun C nameByteD call n [(V.int .u8 a, false), (V.bool b, false)] σ =
  nameByteF call a b σ := by kernel_rfl
theorem nameByte_eq (call : CallF) (n : Nat) (a : Int) (b : Bool) (σ : Sto) : afun C nameByteD call n [(V.int .u8 a, false), (V.bool b, false)] σ = nameByte call n a b σ := nameByte_eqF call n a b σ
theorem nameByte_lim {n : Nat} {a : Int} {b : Bool} {b0 b1 : Bool} {σ : Sto} {r : Res} (h : nameByte (lim C) n a b σ = some r) : lim C 56 [(V.int .u8 a, b0), (V.bool b, b1)] σ = some r :=
 lim_of (d := nameByteD) (by kernel_rfl) (by kernel_rfl) n (show afun C nameByteD (lim C) n [(V.int .u8 a, false), (V.bool b, false)] σ = some r from (nameByte_eq (lim C) n a b σ).trans h)
noncomputable def rtakeF (call : CallF) (b : Nat) (f : ByteArray) (σ : Sto) : Option Res :=
 callK call 36 [(V.ptr 79 b 0, false)] σ 3 (fun a c =>
 (V.asBool (getD a 2 cellD).1).bind fun b4 =>
 bif (!b4) then
 callK call 58 [(V.ptr 79 b 0, false), ((getD a 1 cellD).1, false)] c 0 (fun g d =>
 (memGet d (V.ptr 79 b 2) false 1).bind fun m8 =>
 (V.asInt m8 .i64).bind fun i9 =>
 bif (i9 == (0 : Int)) then
 (V.asStr (getD a 0 cellD).1).bind fun s10 =>
 (V.asInt (getD a 1 cellD).1 .i64).bind fun i11 =>
 (memSet d (V.ptr 79 b 1) [((V.int .i64 (wrap .i64 (i11 + (s10.size : Int)))), false)]).bind fun m12 =>
 some (.ret [], m12)
 else
 some (.ret [], d)) pnK
 else
 (V.asStr (getD a 0 cellD).1).bind fun s13 =>
 bif (!(s13.toList == f.toList)) then
 callK call 58 [(V.ptr 79 b 0, false), ((getD a 1 cellD).1, false)] c 0 (fun h e =>
 (memGet e (V.ptr 79 b 2) false 1).bind fun m17 =>
 (V.asInt m17 .i64).bind fun i18 =>
 bif (i18 == (0 : Int)) then
 (V.asStr (getD a 0 cellD).1).bind fun s19 =>
 (V.asInt (getD a 1 cellD).1 .i64).bind fun i20 =>
 (memSet e (V.ptr 79 b 1) [((V.int .i64 (wrap .i64 (i20 + (s19.size : Int)))), false)]).bind fun m21 =>
 some (.ret [], m21)
 else
 some (.ret [], e)) pnK
 else
 (memGet c (V.ptr 79 b 2) false 1).bind fun m22 =>
 (V.asInt m22 .i64).bind fun i23 =>
 bif (i23 == (0 : Int)) then
 (V.asStr (getD a 0 cellD).1).bind fun s24 =>
 (V.asInt (getD a 1 cellD).1 .i64).bind fun i25 =>
 (memSet c (V.ptr 79 b 1) [((V.int .i64 (wrap .i64 (i25 + (s24.size : Int)))), false)]).bind fun m26 =>
 some (.ret [], m26)
 else
 some (.ret [], c)) pnK
noncomputable def rtake (call : CallF) (n a : Nat) (b : ByteArray) (σ : Sto) : Option Res := rtakeF call a b σ
theorem rtake_eqF (call : CallF) (n a : Nat) (b : ByteArray) (σ : Sto) : afun C rtakeD call n [(V.ptr 79 a 0, false), (V.str b, false)] σ =
  rtakeF call a b σ := by kernel_rfl
theorem rtake_eq (call : CallF) (n a : Nat) (b : ByteArray) (σ : Sto) : afun C rtakeD call n [(V.ptr 79 a 0, false), (V.str b, false)] σ = rtake call n a b σ := rtake_eqF call n a b σ
theorem rtake_lim {n : Nat} {a : Nat} {b : ByteArray} {b0 b1 : Bool} {σ : Sto} {r : Res} (h : rtake (lim C) n a b σ = some r) : lim C 57 [(V.ptr 79 a 0, b0), (V.str b, b1)] σ = some r :=
 lim_of (d := rtakeD) (by kernel_rfl) (by kernel_rfl) n (show afun C rtakeD (lim C) n [(V.ptr 79 a 0, false), (V.str b, false)] σ = some r from (rtake_eq (lim C) n a b σ).trans h)
noncomputable def rfailF (call : CallF) (a : Nat) (b : Int) (σ : Sto) : Option Res :=
 (memGet σ (V.ptr 79 a 2) false 1).bind fun m1 =>
 (V.asInt m1 .i64).bind fun i2 =>
 bif (i2 == (0 : Int)) then
 (memSet σ (V.ptr 79 a 2) [((V.int .i64 (1 : Int)), false), (V.int .i64 b, false)]).bind fun m3 =>
 some (.ret [], m3)
 else
 some (.ret [], σ)
noncomputable def rfail (call : CallF) (n a : Nat) (b : Int) (σ : Sto) : Option Res := rfailF call a b σ
theorem rfail_eqF (call : CallF) (n a : Nat) (b : Int) (σ : Sto) : afun C rfailD call n [(V.ptr 79 a 0, false), (V.int .i64 b, false)] σ =
  rfailF call a b σ := by kernel_rfl
theorem rfail_eq (call : CallF) (n a : Nat) (b : Int) (σ : Sto) : afun C rfailD call n [(V.ptr 79 a 0, false), (V.int .i64 b, false)] σ = rfail call n a b σ := rfail_eqF call n a b σ
theorem rfail_lim {n : Nat} {a : Nat} {b : Int} {b0 b1 : Bool} {σ : Sto} {r : Res} (h : rfail (lim C) n a b σ = some r) : lim C 58 [(V.ptr 79 a 0, b0), (V.int .i64 b, b1)] σ = some r :=
 lim_of (d := rfailD) (by kernel_rfl) (by kernel_rfl) n (show afun C rfailD (lim C) n [(V.ptr 79 a 0, false), (V.int .i64 b, false)] σ = some r from (rfail_eq (lim C) n a b σ).trans h)
noncomputable def rnextF (call : CallF) (b : Nat) (σ : Sto) : Option Res :=
 callK call 36 [(V.ptr 79 b 0, false)] σ 3 (fun a c =>
 (V.asBool (getD a 2 cellD).1).bind fun b4 =>
 bif (!b4) then
 callK call 58 [(V.ptr 79 b 0, false), ((getD a 1 cellD).1, false)] c 0 (fun f d =>
 (memGet d (V.ptr 79 b 2) false 1).bind fun m8 =>
 (V.asInt m8 .i64).bind fun i9 =>
 bif (i9 != (0 : Int)) then
 some (.ret [(V.str ⟨#[]⟩, false)], d)
 else
 (V.asStr (getD a 0 cellD).1).bind fun s10 =>
 (V.asInt (getD a 1 cellD).1 .i64).bind fun i11 =>
 (memSet d (V.ptr 79 b 1) [((V.int .i64 (wrap .i64 (i11 + (s10.size : Int)))), false)]).bind fun m12 =>
 some (.ret [((getD a 0 cellD).1, false)], m12)) pnK
 else
 (V.asStr (getD a 0 cellD).1).bind fun s13 =>
 bif (s13.toList == (ByteArray.mk #[]).toList) then
 callK call 58 [(V.ptr 79 b 0, false), ((getD a 1 cellD).1, false)] c 0 (fun g e =>
 (memGet e (V.ptr 79 b 2) false 1).bind fun m17 =>
 (V.asInt m17 .i64).bind fun i18 =>
 bif (i18 != (0 : Int)) then
 some (.ret [(V.str ⟨#[]⟩, false)], e)
 else
 (V.asStr (getD a 0 cellD).1).bind fun s19 =>
 (V.asInt (getD a 1 cellD).1 .i64).bind fun i20 =>
 (memSet e (V.ptr 79 b 1) [((V.int .i64 (wrap .i64 (i20 + (s19.size : Int)))), false)]).bind fun m21 =>
 some (.ret [((getD a 0 cellD).1, false)], m21)) pnK
 else
 (memGet c (V.ptr 79 b 2) false 1).bind fun m22 =>
 (V.asInt m22 .i64).bind fun i23 =>
 bif (i23 != (0 : Int)) then
 some (.ret [(V.str ⟨#[]⟩, false)], c)
 else
 (V.asStr (getD a 0 cellD).1).bind fun s24 =>
 (V.asInt (getD a 1 cellD).1 .i64).bind fun i25 =>
 (memSet c (V.ptr 79 b 1) [((V.int .i64 (wrap .i64 (i25 + (s24.size : Int)))), false)]).bind fun m26 =>
 some (.ret [((getD a 0 cellD).1, false)], m26)) pnK
noncomputable def rnext (call : CallF) (n a : Nat) (σ : Sto) : Option Res := rnextF call a σ
theorem rnext_eqF (call : CallF) (n a : Nat) (σ : Sto) : afun C rnextD call n [(V.ptr 79 a 0, false)] σ =
  rnextF call a σ := by kernel_rfl
theorem rnext_eq (call : CallF) (n a : Nat) (σ : Sto) : afun C rnextD call n [(V.ptr 79 a 0, false)] σ = rnext call n a σ := rnext_eqF call n a σ
theorem rnext_lim {n : Nat} {a : Nat} {b0 : Bool} {σ : Sto} {r : Res} (h : rnext (lim C) n a σ = some r) : lim C 59 [(V.ptr 79 a 0, b0)] σ = some r :=
 lim_of (d := rnextD) (by kernel_rfl) (by kernel_rfl) n (show afun C rnextD (lim C) n [(V.ptr 79 a 0, false)] σ = some r from (rnext_eq (lim C) n a σ).trans h)
noncomputable def rnameF (call : CallF) (b : Nat) (σ : Sto) : Option Res :=
 callK call 36 [(V.ptr 79 b 0, false)] σ 3 (fun a f =>
 callK call 82 [((getD a 0 cellD).1, false)] f 1 (fun g c =>
 (V.asBool (getD a 2 cellD).1).bind fun b7 =>
 bif (!b7) then
 callK call 58 [(V.ptr 79 b 0, false), ((getD a 1 cellD).1, false)] c 0 (fun h d =>
 (memGet d (V.ptr 79 b 2) false 1).bind fun m11 =>
 (V.asInt m11 .i64).bind fun i12 =>
 bif (i12 != (0 : Int)) then
 some (.ret [(V.str ⟨#[]⟩, false)], d)
 else
 (V.asStr (getD a 0 cellD).1).bind fun s13 =>
 (V.asInt (getD a 1 cellD).1 .i64).bind fun i14 =>
 (memSet d (V.ptr 79 b 1) [((V.int .i64 (wrap .i64 (i14 + (s13.size : Int)))), false)]).bind fun m15 =>
 some (.ret [((getD a 0 cellD).1, false)], m15)) pnK
 else
 (V.asBool (getD g 0 cellD).1).bind fun b16 =>
 bif (!b16) then
 callK call 58 [(V.ptr 79 b 0, false), ((getD a 1 cellD).1, false)] c 0 (fun i e =>
 (memGet e (V.ptr 79 b 2) false 1).bind fun m20 =>
 (V.asInt m20 .i64).bind fun i21 =>
 bif (i21 != (0 : Int)) then
 some (.ret [(V.str ⟨#[]⟩, false)], e)
 else
 (V.asStr (getD a 0 cellD).1).bind fun s22 =>
 (V.asInt (getD a 1 cellD).1 .i64).bind fun i23 =>
 (memSet e (V.ptr 79 b 1) [((V.int .i64 (wrap .i64 (i23 + (s22.size : Int)))), false)]).bind fun m24 =>
 some (.ret [((getD a 0 cellD).1, false)], m24)) pnK
 else
 (memGet c (V.ptr 79 b 2) false 1).bind fun m25 =>
 (V.asInt m25 .i64).bind fun i26 =>
 bif (i26 != (0 : Int)) then
 some (.ret [(V.str ⟨#[]⟩, false)], c)
 else
 (V.asStr (getD a 0 cellD).1).bind fun s27 =>
 (V.asInt (getD a 1 cellD).1 .i64).bind fun i28 =>
 (memSet c (V.ptr 79 b 1) [((V.int .i64 (wrap .i64 (i28 + (s27.size : Int)))), false)]).bind fun m29 =>
 some (.ret [((getD a 0 cellD).1, false)], m29)) pnK) pnK
noncomputable def rname (call : CallF) (n a : Nat) (σ : Sto) : Option Res := rnameF call a σ
theorem rname_eqF (call : CallF) (n a : Nat) (σ : Sto) : afun C rnameD call n [(V.ptr 79 a 0, false)] σ =
  rnameF call a σ := by kernel_rfl
theorem rname_eq (call : CallF) (n a : Nat) (σ : Sto) : afun C rnameD call n [(V.ptr 79 a 0, false)] σ = rname call n a σ := rname_eqF call n a σ
theorem rname_lim {n : Nat} {a : Nat} {b0 : Bool} {σ : Sto} {r : Res} (h : rname (lim C) n a σ = some r) : lim C 60 [(V.ptr 79 a 0, b0)] σ = some r :=
 lim_of (d := rnameD) (by kernel_rfl) (by kernel_rfl) n (show afun C rnameD (lim C) n [(V.ptr 79 a 0, false)] σ = some r from (rname_eq (lim C) n a σ).trans h)
noncomputable def rpeekF (call : CallF) (b : Nat) (σ : Sto) : Option Res :=
 callK call 36 [(V.ptr 79 b 0, false)] σ 3 (fun c a =>
 (V.asBool (getD c 2 cellD).1).bind fun b4 =>
 bif (!b4) then
 some (.ret [(V.str ⟨#[]⟩, false)], a)
 else
 (memGet a (V.ptr 79 b 2) false 1).bind fun m5 =>
 (V.asInt m5 .i64).bind fun i6 =>
 bif (i6 != (0 : Int)) then
 some (.ret [(V.str ⟨#[]⟩, false)], a)
 else
 some (.ret [((getD c 0 cellD).1, false)], a)) pnK
noncomputable def rpeek (call : CallF) (n a : Nat) (σ : Sto) : Option Res := rpeekF call a σ
theorem rpeek_eqF (call : CallF) (n a : Nat) (σ : Sto) : afun C rpeekD call n [(V.ptr 79 a 0, false)] σ =
  rpeekF call a σ := by kernel_rfl
theorem rpeek_eq (call : CallF) (n a : Nat) (σ : Sto) : afun C rpeekD call n [(V.ptr 79 a 0, false)] σ = rpeek call n a σ := rpeek_eqF call n a σ
theorem rpeek_lim {n : Nat} {a : Nat} {b0 : Bool} {σ : Sto} {r : Res} (h : rpeek (lim C) n a σ = some r) : lim C 61 [(V.ptr 79 a 0, b0)] σ = some r :=
 lim_of (d := rpeekD) (by kernel_rfl) (by kernel_rfl) n (show afun C rpeekD (lim C) n [(V.ptr 79 a 0, false)] σ = some r from (rpeek_eq (lim C) n a σ).trans h)
noncomputable def numberk0 : List Nat := [0, 3, 4]
noncomputable def numbers0 (call : CallF) (rec0 : ByteArray → Int → Int → RR) (b : ByteArray) (c a : Int) (σ : Sto) : Option Res :=
 bif (decide (a < (b.size : Int))) then
 (grd (decide (0 ≤ a) && decide (a < b.size))).bind fun _ =>
 rec0 b (wrap .i64 ((wrap .i64 ((10 : Int) * c)) + (wrap .i64 ((IntKind.wrap .u8 ((byteAt b a.toNat) - (48 : Int))))))) (wrap .i64 (a + (1 : Int))) σ
 else
 some (.ret [(V.int .i64 c, false)], σ)
noncomputable def numberl0 (call : CallF) (n : Nat) : Nat → ByteArray → Int → Int → RR
 | 0 => fun _ _ _ _ => none
 | m + 1 => numbers0 call (numberl0 call n m)
noncomputable def numbert0 (a : ByteArray) (b c : Int) (σ : Sto) : St := ⟨[.val (V.str a) false, .dead, .dead, .val (V.int .i64 b) false, .val (V.int .i64 c) false] ++ dd 15 [], nn 20 [], σ⟩
noncomputable def numberF (call : CallF) (L0 : ByteArray → Int → Int → RR) (a : ByteArray) (σ : Sto) : Option Res :=
 L0 a (0 : Int) (0 : Int) σ
noncomputable def number (call : CallF) (n : Nat) (a : ByteArray) (σ : Sto) : Option Res := numberF call (numberl0 call n n) a σ
theorem numbers0_eq (call : CallF) (n : Nat) (F0 : St → Option Res) (a : ByteArray) (b c : Int) (σ : Sto) :
  aexec C numberH call n (cp [0,0,1,0,1,1] numberC) 0 (numbert0 a b c σ) (kloop numberk0 F0 (kblk 0 (kseq (fun st' => aexec C numberH call n (cp [1,1,1] numberC) 0 st' (kfin C numberD)) (kfin C numberD)))) =
  numbers0 call (fun a b c σ => F0 (numbert0 a b c σ)) a b c σ := by kernel_rfl
theorem numberl0_eq (call : CallF) (n : Nat) : ∀ (m : Nat) (a : ByteArray) (b c : Int) (σ : Sto),
  aloop (fun st K => aexec C numberH call n (cp [0,0,1,0,1,1] numberC) 0 st K) numberk0 m (numbert0 a b c σ) (kblk 0 (kseq (fun st' => aexec C numberH call n (cp [1,1,1] numberC) 0 st' (kfin C numberD)) (kfin C numberD))) = numberl0 call n m a b c σ
 | 0, a, b, c, σ => rfl
 | m + 1, a, b, c, σ => by
  rw [aloop, numbers0_eq]
  simp only [numberl0_eq call n m]
  rfl
theorem number_eqF (call : CallF) (n : Nat) (a : ByteArray) (σ : Sto) : afun C numberD call n [(V.str a, false)] σ =
  numberF call (fun a b c σ => aloop (fun st K => aexec C numberH call n (cp [0,0,1,0,1,1] numberC) 0 st K) numberk0 n (numbert0 a b c σ) (kblk 0 (kseq (fun st' => aexec C numberH call n (cp [1,1,1] numberC) 0 st' (kfin C numberD)) (kfin C numberD)))) a σ := by kernel_rfl
theorem number_eq (call : CallF) (n : Nat) (a : ByteArray) (σ : Sto) : afun C numberD call n [(V.str a, false)] σ = number call n a σ := by
 rw [number_eqF]
 simp only [numberl0_eq]
 rfl
theorem number_lim {n : Nat} {a : ByteArray} {b0 : Bool} {σ : Sto} {r : Res} (h : number (lim C) n a σ = some r) : lim C 62 [(V.str a, b0)] σ = some r :=
 lim_of (d := numberD) (by kernel_rfl) (by kernel_rfl) n (show afun C numberD (lim C) n [(V.str a, false)] σ = some r from (number_eq (lim C) n a σ).trans h)
end Go.Ab.Mk
end
