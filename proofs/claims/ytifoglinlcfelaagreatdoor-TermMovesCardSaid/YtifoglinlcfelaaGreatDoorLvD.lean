/- The plain laws: substitution; a small number. -/
import Derived.Test.YtifoglinlcfelaaGreatDoorAbMk1
import Derived.Test.YtifoglinlcfelaaGreatDoorAbMk4
import Derived.Test.YtifoglinlcfelaaGreatDoorAbMk7
import Derived.Test.YtifoglinlcfelaaGreatDoorAbMp
set_option linter.unusedSimpArgs false
set_option linter.unusedVariables false
set_option linter.deprecated false
section
set_option maxRecDepth 100000
namespace Go.Ab.Mk
open Go.Proofs Go.Ab
open List (getD)
open IntKind (wrap)
noncomputable def rtokenk0 : List Nat := [0, 5, 73, 74, 86, 87, 88, 89, 90, 91, 92, 105, 106, 107, 108, 109, 110, 120, 121, 122, 123, 124, 125, 126, 129, 130, 131, 132, 133, 134, 135, 148, 149, 150, 151, 154, 155, 156, 157, 158, 159, 160, 161, 162, 163, 164, 165, 166]
noncomputable def rtokenk1 : List Nat := [0, 5, 6]
noncomputable def rtokenk2 : List Nat := [0, 5, 6, 7, 148, 149, 150, 151, 154, 155, 156, 157, 158, 159, 160, 161, 162, 163, 164, 165, 166]
noncomputable def rtokens1 (call : CallF) (rec1 : Nat → V → Int → RR) (c : Nat) (b : V) (a : Int) (σ : Sto) : Option Res :=
 (memGet σ (V.ptr 65 c 0) false 1).bind fun m1 =>
 (V.asStr m1).bind fun s2 =>
 bif (decide (a < (s2.size : Int))) then
 (memGet σ (V.ptr 65 c 0) false 1).bind fun m3 =>
 (V.asStr m3).bind fun s4 =>
 (grd (decide (0 ≤ a) && decide (a < s4.size))).bind fun _ =>
 callK call 82 [(V.int .u8 (byteAt s4 a.toNat), false), (V.bool false, false)] σ 1 (fun e d =>
 (V.asBool (getD e 0 cellD).1).bind fun b8 =>
 bif b8 then
 rec1 c b (wrap .i64 (a + (1 : Int))) d
 else
 (V.asInt b .i64).bind fun i9 =>
 bif (decide ((wrap .i64 (a - i9)) > (40 : Int))) then
 some (.ret [(V.str ⟨#[]⟩, false), (b, false), (V.bool false, false)], d)
 else
 (memGet d (V.ptr 65 c 0) false 1).bind fun m10 =>
 (V.asStr m10).bind fun s11 =>
 (V.asInt b .i64).bind fun i12 =>
 (grd (decide (0 ≤ i12) && decide (i12 ≤ a) && decide (a ≤ s11.size))).bind fun _ =>
 some (.ret [(V.str (s11.extract i12.toNat a.toNat), false), (b, false), (V.bool true, false)], d)) pnK
 else
 (V.asInt b .i64).bind fun i13 =>
 bif (decide ((wrap .i64 (a - i13)) > (40 : Int))) then
 some (.ret [(V.str ⟨#[]⟩, false), (b, false), (V.bool false, false)], σ)
 else
 (memGet σ (V.ptr 65 c 0) false 1).bind fun m14 =>
 (V.asStr m14).bind fun s15 =>
 (V.asInt b .i64).bind fun i16 =>
 (grd (decide (0 ≤ i16) && decide (i16 ≤ a) && decide (a ≤ s15.size))).bind fun _ =>
 some (.ret [(V.str (s15.extract i16.toNat a.toNat), false), (b, false), (V.bool true, false)], σ)
noncomputable def rtokenl1 (call : CallF) (n : Nat) : Nat → Nat → V → Int → RR
 | 0 => fun _ _ _ _ => none
 | m + 1 => rtokens1 call (rtokenl1 call n m)
noncomputable def rtokent1 (a : Nat) (b : V) (c : Int) (σ : Sto) : St := ⟨[.val (V.ptr 65 a 0) false] ++ dd 4 ([.val b false, .val (V.int .i64 c) false] ++ dd 170 []), nn 177 [], σ⟩
noncomputable def rtokens2 (call : CallF) (rec2 : Nat → V → Int → Int → RR) (c : Nat) (b : V) (a d : Int) (σ : Sto) : Option Res :=
 (memGet σ (V.ptr 65 c 0) false 1).bind fun m1 =>
 (V.asStr m1).bind fun s2 =>
 bif (decide (a < (s2.size : Int))) then
 (memGet σ (V.ptr 65 c 0) false 1).bind fun m3 =>
 (V.asStr m3).bind fun s4 =>
 (grd (decide (0 ≤ a) && decide (a < s4.size))).bind fun _ =>
 bif (decide ((byteAt s4 a.toNat) ≥ (48 : Int))) then
 (memGet σ (V.ptr 65 c 0) false 1).bind fun m5 =>
 (V.asStr m5).bind fun s6 =>
 (grd (decide (0 ≤ a) && decide (a < s6.size))).bind fun _ =>
 bif (decide ((byteAt s6 a.toNat) ≤ (57 : Int))) then
 rec2 c b (wrap .i64 (a + (1 : Int))) d σ
 else
 bif (d == (35 : Int)) then
 (V.asInt b .i64).bind fun i7 =>
 bif (a == (wrap .i64 (i7 + (1 : Int)))) then
 some (.ret [(V.str ⟨#[]⟩, false), (b, false), (V.bool false, false)], σ)
 else
 bif (decide ((wrap .i64 (a - (wrap .i64 (i7 + (1 : Int))))) > (5 : Int))) then
 some (.ret [(V.str ⟨#[]⟩, false), (b, false), (V.bool false, false)], σ)
 else
 bif (decide ((wrap .i64 (a - (wrap .i64 (i7 + (1 : Int))))) > (1 : Int))) then
 (memGet σ (V.ptr 65 c 0) false 1).bind fun m8 =>
 (V.asStr m8).bind fun s9 =>
 (grd (decide (0 ≤ (wrap .i64 (i7 + (1 : Int)))) && decide ((wrap .i64 (i7 + (1 : Int))) < s9.size))).bind fun _ =>
 bif ((byteAt s9 (Int.toNat (wrap .i64 (i7 + (1 : Int))))) == (48 : Int)) then
 some (.ret [(V.str ⟨#[]⟩, false), (b, false), (V.bool false, false)], σ)
 else
 (memGet σ (V.ptr 65 c 0) false 1).bind fun m10 =>
 (V.asStr m10).bind fun s11 =>
 (V.asInt b .i64).bind fun i12 =>
 (grd (decide (0 ≤ i12) && decide (i12 ≤ a) && decide (a ≤ s11.size))).bind fun _ =>
 some (.ret [(V.str (s11.extract i12.toNat a.toNat), false), (b, false), (V.bool true, false)], σ)
 else
 (memGet σ (V.ptr 65 c 0) false 1).bind fun m13 =>
 (V.asStr m13).bind fun s14 =>
 (V.asInt b .i64).bind fun i15 =>
 (grd (decide (0 ≤ i15) && decide (i15 ≤ a) && decide (a ≤ s14.size))).bind fun _ =>
 some (.ret [(V.str (s14.extract i15.toNat a.toNat), false), (b, false), (V.bool true, false)], σ)
 else
 (V.asInt b .i64).bind fun i16 =>
 bif (a == i16) then
 some (.ret [(V.str ⟨#[]⟩, false), (b, false), (V.bool false, false)], σ)
 else
 (V.asInt b .i64).bind fun i17 =>
 bif (decide ((wrap .i64 (a - i17)) > (5 : Int))) then
 some (.ret [(V.str ⟨#[]⟩, false), (b, false), (V.bool false, false)], σ)
 else
 (V.asInt b .i64).bind fun i18 =>
 bif (decide ((wrap .i64 (a - i18)) > (1 : Int))) then
 (memGet σ (V.ptr 65 c 0) false 1).bind fun m19 =>
 (V.asStr m19).bind fun s20 =>
 (V.asInt b .i64).bind fun i21 =>
 (grd (decide (0 ≤ i21) && decide (i21 < s20.size))).bind fun _ =>
 bif ((byteAt s20 i21.toNat) == (48 : Int)) then
 some (.ret [(V.str ⟨#[]⟩, false), (b, false), (V.bool false, false)], σ)
 else
 (memGet σ (V.ptr 65 c 0) false 1).bind fun m22 =>
 (V.asStr m22).bind fun s23 =>
 (V.asInt b .i64).bind fun i24 =>
 (grd (decide (0 ≤ i24) && decide (i24 ≤ a) && decide (a ≤ s23.size))).bind fun _ =>
 some (.ret [(V.str (s23.extract i24.toNat a.toNat), false), (b, false), (V.bool true, false)], σ)
 else
 (memGet σ (V.ptr 65 c 0) false 1).bind fun m25 =>
 (V.asStr m25).bind fun s26 =>
 (V.asInt b .i64).bind fun i27 =>
 (grd (decide (0 ≤ i27) && decide (i27 ≤ a) && decide (a ≤ s26.size))).bind fun _ =>
 some (.ret [(V.str (s26.extract i27.toNat a.toNat), false), (b, false), (V.bool true, false)], σ)
 else
 bif (d == (35 : Int)) then
 (V.asInt b .i64).bind fun i28 =>
 bif (a == (wrap .i64 (i28 + (1 : Int)))) then
 some (.ret [(V.str ⟨#[]⟩, false), (b, false), (V.bool false, false)], σ)
 else
 bif (decide ((wrap .i64 (a - (wrap .i64 (i28 + (1 : Int))))) > (5 : Int))) then
 some (.ret [(V.str ⟨#[]⟩, false), (b, false), (V.bool false, false)], σ)
 else
 bif (decide ((wrap .i64 (a - (wrap .i64 (i28 + (1 : Int))))) > (1 : Int))) then
 (memGet σ (V.ptr 65 c 0) false 1).bind fun m29 =>
 (V.asStr m29).bind fun s30 =>
 (grd (decide (0 ≤ (wrap .i64 (i28 + (1 : Int)))) && decide ((wrap .i64 (i28 + (1 : Int))) < s30.size))).bind fun _ =>
 bif ((byteAt s30 (Int.toNat (wrap .i64 (i28 + (1 : Int))))) == (48 : Int)) then
 some (.ret [(V.str ⟨#[]⟩, false), (b, false), (V.bool false, false)], σ)
 else
 (memGet σ (V.ptr 65 c 0) false 1).bind fun m31 =>
 (V.asStr m31).bind fun s32 =>
 (V.asInt b .i64).bind fun i33 =>
 (grd (decide (0 ≤ i33) && decide (i33 ≤ a) && decide (a ≤ s32.size))).bind fun _ =>
 some (.ret [(V.str (s32.extract i33.toNat a.toNat), false), (b, false), (V.bool true, false)], σ)
 else
 (memGet σ (V.ptr 65 c 0) false 1).bind fun m34 =>
 (V.asStr m34).bind fun s35 =>
 (V.asInt b .i64).bind fun i36 =>
 (grd (decide (0 ≤ i36) && decide (i36 ≤ a) && decide (a ≤ s35.size))).bind fun _ =>
 some (.ret [(V.str (s35.extract i36.toNat a.toNat), false), (b, false), (V.bool true, false)], σ)
 else
 (V.asInt b .i64).bind fun i37 =>
 bif (a == i37) then
 some (.ret [(V.str ⟨#[]⟩, false), (b, false), (V.bool false, false)], σ)
 else
 (V.asInt b .i64).bind fun i38 =>
 bif (decide ((wrap .i64 (a - i38)) > (5 : Int))) then
 some (.ret [(V.str ⟨#[]⟩, false), (b, false), (V.bool false, false)], σ)
 else
 (V.asInt b .i64).bind fun i39 =>
 bif (decide ((wrap .i64 (a - i39)) > (1 : Int))) then
 (memGet σ (V.ptr 65 c 0) false 1).bind fun m40 =>
 (V.asStr m40).bind fun s41 =>
 (V.asInt b .i64).bind fun i42 =>
 (grd (decide (0 ≤ i42) && decide (i42 < s41.size))).bind fun _ =>
 bif ((byteAt s41 i42.toNat) == (48 : Int)) then
 some (.ret [(V.str ⟨#[]⟩, false), (b, false), (V.bool false, false)], σ)
 else
 (memGet σ (V.ptr 65 c 0) false 1).bind fun m43 =>
 (V.asStr m43).bind fun s44 =>
 (V.asInt b .i64).bind fun i45 =>
 (grd (decide (0 ≤ i45) && decide (i45 ≤ a) && decide (a ≤ s44.size))).bind fun _ =>
 some (.ret [(V.str (s44.extract i45.toNat a.toNat), false), (b, false), (V.bool true, false)], σ)
 else
 (memGet σ (V.ptr 65 c 0) false 1).bind fun m46 =>
 (V.asStr m46).bind fun s47 =>
 (V.asInt b .i64).bind fun i48 =>
 (grd (decide (0 ≤ i48) && decide (i48 ≤ a) && decide (a ≤ s47.size))).bind fun _ =>
 some (.ret [(V.str (s47.extract i48.toNat a.toNat), false), (b, false), (V.bool true, false)], σ)
 else
 bif (d == (35 : Int)) then
 (V.asInt b .i64).bind fun i49 =>
 bif (a == (wrap .i64 (i49 + (1 : Int)))) then
 some (.ret [(V.str ⟨#[]⟩, false), (b, false), (V.bool false, false)], σ)
 else
 bif (decide ((wrap .i64 (a - (wrap .i64 (i49 + (1 : Int))))) > (5 : Int))) then
 some (.ret [(V.str ⟨#[]⟩, false), (b, false), (V.bool false, false)], σ)
 else
 bif (decide ((wrap .i64 (a - (wrap .i64 (i49 + (1 : Int))))) > (1 : Int))) then
 (memGet σ (V.ptr 65 c 0) false 1).bind fun m50 =>
 (V.asStr m50).bind fun s51 =>
 (grd (decide (0 ≤ (wrap .i64 (i49 + (1 : Int)))) && decide ((wrap .i64 (i49 + (1 : Int))) < s51.size))).bind fun _ =>
 bif ((byteAt s51 (Int.toNat (wrap .i64 (i49 + (1 : Int))))) == (48 : Int)) then
 some (.ret [(V.str ⟨#[]⟩, false), (b, false), (V.bool false, false)], σ)
 else
 (memGet σ (V.ptr 65 c 0) false 1).bind fun m52 =>
 (V.asStr m52).bind fun s53 =>
 (V.asInt b .i64).bind fun i54 =>
 (grd (decide (0 ≤ i54) && decide (i54 ≤ a) && decide (a ≤ s53.size))).bind fun _ =>
 some (.ret [(V.str (s53.extract i54.toNat a.toNat), false), (b, false), (V.bool true, false)], σ)
 else
 (memGet σ (V.ptr 65 c 0) false 1).bind fun m55 =>
 (V.asStr m55).bind fun s56 =>
 (V.asInt b .i64).bind fun i57 =>
 (grd (decide (0 ≤ i57) && decide (i57 ≤ a) && decide (a ≤ s56.size))).bind fun _ =>
 some (.ret [(V.str (s56.extract i57.toNat a.toNat), false), (b, false), (V.bool true, false)], σ)
 else
 (V.asInt b .i64).bind fun i58 =>
 bif (a == i58) then
 some (.ret [(V.str ⟨#[]⟩, false), (b, false), (V.bool false, false)], σ)
 else
 (V.asInt b .i64).bind fun i59 =>
 bif (decide ((wrap .i64 (a - i59)) > (5 : Int))) then
 some (.ret [(V.str ⟨#[]⟩, false), (b, false), (V.bool false, false)], σ)
 else
 (V.asInt b .i64).bind fun i60 =>
 bif (decide ((wrap .i64 (a - i60)) > (1 : Int))) then
 (memGet σ (V.ptr 65 c 0) false 1).bind fun m61 =>
 (V.asStr m61).bind fun s62 =>
 (V.asInt b .i64).bind fun i63 =>
 (grd (decide (0 ≤ i63) && decide (i63 < s62.size))).bind fun _ =>
 bif ((byteAt s62 i63.toNat) == (48 : Int)) then
 some (.ret [(V.str ⟨#[]⟩, false), (b, false), (V.bool false, false)], σ)
 else
 (memGet σ (V.ptr 65 c 0) false 1).bind fun m64 =>
 (V.asStr m64).bind fun s65 =>
 (V.asInt b .i64).bind fun i66 =>
 (grd (decide (0 ≤ i66) && decide (i66 ≤ a) && decide (a ≤ s65.size))).bind fun _ =>
 some (.ret [(V.str (s65.extract i66.toNat a.toNat), false), (b, false), (V.bool true, false)], σ)
 else
 (memGet σ (V.ptr 65 c 0) false 1).bind fun m67 =>
 (V.asStr m67).bind fun s68 =>
 (V.asInt b .i64).bind fun i69 =>
 (grd (decide (0 ≤ i69) && decide (i69 ≤ a) && decide (a ≤ s68.size))).bind fun _ =>
 some (.ret [(V.str (s68.extract i69.toNat a.toNat), false), (b, false), (V.bool true, false)], σ)
noncomputable def rtokenl2 (call : CallF) (n : Nat) : Nat → Nat → V → Int → Int → RR
 | 0 => fun _ _ _ _ _ => none
 | m + 1 => rtokens2 call (rtokenl2 call n m)
noncomputable def rtokent2 (a : Nat) (b : V) (c d : Int) (σ : Sto) : St := ⟨[.val (V.ptr 65 a 0) false] ++ dd 4 ([.val b false, .val (V.int .i64 c) false, .val (V.int .u8 d) false] ++ dd 169 []), nn 177 [], σ⟩
noncomputable def rtokens0 (call : CallF) (L1 : Nat → V → Int → RR) (L2 : Nat → V → Int → Int → RR) (rec0 : Nat → V → RR) (b : Nat) (a : V) (σ : Sto) : Option Res :=
 (memGet σ (V.ptr 65 b 0) false 1).bind fun m1 =>
 (V.asStr m1).bind fun s2 =>
 (V.asInt a .i64).bind fun i3 =>
 bif (decide (i3 < (s2.size : Int))) then
 (memGet σ (V.ptr 65 b 0) false 1).bind fun m4 =>
 (V.asStr m4).bind fun s5 =>
 (V.asInt a .i64).bind fun i6 =>
 (grd (decide (0 ≤ i6) && decide (i6 < s5.size))).bind fun _ =>
 bif ((byteAt s5 i6.toNat) == (32 : Int)) then
 (V.asInt a .i64).bind fun i7 =>
 rec0 b (V.int .i64 (wrap .i64 (i7 + (1 : Int)))) σ
 else
 (memGet σ (V.ptr 65 b 0) false 1).bind fun m8 =>
 (V.asStr m8).bind fun s9 =>
 (V.asInt a .i64).bind fun i10 =>
 (grd (decide (0 ≤ i10) && decide (i10 < s9.size))).bind fun _ =>
 bif ((byteAt s9 i10.toNat) == (9 : Int)) then
 (V.asInt a .i64).bind fun i11 =>
 rec0 b (V.int .i64 (wrap .i64 (i11 + (1 : Int)))) σ
 else
 (memGet σ (V.ptr 65 b 0) false 1).bind fun m12 =>
 (V.asStr m12).bind fun s13 =>
 (V.asInt a .i64).bind fun i14 =>
 (grd (decide (0 ≤ i14) && decide (i14 < s13.size))).bind fun _ =>
 bif ((byteAt s13 i14.toNat) == (10 : Int)) then
 (V.asInt a .i64).bind fun i15 =>
 rec0 b (V.int .i64 (wrap .i64 (i15 + (1 : Int)))) σ
 else
 (memGet σ (V.ptr 65 b 0) false 1).bind fun m16 =>
 (V.asStr m16).bind fun s17 =>
 (V.asInt a .i64).bind fun i18 =>
 bif (i18 == (s17.size : Int)) then
 some (.ret [(V.str ⟨#[]⟩, false), (a, false), (V.bool true, false)], σ)
 else
 (V.asInt a .i64).bind fun i19 =>
 (memGet σ (V.ptr 65 b 0) false 1).bind fun m20 =>
 (V.asStr m20).bind fun s21 =>
 (V.asInt a .i64).bind fun i22 =>
 (grd (decide (0 ≤ i22) && decide (i22 < s21.size))).bind fun _ =>
 callK call 82 [(V.int .u8 (byteAt s21 i22.toNat), false), (V.bool true, false)] σ 1 (fun e c =>
 bif ((byteAt s21 i22.toNat) == (40 : Int)) then
 (memGet c (V.ptr 65 b 0) false 1).bind fun m26 =>
 (V.asStr m26).bind fun s27 =>
 (V.asInt a .i64).bind fun i28 =>
 (grd (decide (0 ≤ i28) && decide (i28 ≤ (wrap .i64 (i19 + (1 : Int)))) && decide ((wrap .i64 (i19 + (1 : Int))) ≤ s27.size))).bind fun _ =>
 some (.ret [((V.str (s27.extract i28.toNat (Int.toNat (wrap .i64 (i19 + (1 : Int)))))), false), (a, false), (V.bool true, false)], c)
 else
 bif ((byteAt s21 i22.toNat) == (41 : Int)) then
 (memGet c (V.ptr 65 b 0) false 1).bind fun m29 =>
 (V.asStr m29).bind fun s30 =>
 (V.asInt a .i64).bind fun i31 =>
 (grd (decide (0 ≤ i31) && decide (i31 ≤ (wrap .i64 (i19 + (1 : Int)))) && decide ((wrap .i64 (i19 + (1 : Int))) ≤ s30.size))).bind fun _ =>
 some (.ret [((V.str (s30.extract i31.toNat (Int.toNat (wrap .i64 (i19 + (1 : Int)))))), false), (a, false), (V.bool true, false)], c)
 else
 (V.asBool (getD e 0 cellD).1).bind fun b32 =>
 bif b32 then
 L1 b a (wrap .i64 (i19 + (1 : Int))) c
 else
 bif ((byteAt s21 i22.toNat) == (35 : Int)) then
 L2 b a (wrap .i64 (i19 + (1 : Int))) (byteAt s21 i22.toNat) c
 else
 bif (decide ((byteAt s21 i22.toNat) ≥ (48 : Int))) then
 bif (decide ((byteAt s21 i22.toNat) ≤ (57 : Int))) then
 L2 b a (wrap .i64 (i19 + (1 : Int))) (byteAt s21 i22.toNat) c
 else
 some (.ret [(V.str ⟨#[]⟩, false), (a, false), (V.bool false, false)], c)
 else
 some (.ret [(V.str ⟨#[]⟩, false), (a, false), (V.bool false, false)], c)) pnK
 else
 (memGet σ (V.ptr 65 b 0) false 1).bind fun m33 =>
 (V.asStr m33).bind fun s34 =>
 (V.asInt a .i64).bind fun i35 =>
 bif (i35 == (s34.size : Int)) then
 some (.ret [(V.str ⟨#[]⟩, false), (a, false), (V.bool true, false)], σ)
 else
 (V.asInt a .i64).bind fun i36 =>
 (memGet σ (V.ptr 65 b 0) false 1).bind fun m37 =>
 (V.asStr m37).bind fun s38 =>
 (V.asInt a .i64).bind fun i39 =>
 (grd (decide (0 ≤ i39) && decide (i39 < s38.size))).bind fun _ =>
 callK call 82 [(V.int .u8 (byteAt s38 i39.toNat), false), (V.bool true, false)] σ 1 (fun f d =>
 bif ((byteAt s38 i39.toNat) == (40 : Int)) then
 (memGet d (V.ptr 65 b 0) false 1).bind fun m43 =>
 (V.asStr m43).bind fun s44 =>
 (V.asInt a .i64).bind fun i45 =>
 (grd (decide (0 ≤ i45) && decide (i45 ≤ (wrap .i64 (i36 + (1 : Int)))) && decide ((wrap .i64 (i36 + (1 : Int))) ≤ s44.size))).bind fun _ =>
 some (.ret [((V.str (s44.extract i45.toNat (Int.toNat (wrap .i64 (i36 + (1 : Int)))))), false), (a, false), (V.bool true, false)], d)
 else
 bif ((byteAt s38 i39.toNat) == (41 : Int)) then
 (memGet d (V.ptr 65 b 0) false 1).bind fun m46 =>
 (V.asStr m46).bind fun s47 =>
 (V.asInt a .i64).bind fun i48 =>
 (grd (decide (0 ≤ i48) && decide (i48 ≤ (wrap .i64 (i36 + (1 : Int)))) && decide ((wrap .i64 (i36 + (1 : Int))) ≤ s47.size))).bind fun _ =>
 some (.ret [((V.str (s47.extract i48.toNat (Int.toNat (wrap .i64 (i36 + (1 : Int)))))), false), (a, false), (V.bool true, false)], d)
 else
 (V.asBool (getD f 0 cellD).1).bind fun b49 =>
 bif b49 then
 L1 b a (wrap .i64 (i36 + (1 : Int))) d
 else
 bif ((byteAt s38 i39.toNat) == (35 : Int)) then
 L2 b a (wrap .i64 (i36 + (1 : Int))) (byteAt s38 i39.toNat) d
 else
 bif (decide ((byteAt s38 i39.toNat) ≥ (48 : Int))) then
 bif (decide ((byteAt s38 i39.toNat) ≤ (57 : Int))) then
 L2 b a (wrap .i64 (i36 + (1 : Int))) (byteAt s38 i39.toNat) d
 else
 some (.ret [(V.str ⟨#[]⟩, false), (a, false), (V.bool false, false)], d)
 else
 some (.ret [(V.str ⟨#[]⟩, false), (a, false), (V.bool false, false)], d)) pnK
noncomputable def rtokenl0 (call : CallF) (n : Nat) : Nat → Nat → V → RR
 | 0 => fun _ _ _ => none
 | m + 1 => rtokens0 call (rtokenl1 call n n) (rtokenl2 call n n) (rtokenl0 call n m)
noncomputable def rtokent0 (a : Nat) (b : V) (σ : Sto) : St := ⟨[.val (V.ptr 65 a 0) false] ++ dd 4 ([.val b false] ++ dd 171 []), nn 177 [], σ⟩
noncomputable def rtokenF (call : CallF) (L0 : Nat → V → RR) (a : Nat) (σ : Sto) : Option Res :=
 (memGet σ (V.ptr 65 a 1) false 1).bind fun m1 =>
 L0 a m1 σ
noncomputable def rtoken (call : CallF) (n a : Nat) (σ : Sto) : Option Res := rtokenF call (rtokenl0 call n n) a σ
theorem rtokens1_eq (call : CallF) (n : Nat) (F1 : St → Option Res) (a : Nat) (b : V) (c : Int) (σ : Sto) :
  aexec C rtokenH call n (cp [0,0,0,0,1,1,1,0,0,1,1,1,1,1,1,1] rtokenC) 0 (rtokent1 a b c σ) (kloop rtokenk1 F1 (kblk 3 (kseq (fun st' => aexec C rtokenH call n (cp [1,0,1,1,1,0,0,1,1,1,1,1,1,1] rtokenC) 0 st' (kblk 2 (kseq (fun st' => aexec C rtokenH call n (cp [1,1,1,1,1,1,1,1] rtokenC) 0 st' (kfin C rtokenD)) (kfin C rtokenD)))) (kblk 2 (kseq (fun st' => aexec C rtokenH call n (cp [1,1,1,1,1,1,1,1] rtokenC) 0 st' (kfin C rtokenD)) (kfin C rtokenD)))))) =
  rtokens1 call (fun a b c σ => F1 (rtokent1 a b c σ)) a b c σ := by kernel_rfl
theorem rtokenl1_eq (call : CallF) (n : Nat) : ∀ (m a : Nat) (b : V) (c : Int) (σ : Sto),
  aloop (fun st K => aexec C rtokenH call n (cp [0,0,0,0,1,1,1,0,0,1,1,1,1,1,1,1] rtokenC) 0 st K) rtokenk1 m (rtokent1 a b c σ) (kblk 3 (kseq (fun st' => aexec C rtokenH call n (cp [1,0,1,1,1,0,0,1,1,1,1,1,1,1] rtokenC) 0 st' (kblk 2 (kseq (fun st' => aexec C rtokenH call n (cp [1,1,1,1,1,1,1,1] rtokenC) 0 st' (kfin C rtokenD)) (kfin C rtokenD)))) (kblk 2 (kseq (fun st' => aexec C rtokenH call n (cp [1,1,1,1,1,1,1,1] rtokenC) 0 st' (kfin C rtokenD)) (kfin C rtokenD))))) = rtokenl1 call n m a b c σ
 | 0, a, b, c, σ => rfl
 | m + 1, a, b, c, σ => by
  rw [aloop, rtokens1_eq]
  simp only [rtokenl1_eq call n m]
  rfl
theorem rtokens2_eq (call : CallF) (n : Nat) (F2 : St → Option Res) (a : Nat) (b : V) (c d : Int) (σ : Sto) :
  aexec C rtokenH call n (cp [0,0,0,0,1,1,1,1,1,0,0,1,1,1,1,1,1,1] rtokenC) 0 (rtokent2 a b c d σ) (kloop rtokenk2 F2 (kblk 5 (kseq (fun st' => aexec C rtokenH call n (cp [1,0,1,1,1,1,1,0,0,1,1,1,1,1,1,1] rtokenC) 0 st' (kblk 2 (kseq (fun st' => aexec C rtokenH call n (cp [1,1,1,1,1,1,1,1] rtokenC) 0 st' (kfin C rtokenD)) (kfin C rtokenD)))) (kblk 2 (kseq (fun st' => aexec C rtokenH call n (cp [1,1,1,1,1,1,1,1] rtokenC) 0 st' (kfin C rtokenD)) (kfin C rtokenD)))))) =
  rtokens2 call (fun a b c d σ => F2 (rtokent2 a b c d σ)) a b c d σ := by kernel_rfl
theorem rtokenl2_eq (call : CallF) (n : Nat) : ∀ (m a : Nat) (b : V) (c d : Int) (σ : Sto),
  aloop (fun st K => aexec C rtokenH call n (cp [0,0,0,0,1,1,1,1,1,0,0,1,1,1,1,1,1,1] rtokenC) 0 st K) rtokenk2 m (rtokent2 a b c d σ) (kblk 5 (kseq (fun st' => aexec C rtokenH call n (cp [1,0,1,1,1,1,1,0,0,1,1,1,1,1,1,1] rtokenC) 0 st' (kblk 2 (kseq (fun st' => aexec C rtokenH call n (cp [1,1,1,1,1,1,1,1] rtokenC) 0 st' (kfin C rtokenD)) (kfin C rtokenD)))) (kblk 2 (kseq (fun st' => aexec C rtokenH call n (cp [1,1,1,1,1,1,1,1] rtokenC) 0 st' (kfin C rtokenD)) (kfin C rtokenD))))) = rtokenl2 call n m a b c d σ
 | 0, a, b, c, d, σ => rfl
 | m + 1, a, b, c, d, σ => by
  rw [aloop, rtokens2_eq]
  simp only [rtokenl2_eq call n m]
  rfl
theorem rtokens0_eq (call : CallF) (n : Nat) (F0 : St → Option Res) (a : Nat) (b : V) (σ : Sto) :
  aexec C rtokenH call n (cp [0,0,0,1,1] rtokenC) 0 (rtokent0 a b σ) (kloop rtokenk0 F0 (kblk 0 (kseq (fun st' => aexec C rtokenH call n (cp [1,1,1] rtokenC) 0 st' (kfin C rtokenD)) (kfin C rtokenD)))) =
  rtokens0 call (fun a b c σ => aloop (fun st K => aexec C rtokenH call n (cp [0,0,0,0,1,1,1,0,0,1,1,1,1,1,1,1] rtokenC) 0 st K) rtokenk1 n (rtokent1 a b c σ) (kblk 3 (kseq (fun st' => aexec C rtokenH call n (cp [1,0,1,1,1,0,0,1,1,1,1,1,1,1] rtokenC) 0 st' (kblk 2 (kseq (fun st' => aexec C rtokenH call n (cp [1,1,1,1,1,1,1,1] rtokenC) 0 st' (kfin C rtokenD)) (kfin C rtokenD)))) (kblk 2 (kseq (fun st' => aexec C rtokenH call n (cp [1,1,1,1,1,1,1,1] rtokenC) 0 st' (kfin C rtokenD)) (kfin C rtokenD)))))) (fun a b c d σ => aloop (fun st K => aexec C rtokenH call n (cp [0,0,0,0,1,1,1,1,1,0,0,1,1,1,1,1,1,1] rtokenC) 0 st K) rtokenk2 n (rtokent2 a b c d σ) (kblk 5 (kseq (fun st' => aexec C rtokenH call n (cp [1,0,1,1,1,1,1,0,0,1,1,1,1,1,1,1] rtokenC) 0 st' (kblk 2 (kseq (fun st' => aexec C rtokenH call n (cp [1,1,1,1,1,1,1,1] rtokenC) 0 st' (kfin C rtokenD)) (kfin C rtokenD)))) (kblk 2 (kseq (fun st' => aexec C rtokenH call n (cp [1,1,1,1,1,1,1,1] rtokenC) 0 st' (kfin C rtokenD)) (kfin C rtokenD)))))) (fun a b σ => F0 (rtokent0 a b σ)) a b σ := by kernel_rfl
theorem rtokenl0_eq (call : CallF) (n : Nat) : ∀ (m a : Nat) (b : V) (σ : Sto),
  aloop (fun st K => aexec C rtokenH call n (cp [0,0,0,1,1] rtokenC) 0 st K) rtokenk0 m (rtokent0 a b σ) (kblk 0 (kseq (fun st' => aexec C rtokenH call n (cp [1,1,1] rtokenC) 0 st' (kfin C rtokenD)) (kfin C rtokenD))) = rtokenl0 call n m a b σ
 | 0, a, b, σ => rfl
 | m + 1, a, b, σ => by
  rw [aloop, rtokens0_eq]
  simp only [rtokenl0_eq call n m, rtokenl1_eq, rtokenl2_eq]
  rfl
theorem rtoken_eqF (call : CallF) (n a : Nat) (σ : Sto) : afun C rtokenD call n [(V.ptr 65 a 0, false)] σ =
  rtokenF call (fun a b σ => aloop (fun st K => aexec C rtokenH call n (cp [0,0,0,1,1] rtokenC) 0 st K) rtokenk0 n (rtokent0 a b σ) (kblk 0 (kseq (fun st' => aexec C rtokenH call n (cp [1,1,1] rtokenC) 0 st' (kfin C rtokenD)) (kfin C rtokenD)))) a σ := by kernel_rfl
theorem rtoken_eq (call : CallF) (n a : Nat) (σ : Sto) : afun C rtokenD call n [(V.ptr 65 a 0, false)] σ = rtoken call n a σ := by
 rw [rtoken_eqF]
 simp only [rtokenl0_eq]
 rfl
theorem rtoken_lim {n : Nat} {a : Nat} {b0 : Bool} {σ : Sto} {r : Res} (h : rtoken (lim C) n a σ = some r) : lim C 67 [(V.ptr 65 a 0, b0)] σ = some r :=
 lim_of (d := rtokenD) (by kernel_rfl) (by kernel_rfl) n (show afun C rtokenD (lim C) n [(V.ptr 65 a 0, false)] σ = some r from (rtoken_eq (lim C) n a σ).trans h)
noncomputable def isNameF (call : CallF) (a : ByteArray) (σ : Sto) : Option Res :=
 bif (!(a.toList == (ByteArray.mk #[]).toList)) then
 (grd (decide (0 ≤ (0 : Int)) && decide ((0 : Int) < a.size))).bind fun _ =>
 callK call 82 [((V.int .u8 (byteAt a (Int.toNat (0 : Int)))), false), (V.bool true, false)] σ 1 (fun b c =>
 some (.ret [((getD b 0 cellD).1, false)], c)) pnK
 else
 some (.ret [(V.bool false, false)], σ)
noncomputable def isName (call : CallF) (n : Nat) (a : ByteArray) (σ : Sto) : Option Res := isNameF call a σ
theorem isName_eqF (call : CallF) (n : Nat) (a : ByteArray) (σ : Sto) : afun C isNameD call n [(V.str a, false)] σ =
  isNameF call a σ := by kernel_rfl
theorem isName_eq (call : CallF) (n : Nat) (a : ByteArray) (σ : Sto) : afun C isNameD call n [(V.str a, false)] σ = isName call n a σ := isName_eqF call n a σ
theorem isName_lim {n : Nat} {a : ByteArray} {b0 : Bool} {σ : Sto} {r : Res} (h : isName (lim C) n a σ = some r) : lim C 68 [(V.str a, b0)] σ = some r :=
 lim_of (d := isNameD) (by kernel_rfl) (by kernel_rfl) n (show afun C isNameD (lim C) n [(V.str a, false)] σ = some r from (isName_eq (lim C) n a σ).trans h)
noncomputable def rnextF (call : CallF) (b : Nat) (σ : Sto) : Option Res :=
 callK call 67 [(V.ptr 65 b 0, false)] σ 3 (fun a c =>
 (V.asBool (getD a 2 cellD).1).bind fun b4 =>
 bif (!b4) then
 callK call 70 [(V.ptr 65 b 0, false), ((getD a 1 cellD).1, false)] c 0 (fun f d =>
 (memGet d (V.ptr 65 b 2) false 1).bind fun m8 =>
 (V.asInt m8 .i64).bind fun i9 =>
 bif (i9 != (0 : Int)) then
 some (.ret [(V.str ⟨#[]⟩, false)], d)
 else
 (V.asStr (getD a 0 cellD).1).bind fun s10 =>
 (V.asInt (getD a 1 cellD).1 .i64).bind fun i11 =>
 (memSet d (V.ptr 65 b 1) [((V.int .i64 (wrap .i64 (i11 + (s10.size : Int)))), false)]).bind fun m12 =>
 some (.ret [((getD a 0 cellD).1, false)], m12)) pnK
 else
 (V.asStr (getD a 0 cellD).1).bind fun s13 =>
 bif (s13.toList == (ByteArray.mk #[]).toList) then
 callK call 70 [(V.ptr 65 b 0, false), ((getD a 1 cellD).1, false)] c 0 (fun g e =>
 (memGet e (V.ptr 65 b 2) false 1).bind fun m17 =>
 (V.asInt m17 .i64).bind fun i18 =>
 bif (i18 != (0 : Int)) then
 some (.ret [(V.str ⟨#[]⟩, false)], e)
 else
 (V.asStr (getD a 0 cellD).1).bind fun s19 =>
 (V.asInt (getD a 1 cellD).1 .i64).bind fun i20 =>
 (memSet e (V.ptr 65 b 1) [((V.int .i64 (wrap .i64 (i20 + (s19.size : Int)))), false)]).bind fun m21 =>
 some (.ret [((getD a 0 cellD).1, false)], m21)) pnK
 else
 (memGet c (V.ptr 65 b 2) false 1).bind fun m22 =>
 (V.asInt m22 .i64).bind fun i23 =>
 bif (i23 != (0 : Int)) then
 some (.ret [(V.str ⟨#[]⟩, false)], c)
 else
 (V.asStr (getD a 0 cellD).1).bind fun s24 =>
 (V.asInt (getD a 1 cellD).1 .i64).bind fun i25 =>
 (memSet c (V.ptr 65 b 1) [((V.int .i64 (wrap .i64 (i25 + (s24.size : Int)))), false)]).bind fun m26 =>
 some (.ret [((getD a 0 cellD).1, false)], m26)) pnK
noncomputable def rnext (call : CallF) (n a : Nat) (σ : Sto) : Option Res := rnextF call a σ
theorem rnext_eqF (call : CallF) (n a : Nat) (σ : Sto) : afun C rnextD call n [(V.ptr 65 a 0, false)] σ =
  rnextF call a σ := by kernel_rfl
theorem rnext_eq (call : CallF) (n a : Nat) (σ : Sto) : afun C rnextD call n [(V.ptr 65 a 0, false)] σ = rnext call n a σ := rnext_eqF call n a σ
theorem rnext_lim {n : Nat} {a : Nat} {b0 : Bool} {σ : Sto} {r : Res} (h : rnext (lim C) n a σ = some r) : lim C 69 [(V.ptr 65 a 0, b0)] σ = some r :=
 lim_of (d := rnextD) (by kernel_rfl) (by kernel_rfl) n (show afun C rnextD (lim C) n [(V.ptr 65 a 0, false)] σ = some r from (rnext_eq (lim C) n a σ).trans h)
noncomputable def rfailF (call : CallF) (a : Nat) (b : Int) (σ : Sto) : Option Res :=
 (memGet σ (V.ptr 65 a 2) false 1).bind fun m1 =>
 (V.asInt m1 .i64).bind fun i2 =>
 bif (i2 == (0 : Int)) then
 (memSet σ (V.ptr 65 a 2) [((V.int .i64 (1 : Int)), false), (V.int .i64 b, false)]).bind fun m3 =>
 some (.ret [], m3)
 else
 some (.ret [], σ)
noncomputable def rfail (call : CallF) (n a : Nat) (b : Int) (σ : Sto) : Option Res := rfailF call a b σ
theorem rfail_eqF (call : CallF) (n a : Nat) (b : Int) (σ : Sto) : afun C rfailD call n [(V.ptr 65 a 0, false), (V.int .i64 b, false)] σ =
  rfailF call a b σ := by kernel_rfl
theorem rfail_eq (call : CallF) (n a : Nat) (b : Int) (σ : Sto) : afun C rfailD call n [(V.ptr 65 a 0, false), (V.int .i64 b, false)] σ = rfail call n a b σ := rfail_eqF call n a b σ
theorem rfail_lim {n : Nat} {a : Nat} {b : Int} {b0 b1 : Bool} {σ : Sto} {r : Res} (h : rfail (lim C) n a b σ = some r) : lim C 70 [(V.ptr 65 a 0, b0), (V.int .i64 b, b1)] σ = some r :=
 lim_of (d := rfailD) (by kernel_rfl) (by kernel_rfl) n (show afun C rfailD (lim C) n [(V.ptr 65 a 0, false), (V.int .i64 b, false)] σ = some r from (rfail_eq (lim C) n a b σ).trans h)
noncomputable def rtakeF (call : CallF) (b : Nat) (f : ByteArray) (σ : Sto) : Option Res :=
 callK call 67 [(V.ptr 65 b 0, false)] σ 3 (fun a c =>
 (V.asBool (getD a 2 cellD).1).bind fun b4 =>
 bif (!b4) then
 callK call 70 [(V.ptr 65 b 0, false), ((getD a 1 cellD).1, false)] c 0 (fun g d =>
 (memGet d (V.ptr 65 b 2) false 1).bind fun m8 =>
 (V.asInt m8 .i64).bind fun i9 =>
 bif (i9 == (0 : Int)) then
 (V.asStr (getD a 0 cellD).1).bind fun s10 =>
 (V.asInt (getD a 1 cellD).1 .i64).bind fun i11 =>
 (memSet d (V.ptr 65 b 1) [((V.int .i64 (wrap .i64 (i11 + (s10.size : Int)))), false)]).bind fun m12 =>
 some (.ret [], m12)
 else
 some (.ret [], d)) pnK
 else
 (V.asStr (getD a 0 cellD).1).bind fun s13 =>
 bif (!(s13.toList == f.toList)) then
 callK call 70 [(V.ptr 65 b 0, false), ((getD a 1 cellD).1, false)] c 0 (fun h e =>
 (memGet e (V.ptr 65 b 2) false 1).bind fun m17 =>
 (V.asInt m17 .i64).bind fun i18 =>
 bif (i18 == (0 : Int)) then
 (V.asStr (getD a 0 cellD).1).bind fun s19 =>
 (V.asInt (getD a 1 cellD).1 .i64).bind fun i20 =>
 (memSet e (V.ptr 65 b 1) [((V.int .i64 (wrap .i64 (i20 + (s19.size : Int)))), false)]).bind fun m21 =>
 some (.ret [], m21)
 else
 some (.ret [], e)) pnK
 else
 (memGet c (V.ptr 65 b 2) false 1).bind fun m22 =>
 (V.asInt m22 .i64).bind fun i23 =>
 bif (i23 == (0 : Int)) then
 (V.asStr (getD a 0 cellD).1).bind fun s24 =>
 (V.asInt (getD a 1 cellD).1 .i64).bind fun i25 =>
 (memSet c (V.ptr 65 b 1) [((V.int .i64 (wrap .i64 (i25 + (s24.size : Int)))), false)]).bind fun m26 =>
 some (.ret [], m26)
 else
 some (.ret [], c)) pnK
noncomputable def rtake (call : CallF) (n a : Nat) (b : ByteArray) (σ : Sto) : Option Res := rtakeF call a b σ
theorem rtake_eqF (call : CallF) (n a : Nat) (b : ByteArray) (σ : Sto) : afun C rtakeD call n [(V.ptr 65 a 0, false), (V.str b, false)] σ =
  rtakeF call a b σ := by kernel_rfl
theorem rtake_eq (call : CallF) (n a : Nat) (b : ByteArray) (σ : Sto) : afun C rtakeD call n [(V.ptr 65 a 0, false), (V.str b, false)] σ = rtake call n a b σ := rtake_eqF call n a b σ
theorem rtake_lim {n : Nat} {a : Nat} {b : ByteArray} {b0 b1 : Bool} {σ : Sto} {r : Res} (h : rtake (lim C) n a b σ = some r) : lim C 71 [(V.ptr 65 a 0, b0), (V.str b, b1)] σ = some r :=
 lim_of (d := rtakeD) (by kernel_rfl) (by kernel_rfl) n (show afun C rtakeD (lim C) n [(V.ptr 65 a 0, false), (V.str b, false)] σ = some r from (rtake_eq (lim C) n a b σ).trans h)
noncomputable def indexk0 : List Nat := [0, 1, 7, 8]
noncomputable def indexs0 (call : CallF) (rec0 : LL → ByteArray → Int → Int → RR) (b : LL) (c : ByteArray) (d a : Int) (σ : Sto) : Option Res :=
 bif (decide (a < d)) then
 (grd (decide (0 ≤ a) && decide (a < b.length))).bind fun _ =>
 (V.asStr (getD (getD b a.toNat []) 0 V.any)).bind fun s1 =>
 bif (c.toList == s1.toList) then
 some (.ret [(V.int .i64 a, false)], σ)
 else
 rec0 b c d (wrap .i64 (a + (1 : Int))) σ
 else
 some (.ret [((V.int .i64 (-1 : Int)), false)], σ)
noncomputable def indexl0 (call : CallF) (n : Nat) : Nat → LL → ByteArray → Int → Int → RR
 | 0 => fun _ _ _ _ _ => none
 | m + 1 => indexs0 call (indexl0 call n m)
noncomputable def indext0 (a : LL) (b : ByteArray) (c d : Int) (σ : Sto) : St := ⟨[.val (V.slice 1 9 a) false, .val (V.str b) false] ++ dd 5 ([.val (V.int .i64 c) false, .val (V.int .i64 d) false] ++ dd 10 []), nn 19 [], σ⟩
noncomputable def indexF (call : CallF) (L0 : LL → ByteArray → Int → Int → RR) (a : LL) (b : ByteArray) (σ : Sto) : Option Res :=
 L0 a b (a.length : Int) (0 : Int) σ
noncomputable def index (call : CallF) (n : Nat) (a : LL) (b : ByteArray) (σ : Sto) : Option Res := indexF call (indexl0 call n n) a b σ
theorem indexs0_eq (call : CallF) (n : Nat) (F0 : St → Option Res) (a : LL) (b : ByteArray) (c d : Int) (σ : Sto) :
  aexec C indexH call n (cp [0,0,1,0,1] indexC) 0 (indext0 a b c d σ) (kloop indexk0 F0 (kblk 0 (kseq (fun st' => aexec C indexH call n (codeR (codeR indexC)) 0 st' (kfin C indexD)) (kfin C indexD)))) =
  indexs0 call (fun a b c d σ => F0 (indext0 a b c d σ)) a b c d σ := by kernel_rfl
theorem indexl0_eq (call : CallF) (n : Nat) : ∀ (m : Nat) (a : LL) (b : ByteArray) (c d : Int) (σ : Sto),
  aloop (fun st K => aexec C indexH call n (cp [0,0,1,0,1] indexC) 0 st K) indexk0 m (indext0 a b c d σ) (kblk 0 (kseq (fun st' => aexec C indexH call n (codeR (codeR indexC)) 0 st' (kfin C indexD)) (kfin C indexD))) = indexl0 call n m a b c d σ
 | 0, a, b, c, d, σ => rfl
 | m + 1, a, b, c, d, σ => by
  rw [aloop, indexs0_eq]
  simp only [indexl0_eq call n m]
  rfl
theorem index_eqF (call : CallF) (n : Nat) (a : LL) (b : ByteArray) (σ : Sto) : afun C indexD call n [(V.slice 1 9 a, false), (V.str b, false)] σ =
  indexF call (fun a b c d σ => aloop (fun st K => aexec C indexH call n (cp [0,0,1,0,1] indexC) 0 st K) indexk0 n (indext0 a b c d σ) (kblk 0 (kseq (fun st' => aexec C indexH call n (codeR (codeR indexC)) 0 st' (kfin C indexD)) (kfin C indexD)))) a b σ := by kernel_rfl
theorem index_eq (call : CallF) (n : Nat) (a : LL) (b : ByteArray) (σ : Sto) : afun C indexD call n [(V.slice 1 9 a, false), (V.str b, false)] σ = index call n a b σ := by
 rw [index_eqF]
 simp only [indexl0_eq]
 rfl
theorem index_lim {n : Nat} {a : LL} {b : ByteArray} {b0 b1 : Bool} {σ : Sto} {r : Res} (h : index (lim C) n a b σ = some r) : lim C 72 [(V.slice 1 9 a, b0), (V.str b, b1)] σ = some r :=
 lim_of (d := indexD) (by kernel_rfl) (by kernel_rfl) n (show afun C indexD (lim C) n [(V.slice 1 9 a, false), (V.str b, false)] σ = some r from (index_eq (lim C) n a b σ).trans h)
noncomputable def wstringF (call : CallF) (a : Nat) (b : ByteArray) (σ : Sto) : Option Res :=
 callK call 83 [(V.ptr 75 a 0, false)] σ 0 (fun d c =>
 (memTake c (V.ptr 75 a 1)).bind fun m4 =>
 (V.asSlice m4.1 1 5).bind fun l5 =>
 (grd (room (List.length l5 + b.size))).bind fun _ =>
 (memSet m4.2 (V.ptr 75 a 1) [(V.slice 1 5 (l5 ++ bytesV b), true)]).bind fun m6 =>
 some (.ret [((V.int .i64 (b.size : Int)), false), (V.nilIface, false)], m6)) pnK
noncomputable def wstring (call : CallF) (n a : Nat) (b : ByteArray) (σ : Sto) : Option Res := wstringF call a b σ
theorem wstring_eqF (call : CallF) (n a : Nat) (b : ByteArray) (σ : Sto) : afun C wstringD call n [(V.ptr 75 a 0, false), (V.str b, false)] σ =
  wstringF call a b σ := by kernel_rfl
theorem wstring_eq (call : CallF) (n a : Nat) (b : ByteArray) (σ : Sto) : afun C wstringD call n [(V.ptr 75 a 0, false), (V.str b, false)] σ = wstring call n a b σ := wstring_eqF call n a b σ
theorem wstring_lim {n : Nat} {a : Nat} {b : ByteArray} {b0 b1 : Bool} {σ : Sto} {r : Res} (h : wstring (lim C) n a b σ = some r) : lim C 73 [(V.ptr 75 a 0, b0), (V.str b, b1)] σ = some r :=
 lim_of (d := wstringD) (by kernel_rfl) (by kernel_rfl) n (show afun C wstringD (lim C) n [(V.ptr 75 a 0, false), (V.str b, false)] σ = some r from (wstring_eq (lim C) n a b σ).trans h)
noncomputable def printF (call : CallF) (a : Int) (b : ByteArray) (c : LL) (σ : Sto) : Option Res :=
 callK call 85 [(V.ptr 75 (List.length σ) 0, false), (V.agg [V.int .i64 a, V.str b, V.slice 3 44 c], false)] (σ ++ [[(V.nilp, false), (V.slice 1 5 [], true)]]) 0 (fun g d =>
 callK call 56 [(V.ptr 75 (List.length σ) 0, false)] d 1 (fun e f =>
 some (.ret [((getD e 0 cellD).1, false)], f)) pnK) pnK
noncomputable def print (call : CallF) (n : Nat) (a : Int) (b : ByteArray) (c : LL) (σ : Sto) : Option Res := printF call a b c σ
theorem print_eqF (call : CallF) (n : Nat) (a : Int) (b : ByteArray) (c : LL) (σ : Sto) : afun C printD call n [(V.agg [V.int .i64 a, V.str b, V.slice 3 44 c], false)] σ =
  printF call a b c σ := by kernel_rfl
theorem print_eq (call : CallF) (n : Nat) (a : Int) (b : ByteArray) (c : LL) (σ : Sto) : afun C printD call n [(V.agg [V.int .i64 a, V.str b, V.slice 3 44 c], false)] σ = print call n a b c σ := print_eqF call n a b c σ
theorem print_lim {n : Nat} {a : Int} {b : ByteArray} {c : LL} {b0 : Bool} {σ : Sto} {r : Res} (h : print (lim C) n a b c σ = some r) : lim C 75 [(V.agg [V.int .i64 a, V.str b, V.slice 3 44 c], b0)] σ = some r :=
 lim_of (d := printD) (by kernel_rfl) (by kernel_rfl) n (show afun C printD (lim C) n [(V.agg [V.int .i64 a, V.str b, V.slice 3 44 c], false)] σ = some r from (print_eq (lim C) n a b c σ).trans h)
noncomputable def wbyteF (call : CallF) (a : Nat) (b : Int) (σ : Sto) : Option Res :=
 callK call 83 [(V.ptr 75 a 0, false)] σ 0 (fun d c =>
 (memTake c (V.ptr 75 a 1)).bind fun m4 =>
 (V.asSlice m4.1 1 5).bind fun l5 =>
 (grd (room (List.length l5 + 1))).bind fun _ =>
 (memSet m4.2 (V.ptr 75 a 1) [(V.slice 1 5 (l5 ++ [[V.int .u8 b]]), true)]).bind fun m6 =>
 some (.ret [(V.nilIface, false)], m6)) pnK
noncomputable def wbyte (call : CallF) (n a : Nat) (b : Int) (σ : Sto) : Option Res := wbyteF call a b σ
theorem wbyte_eqF (call : CallF) (n a : Nat) (b : Int) (σ : Sto) : afun C wbyteD call n [(V.ptr 75 a 0, false), (V.int .u8 b, false)] σ =
  wbyteF call a b σ := by kernel_rfl
theorem wbyte_eq (call : CallF) (n a : Nat) (b : Int) (σ : Sto) : afun C wbyteD call n [(V.ptr 75 a 0, false), (V.int .u8 b, false)] σ = wbyte call n a b σ := wbyte_eqF call n a b σ
theorem wbyte_lim {n : Nat} {a : Nat} {b : Int} {b0 b1 : Bool} {σ : Sto} {r : Res} (h : wbyte (lim C) n a b σ = some r) : lim C 76 [(V.ptr 75 a 0, b0), (V.int .u8 b, b1)] σ = some r :=
 lim_of (d := wbyteD) (by kernel_rfl) (by kernel_rfl) n (show afun C wbyteD (lim C) n [(V.ptr 75 a 0, false), (V.int .u8 b, false)] σ = some r from (wbyte_eq (lim C) n a b σ).trans h)
noncomputable def numberk0 : List Nat := [0, 3, 4]
noncomputable def numbers0 (call : CallF) (rec0 : ByteArray → Int → Int → RR) (b : ByteArray) (c a : Int) (σ : Sto) : Option Res :=
 bif (decide (a < (b.size : Int))) then
 (grd (decide (0 ≤ a) && decide (a < b.size))).bind fun _ =>
 rec0 b (wrap .i64 ((wrap .i64 ((10 : Int) * c)) + (wrap .i64 ((IntKind.wrap .u8 ((byteAt b a.toNat) - (48 : Int))))))) (wrap .i64 (a + (1 : Int))) σ
 else
 some (.ret [(V.int .i64 c, false)], σ)
noncomputable def numberl0 (call : CallF) (n : Nat) : Nat → ByteArray → Int → Int → RR
 | 0 => fun _ _ _ _ => none
 | m + 1 => numbers0 call (numberl0 call n m)
noncomputable def numbert0 (a : ByteArray) (b c : Int) (σ : Sto) : St := ⟨[.val (V.str a) false, .dead, .dead, .val (V.int .i64 b) false, .val (V.int .i64 c) false] ++ dd 15 [], nn 20 [], σ⟩
noncomputable def numberF (call : CallF) (L0 : ByteArray → Int → Int → RR) (a : ByteArray) (σ : Sto) : Option Res :=
 L0 a (0 : Int) (0 : Int) σ
noncomputable def number (call : CallF) (n : Nat) (a : ByteArray) (σ : Sto) : Option Res := numberF call (numberl0 call n n) a σ
theorem numbers0_eq (call : CallF) (n : Nat) (F0 : St → Option Res) (a : ByteArray) (b c : Int) (σ : Sto) :
  aexec C numberH call n (cp [0,0,1,0,1,1] numberC) 0 (numbert0 a b c σ) (kloop numberk0 F0 (kblk 0 (kseq (fun st' => aexec C numberH call n (cp [1,1,1] numberC) 0 st' (kfin C numberD)) (kfin C numberD)))) =
  numbers0 call (fun a b c σ => F0 (numbert0 a b c σ)) a b c σ := by kernel_rfl
theorem numberl0_eq (call : CallF) (n : Nat) : ∀ (m : Nat) (a : ByteArray) (b c : Int) (σ : Sto),
  aloop (fun st K => aexec C numberH call n (cp [0,0,1,0,1,1] numberC) 0 st K) numberk0 m (numbert0 a b c σ) (kblk 0 (kseq (fun st' => aexec C numberH call n (cp [1,1,1] numberC) 0 st' (kfin C numberD)) (kfin C numberD))) = numberl0 call n m a b c σ
 | 0, a, b, c, σ => rfl
 | m + 1, a, b, c, σ => by
  rw [aloop, numbers0_eq]
  simp only [numberl0_eq call n m]
  rfl
theorem number_eqF (call : CallF) (n : Nat) (a : ByteArray) (σ : Sto) : afun C numberD call n [(V.str a, false)] σ =
  numberF call (fun a b c σ => aloop (fun st K => aexec C numberH call n (cp [0,0,1,0,1,1] numberC) 0 st K) numberk0 n (numbert0 a b c σ) (kblk 0 (kseq (fun st' => aexec C numberH call n (cp [1,1,1] numberC) 0 st' (kfin C numberD)) (kfin C numberD)))) a σ := by kernel_rfl
theorem number_eq (call : CallF) (n : Nat) (a : ByteArray) (σ : Sto) : afun C numberD call n [(V.str a, false)] σ = number call n a σ := by
 rw [number_eqF]
 simp only [numberl0_eq]
 rfl
theorem number_lim {n : Nat} {a : ByteArray} {b0 : Bool} {σ : Sto} {r : Res} (h : number (lim C) n a σ = some r) : lim C 77 [(V.str a, b0)] σ = some r :=
 lim_of (d := numberD) (by kernel_rfl) (by kernel_rfl) n (show afun C numberD (lim C) n [(V.str a, false)] σ = some r from (number_eq (lim C) n a σ).trans h)
end Go.Ab.Mk
end
section
set_option maxRecDepth 100000
namespace Go.Ab.Mk
open Go.Proofs Go.Ab
open List (getD)
open IntKind (wrap)
noncomputable def rnameF (call : CallF) (b : Nat) (σ : Sto) : Option Res :=
 callK call 67 [(V.ptr 65 b 0, false)] σ 3 (fun a f =>
 callK call 68 [((getD a 0 cellD).1, false)] f 1 (fun g c =>
 (V.asBool (getD a 2 cellD).1).bind fun b7 =>
 bif (!b7) then
 callK call 70 [(V.ptr 65 b 0, false), ((getD a 1 cellD).1, false)] c 0 (fun h d =>
 (memGet d (V.ptr 65 b 2) false 1).bind fun m11 =>
 (V.asInt m11 .i64).bind fun i12 =>
 bif (i12 != (0 : Int)) then
 some (.ret [(V.str ⟨#[]⟩, false)], d)
 else
 (V.asStr (getD a 0 cellD).1).bind fun s13 =>
 (V.asInt (getD a 1 cellD).1 .i64).bind fun i14 =>
 (memSet d (V.ptr 65 b 1) [((V.int .i64 (wrap .i64 (i14 + (s13.size : Int)))), false)]).bind fun m15 =>
 some (.ret [((getD a 0 cellD).1, false)], m15)) pnK
 else
 (V.asBool (getD g 0 cellD).1).bind fun b16 =>
 bif (!b16) then
 callK call 70 [(V.ptr 65 b 0, false), ((getD a 1 cellD).1, false)] c 0 (fun i e =>
 (memGet e (V.ptr 65 b 2) false 1).bind fun m20 =>
 (V.asInt m20 .i64).bind fun i21 =>
 bif (i21 != (0 : Int)) then
 some (.ret [(V.str ⟨#[]⟩, false)], e)
 else
 (V.asStr (getD a 0 cellD).1).bind fun s22 =>
 (V.asInt (getD a 1 cellD).1 .i64).bind fun i23 =>
 (memSet e (V.ptr 65 b 1) [((V.int .i64 (wrap .i64 (i23 + (s22.size : Int)))), false)]).bind fun m24 =>
 some (.ret [((getD a 0 cellD).1, false)], m24)) pnK
 else
 (memGet c (V.ptr 65 b 2) false 1).bind fun m25 =>
 (V.asInt m25 .i64).bind fun i26 =>
 bif (i26 != (0 : Int)) then
 some (.ret [(V.str ⟨#[]⟩, false)], c)
 else
 (V.asStr (getD a 0 cellD).1).bind fun s27 =>
 (V.asInt (getD a 1 cellD).1 .i64).bind fun i28 =>
 (memSet c (V.ptr 65 b 1) [((V.int .i64 (wrap .i64 (i28 + (s27.size : Int)))), false)]).bind fun m29 =>
 some (.ret [((getD a 0 cellD).1, false)], m29)) pnK) pnK
noncomputable def rname (call : CallF) (n a : Nat) (σ : Sto) : Option Res := rnameF call a σ
theorem rname_eqF (call : CallF) (n a : Nat) (σ : Sto) : afun C rnameD call n [(V.ptr 65 a 0, false)] σ =
  rnameF call a σ := by kernel_rfl
theorem rname_eq (call : CallF) (n a : Nat) (σ : Sto) : afun C rnameD call n [(V.ptr 65 a 0, false)] σ = rname call n a σ := rname_eqF call n a σ
theorem rname_lim {n : Nat} {a : Nat} {b0 : Bool} {σ : Sto} {r : Res} (h : rname (lim C) n a σ = some r) : lim C 78 [(V.ptr 65 a 0, b0)] σ = some r :=
 lim_of (d := rnameD) (by kernel_rfl) (by kernel_rfl) n (show afun C rnameD (lim C) n [(V.ptr 65 a 0, false)] σ = some r from (rname_eq (lim C) n a σ).trans h)
noncomputable def rpeekF (call : CallF) (b : Nat) (σ : Sto) : Option Res :=
 callK call 67 [(V.ptr 65 b 0, false)] σ 3 (fun c a =>
 (V.asBool (getD c 2 cellD).1).bind fun b4 =>
 bif (!b4) then
 some (.ret [(V.str ⟨#[]⟩, false)], a)
 else
 (memGet a (V.ptr 65 b 2) false 1).bind fun m5 =>
 (V.asInt m5 .i64).bind fun i6 =>
 bif (i6 != (0 : Int)) then
 some (.ret [(V.str ⟨#[]⟩, false)], a)
 else
 some (.ret [((getD c 0 cellD).1, false)], a)) pnK
noncomputable def rpeek (call : CallF) (n a : Nat) (σ : Sto) : Option Res := rpeekF call a σ
theorem rpeek_eqF (call : CallF) (n a : Nat) (σ : Sto) : afun C rpeekD call n [(V.ptr 65 a 0, false)] σ =
  rpeekF call a σ := by kernel_rfl
theorem rpeek_eq (call : CallF) (n a : Nat) (σ : Sto) : afun C rpeekD call n [(V.ptr 65 a 0, false)] σ = rpeek call n a σ := rpeek_eqF call n a σ
theorem rpeek_lim {n : Nat} {a : Nat} {b0 : Bool} {σ : Sto} {r : Res} (h : rpeek (lim C) n a σ = some r) : lim C 79 [(V.ptr 65 a 0, b0)] σ = some r :=
 lim_of (d := rpeekD) (by kernel_rfl) (by kernel_rfl) n (show afun C rpeekD (lim C) n [(V.ptr 65 a 0, false)] σ = some r from (rpeek_eq (lim C) n a σ).trans h)
noncomputable def rleqk0 : List Nat := [2, 3, 5, 7, 8, 9]
noncomputable def rleqk1 : List Nat := [2, 3, 5, 7, 8, 10]
noncomputable def rleqk2 : List Nat := [2, 3, 5, 7, 8, 10, 11, 12, 13]
noncomputable def rleqs2 (call : CallF) (rec1 : V → LL → Int → Int → Int → ByteArray → LL → Int → ByteArray → LL → RR) (rec2 : V → LL → Int → Int → LL → Int → Int → Int → ByteArray → LL → Int → ByteArray → LL → RR) (a : V) (b : LL) (k o : Int) (d : LL) (c p e : Int) (f : ByteArray) (g : LL) (h : Int) (i : ByteArray) (j : LL) (σ : Sto) : Option Res :=
 (V.asSlice a 1 9).bind fun l1 =>
 bif (decide (p < (l1.length : Int))) then
 (grd (decide (0 ≤ (Int.tmod c (3 : Int))) && decide ((Int.tmod c (3 : Int)) < b.length))).bind fun _ =>
 (grd ((V.fits (getD (getD b (Int.toNat (Int.tmod c (3 : Int))) []) 0 V.any) false 1 && true))).bind fun _ =>
 (grd (room (List.length d + 1))).bind fun _ =>
 rec2 a b k o (d ++ [[(getD (getD b (Int.toNat (Int.tmod c (3 : Int))) []) 0 V.any)]]) (wrap .i64 (Int.tdiv c (3 : Int))) (wrap .i64 (p + (1 : Int))) e f g h i j σ
 else
 callK call 88 [(V.agg [V.int .i64 e, V.str f, V.slice 3 44 g], false), (a, false), (V.slice 1 3 d, false)] σ 1 (fun r s =>
 callK call 88 [(V.agg [V.int .i64 h, V.str i, V.slice 3 44 j], false), (a, false), (V.slice 1 3 d, false)] s 1 (fun t q =>
 (V.asInt (getD r 0 cellD).1 .i64).bind fun i8 =>
 (V.asInt (getD t 0 cellD).1 .i64).bind fun i9 =>
 bif (decide (i8 > i9)) then
 some (.ret [(V.bool false, false)], q)
 else
 rec1 a b k (wrap .i64 (o + (1 : Int))) e f g h i j q) pnK) pnK
noncomputable def rleql2 (call : CallF) (n : Nat) (rec1 : V → LL → Int → Int → Int → ByteArray → LL → Int → ByteArray → LL → RR) : Nat → V → LL → Int → Int → LL → Int → Int → Int → ByteArray → LL → Int → ByteArray → LL → RR
 | 0 => fun _ _ _ _ _ _ _ _ _ _ _ _ _ _ => none
 | m + 1 => rleqs2 call rec1 (rleql2 call n rec1 m)
noncomputable def rleqt2 (a : V) (b : LL) (c d : Int) (e : LL) (f g h : Int) (i : ByteArray) (j : LL) (k : Int) (o : ByteArray) (p : LL) (σ : Sto) : St := ⟨[.dead, .dead, .lptr 2 0, .lptr 3 0, .dead, .val a true, .dead, .val (V.slice 1 3 b) true, .val (V.int .i64 c) false, .dead, .val (V.int .i64 d) false, .val (V.slice 1 3 e) true, .val (V.int .i64 f) false, .val (V.int .i64 g) false] ++ dd 51 [], [[], [], [(V.int .i64 h, false), (V.str i, false), (V.slice 3 44 j, false)], [(V.int .i64 k, false), (V.str o, false), (V.slice 3 44 p, false)]] ++ nn 61 [], σ⟩
noncomputable def rleqs1 (call : CallF) (L2 : V → LL → Int → Int → LL → Int → Int → Int → ByteArray → LL → Int → ByteArray → LL → RR) (rec1 : V → LL → Int → Int → Int → ByteArray → LL → Int → ByteArray → LL → RR) (c : V) (d : LL) (b a e : Int) (f : ByteArray) (g : LL) (h : Int) (i : ByteArray) (j : LL) (σ : Sto) : Option Res :=
 bif (decide (a < b)) then
 L2 c d b a [] a (0 : Int) e f g h i j σ
 else
 some (.ret [(V.bool true, false)], σ)
noncomputable def rleql1 (call : CallF) (n : Nat) : Nat → V → LL → Int → Int → Int → ByteArray → LL → Int → ByteArray → LL → RR
 | 0 => fun _ _ _ _ _ _ _ _ _ _ _ => none
 | m + 1 => rleqs1 call (rleql2 call n (rleql1 call n m) n) (rleql1 call n m)
noncomputable def rleqt1 (a : V) (b : LL) (c d e : Int) (f : ByteArray) (g : LL) (h : Int) (i : ByteArray) (j : LL) (σ : Sto) : St := ⟨[.dead, .dead, .lptr 2 0, .lptr 3 0, .dead, .val a true, .dead, .val (V.slice 1 3 b) true, .val (V.int .i64 c) false, .dead, .val (V.int .i64 d) false] ++ dd 54 [], [[], [], [(V.int .i64 e, false), (V.str f, false), (V.slice 3 44 g, false)], [(V.int .i64 h, false), (V.str i, false), (V.slice 3 44 j, false)]] ++ nn 61 [], σ⟩
noncomputable def rleqs0 (call : CallF) (L1 rec0 : V → LL → Int → Int → Int → ByteArray → LL → Int → ByteArray → LL → RR) (a : V) (b : LL) (c d e : Int) (f : ByteArray) (g : LL) (h : Int) (i : ByteArray) (j : LL) (σ : Sto) : Option Res :=
 (V.asSlice a 1 9).bind fun l1 =>
 bif (decide (d < (l1.length : Int))) then
 rec0 a b (wrap .i64 (c * (3 : Int))) (wrap .i64 (d + (1 : Int))) e f g h i j σ
 else
 L1 a b c (0 : Int) e f g h i j σ
noncomputable def rleql0 (call : CallF) (n : Nat) : Nat → V → LL → Int → Int → Int → ByteArray → LL → Int → ByteArray → LL → RR
 | 0 => fun _ _ _ _ _ _ _ _ _ _ _ => none
 | m + 1 => rleqs0 call (rleql1 call n n) (rleql0 call n m)
noncomputable def rleqt0 (a : V) (b : LL) (c d e : Int) (f : ByteArray) (g : LL) (h : Int) (i : ByteArray) (j : LL) (σ : Sto) : St := ⟨[.dead, .dead, .lptr 2 0, .lptr 3 0, .dead, .val a true, .dead, .val (V.slice 1 3 b) true, .val (V.int .i64 c) false, .val (V.int .i64 d) false] ++ dd 55 [], [[], [], [(V.int .i64 e, false), (V.str f, false), (V.slice 3 44 g, false)], [(V.int .i64 h, false), (V.str i, false), (V.slice 3 44 j, false)]] ++ nn 61 [], σ⟩
noncomputable def rleqF (call : CallF) (L0 : V → LL → Int → Int → Int → ByteArray → LL → Int → ByteArray → LL → RR) (a : Int) (b : ByteArray) (c : LL) (d : Int) (e : ByteArray) (f : LL) (σ : Sto) : Option Res :=
 callK call 46 [(V.agg [V.int .i64 a, V.str b, V.slice 3 44 c], false), (V.slice 1 9 [], true)] σ 1 (fun g i =>
 (grd ((getD g 0 cellD).2 && true)).bind fun _ =>
 callK call 46 [(V.agg [V.int .i64 d, V.str e, V.slice 3 44 f], false), ((getD g 0 cellD).1, true)] i 1 (fun h j =>
 (grd ((getD h 0 cellD).2 && true)).bind fun _ =>
 callK call 87 [(V.agg [V.int .i64 a, V.str b, V.slice 3 44 c], false)] j 1 (fun k o =>
 (V.asInt (getD k 0 cellD).1 .i64).bind fun i10 =>
 callK call 87 [(V.agg [V.int .i64 d, V.str e, V.slice 3 44 f], false)] o 1 (fun p q =>
 (V.asInt (getD p 0 cellD).1 .i64).bind fun i14 =>
 L0 (getD h 0 cellD).1 [[(V.int .i64 (0 : Int))], [(V.int .i64 (1 : Int))], [(V.int .i64 (wrap .i64 ((wrap .i64 ((2 : Int) + i10)) + i14)))]] (1 : Int) (0 : Int) a b c d e f q) pnK) pnK) pnK) pnK
noncomputable def rleq (call : CallF) (n : Nat) (a : Int) (b : ByteArray) (c : LL) (d : Int) (e : ByteArray) (f : LL) (σ : Sto) : Option Res := rleqF call (rleql0 call n n) a b c d e f σ
theorem rleqs2_eq (call : CallF) (n : Nat) (F1 F2 : St → Option Res) (a : V) (b : LL) (c d : Int) (k : LL) (o p e : Int) (f : ByteArray) (g : LL) (h : Int) (i : ByteArray) (j : LL) (σ : Sto) :
  aexec C rleqH call n (cp [0,0,1,0,1,1,0,0,1,0,0,1,0,1,1,1,1,1,1] rleqC) 0 (rleqt2 a b c d k o p e f g h i j σ) (kloop rleqk2 F2 (kblk 4 (kseq (fun st' => aexec C rleqH call n (cp [1,1,1,0,0,1,0,0,1,0,1,1,1,1,1,1] rleqC) 0 st' (kblk 3 (kseq (fun st' => aexec C rleqH call n (cp [1,1,0,0,1,0,1,1,1,1,1,1] rleqC) 0 st' (kloop rleqk1 F1 (kblk 2 (kseq (fun st' => aexec C rleqH call n (cp [1,1,1,1,1,1,1] rleqC) 0 st' (kfin C rleqD)) (kfin C rleqD))))) (kloop rleqk1 F1 (kblk 2 (kseq (fun st' => aexec C rleqH call n (cp [1,1,1,1,1,1,1] rleqC) 0 st' (kfin C rleqD)) (kfin C rleqD))))))) (kblk 3 (kseq (fun st' => aexec C rleqH call n (cp [1,1,0,0,1,0,1,1,1,1,1,1] rleqC) 0 st' (kloop rleqk1 F1 (kblk 2 (kseq (fun st' => aexec C rleqH call n (cp [1,1,1,1,1,1,1] rleqC) 0 st' (kfin C rleqD)) (kfin C rleqD))))) (kloop rleqk1 F1 (kblk 2 (kseq (fun st' => aexec C rleqH call n (cp [1,1,1,1,1,1,1] rleqC) 0 st' (kfin C rleqD)) (kfin C rleqD))))))))) =
  rleqs2 call (fun a b c d e f g h i j σ => F1 (rleqt1 a b c d e f g h i j σ)) (fun a b c d k o p e f g h i j σ => F2 (rleqt2 a b c d k o p e f g h i j σ)) a b c d k o p e f g h i j σ := by kernel_rfl
theorem rleql2_eq (call : CallF) (n : Nat) (F1 : St → Option Res) : ∀ (m : Nat) (a : V) (b : LL) (c d : Int) (k : LL) (o p e : Int) (f : ByteArray) (g : LL) (h : Int) (i : ByteArray) (j : LL) (σ : Sto),
  aloop (fun st K => aexec C rleqH call n (cp [0,0,1,0,1,1,0,0,1,0,0,1,0,1,1,1,1,1,1] rleqC) 0 st K) rleqk2 m (rleqt2 a b c d k o p e f g h i j σ) (kblk 4 (kseq (fun st' => aexec C rleqH call n (cp [1,1,1,0,0,1,0,0,1,0,1,1,1,1,1,1] rleqC) 0 st' (kblk 3 (kseq (fun st' => aexec C rleqH call n (cp [1,1,0,0,1,0,1,1,1,1,1,1] rleqC) 0 st' (kloop rleqk1 F1 (kblk 2 (kseq (fun st' => aexec C rleqH call n (cp [1,1,1,1,1,1,1] rleqC) 0 st' (kfin C rleqD)) (kfin C rleqD))))) (kloop rleqk1 F1 (kblk 2 (kseq (fun st' => aexec C rleqH call n (cp [1,1,1,1,1,1,1] rleqC) 0 st' (kfin C rleqD)) (kfin C rleqD))))))) (kblk 3 (kseq (fun st' => aexec C rleqH call n (cp [1,1,0,0,1,0,1,1,1,1,1,1] rleqC) 0 st' (kloop rleqk1 F1 (kblk 2 (kseq (fun st' => aexec C rleqH call n (cp [1,1,1,1,1,1,1] rleqC) 0 st' (kfin C rleqD)) (kfin C rleqD))))) (kloop rleqk1 F1 (kblk 2 (kseq (fun st' => aexec C rleqH call n (cp [1,1,1,1,1,1,1] rleqC) 0 st' (kfin C rleqD)) (kfin C rleqD)))))))) = rleql2 call n (fun a b c d e f g h i j σ => F1 (rleqt1 a b c d e f g h i j σ)) m a b c d k o p e f g h i j σ
 | 0, a, b, c, d, k, o, p, e, f, g, h, i, j, σ => rfl
 | m + 1, a, b, c, d, k, o, p, e, f, g, h, i, j, σ => by
  rw [aloop, rleqs2_eq]
  simp only [rleql2_eq call n F1 m]
  rfl
theorem rleqs1_eq (call : CallF) (n : Nat) (F1 : St → Option Res) (a : V) (b : LL) (c d e : Int) (f : ByteArray) (g : LL) (h : Int) (i : ByteArray) (j : LL) (σ : Sto) :
  aexec C rleqH call n (cp [0,0,1,0,1,1,1,1,1,1] rleqC) 0 (rleqt1 a b c d e f g h i j σ) (kloop rleqk1 F1 (kblk 2 (kseq (fun st' => aexec C rleqH call n (cp [1,1,1,1,1,1,1] rleqC) 0 st' (kfin C rleqD)) (kfin C rleqD)))) =
  rleqs1 call (fun a b c d k o p e f g h i j σ => aloop (fun st K => aexec C rleqH call n (cp [0,0,1,0,1,1,0,0,1,0,0,1,0,1,1,1,1,1,1] rleqC) 0 st K) rleqk2 n (rleqt2 a b c d k o p e f g h i j σ) (kblk 4 (kseq (fun st' => aexec C rleqH call n (cp [1,1,1,0,0,1,0,0,1,0,1,1,1,1,1,1] rleqC) 0 st' (kblk 3 (kseq (fun st' => aexec C rleqH call n (cp [1,1,0,0,1,0,1,1,1,1,1,1] rleqC) 0 st' (kloop rleqk1 F1 (kblk 2 (kseq (fun st' => aexec C rleqH call n (cp [1,1,1,1,1,1,1] rleqC) 0 st' (kfin C rleqD)) (kfin C rleqD))))) (kloop rleqk1 F1 (kblk 2 (kseq (fun st' => aexec C rleqH call n (cp [1,1,1,1,1,1,1] rleqC) 0 st' (kfin C rleqD)) (kfin C rleqD))))))) (kblk 3 (kseq (fun st' => aexec C rleqH call n (cp [1,1,0,0,1,0,1,1,1,1,1,1] rleqC) 0 st' (kloop rleqk1 F1 (kblk 2 (kseq (fun st' => aexec C rleqH call n (cp [1,1,1,1,1,1,1] rleqC) 0 st' (kfin C rleqD)) (kfin C rleqD))))) (kloop rleqk1 F1 (kblk 2 (kseq (fun st' => aexec C rleqH call n (cp [1,1,1,1,1,1,1] rleqC) 0 st' (kfin C rleqD)) (kfin C rleqD))))))))) (fun a b c d e f g h i j σ => F1 (rleqt1 a b c d e f g h i j σ)) a b c d e f g h i j σ := by kernel_rfl
theorem rleql1_eq (call : CallF) (n : Nat) : ∀ (m : Nat) (a : V) (b : LL) (c d e : Int) (f : ByteArray) (g : LL) (h : Int) (i : ByteArray) (j : LL) (σ : Sto),
  aloop (fun st K => aexec C rleqH call n (cp [0,0,1,0,1,1,1,1,1,1] rleqC) 0 st K) rleqk1 m (rleqt1 a b c d e f g h i j σ) (kblk 2 (kseq (fun st' => aexec C rleqH call n (cp [1,1,1,1,1,1,1] rleqC) 0 st' (kfin C rleqD)) (kfin C rleqD))) = rleql1 call n m a b c d e f g h i j σ
 | 0, a, b, c, d, e, f, g, h, i, j, σ => rfl
 | m + 1, a, b, c, d, e, f, g, h, i, j, σ => by
  rw [aloop, rleqs1_eq]
  simp only [rleql1_eq call n m, rleql2_eq]
  rfl
theorem rleqs0_eq (call : CallF) (n : Nat) (F0 : St → Option Res) (a : V) (b : LL) (c j d : Int) (e : ByteArray) (f : LL) (g : Int) (h : ByteArray) (i : LL) (σ : Sto) :
  aexec C rleqH call n (cp [0,0,1,0,1,1,1,1,1] rleqC) 0 (rleqt0 a b c j d e f g h i σ) (kloop rleqk0 F0 (kblk 0 (kseq (fun st' => aexec C rleqH call n (cp [1,1,1,1,1,1] rleqC) 0 st' (kfin C rleqD)) (kfin C rleqD)))) =
  rleqs0 call (fun a b c k d e f g h i σ => aloop (fun st K => aexec C rleqH call n (cp [0,0,1,0,1,1,1,1,1,1] rleqC) 0 st K) rleqk1 n (rleqt1 a b c k d e f g h i σ) (kblk 2 (kseq (fun st' => aexec C rleqH call n (cp [1,1,1,1,1,1,1] rleqC) 0 st' (kfin C rleqD)) (kfin C rleqD)))) (fun a b c j d e f g h i σ => F0 (rleqt0 a b c j d e f g h i σ)) a b c j d e f g h i σ := by kernel_rfl
theorem rleql0_eq (call : CallF) (n : Nat) : ∀ (m : Nat) (a : V) (b : LL) (c d e : Int) (f : ByteArray) (g : LL) (h : Int) (i : ByteArray) (j : LL) (σ : Sto),
  aloop (fun st K => aexec C rleqH call n (cp [0,0,1,0,1,1,1,1,1] rleqC) 0 st K) rleqk0 m (rleqt0 a b c d e f g h i j σ) (kblk 0 (kseq (fun st' => aexec C rleqH call n (cp [1,1,1,1,1,1] rleqC) 0 st' (kfin C rleqD)) (kfin C rleqD))) = rleql0 call n m a b c d e f g h i j σ
 | 0, a, b, c, d, e, f, g, h, i, j, σ => rfl
 | m + 1, a, b, c, d, e, f, g, h, i, j, σ => by
  rw [aloop, rleqs0_eq]
  simp only [rleql0_eq call n m, rleql1_eq]
  rfl
theorem rleq_eqF (call : CallF) (n : Nat) (a : Int) (b : ByteArray) (c : LL) (d : Int) (e : ByteArray) (f : LL) (σ : Sto) : afun C rleqD call n [(V.agg [V.int .i64 a, V.str b, V.slice 3 44 c], false), (V.agg [V.int .i64 d, V.str e, V.slice 3 44 f], false)] σ =
  rleqF call (fun g h i j k o p q r s σ => aloop (fun st K => aexec C rleqH call n (cp [0,0,1,0,1,1,1,1,1] rleqC) 0 st K) rleqk0 n (rleqt0 g h i j k o p q r s σ) (kblk 0 (kseq (fun st' => aexec C rleqH call n (cp [1,1,1,1,1,1] rleqC) 0 st' (kfin C rleqD)) (kfin C rleqD)))) a b c d e f σ := by kernel_rfl
theorem rleq_eq (call : CallF) (n : Nat) (a : Int) (b : ByteArray) (c : LL) (d : Int) (e : ByteArray) (f : LL) (σ : Sto) : afun C rleqD call n [(V.agg [V.int .i64 a, V.str b, V.slice 3 44 c], false), (V.agg [V.int .i64 d, V.str e, V.slice 3 44 f], false)] σ = rleq call n a b c d e f σ := by
 rw [rleq_eqF]
 simp only [rleql0_eq]
 rfl
theorem rleq_lim {n : Nat} {a : Int} {b : ByteArray} {c : LL} {e : Int} {f : ByteArray} {g : LL} {b0 b1 : Bool} {σ : Sto} {r : Res} (h : rleq (lim C) n a b c e f g σ = some r) : lim C 81 [(V.agg [V.int .i64 a, V.str b, V.slice 3 44 c], b0), (V.agg [V.int .i64 e, V.str f, V.slice 3 44 g], b1)] σ = some r :=
 lim_of (d := rleqD) (by kernel_rfl) (by kernel_rfl) n (show afun C rleqD (lim C) n [(V.agg [V.int .i64 a, V.str b, V.slice 3 44 c], false), (V.agg [V.int .i64 e, V.str f, V.slice 3 44 g], false)] σ = some r from (rleq_eq (lim C) n a b c e f g σ).trans h)
noncomputable def nameByteF (call : CallF) (a : Int) (b : Bool) (σ : Sto) : Option Res :=
 bif (decide (a ≥ (97 : Int))) then
 bif (decide (a ≤ (122 : Int))) then
 some (.ret [(V.bool true, false)], σ)
 else
 bif (decide (a ≥ (65 : Int))) then
 bif (decide (a ≤ (90 : Int))) then
 some (.ret [(V.bool true, false)], σ)
 else
 bif (a == (95 : Int)) then
 some (.ret [(V.bool true, false)], σ)
 else
 bif (!b) then
 bif (decide (a ≥ (48 : Int))) then
 bif (decide (a ≤ (57 : Int))) then
 some (.ret [(V.bool true, false)], σ)
 else
 bif (a == (46 : Int)) then
 some (.ret [(V.bool true, false)], σ)
 else
 some (.ret [((V.bool (a == (39 : Int))), false)], σ)
 else
 bif (a == (46 : Int)) then
 some (.ret [(V.bool true, false)], σ)
 else
 some (.ret [((V.bool (a == (39 : Int))), false)], σ)
 else
 some (.ret [(V.bool false, false)], σ)
 else
 bif (a == (95 : Int)) then
 some (.ret [(V.bool true, false)], σ)
 else
 bif (!b) then
 bif (decide (a ≥ (48 : Int))) then
 bif (decide (a ≤ (57 : Int))) then
 some (.ret [(V.bool true, false)], σ)
 else
 bif (a == (46 : Int)) then
 some (.ret [(V.bool true, false)], σ)
 else
 some (.ret [((V.bool (a == (39 : Int))), false)], σ)
 else
 bif (a == (46 : Int)) then
 some (.ret [(V.bool true, false)], σ)
 else
 some (.ret [((V.bool (a == (39 : Int))), false)], σ)
 else
 some (.ret [(V.bool false, false)], σ)
 else
 bif (decide (a ≥ (65 : Int))) then
 bif (decide (a ≤ (90 : Int))) then
 some (.ret [(V.bool true, false)], σ)
 else
 bif (a == (95 : Int)) then
 some (.ret [(V.bool true, false)], σ)
 else
 bif (!b) then
 bif (decide (a ≥ (48 : Int))) then
 bif (decide (a ≤ (57 : Int))) then
 some (.ret [(V.bool true, false)], σ)
 else
 bif (a == (46 : Int)) then
 some (.ret [(V.bool true, false)], σ)
 else
 some (.ret [((V.bool (a == (39 : Int))), false)], σ)
 else
 bif (a == (46 : Int)) then
 some (.ret [(V.bool true, false)], σ)
 else
 some (.ret [((V.bool (a == (39 : Int))), false)], σ)
 else
 some (.ret [(V.bool false, false)], σ)
 else
 bif (a == (95 : Int)) then
 some (.ret [(V.bool true, false)], σ)
 else
 bif (!b) then
 bif (decide (a ≥ (48 : Int))) then
 bif (decide (a ≤ (57 : Int))) then
 some (.ret [(V.bool true, false)], σ)
 else
 bif (a == (46 : Int)) then
 some (.ret [(V.bool true, false)], σ)
 else
 some (.ret [((V.bool (a == (39 : Int))), false)], σ)
 else
 bif (a == (46 : Int)) then
 some (.ret [(V.bool true, false)], σ)
 else
 some (.ret [((V.bool (a == (39 : Int))), false)], σ)
 else
 some (.ret [(V.bool false, false)], σ)
noncomputable def nameByte (call : CallF) (n : Nat) (a : Int) (b : Bool) (σ : Sto) : Option Res := nameByteF call a b σ
theorem nameByte_eqF (call : CallF) (n : Nat) (a : Int) (b : Bool) (σ : Sto) : afun C nameByteD call n [(V.int .u8 a, false), (V.bool b, false)] σ =
  nameByteF call a b σ := by kernel_rfl
theorem nameByte_eq (call : CallF) (n : Nat) (a : Int) (b : Bool) (σ : Sto) : afun C nameByteD call n [(V.int .u8 a, false), (V.bool b, false)] σ = nameByte call n a b σ := nameByte_eqF call n a b σ
theorem nameByte_lim {n : Nat} {a : Int} {b : Bool} {b0 b1 : Bool} {σ : Sto} {r : Res} (h : nameByte (lim C) n a b σ = some r) : lim C 82 [(V.int .u8 a, b0), (V.bool b, b1)] σ = some r :=
 lim_of (d := nameByteD) (by kernel_rfl) (by kernel_rfl) n (show afun C nameByteD (lim C) n [(V.int .u8 a, false), (V.bool b, false)] σ = some r from (nameByte_eq (lim C) n a b σ).trans h)
noncomputable def writek0 : List Nat := [0, 16, 17, 18]
noncomputable def writes0 (call : CallF) (rec0 : Nat → LL → Int → Int → RR) (c : Nat) (b : LL) (d a : Int) (σ : Sto) : Option Res :=
 bif (decide (a < d)) then
 (grd (decide (0 ≤ a) && decide (a < b.length))).bind fun _ =>
 callK call 76 [(V.ptr 75 c 0, false), ((V.int .u8 (32 : Int)), false)] σ 1 (fun h e =>
 callK call 85 [(V.ptr 75 c 0, false), (V.agg [(getD (getD b a.toNat []) 0 V.any), (getD (getD b a.toNat []) 1 V.any), (getD (getD b a.toNat []) 2 V.any)], false)] e 0 (fun i f =>
 rec0 c b d (wrap .i64 (a + (1 : Int))) f) pnK) pnK
 else
 callK call 76 [(V.ptr 75 c 0, false), ((V.int .u8 (41 : Int)), false)] σ 1 (fun j g =>
 some (.ret [], g)) pnK
noncomputable def writel0 (call : CallF) (n : Nat) : Nat → Nat → LL → Int → Int → RR
 | 0 => fun _ _ _ _ _ => none
 | m + 1 => writes0 call (writel0 call n m)
noncomputable def writet0 (a : Nat) (b : LL) (c d : Int) (σ : Sto) : St := ⟨[.val (V.ptr 75 a 0) false] ++ dd 15 ([.val (V.slice 3 44 b) false, .val (V.int .i64 c) false, .val (V.int .i64 d) false] ++ dd 21 []), nn 40 [], σ⟩
noncomputable def writeF (call : CallF) (L0 : Nat → LL → Int → Int → RR) (b : Nat) (a : Int) (d : ByteArray) (c : LL) (σ : Sto) : Option Res :=
 bif (a == (0 : Int)) then
 callK call 73 [(V.ptr 75 b 0, false), (V.str ⟨#[48]⟩, false)] σ 2 (fun h e =>
 some (.ret [], e)) pnK
 else
 bif (a == (4 : Int)) then
 callK call 73 [(V.ptr 75 b 0, false), (V.str d, false)] σ 2 (fun i f =>
 some (.ret [], f)) pnK
 else
 (grd (decide (0 ≤ a) && decide (a < 4))).bind fun _ =>
 (memGet [] (V.eptr 4 [V.str ⟨#[]⟩, V.str ⟨#[115]⟩, V.str ⟨#[109, 97, 120]⟩, V.str ⟨#[105, 109, 97, 120]⟩] (0 + Int.toNat a * 1)) false 1).bind fun m7 =>
 (V.asStr m7).bind fun s8 =>
 (grd (strRoom (ByteArray.mk #[40]) s8)).bind fun _ =>
 callK call 73 [(V.ptr 75 b 0, false), (V.str ((ByteArray.mk #[40]) ++ s8), false)] σ 2 (fun j g =>
 L0 b c (c.length : Int) (0 : Int) g) pnK
noncomputable def write (call : CallF) (n a : Nat) (b : Int) (c : ByteArray) (d : LL) (σ : Sto) : Option Res := writeF call (writel0 call n n) a b c d σ
theorem writes0_eq (call : CallF) (n : Nat) (F0 : St → Option Res) (a : Nat) (b : LL) (c d : Int) (σ : Sto) :
  aexec C writeH call n (cp [0,0,1,0,1,1,1,1,1,0,1,1] writeC) 0 (writet0 a b c d σ) (kloop writek0 F0 (kblk 1 (kseq (fun st' => aexec C writeH call n (cp [1,1,1,1,1,1,0,1,1] writeC) 0 st' (kblk 0 (kfin C writeD))) (kblk 0 (kfin C writeD))))) =
  writes0 call (fun a b c d σ => F0 (writet0 a b c d σ)) a b c d σ := by kernel_rfl
theorem writel0_eq (call : CallF) (n : Nat) : ∀ (m a : Nat) (b : LL) (c d : Int) (σ : Sto),
  aloop (fun st K => aexec C writeH call n (cp [0,0,1,0,1,1,1,1,1,0,1,1] writeC) 0 st K) writek0 m (writet0 a b c d σ) (kblk 1 (kseq (fun st' => aexec C writeH call n (cp [1,1,1,1,1,1,0,1,1] writeC) 0 st' (kblk 0 (kfin C writeD))) (kblk 0 (kfin C writeD)))) = writel0 call n m a b c d σ
 | 0, a, b, c, d, σ => rfl
 | m + 1, a, b, c, d, σ => by
  rw [aloop, writes0_eq]
  simp only [writel0_eq call n m]
  rfl
theorem write_eqF (call : CallF) (n a : Nat) (b : Int) (c : ByteArray) (d : LL) (σ : Sto) : afun C writeD call n [(V.ptr 75 a 0, false), (V.agg [V.int .i64 b, V.str c, V.slice 3 44 d], false)] σ =
  writeF call (fun a e f g σ => aloop (fun st K => aexec C writeH call n (cp [0,0,1,0,1,1,1,1,1,0,1,1] writeC) 0 st K) writek0 n (writet0 a e f g σ) (kblk 1 (kseq (fun st' => aexec C writeH call n (cp [1,1,1,1,1,1,0,1,1] writeC) 0 st' (kblk 0 (kfin C writeD))) (kblk 0 (kfin C writeD))))) a b c d σ := by kernel_rfl
theorem write_eq (call : CallF) (n a : Nat) (b : Int) (c : ByteArray) (d : LL) (σ : Sto) : afun C writeD call n [(V.ptr 75 a 0, false), (V.agg [V.int .i64 b, V.str c, V.slice 3 44 d], false)] σ = write call n a b c d σ := by
 rw [write_eqF]
 simp only [writel0_eq]
 rfl
theorem write_lim {n : Nat} {a : Nat} {b : Int} {c : ByteArray} {e : LL} {b0 b1 : Bool} {σ : Sto} {r : Res} (h : write (lim C) n a b c e σ = some r) : lim C 85 [(V.ptr 75 a 0, b0), (V.agg [V.int .i64 b, V.str c, V.slice 3 44 e], b1)] σ = some r :=
 lim_of (d := writeD) (by kernel_rfl) (by kernel_rfl) n (show afun C writeD (lim C) n [(V.ptr 75 a 0, false), (V.agg [V.int .i64 b, V.str c, V.slice 3 44 e], false)] σ = some r from (write_eq (lim C) n a b c e σ).trans h)
noncomputable def succsk0 : List Nat := [1, 3, 4]
noncomputable def succss0 (call : CallF) (rec0 : Int → Int → Int → ByteArray → LL → RR) (c a d : Int) (e : ByteArray) (b : LL) (σ : Sto) : Option Res :=
 bif (decide (a < (b.length : Int))) then
 (grd (decide (0 ≤ a) && decide (a < b.length))).bind fun _ =>
 callK call 87 [(V.agg [(getD (getD b a.toNat []) 0 V.any), (getD (getD b a.toNat []) 1 V.any), (getD (getD b a.toNat []) 2 V.any)], false)] σ 1 (fun f g =>
 (V.asInt (getD f 0 cellD).1 .i64).bind fun i4 =>
 rec0 (wrap .i64 (c + i4)) (wrap .i64 (a + (1 : Int))) d e b g) pnK
 else
 some (.ret [(V.int .i64 c, false)], σ)
noncomputable def succsl0 (call : CallF) (n : Nat) : Nat → Int → Int → Int → ByteArray → LL → RR
 | 0 => fun _ _ _ _ _ _ => none
 | m + 1 => succss0 call (succsl0 call n m)
noncomputable def succst0 (a b c : Int) (d : ByteArray) (e : LL) (σ : Sto) : St := ⟨[.dead, .lptr 1 0, .dead, .val (V.int .i64 a) false, .val (V.int .i64 b) false] ++ dd 19 [], [[], [(V.int .i64 c, false), (V.str d, false), (V.slice 3 44 e, false)]] ++ nn 22 [], σ⟩
noncomputable def succsF (call : CallF) (L0 : Int → Int → Int → ByteArray → LL → RR) (a : Int) (b : ByteArray) (c : LL) (σ : Sto) : Option Res :=
 bif (a == (1 : Int)) then
 L0 (1 : Int) (0 : Int) a b c σ
 else
 L0 (0 : Int) (0 : Int) a b c σ
noncomputable def succs (call : CallF) (n : Nat) (a : Int) (b : ByteArray) (c : LL) (σ : Sto) : Option Res := succsF call (succsl0 call n n) a b c σ
theorem succss0_eq (call : CallF) (n : Nat) (F0 : St → Option Res) (a b c : Int) (d : ByteArray) (e : LL) (σ : Sto) :
  aexec C succsH call n (cp [0,0,1,0,1,1,1] succsC) 0 (succst0 a b c d e σ) (kloop succsk0 F0 (kblk 0 (kseq (fun st' => aexec C succsH call n (cp [1,1,1,1] succsC) 0 st' (kfin C succsD)) (kfin C succsD)))) =
  succss0 call (fun a b c d e σ => F0 (succst0 a b c d e σ)) a b c d e σ := by kernel_rfl
theorem succsl0_eq (call : CallF) (n : Nat) : ∀ (m : Nat) (a b c : Int) (d : ByteArray) (e : LL) (σ : Sto),
  aloop (fun st K => aexec C succsH call n (cp [0,0,1,0,1,1,1] succsC) 0 st K) succsk0 m (succst0 a b c d e σ) (kblk 0 (kseq (fun st' => aexec C succsH call n (cp [1,1,1,1] succsC) 0 st' (kfin C succsD)) (kfin C succsD))) = succsl0 call n m a b c d e σ
 | 0, a, b, c, d, e, σ => rfl
 | m + 1, a, b, c, d, e, σ => by
  rw [aloop, succss0_eq]
  simp only [succsl0_eq call n m]
  rfl
theorem succs_eqF (call : CallF) (n : Nat) (a : Int) (b : ByteArray) (c : LL) (σ : Sto) : afun C succsD call n [(V.agg [V.int .i64 a, V.str b, V.slice 3 44 c], false)] σ =
  succsF call (fun d e f g h σ => aloop (fun st K => aexec C succsH call n (cp [0,0,1,0,1,1,1] succsC) 0 st K) succsk0 n (succst0 d e f g h σ) (kblk 0 (kseq (fun st' => aexec C succsH call n (cp [1,1,1,1] succsC) 0 st' (kfin C succsD)) (kfin C succsD)))) a b c σ := by kernel_rfl
theorem succs_eq (call : CallF) (n : Nat) (a : Int) (b : ByteArray) (c : LL) (σ : Sto) : afun C succsD call n [(V.agg [V.int .i64 a, V.str b, V.slice 3 44 c], false)] σ = succs call n a b c σ := by
 rw [succs_eqF]
 simp only [succsl0_eq]
 rfl
theorem succs_lim {n : Nat} {a : Int} {b : ByteArray} {c : LL} {b0 : Bool} {σ : Sto} {r : Res} (h : succs (lim C) n a b c σ = some r) : lim C 87 [(V.agg [V.int .i64 a, V.str b, V.slice 3 44 c], b0)] σ = some r :=
 lim_of (d := succsD) (by kernel_rfl) (by kernel_rfl) n (show afun C succsD (lim C) n [(V.agg [V.int .i64 a, V.str b, V.slice 3 44 c], false)] σ = some r from (succs_eq (lim C) n a b c σ).trans h)
noncomputable def rworthk0 : List Nat := [1, 2, 3, 7]
noncomputable def rworths0 (call : CallF) (rec0 : LL → LL → Int → Int → ByteArray → LL → RR) (b c : LL) (a e : Int) (d : ByteArray) (f : LL) (σ : Sto) : Option Res :=
 bif (decide (a < (b.length : Int))) then
 (grd (decide (0 ≤ a) && decide (a < b.length))).bind fun _ =>
 (V.asStr (getD (getD b a.toNat []) 0 V.any)).bind fun s1 =>
 bif (s1.toList == d.toList) then
 (grd (decide (0 ≤ a) && decide (a < c.length))).bind fun _ =>
 some (.ret [((getD (getD c a.toNat []) 0 V.any), false)], σ)
 else
 rec0 b c (wrap .i64 (a + (1 : Int))) e d f σ
 else
 some (.ret [((V.int .i64 (0 : Int)), false)], σ)
noncomputable def rworthl0 (call : CallF) (n : Nat) : Nat → LL → LL → Int → Int → ByteArray → LL → RR
 | 0 => fun _ _ _ _ _ _ _ => none
 | m + 1 => rworths0 call (rworthl0 call n m)
noncomputable def rwortht0 (a b : LL) (c d : Int) (e : ByteArray) (f : LL) (σ : Sto) : St := ⟨[.dead, .val (V.slice 1 9 a) false, .val (V.slice 1 3 b) false, .lptr 3 0, .dead, .dead, .dead, .val (V.int .i64 c) false] ++ dd 61 [], [[], [], [], [(V.int .i64 d, false), (V.str e, false), (V.slice 3 44 f, false)]] ++ nn 65 [], σ⟩
noncomputable def rworthF (call : CallF) (L0 : LL → LL → Int → Int → ByteArray → LL → RR) (b : Int) (h : ByteArray) (a e f : LL) (σ : Sto) : Option Res :=
 bif (b == (0 : Int)) then
 some (.ret [((V.int .i64 (0 : Int)), false)], σ)
 else
 bif (b == (1 : Int)) then
 (grd (decide (0 ≤ (0 : Int)) && decide ((0 : Int) < a.length))).bind fun _ =>
 callK call 88 [((V.agg [(getD (getD a (Int.toNat (0 : Int)) []) 0 V.any), (getD (getD a (Int.toNat (0 : Int)) []) 1 V.any), (getD (getD a (Int.toNat (0 : Int)) []) 2 V.any)]), false), (V.slice 1 9 e, false), (V.slice 1 3 f, false)] σ 1 (fun i j =>
 (V.asInt (getD i 0 cellD).1 .i64).bind fun i4 =>
 some (.ret [((V.int .i64 (wrap .i64 (i4 + (1 : Int)))), false)], j)) pnK
 else
 bif (b == (4 : Int)) then
 L0 e f (0 : Int) b h a σ
 else
 (grd (decide (0 ≤ (0 : Int)) && decide ((0 : Int) < a.length))).bind fun _ =>
 callK call 88 [((V.agg [(getD (getD a (Int.toNat (0 : Int)) []) 0 V.any), (getD (getD a (Int.toNat (0 : Int)) []) 1 V.any), (getD (getD a (Int.toNat (0 : Int)) []) 2 V.any)]), false), (V.slice 1 9 e, false), (V.slice 1 3 f, false)] σ 1 (fun g k =>
 (grd (decide (0 ≤ (1 : Int)) && decide ((1 : Int) < a.length))).bind fun _ =>
 callK call 88 [((V.agg [(getD (getD a (Int.toNat (1 : Int)) []) 0 V.any), (getD (getD a (Int.toNat (1 : Int)) []) 1 V.any), (getD (getD a (Int.toNat (1 : Int)) []) 2 V.any)]), false), (V.slice 1 9 e, false), (V.slice 1 3 f, false)] k 1 (fun c d =>
 bif (b == (3 : Int)) then
 (V.asInt (getD c 0 cellD).1 .i64).bind fun i11 =>
 bif (i11 == (0 : Int)) then
 some (.ret [((V.int .i64 (0 : Int)), false)], d)
 else
 (V.asInt (getD c 0 cellD).1 .i64).bind fun i12 =>
 (V.asInt (getD g 0 cellD).1 .i64).bind fun i13 =>
 bif (decide (i12 > i13)) then
 some (.ret [((getD c 0 cellD).1, false)], d)
 else
 some (.ret [((getD g 0 cellD).1, false)], d)
 else
 (V.asInt (getD c 0 cellD).1 .i64).bind fun i14 =>
 (V.asInt (getD g 0 cellD).1 .i64).bind fun i15 =>
 bif (decide (i14 > i15)) then
 some (.ret [((getD c 0 cellD).1, false)], d)
 else
 some (.ret [((getD g 0 cellD).1, false)], d)) pnK) pnK
noncomputable def rworth (call : CallF) (n : Nat) (a : Int) (b : ByteArray) (c d e : LL) (σ : Sto) : Option Res := rworthF call (rworthl0 call n n) a b c d e σ
theorem rworths0_eq (call : CallF) (n : Nat) (F0 : St → Option Res) (a b : LL) (c d : Int) (e : ByteArray) (f : LL) (σ : Sto) :
  aexec C rworthH call n (cp [0,0,1,0,0,1,1,1,1,1,0,1,0,1] rworthC) 0 (rwortht0 a b c d e f σ) (kloop rworthk0 F0 (kblk 1 (kseq (fun st' => aexec C rworthH call n (cp [1,0,1,1,1,1,1,0,1,0,1] rworthC) 0 st' (kblk 0 (kseq (fun st' => aexec C rworthH call n (codeR (codeR rworthC)) 0 st' (kfin C rworthD)) (kfin C rworthD)))) (kblk 0 (kseq (fun st' => aexec C rworthH call n (codeR (codeR rworthC)) 0 st' (kfin C rworthD)) (kfin C rworthD)))))) =
  rworths0 call (fun a b c d e f σ => F0 (rwortht0 a b c d e f σ)) a b c d e f σ := by kernel_rfl
theorem rworthl0_eq (call : CallF) (n : Nat) : ∀ (m : Nat) (a b : LL) (c d : Int) (e : ByteArray) (f : LL) (σ : Sto),
  aloop (fun st K => aexec C rworthH call n (cp [0,0,1,0,0,1,1,1,1,1,0,1,0,1] rworthC) 0 st K) rworthk0 m (rwortht0 a b c d e f σ) (kblk 1 (kseq (fun st' => aexec C rworthH call n (cp [1,0,1,1,1,1,1,0,1,0,1] rworthC) 0 st' (kblk 0 (kseq (fun st' => aexec C rworthH call n (codeR (codeR rworthC)) 0 st' (kfin C rworthD)) (kfin C rworthD)))) (kblk 0 (kseq (fun st' => aexec C rworthH call n (codeR (codeR rworthC)) 0 st' (kfin C rworthD)) (kfin C rworthD))))) = rworthl0 call n m a b c d e f σ
 | 0, a, b, c, d, e, f, σ => rfl
 | m + 1, a, b, c, d, e, f, σ => by
  rw [aloop, rworths0_eq]
  simp only [rworthl0_eq call n m]
  rfl
theorem rworth_eqF (call : CallF) (n : Nat) (c : Int) (d : ByteArray) (e a b : LL) (σ : Sto) : afun C rworthD call n [(V.agg [V.int .i64 c, V.str d, V.slice 3 44 e], false), (V.slice 1 9 a, false), (V.slice 1 3 b, false)] σ =
  rworthF call (fun a b f g h i σ => aloop (fun st K => aexec C rworthH call n (cp [0,0,1,0,0,1,1,1,1,1,0,1,0,1] rworthC) 0 st K) rworthk0 n (rwortht0 a b f g h i σ) (kblk 1 (kseq (fun st' => aexec C rworthH call n (cp [1,0,1,1,1,1,1,0,1,0,1] rworthC) 0 st' (kblk 0 (kseq (fun st' => aexec C rworthH call n (codeR (codeR rworthC)) 0 st' (kfin C rworthD)) (kfin C rworthD)))) (kblk 0 (kseq (fun st' => aexec C rworthH call n (codeR (codeR rworthC)) 0 st' (kfin C rworthD)) (kfin C rworthD)))))) c d e a b σ := by kernel_rfl
theorem rworth_eq (call : CallF) (n : Nat) (a : Int) (b : ByteArray) (c d e : LL) (σ : Sto) : afun C rworthD call n [(V.agg [V.int .i64 a, V.str b, V.slice 3 44 c], false), (V.slice 1 9 d, false), (V.slice 1 3 e, false)] σ = rworth call n a b c d e σ := by
 rw [rworth_eqF]
 simp only [rworthl0_eq]
 rfl
theorem rworth_lim {n : Nat} {a : Int} {b : ByteArray} {c : LL} {e : LL} {f : LL} {b0 b1 b2 : Bool} {σ : Sto} {r : Res} (h : rworth (lim C) n a b c e f σ = some r) : lim C 88 [(V.agg [V.int .i64 a, V.str b, V.slice 3 44 c], b0), (V.slice 1 9 e, b1), (V.slice 1 3 f, b2)] σ = some r :=
 lim_of (d := rworthD) (by kernel_rfl) (by kernel_rfl) n (show afun C rworthD (lim C) n [(V.agg [V.int .i64 a, V.str b, V.slice 3 44 c], false), (V.slice 1 9 e, false), (V.slice 1 3 f, false)] σ = some r from (rworth_eq (lim C) n a b c e f σ).trans h)
noncomputable def fittingF (call : CallF) (c : ByteArray) (σ : Sto) : Option Res :=
 callK call 30 [(V.str c, false)] σ 2 (fun a d =>
 (grd (V.fits (getD a 0 cellD).1 true 5)).bind fun _ =>
 (grd (V.fits (getD a 1 cellD).1 true 2)).bind fun _ =>
 callK call 21 [(V.agg [V.cell (getD a 0 cellD).1 0, V.cell (getD a 0 cellD).1 1, V.cell (getD a 0 cellD).1 2, V.cell (getD a 0 cellD).1 3, V.cell (getD a 0 cellD).1 4], false)] d 1 (fun e b =>
 (V.asInt (V.cell (getD a 1 cellD).1 0) .i64).bind fun i7 =>
 bif (i7 == (0 : Int)) then
 (V.asBool (getD e 0 cellD).1).bind fun b8 =>
 bif (!b8) then
 some (.ret [(V.agg [V.cell (getD a 0 cellD).1 0, V.cell (getD a 0 cellD).1 1, V.cell (getD a 0 cellD).1 2, V.cell (getD a 0 cellD).1 3, V.cell (getD a 0 cellD).1 4], false), ((V.agg [(V.int .i64 (14 : Int)), V.cell (getD a 1 cellD).1 1]), false)], b)
 else
 some (.ret [(V.agg [V.cell (getD a 0 cellD).1 0, V.cell (getD a 0 cellD).1 1, V.cell (getD a 0 cellD).1 2, V.cell (getD a 0 cellD).1 3, V.cell (getD a 0 cellD).1 4], false), (V.agg [V.cell (getD a 1 cellD).1 0, V.cell (getD a 1 cellD).1 1], false)], b)
 else
 some (.ret [(V.agg [V.cell (getD a 0 cellD).1 0, V.cell (getD a 0 cellD).1 1, V.cell (getD a 0 cellD).1 2, V.cell (getD a 0 cellD).1 3, V.cell (getD a 0 cellD).1 4], false), (V.agg [V.cell (getD a 1 cellD).1 0, V.cell (getD a 1 cellD).1 1], false)], b)) pnK) pnK
noncomputable def fitting (call : CallF) (n : Nat) (a : ByteArray) (σ : Sto) : Option Res := fittingF call a σ
theorem fitting_eqF (call : CallF) (n : Nat) (a : ByteArray) (σ : Sto) : afun C fittingD call n [(V.str a, false)] σ =
  fittingF call a σ := by kernel_rfl
theorem fitting_eq (call : CallF) (n : Nat) (a : ByteArray) (σ : Sto) : afun C fittingD call n [(V.str a, false)] σ = fitting call n a σ := fitting_eqF call n a σ
theorem fitting_lim {n : Nat} {a : ByteArray} {b0 : Bool} {σ : Sto} {r : Res} (h : fitting (lim C) n a σ = some r) : lim C 5 [(V.str a, b0)] σ = some r :=
 lim_of (d := fittingD) (by kernel_rfl) (by kernel_rfl) n (show afun C fittingD (lim C) n [(V.str a, false)] σ = some r from (fitting_eq (lim C) n a σ).trans h)
end Go.Ab.Mk
end
section
set_option maxRecDepth 100000
namespace Go.Ab.Mk
open Go.Proofs Go.Ab
open List (getD)
open IntKind (wrap)
noncomputable def tmapF (call : CallF) (b c : Int) (d : ByteArray) (e f : LL) (g : V) (σ : Sto) : Option Res :=
 callK call 60 [(V.agg [V.int .i64 b, V.int .i64 c, V.str d, V.slice 3 44 e, V.slice 5 30 f], false), ((V.int .i64 (0 : Int)), false), (g, false)] σ 1 (fun a h =>
 (grd (V.fits (getD a 0 cellD).1 true 5)).bind fun _ =>
 some (.ret [(V.agg [V.cell (getD a 0 cellD).1 0, V.cell (getD a 0 cellD).1 1, V.cell (getD a 0 cellD).1 2, V.cell (getD a 0 cellD).1 3, V.cell (getD a 0 cellD).1 4], false)], h)) pnK
noncomputable def tmap (call : CallF) (n : Nat) (a b : Int) (c : ByteArray) (d e : LL) (f : V) (σ : Sto) : Option Res := tmapF call a b c d e f σ
theorem tmap_eqF (call : CallF) (n : Nat) (a b : Int) (c : ByteArray) (d e : LL) (f : V) (σ : Sto) : afun C tmapD call n [(V.agg [V.int .i64 a, V.int .i64 b, V.str c, V.slice 3 44 d, V.slice 5 30 e], false), (f, false)] σ =
  tmapF call a b c d e f σ := by kernel_rfl
theorem tmap_eq (call : CallF) (n : Nat) (a b : Int) (c : ByteArray) (d e : LL) (f : V) (σ : Sto) : afun C tmapD call n [(V.agg [V.int .i64 a, V.int .i64 b, V.str c, V.slice 3 44 d, V.slice 5 30 e], false), (f, false)] σ = tmap call n a b c d e f σ := tmap_eqF call n a b c d e f σ
theorem tmap_lim {n : Nat} {a : Int} {b : Int} {c : ByteArray} {e : LL} {f : LL} {g : V} {b0 b1 : Bool} {σ : Sto} {r : Res} (h : tmap (lim C) n a b c e f g σ = some r) : lim C 33 [(V.agg [V.int .i64 a, V.int .i64 b, V.str c, V.slice 3 44 e, V.slice 5 30 f], b0), (g, b1)] σ = some r :=
 lim_of (d := tmapD) (by kernel_rfl) (by kernel_rfl) n (show afun C tmapD (lim C) n [(V.agg [V.int .i64 a, V.int .i64 b, V.str c, V.slice 3 44 e, V.slice 5 30 f], false), (g, false)] σ = some r from (tmap_eq (lim C) n a b c e f g σ).trans h)
noncomputable def instF (call : CallF) (c d : Int) (e : ByteArray) (f g b : LL) (σ : Sto) : Option Res :=
 (memGet (σ ++ [[(V.slice 5 30 b, false)]]) (V.ptr 28 (List.length σ) 0) false 1).bind fun m1 =>
 (V.asSlice m1 5 30).bind fun l2 =>
 bif ((l2.length : Int) == (0 : Int)) then
 some (.ret [(V.agg [V.int .i64 c, V.int .i64 d, V.str e, V.slice 3 44 f, V.slice 5 30 g], false)], (σ ++ [[(V.slice 5 30 b, false)]]))
 else
 callK call 33 [(V.agg [V.int .i64 c, V.int .i64 d, V.str e, V.slice 3 44 f, V.slice 5 30 g], false), ((V.func (.func 61) [] [V.ptr 28 (List.length σ) 0]), false)] (σ ++ [[(V.slice 5 30 b, false)]]) 1 (fun a h =>
 (grd (V.fits (getD a 0 cellD).1 true 5)).bind fun _ =>
 some (.ret [(V.agg [V.cell (getD a 0 cellD).1 0, V.cell (getD a 0 cellD).1 1, V.cell (getD a 0 cellD).1 2, V.cell (getD a 0 cellD).1 3, V.cell (getD a 0 cellD).1 4], false)], h)) pnK
noncomputable def inst (call : CallF) (n : Nat) (a b : Int) (c : ByteArray) (d e f : LL) (σ : Sto) : Option Res := instF call a b c d e f σ
theorem inst_eqF (call : CallF) (n : Nat) (a b : Int) (c : ByteArray) (d e f : LL) (σ : Sto) : afun C instD call n [(V.agg [V.int .i64 a, V.int .i64 b, V.str c, V.slice 3 44 d, V.slice 5 30 e], false), (V.slice 5 30 f, false)] σ =
  instF call a b c d e f σ := by kernel_rfl
theorem inst_eq (call : CallF) (n : Nat) (a b : Int) (c : ByteArray) (d e f : LL) (σ : Sto) : afun C instD call n [(V.agg [V.int .i64 a, V.int .i64 b, V.str c, V.slice 3 44 d, V.slice 5 30 e], false), (V.slice 5 30 f, false)] σ = inst call n a b c d e f σ := inst_eqF call n a b c d e f σ
theorem inst_lim {n : Nat} {a : Int} {b : Int} {c : ByteArray} {e : LL} {f : LL} {g : LL} {b0 b1 : Bool} {σ : Sto} {r : Res} (h : inst (lim C) n a b c e f g σ = some r) : lim C 35 [(V.agg [V.int .i64 a, V.int .i64 b, V.str c, V.slice 3 44 e, V.slice 5 30 f], b0), (V.slice 5 30 g, b1)] σ = some r :=
 lim_of (d := instD) (by kernel_rfl) (by kernel_rfl) n (show afun C instD (lim C) n [(V.agg [V.int .i64 a, V.int .i64 b, V.str c, V.slice 3 44 e, V.slice 5 30 f], false), (V.slice 5 30 g, false)] σ = some r from (inst_eq (lim C) n a b c e f g σ).trans h)
noncomputable def tsubstF (call : CallF) (b c : Int) (d : ByteArray) (e f : LL) (g h : Int) (i : ByteArray) (j k : LL) (σ : Sto) : Option Res :=
 callK call 35 [(V.agg [V.int .i64 b, V.int .i64 c, V.str d, V.slice 3 44 e, V.slice 5 30 f], false), (V.slice 5 30 [[V.int .i64 g, V.int .i64 h, V.str i, V.slice 3 44 j, V.slice 5 30 k]], true)] σ 1 (fun a o =>
 (grd (V.fits (getD a 0 cellD).1 true 5)).bind fun _ =>
 some (.ret [(V.agg [V.cell (getD a 0 cellD).1 0, V.cell (getD a 0 cellD).1 1, V.cell (getD a 0 cellD).1 2, V.cell (getD a 0 cellD).1 3, V.cell (getD a 0 cellD).1 4], false)], o)) pnK
noncomputable def tsubst (call : CallF) (n : Nat) (a b : Int) (c : ByteArray) (d e : LL) (f g : Int) (h : ByteArray) (i j : LL) (σ : Sto) : Option Res := tsubstF call a b c d e f g h i j σ
theorem tsubst_eqF (call : CallF) (n : Nat) (a b : Int) (c : ByteArray) (d e : LL) (f g : Int) (h : ByteArray) (i j : LL) (σ : Sto) : afun C tsubstD call n [(V.agg [V.int .i64 a, V.int .i64 b, V.str c, V.slice 3 44 d, V.slice 5 30 e], false), (V.agg [V.int .i64 f, V.int .i64 g, V.str h, V.slice 3 44 i, V.slice 5 30 j], false)] σ =
  tsubstF call a b c d e f g h i j σ := by kernel_rfl
theorem tsubst_eq (call : CallF) (n : Nat) (a b : Int) (c : ByteArray) (d e : LL) (f g : Int) (h : ByteArray) (i j : LL) (σ : Sto) : afun C tsubstD call n [(V.agg [V.int .i64 a, V.int .i64 b, V.str c, V.slice 3 44 d, V.slice 5 30 e], false), (V.agg [V.int .i64 f, V.int .i64 g, V.str h, V.slice 3 44 i, V.slice 5 30 j], false)] σ = tsubst call n a b c d e f g h i j σ := tsubst_eqF call n a b c d e f g h i j σ
theorem tsubst_lim {n : Nat} {a : Int} {b : Int} {c : ByteArray} {e : LL} {f : LL} {g : Int} {i : Int} {j : ByteArray} {k : LL} {o : LL} {b0 b1 : Bool} {σ : Sto} {r : Res} (h : tsubst (lim C) n a b c e f g i j k o σ = some r) : lim C 9 [(V.agg [V.int .i64 a, V.int .i64 b, V.str c, V.slice 3 44 e, V.slice 5 30 f], b0), (V.agg [V.int .i64 g, V.int .i64 i, V.str j, V.slice 3 44 k, V.slice 5 30 o], b1)] σ = some r :=
 lim_of (d := tsubstD) (by kernel_rfl) (by kernel_rfl) n (show afun C tsubstD (lim C) n [(V.agg [V.int .i64 a, V.int .i64 b, V.str c, V.slice 3 44 e, V.slice 5 30 f], false), (V.agg [V.int .i64 g, V.int .i64 i, V.str j, V.slice 3 44 k, V.slice 5 30 o], false)] σ = some r from (tsubst_eq (lim C) n a b c e f g i j k o σ).trans h)
end Go.Ab.Mk
end
section

end
section
namespace Go.Ab.Mk
open Go.Proofs Go.Ab
def pval (s : ByteArray) : List ByteArray → List Int → Int
 | p :: ps, n :: ns => if p.toList == s.toList then n else pval s ps ns
 | _, _ => 0
def rworthV (ps : List ByteArray) (ns : List Int) : Lv → Int
 | .zero => 0
 | .succ l => IntKind.wrap .i64 (rworthV ps ns l + 1)
 | .max a b => bif decide (rworthV ps ns b > rworthV ps ns a) then rworthV ps ns b else rworthV ps ns a
 | .imax a b => bif rworthV ps ns b == 0 then 0 else bif decide (rworthV ps ns b > rworthV ps ns a) then rworthV ps ns b else rworthV ps ns a
 | .param s => pval s ps ns
theorem rworth_loop (call : CallF) (n : Nat) {ps : List ByteArray} {ns : List Int} (hl : ps.length = ns.length) (hb : ps.length < 2 ^ 61) (k : Int) (nm : ByteArray) (xs : List (List V)) (σ : Sto) :
  ∀ (m i : Nat), i ≤ ps.length → ps.length - i < m → rworthl0 call n m (strs ps) (ints ns) i k nm xs σ = some (.ret [(.int .i64 (pval nm (ps.drop i) (ns.drop i)), false)], σ)
 | 0, i, _, hm => by omega
 | m + 1, i, hi, hm => by
  show rworths0 call (rworthl0 call n m) (strs ps) (ints ns) i k nm xs σ = _
  unfold rworths0
  rw [strs_length, ints_length]
  by_cases hlt : i < ps.length
  ·have hlt2 : i < ns.length := by omega
   rw [d0, dlt hlt, dlt hlt2, Int.toNat_natCast, strs_get hlt, ints_get hlt2]
   rw [List.drop_eq_getElem_cons hlt, List.drop_eq_getElem_cons hlt2]
   simp only [cond_true, grd, Option.bind_some, List.getD_cons_zero, V.asStr, pval]
   cases hc : ps[i].toList == nm.toList with
   | true => simp
   | false =>
    simp only [cond_false, wrap_succ (show i < 2 ^ 61 by omega), Bool.false_eq_true, if_false]
    exact rworth_loop call n hl hb k nm xs σ m (i + 1) (by omega) (by omega)
  ·rw [dnlt hlt, List.drop_eq_nil_of_le (by omega)]
   simp [pval]
theorem rworth_law {ps : List ByteArray} {ns : List Int} (hl : ps.length = ns.length) (hb : ps.length < 2 ^ 61) (σ : Sto) : ∀ (l : Lv) (b1 b2 : Bool),
  lim C 88 [(.agg [.int .i64 l.kind, .str l.name, .slice 3 44 l.args], false), (.slice 1 9 (strs ps), b1), (.slice 1 3 (ints ns), b2)] σ = some (.ret [(.int .i64 (rworthV ps ns l), false)], σ)
 | .zero, b1, b2 => rworth_lim (n := 0) rfl
 | .param s, b1, b2 => rworth_lim (n := ps.length + 1) <| by
  simp only [rworth, rworthF, Lv.kind]
  have := rworth_loop (lim C) (ps.length + 1) hl hb 4 s [] σ (ps.length + 1) 0 (by omega) (by omega)
  simpa [rworthV, Lv.name, Lv.args, Lv.kids] using this
 | .succ l, b1, b2 => rworth_lim (n := 0) <| by
  have h1 := rworth_law hl hb σ l false false
  simp only [rworth, rworthF, Lv.kind, Lv.args, Lv.kids, List.map_cons, List.map_nil]
  have hc : V.agg [List.getD (List.getD [l.enc] (Int.toNat (0 : Int)) []) 0 V.any, List.getD (List.getD [l.enc] (Int.toNat (0 : Int)) []) 1 V.any, List.getD (List.getD [l.enc] (Int.toNat (0 : Int)) []) 2 V.any] = V.agg [.int .i64 l.kind, .str l.name, .slice 3 44 l.args] := l.cells
  rw [hc, callK_ret1 h1]
  rfl
 | .max a b, b1, b2 => rworth_lim (n := 0) <| by
  have h1 := rworth_law hl hb σ a false false
  have h2 := rworth_law hl hb σ b false false
  simp only [rworth, rworthF, Lv.kind, Lv.args, Lv.kids, List.map_cons, List.map_nil]
  have hc : V.agg [List.getD (List.getD [a.enc, b.enc] (Int.toNat (0 : Int)) []) 0 V.any, List.getD (List.getD [a.enc, b.enc] (Int.toNat (0 : Int)) []) 1 V.any, List.getD (List.getD [a.enc, b.enc] (Int.toNat (0 : Int)) []) 2 V.any] = V.agg [.int .i64 a.kind, .str a.name, .slice 3 44 a.args] := a.cells
  have hd : V.agg [List.getD (List.getD [a.enc, b.enc] (Int.toNat (1 : Int)) []) 0 V.any, List.getD (List.getD [a.enc, b.enc] (Int.toNat (1 : Int)) []) 1 V.any, List.getD (List.getD [a.enc, b.enc] (Int.toNat (1 : Int)) []) 2 V.any] = V.agg [.int .i64 b.kind, .str b.name, .slice 3 44 b.args] := b.cells
  simp only [hc, hd, rworthV, callK_ret1 h1, callK_ret1 h2]
  cases hx : decide (rworthV ps ns b > rworthV ps ns a) <;> simp [grd, V.asInt, hx]
 | .imax a b, b1, b2 => rworth_lim (n := 0) <| by
  have h1 := rworth_law hl hb σ a false false
  have h2 := rworth_law hl hb σ b false false
  simp only [rworth, rworthF, Lv.kind, Lv.args, Lv.kids, List.map_cons, List.map_nil]
  have hc : V.agg [List.getD (List.getD [a.enc, b.enc] (Int.toNat (0 : Int)) []) 0 V.any, List.getD (List.getD [a.enc, b.enc] (Int.toNat (0 : Int)) []) 1 V.any, List.getD (List.getD [a.enc, b.enc] (Int.toNat (0 : Int)) []) 2 V.any] = V.agg [.int .i64 a.kind, .str a.name, .slice 3 44 a.args] := a.cells
  have hd : V.agg [List.getD (List.getD [a.enc, b.enc] (Int.toNat (1 : Int)) []) 0 V.any, List.getD (List.getD [a.enc, b.enc] (Int.toNat (1 : Int)) []) 1 V.any, List.getD (List.getD [a.enc, b.enc] (Int.toNat (1 : Int)) []) 2 V.any] = V.agg [.int .i64 b.kind, .str b.name, .slice 3 44 b.args] := b.cells
  simp only [hc, hd, rworthV, callK_ret1 h1, callK_ret1 h2]
  cases hy : rworthV ps ns b == 0 <;> cases hx : decide (rworthV ps ns b > rworthV ps ns a) <;> simp [grd, V.asInt, hx, hy]
def idx (v : ByteArray) : List ByteArray → Nat → Int
 | [], _ => -1
 | p :: ps, i => if v.toList == p.toList then i else idx v ps (i + 1)
theorem index_loop (call : CallF) (n : Nat) {ps : List ByteArray} (hb : ps.length < 2 ^ 61) (v : ByteArray) (σ : Sto) :
  ∀ (m i : Nat), i ≤ ps.length → ps.length - i < m → indexl0 call n m (strs ps) v ps.length i σ = some (.ret [(.int .i64 (idx v (ps.drop i) i), false)], σ)
 | 0, i, _, hm => by omega
 | m + 1, i, hi, hm => by
  show indexs0 call (indexl0 call n m) (strs ps) v ps.length i σ = _
  unfold indexs0
  rw [strs_length]
  by_cases hlt : i < ps.length
  ·rw [d0, dlt hlt, Int.toNat_natCast, strs_get hlt, List.drop_eq_getElem_cons hlt]
   simp only [cond_true, Bool.and_self, grd, Option.bind_some, List.getD_cons_zero, V.asStr, idx]
   cases hc : v.toList == ps[i].toList with
   | true => simp
   | false =>
    simp only [cond_false, wrap_succ (show i < 2 ^ 61 by omega), Bool.false_eq_true, if_false]
    exact index_loop call n hb v σ m (i + 1) (by omega) (by omega)
  ·rw [dnlt hlt, List.drop_eq_nil_of_le (by omega)]
   simp [idx]
theorem index_law {ps : List ByteArray} (hb : ps.length < 2 ^ 61) (v : ByteArray) (σ : Sto) :
  lim C 72 [(.slice 1 9 (strs ps), false), (.str v, false)] σ = some (.ret [(.int .i64 (idx v ps 0), false)], σ) :=
 index_lim (n := ps.length + 1) <| by
  have := index_loop (lim C) (ps.length + 1) hb v σ (ps.length + 1) 0 (by omega) (by omega)
  simpa [index, indexF, strs_length] using this
def has (v : ByteArray) (ps : List ByteArray) : Bool := ps.any fun p => p.toList == v.toList
theorem among_loop (call : CallF) (n : Nat) {ps : List ByteArray} (hb : ps.length < 2 ^ 61) (v : ByteArray) (σ : Sto) :
  ∀ (m i : Nat), i ≤ ps.length → ps.length - i < m → amongl0 call n m v (strs ps) i σ = some (.ret [(.bool (has v (ps.drop i)), false)], σ)
 | 0, i, _, hm => by omega
 | m + 1, i, hi, hm => by
  show amongs0 call (amongl0 call n m) v (strs ps) i σ = _
  unfold amongs0
  rw [strs_length]
  by_cases hlt : i < ps.length
  ·rw [d0, dlt hlt, Int.toNat_natCast, strs_get hlt, List.drop_eq_getElem_cons hlt]
   simp only [cond_true, Bool.and_self, grd, Option.bind_some, List.getD_cons_zero, V.asStr, has, List.any_cons]
   cases hc : ps[i].toList == v.toList with
   | true => simp
   | false =>
    simp only [cond_false, wrap_succ (show i < 2 ^ 61 by omega), Bool.false_or]
    exact among_loop call n hb v σ m (i + 1) (by omega) (by omega)
  ·rw [dnlt hlt, List.drop_eq_nil_of_le (by omega)]
   simp [has]
theorem among_law {ps : List ByteArray} (hb : ps.length < 2 ^ 61) (v : ByteArray) (σ : Sto) :
  lim C 66 [(.str v, false), (.slice 1 9 (strs ps), false)] σ = some (.ret [(.bool (has v ps), false)], σ) :=
 among_lim (n := ps.length + 1) <| by
  have := among_loop (lim C) (ps.length + 1) hb v σ (ps.length + 1) 0 (by omega) (by omega)
  simpa [among, amongF] using this
theorem sameLevel_loop (call : CallF) (n : Nat) {L : List Lv} (hb : L.length < 2 ^ 61) (k : Int) (nm : ByteArray) (σ : Sto)
  (h : ∀ c ∈ L, call 64 [(.agg [.int .i64 c.kind, .str c.name, .slice 3 44 c.args], false), (.agg [.int .i64 c.kind, .str c.name, .slice 3 44 c.args], false)] σ = some (.ret [(.bool true, false)], σ)) :
  ∀ (m i : Nat), i ≤ L.length → L.length - i < m → sameLevell0 call n m i k nm (L.map Lv.enc) k nm (L.map Lv.enc) σ = some (.ret [(.bool true, false)], σ)
 | 0, i, _, hm => by omega
 | m + 1, i, hi, hm => by
  show sameLevels0 call (sameLevell0 call n m) i k nm (L.map Lv.enc) k nm (L.map Lv.enc) σ = _
  unfold sameLevels0
  rw [List.length_map]
  by_cases hlt : i < L.length
  ·have hc := List.getElem?_eq_getElem hlt
   rw [d0, dlt hlt, kid_get hc, L[i].cells]
   simp only [cond_true, Bool.and_self, grd, Option.bind_some, callK_ret1 (h _ (List.getElem_mem hlt)), wrap_succ (show i < 2 ^ 61 by omega), List.getD_cons_zero, V.asBool, Bool.not_true, cond_false]
   exact sameLevel_loop call n hb k nm σ h m (i + 1) (by omega) (by omega)
  ·rw [dnlt hlt]; rfl
theorem kids_few (l : Lv) : l.kids.length ≤ 2 := by cases l <;> simp [Lv.kids]
theorem sameLevel_law (σ : Sto) : ∀ (l : Lv),
  lim C 64 [(.agg [.int .i64 l.kind, .str l.name, .slice 3 44 l.args], false), (.agg [.int .i64 l.kind, .str l.name, .slice 3 44 l.args], false)] σ = some (.ret [(.bool true, false)], σ) :=
 Lv.ind fun l ih => sameLevel_lim (n := 4) <| by
  have hf := kids_few l
  have := sameLevel_loop (lim C) 4 (L := l.kids) (by omega) l.kind l.name σ ih 4 0 (by omega) (by omega)
  simpa [sameLevel, sameLevelF, Lv.args] using this
end Go.Ab.Mk
end
section
namespace Go.Ab.Mk
open Go.Proofs Go.Ab
def rparamsV : Lv → List ByteArray → List ByteArray
 | .param s, ps => bif has s ps then ps else ps ++ [s]
 | .zero, ps => ps
 | .succ l, ps => rparamsV l ps
 | .max a b, ps => rparamsV b (rparamsV a ps)
 | .imax a b, ps => rparamsV b (rparamsV a ps)
theorem rparamsV_length : ∀ (l : Lv) (ps : List ByteArray), (rparamsV l ps).length ≤ ps.length + l.size
 | .param s, ps => by simp only [rparamsV]; cases has s ps <;> simp [Lv.size]
 | .zero, ps => by simp [rparamsV]
 | .succ l, ps => by have := rparamsV_length l ps; simp only [rparamsV, Lv.size]; omega
 | .max a b, ps => by have h1 := rparamsV_length a ps; have h2 := rparamsV_length b (rparamsV a ps); simp only [rparamsV, Lv.size]; omega
 | .imax a b, ps => by have h1 := rparamsV_length a ps; have h2 := rparamsV_length b (rparamsV a ps); simp only [rparamsV, Lv.size]; omega
def kidsV : List Lv → List ByteArray → List ByteArray
 | [], ps => ps
 | c :: L, ps => kidsV L (rparamsV c ps)
def sizes : List Lv → Nat
 | [] => 0
 | c :: L => c.size + sizes L
theorem sizes_le : ∀ l : Lv, sizes l.kids < l.size
 | .param s => by simp [Lv.kids, sizes, Lv.size]
 | .zero => by simp [Lv.kids, sizes, Lv.size]
 | .succ l => by simp [Lv.kids, sizes, Lv.size]
 | .max a b => by simp [Lv.kids, sizes, Lv.size] <;> omega
 | .imax a b => by simp [Lv.kids, sizes, Lv.size] <;> omega
theorem rparams_loop (call : CallF) (n : Nat) {L : List Lv} (hb : L.length < 2 ^ 61) (k : Int) (nm : ByteArray) (σ : Sto)
  (h : ∀ c ∈ L, ∀ ps : List ByteArray, c.size + ps.length < 2 ^ 33 → call 46 [(.agg [.int .i64 c.kind, .str c.name, .slice 3 44 c.args], false), (.slice 1 9 (strs ps), true)] σ = some (.ret [(.slice 1 9 (strs (rparamsV c ps)), true)], σ)) :
  ∀ (m i : Nat) (ps : List ByteArray), i ≤ L.length → L.length - i < m → sizes (L.drop i) + ps.length < 2 ^ 33 → rparamsl0 call n m (.slice 1 9 (strs ps)) i k nm (L.map Lv.enc) σ = some (.ret [(.slice 1 9 (strs (kidsV (L.drop i) ps)), true)], σ)
 | 0, i, _, _, hm, _ => by omega
 | m + 1, i, ps, hi, hm, hs => by
  show rparamss0 call (rparamsl0 call n m) (.slice 1 9 (strs ps)) i k nm (L.map Lv.enc) σ = _
  unfold rparamss0
  rw [List.length_map]
  by_cases hlt : i < L.length
  ·have hc := List.getElem?_eq_getElem hlt
   rw [drop_cons hc] at hs
   simp only [sizes] at hs
   have h1 := h _ (List.getElem_mem hlt) ps (by omega)
   have hl := rparamsV_length L[i] ps
   rw [d0, dlt hlt, kid_get hc, L[i].cells, drop_cons hc]
   simp only [cond_true, Bool.and_self, grd, Option.bind_some, callK_ret1 h1, wrap_succ (show i < 2 ^ 61 by omega), List.getD_cons_zero, kidsV]
   exact rparams_loop call n hb k nm σ h m (i + 1) _ (by omega) (by omega) (by omega)
  ·rw [dnlt hlt, List.drop_eq_nil_of_le (by omega)]; rfl
theorem kidsV_eq : ∀ (l : Lv) (ps : List ByteArray), (∀ s, l ≠ .param s) → kidsV l.kids ps = rparamsV l ps
 | .param s, _, h => absurd rfl (h s)
 | .zero, _, _ => rfl
 | .succ _, _, _ => rfl
 | .max .., _, _ => rfl
 | .imax .., _, _ => rfl
theorem kind_ne {l : Lv} (h : ∀ s, l ≠ .param s) : (l.kind == (4 : Int)) = false := by cases l <;> first | rfl | exact absurd rfl (h _)
theorem rparams_law (σ : Sto) : ∀ (l : Lv) (ps : List ByteArray), l.size + ps.length < 2 ^ 33 →
  lim C 46 [(.agg [.int .i64 l.kind, .str l.name, .slice 3 44 l.args], false), (.slice 1 9 (strs ps), true)] σ = some (.ret [(.slice 1 9 (strs (rparamsV l ps)), true)], σ) :=
 Lv.ind fun l ih ps hb => rparams_lim (n := 4) <| by
  by_cases hp : ∃ s, l = .param s
  ·obtain ⟨s, rfl⟩ := hp
   simp only [Lv.size] at hb
   have h1 := among_law (ps := ps) (by omega) s σ
   simp only [rparams, rparamsF, Lv.kind, Lv.name, Lv.args, Lv.kids, rparamsV, callK_ret1 h1]
   cases hx : has s ps with
   | true => simp [V.asBool]
   | false =>
    have hr : room (ps.length + 1) = true := room_ok (by omega)
    simp [V.asBool, grd, hr, strs]
  ·have hp : ∀ s, l ≠ .param s := fun s hs => hp ⟨s, hs⟩
   have hf := kids_few l
   have hs := sizes_le l
   have := rparams_loop (lim C) 4 (L := l.kids) (by omega) l.kind l.name σ (fun c hc ps h => ih c hc ps h) 4 0 ps (by omega) (by omega) (by simp only [List.drop_zero]; omega)
   simp only [rparams, rparamsF, kind_ne hp, cond_false]
   rw [List.drop_zero, kidsV_eq l ps hp] at this
   exact this
end Go.Ab.Mk
end
section
namespace Go.Ab.Mk
open Go.Proofs Go.Ab
def ba (l : List UInt8) : ByteArray := ⟨l.toArray⟩
theorem ba_append (a b : List UInt8) : ba a ++ ba b = ba (a ++ b) := by
 apply ByteArray.ext
 simp [ba]
theorem ba_of (s : ByteArray) : ba s.data.toList = s := by
 apply ByteArray.ext
 simp [ba]
theorem ba_size (l : List UInt8) : (ba l).size = l.length := by simp [ba, ByteArray.size]
theorem bytesV_ba (l : List UInt8) : bytesV (ba l) = bytesL l := by simp [bytesV, ba, bytesL]
theorem strRoom_ok {x y : ByteArray} (h : x.size + y.size < 2 ^ 61) : strRoom x y = true := by
 unfold strRoom
 refine decide_eq_true ?_
 by_cases h0 : x.size + y.size = 0
 ·rw [h0]; simp
 ·have := (Nat.log2_lt (k := 61) h0).2 h
  omega
def printL : Lv → List UInt8
 | .zero => [48]
 | .succ l => [40, 115, 32] ++ printL l ++ [41]
 | .max a b => [40, 109, 97, 120, 32] ++ printL a ++ [32] ++ printL b ++ [41]
 | .imax a b => [40, 105, 109, 97, 120, 32] ++ printL a ++ [32] ++ printL b ++ [41]
 | .param s => s.data.toList
theorem rprint_law (σ : Sto) : ∀ (l : Lv), (printL l).length < 2 ^ 60 →
  lim C 58 [(.agg [.int .i64 l.kind, .str l.name, .slice 3 44 l.args], false)] σ = some (.ret [(.str (ba (printL l)), false)], σ)
 | .zero, _ => rprint_lim (n := 0) rfl
 | .param s, _ => rprint_lim (n := 0) <| by simp [rprint, rprintF, Lv.kind, Lv.name, printL, ba_of]
 | .succ l, hb => rprint_lim (n := 0) <| by
  simp only [printL, List.length_append, List.length_cons, List.length_nil] at hb
  have h1 := rprint_law σ l (by omega)
  simp only [rprint, rprintF, Lv.kind, Lv.args, Lv.kids, List.map_cons, List.map_nil, Int.reduceBEq, cond_false, cond_true]
  have hc : V.agg [List.getD (List.getD [l.enc] (Int.toNat (0 : Int)) []) 0 V.any, List.getD (List.getD [l.enc] (Int.toNat (0 : Int)) []) 1 V.any, List.getD (List.getD [l.enc] (Int.toNat (0 : Int)) []) 2 V.any] = V.agg [.int .i64 l.kind, .str l.name, .slice 3 44 l.args] := l.cells
  rw [hc, callK_ret1 h1]
  have e1 : ByteArray.mk #[40, 115, 32] = ba [40, 115, 32] := rfl
  have e2 : ByteArray.mk #[41] = ba [41] := rfl
  simp only [e1, e2, List.getD_cons_zero, V.asStr, Option.bind_some, ba_append, printL]
  rw [strRoom_ok (by simp [ba_size]; omega), strRoom_ok (by simp [ba_size]; omega)]
  rfl
 | .max a b, hb => rprint_lim (n := 0) <| by
  simp only [printL, List.length_append, List.length_cons, List.length_nil] at hb
  have h1 := rprint_law σ a (by omega)
  have h2 := rprint_law σ b (by omega)
  simp only [rprint, rprintF, Lv.kind, Lv.args, Lv.kids, List.map_cons, List.map_nil, Int.reduceBEq, cond_false, cond_true]
  have hc : V.agg [List.getD (List.getD [a.enc, b.enc] (Int.toNat (0 : Int)) []) 0 V.any, List.getD (List.getD [a.enc, b.enc] (Int.toNat (0 : Int)) []) 1 V.any, List.getD (List.getD [a.enc, b.enc] (Int.toNat (0 : Int)) []) 2 V.any] = V.agg [.int .i64 a.kind, .str a.name, .slice 3 44 a.args] := a.cells
  have hd : V.agg [List.getD (List.getD [a.enc, b.enc] (Int.toNat (1 : Int)) []) 0 V.any, List.getD (List.getD [a.enc, b.enc] (Int.toNat (1 : Int)) []) 1 V.any, List.getD (List.getD [a.enc, b.enc] (Int.toNat (1 : Int)) []) 2 V.any] = V.agg [.int .i64 b.kind, .str b.name, .slice 3 44 b.args] := b.cells
  have e1 : ByteArray.mk #[40] = ba [40] := rfl
  have e2 : ByteArray.mk #[41] = ba [41] := rfl
  have e3 : ByteArray.mk #[32] = ba [32] := rfl
  have e4 : ByteArray.mk #[109, 97, 120] = ba [109, 97, 120] := rfl
  simp only [hc, hd, callK_ret1 h1, callK_ret1 h2, e1, e2, e3, e4, List.getD_cons_zero, V.asStr, Option.bind_some, ba_append, printL]
  repeat rw [strRoom_ok (by simp [ba_size] <;> omega)]
  rfl
 | .imax a b, hb => rprint_lim (n := 0) <| by
  simp only [printL, List.length_append, List.length_cons, List.length_nil] at hb
  have h1 := rprint_law σ a (by omega)
  have h2 := rprint_law σ b (by omega)
  simp only [rprint, rprintF, Lv.kind, Lv.args, Lv.kids, List.map_cons, List.map_nil, Int.reduceBEq, cond_false, cond_true]
  have hc : V.agg [List.getD (List.getD [a.enc, b.enc] (Int.toNat (0 : Int)) []) 0 V.any, List.getD (List.getD [a.enc, b.enc] (Int.toNat (0 : Int)) []) 1 V.any, List.getD (List.getD [a.enc, b.enc] (Int.toNat (0 : Int)) []) 2 V.any] = V.agg [.int .i64 a.kind, .str a.name, .slice 3 44 a.args] := a.cells
  have hd : V.agg [List.getD (List.getD [a.enc, b.enc] (Int.toNat (1 : Int)) []) 0 V.any, List.getD (List.getD [a.enc, b.enc] (Int.toNat (1 : Int)) []) 1 V.any, List.getD (List.getD [a.enc, b.enc] (Int.toNat (1 : Int)) []) 2 V.any] = V.agg [.int .i64 b.kind, .str b.name, .slice 3 44 b.args] := b.cells
  have e1 : ByteArray.mk #[40] = ba [40] := rfl
  have e2 : ByteArray.mk #[41] = ba [41] := rfl
  have e3 : ByteArray.mk #[32] = ba [32] := rfl
  have e4 : ByteArray.mk #[105, 109, 97, 120] = ba [105, 109, 97, 120] := rfl
  simp only [hc, hd, callK_ret1 h1, callK_ret1 h2, e1, e2, e3, e4, List.getD_cons_zero, V.asStr, Option.bind_some, ba_append, printL]
  repeat rw [strRoom_ok (by simp [ba_size] <;> omega)]
  rfl
def bcell (b : Nat) (u : Bool) (L : List UInt8) : List Cell := [(bif u then .ptr 75 b 0 else .nilp, false), (.slice 1 5 (bytesL L), true)]
theorem copyCheck_law {σ : Sto} {b : Nat} {u : Bool} {L : List UInt8} (h : σ[b]? = some (bcell b u L)) : lim C 83 [(.ptr 75 b 0, false)] σ = some (.ret [], σ.set b (bcell b true L)) := by
 refine lim_ext (s := copyCheckS 75) (by kernel_rfl) ?_
 obtain ⟨hlt, hget⟩ := List.getElem?_eq_some_iff.1 h
 cases u with
 | false =>
  simp only [copyCheckS, if_true]
  rw [h]
  rfl
 | true =>
  simp only [copyCheckS, if_true]
  rw [h]
  have : σ.set b (bcell b true L) = σ := by rw [← hget]; simp
  simp only [bcell, cond_true, and_self, if_true]
  exact congrArg (fun x => some (End.ret [], x)) this.symm
theorem memTakeB {σ : Sto} {t : TypeId} {b : Nat} {c : Cell} {v : V} (h : σ[b]? = some [c, (v, true)]) : memTake σ (.ptr t b 1) = some (v, σ.set b [c, (v, false)]) := by
 simp only [memTake, h, Option.bind_some]; rfl
theorem memSetB {σ : Sto} {t : TypeId} {b : Nat} {c c' d : Cell} (h : σ[b]? = some [c, c']) : memSet σ (.ptr t b 1) [d] = some (σ.set b [c, d]) := by
 simp only [memSet, h, Option.bind_some]; rfl
theorem wstring_law {σ : Sto} {b : Nat} {u : Bool} {L : List UInt8} (h : σ[b]? = some (bcell b u L)) (s : List UInt8) (hr : L.length + s.length < 2 ^ 34) :
  lim C 73 [(.ptr 75 b 0, false), (.str (ba s), false)] σ = some (.ret [(.int .i64 s.length, false), (.nilIface, false)], σ.set b (bcell b true (L ++ s))) :=
 wstring_lim (n := 0) <| by
  obtain ⟨hlt, hget⟩ := List.getElem?_eq_some_iff.1 h
  simp only [wstring, wstringF, callK_ret0 (copyCheck_law h)]
  rw [memTakeB (c := (.ptr 75 b 0, false)) (v := .slice 1 5 (bytesL L)) (by simp [hlt, bcell])]
  simp only [Option.bind_some, V.asSlice, and_self, if_true]
  rw [bytesL_length, ba_size, room_ok hr]
  rw [memSetB (c := (.ptr 75 b 0, false)) (c' := (.slice 1 5 (bytesL L), false)) (by simp [hlt])]
  simp only [grd, cond_true, Option.bind_some, List.set_set, bytesV_ba, ← bytesL_append]
  rfl
theorem wbyte_law {σ : Sto} {b : Nat} {u : Bool} {L : List UInt8} (h : σ[b]? = some (bcell b u L)) (c : UInt8) (hr : L.length + 1 < 2 ^ 34) :
  lim C 76 [(.ptr 75 b 0, false), (.int .u8 (c.toNat : Int), false)] σ = some (.ret [(.nilIface, false)], σ.set b (bcell b true (L ++ [c]))) :=
 wbyte_lim (n := 0) <| by
  obtain ⟨hlt, hget⟩ := List.getElem?_eq_some_iff.1 h
  simp only [wbyte, wbyteF, callK_ret0 (copyCheck_law h)]
  rw [memTakeB (c := (.ptr 75 b 0, false)) (v := .slice 1 5 (bytesL L)) (by simp [hlt, bcell])]
  simp only [Option.bind_some, V.asSlice, and_self, if_true]
  rw [bytesL_length, room_ok hr]
  rw [memSetB (c := (.ptr 75 b 0, false)) (c' := (.slice 1 5 (bytesL L), false)) (by simp [hlt])]
  simp only [grd, cond_true, Option.bind_some, List.set_set, bcell, bytesL_append]
  rfl
theorem callK_ret2 {call : CallF} {f : FuncId} {args : List Cell} {σ σ' : Sto} {K : List Cell → Sto → Option Res} {KP : V → Sto → Option Res} {c d : Cell} (h : call f args σ = some (.ret [c, d], σ')) :
  callK call f args σ 2 K KP = K [c, d] σ' := callK_ret h rfl
end Go.Ab.Mk
end
section
namespace Go.Ab.Mk
open Go.Proofs Go.Ab
def plv (s : ByteArray) : List ByteArray → List Lv → Lv
 | p :: ps, l :: ls => if p.toList == s.toList then l else plv s ps ls
 | _, _ => .param s
def substV (ps : List ByteArray) (ls : List Lv) : Lv → Lv
 | .zero => .zero
 | .succ l => .succ (substV ps ls l)
 | .max a b => .max (substV ps ls a) (substV ps ls b)
 | .imax a b => .imax (substV ps ls a) (substV ps ls b)
 | .param s => plv s ps ls
def encs (ls : List Lv) : List (List V) := ls.map Lv.enc
theorem substV_kids (ps : List ByteArray) (ls : List Lv) : ∀ (l : Lv), (∀ s, l ≠ .param s) → (substV ps ls l).kind = l.kind ∧ (substV ps ls l).name = l.name ∧ (substV ps ls l).kids = l.kids.map (substV ps ls)
 | .param s, h => absurd rfl (h s)
 | .zero, _ => ⟨rfl, rfl, rfl⟩
 | .succ _, _ => ⟨rfl, rfl, rfl⟩
 | .max .., _ => ⟨rfl, rfl, rfl⟩
 | .imax .., _ => ⟨rfl, rfl, rfl⟩
theorem plv_idx (s : ByteArray) : ∀ (ps : List ByteArray) (ls : List Lv) (i : Nat), ps.length = ls.length →
  (idx s ps i = -1 ∧ plv s ps ls = .param s) ∨ ∃ j, j < ls.length ∧ idx s ps i = ((i + j : Nat) : Int) ∧ ls[j]? = some (plv s ps ls)
 | [], [], _, _ => .inl ⟨rfl, rfl⟩
 | [], _ :: _, _, h => by simp at h
 | _ :: _, [], _, h => by simp at h
 | p :: ps, n :: ns, i, h => by
  by_cases hc : s.toList = p.toList
  ·exact .inr ⟨0, by simp, by simp [idx, hc], by simp [plv, hc]⟩
  ·have hc' : ¬ p.toList = s.toList := fun e => hc e.symm
   rcases plv_idx s ps ns (i + 1) (by simpa using h) with ⟨h1, h2⟩ | ⟨j, h1, h2, h3⟩
   ·exact .inl ⟨by simp [idx, hc, h1], by simp [plv, hc', h2]⟩
   ·refine .inr ⟨j + 1, by simp; omega, ?_, ?_⟩
    ·simp only [idx, beq_iff_eq, hc, if_false, h2]; congr 1; omega
    ·simp only [plv, beq_iff_eq, hc', if_false, List.getElem?_cons_succ]; exact h3
theorem fits_lv (l : Lv) : V.fits (.agg [.int .i64 l.kind, .str l.name, .slice 3 44 l.args]) true 3 = true := rfl
theorem cell_lv (l : Lv) : [V.cell (.agg [.int .i64 l.kind, .str l.name, .slice 3 44 l.args]) 0, V.cell (.agg [.int .i64 l.kind, .str l.name, .slice 3 44 l.args]) 1, V.cell (.agg [.int .i64 l.kind, .str l.name, .slice 3 44 l.args]) 2] = l.enc := by rw [l.enc_eq]; rfl
theorem subst_loop (call : CallF) (n : Nat) {L : List Lv} (hb : L.length < 2 ^ 33) (ps : List ByteArray) (ls : List Lv) (k0 : Int) (n0 : ByteArray) (a0 : List (List V)) (k : Int) (nm : ByteArray) (σ : Sto)
  (h : ∀ c ∈ L, call 50 [(.agg [.int .i64 c.kind, .str c.name, .slice 3 44 c.args], false), (.slice 1 9 (strs ps), false), (.slice 3 44 (encs ls), false)] σ =
   some (.ret [(.agg [.int .i64 (substV ps ls c).kind, .str (substV ps ls c).name, .slice 3 44 (substV ps ls c).args], false)], σ)) :
  ∀ (m i : Nat), i ≤ L.length → L.length - i < m → substl0 call n m (strs ps) (encs ls) (L.map Lv.enc) L.length i k0 n0 a0 k nm (((L.take i).map (substV ps ls)).map Lv.enc) σ =
   some (.ret [(.agg [.int .i64 k, .str nm, .slice 3 44 ((L.map (substV ps ls)).map Lv.enc)], false)], σ)
 | 0, i, _, hm => by omega
 | m + 1, i, hi, hm => by
  show substs0 call (substl0 call n m) (strs ps) (encs ls) (L.map Lv.enc) L.length i k0 n0 a0 k nm _ σ = _
  unfold substs0
  rw [List.length_map]
  by_cases hlt : i < L.length
  ·have hc := List.getElem?_eq_getElem hlt
   have h1 := h _ (List.getElem_mem hlt)
   rw [d0, dlt hlt, kid_get hc, L[i].cells]
   simp only [cond_true, Bool.and_self, grd, Option.bind_some, callK_ret1 h1, wrap_succ (show i < 2 ^ 61 by omega), List.getD_cons_zero]
   rw [fits_lv, cell_lv, room_ok (by simp; omega)]
   simp only [cond_true, Bool.and_self, Option.bind_some]
   have := subst_loop call n hb ps ls k0 n0 a0 k nm σ h m (i + 1) (by omega) (by omega)
   rw [List.take_succ_eq_append_getElem hlt, List.map_append, List.map_append] at this
   exact this
  ·rw [dnlt hlt, List.take_of_length_le (by omega)]
   rfl
theorem subst_run {ps : List ByteArray} {ls : List Lv} (hl : ps.length = ls.length) (hb : ps.length < 2 ^ 61) (σ : Sto)(l : Lv) (ih : ∀ c ∈ l.kids, lim C 50 [(.agg [.int .i64 c.kind, .str c.name, .slice 3 44 c.args], false), (.slice 1 9 (strs ps), false), (.slice 3 44 (encs ls), false)] σ =
   some (.ret [(.agg [.int .i64 (substV ps ls c).kind, .str (substV ps ls c).name, .slice 3 44 (substV ps ls c).args], false)], σ)) :
  subst (lim C) 4 l.kind l.name l.args (strs ps) (encs ls) σ = some (.ret [(.agg [.int .i64 (substV ps ls l).kind, .str (substV ps ls l).name, .slice 3 44 (substV ps ls l).args], false)], σ) := by
 by_cases hp : ∃ s, l = .param s
 ·obtain ⟨s, rfl⟩ := hp
  have h1 := index_law hb s σ
  simp only [subst, substF, show ((Lv.param s).kind == (4 : Int)) = true from rfl, show (Lv.param s).name = s from rfl, cond_true, callK_ret1 h1, substV]
  rcases plv_idx s ps ls 0 hl with ⟨e1, e2⟩ | ⟨j, e1, e2, e3⟩
  ·simp [e1, e2, V.asInt, Lv.kind, Lv.name, Lv.args, Lv.kids]
  ·have hg := kid_get e3
   rw [Nat.zero_add] at e2
   simp only [e2, encs, List.getD_cons_zero, V.asInt, if_true, Option.bind_some, hg, Lv.cells, List.length_map, dlt e1, d0, ge_iff_le, cond_true, Bool.and_self, grd]
 ·have hp : ∀ s, l ≠ .param s := fun s hs => hp ⟨s, hs⟩
  obtain ⟨e1, e2, e3⟩ := substV_kids ps ls l hp
  have := subst_loop (lim C) 4 (L := l.kids) (by have := kids_few l; omega) ps ls 0 (ByteArray.mk #[]) [] l.kind l.name σ ih 4 0 (by omega) (by have := kids_few l; omega)
  simp only [subst, substF, kind_ne hp, cond_false, e1, e2]
  simp only [Lv.args, e3, List.length_map]
  exact this
theorem subst_law {ps : List ByteArray} {ls : List Lv} (hl : ps.length = ls.length) (hb : ps.length < 2 ^ 61) (σ : Sto) : ∀ (l : Lv),
  lim C 50 [(.agg [.int .i64 l.kind, .str l.name, .slice 3 44 l.args], false), (.slice 1 9 (strs ps), false), (.slice 3 44 (encs ls), false)] σ =
   some (.ret [(.agg [.int .i64 (substV ps ls l).kind, .str (substV ps ls l).name, .slice 3 44 (substV ps ls l).args], false)], σ) :=
 Lv.ind fun l ih => subst_lim (subst_run hl hb σ l ih)
theorem rsubst_loop0 (call : CallF) (n : Nat) {ps : List ByteArray} {ls : List Lv} (hl : ps.length = ls.length) (hb : ps.length < 2 ^ 61) (k : Int) (nm : ByteArray) (xs : List (List V)) (k0 : Int) (n0 : ByteArray) (a0 : List (List V)) (σ : Sto) (r : Lv) (hr : V.agg [.int .i64 k, .str nm, .slice 3 44 xs] = V.agg [.int .i64 (Lv.param nm).kind, .str (Lv.param nm).name, .slice 3 44 (Lv.param nm).args]) :
  ∀ (m i : Nat), i ≤ ps.length → ps.length - i < m → rsubstl0 call n m (strs ps) (encs ls) i k nm xs k0 n0 a0 σ =
   some (.ret [(.agg [.int .i64 (plv nm (ps.drop i) (ls.drop i)).kind, .str (plv nm (ps.drop i) (ls.drop i)).name, .slice 3 44 (plv nm (ps.drop i) (ls.drop i)).args], false)], σ)
 | 0, i, _, hm => by omega
 | m + 1, i, hi, hm => by
  show rsubsts0 call (rsubstl0 call n m) (strs ps) (encs ls) i k nm xs k0 n0 a0 σ = _
  unfold rsubsts0
  rw [strs_length]
  by_cases hlt : i < ps.length
  ·have hlt2 : i < ls.length := by omega
   have hc := List.getElem?_eq_getElem hlt2
   rw [encs, kid_get hc, d0, dlt hlt, List.length_map, dlt hlt2, Int.toNat_natCast, strs_get hlt, List.drop_eq_getElem_cons hlt, drop_cons hc, ls[i].cells]
   simp only [cond_true, grd, Option.bind_some, List.getD_cons_zero, V.asStr, plv]
   cases hc : ps[i].toList == nm.toList with
   | true => simp
   | false =>
    simp only [cond_false, wrap_succ (show i < 2 ^ 61 by omega), Bool.false_eq_true, if_false, Bool.and_self, cond_true, Option.bind_some]
    exact rsubst_loop0 call n hl hb k nm xs k0 n0 a0 σ r hr m (i + 1) (by omega) (by omega)
  ·rw [dnlt hlt, List.drop_eq_nil_of_le (by omega), hr]
   rfl
theorem rsubst_loop1 (call : CallF) (n : Nat) {L : List Lv} (hb : L.length < 2 ^ 33) (ps : List ByteArray) (ls : List Lv) (k1 : Int) (n1 : ByteArray) (k0 : Int) (n0 : ByteArray) (a0 : List (List V)) (k : Int) (nm : ByteArray) (σ : Sto)
  (h : ∀ c ∈ L, call 51 [(.agg [.int .i64 c.kind, .str c.name, .slice 3 44 c.args], false), (.slice 1 9 (strs ps), false), (.slice 3 44 (encs ls), false)] σ =
   some (.ret [(.agg [.int .i64 (substV ps ls c).kind, .str (substV ps ls c).name, .slice 3 44 (substV ps ls c).args], false)], σ)) :
  ∀ (m i : Nat), i ≤ L.length → L.length - i < m → rsubstl1 call n m (strs ps) (encs ls) i k1 n1 (L.map Lv.enc) k0 n0 a0 k nm (((L.take i).map (substV ps ls)).map Lv.enc) σ =
   some (.ret [(.agg [.int .i64 k, .str nm, .slice 3 44 ((L.map (substV ps ls)).map Lv.enc)], false)], σ)
 | 0, i, _, hm => by omega
 | m + 1, i, hi, hm => by
  show rsubsts1 call (rsubstl1 call n m) (strs ps) (encs ls) i k1 n1 (L.map Lv.enc) k0 n0 a0 k nm _ σ = _
  unfold rsubsts1
  rw [List.length_map]
  by_cases hlt : i < L.length
  ·have hc := List.getElem?_eq_getElem hlt
   have h1 := h _ (List.getElem_mem hlt)
   rw [d0, dlt hlt, kid_get hc, L[i].cells]
   simp only [cond_true, Bool.and_self, grd, Option.bind_some, callK_ret1 h1, wrap_succ (show i < 2 ^ 61 by omega), List.getD_cons_zero]
   rw [fits_lv, cell_lv, room_ok (by simp; omega)]
   simp only [cond_true, Bool.and_self, Option.bind_some]
   have := rsubst_loop1 call n hb ps ls k1 n1 k0 n0 a0 k nm σ h m (i + 1) (by omega) (by omega)
   rw [List.take_succ_eq_append_getElem hlt, List.map_append, List.map_append] at this
   exact this
  ·rw [dnlt hlt, List.take_of_length_le (by omega)]
   rfl
theorem rsubst_run {ps : List ByteArray} {ls : List Lv} (hl : ps.length = ls.length) (hb : ps.length < 2 ^ 61) (σ : Sto)(l : Lv) (ih : ∀ c ∈ l.kids, lim C 51 [(.agg [.int .i64 c.kind, .str c.name, .slice 3 44 c.args], false), (.slice 1 9 (strs ps), false), (.slice 3 44 (encs ls), false)] σ =
   some (.ret [(.agg [.int .i64 (substV ps ls c).kind, .str (substV ps ls c).name, .slice 3 44 (substV ps ls c).args], false)], σ)) :
  rsubst (lim C) (ps.length + 4) l.kind l.name l.args (strs ps) (encs ls) σ = some (.ret [(.agg [.int .i64 (substV ps ls l).kind, .str (substV ps ls l).name, .slice 3 44 (substV ps ls l).args], false)], σ) := by
 by_cases hp : ∃ s, l = .param s
 ·obtain ⟨s, rfl⟩ := hp
  have := rsubst_loop0 (lim C) (ps.length + 4) hl hb 4 s [] 0 (ByteArray.mk #[]) [] σ .zero rfl (ps.length + 4) 0 (by omega) (by omega)
  simpa [rsubst, rsubstF, Lv.kind, Lv.name, Lv.args, Lv.kids, substV] using this
 ·have hp : ∀ s, l ≠ .param s := fun s hs => hp ⟨s, hs⟩
  obtain ⟨e1, e2, e3⟩ := substV_kids ps ls l hp
  have := rsubst_loop1 (lim C) (ps.length + 4) (L := l.kids) (by have := kids_few l; omega) ps ls l.kind l.name 0 (ByteArray.mk #[]) [] l.kind l.name σ ih (ps.length + 4) 0 (by omega) (by have := kids_few l; omega)
  simp only [rsubst, rsubstF, kind_ne hp, cond_false, e1, e2]
  simp only [Lv.args, e3]
  exact this
theorem rsubst_law {ps : List ByteArray} {ls : List Lv} (hl : ps.length = ls.length) (hb : ps.length < 2 ^ 61) (σ : Sto) : ∀ (l : Lv),
  lim C 51 [(.agg [.int .i64 l.kind, .str l.name, .slice 3 44 l.args], false), (.slice 1 9 (strs ps), false), (.slice 3 44 (encs ls), false)] σ =
   some (.ret [(.agg [.int .i64 (substV ps ls l).kind, .str (substV ps ls l).name, .slice 3 44 (substV ps ls l).args], false)], σ) :=
 Lv.ind fun l ih => rsubst_lim (rsubst_run hl hb σ l ih)
def limitV (n : Int) : Int := bif decide (n < 0) then Int.tmod (IntKind.wrap .i64 (0 - IntKind.wrap .i64 (n + 1))) 6 else Int.tmod n 6
theorem limit_law (n : Int) (σ : Sto) : lim C 7 [(.int .i64 n, false)] σ = some (.ret [(.int .i64 (limitV n), false)], σ) :=
 limit_lim (n := 0) <| by
  simp only [limit, limitF, limitV]
  cases decide (n < 0) <;> rfl
end Go.Ab.Mk
end
