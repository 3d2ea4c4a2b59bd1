/- Terms as trees, how they are laid, and what the reference reads of a text. -/
import Derived.Test.YtblgboigcpbidaaDoorAbMk1
import Derived.Test.YtblgboigcpbidaaDoorAbBl
import Derived.Laws.Strings
set_option linter.unusedSimpArgs false
set_option linter.unusedVariables false
set_option linter.deprecated false
section
set_option maxRecDepth 100000
namespace Go.Ab.Mk
open Go.Proofs Go.Ab
open List (getD)
open IntKind (wrap)
noncomputable def sstepF (call : CallF) (a : Nat) (σ : Sto) : Option Res :=
 (memGet σ (V.ptr 40 a 1) false 1).bind fun m1 =>
 callK call 24 [(V.ptr 40 a 0, false), (m1, false), ((V.func (.func 25) [] []), false)] σ 1 (fun q r =>
 (grd (V.fits (getD q 0 cellD).1 false 1)).bind fun _ =>
 (memSet r (V.ptr 40 a 3) [((getD q 0 cellD).1, false)]).bind fun m5 =>
 (memGet m5 (V.ptr 40 a 3) false 1).bind fun m6 =>
 (memGet m5 (V.ptr 40 a 0) false 1).bind fun m7 =>
 (V.asStr m7).bind fun s8 =>
 (V.asInt m6 .i64).bind fun i9 =>
 bif (i9 == (s8.size : Int)) then
 (memGet m5 (V.ptr 40 a 3) false 1).bind fun m10 =>
 (memSet m5 (V.ptr 40 a 2) [(V.str ⟨#[]⟩, false)]).bind fun m11 =>
 (grd (V.fits m10 false 1)).bind fun _ =>
 (memSet m11 (V.ptr 40 a 1) [(m10, false)]).bind fun m12 =>
 some (.ret [], m12)
 else
 (memGet m5 (V.ptr 40 a 3) false 1).bind fun m13 =>
 (V.asInt m13 .i64).bind fun i14 =>
 (memGet m5 (V.ptr 40 a 0) false 1).bind fun m15 =>
 (memGet m5 (V.ptr 40 a 3) false 1).bind fun m16 =>
 (V.asStr m15).bind fun s17 =>
 (V.asInt m16 .i64).bind fun i18 =>
 (grd (decide (0 ≤ i18) && decide (i18 < s17.size))).bind fun _ =>
 bif ((byteAt s17 i18.toNat) == (40 : Int)) then
 bif (decide ((wrap .i64 (i14 + (1 : Int))) < (0 : Int))) then
 (memSet m5 (V.ptr 40 a 2) [(V.str ⟨#[0]⟩, false)]).bind fun m19 =>
 some (.ret [], m19)
 else
 (memGet m5 (V.ptr 40 a 0) false 1).bind fun m20 =>
 (memGet m5 (V.ptr 40 a 3) false 1).bind fun m21 =>
 (V.asStr m20).bind fun s22 =>
 (V.asInt m21 .i64).bind fun i23 =>
 (grd (decide (0 ≤ i23) && decide (i23 ≤ (wrap .i64 (i14 + (1 : Int)))) && decide ((wrap .i64 (i14 + (1 : Int))) ≤ s22.size))).bind fun _ =>
 (memSet m5 (V.ptr 40 a 2) [((V.str (s22.extract i23.toNat (Int.toNat (wrap .i64 (i14 + (1 : Int)))))), false)]).bind fun m24 =>
 (memSet m24 (V.ptr 40 a 1) [((V.int .i64 (wrap .i64 (i14 + (1 : Int)))), false)]).bind fun m25 =>
 some (.ret [], m25)
 else
 bif ((byteAt s17 i18.toNat) == (41 : Int)) then
 bif (decide ((wrap .i64 (i14 + (1 : Int))) < (0 : Int))) then
 (memSet m5 (V.ptr 40 a 2) [(V.str ⟨#[0]⟩, false)]).bind fun m26 =>
 some (.ret [], m26)
 else
 (memGet m5 (V.ptr 40 a 0) false 1).bind fun m27 =>
 (memGet m5 (V.ptr 40 a 3) false 1).bind fun m28 =>
 (V.asStr m27).bind fun s29 =>
 (V.asInt m28 .i64).bind fun i30 =>
 (grd (decide (0 ≤ i30) && decide (i30 ≤ (wrap .i64 (i14 + (1 : Int)))) && decide ((wrap .i64 (i14 + (1 : Int))) ≤ s29.size))).bind fun _ =>
 (memSet m5 (V.ptr 40 a 2) [((V.str (s29.extract i30.toNat (Int.toNat (wrap .i64 (i14 + (1 : Int)))))), false)]).bind fun m31 =>
 (memSet m31 (V.ptr 40 a 1) [((V.int .i64 (wrap .i64 (i14 + (1 : Int)))), false)]).bind fun m32 =>
 some (.ret [], m32)
 else
 callK call 26 [(V.int .u8 (byteAt s17 i18.toNat), false)] m5 1 (fun s j =>
 (V.asBool (getD s 0 cellD).1).bind fun b36 =>
 bif b36 then
 (memGet j (V.ptr 40 a 3) false 1).bind fun m37 =>
 callK call 24 [(V.ptr 40 a 0, false), (m37, false), ((V.func (.func 27) [] []), false)] j 1 (fun o k =>
 (memGet k (V.ptr 40 a 3) false 1).bind fun m41 =>
 (V.asInt (getD o 0 cellD).1 .i64).bind fun i42 =>
 (V.asInt m41 .i64).bind fun i43 =>
 bif (decide ((wrap .i64 (i42 - i43)) > (40 : Int))) then
 (memSet k (V.ptr 40 a 2) [(V.str ⟨#[0]⟩, false)]).bind fun m44 =>
 some (.ret [], m44)
 else
 (V.asInt (getD o 0 cellD).1 .i64).bind fun i45 =>
 bif (decide (i45 < (0 : Int))) then
 (memSet k (V.ptr 40 a 2) [(V.str ⟨#[0]⟩, false)]).bind fun m46 =>
 some (.ret [], m46)
 else
 (memGet k (V.ptr 40 a 0) false 1).bind fun m47 =>
 (memGet k (V.ptr 40 a 3) false 1).bind fun m48 =>
 (V.asStr m47).bind fun s49 =>
 (V.asInt m48 .i64).bind fun i50 =>
 (V.asInt (getD o 0 cellD).1 .i64).bind fun i51 =>
 (grd (decide (0 ≤ i50) && decide (i50 ≤ i51) && decide (i51 ≤ s49.size))).bind fun _ =>
 (memSet k (V.ptr 40 a 2) [(V.str (s49.extract i50.toNat i51.toNat), false)]).bind fun m52 =>
 (grd (V.fits (getD o 0 cellD).1 false 1)).bind fun _ =>
 (memSet m52 (V.ptr 40 a 1) [((getD o 0 cellD).1, false)]).bind fun m53 =>
 some (.ret [], m53)) pnK
 else
 bif ((byteAt s17 i18.toNat) == (35 : Int)) then
 (memGet j (V.ptr 40 a 3) false 1).bind fun m54 =>
 bif ((byteAt s17 i18.toNat) == (35 : Int)) then
 (V.asInt m54 .i64).bind fun i55 =>
 callK call 24 [(V.ptr 40 a 0, false), ((V.int .i64 (wrap .i64 (i55 + (1 : Int)))), false), ((V.func (.func 28) [] []), false)] j 1 (fun f b =>
 (V.asInt (getD f 0 cellD).1 .i64).bind fun i59 =>
 bif ((wrap .i64 (i59 - (wrap .i64 (i55 + (1 : Int))))) == (0 : Int)) then
 (memSet b (V.ptr 40 a 2) [(V.str ⟨#[0]⟩, false)]).bind fun m60 =>
 some (.ret [], m60)
 else
 bif (decide ((wrap .i64 (i59 - (wrap .i64 (i55 + (1 : Int))))) > (5 : Int))) then
 (memSet b (V.ptr 40 a 2) [(V.str ⟨#[0]⟩, false)]).bind fun m61 =>
 some (.ret [], m61)
 else
 bif (decide ((wrap .i64 (i59 - (wrap .i64 (i55 + (1 : Int))))) > (1 : Int))) then
 (memGet b (V.ptr 40 a 0) false 1).bind fun m62 =>
 (V.asStr m62).bind fun s63 =>
 (grd (decide (0 ≤ (wrap .i64 (i55 + (1 : Int)))) && decide ((wrap .i64 (i55 + (1 : Int))) < s63.size))).bind fun _ =>
 bif ((byteAt s63 (Int.toNat (wrap .i64 (i55 + (1 : Int))))) == (48 : Int)) then
 (memSet b (V.ptr 40 a 2) [(V.str ⟨#[0]⟩, false)]).bind fun m64 =>
 some (.ret [], m64)
 else
 (V.asInt (getD f 0 cellD).1 .i64).bind fun i65 =>
 bif (decide (i65 < (0 : Int))) then
 (memSet b (V.ptr 40 a 2) [(V.str ⟨#[0]⟩, false)]).bind fun m66 =>
 some (.ret [], m66)
 else
 (memGet b (V.ptr 40 a 0) false 1).bind fun m67 =>
 (memGet b (V.ptr 40 a 3) false 1).bind fun m68 =>
 (V.asStr m67).bind fun s69 =>
 (V.asInt m68 .i64).bind fun i70 =>
 (V.asInt (getD f 0 cellD).1 .i64).bind fun i71 =>
 (grd (decide (0 ≤ i70) && decide (i70 ≤ i71) && decide (i71 ≤ s69.size))).bind fun _ =>
 (memSet b (V.ptr 40 a 2) [(V.str (s69.extract i70.toNat i71.toNat), false)]).bind fun m72 =>
 (grd (V.fits (getD f 0 cellD).1 false 1)).bind fun _ =>
 (memSet m72 (V.ptr 40 a 1) [((getD f 0 cellD).1, false)]).bind fun m73 =>
 some (.ret [], m73)
 else
 (V.asInt (getD f 0 cellD).1 .i64).bind fun i74 =>
 bif (decide (i74 < (0 : Int))) then
 (memSet b (V.ptr 40 a 2) [(V.str ⟨#[0]⟩, false)]).bind fun m75 =>
 some (.ret [], m75)
 else
 (memGet b (V.ptr 40 a 0) false 1).bind fun m76 =>
 (memGet b (V.ptr 40 a 3) false 1).bind fun m77 =>
 (V.asStr m76).bind fun s78 =>
 (V.asInt m77 .i64).bind fun i79 =>
 (V.asInt (getD f 0 cellD).1 .i64).bind fun i80 =>
 (grd (decide (0 ≤ i79) && decide (i79 ≤ i80) && decide (i80 ≤ s78.size))).bind fun _ =>
 (memSet b (V.ptr 40 a 2) [(V.str (s78.extract i79.toNat i80.toNat), false)]).bind fun m81 =>
 (grd (V.fits (getD f 0 cellD).1 false 1)).bind fun _ =>
 (memSet m81 (V.ptr 40 a 1) [((getD f 0 cellD).1, false)]).bind fun m82 =>
 some (.ret [], m82)) pnK
 else
 callK call 24 [(V.ptr 40 a 0, false), (m54, false), ((V.func (.func 28) [] []), false)] j 1 (fun g c =>
 (V.asInt (getD g 0 cellD).1 .i64).bind fun i86 =>
 (V.asInt m54 .i64).bind fun i87 =>
 bif ((wrap .i64 (i86 - i87)) == (0 : Int)) then
 (memSet c (V.ptr 40 a 2) [(V.str ⟨#[0]⟩, false)]).bind fun m88 =>
 some (.ret [], m88)
 else
 bif (decide ((wrap .i64 (i86 - i87)) > (5 : Int))) then
 (memSet c (V.ptr 40 a 2) [(V.str ⟨#[0]⟩, false)]).bind fun m89 =>
 some (.ret [], m89)
 else
 bif (decide ((wrap .i64 (i86 - i87)) > (1 : Int))) then
 (memGet c (V.ptr 40 a 0) false 1).bind fun m90 =>
 (V.asStr m90).bind fun s91 =>
 (V.asInt m54 .i64).bind fun i92 =>
 (grd (decide (0 ≤ i92) && decide (i92 < s91.size))).bind fun _ =>
 bif ((byteAt s91 i92.toNat) == (48 : Int)) then
 (memSet c (V.ptr 40 a 2) [(V.str ⟨#[0]⟩, false)]).bind fun m93 =>
 some (.ret [], m93)
 else
 (V.asInt (getD g 0 cellD).1 .i64).bind fun i94 =>
 bif (decide (i94 < (0 : Int))) then
 (memSet c (V.ptr 40 a 2) [(V.str ⟨#[0]⟩, false)]).bind fun m95 =>
 some (.ret [], m95)
 else
 (memGet c (V.ptr 40 a 0) false 1).bind fun m96 =>
 (memGet c (V.ptr 40 a 3) false 1).bind fun m97 =>
 (V.asStr m96).bind fun s98 =>
 (V.asInt m97 .i64).bind fun i99 =>
 (V.asInt (getD g 0 cellD).1 .i64).bind fun i100 =>
 (grd (decide (0 ≤ i99) && decide (i99 ≤ i100) && decide (i100 ≤ s98.size))).bind fun _ =>
 (memSet c (V.ptr 40 a 2) [(V.str (s98.extract i99.toNat i100.toNat), false)]).bind fun m101 =>
 (grd (V.fits (getD g 0 cellD).1 false 1)).bind fun _ =>
 (memSet m101 (V.ptr 40 a 1) [((getD g 0 cellD).1, false)]).bind fun m102 =>
 some (.ret [], m102)
 else
 (V.asInt (getD g 0 cellD).1 .i64).bind fun i103 =>
 bif (decide (i103 < (0 : Int))) then
 (memSet c (V.ptr 40 a 2) [(V.str ⟨#[0]⟩, false)]).bind fun m104 =>
 some (.ret [], m104)
 else
 (memGet c (V.ptr 40 a 0) false 1).bind fun m105 =>
 (memGet c (V.ptr 40 a 3) false 1).bind fun m106 =>
 (V.asStr m105).bind fun s107 =>
 (V.asInt m106 .i64).bind fun i108 =>
 (V.asInt (getD g 0 cellD).1 .i64).bind fun i109 =>
 (grd (decide (0 ≤ i108) && decide (i108 ≤ i109) && decide (i109 ≤ s107.size))).bind fun _ =>
 (memSet c (V.ptr 40 a 2) [(V.str (s107.extract i108.toNat i109.toNat), false)]).bind fun m110 =>
 (grd (V.fits (getD g 0 cellD).1 false 1)).bind fun _ =>
 (memSet m110 (V.ptr 40 a 1) [((getD g 0 cellD).1, false)]).bind fun m111 =>
 some (.ret [], m111)) pnK
 else
 callK call 28 [(V.int .u8 (byteAt s17 i18.toNat), false)] j 1 (fun t p =>
 (V.asBool (getD t 0 cellD).1).bind fun b115 =>
 bif b115 then
 (memGet p (V.ptr 40 a 3) false 1).bind fun m116 =>
 bif ((byteAt s17 i18.toNat) == (35 : Int)) then
 (V.asInt m116 .i64).bind fun i117 =>
 callK call 24 [(V.ptr 40 a 0, false), ((V.int .i64 (wrap .i64 (i117 + (1 : Int)))), false), ((V.func (.func 28) [] []), false)] p 1 (fun h d =>
 (V.asInt (getD h 0 cellD).1 .i64).bind fun i121 =>
 bif ((wrap .i64 (i121 - (wrap .i64 (i117 + (1 : Int))))) == (0 : Int)) then
 (memSet d (V.ptr 40 a 2) [(V.str ⟨#[0]⟩, false)]).bind fun m122 =>
 some (.ret [], m122)
 else
 bif (decide ((wrap .i64 (i121 - (wrap .i64 (i117 + (1 : Int))))) > (5 : Int))) then
 (memSet d (V.ptr 40 a 2) [(V.str ⟨#[0]⟩, false)]).bind fun m123 =>
 some (.ret [], m123)
 else
 bif (decide ((wrap .i64 (i121 - (wrap .i64 (i117 + (1 : Int))))) > (1 : Int))) then
 (memGet d (V.ptr 40 a 0) false 1).bind fun m124 =>
 (V.asStr m124).bind fun s125 =>
 (grd (decide (0 ≤ (wrap .i64 (i117 + (1 : Int)))) && decide ((wrap .i64 (i117 + (1 : Int))) < s125.size))).bind fun _ =>
 bif ((byteAt s125 (Int.toNat (wrap .i64 (i117 + (1 : Int))))) == (48 : Int)) then
 (memSet d (V.ptr 40 a 2) [(V.str ⟨#[0]⟩, false)]).bind fun m126 =>
 some (.ret [], m126)
 else
 (V.asInt (getD h 0 cellD).1 .i64).bind fun i127 =>
 bif (decide (i127 < (0 : Int))) then
 (memSet d (V.ptr 40 a 2) [(V.str ⟨#[0]⟩, false)]).bind fun m128 =>
 some (.ret [], m128)
 else
 (memGet d (V.ptr 40 a 0) false 1).bind fun m129 =>
 (memGet d (V.ptr 40 a 3) false 1).bind fun m130 =>
 (V.asStr m129).bind fun s131 =>
 (V.asInt m130 .i64).bind fun i132 =>
 (V.asInt (getD h 0 cellD).1 .i64).bind fun i133 =>
 (grd (decide (0 ≤ i132) && decide (i132 ≤ i133) && decide (i133 ≤ s131.size))).bind fun _ =>
 (memSet d (V.ptr 40 a 2) [(V.str (s131.extract i132.toNat i133.toNat), false)]).bind fun m134 =>
 (grd (V.fits (getD h 0 cellD).1 false 1)).bind fun _ =>
 (memSet m134 (V.ptr 40 a 1) [((getD h 0 cellD).1, false)]).bind fun m135 =>
 some (.ret [], m135)
 else
 (V.asInt (getD h 0 cellD).1 .i64).bind fun i136 =>
 bif (decide (i136 < (0 : Int))) then
 (memSet d (V.ptr 40 a 2) [(V.str ⟨#[0]⟩, false)]).bind fun m137 =>
 some (.ret [], m137)
 else
 (memGet d (V.ptr 40 a 0) false 1).bind fun m138 =>
 (memGet d (V.ptr 40 a 3) false 1).bind fun m139 =>
 (V.asStr m138).bind fun s140 =>
 (V.asInt m139 .i64).bind fun i141 =>
 (V.asInt (getD h 0 cellD).1 .i64).bind fun i142 =>
 (grd (decide (0 ≤ i141) && decide (i141 ≤ i142) && decide (i142 ≤ s140.size))).bind fun _ =>
 (memSet d (V.ptr 40 a 2) [(V.str (s140.extract i141.toNat i142.toNat), false)]).bind fun m143 =>
 (grd (V.fits (getD h 0 cellD).1 false 1)).bind fun _ =>
 (memSet m143 (V.ptr 40 a 1) [((getD h 0 cellD).1, false)]).bind fun m144 =>
 some (.ret [], m144)) pnK
 else
 callK call 24 [(V.ptr 40 a 0, false), (m116, false), ((V.func (.func 28) [] []), false)] p 1 (fun i e =>
 (V.asInt (getD i 0 cellD).1 .i64).bind fun i148 =>
 (V.asInt m116 .i64).bind fun i149 =>
 bif ((wrap .i64 (i148 - i149)) == (0 : Int)) then
 (memSet e (V.ptr 40 a 2) [(V.str ⟨#[0]⟩, false)]).bind fun m150 =>
 some (.ret [], m150)
 else
 bif (decide ((wrap .i64 (i148 - i149)) > (5 : Int))) then
 (memSet e (V.ptr 40 a 2) [(V.str ⟨#[0]⟩, false)]).bind fun m151 =>
 some (.ret [], m151)
 else
 bif (decide ((wrap .i64 (i148 - i149)) > (1 : Int))) then
 (memGet e (V.ptr 40 a 0) false 1).bind fun m152 =>
 (V.asStr m152).bind fun s153 =>
 (V.asInt m116 .i64).bind fun i154 =>
 (grd (decide (0 ≤ i154) && decide (i154 < s153.size))).bind fun _ =>
 bif ((byteAt s153 i154.toNat) == (48 : Int)) then
 (memSet e (V.ptr 40 a 2) [(V.str ⟨#[0]⟩, false)]).bind fun m155 =>
 some (.ret [], m155)
 else
 (V.asInt (getD i 0 cellD).1 .i64).bind fun i156 =>
 bif (decide (i156 < (0 : Int))) then
 (memSet e (V.ptr 40 a 2) [(V.str ⟨#[0]⟩, false)]).bind fun m157 =>
 some (.ret [], m157)
 else
 (memGet e (V.ptr 40 a 0) false 1).bind fun m158 =>
 (memGet e (V.ptr 40 a 3) false 1).bind fun m159 =>
 (V.asStr m158).bind fun s160 =>
 (V.asInt m159 .i64).bind fun i161 =>
 (V.asInt (getD i 0 cellD).1 .i64).bind fun i162 =>
 (grd (decide (0 ≤ i161) && decide (i161 ≤ i162) && decide (i162 ≤ s160.size))).bind fun _ =>
 (memSet e (V.ptr 40 a 2) [(V.str (s160.extract i161.toNat i162.toNat), false)]).bind fun m163 =>
 (grd (V.fits (getD i 0 cellD).1 false 1)).bind fun _ =>
 (memSet m163 (V.ptr 40 a 1) [((getD i 0 cellD).1, false)]).bind fun m164 =>
 some (.ret [], m164)
 else
 (V.asInt (getD i 0 cellD).1 .i64).bind fun i165 =>
 bif (decide (i165 < (0 : Int))) then
 (memSet e (V.ptr 40 a 2) [(V.str ⟨#[0]⟩, false)]).bind fun m166 =>
 some (.ret [], m166)
 else
 (memGet e (V.ptr 40 a 0) false 1).bind fun m167 =>
 (memGet e (V.ptr 40 a 3) false 1).bind fun m168 =>
 (V.asStr m167).bind fun s169 =>
 (V.asInt m168 .i64).bind fun i170 =>
 (V.asInt (getD i 0 cellD).1 .i64).bind fun i171 =>
 (grd (decide (0 ≤ i170) && decide (i170 ≤ i171) && decide (i171 ≤ s169.size))).bind fun _ =>
 (memSet e (V.ptr 40 a 2) [(V.str (s169.extract i170.toNat i171.toNat), false)]).bind fun m172 =>
 (grd (V.fits (getD i 0 cellD).1 false 1)).bind fun _ =>
 (memSet m172 (V.ptr 40 a 1) [((getD i 0 cellD).1, false)]).bind fun m173 =>
 some (.ret [], m173)) pnK
 else
 (memSet p (V.ptr 40 a 2) [(V.str ⟨#[0]⟩, false)]).bind fun m174 =>
 some (.ret [], m174)) pnK) pnK) pnK
noncomputable def sstep (call : CallF) (n a : Nat) (σ : Sto) : Option Res := sstepF call a σ
theorem sstep_eqF (call : CallF) (n a : Nat) (σ : Sto) : afun C sstepD call n [(V.ptr 40 a 0, false)] σ =
  sstepF call a σ := by kernel_rfl
theorem sstep_eq (call : CallF) (n a : Nat) (σ : Sto) : afun C sstepD call n [(V.ptr 40 a 0, false)] σ = sstep call n a σ := sstep_eqF call n a σ
theorem sstep_lim {n : Nat} {a : Nat} {b0 : Bool} {σ : Sto} {r : Res} (h : sstep (lim C) n a σ = some r) : lim C 13 [(V.ptr 40 a 0, b0)] σ = some r :=
 lim_of (d := sstepD) (by kernel_rfl) (by kernel_rfl) n (show afun C sstepD (lim C) n [(V.ptr 40 a 0, false)] σ = some r from (sstep_eq (lim C) n a σ).trans h)
noncomputable def stakeF (call : CallF) (a : Nat) (b : ByteArray) (σ : Sto) : Option Res :=
 (memGet σ (V.ptr 40 a 2) false 1).bind fun m1 =>
 (V.asStr m1).bind fun s2 =>
 bif (!(s2.toList == b.toList)) then
 callK call 16 [(V.ptr 40 a 0, false)] σ 0 (fun f c =>
 callK call 13 [(V.ptr 40 a 0, false)] c 0 (fun g d =>
 some (.ret [], d)) pnK) pnK
 else
 callK call 13 [(V.ptr 40 a 0, false)] σ 0 (fun h e =>
 some (.ret [], e)) pnK
noncomputable def stake (call : CallF) (n a : Nat) (b : ByteArray) (σ : Sto) : Option Res := stakeF call a b σ
theorem stake_eqF (call : CallF) (n a : Nat) (b : ByteArray) (σ : Sto) : afun C stakeD call n [(V.ptr 40 a 0, false), (V.str b, false)] σ =
  stakeF call a b σ := by kernel_rfl
theorem stake_eq (call : CallF) (n a : Nat) (b : ByteArray) (σ : Sto) : afun C stakeD call n [(V.ptr 40 a 0, false), (V.str b, false)] σ = stake call n a b σ := stake_eqF call n a b σ
theorem stake_lim {n : Nat} {a : Nat} {b : ByteArray} {b0 b1 : Bool} {σ : Sto} {r : Res} (h : stake (lim C) n a b σ = some r) : lim C 14 [(V.ptr 40 a 0, b0), (V.str b, b1)] σ = some r :=
 lim_of (d := stakeD) (by kernel_rfl) (by kernel_rfl) n (show afun C stakeD (lim C) n [(V.ptr 40 a 0, false), (V.str b, false)] σ = some r from (stake_eq (lim C) n a b σ).trans h)
noncomputable def sfailF (call : CallF) (a : Nat) (σ : Sto) : Option Res :=
 (memGet σ (V.ptr 40 a 3) false 1).bind fun m1 =>
 (grd ((V.fits m1 false 1 && true))).bind fun _ =>
 some (.pan (V.iface 32 (V.ptr 34 (List.length σ) 0)), (σ ++ [[((V.int .i64 (1 : Int)), false), (m1, false)]]))
noncomputable def sfail (call : CallF) (n a : Nat) (σ : Sto) : Option Res := sfailF call a σ
theorem sfail_eqF (call : CallF) (n a : Nat) (σ : Sto) : afun C sfailD call n [(V.ptr 40 a 0, false)] σ =
  sfailF call a σ := by kernel_rfl
theorem sfail_eq (call : CallF) (n a : Nat) (σ : Sto) : afun C sfailD call n [(V.ptr 40 a 0, false)] σ = sfail call n a σ := sfail_eqF call n a σ
theorem sfail_lim {n : Nat} {a : Nat} {b0 : Bool} {σ : Sto} {r : Res} (h : sfail (lim C) n a σ = some r) : lim C 16 [(V.ptr 40 a 0, b0)] σ = some r :=
 lim_of (d := sfailD) (by kernel_rfl) (by kernel_rfl) n (show afun C sfailD (lim C) n [(V.ptr 40 a 0, false)] σ = some r from (sfail_eq (lim C) n a σ).trans h)
noncomputable def snameF (call : CallF) (a : Nat) (σ : Sto) : Option Res :=
 (memGet σ (V.ptr 40 a 2) false 1).bind fun m1 =>
 (V.asStr m1).bind fun s2 =>
 bif (s2.toList == (ByteArray.mk #[]).toList) then
 callK call 16 [(V.ptr 40 a 0, false)] σ 0 (fun i c =>
 callK call 13 [(V.ptr 40 a 0, false)] c 0 (fun j d =>
 some (.ret [(m1, false)], d)) pnK) pnK
 else
 (V.asStr m1).bind fun s9 =>
 (grd (decide (0 ≤ (0 : Int)) && decide ((0 : Int) < s9.size))).bind fun _ =>
 callK call 26 [((V.int .u8 (byteAt s9 (Int.toNat (0 : Int)))), false)] σ 1 (fun e b =>
 (V.asBool (getD e 0 cellD).1).bind fun b13 =>
 bif (!b13) then
 callK call 16 [(V.ptr 40 a 0, false)] b 0 (fun k f =>
 callK call 13 [(V.ptr 40 a 0, false)] f 0 (fun o g =>
 some (.ret [(m1, false)], g)) pnK) pnK
 else
 callK call 13 [(V.ptr 40 a 0, false)] b 0 (fun p h =>
 some (.ret [(m1, false)], h)) pnK) pnK
noncomputable def sname (call : CallF) (n a : Nat) (σ : Sto) : Option Res := snameF call a σ
theorem sname_eqF (call : CallF) (n a : Nat) (σ : Sto) : afun C snameD call n [(V.ptr 40 a 0, false)] σ =
  snameF call a σ := by kernel_rfl
theorem sname_eq (call : CallF) (n a : Nat) (σ : Sto) : afun C snameD call n [(V.ptr 40 a 0, false)] σ = sname call n a σ := sname_eqF call n a σ
theorem sname_lim {n : Nat} {a : Nat} {b0 : Bool} {σ : Sto} {r : Res} (h : sname (lim C) n a σ = some r) : lim C 17 [(V.ptr 40 a 0, b0)] σ = some r :=
 lim_of (d := snameD) (by kernel_rfl) (by kernel_rfl) n (show afun C snameD (lim C) n [(V.ptr 40 a 0, false)] σ = some r from (sname_eq (lim C) n a σ).trans h)
noncomputable def readk0 : List Nat := [0, 2, 8, 75, 76]
noncomputable def readk1 : List Nat := [0, 2, 8, 9]
noncomputable def reads0 (call : CallF) (rec0 : Nat → Int → Int → Int → Int → ByteArray → LL → LL → Int → Int → V → LL → LL → RR) (b : Nat) (d e j k : Int) (o : ByteArray) (p q : LL) (f g : Int) (h : V) (i c : LL) (σ : Sto) : Option Res :=
 bif (decide (e < d)) then
 callK call 19 [(V.ptr 40 b 0, false)] σ 1 (fun a r =>
 (grd ((V.fits (getD a 0 cellD).1 true 5 && true))).bind fun _ =>
 (grd (room (List.length c + 1))).bind fun _ =>
 rec0 b d (wrap .i64 (e + (1 : Int))) j k o p q f g h i (c ++ [[V.cell (getD a 0 cellD).1 0, V.cell (getD a 0 cellD).1 1, V.cell (getD a 0 cellD).1 2, V.cell (getD a 0 cellD).1 3, V.cell (getD a 0 cellD).1 4]]) r) pnK
 else
 callK call 14 [(V.ptr 40 b 0, false), (V.str ⟨#[41]⟩, false)] σ 0 (fun t s =>
 some (.ret [(V.agg [V.int .i64 f, V.int .i64 g, h, V.slice 3 76 i, V.slice 5 45 c], false)], s)) pnK
noncomputable def readl0 (call : CallF) (n : Nat) : Nat → Nat → Int → Int → Int → Int → ByteArray → LL → LL → Int → Int → V → LL → LL → RR
 | 0 => fun _ _ _ _ _ _ _ _ _ _ _ _ _ _ => none
 | m + 1 => reads0 call (readl0 call n m)
noncomputable def readt0 (a : Nat) (b c d e : Int) (f : ByteArray) (g h : LL) (i j : Int) (k : V) (o p : LL) (σ : Sto) : St := ⟨[.val (V.ptr 40 a 0) false, .dead, .lptr 2 0] ++ dd 5 ([.lptr 8 0] ++ dd 66 ([.val (V.int .i64 b) false, .val (V.int .i64 c) false] ++ dd 12 [])), [[], [], [(V.int .i64 d, false), (V.int .i64 e, false), (V.str f, false), (V.slice 3 76 g, true), (V.slice 5 45 h, true)]] ++ nn 5 ([[(V.int .i64 i, false), (V.int .i64 j, false), (k, false), (V.slice 3 76 o, true), (V.slice 5 45 p, true)]] ++ nn 80 []), σ⟩
noncomputable def reads1 (call : CallF) (L0 : Nat → Int → Int → Int → Int → ByteArray → LL → LL → Int → Int → V → LL → LL → RR) (rec1 : Nat → Int → Int → Int → ByteArray → LL → LL → Int → Int → V → LL → LL → RR) (a : Nat) (d e f : Int) (g : ByteArray) (h i : LL) (j k : Int) (o : V) (c p : LL) (σ : Sto) : Option Res :=
 (memGet σ (V.ptr 40 a 2) false 1).bind fun m1 =>
 (V.asStr m1).bind fun s2 =>
 bif (!(s2.toList == (ByteArray.mk #[41]).toList)) then
 callK call 33 [(V.ptr 40 a 0, false)] σ 1 (fun b q =>
 (grd ((V.fits (getD b 0 cellD).1 true 3 && true))).bind fun _ =>
 (grd (room (List.length c + 1))).bind fun _ =>
 rec1 a d e f g h i j k o (c ++ [[V.cell (getD b 0 cellD).1 0, V.cell (getD b 0 cellD).1 1, V.cell (getD b 0 cellD).1 2]]) p q) pnK
 else
 L0 a d (0 : Int) e f g h i j k o c p σ
noncomputable def readl1 (call : CallF) (n : Nat) : Nat → Nat → Int → Int → Int → ByteArray → LL → LL → Int → Int → V → LL → LL → RR
 | 0 => fun _ _ _ _ _ _ _ _ _ _ _ _ _ => none
 | m + 1 => reads1 call (readl0 call n n) (readl1 call n m)
noncomputable def readt1 (a : Nat) (b c d : Int) (e : ByteArray) (f g : LL) (h i : Int) (j : V) (k o : LL) (σ : Sto) : St := ⟨[.val (V.ptr 40 a 0) false, .dead, .lptr 2 0] ++ dd 5 ([.lptr 8 0, .val (V.int .i64 b) false] ++ dd 79 []), [[], [], [(V.int .i64 c, false), (V.int .i64 d, false), (V.str e, false), (V.slice 3 76 f, true), (V.slice 5 45 g, true)]] ++ nn 5 ([[(V.int .i64 h, false), (V.int .i64 i, false), (j, false), (V.slice 3 76 k, true), (V.slice 5 45 o, true)]] ++ nn 80 []), σ⟩
noncomputable def readF (call : CallF) (L0 : Nat → Int → Int → Int → Int → ByteArray → LL → LL → Int → Int → V → LL → LL → RR) (L1 : Nat → Int → Int → Int → ByteArray → LL → LL → Int → Int → V → LL → LL → RR) (a : Nat) (σ : Sto) : Option Res :=
 (memGet σ (V.ptr 40 a 2) false 1).bind fun m1 =>
 callK call 31 [(m1, false), (V.str ⟨#[35]⟩, false)] σ 2 (fun g h =>
 (V.asBool (getD g 1 cellD).1).bind fun b5 =>
 bif b5 then
 callK call 18 [((getD g 0 cellD).1, false)] h 2 (fun b i =>
 (V.ifaceNil (getD b 1 cellD).1).bind fun b9 =>
 bif (!b9) then
 callK call 16 [(V.ptr 40 a 0, false)] i 0 (fun a0 q =>
 callK call 13 [(V.ptr 40 a 0, false)] q 0 (fun a1 r =>
 (grd ((V.fits (getD b 0 cellD).1 false 1 && true))).bind fun _ =>
 some (.ret [((V.agg [(V.int .i64 (0 : Int)), (getD b 0 cellD).1, V.str ⟨#[]⟩, V.slice 3 76 [], V.slice 5 45 []]), false)], r)) pnK) pnK
 else
 callK call 13 [(V.ptr 40 a 0, false)] i 0 (fun a2 s =>
 (grd ((V.fits (getD b 0 cellD).1 false 1 && true))).bind fun _ =>
 some (.ret [((V.agg [(V.int .i64 (0 : Int)), (getD b 0 cellD).1, V.str ⟨#[]⟩, V.slice 3 76 [], V.slice 5 45 []]), false)], s)) pnK) pnK
 else
 callK call 14 [(V.ptr 40 a 0, false), (V.str ⟨#[40]⟩, false)] h 0 (fun a3 j =>
 (grd (decide (0 ≤ (1 : Int)) && decide ((1 : Int) ≤ (7 : Int)) && decide ((7 : Int) ≤ (7 : Nat)) && decide ((1 : Int) < (7 : Nat)))).bind fun _ =>
 (memGet j (V.ptr 40 a 2) false 1).bind fun m22 =>
 callK call 32 [((V.slice 1 9 (((List.map (fun v => [v]) [V.str ⟨#[]⟩, V.str ⟨#[115, 111, 114, 116]⟩, V.str ⟨#[99, 111, 110, 115, 116]⟩, V.str ⟨#[97, 112, 112]⟩, V.str ⟨#[108, 97, 109]⟩, V.str ⟨#[112, 105]⟩, V.str ⟨#[108, 101, 116]⟩]).take (Int.toNat (7 : Int))).drop (Int.toNat (1 : Int)))), false), (m22, false)] j 1 (fun t k =>
 (V.asInt (getD t 0 cellD).1 .i64).bind fun i26 =>
 bif ((wrap .i64 (i26 + (1 : Int))) == (0 : Int)) then
 callK call 16 [(V.ptr 40 a 0, false)] k 0 (fun a4 u =>
 callK call 13 [(V.ptr 40 a 0, false)] u 0 (fun a5 c =>
 bif ((wrap .i64 (i26 + (1 : Int))) == (1 : Int)) then
 callK call 33 [(V.ptr 40 a 0, false)] c 1 (fun d w =>
 (grd ((V.fits (getD d 0 cellD).1 true 3 && true))).bind fun _ =>
 L0 a (0 : Int) (0 : Int) (0 : Int) (0 : Int) (ByteArray.mk #[]) [] [] (wrap .i64 (i26 + (1 : Int))) (0 : Int) (V.str ⟨#[]⟩) [[V.cell (getD d 0 cellD).1 0, V.cell (getD d 0 cellD).1 1, V.cell (getD d 0 cellD).1 2]] [] w) pnK
 else
 bif ((wrap .i64 (i26 + (1 : Int))) == (2 : Int)) then
 callK call 17 [(V.ptr 40 a 0, false)] c 1 (fun o x =>
 (grd (V.fits (getD o 0 cellD).1 false 1)).bind fun _ =>
 L1 a (0 : Int) (0 : Int) (0 : Int) (ByteArray.mk #[]) [] [] (wrap .i64 (i26 + (1 : Int))) (0 : Int) (getD o 0 cellD).1 [] [] x) pnK
 else
 bif ((wrap .i64 (i26 + (1 : Int))) == (6 : Int)) then
 L0 a (3 : Int) (0 : Int) (0 : Int) (0 : Int) (ByteArray.mk #[]) [] [] (wrap .i64 (i26 + (1 : Int))) (0 : Int) (V.str ⟨#[]⟩) [] [] c
 else
 L0 a (2 : Int) (0 : Int) (0 : Int) (0 : Int) (ByteArray.mk #[]) [] [] (wrap .i64 (i26 + (1 : Int))) (0 : Int) (V.str ⟨#[]⟩) [] [] c) pnK) pnK
 else
 callK call 13 [(V.ptr 40 a 0, false)] k 0 (fun a6 e =>
 bif ((wrap .i64 (i26 + (1 : Int))) == (1 : Int)) then
 callK call 33 [(V.ptr 40 a 0, false)] e 1 (fun f y =>
 (grd ((V.fits (getD f 0 cellD).1 true 3 && true))).bind fun _ =>
 L0 a (0 : Int) (0 : Int) (0 : Int) (0 : Int) (ByteArray.mk #[]) [] [] (wrap .i64 (i26 + (1 : Int))) (0 : Int) (V.str ⟨#[]⟩) [[V.cell (getD f 0 cellD).1 0, V.cell (getD f 0 cellD).1 1, V.cell (getD f 0 cellD).1 2]] [] y) pnK
 else
 bif ((wrap .i64 (i26 + (1 : Int))) == (2 : Int)) then
 callK call 17 [(V.ptr 40 a 0, false)] e 1 (fun p z =>
 (grd (V.fits (getD p 0 cellD).1 false 1)).bind fun _ =>
 L1 a (0 : Int) (0 : Int) (0 : Int) (ByteArray.mk #[]) [] [] (wrap .i64 (i26 + (1 : Int))) (0 : Int) (getD p 0 cellD).1 [] [] z) pnK
 else
 bif ((wrap .i64 (i26 + (1 : Int))) == (6 : Int)) then
 L0 a (3 : Int) (0 : Int) (0 : Int) (0 : Int) (ByteArray.mk #[]) [] [] (wrap .i64 (i26 + (1 : Int))) (0 : Int) (V.str ⟨#[]⟩) [] [] e
 else
 L0 a (2 : Int) (0 : Int) (0 : Int) (0 : Int) (ByteArray.mk #[]) [] [] (wrap .i64 (i26 + (1 : Int))) (0 : Int) (V.str ⟨#[]⟩) [] [] e) pnK) pnK) pnK) pnK
noncomputable def read (call : CallF) (n a : Nat) (σ : Sto) : Option Res := readF call (readl0 call n n) (readl1 call n n) a σ
theorem reads0_eq (call : CallF) (n : Nat) (F0 : St → Option Res) (a : Nat) (b c d e : Int) (f : ByteArray) (g h : LL) (i j : Int) (k : V) (o p : LL) (σ : Sto) :
  aexec C readH call n (cp [0,0,1,0,1,1,1,1,1,1,1,1,1] readC) 0 (readt0 a b c d e f g h i j k o p σ) (kloop readk0 F0 (kblk 3 (kseq (fun st' => aexec C readH call n (cp [1,1,1,1,1,1,1,1,1,1] readC) 0 st' (kfin C readD)) (kfin C readD)))) =
  reads0 call (fun a b c d e f g h i j k o p σ => F0 (readt0 a b c d e f g h i j k o p σ)) a b c d e f g h i j k o p σ := by kernel_rfl
theorem readl0_eq (call : CallF) (n : Nat) : ∀ (m a : Nat) (b c d e : Int) (f : ByteArray) (g h : LL) (i j : Int) (k : V) (o p : LL) (σ : Sto),
  aloop (fun st K => aexec C readH call n (cp [0,0,1,0,1,1,1,1,1,1,1,1,1] readC) 0 st K) readk0 m (readt0 a b c d e f g h i j k o p σ) (kblk 3 (kseq (fun st' => aexec C readH call n (cp [1,1,1,1,1,1,1,1,1,1] readC) 0 st' (kfin C readD)) (kfin C readD))) = readl0 call n m a b c d e f g h i j k o p σ
 | 0, a, b, c, d, e, f, g, h, i, j, k, o, p, σ => rfl
 | m + 1, a, b, c, d, e, f, g, h, i, j, k, o, p, σ => by
  rw [aloop, reads0_eq]
  simp only [readl0_eq call n m]
  rfl
theorem reads1_eq (call : CallF) (n : Nat) (F1 : St → Option Res) (a : Nat) (o b c : Int) (d : ByteArray) (e f : LL) (g h : Int) (i : V) (j k : LL) (σ : Sto) :
  aexec C readH call n (cp [0,0,1,0,1,1,1,0,1,0,1,1,1,1,1,1,1,1] readC) 0 (readt1 a o b c d e f g h i j k σ) (kloop readk1 F1 (kblk 1 (kblk 0 (kseq (fun st' => aexec C readH call n (cp [1,1,1,1,1,1,1,1,1] readC) 0 st' (kfin C readD)) (kfin C readD))))) =
  reads1 call (fun a p q b c d e f g h i j k σ => aloop (fun st K => aexec C readH call n (cp [0,0,1,0,1,1,1,1,1,1,1,1,1] readC) 0 st K) readk0 n (readt0 a p q b c d e f g h i j k σ) (kblk 3 (kseq (fun st' => aexec C readH call n (cp [1,1,1,1,1,1,1,1,1,1] readC) 0 st' (kfin C readD)) (kfin C readD)))) (fun a o b c d e f g h i j k σ => F1 (readt1 a o b c d e f g h i j k σ)) a o b c d e f g h i j k σ := by kernel_rfl
theorem readl1_eq (call : CallF) (n : Nat) : ∀ (m a : Nat) (b c d : Int) (e : ByteArray) (f g : LL) (h i : Int) (j : V) (k o : LL) (σ : Sto),
  aloop (fun st K => aexec C readH call n (cp [0,0,1,0,1,1,1,0,1,0,1,1,1,1,1,1,1,1] readC) 0 st K) readk1 m (readt1 a b c d e f g h i j k o σ) (kblk 1 (kblk 0 (kseq (fun st' => aexec C readH call n (cp [1,1,1,1,1,1,1,1,1] readC) 0 st' (kfin C readD)) (kfin C readD)))) = readl1 call n m a b c d e f g h i j k o σ
 | 0, a, b, c, d, e, f, g, h, i, j, k, o, σ => rfl
 | m + 1, a, b, c, d, e, f, g, h, i, j, k, o, σ => by
  rw [aloop, reads1_eq]
  simp only [readl1_eq call n m, readl0_eq]
  rfl
theorem read_eqF (call : CallF) (n a : Nat) (σ : Sto) : afun C readD call n [(V.ptr 40 a 0, false)] σ =
  readF call (fun a o p b c d e f g h i j k σ => aloop (fun st K => aexec C readH call n (cp [0,0,1,0,1,1,1,1,1,1,1,1,1] readC) 0 st K) readk0 n (readt0 a o p b c d e f g h i j k σ) (kblk 3 (kseq (fun st' => aexec C readH call n (cp [1,1,1,1,1,1,1,1,1,1] readC) 0 st' (kfin C readD)) (kfin C readD)))) (fun a q b c d e f g h i j k σ => aloop (fun st K => aexec C readH call n (cp [0,0,1,0,1,1,1,0,1,0,1,1,1,1,1,1,1,1] readC) 0 st K) readk1 n (readt1 a q b c d e f g h i j k σ) (kblk 1 (kblk 0 (kseq (fun st' => aexec C readH call n (cp [1,1,1,1,1,1,1,1,1] readC) 0 st' (kfin C readD)) (kfin C readD))))) a σ := by kernel_rfl
theorem read_eq (call : CallF) (n a : Nat) (σ : Sto) : afun C readD call n [(V.ptr 40 a 0, false)] σ = read call n a σ := by
 rw [read_eqF]
 simp only [readl0_eq, readl1_eq]
 rfl
theorem read_lim {n : Nat} {a : Nat} {b0 : Bool} {σ : Sto} {r : Res} (h : read (lim C) n a σ = some r) : lim C 19 [(V.ptr 40 a 0, b0)] σ = some r :=
 lim_of (d := readD) (by kernel_rfl) (by kernel_rfl) n (show afun C readD (lim C) n [(V.ptr 40 a 0, false)] σ = some r from (read_eq (lim C) n a σ).trans h)
noncomputable def tprintF (call : CallF) (a b : Int) (c : ByteArray) (d e : LL) (σ : Sto) : Option Res :=
 callK call 37 [(V.ptr 53 (List.length σ) 0, false), (V.agg [V.int .i64 a, V.int .i64 b, V.str c, V.slice 3 76 d, V.slice 5 45 e], false)] (σ ++ [[(V.nilp, false), (V.slice 1 5 [], true)]]) 0 (fun i f =>
 callK call 12 [(V.ptr 53 (List.length σ) 0, false)] f 1 (fun g h =>
 some (.ret [((getD g 0 cellD).1, false)], h)) pnK) pnK
noncomputable def tprint (call : CallF) (n : Nat) (a b : Int) (c : ByteArray) (d e : LL) (σ : Sto) : Option Res := tprintF call a b c d e σ
theorem tprint_eqF (call : CallF) (n : Nat) (a b : Int) (c : ByteArray) (d e : LL) (σ : Sto) : afun C tprintD call n [(V.agg [V.int .i64 a, V.int .i64 b, V.str c, V.slice 3 76 d, V.slice 5 45 e], false)] σ =
  tprintF call a b c d e σ := by kernel_rfl
theorem tprint_eq (call : CallF) (n : Nat) (a b : Int) (c : ByteArray) (d e : LL) (σ : Sto) : afun C tprintD call n [(V.agg [V.int .i64 a, V.int .i64 b, V.str c, V.slice 3 76 d, V.slice 5 45 e], false)] σ = tprint call n a b c d e σ := tprint_eqF call n a b c d e σ
theorem tprint_lim {n : Nat} {a : Int} {b : Int} {c : ByteArray} {e : LL} {f : LL} {b0 : Bool} {σ : Sto} {r : Res} (h : tprint (lim C) n a b c e f σ = some r) : lim C 23 [(V.agg [V.int .i64 a, V.int .i64 b, V.str c, V.slice 3 76 e, V.slice 5 45 f], b0)] σ = some r :=
 lim_of (d := tprintD) (by kernel_rfl) (by kernel_rfl) n (show afun C tprintD (lim C) n [(V.agg [V.int .i64 a, V.int .i64 b, V.str c, V.slice 3 76 e, V.slice 5 45 f], false)] σ = some r from (tprint_eq (lim C) n a b c e f σ).trans h)
noncomputable def srunk0 : List Nat := [0, 1, 2]
noncomputable def sruns0 (call : CallF) (rec0 : Nat → Int → V → RR) (b : Nat) (a : Int) (c : V) (σ : Sto) : Option Res :=
 (memGet σ (V.ptr 40 b 0) false 1).bind fun m1 =>
 (V.asStr m1).bind fun s2 =>
 bif (decide (a < (s2.size : Int))) then
 (memGet σ (V.ptr 40 b 0) false 1).bind fun m3 =>
 (V.asStr m3).bind fun s4 =>
 (grd (decide (0 ≤ a) && decide (a < s4.size))).bind fun _ =>
 (V.asFunc c).bind fun fn5 =>
 callK call fn5.1 (fn5.2.1.map (fun v => (v, false)) ++ [(V.int .u8 (byteAt s4 a.toNat), false)] ++ fn5.2.2.map fun v => (v, false)) σ 1 (fun e d =>
 (V.asBool (getD e 0 cellD).1).bind fun b9 =>
 bif b9 then
 rec0 b (wrap .i64 (a + (1 : Int))) c d
 else
 some (.ret [(V.int .i64 a, false)], d)) pnK
 else
 some (.ret [(V.int .i64 a, false)], σ)
noncomputable def srunl0 (call : CallF) (n : Nat) : Nat → Nat → Int → V → RR
 | 0 => fun _ _ _ _ => none
 | m + 1 => sruns0 call (srunl0 call n m)
noncomputable def srunt0 (a : Nat) (b : Int) (c : V) (σ : Sto) : St := ⟨[.val (V.ptr 40 a 0) false, .val (V.int .i64 b) false, .val c false] ++ dd 24 [], nn 27 [], σ⟩
noncomputable def srunF (call : CallF) (L0 : Nat → Int → V → RR) (a : Nat) (b : Int) (c : V) (σ : Sto) : Option Res :=
 L0 a b c σ
noncomputable def srun (call : CallF) (n a : Nat) (b : Int) (c : V) (σ : Sto) : Option Res := srunF call (srunl0 call n n) a b c σ
theorem sruns0_eq (call : CallF) (n : Nat) (F0 : St → Option Res) (a : Nat) (b : Int) (c : V) (σ : Sto) :
  aexec C srunH call n (cp [0,0,0,1] srunC) 0 (srunt0 a b c σ) (kloop srunk0 F0 (kblk 0 (kseq (fun st' => aexec C srunH call n (codeR (codeR srunC)) 0 st' (kfin C srunD)) (kfin C srunD)))) =
  sruns0 call (fun a b c σ => F0 (srunt0 a b c σ)) a b c σ := by kernel_rfl
theorem srunl0_eq (call : CallF) (n : Nat) : ∀ (m a : Nat) (b : Int) (c : V) (σ : Sto),
  aloop (fun st K => aexec C srunH call n (cp [0,0,0,1] srunC) 0 st K) srunk0 m (srunt0 a b c σ) (kblk 0 (kseq (fun st' => aexec C srunH call n (codeR (codeR srunC)) 0 st' (kfin C srunD)) (kfin C srunD))) = srunl0 call n m a b c σ
 | 0, a, b, c, σ => rfl
 | m + 1, a, b, c, σ => by
  rw [aloop, sruns0_eq]
  simp only [srunl0_eq call n m]
  rfl
theorem srun_eqF (call : CallF) (n a : Nat) (c : Int) (b : V) (σ : Sto) : afun C srunD call n [(V.ptr 40 a 0, false), (V.int .i64 c, false), (b, false)] σ =
  srunF call (fun a d b σ => aloop (fun st K => aexec C srunH call n (cp [0,0,0,1] srunC) 0 st K) srunk0 n (srunt0 a d b σ) (kblk 0 (kseq (fun st' => aexec C srunH call n (codeR (codeR srunC)) 0 st' (kfin C srunD)) (kfin C srunD)))) a c b σ := by kernel_rfl
theorem srun_eq (call : CallF) (n a : Nat) (b : Int) (c : V) (σ : Sto) : afun C srunD call n [(V.ptr 40 a 0, false), (V.int .i64 b, false), (c, false)] σ = srun call n a b c σ := by
 rw [srun_eqF]
 simp only [srunl0_eq]
 rfl
theorem srun_lim {n : Nat} {a : Nat} {b : Int} {c : V} {b0 b1 b2 : Bool} {σ : Sto} {r : Res} (h : srun (lim C) n a b c σ = some r) : lim C 24 [(V.ptr 40 a 0, b0), (V.int .i64 b, b1), (c, b2)] σ = some r :=
 lim_of (d := srunD) (by kernel_rfl) (by kernel_rfl) n (show afun C srunD (lim C) n [(V.ptr 40 a 0, false), (V.int .i64 b, false), (c, false)] σ = some r from (srun_eq (lim C) n a b c σ).trans h)
noncomputable def sblankF (call : CallF) (a : Int) (σ : Sto) : Option Res :=
 bif (a == (32 : Int)) then
 some (.ret [(V.bool true, false)], σ)
 else
 bif (a == (9 : Int)) then
 some (.ret [(V.bool true, false)], σ)
 else
 some (.ret [((V.bool (a == (10 : Int))), false)], σ)
noncomputable def sblank (call : CallF) (n : Nat) (a : Int) (σ : Sto) : Option Res := sblankF call a σ
theorem sblank_eqF (call : CallF) (n : Nat) (a : Int) (σ : Sto) : afun C sblankD call n [(V.int .u8 a, false)] σ =
  sblankF call a σ := by kernel_rfl
theorem sblank_eq (call : CallF) (n : Nat) (a : Int) (σ : Sto) : afun C sblankD call n [(V.int .u8 a, false)] σ = sblank call n a σ := sblank_eqF call n a σ
theorem sblank_lim {n : Nat} {a : Int} {b0 : Bool} {σ : Sto} {r : Res} (h : sblank (lim C) n a σ = some r) : lim C 25 [(V.int .u8 a, b0)] σ = some r :=
 lim_of (d := sblankD) (by kernel_rfl) (by kernel_rfl) n (show afun C sblankD (lim C) n [(V.int .u8 a, false)] σ = some r from (sblank_eq (lim C) n a σ).trans h)
noncomputable def letterF (call : CallF) (a : Int) (σ : Sto) : Option Res :=
 bif (decide ((IntKind.wrap .u8 ((BitVec.ofInt (IntKind.bits .u8) a ||| BitVec.ofInt (IntKind.bits .u8) (32 : Int)).toNat : Int)) ≥ (97 : Int))) then
 bif (decide ((IntKind.wrap .u8 ((BitVec.ofInt (IntKind.bits .u8) a ||| BitVec.ofInt (IntKind.bits .u8) (32 : Int)).toNat : Int)) ≤ (122 : Int))) then
 some (.ret [(V.bool true, false)], σ)
 else
 some (.ret [((V.bool (a == (95 : Int))), false)], σ)
 else
 some (.ret [((V.bool (a == (95 : Int))), false)], σ)
noncomputable def letter (call : CallF) (n : Nat) (a : Int) (σ : Sto) : Option Res := letterF call a σ
theorem letter_eqF (call : CallF) (n : Nat) (a : Int) (σ : Sto) : afun C letterD call n [(V.int .u8 a, false)] σ =
  letterF call a σ := by kernel_rfl
theorem letter_eq (call : CallF) (n : Nat) (a : Int) (σ : Sto) : afun C letterD call n [(V.int .u8 a, false)] σ = letter call n a σ := letter_eqF call n a σ
theorem letter_lim {n : Nat} {a : Int} {b0 : Bool} {σ : Sto} {r : Res} (h : letter (lim C) n a σ = some r) : lim C 26 [(V.int .u8 a, b0)] σ = some r :=
 lim_of (d := letterD) (by kernel_rfl) (by kernel_rfl) n (show afun C letterD (lim C) n [(V.int .u8 a, false)] σ = some r from (letter_eq (lim C) n a σ).trans h)
noncomputable def snmbF (call : CallF) (a : Int) (σ : Sto) : Option Res :=
 callK call 26 [(V.int .u8 a, false)] σ 1 (fun d c =>
 (V.asBool (getD d 0 cellD).1).bind fun b4 =>
 bif b4 then
 some (.ret [(V.bool true, false)], c)
 else
 callK call 28 [(V.int .u8 a, false)] c 1 (fun e b =>
 (V.asBool (getD e 0 cellD).1).bind fun b8 =>
 bif b8 then
 some (.ret [(V.bool true, false)], b)
 else
 bif (a == (46 : Int)) then
 some (.ret [(V.bool true, false)], b)
 else
 some (.ret [((V.bool (a == (39 : Int))), false)], b)) pnK) pnK
noncomputable def snmb (call : CallF) (n : Nat) (a : Int) (σ : Sto) : Option Res := snmbF call a σ
theorem snmb_eqF (call : CallF) (n : Nat) (a : Int) (σ : Sto) : afun C snmbD call n [(V.int .u8 a, false)] σ =
  snmbF call a σ := by kernel_rfl
theorem snmb_eq (call : CallF) (n : Nat) (a : Int) (σ : Sto) : afun C snmbD call n [(V.int .u8 a, false)] σ = snmb call n a σ := snmb_eqF call n a σ
theorem snmb_lim {n : Nat} {a : Int} {b0 : Bool} {σ : Sto} {r : Res} (h : snmb (lim C) n a σ = some r) : lim C 27 [(V.int .u8 a, b0)] σ = some r :=
 lim_of (d := snmbD) (by kernel_rfl) (by kernel_rfl) n (show afun C snmbD (lim C) n [(V.int .u8 a, false)] σ = some r from (snmb_eq (lim C) n a σ).trans h)
noncomputable def digitF (call : CallF) (a : Int) (σ : Sto) : Option Res :=
 bif (decide (a ≥ (48 : Int))) then
 some (.ret [((V.bool (decide (a ≤ (57 : Int)))), false)], σ)
 else
 some (.ret [(V.bool false, false)], σ)
noncomputable def digit (call : CallF) (n : Nat) (a : Int) (σ : Sto) : Option Res := digitF call a σ
theorem digit_eqF (call : CallF) (n : Nat) (a : Int) (σ : Sto) : afun C digitD call n [(V.int .u8 a, false)] σ =
  digitF call a σ := by kernel_rfl
theorem digit_eq (call : CallF) (n : Nat) (a : Int) (σ : Sto) : afun C digitD call n [(V.int .u8 a, false)] σ = digit call n a σ := digit_eqF call n a σ
theorem digit_lim {n : Nat} {a : Int} {b0 : Bool} {σ : Sto} {r : Res} (h : digit (lim C) n a σ = some r) : lim C 28 [(V.int .u8 a, b0)] σ = some r :=
 lim_of (d := digitD) (by kernel_rfl) (by kernel_rfl) n (show afun C digitD (lim C) n [(V.int .u8 a, false)] σ = some r from (digit_eq (lim C) n a σ).trans h)
noncomputable def cutPrefixF (call : CallF) (b c : ByteArray) (σ : Sto) : Option Res :=
 callK call 43 [(V.str b, false), (V.str c, false)] σ 2 (fun a d =>
 some (.ret [((getD a 0 cellD).1, false), ((getD a 1 cellD).1, false)], d)) pnK
noncomputable def cutPrefix (call : CallF) (n : Nat) (a b : ByteArray) (σ : Sto) : Option Res := cutPrefixF call a b σ
theorem cutPrefix_eqF (call : CallF) (n : Nat) (a b : ByteArray) (σ : Sto) : afun C cutPrefixD call n [(V.str a, false), (V.str b, false)] σ =
  cutPrefixF call a b σ := by kernel_rfl
theorem cutPrefix_eq (call : CallF) (n : Nat) (a b : ByteArray) (σ : Sto) : afun C cutPrefixD call n [(V.str a, false), (V.str b, false)] σ = cutPrefix call n a b σ := cutPrefix_eqF call n a b σ
theorem cutPrefix_lim {n : Nat} {a : ByteArray} {b : ByteArray} {b0 b1 : Bool} {σ : Sto} {r : Res} (h : cutPrefix (lim C) n a b σ = some r) : lim C 31 [(V.str a, b0), (V.str b, b1)] σ = some r :=
 lim_of (d := cutPrefixD) (by kernel_rfl) (by kernel_rfl) n (show afun C cutPrefixD (lim C) n [(V.str a, false), (V.str b, false)] σ = some r from (cutPrefix_eq (lim C) n a b σ).trans h)
end Go.Ab.Mk
end
section
set_option maxRecDepth 100000
namespace Go.Ab.Mk
open Go.Proofs Go.Ab
open List (getD)
open IntKind (wrap)
noncomputable def indexk0 : List Nat := [0, 1, 7, 8]
noncomputable def indexs0 (call : CallF) (rec0 : LL → ByteArray → Int → Int → RR) (b : LL) (c : ByteArray) (d a : Int) (σ : Sto) : Option Res :=
 bif (decide (a < d)) then
 (grd (decide (0 ≤ a) && decide (a < b.length))).bind fun _ =>
 (V.asStr (getD (getD b a.toNat []) 0 V.any)).bind fun s1 =>
 bif (c.toList == s1.toList) then
 some (.ret [(V.int .i64 a, false)], σ)
 else
 rec0 b c d (wrap .i64 (a + (1 : Int))) σ
 else
 some (.ret [((V.int .i64 (-1 : Int)), false)], σ)
noncomputable def indexl0 (call : CallF) (n : Nat) : Nat → LL → ByteArray → Int → Int → RR
 | 0 => fun _ _ _ _ _ => none
 | m + 1 => indexs0 call (indexl0 call n m)
noncomputable def indext0 (a : LL) (b : ByteArray) (c d : Int) (σ : Sto) : St := ⟨[.val (V.slice 1 9 a) false, .val (V.str b) false] ++ dd 5 ([.val (V.int .i64 c) false, .val (V.int .i64 d) false] ++ dd 10 []), nn 19 [], σ⟩
noncomputable def indexF (call : CallF) (L0 : LL → ByteArray → Int → Int → RR) (a : LL) (b : ByteArray) (σ : Sto) : Option Res :=
 L0 a b (a.length : Int) (0 : Int) σ
noncomputable def index (call : CallF) (n : Nat) (a : LL) (b : ByteArray) (σ : Sto) : Option Res := indexF call (indexl0 call n n) a b σ
theorem indexs0_eq (call : CallF) (n : Nat) (F0 : St → Option Res) (a : LL) (b : ByteArray) (c d : Int) (σ : Sto) :
  aexec C indexH call n (cp [0,0,1,0,1] indexC) 0 (indext0 a b c d σ) (kloop indexk0 F0 (kblk 0 (kseq (fun st' => aexec C indexH call n (codeR (codeR indexC)) 0 st' (kfin C indexD)) (kfin C indexD)))) =
  indexs0 call (fun a b c d σ => F0 (indext0 a b c d σ)) a b c d σ := by kernel_rfl
theorem indexl0_eq (call : CallF) (n : Nat) : ∀ (m : Nat) (a : LL) (b : ByteArray) (c d : Int) (σ : Sto),
  aloop (fun st K => aexec C indexH call n (cp [0,0,1,0,1] indexC) 0 st K) indexk0 m (indext0 a b c d σ) (kblk 0 (kseq (fun st' => aexec C indexH call n (codeR (codeR indexC)) 0 st' (kfin C indexD)) (kfin C indexD))) = indexl0 call n m a b c d σ
 | 0, a, b, c, d, σ => rfl
 | m + 1, a, b, c, d, σ => by
  rw [aloop, indexs0_eq]
  simp only [indexl0_eq call n m]
  rfl
theorem index_eqF (call : CallF) (n : Nat) (a : LL) (b : ByteArray) (σ : Sto) : afun C indexD call n [(V.slice 1 9 a, false), (V.str b, false)] σ =
  indexF call (fun a b c d σ => aloop (fun st K => aexec C indexH call n (cp [0,0,1,0,1] indexC) 0 st K) indexk0 n (indext0 a b c d σ) (kblk 0 (kseq (fun st' => aexec C indexH call n (codeR (codeR indexC)) 0 st' (kfin C indexD)) (kfin C indexD)))) a b σ := by kernel_rfl
theorem index_eq (call : CallF) (n : Nat) (a : LL) (b : ByteArray) (σ : Sto) : afun C indexD call n [(V.slice 1 9 a, false), (V.str b, false)] σ = index call n a b σ := by
 rw [index_eqF]
 simp only [indexl0_eq]
 rfl
theorem index_lim {n : Nat} {a : LL} {b : ByteArray} {b0 b1 : Bool} {σ : Sto} {r : Res} (h : index (lim C) n a b σ = some r) : lim C 32 [(V.slice 1 9 a, b0), (V.str b, b1)] σ = some r :=
 lim_of (d := indexD) (by kernel_rfl) (by kernel_rfl) n (show afun C indexD (lim C) n [(V.slice 1 9 a, false), (V.str b, false)] σ = some r from (index_eq (lim C) n a b σ).trans h)
noncomputable def slevelF (call : CallF) (a : Nat) (σ : Sto) : Option Res :=
 (memGet σ (V.ptr 40 a 2) false 1).bind fun m1 =>
 (V.asStr m1).bind fun s2 =>
 bif (s2.toList == (ByteArray.mk #[48]).toList) then
 callK call 13 [(V.ptr 40 a 0, false)] σ 0 (fun a5 k =>
 some (.ret [((V.agg [(V.int .i64 (0 : Int)), V.str ⟨#[]⟩, V.slice 3 76 []]), false)], k)) pnK
 else
 (V.asStr m1).bind fun s6 =>
 bif (s6.toList == (ByteArray.mk #[40]).toList) then
 callK call 13 [(V.ptr 40 a 0, false)] σ 0 (fun a6 b =>
 (memGet b (V.ptr 40 a 2) false 1).bind fun m10 =>
 (V.asStr m10).bind fun s11 =>
 bif (s11.toList == (ByteArray.mk #[115]).toList) then
 callK call 13 [(V.ptr 40 a 0, false)] b 0 (fun a7 o =>
 callK call 33 [(V.ptr 40 a 0, false)] o 1 (fun c p =>
 (grd ((V.fits (getD c 0 cellD).1 true 3 && true))).bind fun _ =>
 (grd (room (0 + 1))).bind fun _ =>
 callK call 14 [(V.ptr 40 a 0, false), (V.str ⟨#[41]⟩, false)] p 0 (fun a8 q =>
 some (.ret [((V.agg [(V.int .i64 (1 : Int)), V.str ⟨#[]⟩, V.slice 3 76 [[V.cell (getD c 0 cellD).1 0, V.cell (getD c 0 cellD).1 1, V.cell (getD c 0 cellD).1 2]]]), false)], q)) pnK) pnK) pnK
 else
 (V.asStr m10).bind fun s21 =>
 bif (s21.toList == (ByteArray.mk #[109, 97, 120]).toList) then
 callK call 13 [(V.ptr 40 a 0, false)] b 0 (fun a9 r =>
 callK call 33 [(V.ptr 40 a 0, false)] r 1 (fun d s =>
 (grd ((V.fits (getD d 0 cellD).1 true 3 && true))).bind fun _ =>
 (grd (room (0 + 1))).bind fun _ =>
 callK call 33 [(V.ptr 40 a 0, false)] s 1 (fun e t =>
 (grd ((V.fits (getD e 0 cellD).1 true 3 && true))).bind fun _ =>
 (grd (room (1 + 1))).bind fun _ =>
 callK call 14 [(V.ptr 40 a 0, false), (V.str ⟨#[41]⟩, false)] t 0 (fun c0 u =>
 some (.ret [((V.agg [(V.int .i64 (2 : Int)), V.str ⟨#[]⟩, V.slice 3 76 [[V.cell (getD d 0 cellD).1 0, V.cell (getD d 0 cellD).1 1, V.cell (getD d 0 cellD).1 2], [V.cell (getD e 0 cellD).1 0, V.cell (getD e 0 cellD).1 1, V.cell (getD e 0 cellD).1 2]]]), false)], u)) pnK) pnK) pnK) pnK
 else
 (V.asStr m10).bind fun s34 =>
 bif (s34.toList == (ByteArray.mk #[105, 109, 97, 120]).toList) then
 callK call 13 [(V.ptr 40 a 0, false)] b 0 (fun c1 v =>
 callK call 33 [(V.ptr 40 a 0, false)] v 1 (fun f w =>
 (grd ((V.fits (getD f 0 cellD).1 true 3 && true))).bind fun _ =>
 (grd (room (0 + 1))).bind fun _ =>
 callK call 33 [(V.ptr 40 a 0, false)] w 1 (fun g x =>
 (grd ((V.fits (getD g 0 cellD).1 true 3 && true))).bind fun _ =>
 (grd (room (1 + 1))).bind fun _ =>
 callK call 14 [(V.ptr 40 a 0, false), (V.str ⟨#[41]⟩, false)] x 0 (fun c2 y =>
 some (.ret [((V.agg [(V.int .i64 (3 : Int)), V.str ⟨#[]⟩, V.slice 3 76 [[V.cell (getD f 0 cellD).1 0, V.cell (getD f 0 cellD).1 1, V.cell (getD f 0 cellD).1 2], [V.cell (getD g 0 cellD).1 0, V.cell (getD g 0 cellD).1 1, V.cell (getD g 0 cellD).1 2]]]), false)], y)) pnK) pnK) pnK) pnK
 else
 callK call 16 [(V.ptr 40 a 0, false)] b 0 (fun c3 z =>
 callK call 13 [(V.ptr 40 a 0, false)] z 0 (fun c4 a0 =>
 callK call 33 [(V.ptr 40 a 0, false)] a0 1 (fun h a1 =>
 (grd ((V.fits (getD h 0 cellD).1 true 3 && true))).bind fun _ =>
 (grd (room (0 + 1))).bind fun _ =>
 callK call 33 [(V.ptr 40 a 0, false)] a1 1 (fun i a2 =>
 (grd ((V.fits (getD i 0 cellD).1 true 3 && true))).bind fun _ =>
 (grd (room (1 + 1))).bind fun _ =>
 callK call 14 [(V.ptr 40 a 0, false), (V.str ⟨#[41]⟩, false)] a2 0 (fun c5 a3 =>
 some (.ret [((V.agg [(V.int .i64 (0 : Int)), V.str ⟨#[]⟩, V.slice 3 76 [[V.cell (getD h 0 cellD).1 0, V.cell (getD h 0 cellD).1 1, V.cell (getD h 0 cellD).1 2], [V.cell (getD i 0 cellD).1 0, V.cell (getD i 0 cellD).1 1, V.cell (getD i 0 cellD).1 2]]]), false)], a3)) pnK) pnK) pnK) pnK) pnK) pnK
 else
 callK call 17 [(V.ptr 40 a 0, false)] σ 1 (fun j a4 =>
 (grd ((V.fits (getD j 0 cellD).1 false 1 && true))).bind fun _ =>
 some (.ret [((V.agg [(V.int .i64 (4 : Int)), (getD j 0 cellD).1, V.slice 3 76 []]), false)], a4)) pnK
noncomputable def slevel (call : CallF) (n a : Nat) (σ : Sto) : Option Res := slevelF call a σ
theorem slevel_eqF (call : CallF) (n a : Nat) (σ : Sto) : afun C slevelD call n [(V.ptr 40 a 0, false)] σ =
  slevelF call a σ := by kernel_rfl
theorem slevel_eq (call : CallF) (n a : Nat) (σ : Sto) : afun C slevelD call n [(V.ptr 40 a 0, false)] σ = slevel call n a σ := slevel_eqF call n a σ
theorem slevel_lim {n : Nat} {a : Nat} {b0 : Bool} {σ : Sto} {r : Res} (h : slevel (lim C) n a σ = some r) : lim C 33 [(V.ptr 40 a 0, b0)] σ = some r :=
 lim_of (d := slevelD) (by kernel_rfl) (by kernel_rfl) n (show afun C slevelD (lim C) n [(V.ptr 40 a 0, false)] σ = some r from (slevel_eq (lim C) n a σ).trans h)
noncomputable def twritek0 : List Nat := [0, 3, 33, 34, 35]
noncomputable def twritek1 : List Nat := [0, 46, 47, 48]
noncomputable def twrites1 (call : CallF) (rec1 : Nat → LL → Int → Int → RR) (c : Nat) (b : LL) (d a : Int) (σ : Sto) : Option Res :=
 bif (decide (a < d)) then
 (grd (decide (0 ≤ a) && decide (a < b.length))).bind fun _ =>
 callK call 47 [(V.ptr 53 c 0, false), ((V.int .u8 (32 : Int)), false)] σ 1 (fun h e =>
 callK call 37 [(V.ptr 53 c 0, false), (V.agg [(getD (getD b a.toNat []) 0 V.any), (getD (getD b a.toNat []) 1 V.any), (getD (getD b a.toNat []) 2 V.any), (getD (getD b a.toNat []) 3 V.any), (getD (getD b a.toNat []) 4 V.any)], false)] e 0 (fun i f =>
 rec1 c b d (wrap .i64 (a + (1 : Int))) f) pnK) pnK
 else
 callK call 47 [(V.ptr 53 c 0, false), ((V.int .u8 (41 : Int)), false)] σ 1 (fun j g =>
 some (.ret [], g)) pnK
noncomputable def twritel1 (call : CallF) (n : Nat) : Nat → Nat → LL → Int → Int → RR
 | 0 => fun _ _ _ _ _ => none
 | m + 1 => twrites1 call (twritel1 call n m)
noncomputable def twritet1 (a : Nat) (b : LL) (c d : Int) (σ : Sto) : St := ⟨[.val (V.ptr 53 a 0) false] ++ dd 45 ([.val (V.slice 5 45 b) false, .val (V.int .i64 c) false, .val (V.int .i64 d) false] ++ dd 11 []), nn 60 [], σ⟩
noncomputable def twrites0 (call : CallF) (L1 : Nat → LL → Int → Int → RR) (rec0 : Nat → LL → Int → Int → Int → Int → ByteArray → LL → LL → RR) (c : Nat) (b : LL) (e a f g : Int) (h : ByteArray) (i d : LL) (σ : Sto) : Option Res :=
 bif (decide (a < e)) then
 (grd (decide (0 ≤ a) && decide (a < b.length))).bind fun _ =>
 callK call 46 [(V.agg [(getD (getD b a.toNat []) 0 V.any), (getD (getD b a.toNat []) 1 V.any), (getD (getD b a.toNat []) 2 V.any)], false)] σ 1 (fun j k =>
 (V.asStr (getD j 0 cellD).1).bind fun s4 =>
 (grd (strRoom (ByteArray.mk #[32]) s4)).bind fun _ =>
 callK call 10 [(V.ptr 53 c 0, false), (V.str ((ByteArray.mk #[32]) ++ s4), false)] k 2 (fun p o =>
 rec0 c b e (wrap .i64 (a + (1 : Int))) f g h i d o) pnK) pnK
 else
 L1 c d (d.length : Int) (0 : Int) σ
noncomputable def twritel0 (call : CallF) (n : Nat) : Nat → Nat → LL → Int → Int → Int → Int → ByteArray → LL → LL → RR
 | 0 => fun _ _ _ _ _ _ _ _ _ _ => none
 | m + 1 => twrites0 call (twritel1 call n n) (twritel0 call n m)
noncomputable def twritet0 (a : Nat) (b : LL) (c d e f : Int) (g : ByteArray) (h i : LL) (σ : Sto) : St := ⟨[.val (V.ptr 53 a 0) false, .dead, .dead, .lptr 3 0] ++ dd 29 ([.val (V.slice 3 76 b) false, .val (V.int .i64 c) false, .val (V.int .i64 d) false] ++ dd 24 []), [[], [], [], [(V.int .i64 e, false), (V.int .i64 f, false), (V.str g, false), (V.slice 3 76 h, false), (V.slice 5 45 i, false)]] ++ nn 56 [], σ⟩
noncomputable def twriteF (call : CallF) (L0 : Nat → LL → Int → Int → Int → Int → ByteArray → LL → LL → RR) (c : Nat) (a e : Int) (d : ByteArray) (b f : LL) (σ : Sto) : Option Res :=
 bif (a == (0 : Int)) then
 callK call 22 [(V.int .i64 e, false)] σ 1 (fun h i =>
 (V.asStr (getD h 0 cellD).1).bind fun s4 =>
 (grd (strRoom (ByteArray.mk #[35]) s4)).bind fun _ =>
 callK call 10 [(V.ptr 53 c 0, false), (V.str ((ByteArray.mk #[35]) ++ s4), false)] i 2 (fun o j =>
 some (.ret [], j)) pnK) pnK
 else
 (grd (decide (0 ≤ a) && decide (a < 7))).bind fun _ =>
 (memGet [] (V.eptr 7 [V.str ⟨#[]⟩, V.str ⟨#[115, 111, 114, 116]⟩, V.str ⟨#[99, 111, 110, 115, 116]⟩, V.str ⟨#[97, 112, 112]⟩, V.str ⟨#[108, 97, 109]⟩, V.str ⟨#[112, 105]⟩, V.str ⟨#[108, 101, 116]⟩] (0 + Int.toNat a * 1)) false 1).bind fun m8 =>
 (V.asStr m8).bind fun s9 =>
 (grd (strRoom (ByteArray.mk #[40]) s9)).bind fun _ =>
 callK call 10 [(V.ptr 53 c 0, false), (V.str ((ByteArray.mk #[40]) ++ s9), false)] σ 2 (fun p g =>
 bif (a == (2 : Int)) then
 (grd (strRoom (ByteArray.mk #[32]) d)).bind fun _ =>
 callK call 10 [(V.ptr 53 c 0, false), (V.str ((ByteArray.mk #[32]) ++ d), false)] g 2 (fun q k =>
 L0 c b (b.length : Int) (0 : Int) a e d b f k) pnK
 else
 L0 c b (b.length : Int) (0 : Int) a e d b f g) pnK
noncomputable def twrite (call : CallF) (n a : Nat) (b c : Int) (d : ByteArray) (e f : LL) (σ : Sto) : Option Res := twriteF call (twritel0 call n n) a b c d e f σ
theorem twrites1_eq (call : CallF) (n : Nat) (F1 : St → Option Res) (a : Nat) (b : LL) (c d : Int) (σ : Sto) :
  aexec C twriteH call n (cp [0,0,1,0,1,1,1,1,1] twriteC) 0 (twritet1 a b c d σ) (kloop twritek1 F1 (kblk 2 (kseq (fun st' => aexec C twriteH call n (cp [1,1,1,1,1,1] twriteC) 0 st' (kfin C twriteD)) (kfin C twriteD)))) =
  twrites1 call (fun a b c d σ => F1 (twritet1 a b c d σ)) a b c d σ := by kernel_rfl
theorem twritel1_eq (call : CallF) (n : Nat) : ∀ (m a : Nat) (b : LL) (c d : Int) (σ : Sto),
  aloop (fun st K => aexec C twriteH call n (cp [0,0,1,0,1,1,1,1,1] twriteC) 0 st K) twritek1 m (twritet1 a b c d σ) (kblk 2 (kseq (fun st' => aexec C twriteH call n (cp [1,1,1,1,1,1] twriteC) 0 st' (kfin C twriteD)) (kfin C twriteD))) = twritel1 call n m a b c d σ
 | 0, a, b, c, d, σ => rfl
 | m + 1, a, b, c, d, σ => by
  rw [aloop, twrites1_eq]
  simp only [twritel1_eq call n m]
  rfl
theorem twrites0_eq (call : CallF) (n : Nat) (F0 : St → Option Res) (a : Nat) (b : LL) (c d e f : Int) (g : ByteArray) (h i : LL) (σ : Sto) :
  aexec C twriteH call n (cp [0,0,1,0,1,1,1,1] twriteC) 0 (twritet0 a b c d e f g h i σ) (kloop twritek0 F0 (kblk 0 (kseq (fun st' => aexec C twriteH call n (cp [1,1,1,1,1] twriteC) 0 st' (kfin C twriteD)) (kfin C twriteD)))) =
  twrites0 call (fun a j k o σ => aloop (fun st K => aexec C twriteH call n (cp [0,0,1,0,1,1,1,1,1] twriteC) 0 st K) twritek1 n (twritet1 a j k o σ) (kblk 2 (kseq (fun st' => aexec C twriteH call n (cp [1,1,1,1,1,1] twriteC) 0 st' (kfin C twriteD)) (kfin C twriteD)))) (fun a b c d e f g h i σ => F0 (twritet0 a b c d e f g h i σ)) a b c d e f g h i σ := by kernel_rfl
theorem twritel0_eq (call : CallF) (n : Nat) : ∀ (m a : Nat) (b : LL) (c d e f : Int) (g : ByteArray) (h i : LL) (σ : Sto),
  aloop (fun st K => aexec C twriteH call n (cp [0,0,1,0,1,1,1,1] twriteC) 0 st K) twritek0 m (twritet0 a b c d e f g h i σ) (kblk 0 (kseq (fun st' => aexec C twriteH call n (cp [1,1,1,1,1] twriteC) 0 st' (kfin C twriteD)) (kfin C twriteD))) = twritel0 call n m a b c d e f g h i σ
 | 0, a, b, c, d, e, f, g, h, i, σ => rfl
 | m + 1, a, b, c, d, e, f, g, h, i, σ => by
  rw [aloop, twrites0_eq]
  simp only [twritel0_eq call n m, twritel1_eq]
  rfl
theorem twrite_eqF (call : CallF) (n a : Nat) (b c : Int) (d : ByteArray) (e f : LL) (σ : Sto) : afun C twriteD call n [(V.ptr 53 a 0, false), (V.agg [V.int .i64 b, V.int .i64 c, V.str d, V.slice 3 76 e, V.slice 5 45 f], false)] σ =
  twriteF call (fun a g h i j k o p q σ => aloop (fun st K => aexec C twriteH call n (cp [0,0,1,0,1,1,1,1] twriteC) 0 st K) twritek0 n (twritet0 a g h i j k o p q σ) (kblk 0 (kseq (fun st' => aexec C twriteH call n (cp [1,1,1,1,1] twriteC) 0 st' (kfin C twriteD)) (kfin C twriteD)))) a b c d e f σ := by kernel_rfl
theorem twrite_eq (call : CallF) (n a : Nat) (b c : Int) (d : ByteArray) (e f : LL) (σ : Sto) : afun C twriteD call n [(V.ptr 53 a 0, false), (V.agg [V.int .i64 b, V.int .i64 c, V.str d, V.slice 3 76 e, V.slice 5 45 f], false)] σ = twrite call n a b c d e f σ := by
 rw [twrite_eqF]
 simp only [twritel0_eq]
 rfl
theorem twrite_lim {n : Nat} {a : Nat} {b : Int} {c : Int} {e : ByteArray} {f : LL} {g : LL} {b0 b1 : Bool} {σ : Sto} {r : Res} (h : twrite (lim C) n a b c e f g σ = some r) : lim C 37 [(V.ptr 53 a 0, b0), (V.agg [V.int .i64 b, V.int .i64 c, V.str e, V.slice 3 76 f, V.slice 5 45 g], b1)] σ = some r :=
 lim_of (d := twriteD) (by kernel_rfl) (by kernel_rfl) n (show afun C twriteD (lim C) n [(V.ptr 53 a 0, false), (V.agg [V.int .i64 b, V.int .i64 c, V.str e, V.slice 3 76 f, V.slice 5 45 g], false)] σ = some r from (twrite_eq (lim C) n a b c e f g σ).trans h)
noncomputable def cutPrefix1F (call : CallF) (a b : ByteArray) (σ : Sto) : Option Res :=
 callK call 51 [(V.str a, false), (V.str b, false)] σ 1 (fun d c =>
 (V.asBool (getD d 0 cellD).1).bind fun b4 =>
 bif (!b4) then
 some (.ret [(V.str a, false), (V.bool false, false)], c)
 else
 (grd (decide (0 ≤ (b.size : Int)) && decide ((b.size : Int) ≤ (a.size : Int)) && decide ((a.size : Int) ≤ a.size))).bind fun _ =>
 some (.ret [((V.str (a.extract (Int.toNat (b.size : Int)) (Int.toNat (a.size : Int)))), false), (V.bool true, false)], c)) pnK
noncomputable def cutPrefix1 (call : CallF) (n : Nat) (a b : ByteArray) (σ : Sto) : Option Res := cutPrefix1F call a b σ
theorem cutPrefix1_eqF (call : CallF) (n : Nat) (a b : ByteArray) (σ : Sto) : afun C cutPrefix1D call n [(V.str a, false), (V.str b, false)] σ =
  cutPrefix1F call a b σ := by kernel_rfl
theorem cutPrefix1_eq (call : CallF) (n : Nat) (a b : ByteArray) (σ : Sto) : afun C cutPrefix1D call n [(V.str a, false), (V.str b, false)] σ = cutPrefix1 call n a b σ := cutPrefix1_eqF call n a b σ
theorem cutPrefix1_lim {n : Nat} {a : ByteArray} {b : ByteArray} {b0 b1 : Bool} {σ : Sto} {r : Res} (h : cutPrefix1 (lim C) n a b σ = some r) : lim C 43 [(V.str a, b0), (V.str b, b1)] σ = some r :=
 lim_of (d := cutPrefix1D) (by kernel_rfl) (by kernel_rfl) n (show afun C cutPrefix1D (lim C) n [(V.str a, false), (V.str b, false)] σ = some r from (cutPrefix1_eq (lim C) n a b σ).trans h)
noncomputable def printF (call : CallF) (a : Int) (b : ByteArray) (c : LL) (σ : Sto) : Option Res :=
 callK call 57 [(V.ptr 53 (List.length σ) 0, false), (V.agg [V.int .i64 a, V.str b, V.slice 3 76 c], false)] (σ ++ [[(V.nilp, false), (V.slice 1 5 [], true)]]) 0 (fun g d =>
 callK call 12 [(V.ptr 53 (List.length σ) 0, false)] d 1 (fun e f =>
 some (.ret [((getD e 0 cellD).1, false)], f)) pnK) pnK
noncomputable def print (call : CallF) (n : Nat) (a : Int) (b : ByteArray) (c : LL) (σ : Sto) : Option Res := printF call a b c σ
theorem print_eqF (call : CallF) (n : Nat) (a : Int) (b : ByteArray) (c : LL) (σ : Sto) : afun C printD call n [(V.agg [V.int .i64 a, V.str b, V.slice 3 76 c], false)] σ =
  printF call a b c σ := by kernel_rfl
theorem print_eq (call : CallF) (n : Nat) (a : Int) (b : ByteArray) (c : LL) (σ : Sto) : afun C printD call n [(V.agg [V.int .i64 a, V.str b, V.slice 3 76 c], false)] σ = print call n a b c σ := print_eqF call n a b c σ
theorem print_lim {n : Nat} {a : Int} {b : ByteArray} {c : LL} {b0 : Bool} {σ : Sto} {r : Res} (h : print (lim C) n a b c σ = some r) : lim C 46 [(V.agg [V.int .i64 a, V.str b, V.slice 3 76 c], b0)] σ = some r :=
 lim_of (d := printD) (by kernel_rfl) (by kernel_rfl) n (show afun C printD (lim C) n [(V.agg [V.int .i64 a, V.str b, V.slice 3 76 c], false)] σ = some r from (print_eq (lim C) n a b c σ).trans h)
noncomputable def wbyteF (call : CallF) (a : Nat) (b : Int) (σ : Sto) : Option Res :=
 callK call 20 [(V.ptr 53 a 0, false)] σ 0 (fun d c =>
 (memTake c (V.ptr 53 a 1)).bind fun m4 =>
 (V.asRow m4.1 1 5).bind fun l5 =>
 (grd ((!V.isFull m4.1 || decide (0 < 1)) && room (List.length l5 + 1))).bind fun _ =>
 (memSet m4.2 (V.ptr 53 a 1) [(V.slice 1 5 (l5 ++ [[V.int .u8 b]]), true)]).bind fun m6 =>
 some (.ret [(V.nilIface, false)], m6)) pnK
noncomputable def wbyte (call : CallF) (n a : Nat) (b : Int) (σ : Sto) : Option Res := wbyteF call a b σ
theorem wbyte_eqF (call : CallF) (n a : Nat) (b : Int) (σ : Sto) : afun C wbyteD call n [(V.ptr 53 a 0, false), (V.int .u8 b, false)] σ =
  wbyteF call a b σ := by kernel_rfl
theorem wbyte_eq (call : CallF) (n a : Nat) (b : Int) (σ : Sto) : afun C wbyteD call n [(V.ptr 53 a 0, false), (V.int .u8 b, false)] σ = wbyte call n a b σ := wbyte_eqF call n a b σ
theorem wbyte_lim {n : Nat} {a : Nat} {b : Int} {b0 b1 : Bool} {σ : Sto} {r : Res} (h : wbyte (lim C) n a b σ = some r) : lim C 47 [(V.ptr 53 a 0, b0), (V.int .u8 b, b1)] σ = some r :=
 lim_of (d := wbyteD) (by kernel_rfl) (by kernel_rfl) n (show afun C wbyteD (lim C) n [(V.ptr 53 a 0, false), (V.int .u8 b, false)] σ = some r from (wbyte_eq (lim C) n a b σ).trans h)
noncomputable def hasPrefixF (call : CallF) (b a : ByteArray) (σ : Sto) : Option Res :=
 bif (decide ((b.size : Int) ≥ (a.size : Int))) then
 (grd (decide (0 ≤ (0 : Int)) && decide ((0 : Int) ≤ (a.size : Int)) && decide ((a.size : Int) ≤ b.size))).bind fun _ =>
 some (.ret [((V.bool ((b.extract (Int.toNat (0 : Int)) (Int.toNat (a.size : Int))).toList == a.toList)), false)], σ)
 else
 some (.ret [(V.bool false, false)], σ)
noncomputable def hasPrefix (call : CallF) (n : Nat) (a b : ByteArray) (σ : Sto) : Option Res := hasPrefixF call a b σ
theorem hasPrefix_eqF (call : CallF) (n : Nat) (a b : ByteArray) (σ : Sto) : afun C hasPrefixD call n [(V.str a, false), (V.str b, false)] σ =
  hasPrefixF call a b σ := by kernel_rfl
theorem hasPrefix_eq (call : CallF) (n : Nat) (a b : ByteArray) (σ : Sto) : afun C hasPrefixD call n [(V.str a, false), (V.str b, false)] σ = hasPrefix call n a b σ := hasPrefix_eqF call n a b σ
theorem hasPrefix_lim {n : Nat} {a : ByteArray} {b : ByteArray} {b0 b1 : Bool} {σ : Sto} {r : Res} (h : hasPrefix (lim C) n a b σ = some r) : lim C 51 [(V.str a, b0), (V.str b, b1)] σ = some r :=
 lim_of (d := hasPrefixD) (by kernel_rfl) (by kernel_rfl) n (show afun C hasPrefixD (lim C) n [(V.str a, false), (V.str b, false)] σ = some r from (hasPrefix_eq (lim C) n a b σ).trans h)
noncomputable def writek0 : List Nat := [0, 16, 17, 18]
noncomputable def writes0 (call : CallF) (rec0 : Nat → LL → Int → Int → RR) (c : Nat) (b : LL) (d a : Int) (σ : Sto) : Option Res :=
 bif (decide (a < d)) then
 (grd (decide (0 ≤ a) && decide (a < b.length))).bind fun _ =>
 callK call 47 [(V.ptr 53 c 0, false), ((V.int .u8 (32 : Int)), false)] σ 1 (fun h e =>
 callK call 57 [(V.ptr 53 c 0, false), (V.agg [(getD (getD b a.toNat []) 0 V.any), (getD (getD b a.toNat []) 1 V.any), (getD (getD b a.toNat []) 2 V.any)], false)] e 0 (fun i f =>
 rec0 c b d (wrap .i64 (a + (1 : Int))) f) pnK) pnK
 else
 callK call 47 [(V.ptr 53 c 0, false), ((V.int .u8 (41 : Int)), false)] σ 1 (fun j g =>
 some (.ret [], g)) pnK
noncomputable def writel0 (call : CallF) (n : Nat) : Nat → Nat → LL → Int → Int → RR
 | 0 => fun _ _ _ _ _ => none
 | m + 1 => writes0 call (writel0 call n m)
noncomputable def writet0 (a : Nat) (b : LL) (c d : Int) (σ : Sto) : St := ⟨[.val (V.ptr 53 a 0) false] ++ dd 15 ([.val (V.slice 3 76 b) false, .val (V.int .i64 c) false, .val (V.int .i64 d) false] ++ dd 21 []), nn 40 [], σ⟩
noncomputable def writeF (call : CallF) (L0 : Nat → LL → Int → Int → RR) (b : Nat) (a : Int) (d : ByteArray) (c : LL) (σ : Sto) : Option Res :=
 bif (a == (0 : Int)) then
 callK call 10 [(V.ptr 53 b 0, false), (V.str ⟨#[48]⟩, false)] σ 2 (fun h e =>
 some (.ret [], e)) pnK
 else
 bif (a == (4 : Int)) then
 callK call 10 [(V.ptr 53 b 0, false), (V.str d, false)] σ 2 (fun i f =>
 some (.ret [], f)) pnK
 else
 (grd (decide (0 ≤ a) && decide (a < 4))).bind fun _ =>
 (memGet [] (V.eptr 4 [V.str ⟨#[]⟩, V.str ⟨#[115]⟩, V.str ⟨#[109, 97, 120]⟩, V.str ⟨#[105, 109, 97, 120]⟩] (0 + Int.toNat a * 1)) false 1).bind fun m7 =>
 (V.asStr m7).bind fun s8 =>
 (grd (strRoom (ByteArray.mk #[40]) s8)).bind fun _ =>
 callK call 10 [(V.ptr 53 b 0, false), (V.str ((ByteArray.mk #[40]) ++ s8), false)] σ 2 (fun j g =>
 L0 b c (c.length : Int) (0 : Int) g) pnK
noncomputable def write (call : CallF) (n a : Nat) (b : Int) (c : ByteArray) (d : LL) (σ : Sto) : Option Res := writeF call (writel0 call n n) a b c d σ
theorem writes0_eq (call : CallF) (n : Nat) (F0 : St → Option Res) (a : Nat) (b : LL) (c d : Int) (σ : Sto) :
  aexec C writeH call n (cp [0,0,1,0,1,1,1,1,1,0,1,1] writeC) 0 (writet0 a b c d σ) (kloop writek0 F0 (kblk 1 (kseq (fun st' => aexec C writeH call n (cp [1,1,1,1,1,1,0,1,1] writeC) 0 st' (kblk 0 (kfin C writeD))) (kblk 0 (kfin C writeD))))) =
  writes0 call (fun a b c d σ => F0 (writet0 a b c d σ)) a b c d σ := by kernel_rfl
theorem writel0_eq (call : CallF) (n : Nat) : ∀ (m a : Nat) (b : LL) (c d : Int) (σ : Sto),
  aloop (fun st K => aexec C writeH call n (cp [0,0,1,0,1,1,1,1,1,0,1,1] writeC) 0 st K) writek0 m (writet0 a b c d σ) (kblk 1 (kseq (fun st' => aexec C writeH call n (cp [1,1,1,1,1,1,0,1,1] writeC) 0 st' (kblk 0 (kfin C writeD))) (kblk 0 (kfin C writeD)))) = writel0 call n m a b c d σ
 | 0, a, b, c, d, σ => rfl
 | m + 1, a, b, c, d, σ => by
  rw [aloop, writes0_eq]
  simp only [writel0_eq call n m]
  rfl
theorem write_eqF (call : CallF) (n a : Nat) (b : Int) (c : ByteArray) (d : LL) (σ : Sto) : afun C writeD call n [(V.ptr 53 a 0, false), (V.agg [V.int .i64 b, V.str c, V.slice 3 76 d], false)] σ =
  writeF call (fun a e f g σ => aloop (fun st K => aexec C writeH call n (cp [0,0,1,0,1,1,1,1,1,0,1,1] writeC) 0 st K) writek0 n (writet0 a e f g σ) (kblk 1 (kseq (fun st' => aexec C writeH call n (cp [1,1,1,1,1,1,0,1,1] writeC) 0 st' (kblk 0 (kfin C writeD))) (kblk 0 (kfin C writeD))))) a b c d σ := by kernel_rfl
theorem write_eq (call : CallF) (n a : Nat) (b : Int) (c : ByteArray) (d : LL) (σ : Sto) : afun C writeD call n [(V.ptr 53 a 0, false), (V.agg [V.int .i64 b, V.str c, V.slice 3 76 d], false)] σ = write call n a b c d σ := by
 rw [write_eqF]
 simp only [writel0_eq]
 rfl
theorem write_lim {n : Nat} {a : Nat} {b : Int} {c : ByteArray} {e : LL} {b0 b1 : Bool} {σ : Sto} {r : Res} (h : write (lim C) n a b c e σ = some r) : lim C 57 [(V.ptr 53 a 0, b0), (V.agg [V.int .i64 b, V.str c, V.slice 3 76 e], b1)] σ = some r :=
 lim_of (d := writeD) (by kernel_rfl) (by kernel_rfl) n (show afun C writeD (lim C) n [(V.ptr 53 a 0, false), (V.agg [V.int .i64 b, V.str c, V.slice 3 76 e], false)] σ = some r from (write_eq (lim C) n a b c e σ).trans h)
end Go.Ab.Mk
end
section

end
section
namespace Go.Ab.Mk
open Go.Proofs Go.Ab
def idx (v : ByteArray) : List ByteArray → Nat → Int
 | [], _ => -1
 | p :: ps, i => if v.toList == p.toList then i else idx v ps (i + 1)
theorem index_loop (call : CallF) (n : Nat) {ps : List ByteArray} (hb : ps.length < 2 ^ 61) (v : ByteArray) (σ : Sto) :
  ∀ (m i : Nat), i ≤ ps.length → ps.length - i < m → indexl0 call n m (strs ps) v ps.length i σ = some (.ret [(.int .i64 (idx v (ps.drop i) i), false)], σ)
 | 0, i, _, hm => by omega
 | m + 1, i, hi, hm => by
  show indexs0 call (indexl0 call n m) (strs ps) v ps.length i σ = _
  unfold indexs0
  rw [strs_length]
  by_cases hlt : i < ps.length
  ·rw [d0, dlt hlt, Int.toNat_natCast, strs_get hlt, List.drop_eq_getElem_cons hlt]
   simp only [cond_true, Bool.and_self, grd, Option.bind_some, List.getD_cons_zero, V.asStr, idx]
   cases hc : v.toList == ps[i].toList with
   | true => simp
   | false =>
    simp only [cond_false, wrap_succ (show i < 2 ^ 61 by omega), Bool.false_eq_true, if_false]
    exact index_loop call n hb v σ m (i + 1) (by omega) (by omega)
  ·rw [dnlt hlt, List.drop_eq_nil_of_le (by omega)]
   simp [idx]
theorem index_law {ps : List ByteArray} (hb : ps.length < 2 ^ 61) (v : ByteArray) (σ : Sto) :
  lim C 32 [(.slice 1 9 (strs ps), false), (.str v, false)] σ = some (.ret [(.int .i64 (idx v ps 0), false)], σ) :=
 index_lim (n := ps.length + 1) <| by
  have := index_loop (lim C) (ps.length + 1) hb v σ (ps.length + 1) 0 (by omega) (by omega)
  simpa [index, indexF, strs_length] using this
def has (v : ByteArray) (ps : List ByteArray) : Bool := ps.any fun p => p.toList == v.toList
theorem kids_few (l : Lv) : l.kids.length ≤ 2 := by cases l <;> simp [Lv.kids]
end Go.Ab.Mk
end
section
namespace Go.Ab.Mk
open Go.Proofs Go.Ab
def sizes : List Lv → Nat
 | [] => 0
 | c :: L => c.size + sizes L
end Go.Ab.Mk
end
section
namespace Go.Ab.Mk
open Go.Proofs Go.Ab
def ba (l : List UInt8) : ByteArray := ⟨l.toArray⟩
theorem ba_append (a b : List UInt8) : ba a ++ ba b = ba (a ++ b) := by
 apply ByteArray.ext
 simp [ba]
theorem ba_of (s : ByteArray) : ba s.data.toList = s := by
 apply ByteArray.ext
 simp [ba]
theorem ba_size (l : List UInt8) : (ba l).size = l.length := by simp [ba, ByteArray.size]
theorem bytesV_ba (l : List UInt8) : bytesV (ba l) = bytesL l := by simp [bytesV, ba, bytesL]
theorem strRoom_ok {x y : ByteArray} (h : x.size + y.size < 2 ^ 61) : strRoom x y = true := by
 unfold strRoom
 refine decide_eq_true ?_
 by_cases h0 : x.size + y.size = 0
 ·rw [h0]; simp
 ·have := (Nat.log2_lt (k := 61) h0).2 h
  omega
def printL : Lv → List UInt8
 | .zero => [48]
 | .succ l => [40, 115, 32] ++ printL l ++ [41]
 | .max a b => [40, 109, 97, 120, 32] ++ printL a ++ [32] ++ printL b ++ [41]
 | .imax a b => [40, 105, 109, 97, 120, 32] ++ printL a ++ [32] ++ printL b ++ [41]
 | .param s => s.data.toList
def bcell (b : Nat) (u : Bool) (L : List UInt8) : List Cell := [(bif u then .ptr 53 b 0 else .nilp, false), (.slice 1 5 (bytesL L), true)]
theorem copyCheck_law {σ : Sto} {b : Nat} {u : Bool} {L : List UInt8} (h : σ[b]? = some (bcell b u L)) : lim C 20 [(.ptr 53 b 0, false)] σ = some (.ret [], σ.set b (bcell b true L)) := by
 refine lim_ext (s := copyCheckS 53) (by kernel_rfl) ?_
 obtain ⟨hlt, hget⟩ := List.getElem?_eq_some_iff.1 h
 cases u with
 | false =>
  simp only [copyCheckS, if_true]
  rw [h]
  rfl
 | true =>
  simp only [copyCheckS, if_true]
  rw [h]
  have : σ.set b (bcell b true L) = σ := by rw [← hget]; simp
  simp only [bcell, cond_true, and_self, if_true]
  exact congrArg (fun x => some (End.ret [], x)) this.symm
theorem memTakeB {σ : Sto} {t : TypeId} {b : Nat} {c : Cell} {v : V} (h : σ[b]? = some [c, (v, true)]) : memTake σ (.ptr t b 1) = some (v, σ.set b [c, (v, false)]) := by
 simp only [memTake, h, Option.bind_some]; rfl
theorem memSetB {σ : Sto} {t : TypeId} {b : Nat} {c c' d : Cell} (h : σ[b]? = some [c, c']) : memSet σ (.ptr t b 1) [d] = some (σ.set b [c, d]) := by
 simp only [memSet, h, Option.bind_some]; rfl
theorem wstring_law {σ : Sto} {b : Nat} {u : Bool} {L : List UInt8} (h : σ[b]? = some (bcell b u L)) (s : List UInt8) (hr : L.length + s.length < 2 ^ 34) :
  lim C 10 [(.ptr 53 b 0, false), (.str (ba s), false)] σ = some (.ret [(.int .i64 s.length, false), (.nilIface, false)], σ.set b (bcell b true (L ++ s))) :=
 wstring_lim (n := 0) <| by
  obtain ⟨hlt, hget⟩ := List.getElem?_eq_some_iff.1 h
  simp only [wstring, wstringF, callK_ret0 (copyCheck_law h)]
  rw [memTakeB (c := (.ptr 53 b 0, false)) (v := .slice 1 5 (bytesL L)) (by simp [hlt, bcell])]
  simp only [Option.bind_some, V.asSlice, and_self, if_true]
  rw [bytesL_length, ba_size, room_ok hr]
  rw [memSetB (c := (.ptr 53 b 0, false)) (c' := (.slice 1 5 (bytesL L), false)) (by simp [hlt])]
  simp only [grd, cond_true, Option.bind_some, List.set_set, bytesV_ba, ← bytesL_append]
  rfl
theorem wbyte_law {σ : Sto} {b : Nat} {u : Bool} {L : List UInt8} (h : σ[b]? = some (bcell b u L)) (c : UInt8) (hr : L.length + 1 < 2 ^ 34) :
  lim C 47 [(.ptr 53 b 0, false), (.int .u8 (c.toNat : Int), false)] σ = some (.ret [(.nilIface, false)], σ.set b (bcell b true (L ++ [c]))) :=
 wbyte_lim (n := 0) <| by
  obtain ⟨hlt, hget⟩ := List.getElem?_eq_some_iff.1 h
  simp only [wbyte, wbyteF, callK_ret0 (copyCheck_law h)]
  rw [memTakeB (c := (.ptr 53 b 0, false)) (v := .slice 1 5 (bytesL L)) (by simp [hlt, bcell])]
  simp only [Option.bind_some, V.asRow, V.isFull, Bool.not_false, Bool.true_or, Bool.true_and, and_self, if_true]
  rw [bytesL_length, room_ok hr]
  rw [memSetB (c := (.ptr 53 b 0, false)) (c' := (.slice 1 5 (bytesL L), false)) (by simp [hlt])]
  simp only [grd, cond_true, Option.bind_some, List.set_set, bcell, bytesL_append]
  rfl
theorem callK_ret2 {call : CallF} {f : FuncId} {args : List Cell} {σ σ' : Sto} {K : List Cell → Sto → Option Res} {KP : V → Sto → Option Res} {c d : Cell} (h : call f args σ = some (.ret [c, d], σ')) :
  callK call f args σ 2 K KP = K [c, d] σ' := callK_ret h rfl
end Go.Ab.Mk
end
section
namespace Go.Ab.Mk
open Go.Proofs Go.Ab
theorem fits_lv (l : Lv) : V.fits (.agg [.int .i64 l.kind, .str l.name, .slice 3 76 l.args]) true 3 = true := rfl
theorem cell_lv (l : Lv) : [V.cell (.agg [.int .i64 l.kind, .str l.name, .slice 3 76 l.args]) 0, V.cell (.agg [.int .i64 l.kind, .str l.name, .slice 3 76 l.args]) 1, V.cell (.agg [.int .i64 l.kind, .str l.name, .slice 3 76 l.args]) 2] = l.enc := by rw [l.enc_eq]; rfl
end Go.Ab.Mk
end
section
namespace Go.Ab.Mk
open Go.Proofs Go.Ab
def isDigit (c : Int) : Bool := decide (48 ≤ c) && decide (c ≤ 57)
def isLetter (c : Int) : Bool := (decide (97 ≤ c) && decide (c ≤ 122)) || (decide (65 ≤ c) && decide (c ≤ 90)) || c == 95
def nmByte (c : Int) (first : Bool) : Bool := isLetter c || (!first && (isDigit c || c == 46 || c == 39))
def isBlank (c : Int) : Bool := c == 32 || c == 9 || c == 10
def scan (f : Int → Bool) (s : ByteArray) (i : Nat) : Nat :=
 if h : i < s.size then (bif f (byteAt s i) then scan f s (i + 1) else i) else i
termination_by s.size - i
theorem scan_go {f : Int → Bool} {s : ByteArray} {i : Nat} (h : i < s.size) (hf : f (byteAt s i) = true) : scan f s i = scan f s (i + 1) := by
 rw [scan, dif_pos h, hf]; rfl
theorem scan_stop {f : Int → Bool} {s : ByteArray} {i : Nat} (h : ¬ (i < s.size ∧ f (byteAt s i) = true)) : scan f s i = i := by
 rw [scan]
 split
 ·rename_i hi
  cases hf : f (byteAt s i) with
  | true => exact absurd ⟨hi, hf⟩ h
  | false => rfl
 ·rfl
theorem scan_ge (f : Int → Bool) (s : ByteArray) : ∀ (k i : Nat), s.size - i = k → i ≤ scan f s i ∧ (i ≤ s.size → scan f s i ≤ s.size)
 | k, i, hk => by
  by_cases h : i < s.size ∧ f (byteAt s i) = true
  ·rw [scan_go h.1 h.2]
   have := scan_ge f s (k - 1) (i + 1) (by omega)
   omega
  ·rw [scan_stop h]; omega
theorem le_scan (f : Int → Bool) (s : ByteArray) (i : Nat) : i ≤ scan f s i := (scan_ge f s _ i rfl).1
theorem scan_le {f : Int → Bool} {s : ByteArray} {i : Nat} (h : i ≤ s.size) : scan f s i ≤ s.size := (scan_ge f s _ i rfl).2 h
structure Tok where
 t : ByteArray
 at_ : Nat
 ok : Bool
def Tok.no (i : Nat) : Tok := ⟨ByteArray.mk #[], i, false⟩
def Tok.cells (k : Tok) : List Cell := [(.str k.t, false), (.int .i64 k.at_, false), (.bool k.ok, false)]
def numTok (s : ByteArray) (i q : Nat) (c : Int) : Tok :=
 let d := bif c == 35 then i + 1 else i
 bif q == d then .no i else bif decide (q - d > 5) then .no i else bif (decide (q - d > 1) && byteAt s d == 48) then .no i else ⟨s.extract i q, i, true⟩
def nmTok (s : ByteArray) (i q : Nat) : Tok := bif decide (q - i > 40) then .no i else ⟨s.extract i q, i, true⟩
def tokAt (s : ByteArray) (i : Nat) : Tok :=
  bif i == s.size then ⟨ByteArray.mk #[], i, true⟩ else
  bif byteAt s i == 40 then ⟨s.extract i (i + 1), i, true⟩ else bif byteAt s i == 41 then ⟨s.extract i (i + 1), i, true⟩ else
  bif nmByte (byteAt s i) true then nmTok s i (scan (nmByte · false) s (i + 1)) else
  bif byteAt s i == 35 || isDigit (byteAt s i) then numTok s i (scan isDigit s (i + 1)) (byteAt s i) else .no i
def tokV (s : ByteArray) (p : Nat) : Tok := tokAt s (scan isBlank s p)
def rst (s : ByteArray) (p : Nat) (c a : Int) : List Cell := [(.str s, false), (.int .i64 p, false), (.int .i64 c, false), (.int .i64 a, false)]
theorem wrap_sub {q i : Nat} (h : i ≤ q) (hq : q < 2 ^ 61) : IntKind.wrap .i64 ((q : Int) - (i : Int)) = ((q - i : Nat) : Int) := by
 rw [← wrap_nat (n := q - i) (by omega)]
 congr 1
 omega
theorem dgt (a b : Nat) : decide ((a : Int) > (b : Int)) = decide (a > b) := by simp
theorem beqN (a b : Nat) : ((a : Int) == (b : Int)) = (a == b) := by
 rw [Bool.eq_iff_iff, beq_iff_eq, beq_iff_eq]; omega
theorem bnd2 {i q n : Nat} (h1 : i ≤ q) (h2 : q ≤ n) : (decide ((i : Int) ≤ (q : Int)) && decide ((q : Int) ≤ (n : Int))) = true := by simp; omega
end Go.Ab.Mk
end
section
namespace Go.Ab.Mk
open Go.Proofs Go.Ab
structure RS where
 p : Nat
 c : Int
 a : Int
def RS.cells (s : ByteArray) (st : RS) : List Cell := rst s st.p st.c st.a
def isNo (t : ByteArray) : Bool := t.toList == (ByteArray.mk #[]).toList
def rfailV (st : RS) (i : Nat) : RS := bif st.c == 0 then ⟨st.p, 1, i⟩ else st
def rnextV (s : ByteArray) (st : RS) : ByteArray × RS :=
 let k := tokV s st.p
 let st1 := bif !k.ok || isNo k.t then rfailV st k.at_ else st
 bif st1.c != 0 then (ByteArray.mk #[], st1) else (k.t, ⟨k.at_ + k.t.size, st1.c, st1.a⟩)
def rtakeV (s : ByteArray) (st : RS) (w : ByteArray) : RS :=
 let k := tokV s st.p
 let st1 := bif !k.ok || !(k.t.toList == w.toList) then rfailV st k.at_ else st
 bif st1.c == 0 then ⟨k.at_ + k.t.size, st1.c, st1.a⟩ else st1
def isNameV (t : ByteArray) : Bool := !isNo t && nmByte (byteAt t 0) true
theorem isNo_size {t : ByteArray} (h : isNo t = false) : 0 < t.size := by
 rcases Nat.eq_zero_or_pos t.size with h0 | h0
 ·have : t = ByteArray.mk #[] := by
   apply ByteArray.ext
   exact Array.eq_empty_of_size_eq_zero h0
  subst this
  simp [isNo] at h
 ·exact h0
structure TokOk (s : ByteArray) (p : Nat) (k : Tok) : Prop where
 ge : p ≤ k.at_
 le : k.at_ + k.t.size ≤ s.size
 no : k.ok = false → isNo k.t = true
theorem ext_size (s : ByteArray) {i q : Nat} (h1 : i ≤ q) (h2 : q ≤ s.size) : i + (s.extract i q).size = q := by
 rw [ByteArray.size_extract]; omega
theorem tokV_ok (s : ByteArray) {p : Nat} (hp : p ≤ s.size) : TokOk s p (tokV s p) := by
  have h1 := le_scan isBlank s p
  have h2 := scan_le (f := isBlank) hp
  unfold tokV
  generalize scan isBlank s p = i at h1 h2
  unfold tokAt
  have e0 : isNo (ByteArray.mk #[]) = true := by simp [isNo]
  have s0 : (ByteArray.mk #[]).size = 0 := rfl
  have no : TokOk s p (Tok.no i) := ⟨h1, by simp [Tok.no]; omega, fun _ => e0⟩
  by_cases hi : i = s.size
  · subst hi
    simp only [beq_self_eq_true, cond_true]
    exact ⟨h1, by simp [s0], fun _ => e0⟩
  · have hib : (i == s.size) = false := by simpa using hi
    simp only [hib, cond_false]
    have one : TokOk s p ⟨s.extract i (i + 1), i, true⟩ := ⟨h1, by simp only; rw [ext_size s (by omega) (by omega)]; omega, by simp⟩
    have nm : ∀ q, i + 1 ≤ q → q ≤ s.size → TokOk s p (nmTok s i q) := by
      intro q hq1 hq2
      unfold nmTok
      cases decide (q - i > 40)
      · exact ⟨h1, by simp only [cond_false]; rw [ext_size s (by omega) hq2]; exact hq2, by simp⟩
      · exact no
    have num : ∀ q x, i + 1 ≤ q → q ≤ s.size → TokOk s p (numTok s i q x) := by
      intro q x hq1 hq2
      simp only [numTok]
      generalize (bif x == 35 then i + 1 else i) = d
      cases q == d
      · cases decide (q - d > 5)
        · cases (decide (q - d > 1) && byteAt s d == 48)
          · exact ⟨h1, by simp only [cond_false]; rw [ext_size s (by omega) hq2]; exact hq2, by simp⟩
          · exact no
        · exact no
      · exact no
    have g1 := le_scan (nmByte · false) s (i + 1)
    have g2 := scan_le (f := (nmByte · false)) (s := s) (i := i + 1) (by omega)
    have g3 := le_scan isDigit s (i + 1)
    have g4 := scan_le (f := isDigit) (s := s) (i := i + 1) (by omega)
    cases byteAt s i == 40
    · cases byteAt s i == 41
      · cases nmByte (byteAt s i) true
        · cases (byteAt s i == 35 || isDigit (byteAt s i))
          · exact no
          · exact num _ _ g3 g4
        · exact nm _ g1 g2
      · exact one
    · exact one
end Go.Ab.Mk
end
section
namespace Go.Ab.Mk
open Go.Proofs Go.Ab
def strIs (t : ByteArray) (l : List UInt8) : Bool := t.toList == (ba l).toList
def lv1 (rec : RS → Lv × RS) (s : ByteArray) (f : Lv → Lv) (st : RS) : Lv × RS := (f (rec st).1, rtakeV s (rec st).2 (ba [41]))
def lv2 (rec : RS → Lv × RS) (s : ByteArray) (f : Lv → Lv → Lv) (st : RS) : Lv × RS := (f (rec st).1 (rec (rec st).2).1, rtakeV s (rec (rec st).2).2 (ba [41]))
def lvP (rec : RS → Lv × RS) (s : ByteArray) (st : RS) : Lv × RS :=
 bif strIs (tokV s st.p).t [115] then lv1 rec s .succ (rnextV s st).2 else
 bif strIs (tokV s st.p).t [109, 97, 120] then lv2 rec s .max (rnextV s st).2 else
 bif strIs (tokV s st.p).t [105, 109, 97, 120] then lv2 rec s .imax (rnextV s st).2 else (.zero, rfailV st (tokV s st.p).at_)
def rlevelV : Nat → ByteArray → RS → Lv × RS
 | 0, _, st => (.zero, st)
 | n + 1, s, st =>
  bif st.c != 0 then (.zero, st) else
  bif strIs (tokV s st.p).t [48] then (.zero, (rnextV s st).2) else
  bif isNameV (tokV s st.p).t then (.param (tokV s st.p).t, (rnextV s st).2) else
  bif strIs (tokV s st.p).t [40] then lvP (rlevelV n s) s (rnextV s st).2 else (.zero, rfailV st (tokV s st.p).at_)
theorem rfail_p (st : RS) (i : Nat) : (rfailV st i).p = st.p := by unfold rfailV; cases st.c == 0 <;> rfl
theorem rfail_c (st : RS) (i : Nat) : (rfailV st i).c ≠ 0 := by
 unfold rfailV
 cases h : st.c == 0
 ·simpa using h
 ·simp
theorem rnext_stuck {s : ByteArray} {st : RS} (h : st.c ≠ 0) : rnextV s st = (ByteArray.mk #[], st) := by
 have h1 : (st.c == 0) = false := by simpa using h
 have h2 : (st.c != 0) = true := by simpa using h
 unfold rnextV rfailV
 simp only [h1, cond_false]
 cases (!(tokV s st.p).ok || isNo (tokV s st.p).t) <;> simp only [cond_true, cond_false, h2]
theorem rnext_p {s : ByteArray} {st : RS} (hp : st.p ≤ s.size) : (rnextV s st).2.p ≤ s.size ∧ ((rnextV s st).2.c = 0 → st.c = 0 ∧ isNo (tokV s st.p).t = false ∧ (rnextV s st).2.p = (tokV s st.p).at_ + (tokV s st.p).t.size) := by
 obtain ⟨k1, k2, k3⟩ := tokV_ok s hp
 by_cases hc : st.c = 0
 ·unfold rnextV rfailV
  simp only [hc, beq_self_eq_true, cond_true, bne_self_eq_false]
  cases hx : (!(tokV s st.p).ok || isNo (tokV s st.p).t)
  ·simp only [cond_false, hc, bne_self_eq_false]
   simp only [Bool.or_eq_false_iff] at hx
   exact ⟨by omega, fun _ => ⟨trivial, hx.2, by first | rfl | trivial⟩⟩
  ·simp only [cond_true]
   exact ⟨hp, fun h => by simp at h⟩
 ·rw [rnext_stuck hc]
  exact ⟨hp, fun h => absurd h hc⟩
theorem rtake_p {s : ByteArray} {st : RS} {w : ByteArray} (hp : st.p ≤ s.size) : (rtakeV s st w).p ≤ s.size ∧ ((rtakeV s st w).c = 0 → st.c = 0 ∧ (tokV s st.p).t.toList = w.toList ∧ (rtakeV s st w).p = (tokV s st.p).at_ + (tokV s st.p).t.size) := by
 obtain ⟨k1, k2, k3⟩ := tokV_ok s hp
 by_cases hc : st.c = 0
 ·unfold rtakeV rfailV
  simp only [hc, beq_self_eq_true, cond_true]
  cases hx : (!(tokV s st.p).ok || !((tokV s st.p).t.toList == w.toList))
  ·simp only [cond_false, hc, beq_self_eq_true, cond_true]
   simp only [Bool.or_eq_false_iff] at hx
   exact ⟨by omega, fun _ => ⟨trivial, by simpa using hx.2, by first | rfl | trivial⟩⟩
  ·simp only [cond_true]
   exact ⟨hp, fun h => by simp at h⟩
 ·have h1 : (st.c == 0) = false := by simpa using hc
  have : rtakeV s st w = st := by
   unfold rtakeV rfailV
   simp only [h1, cond_false]
   cases (!(tokV s st.p).ok || !((tokV s st.p).t.toList == w.toList)) <;> simp only [cond_true, cond_false, h1]
  rw [this]
  exact ⟨hp, fun h => absurd h hc⟩
theorem rlevel_stuck {n : Nat} {s : ByteArray} {st : RS} (h : st.c ≠ 0) : rlevelV n s st = (.zero, st) := by
 cases n with
 | zero => rfl
 | succ n =>
  have h2 : (st.c != 0) = true := by simpa using h
  rw [rlevelV, h2]; rfl
theorem strIs_size {t : ByteArray} {l : List UInt8} (h : strIs t l = true) : t.size = l.length := by
 rw [strIs, beq_iff_eq, ByteArray.toList_eq, ByteArray.toList_eq] at h
 have := congrArg List.length h
 show t.data.size = l.length
 rw [← Array.length_toList, this]
 simp [ba]
structure Took (s : ByteArray) (st : RS) (x : Lv × RS) : Prop where
 le : x.2.p ≤ s.size
 ok : x.2.c = 0 → st.c = 0 ∧ (printL x.1).length ≤ 2 * (x.2.p - st.p) ∧ x.1.size ≤ x.2.p - st.p ∧ st.p < x.2.p ∧ printL x.1 ≠ []
theorem rlevel_took (s : ByteArray) : ∀ (n : Nat) (st : RS), st.p ≤ s.size → (st.c ≠ 0 ∨ s.size - st.p < n) → Took s st (rlevelV n s st)
 | 0, st, hp, hn => ⟨hp, fun h => by rcases hn with hn | hn; exact absurd h hn; omega⟩
 | n + 1, st, hp, hn => by
  by_cases hc : st.c = 0
  case neg => rw [rlevel_stuck hc]; exact ⟨hp, fun h => absurd h hc⟩
  obtain ⟨k1, k2, k3⟩ := tokV_ok s hp
  obtain ⟨q1, q2⟩ := rnext_p (st := st) hp
  have hc' : (st.c != 0) = false := by simp [hc]
  simp only [rlevelV, hc', cond_false]
  cases h0 : strIs (tokV s st.p).t [48]
  case true =>
   have z := strIs_size h0
   simp only [cond_true, cond_false]
   refine ⟨q1, fun h => ?_⟩
   obtain ⟨_, _, e⟩ := q2 h
   simp only [List.length_cons, List.length_nil] at z
   refine ⟨hc, ?_, ?_, ?_, by simp [printL]⟩ <;> simp only [e, printL, Lv.size, List.length_cons, List.length_nil] <;> omega
  cases h1 : isNameV (tokV s st.p).t
  case true =>
   simp only [cond_true, cond_false]
   refine ⟨q1, fun h => ?_⟩
   obtain ⟨_, e1, e⟩ := q2 h
   have z := isNo_size e1
   have zz : (tokV s st.p).t.data.toList.length = (tokV s st.p).t.size := Array.length_toList
   refine ⟨hc, ?_, ?_, ?_, ?_⟩
   ·simp only [e, printL, zz]; omega
   ·simp only [e, Lv.size]; omega
   ·simp only [e]; omega
   ·simp only [printL]; intro hh; rw [hh] at zz; simp at zz; omega
  cases h2 : strIs (tokV s st.p).t [40]
  case false =>
   simp only [cond_false]
   exact ⟨by rw [rfail_p]; exact hp, fun h => absurd h (rfail_c _ _)⟩
  have z2 := strIs_size h2
  simp only [List.length_cons, List.length_nil] at z2
  simp only [cond_true, cond_false]
  obtain ⟨r1, r2⟩ := rnext_p (s := s) (st := (rnextV s st).2) q1
  have hn2 : (rnextV s (rnextV s st).2).2.c ≠ 0 ∨ s.size - (rnextV s (rnextV s st).2).2.p < n := by
   by_cases hz : (rnextV s (rnextV s st).2).2.c = 0
   ·obtain ⟨e1, e2, e3⟩ := r2 hz
    obtain ⟨_, _, e4⟩ := q2 e1
    obtain ⟨m1, _, _⟩ := tokV_ok s q1
    rcases hn with hn | hn
    ·exact absurd hc hn
    ·have := isNo_size e2; right; omega
   ·exact .inl hz
  have tx := rlevel_took s n _ r1 hn2
  have hn3 : (rlevelV n s (rnextV s (rnextV s st).2).2).2.c ≠ 0 ∨ s.size - (rlevelV n s (rnextV s (rnextV s st).2).2).2.p < n := by
   by_cases hz : (rlevelV n s (rnextV s (rnextV s st).2).2).2.c = 0
   ·obtain ⟨e1, _, _, e2, _⟩ := tx.ok hz
    rcases hn2 with h | h
    ·exact absurd e1 h
    ·right; omega
   ·exact .inl hz
  have ty := rlevel_took s n _ tx.le hn3
  generalize hX : rlevelV n s (rnextV s (rnextV s st).2).2 = X at tx ty hn3
  generalize hY : rlevelV n s X.2 = Y at ty
  have b41 : (ba [41]).toList = [41] := by rw [ByteArray.toList_eq]; rfl
  have one : ∀ (f : Lv → Lv) (w : List UInt8), (∀ l, (printL (f l)).length = (printL l).length + w.length + 3 ∧ (f l).size = l.size + 1 ∧ printL (f l) ≠ []) → strIs (tokV s (rnextV s st).2.p).t w = true → w.length ≥ 1 → Took s st (f X.1, rtakeV s X.2 (ba [41])) := by
   intro f w hf hw hwl
   obtain ⟨t1, t2⟩ := rtake_p (w := ba [41]) tx.le
   refine ⟨t1, fun h => ?_⟩
   obtain ⟨u1, u2, u3⟩ := t2 h
   obtain ⟨v1, v2, v3, v4, v5⟩ := tx.ok u1
   obtain ⟨w1, w2, w3⟩ := r2 v1
   obtain ⟨x1, x2, x3⟩ := q2 w1
   obtain ⟨m1, _, _⟩ := tokV_ok s q1
   obtain ⟨m2, _, _⟩ := tokV_ok s tx.le
   have z4 := strIs_size hw
   have z5 : (tokV s X.2.p).t.size = 1 := by
    have := strIs_size (l := [41]) (t := (tokV s X.2.p).t) (by simp [strIs, u2])
    simpa using this
   obtain ⟨g1, g2, g3⟩ := hf X.1
   simp only
   refine ⟨hc, ?_, ?_, ?_, g3⟩ <;> (try rw [g1]) <;> (try rw [g2]) <;> omega
  have two : ∀ (f : Lv → Lv → Lv) (w : List UInt8), (∀ l m, (printL (f l m)).length = (printL l).length + (printL m).length + w.length + 4 ∧ (f l m).size = l.size + m.size + 1 ∧ printL (f l m) ≠ []) → strIs (tokV s (rnextV s st).2.p).t w = true → w.length ≥ 1 → Took s st (f X.1 Y.1, rtakeV s Y.2 (ba [41])) := by
   intro f w hf hw hwl
   obtain ⟨t1, t2⟩ := rtake_p (w := ba [41]) ty.le
   refine ⟨t1, fun h => ?_⟩
   obtain ⟨u1, u2, u3⟩ := t2 h
   obtain ⟨y1, y2, y3, y4, y5⟩ := ty.ok u1
   obtain ⟨v1, v2, v3, v4, v5⟩ := tx.ok y1
   obtain ⟨w1, w2, w3⟩ := r2 v1
   obtain ⟨x1, x2, x3⟩ := q2 w1
   obtain ⟨m1, _, _⟩ := tokV_ok s q1
   obtain ⟨m2, _, _⟩ := tokV_ok s ty.le
   have z4 := strIs_size hw
   have z5 : (tokV s Y.2.p).t.size = 1 := by
    have := strIs_size (l := [41]) (t := (tokV s Y.2.p).t) (by simp [strIs, u2])
    simpa using this
   obtain ⟨g1, g2, g3⟩ := hf X.1 Y.1
   simp only
   refine ⟨hc, ?_, ?_, ?_, g3⟩ <;> (try rw [g1]) <;> (try rw [g2]) <;> omega
  simp only [lvP, lv1, lv2, hX, hY]
  cases h3 : strIs (tokV s (rnextV s st).2.p).t [115]
  case true => exact one .succ [115] (fun l => ⟨by simp [printL] <;> omega, rfl, by simp [printL]⟩) h3 (by simp)
  cases h4 : strIs (tokV s (rnextV s st).2.p).t [109, 97, 120]
  case true => exact two .max [109, 97, 120] (fun l m => ⟨by simp [printL]; omega, rfl, by simp [printL]⟩) h4 (by simp)
  cases h5 : strIs (tokV s (rnextV s st).2.p).t [105, 109, 97, 120]
  case true => exact two .imax [105, 109, 97, 120] (fun l m => ⟨by simp [printL]; omega, rfl, by simp [printL]⟩) h5 (by simp)
  exact ⟨by simp only [cond_false]; rw [rfail_p]; exact q1, fun h => absurd h (by simp only [cond_false]; exact rfail_c _ _)⟩
end Go.Ab.Mk
end
section
namespace Go.Ab.Mk
open Go.Proofs Go.Ab
theorem scan_all {f : Int → Bool} {s : ByteArray} : ∀ (k i : Nat), s.size - i = k → ∀ j, i ≤ j → j < scan f s i → f (byteAt s j) = true
 | k, i, hk, j, h1, h2 => by
  by_cases h : i < s.size ∧ f (byteAt s i) = true
  ·rw [scan_go h.1 h.2] at h2
   rcases Nat.eq_or_lt_of_le h1 with rfl | h1
   ·exact h.2
   ·exact scan_all (k - 1) (i + 1) (by omega) j h1 h2
  ·rw [scan_stop h] at h2; omega
theorem byteAt_ext {s : ByteArray} {i q j : Nat} (h : i + j < q) (hq : q ≤ s.size) : byteAt (s.extract i q) j = byteAt s (i + j) := by
 have h1 : (s.extract i q).data.toList.getD j 0 = s.data.toList.getD (i + j) 0 := by
  rw [ByteArray.data_extract]
  simp only [List.getD, Array.getElem?_toList, Array.getElem?_extract]
  have hq' : q ≤ s.data.size := hq
  rw [if_pos (by omega)]
 simp only [byteAt, h1]
end Go.Ab.Mk
end
section
namespace Go.Ab.Mk
open Go.Ab
inductive Tm where
 | var (n : Nat)
 | sort (l : Lv)
 | const (s : ByteArray) (ls : List Lv)
 | app (a b : Tm)
 | lam (a b : Tm)
 | pi (a b : Tm)
 | letin (a b c : Tm)
 deriving Inhabited
def Tm.kind : Tm → Int
 | .var _ => 0 | .sort _ => 1 | .const .. => 2 | .app .. => 3 | .lam .. => 4 | .pi .. => 5 | .letin .. => 6
def Tm.num : Tm → Nat
 | .var n => n
 | _ => 0
def Tm.name : Tm → ByteArray
 | .const s _ => s
 | _ => ByteArray.mk #[]
def Tm.lvs : Tm → List Lv
 | .sort l => [l]
 | .const _ ls => ls
 | _ => []
def Tm.kids : Tm → List Tm
 | .app a b => [a, b]
 | .lam a b => [a, b]
 | .pi a b => [a, b]
 | .letin a b c => [a, b, c]
 | _ => []
def tmCells (k n : Int) (s : ByteArray) (ls : List Lv) (es : List (List V)) : List V := [.int .i64 k, .int .i64 n, .str s, .slice 3 76 (ls.map Lv.enc), .slice 5 45 es]
def Tm.enc : Tm → List V
 | .var n => tmCells 0 n (ByteArray.mk #[]) [] []
 | .sort l => tmCells 1 0 (ByteArray.mk #[]) [l] []
 | .const s ls => tmCells 2 0 s ls []
 | .app a b => tmCells 3 0 (ByteArray.mk #[]) [] [a.enc, b.enc]
 | .lam a b => tmCells 4 0 (ByteArray.mk #[]) [] [a.enc, b.enc]
 | .pi a b => tmCells 5 0 (ByteArray.mk #[]) [] [a.enc, b.enc]
 | .letin a b c => tmCells 6 0 (ByteArray.mk #[]) [] [a.enc, b.enc, c.enc]
def Tm.args (t : Tm) : List (List V) := t.kids.map Tm.enc
def Tm.val (t : Tm) : V := .agg [.int .i64 t.kind, .int .i64 t.num, .str t.name, .slice 3 76 (t.lvs.map Lv.enc), .slice 5 45 t.args]
theorem Tm.enc_eq (t : Tm) : t.enc = [.int .i64 t.kind, .int .i64 t.num, .str t.name, .slice 3 76 (t.lvs.map Lv.enc), .slice 5 45 t.args] := by cases t <;> rfl
theorem Tm.enc_len (t : Tm) : t.enc.length = 5 := by cases t <;> rfl
def Tm.head : Tm → Tm
 | .app a _ => a.head
 | t => t
theorem Tm.ind {P : Tm → Prop} (h : ∀ t, (∀ c ∈ t.kids, P c) → P t) : ∀ t, P t
 | .var _ => h _ (by simp [Tm.kids])
 | .sort _ => h _ (by simp [Tm.kids])
 | .const .. => h _ (by simp [Tm.kids])
 | .app a b => h _ (by simp only [Tm.kids, List.mem_cons, List.not_mem_nil, or_false]; rintro c (rfl | rfl) <;> exact Tm.ind h _)
 | .lam a b => h _ (by simp only [Tm.kids, List.mem_cons, List.not_mem_nil, or_false]; rintro c (rfl | rfl) <;> exact Tm.ind h _)
 | .pi a b => h _ (by simp only [Tm.kids, List.mem_cons, List.not_mem_nil, or_false]; rintro c (rfl | rfl) <;> exact Tm.ind h _)
 | .letin a b d => h _ (by simp only [Tm.kids, List.mem_cons, List.not_mem_nil, or_false]; rintro c (rfl | rfl | rfl) <;> exact Tm.ind h _)
end Go.Ab.Mk
end
section
namespace Go.Ab.Mk
open Go.Proofs Go.Ab
def numFrom (s : ByteArray) (i : Nat) (acc : Nat) : Nat := if i < s.size then numFrom s (i + 1) (10 * acc + ((byteAt s i).toNat - 48)) else acc
termination_by s.size - i
theorem numFrom_go {s : ByteArray} {i acc : Nat} (h : i < s.size) : numFrom s i acc = numFrom s (i + 1) (10 * acc + ((byteAt s i).toNat - 48)) := by rw [numFrom, if_pos h]
theorem numFrom_end {s : ByteArray} {i acc : Nat} (h : ¬ i < s.size) : numFrom s i acc = acc := by rw [numFrom, if_neg h]
def numV (s : ByteArray) : Nat := numFrom s 0 0
structure Digits (s : ByteArray) : Prop where
 pos : 0 < s.size
 few : s.size ≤ 5
 all : ∀ i, i < s.size → isDigit (byteAt s i) = true
theorem Digits.byte {s : ByteArray} (h : Digits s) {i : Nat} (hi : i < s.size) : ∃ n : Nat, byteAt s i = (n : Int) ∧ 48 ≤ n ∧ n ≤ 57 := by
 have := h.all i hi
 simp only [isDigit, Bool.and_eq_true, decide_eq_true_eq] at this
 exact ⟨(byteAt s i).toNat, by omega, by omega, by omega⟩
theorem tok_num {s : ByteArray} {p : Nat} (hp : p ≤ s.size) (hok : (tokV s p).ok = true) (h0 : isNo (tokV s p).t = false) (h35 : byteAt (tokV s p).t 0 = 35) : Digits ((tokV s p).t.extract 1 (tokV s p).t.size) := by
  have h1 := le_scan isBlank s p
  have h2 := scan_le (f := isBlank) hp
  unfold tokV at hok h0 h35 ⊢
  generalize scan isBlank s p = i at h1 h2 hok h0 h35 ⊢
  by_cases hi : i = s.size
  · have : tokAt s i = ⟨ByteArray.mk #[], i, true⟩ := by unfold tokAt; simp [hi]
    rw [this] at h0; simp [isNo] at h0
  · have hlt : i < s.size := by omega
    have hz := isNo_size h0
    -- the token begins where it lies
    have hb : ∀ q, i + 1 ≤ q → q ≤ s.size → byteAt (s.extract i q) 0 = byteAt s i := fun q hq1 hq2 => byteAt_ext (by omega) hq2
    unfold tokAt at hok h0 h35 hz ⊢
    have hib : (i == s.size) = false := by simpa using hi
    simp only [hib, cond_false] at hok h0 h35 hz ⊢
    cases e40 : byteAt s i == 40
    case true =>
      simp only [e40, cond_true] at hok h0 h35 hz ⊢
      rw [hb _ (Nat.le_refl _) (by omega)] at h35
      simp only [beq_iff_eq] at e40; omega
    cases e41 : byteAt s i == 41
    case true =>
      simp only [e40, e41, cond_true, cond_false] at hok h0 h35 hz ⊢
      rw [hb _ (Nat.le_refl _) (by omega)] at h35
      simp only [beq_iff_eq] at e41; omega
    simp only [e40, e41, cond_false] at hok h0 h35 hz ⊢
    cases enm : nmByte (byteAt s i) true
    case true =>
      simp only [enm, cond_true] at hok h0 h35 hz ⊢
      have g1 := le_scan (nmByte · false) s (i + 1)
      have g2 := scan_le (f := (nmByte · false)) (s := s) (i := i + 1) (by omega)
      generalize scan (nmByte · false) s (i + 1) = q at g1 g2 hok h0 h35 hz ⊢
      unfold nmTok at hok h0 h35 hz ⊢
      cases e : decide (q - i > 40)
      · simp only [e, cond_false] at hok h0 h35 hz ⊢
        rw [hb q g1 g2] at h35
        rw [h35] at enm
        exact absurd enm (by decide)
      · simp [e, Tok.no] at hok
    simp only [enm, cond_false] at hok h0 h35 hz ⊢
    cases e35 : (byteAt s i == 35 || isDigit (byteAt s i))
    case false => simp [e35, Tok.no] at hok
    simp only [e35, cond_true] at hok h0 h35 hz ⊢
    have g1 := le_scan isDigit s (i + 1)
    have g2 := scan_le (f := isDigit) (s := s) (i := i + 1) (by omega)
    have g3 := scan_all (f := isDigit) (s := s) _ (i + 1) rfl
    generalize scan isDigit s (i + 1) = q at g1 g2 g3 hok h0 h35 hz ⊢
    have hok' : (numTok s i q (byteAt s i)) = ⟨s.extract i q, i, true⟩ ∧ (byteAt s i = 35 → 1 ≤ q - (i + 1) ∧ q - (i + 1) ≤ 5) := by
      simp only [numTok] at hok ⊢
      generalize hd : (bif byteAt s i == 35 then i + 1 else i) = d at hok ⊢
      cases c1 : q == d
      · cases c2 : decide (q - d > 5)
        · cases c3 : (decide (q - d > 1) && byteAt s d == 48)
          · refine ⟨rfl, fun h => ?_⟩
            simp only [h, beq_self_eq_true, cond_true] at hd
            subst hd
            simp at c1 c2
            omega
          · simp [c1, c2, c3, Tok.no] at hok
        · simp [c1, c2, Tok.no] at hok
      · simp [c1, Tok.no] at hok
    rw [hok'.1] at h35 ⊢
    simp only at h35 ⊢
    rw [hb q g1 g2] at h35
    obtain ⟨f1, f2⟩ := hok'.2 h35
    have hsz : (s.extract i q).size = q - i := by rw [ByteArray.size_extract]; omega
    have hsz2 : ((s.extract i q).extract 1 (s.extract i q).size).size = q - (i + 1) := by rw [ByteArray.size_extract]; omega
    refine ⟨by rw [hsz2]; omega, by rw [hsz2]; omega, fun j hj => ?_⟩
    rw [hsz2] at hj
    rw [byteAt_ext (by rw [hsz]; omega) (Nat.le_refl _), byteAt_ext (by omega) g2]
    exact g3 _ (by omega) (by omega)
theorem num_lt {s : ByteArray} (h : Digits s) : ∀ (k i acc : Nat), s.size - i = k → numFrom s i acc + 1 ≤ (acc + 1) * 10 ^ k
 | 0, i, acc, hk => by rw [numFrom_end (by omega)]; simp
 | k + 1, i, acc, hk => by
  rw [numFrom_go (by omega)]
  have := num_lt h k (i + 1) (10 * acc + ((byteAt s i).toNat - 48)) (by omega)
  obtain ⟨n, h1, h2, h3⟩ := h.byte (i := i) (by omega)
  refine Nat.le_trans this ?_
  rw [h1, Nat.pow_succ, Nat.mul_comm (10 ^ k) 10, ← Nat.mul_assoc]
  refine Nat.mul_le_mul_right _ ?_
  simp; omega
def wordIx (t : ByteArray) : Nat :=
 bif strIs t [115, 111, 114, 116] then 1 else bif strIs t [99, 111, 110, 115, 116] then 2 else bif strIs t [97, 112, 112] then 3 else
 bif strIs t [108, 97, 109] then 4 else bif strIs t [112, 105] then 5 else bif strIs t [108, 101, 116] then 6 else 0
def rnameV (s : ByteArray) (st : RS) : ByteArray × RS :=
 let k := tokV s st.p
 let st1 := bif !k.ok || !isNameV k.t then rfailV st k.at_ else st
 bif st1.c != 0 then (ByteArray.mk #[], st1) else (k.t, ⟨k.at_ + k.t.size, st1.c, st1.a⟩)
def rlvsV : Nat → ByteArray → RS → List Lv × RS
 | 0, _, st => ([], st)
 | n + 1, s, st =>
  bif st.c != 0 then ([], st) else
  bif strIs (tokV s st.p).t [41] then ([], st) else
  let x := rlevelV (s.size + 1) s st
  let y := rlvsV n s x.2
  (x.1 :: y.1, y.2)
def tm2 (rec : RS → Tm × RS) (s : ByteArray) (f : Tm → Tm → Tm) (st : RS) : Tm × RS := (f (rec st).1 (rec (rec st).2).1, rtakeV s (rec (rec st).2).2 (ba [41]))
def tm3 (rec : RS → Tm × RS) (s : ByteArray) (f : Tm → Tm → Tm → Tm) (st : RS) : Tm × RS :=
 (f (rec st).1 (rec (rec st).2).1 (rec (rec (rec st).2).2).1, rtakeV s (rec (rec (rec st).2).2).2 (ba [41]))
def tmB (rec : RS → Tm × RS) (s : ByteArray) (k : Nat) (st : RS) : Tm × RS :=
 match k with
 | 1 => (.sort (rlevelV (s.size + 1) s st).1, rtakeV s (rlevelV (s.size + 1) s st).2 (ba [41]))
 | 2 => (.const (rnameV s st).1 (rlvsV (s.size + 10) s (rnameV s st).2).1, rtakeV s (rlvsV (s.size + 10) s (rnameV s st).2).2 (ba [41]))
 | 3 => tm2 rec s .app st
 | 4 => tm2 rec s .lam st
 | 5 => tm2 rec s .pi st
 | _ => tm3 rec s .letin st
def tmP (rec : RS → Tm × RS) (s : ByteArray) (st : RS) : Tm × RS :=
 bif wordIx (tokV s st.p).t == 0 then (.var 0, rfailV st (tokV s st.p).at_) else tmB rec s (wordIx (tokV s st.p).t) (rnextV s st).2
def badTok (k : Tok) : Bool := !k.ok || (isNo k.t || (!(byteAt k.t 0 == 35) && !strIs k.t [40]))
def rtermV : Nat → ByteArray → RS → Tm × RS
 | 0, _, st => (.var 0, st)
 | n + 1, s, st =>
  bif st.c != 0 then (.var 0, st) else
  bif badTok (tokV s st.p) then (.var 0, rfailV st (tokV s st.p).at_) else
  bif strIs (tokV s st.p).t [40] then tmP (rtermV n s) s (rnextV s st).2 else
  (.var (numV ((tokV s st.p).t.extract 1 (tokV s st.p).t.size)), (rnextV s st).2)
theorem rterm_stuck {n : Nat} {s : ByteArray} {st : RS} (h : st.c ≠ 0) : rtermV n s st = (.var 0, st) := by
 cases n with
 | zero => rfl
 | succ n =>
  have h2 : (st.c != 0) = true := by simpa using h
  rw [rtermV, h2]; rfl
theorem rlvs_stuck {n : Nat} {s : ByteArray} {st : RS} (h : st.c ≠ 0) : rlvsV n s st = ([], st) := by
 cases n with
 | zero => rfl
 | succ n =>
  have h2 : (st.c != 0) = true := by simpa using h
  rw [rlvsV, h2]; rfl
structure Gone (s : ByteArray) (st st' : RS) : Prop where
 le : st'.p ≤ s.size
 ok : st'.c = 0 → st.c = 0 ∧ st.p ≤ st'.p
structure Goes (s : ByteArray) (st st' : RS) : Prop where
 le : st'.p ≤ s.size
 ok : st'.c = 0 → st.c = 0 ∧ st.p < st'.p
theorem Goes.gone {s : ByteArray} {a b : RS} (h : Goes s a b) : Gone s a b := ⟨h.le, fun e => ⟨(h.ok e).1, Nat.le_of_lt (h.ok e).2⟩⟩
theorem Goes.trans {s : ByteArray} {a b c : RS} (h : Goes s a b) (k : Gone s b c) : Goes s a c := ⟨k.le, fun e => ⟨(h.ok (k.ok e).1).1, by have := (h.ok (k.ok e).1).2; have := (k.ok e).2; omega⟩⟩
theorem Gone.trans {s : ByteArray} {a b c : RS} (h : Gone s a b) (k : Gone s b c) : Gone s a c := ⟨k.le, fun e => ⟨(h.ok (k.ok e).1).1, by have := (h.ok (k.ok e).1).2; have := (k.ok e).2; omega⟩⟩
theorem Gone.refl {s : ByteArray} {a : RS} (h : a.p ≤ s.size) : Gone s a a := ⟨h, fun e => ⟨e, Nat.le_refl _⟩⟩
theorem rfail_gone {s : ByteArray} {st : RS} (h : st.p ≤ s.size) (i : Nat) : Goes s st (rfailV st i) := ⟨by rw [rfail_p]; exact h, fun e => absurd e (rfail_c _ _)⟩
theorem rnext_goes {s : ByteArray} {st : RS} (h : st.p ≤ s.size) : Goes s st (rnextV s st).2 := by
 obtain ⟨a, b⟩ := rnext_p h
 refine ⟨a, fun e => ?_⟩
 obtain ⟨c, d, f⟩ := b e
 have := isNo_size d
 have := (tokV_ok s h).ge
 exact ⟨c, by omega⟩
theorem rtake_gone {s : ByteArray} {st : RS} (h : st.p ≤ s.size) (w : ByteArray) : Gone s st (rtakeV s st w) := by
 obtain ⟨k1, k2, k3⟩ := tokV_ok s h
 unfold rtakeV
 by_cases hc : st.c = 0
 ·simp only
  cases hx : (!(tokV s st.p).ok || !((tokV s st.p).t.toList == w.toList))
  ·simp only [cond_false, hc, beq_self_eq_true, cond_true]
   exact ⟨by simpa using k2, fun _ => ⟨hc, by simp only; omega⟩⟩
  ·have hf : ((rfailV st (tokV s st.p).at_).c == 0) = false := by simpa using rfail_c st (tokV s st.p).at_
   simp only [cond_true, hf, cond_false]
   exact (rfail_gone h _).gone
 ·have h1 : (st.c == 0) = false := by simpa using hc
  have : rfailV st (tokV s st.p).at_ = st := by unfold rfailV; rw [h1]; rfl
  simp only [this]
  cases (!(tokV s st.p).ok || !((tokV s st.p).t.toList == w.toList)) <;> simp only [cond_true, cond_false, h1] <;> exact Gone.refl h
theorem rname_goes {s : ByteArray} {st : RS} (h : st.p ≤ s.size) : Goes s st (rnameV s st).2 := by
 obtain ⟨k1, k2, k3⟩ := tokV_ok s h
 unfold rnameV
 by_cases hc : st.c = 0
 ·simp only
  cases hx : (!(tokV s st.p).ok || !isNameV (tokV s st.p).t)
  ·simp only [cond_false, hc, bne_self_eq_false]
   refine ⟨by simpa using k2, fun _ => ⟨hc, ?_⟩⟩
   simp only [Bool.or_eq_false_iff, Bool.not_eq_false', isNameV, Bool.and_eq_true, Bool.not_eq_true'] at hx
   have := isNo_size hx.2.1
   simp only; omega
  ·have hf : ((rfailV st (tokV s st.p).at_).c != 0) = true := by simpa using rfail_c st (tokV s st.p).at_
   simp only [cond_true, hf]
   exact rfail_gone h _
 ·have h1 : (st.c == 0) = false := by simpa using hc
  have h2 : (st.c != 0) = true := by simpa using hc
  have : rfailV st (tokV s st.p).at_ = st := by unfold rfailV; rw [h1]; rfl
  simp only [this]
  cases (!(tokV s st.p).ok || !isNameV (tokV s st.p).t) <;> simp only [cond_true, cond_false, h2] <;> exact ⟨h, fun e => absurd e hc⟩
theorem rlevel_goes {s : ByteArray} {st : RS} (h : st.p ≤ s.size) : Goes s st (rlevelV (s.size + 1) s st).2 := by
 have := rlevel_took s (s.size + 1) st h (.inr (by omega))
 exact ⟨this.le, fun e => ⟨(this.ok e).1, (this.ok e).2.2.2.1⟩⟩
theorem rlvs_gone (s : ByteArray) : ∀ (n : Nat) (st : RS), st.p ≤ s.size → Gone s st (rlvsV n s st).2
 | 0, st, h => Gone.refl h
 | n + 1, st, h => by
  unfold rlvsV
  cases st.c != 0
  ·cases strIs (tokV s st.p).t [41]
   ·exact (rlevel_goes h).gone.trans (rlvs_gone s n _ (rlevel_goes h).le)
   ·exact Gone.refl h
  ·exact Gone.refl h
theorem rterm_goes (s : ByteArray) : ∀ (n : Nat) (st : RS), st.p ≤ s.size → (st.c ≠ 0 ∨ s.size - st.p < n) → Goes s st (rtermV n s st).2
 | 0, st, hp, hn => ⟨hp, fun h => by rcases hn with hn | hn; exact absurd h hn; omega⟩
 | n + 1, st, hp, hn => by
  by_cases hc : st.c = 0
  case neg => rw [rterm_stuck hc]; exact ⟨hp, fun h => absurd h hc⟩
  have hc' : (st.c != 0) = false := by simp [hc]
  have g1 := rnext_goes hp
  simp only [rtermV, hc', cond_false]
  cases badTok (tokV s st.p)
  case true => exact rfail_gone hp _
  cases strIs (tokV s st.p).t [40]
  case false => exact g1
  simp only [cond_true, cond_false, tmP]
  cases wordIx (tokV s (rnextV s st).2.p).t == 0
  case true => exact g1.trans (rfail_gone g1.le _).gone
  have g2 := g1.trans (rnext_goes g1.le).gone
  simp only [cond_false]
  have hn2 : ∀ st', Goes s st st' → st'.c ≠ 0 ∨ s.size - st'.p < n := by
   intro st' h
   by_cases hz : st'.c = 0
   ·have := (h.ok hz).2
    have := h.le
    rcases hn with hn | hn
    ·exact absurd hc hn
    ·right; omega
   ·exact .inl hz
  generalize (rnextV s (rnextV s st).2).2 = st2 at g2
  have k1 : Goes s st (rtermV n s st2).2 := g2.trans (rterm_goes s n st2 g2.le (hn2 _ g2)).gone
  have k2 : Goes s st (rtermV n s (rtermV n s st2).2).2 := k1.trans (rterm_goes s n _ k1.le (hn2 _ k1)).gone
  have k3 : Goes s st (rtermV n s (rtermV n s (rtermV n s st2).2).2).2 := k2.trans (rterm_goes s n _ k2.le (hn2 _ k2)).gone
  unfold tmB
  split
  ·have := g2.trans (rlevel_goes g2.le).gone
   exact this.trans (rtake_gone this.le _)
  ·have := (g2.trans (rname_goes g2.le).gone)
   have := this.trans (rlvs_gone s (s.size + 10) _ this.le)
   exact this.trans (rtake_gone this.le _)
  ·exact k2.trans (rtake_gone k2.le _)
  ·exact k2.trans (rtake_gone k2.le _)
  ·exact k2.trans (rtake_gone k2.le _)
  ·exact k3.trans (rtake_gone k3.le _)
end Go.Ab.Mk
end
