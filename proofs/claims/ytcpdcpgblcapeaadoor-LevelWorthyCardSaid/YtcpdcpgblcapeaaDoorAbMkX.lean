/- AbMq1: printed by program: functions of the program, their code told as plain Lean, and the equations. A row: what an argument reads as is laid as an abstract value; what is behind the call reads as before. The plain law of the whole: LevelWorthy. strings.Builder in this seat: copyCheck and String, walked. -/
import Derived.Test.YtcpdcpgblcapeaaDoorAbMq0
import Derived.Test.YtcpdcpgblcapeaaDoorLvO1
import Derived.ChangeShapes
import Derived.ChangeArms
import Derived.Carry
import Derived.ProofKit
import Derived.Lib.LaidTab
import Derived.Test.YtcpdcpgblcapeaaDoorProg
import Derived.WalkKit
import Derived.Lib.Builder
import Derived.Lib.UnsafeStr
import Derived.Lib.Walk
import Derived.Laws.Externs
import Derived.Lib.Slices
set_option linter.unusedSimpArgs false
set_option linter.unusedVariables false
set_option linter.deprecated false
section
set_option maxRecDepth 100000
namespace Go.Ab.Mq
open Go.Proofs Go.Ab
/-! provekernellaw.LevelWorthy -/
noncomputable def levelWorthyk0 : List Nat := [0, 3, 4]
noncomputable def levelWorthys0 (call : CallF) (rec0 : List (List V) → V → Int → Sto → Option Res) (script_0 : List (List V)) (fact_3 : V) (i_4 : Int) (σ : Sto) : Option Res :=
  bif (decide (i_4 < (script_0.length : Int))) then
  bif (decide (i_4 < (1152921504606846976 : Int))) then
  (V.asBool fact_3).bind fun b1 =>
  bif b1 then
  (grd (decide (0 ≤ i_4) && decide (i_4 < script_0.length))).bind fun _ =>
  callK call 9 [((List.getD (List.getD script_0 (Int.toNat i_4) []) 1 V.any), false)] σ 2 (fun vs2 σ3 =>
  (grd (V.fits (List.getD vs2 0 cellD).1 true 3)).bind fun _ =>
  (grd (V.fits (List.getD vs2 1 cellD).1 true 2)).bind fun _ =>
  callK call 9 [((List.getD (List.getD script_0 (Int.toNat i_4) []) 2 V.any), false)] σ3 2 (fun vs5 σ6 =>
  (grd (V.fits (List.getD vs5 0 cellD).1 true 3)).bind fun _ =>
  (grd (V.fits (List.getD vs5 1 cellD).1 true 2)).bind fun _ =>
  (V.asInt (V.cell (List.getD vs2 1 cellD).1 0) .i64).bind fun i8 =>
  bif (i8 != (0 : Int)) then
  rec0 script_0 fact_3 (IntKind.wrap .i64 (i_4 + (1 : Int))) σ6
  else
  (V.asInt (V.cell (List.getD vs5 1 cellD).1 0) .i64).bind fun i9 =>
  bif (i9 != (0 : Int)) then
  rec0 script_0 fact_3 (IntKind.wrap .i64 (i_4 + (1 : Int))) σ6
  else
  (V.asStr (List.getD (List.getD script_0 (Int.toNat i_4) []) 1 V.any)).bind fun s10 =>
  bif (decide ((s10.size : Int) > (300 : Int))) then
  rec0 script_0 fact_3 (IntKind.wrap .i64 (i_4 + (1 : Int))) σ6
  else
  (V.asStr (List.getD (List.getD script_0 (Int.toNat i_4) []) 2 V.any)).bind fun s11 =>
  bif (decide ((s11.size : Int) > (300 : Int))) then
  rec0 script_0 fact_3 (IntKind.wrap .i64 (i_4 + (1 : Int))) σ6
  else
  callK call 10 [((V.agg [(V.cell (List.getD vs5 0 cellD).1 0), (V.cell (List.getD vs5 0 cellD).1 1), (V.cell (List.getD vs5 0 cellD).1 2)]), false), ((V.slice 1 9 []), true)] σ6 1 (fun vs12 σ13 =>
  (grd ((List.getD vs12 0 cellD).2 && true)).bind fun _ =>
  callK call 10 [((V.agg [(V.cell (List.getD vs2 0 cellD).1 0), (V.cell (List.getD vs2 0 cellD).1 1), (V.cell (List.getD vs2 0 cellD).1 2)]), false), ((List.getD vs12 0 cellD).1, true)] σ13 1 (fun vs15 σ16 =>
  (grd ((List.getD vs15 0 cellD).2 && true)).bind fun _ =>
  (V.asSlice (List.getD vs15 0 cellD).1 1 9).bind fun l18 =>
  bif (decide ((l18.length : Int) > (6 : Int))) then
  rec0 script_0 fact_3 (IntKind.wrap .i64 (i_4 + (1 : Int))) σ16
  else
  (V.asInt (List.getD (List.getD script_0 (Int.toNat i_4) []) 4 V.any) .i64).bind fun i19 =>
  (V.asInt (List.getD (List.getD script_0 (Int.toNat i_4) []) 5 V.any) .i64).bind fun i20 =>
  callK call 11 [((List.getD (List.getD script_0 (Int.toNat i_4) []) 4 V.any), false)] σ16 1 (fun vs21 σ22 =>
  callK call 11 [((List.getD (List.getD script_0 (Int.toNat i_4) []) 5 V.any), false)] σ22 1 (fun vs24 σ25 =>
  callK call 11 [((V.int .i64 (IntKind.wrap .i64 (i19 + i20))), false)] σ25 1 (fun vs27 σ28 =>
  (grd ((V.fits (List.getD vs21 0 cellD).1 false 1 && true))).bind fun _ =>
  (grd ((V.fits (List.getD vs24 0 cellD).1 false 1 && true))).bind fun _ =>
  (grd ((V.fits (List.getD vs27 0 cellD).1 false 1 && true))).bind fun _ =>
  callK call 12 [((V.agg [(V.cell (List.getD vs2 0 cellD).1 0), (V.cell (List.getD vs2 0 cellD).1 1), (V.cell (List.getD vs2 0 cellD).1 2)]), false), ((V.slice 1 9 [[(V.str (ByteArray.mk #[117]))], [(V.str (ByteArray.mk #[118]))], [(V.str (ByteArray.mk #[119]))]]), false), ((V.slice 1 3 [[(List.getD vs21 0 cellD).1], [(List.getD vs24 0 cellD).1], [(List.getD vs27 0 cellD).1]]), false)] σ28 1 (fun vs30 σ31 =>
  callK call 12 [((V.agg [(V.cell (List.getD vs5 0 cellD).1 0), (V.cell (List.getD vs5 0 cellD).1 1), (V.cell (List.getD vs5 0 cellD).1 2)]), false), ((V.slice 1 9 [[(V.str (ByteArray.mk #[117]))], [(V.str (ByteArray.mk #[118]))], [(V.str (ByteArray.mk #[119]))]]), false), ((V.slice 1 3 [[(List.getD vs21 0 cellD).1], [(List.getD vs24 0 cellD).1], [(List.getD vs27 0 cellD).1]]), false)] σ31 1 (fun vs33 σ34 =>
  callK call 13 [((V.agg [(V.cell (List.getD vs2 0 cellD).1 0), (V.cell (List.getD vs2 0 cellD).1 1), (V.cell (List.getD vs2 0 cellD).1 2)]), false), ((V.agg [(V.cell (List.getD vs5 0 cellD).1 0), (V.cell (List.getD vs5 0 cellD).1 1), (V.cell (List.getD vs5 0 cellD).1 2)]), false)] σ34 1 (fun vs36 σ37 =>
  callK call 13 [((V.agg [(V.cell (List.getD vs5 0 cellD).1 0), (V.cell (List.getD vs5 0 cellD).1 1), (V.cell (List.getD vs5 0 cellD).1 2)]), false), ((V.agg [(V.cell (List.getD vs2 0 cellD).1 0), (V.cell (List.getD vs2 0 cellD).1 1), (V.cell (List.getD vs2 0 cellD).1 2)]), false)] σ37 1 (fun vs39 σ40 =>
  callK call 14 [((V.agg [(V.cell (List.getD vs2 0 cellD).1 0), (V.cell (List.getD vs2 0 cellD).1 1), (V.cell (List.getD vs2 0 cellD).1 2)]), false), ((V.agg [(V.cell (List.getD vs5 0 cellD).1 0), (V.cell (List.getD vs5 0 cellD).1 1), (V.cell (List.getD vs5 0 cellD).1 2)]), false)] σ40 1 (fun vs42 σ43 =>
  (V.asBool (List.getD vs36 0 cellD).1).bind fun b45 =>
  bif b45 then
  (V.asInt (List.getD vs30 0 cellD).1 .i64).bind fun i46 =>
  (V.asInt (List.getD vs33 0 cellD).1 .i64).bind fun i47 =>
  bif (decide (i46 > i47)) then
  some (.ret [((V.bool false), false)], σ43)
  else
  (V.asBool (List.getD vs42 0 cellD).1).bind fun b48 =>
  bif b48 then
  (V.asInt (List.getD vs30 0 cellD).1 .i64).bind fun i49 =>
  (V.asInt (List.getD vs33 0 cellD).1 .i64).bind fun i50 =>
  bif (i49 != i50) then
  some (.ret [((V.bool false), false)], σ43)
  else
  (V.asBool (List.getD vs36 0 cellD).1).bind fun b51 =>
  bif b51 then
  (V.asBool (List.getD vs42 0 cellD).1).bind fun b52 =>
  (V.asBool (List.getD vs39 0 cellD).1).bind fun b53 =>
  bif (!(b52 == b53)) then
  some (.ret [((V.bool false), false)], σ43)
  else
  callK call 15 [((V.agg [(V.cell (List.getD vs2 0 cellD).1 0), (V.cell (List.getD vs2 0 cellD).1 1), (V.cell (List.getD vs2 0 cellD).1 2)]), false)] σ43 1 (fun vs54 σ55 =>
  callK call 16 [((List.getD vs54 0 cellD).1, false)] σ55 2 (fun vs57 σ58 =>
  (grd (V.fits (List.getD vs57 0 cellD).1 true 3)).bind fun _ =>
  callK call 14 [((V.agg [(V.cell (List.getD vs2 0 cellD).1 0), (V.cell (List.getD vs2 0 cellD).1 1), (V.cell (List.getD vs2 0 cellD).1 2)]), false), ((V.agg [(V.cell (List.getD vs57 0 cellD).1 0), (V.cell (List.getD vs57 0 cellD).1 1), (V.cell (List.getD vs57 0 cellD).1 2)]), false)] σ58 1 (fun vs60 σ61 =>
  (V.ifaceNil (List.getD vs57 1 cellD).1).bind fun b63 =>
  bif (!b63) then
  some (.ret [((V.bool false), false)], σ61)
  else
  (V.asBool (List.getD vs60 0 cellD).1).bind fun b64 =>
  bif (!b64) then
  some (.ret [((V.bool false), false)], σ61)
  else
  rec0 script_0 fact_3 (IntKind.wrap .i64 (i_4 + (1 : Int))) σ61) (fun p62 σ61 => some (.pan p62, σ61))) (fun p59 σ58 => some (.pan p59, σ58))) (fun p56 σ55 => some (.pan p56, σ55))
  else
  (V.asBool (List.getD vs42 0 cellD).1).bind fun b65 =>
  bif (!(b65 == false)) then
  some (.ret [((V.bool false), false)], σ43)
  else
  callK call 15 [((V.agg [(V.cell (List.getD vs2 0 cellD).1 0), (V.cell (List.getD vs2 0 cellD).1 1), (V.cell (List.getD vs2 0 cellD).1 2)]), false)] σ43 1 (fun vs66 σ67 =>
  callK call 16 [((List.getD vs66 0 cellD).1, false)] σ67 2 (fun vs69 σ70 =>
  (grd (V.fits (List.getD vs69 0 cellD).1 true 3)).bind fun _ =>
  callK call 14 [((V.agg [(V.cell (List.getD vs2 0 cellD).1 0), (V.cell (List.getD vs2 0 cellD).1 1), (V.cell (List.getD vs2 0 cellD).1 2)]), false), ((V.agg [(V.cell (List.getD vs69 0 cellD).1 0), (V.cell (List.getD vs69 0 cellD).1 1), (V.cell (List.getD vs69 0 cellD).1 2)]), false)] σ70 1 (fun vs72 σ73 =>
  (V.ifaceNil (List.getD vs69 1 cellD).1).bind fun b75 =>
  bif (!b75) then
  some (.ret [((V.bool false), false)], σ73)
  else
  (V.asBool (List.getD vs72 0 cellD).1).bind fun b76 =>
  bif (!b76) then
  some (.ret [((V.bool false), false)], σ73)
  else
  rec0 script_0 fact_3 (IntKind.wrap .i64 (i_4 + (1 : Int))) σ73) (fun p74 σ73 => some (.pan p74, σ73))) (fun p71 σ70 => some (.pan p71, σ70))) (fun p68 σ67 => some (.pan p68, σ67))
  else
  (V.asBool (List.getD vs36 0 cellD).1).bind fun b77 =>
  bif b77 then
  (V.asBool (List.getD vs42 0 cellD).1).bind fun b78 =>
  (V.asBool (List.getD vs39 0 cellD).1).bind fun b79 =>
  bif (!(b78 == b79)) then
  some (.ret [((V.bool false), false)], σ43)
  else
  callK call 15 [((V.agg [(V.cell (List.getD vs2 0 cellD).1 0), (V.cell (List.getD vs2 0 cellD).1 1), (V.cell (List.getD vs2 0 cellD).1 2)]), false)] σ43 1 (fun vs80 σ81 =>
  callK call 16 [((List.getD vs80 0 cellD).1, false)] σ81 2 (fun vs83 σ84 =>
  (grd (V.fits (List.getD vs83 0 cellD).1 true 3)).bind fun _ =>
  callK call 14 [((V.agg [(V.cell (List.getD vs2 0 cellD).1 0), (V.cell (List.getD vs2 0 cellD).1 1), (V.cell (List.getD vs2 0 cellD).1 2)]), false), ((V.agg [(V.cell (List.getD vs83 0 cellD).1 0), (V.cell (List.getD vs83 0 cellD).1 1), (V.cell (List.getD vs83 0 cellD).1 2)]), false)] σ84 1 (fun vs86 σ87 =>
  (V.ifaceNil (List.getD vs83 1 cellD).1).bind fun b89 =>
  bif (!b89) then
  some (.ret [((V.bool false), false)], σ87)
  else
  (V.asBool (List.getD vs86 0 cellD).1).bind fun b90 =>
  bif (!b90) then
  some (.ret [((V.bool false), false)], σ87)
  else
  rec0 script_0 fact_3 (IntKind.wrap .i64 (i_4 + (1 : Int))) σ87) (fun p88 σ87 => some (.pan p88, σ87))) (fun p85 σ84 => some (.pan p85, σ84))) (fun p82 σ81 => some (.pan p82, σ81))
  else
  (V.asBool (List.getD vs42 0 cellD).1).bind fun b91 =>
  bif (!(b91 == false)) then
  some (.ret [((V.bool false), false)], σ43)
  else
  callK call 15 [((V.agg [(V.cell (List.getD vs2 0 cellD).1 0), (V.cell (List.getD vs2 0 cellD).1 1), (V.cell (List.getD vs2 0 cellD).1 2)]), false)] σ43 1 (fun vs92 σ93 =>
  callK call 16 [((List.getD vs92 0 cellD).1, false)] σ93 2 (fun vs95 σ96 =>
  (grd (V.fits (List.getD vs95 0 cellD).1 true 3)).bind fun _ =>
  callK call 14 [((V.agg [(V.cell (List.getD vs2 0 cellD).1 0), (V.cell (List.getD vs2 0 cellD).1 1), (V.cell (List.getD vs2 0 cellD).1 2)]), false), ((V.agg [(V.cell (List.getD vs95 0 cellD).1 0), (V.cell (List.getD vs95 0 cellD).1 1), (V.cell (List.getD vs95 0 cellD).1 2)]), false)] σ96 1 (fun vs98 σ99 =>
  (V.ifaceNil (List.getD vs95 1 cellD).1).bind fun b101 =>
  bif (!b101) then
  some (.ret [((V.bool false), false)], σ99)
  else
  (V.asBool (List.getD vs98 0 cellD).1).bind fun b102 =>
  bif (!b102) then
  some (.ret [((V.bool false), false)], σ99)
  else
  rec0 script_0 fact_3 (IntKind.wrap .i64 (i_4 + (1 : Int))) σ99) (fun p100 σ99 => some (.pan p100, σ99))) (fun p97 σ96 => some (.pan p97, σ96))) (fun p94 σ93 => some (.pan p94, σ93))
  else
  (V.asBool (List.getD vs42 0 cellD).1).bind fun b103 =>
  bif b103 then
  (V.asInt (List.getD vs30 0 cellD).1 .i64).bind fun i104 =>
  (V.asInt (List.getD vs33 0 cellD).1 .i64).bind fun i105 =>
  bif (i104 != i105) then
  some (.ret [((V.bool false), false)], σ43)
  else
  (V.asBool (List.getD vs36 0 cellD).1).bind fun b106 =>
  bif b106 then
  (V.asBool (List.getD vs42 0 cellD).1).bind fun b107 =>
  (V.asBool (List.getD vs39 0 cellD).1).bind fun b108 =>
  bif (!(b107 == b108)) then
  some (.ret [((V.bool false), false)], σ43)
  else
  callK call 15 [((V.agg [(V.cell (List.getD vs2 0 cellD).1 0), (V.cell (List.getD vs2 0 cellD).1 1), (V.cell (List.getD vs2 0 cellD).1 2)]), false)] σ43 1 (fun vs109 σ110 =>
  callK call 16 [((List.getD vs109 0 cellD).1, false)] σ110 2 (fun vs112 σ113 =>
  (grd (V.fits (List.getD vs112 0 cellD).1 true 3)).bind fun _ =>
  callK call 14 [((V.agg [(V.cell (List.getD vs2 0 cellD).1 0), (V.cell (List.getD vs2 0 cellD).1 1), (V.cell (List.getD vs2 0 cellD).1 2)]), false), ((V.agg [(V.cell (List.getD vs112 0 cellD).1 0), (V.cell (List.getD vs112 0 cellD).1 1), (V.cell (List.getD vs112 0 cellD).1 2)]), false)] σ113 1 (fun vs115 σ116 =>
  (V.ifaceNil (List.getD vs112 1 cellD).1).bind fun b118 =>
  bif (!b118) then
  some (.ret [((V.bool false), false)], σ116)
  else
  (V.asBool (List.getD vs115 0 cellD).1).bind fun b119 =>
  bif (!b119) then
  some (.ret [((V.bool false), false)], σ116)
  else
  rec0 script_0 fact_3 (IntKind.wrap .i64 (i_4 + (1 : Int))) σ116) (fun p117 σ116 => some (.pan p117, σ116))) (fun p114 σ113 => some (.pan p114, σ113))) (fun p111 σ110 => some (.pan p111, σ110))
  else
  (V.asBool (List.getD vs42 0 cellD).1).bind fun b120 =>
  bif (!(b120 == false)) then
  some (.ret [((V.bool false), false)], σ43)
  else
  callK call 15 [((V.agg [(V.cell (List.getD vs2 0 cellD).1 0), (V.cell (List.getD vs2 0 cellD).1 1), (V.cell (List.getD vs2 0 cellD).1 2)]), false)] σ43 1 (fun vs121 σ122 =>
  callK call 16 [((List.getD vs121 0 cellD).1, false)] σ122 2 (fun vs124 σ125 =>
  (grd (V.fits (List.getD vs124 0 cellD).1 true 3)).bind fun _ =>
  callK call 14 [((V.agg [(V.cell (List.getD vs2 0 cellD).1 0), (V.cell (List.getD vs2 0 cellD).1 1), (V.cell (List.getD vs2 0 cellD).1 2)]), false), ((V.agg [(V.cell (List.getD vs124 0 cellD).1 0), (V.cell (List.getD vs124 0 cellD).1 1), (V.cell (List.getD vs124 0 cellD).1 2)]), false)] σ125 1 (fun vs127 σ128 =>
  (V.ifaceNil (List.getD vs124 1 cellD).1).bind fun b130 =>
  bif (!b130) then
  some (.ret [((V.bool false), false)], σ128)
  else
  (V.asBool (List.getD vs127 0 cellD).1).bind fun b131 =>
  bif (!b131) then
  some (.ret [((V.bool false), false)], σ128)
  else
  rec0 script_0 fact_3 (IntKind.wrap .i64 (i_4 + (1 : Int))) σ128) (fun p129 σ128 => some (.pan p129, σ128))) (fun p126 σ125 => some (.pan p126, σ125))) (fun p123 σ122 => some (.pan p123, σ122))
  else
  (V.asBool (List.getD vs36 0 cellD).1).bind fun b132 =>
  bif b132 then
  (V.asBool (List.getD vs42 0 cellD).1).bind fun b133 =>
  (V.asBool (List.getD vs39 0 cellD).1).bind fun b134 =>
  bif (!(b133 == b134)) then
  some (.ret [((V.bool false), false)], σ43)
  else
  callK call 15 [((V.agg [(V.cell (List.getD vs2 0 cellD).1 0), (V.cell (List.getD vs2 0 cellD).1 1), (V.cell (List.getD vs2 0 cellD).1 2)]), false)] σ43 1 (fun vs135 σ136 =>
  callK call 16 [((List.getD vs135 0 cellD).1, false)] σ136 2 (fun vs138 σ139 =>
  (grd (V.fits (List.getD vs138 0 cellD).1 true 3)).bind fun _ =>
  callK call 14 [((V.agg [(V.cell (List.getD vs2 0 cellD).1 0), (V.cell (List.getD vs2 0 cellD).1 1), (V.cell (List.getD vs2 0 cellD).1 2)]), false), ((V.agg [(V.cell (List.getD vs138 0 cellD).1 0), (V.cell (List.getD vs138 0 cellD).1 1), (V.cell (List.getD vs138 0 cellD).1 2)]), false)] σ139 1 (fun vs141 σ142 =>
  (V.ifaceNil (List.getD vs138 1 cellD).1).bind fun b144 =>
  bif (!b144) then
  some (.ret [((V.bool false), false)], σ142)
  else
  (V.asBool (List.getD vs141 0 cellD).1).bind fun b145 =>
  bif (!b145) then
  some (.ret [((V.bool false), false)], σ142)
  else
  rec0 script_0 fact_3 (IntKind.wrap .i64 (i_4 + (1 : Int))) σ142) (fun p143 σ142 => some (.pan p143, σ142))) (fun p140 σ139 => some (.pan p140, σ139))) (fun p137 σ136 => some (.pan p137, σ136))
  else
  (V.asBool (List.getD vs42 0 cellD).1).bind fun b146 =>
  bif (!(b146 == false)) then
  some (.ret [((V.bool false), false)], σ43)
  else
  callK call 15 [((V.agg [(V.cell (List.getD vs2 0 cellD).1 0), (V.cell (List.getD vs2 0 cellD).1 1), (V.cell (List.getD vs2 0 cellD).1 2)]), false)] σ43 1 (fun vs147 σ148 =>
  callK call 16 [((List.getD vs147 0 cellD).1, false)] σ148 2 (fun vs150 σ151 =>
  (grd (V.fits (List.getD vs150 0 cellD).1 true 3)).bind fun _ =>
  callK call 14 [((V.agg [(V.cell (List.getD vs2 0 cellD).1 0), (V.cell (List.getD vs2 0 cellD).1 1), (V.cell (List.getD vs2 0 cellD).1 2)]), false), ((V.agg [(V.cell (List.getD vs150 0 cellD).1 0), (V.cell (List.getD vs150 0 cellD).1 1), (V.cell (List.getD vs150 0 cellD).1 2)]), false)] σ151 1 (fun vs153 σ154 =>
  (V.ifaceNil (List.getD vs150 1 cellD).1).bind fun b156 =>
  bif (!b156) then
  some (.ret [((V.bool false), false)], σ154)
  else
  (V.asBool (List.getD vs153 0 cellD).1).bind fun b157 =>
  bif (!b157) then
  some (.ret [((V.bool false), false)], σ154)
  else
  rec0 script_0 fact_3 (IntKind.wrap .i64 (i_4 + (1 : Int))) σ154) (fun p155 σ154 => some (.pan p155, σ154))) (fun p152 σ151 => some (.pan p152, σ151))) (fun p149 σ148 => some (.pan p149, σ148))) (fun p44 σ43 => some (.pan p44, σ43))) (fun p41 σ40 => some (.pan p41, σ40))) (fun p38 σ37 => some (.pan p38, σ37))) (fun p35 σ34 => some (.pan p35, σ34))) (fun p32 σ31 => some (.pan p32, σ31))) (fun p29 σ28 => some (.pan p29, σ28))) (fun p26 σ25 => some (.pan p26, σ25))) (fun p23 σ22 => some (.pan p23, σ22))) (fun p17 σ16 => some (.pan p17, σ16))) (fun p14 σ13 => some (.pan p14, σ13))) (fun p7 σ6 => some (.pan p7, σ6))) (fun p4 σ3 => some (.pan p4, σ3))
  else
  some (.ret [(fact_3, false)], σ)
  else
  some (.ret [(fact_3, false)], σ)
  else
  some (.ret [(fact_3, false)], σ)
noncomputable def levelWorthyl0 (call : CallF) (n : Nat) : Nat → List (List V) → V → Int → Sto → Option Res
  | 0 => fun _ _ _ _ => none
  | m + 1 => levelWorthys0 call (levelWorthyl0 call n m)
noncomputable def levelWorthyt0 (script_0 : List (List V)) (fact_3 : V) (i_4 : Int) (σ : Sto) : St := ⟨[.val (V.slice 6 25 script_0) false, .dead, .dead, .val fact_3 false, .val (V.int .i64 i_4) false, .dead, .dead, .dead, .dead, .dead, .dead, .dead, .dead, .dead, .dead, .dead, .dead, .dead, .dead, .dead, .dead, .dead, .dead, .dead, .dead, .dead, .dead, .dead, .dead, .dead, .dead, .dead, .dead, .dead, .dead, .dead, .dead, .dead, .dead, .dead, .dead, .dead, .dead, .dead, .dead, .dead, .dead, .dead, .dead, .dead, .dead, .dead, .dead, .dead, .dead, .dead, .dead, .dead, .dead, .dead, .dead, .dead, .dead, .dead, .dead, .dead, .dead, .dead, .dead, .dead, .dead, .dead, .dead, .dead, .dead, .dead, .dead, .dead, .dead, .dead, .dead, .dead, .dead, .dead, .dead, .dead, .dead, .dead, .dead, .dead, .dead, .dead, .dead, .dead, .dead, .dead, .dead, .dead, .dead, .dead, .dead, .dead, .dead, .dead, .dead, .dead, .dead, .dead, .dead, .dead, .dead, .dead, .dead, .dead, .dead, .dead, .dead, .dead, .dead, .dead, .dead, .dead, .dead, .dead, .dead, .dead, .dead, .dead, .dead, .dead, .dead, .dead, .dead, .dead, .dead, .dead, .dead, .dead, .dead, .dead, .dead, .dead, .dead, .dead, .dead, .dead, .dead, .dead, .dead], [[], [], [], [], [], [], [], [], [], [], [], [], [], [], [], [], [], [], [], [], [], [], [], [], [], [], [], [], [], [], [], [], [], [], [], [], [], [], [], [], [], [], [], [], [], [], [], [], [], [], [], [], [], [], [], [], [], [], [], [], [], [], [], [], [], [], [], [], [], [], [], [], [], [], [], [], [], [], [], [], [], [], [], [], [], [], [], [], [], [], [], [], [], [], [], [], [], [], [], [], [], [], [], [], [], [], [], [], [], [], [], [], [], [], [], [], [], [], [], [], [], [], [], [], [], [], [], [], [], [], [], [], [], [], [], [], [], [], [], [], [], [], [], [], [], [], [], [], []], σ⟩
noncomputable def levelWorthyF (call : CallF) (L0 : List (List V) → V → Int → Sto → Option Res) (script_0 : List (List V)) (σ : Sto) : Option Res :=
  callK call 8 [] σ 1 (fun vs1 σ2 =>
  L0 script_0 (List.getD vs1 0 cellD).1 (0 : Int) σ2) (fun p3 σ2 => some (.pan p3, σ2))
noncomputable def levelWorthy (call : CallF) (n : Nat) (script_0 : List (List V)) (σ : Sto) : Option Res := levelWorthyF call (levelWorthyl0 call n n) script_0 σ
theorem levelWorthys0_eq (call : CallF) (n : Nat) (F0 : St → Option Res) (script_0 : List (List V)) (fact_3 : V) (i_4 : Int) (σ : Sto) :
    aexec C levelWorthyH call n (codeL (codeL (codeR (codeL (codeR (codeR levelWorthyC)))))) 0 (levelWorthyt0 script_0 fact_3 i_4 σ) (kloop levelWorthyk0 F0 (kblk 0 (kseq (fun st' => aexec C levelWorthyH call n (codeR (codeR (codeR levelWorthyC))) 0 st' (kfin C levelWorthyD)) (kfin C levelWorthyD)))) =
    levelWorthys0 call (fun script_0 fact_3 i_4 σ => F0 (levelWorthyt0 script_0 fact_3 i_4 σ)) script_0 fact_3 i_4 σ := by kernel_rfl
theorem levelWorthyl0_eq (call : CallF) (n : Nat) : ∀ (m : Nat) (script_0 : List (List V)) (fact_3 : V) (i_4 : Int) (σ : Sto),
    aloop (fun st K => aexec C levelWorthyH call n (codeL (codeL (codeR (codeL (codeR (codeR levelWorthyC)))))) 0 st K) levelWorthyk0 m (levelWorthyt0 script_0 fact_3 i_4 σ) (kblk 0 (kseq (fun st' => aexec C levelWorthyH call n (codeR (codeR (codeR levelWorthyC))) 0 st' (kfin C levelWorthyD)) (kfin C levelWorthyD))) = levelWorthyl0 call n m script_0 fact_3 i_4 σ
  | 0, script_0, fact_3, i_4, σ => rfl
  | m + 1, script_0, fact_3, i_4, σ => by
    rw [aloop, levelWorthys0_eq]
    simp only [levelWorthyl0_eq call n m]
    rfl
theorem levelWorthy_eqF (call : CallF) (n : Nat) (script_0 : List (List V)) (σ : Sto) : afun C levelWorthyD call n [((V.slice 6 25 script_0), false)] σ =
    levelWorthyF call (fun script_0 fact_3 i_4 σ => aloop (fun st K => aexec C levelWorthyH call n (codeL (codeL (codeR (codeL (codeR (codeR levelWorthyC)))))) 0 st K) levelWorthyk0 n (levelWorthyt0 script_0 fact_3 i_4 σ) (kblk 0 (kseq (fun st' => aexec C levelWorthyH call n (codeR (codeR (codeR levelWorthyC))) 0 st' (kfin C levelWorthyD)) (kfin C levelWorthyD)))) script_0 σ := by kernel_rfl
theorem levelWorthy_eq (call : CallF) (n : Nat) (script_0 : List (List V)) (σ : Sto) : afun C levelWorthyD call n [((V.slice 6 25 script_0), false)] σ = levelWorthy call n script_0 σ := by
  rw [levelWorthy_eqF]
  simp only [levelWorthyl0_eq]
  rfl
theorem levelWorthy_call (n : Nat) (script_0 : List (List V)) (σ : Sto) : acall C (n + 1) 5 [((V.slice 6 25 script_0), false)] σ = levelWorthy (acall C n) n script_0 σ :=
  (show acall C (n + 1) 5 [((V.slice 6 25 script_0), false)] σ = afun C levelWorthyD (acall C n) n [((V.slice 6 25 script_0), false)] σ by kernel_rfl).trans (levelWorthy_eq _ _ script_0 σ)
theorem levelWorthy_lim {n : Nat} {script_0 : List (List V)} {b0 : Bool} {σ : Sto} {r : Res} (h : levelWorthy (lim C) n script_0 σ = some r) : lim C 5 [((V.slice 6 25 script_0), b0)] σ = some r :=
  lim_of (d := levelWorthyD) (by kernel_rfl) (by kernel_rfl) n (show afun C levelWorthyD (lim C) n [((V.slice 6 25 script_0), false)] σ = some r from (levelWorthy_eq (lim C) n script_0 σ).trans h)
/-! provekernellaw.levelFacts -/
noncomputable def levelFactsF (call : CallF) (σ : Sto) : Option Res :=
  callK call 13 [((V.agg [(V.int .i64 (4 : Int)), (V.str (ByteArray.mk #[117])), (V.slice 3 31 [])]), false), ((V.agg [(V.int .i64 (2 : Int)), (V.str (ByteArray.mk #[])), (V.slice 3 31 [[(V.int .i64 (4 : Int)), (V.str (ByteArray.mk #[117])), (V.slice 3 31 [])], [(V.int .i64 (1 : Int)), (V.str (ByteArray.mk #[])), (V.slice 3 31 [[(V.int .i64 (0 : Int)), (V.str (ByteArray.mk #[])), (V.slice 3 31 [])]])]])]), false)] σ 1 (fun vs1 σ2 =>
  callK call 13 [((V.agg [(V.int .i64 (2 : Int)), (V.str (ByteArray.mk #[])), (V.slice 3 31 [[(V.int .i64 (4 : Int)), (V.str (ByteArray.mk #[117])), (V.slice 3 31 [])], [(V.int .i64 (1 : Int)), (V.str (ByteArray.mk #[])), (V.slice 3 31 [[(V.int .i64 (0 : Int)), (V.str (ByteArray.mk #[])), (V.slice 3 31 [])]])]])]), false), ((V.agg [(V.int .i64 (4 : Int)), (V.str (ByteArray.mk #[117])), (V.slice 3 31 [])]), false)] σ2 1 (fun vs4 σ5 =>
  callK call 14 [((V.agg [(V.int .i64 (3 : Int)), (V.str (ByteArray.mk #[])), (V.slice 3 31 [[(V.int .i64 (1 : Int)), (V.str (ByteArray.mk #[])), (V.slice 3 31 [[(V.int .i64 (0 : Int)), (V.str (ByteArray.mk #[])), (V.slice 3 31 [])]])], [(V.int .i64 (4 : Int)), (V.str (ByteArray.mk #[117])), (V.slice 3 31 [])]])]), false), ((V.agg [(V.int .i64 (4 : Int)), (V.str (ByteArray.mk #[117])), (V.slice 3 31 [])]), false)] σ5 1 (fun vs7 σ8 =>
  callK call 13 [((V.agg [(V.int .i64 (3 : Int)), (V.str (ByteArray.mk #[])), (V.slice 3 31 [[(V.int .i64 (1 : Int)), (V.str (ByteArray.mk #[])), (V.slice 3 31 [[(V.int .i64 (0 : Int)), (V.str (ByteArray.mk #[])), (V.slice 3 31 [])]])], [(V.int .i64 (4 : Int)), (V.str (ByteArray.mk #[117])), (V.slice 3 31 [])]])]), false), ((V.agg [(V.int .i64 (2 : Int)), (V.str (ByteArray.mk #[])), (V.slice 3 31 [[(V.int .i64 (4 : Int)), (V.str (ByteArray.mk #[117])), (V.slice 3 31 [])], [(V.int .i64 (1 : Int)), (V.str (ByteArray.mk #[])), (V.slice 3 31 [[(V.int .i64 (0 : Int)), (V.str (ByteArray.mk #[])), (V.slice 3 31 [])]])]])]), false)] σ8 1 (fun vs10 σ11 =>
  callK call 15 [((V.agg [(V.int .i64 (2 : Int)), (V.str (ByteArray.mk #[])), (V.slice 3 31 [[(V.int .i64 (4 : Int)), (V.str (ByteArray.mk #[117])), (V.slice 3 31 [])], [(V.int .i64 (1 : Int)), (V.str (ByteArray.mk #[])), (V.slice 3 31 [[(V.int .i64 (0 : Int)), (V.str (ByteArray.mk #[])), (V.slice 3 31 [])]])]])]), false)] σ11 1 (fun vs13 σ14 =>
  callK call 12 [((V.agg [(V.int .i64 (2 : Int)), (V.str (ByteArray.mk #[])), (V.slice 3 31 [[(V.int .i64 (4 : Int)), (V.str (ByteArray.mk #[117])), (V.slice 3 31 [])], [(V.int .i64 (1 : Int)), (V.str (ByteArray.mk #[])), (V.slice 3 31 [[(V.int .i64 (0 : Int)), (V.str (ByteArray.mk #[])), (V.slice 3 31 [])]])]])]), false), ((V.slice 1 9 [[(V.str (ByteArray.mk #[117]))]]), true), ((V.slice 1 3 [[(V.int .i64 (4 : Int))]]), true)] σ14 1 (fun vs16 σ17 =>
  (V.asBool (List.getD vs1 0 cellD).1).bind fun b19 =>
  bif b19 then
  (V.asBool (List.getD vs4 0 cellD).1).bind fun b20 =>
  bif (!b20) then
  (V.asBool (List.getD vs7 0 cellD).1).bind fun b21 =>
  bif b21 then
  (V.asBool (List.getD vs10 0 cellD).1).bind fun b22 =>
  bif b22 then
  (V.asStr (List.getD vs13 0 cellD).1).bind fun s23 =>
  bif (s23.toList == (ByteArray.mk #[40, 109, 97, 120, 32, 117, 32, 40, 115, 32, 48, 41, 41]).toList) then
  (V.asInt (List.getD vs16 0 cellD).1 .i64).bind fun i24 =>
  some (.ret [((V.bool (i24 == (4 : Int))), false)], σ17)
  else
  some (.ret [((V.bool false), false)], σ17)
  else
  some (.ret [((V.bool false), false)], σ17)
  else
  some (.ret [((V.bool false), false)], σ17)
  else
  some (.ret [((V.bool false), false)], σ17)
  else
  some (.ret [((V.bool false), false)], σ17)) (fun p18 σ17 => some (.pan p18, σ17))) (fun p15 σ14 => some (.pan p15, σ14))) (fun p12 σ11 => some (.pan p12, σ11))) (fun p9 σ8 => some (.pan p9, σ8))) (fun p6 σ5 => some (.pan p6, σ5))) (fun p3 σ2 => some (.pan p3, σ2))
noncomputable def levelFacts (call : CallF) (n : Nat) (σ : Sto) : Option Res := levelFactsF call σ
theorem levelFacts_eqF (call : CallF) (n : Nat) (σ : Sto) : afun C levelFactsD call n [] σ =
    levelFactsF call σ := by kernel_rfl
theorem levelFacts_eq (call : CallF) (n : Nat) (σ : Sto) : afun C levelFactsD call n [] σ = levelFacts call n σ := levelFacts_eqF call n σ
theorem levelFacts_call (n : Nat) (σ : Sto) : acall C (n + 1) 8 [] σ = levelFacts (acall C n) n σ :=
  (show acall C (n + 1) 8 [] σ = afun C levelFactsD (acall C n) n [] σ by kernel_rfl).trans (levelFacts_eq _ _ σ)
theorem levelFacts_lim {n : Nat} {σ : Sto} {r : Res} (h : levelFacts (lim C) n σ = some r) : lim C 8 [] σ = some r :=
  lim_of (d := levelFactsD) (by kernel_rfl) (by kernel_rfl) n (show afun C levelFactsD (lim C) n [] σ = some r from (levelFacts_eq (lim C) n σ).trans h)
end Go.Ab.Mq
end
section
namespace Go.Ab
open Go.ChangeShapes Go.WideShapes

/-- The beginning: all that lies there is settled, nobody holds anything. -/
def G0 (w : World) (B : Nat) : Gh := { N := 0, μ := id, lim := fun i => if i < w.heap.size then B else 0, owner := fun _ => none, ty := fun _ => 0 }
theorem G0_wf (w : World) (B : Nat) : WF (G0 w B) w := fun i hi => ⟨if_neg (by omega), rfl⟩
theorem below_of_ext {w w' : World} {B : Nat} {G' : Gh} (h : Ext (G0 w B) w G' w') : RowKit.Below w.heap.size w w' := ⟨h.os, h.tape, h.output, h.size, fun k hk => (h.old k hk rfl).1⟩
theorem G0_clean (w : World) (B n : Nat) : Clean (G0 w B) n := fun i p hp => by simp [G0] at hp
theorem G0_sinv {gl : Nat → Option (List V)} {w : World} {B : Nat} (h : ∀ (g : Nat) (cs : List V), gl g = some cs → Rel (G0 w B) w (.eptr cs.length cs 0) (.pointer (some ⟨g, 0, none⟩))) : SInv gl (G0 w B) w [] :=
  ⟨G0_wf w B, h, rfl, fun b hb => by simp at hb, fun b cs hb => by simp at hb⟩

/-- An Op's cells: five plain values and what they are. -/
structure OpV where
  k : Int
  s : ByteArray
  t : ByteArray
  u : ByteArray
  a : Int
  b : Int
def OpV.enc (o : OpV) : List V := [.int .i64 o.k, .str o.s, .str o.t, .str o.u, .int .i64 o.a, .int .i64 o.b]
def OpV.vals (o : OpV) : List Value := [.int .i64 o.k, .string o.s, .string o.t, .string o.u, .int .i64 o.a, .int .i64 o.b]
/-- What is known of an Op that can be read. -/
structure OpV.Fits (o : OpV) : Prop where
  s : o.s.size ≤ maxLen
  t : o.t.size ≤ maxLen
  u : o.u.size ≤ maxLen
  a : (Lit.int .i64 o.a).wf = true
  b : (Lit.int .i64 o.b).wf = true
/-- What an Op reads as. -/
def OpV.data {H : Type} (o : OpV) : DataW H := .agg [.lit (.int .i64 o.k), .lit (.string o.s.data.toList), .lit (.string o.t.data.toList), .lit (.string o.u.data.toList), .lit (.int .i64 o.a), .lit (.int .i64 o.b)]

section
variable {H : Type} {enc : TypeId × Value → H} {P : Program} {W : World} {sp : Nat → Bool} {held : Bool}

structure OpTy (P : Program) (tS tOp tInt tStr : TypeId) : Prop where
  hS : P.underlying tS = some (.slice tOp)
  hOp : ∃ fs, P.underlying tOp = some (.struct fs) ∧ fs.toList.map (fun f => (f.type, f.offset)) = [(tInt, 0), (tStr, 1), (tStr, 2), (tStr, 3), (tInt, 4), (tInt, 5)]
  hInt : P.underlying tInt = some (.int .i64)
  hStr : P.underlying tStr = some .string
  cOp : P.cellsOf tOp = 6
  cInt : P.cellsOf tInt = 1
  cStr : P.cellsOf tStr = 1

theorem op_read {tS tOp tInt tStr : TypeId} (T : OpTy P tS tOp tInt tStr) {n : Nat} {cs : List Value} {x : DataW H × List MemPlace} (h : DataW.trod enc P W 0 sp held n tOp cs = some x) :
    ∃ o : OpV, cs = o.vals ∧ o.Fits ∧ x.1 = o.data := by
  obtain ⟨fs, hu, hf⟩ := T.hOp
  obtain ⟨xs, m, _, hx, hl, hxl, hall⟩ := DataW.trod_struct hu h
  rw [T.cOp] at hl
  have hfl : fs.toList.length = 6 := by have := congrArg List.length hf; simpa using this
  have fget : ∀ (i : Nat) (ty : TypeId) (off : Nat), (fs.toList.map (fun f => (f.type, f.offset)))[i]? = some (ty, off) → DataW.trod enc P W 0 sp held m ty ((cs.drop off).take (P.cellsOf ty)) = xs[i]? := by
    intro i ty off hi
    simp only [List.getElem?_map, Option.map_eq_some_iff] at hi
    obtain ⟨f, h1, h2⟩ := hi
    have := hall i f (by simpa using h1)
    simp only [Prod.mk.injEq] at h2
    rw [h2.1, h2.2] at this
    exact this
  obtain ⟨c0, c1, c2, c3, c4, c5, rfl⟩ : ∃ c0 c1 c2 c3 c4 c5, cs = [c0, c1, c2, c3, c4, c5] := by
    match cs, hl with
    | [c0, c1, c2, c3, c4, c5], _ => exact ⟨c0, c1, c2, c3, c4, c5, rfl⟩
  · have hxs : xs.length = 6 := by rw [hxl]; simpa using hfl
    obtain ⟨x0, x1, x2, x3, x4, x5, rfl⟩ : ∃ x0 x1 x2 x3 x4 x5, xs = [x0, x1, x2, x3, x4, x5] := by
      match xs, hxs with
      | [x0, x1, x2, x3, x4, x5], _ => exact ⟨x0, x1, x2, x3, x4, x5, rfl⟩
    have e0 := fget 0 tInt 0 (by rw [hf]; rfl)
    have e1 := fget 1 tStr 1 (by rw [hf]; rfl)
    have e2 := fget 2 tStr 2 (by rw [hf]; rfl)
    have e3 := fget 3 tStr 3 (by rw [hf]; rfl)
    have e4 := fget 4 tInt 4 (by rw [hf]; rfl)
    have e5 := fget 5 tInt 5 (by rw [hf]; rfl)
    rw [T.cInt] at e0 e4 e5
    rw [T.cStr] at e1 e2 e3
    · obtain ⟨n0, h0, y0, _⟩ := DataW.trod_int T.hInt (e0.trans rfl)
      obtain ⟨s1, h1, y1, g1⟩ := DataW.trod_string T.hStr (e1.trans rfl)
      obtain ⟨s2, h2, y2, g2⟩ := DataW.trod_string T.hStr (e2.trans rfl)
      obtain ⟨s3, h3, y3, g3⟩ := DataW.trod_string T.hStr (e3.trans rfl)
      obtain ⟨n4, h4, y4, g4⟩ := DataW.trod_int T.hInt (e4.trans rfl)
      obtain ⟨n5, h5, y5, g5⟩ := DataW.trod_int T.hInt (e5.trans rfl)
      simp at h0 h1 h2 h3 h4 h5
      subst h0 h1 h2 h3 h4 h5
      refine ⟨⟨n0, s1, s2, s3, n4, n5⟩, rfl, ⟨g1, g2, g3, g4, g5⟩, ?_⟩
      rw [hx, y0, y1, y2, y3, y4, y5]
      rfl

theorem script_rel {tS tOp tInt tStr : TypeId} (T : OpTy P tS tOp tInt tStr) {b0 : Nat} {v : Value} {d : DataW H} {ps : List MemPlace} (hval : Value.okWide P W .any b0 tS v) (h : DataW.Trod enc P W 0 sp held tS v d ps) :
    ∃ (L : List OpV) (B0 : Nat), (∀ B, B0 ≤ B → Rel (G0 W B) W (.slice 6 tOp (L.map OpV.enc)) v) ∧ L.length ≤ maxLen ∧ (∀ o ∈ L, o.Fits) ∧ ((d = .nil ∧ L = []) ∨ ∃ rest, d = .slice (L.map OpV.data) rest) := by
  obtain ⟨fuel, hd⟩ := h
  rcases DataW.trod_slice T.hS hd with ⟨h0, h1⟩ | ⟨a, len, cap, elems, rest, n, _, hcs, hx, _, hlc, hm, hlen, hel, _, _⟩
  · have hv : v = .slice none 0 0 := by
      have hk : Value.okWide P W .any b0 tS v := hval
      unfold Value.okWide at hk
      rw [T.hS] at hk
      cases v <;> simp [Value.cells] at h0 <;> first | exact congr (congr (congrArg Value.slice h0.1) h0.2.1) h0.2.2 | skip
      all_goals (simp [Cell.okWide, Cell.ok, T.hS] at hk)
    subst hv
    simp only [Prod.mk.injEq] at h1
    exact ⟨[], 0, fun B _ => .snil _ _, Nat.zero_le _, by simp, .inl ⟨h1.1, rfl⟩⟩
  · have hv : v = .slice (some a) len cap := by
      have hk : Value.okWide P W .any b0 tS v := hval
      unfold Value.okWide at hk
      rw [T.hS] at hk
      cases v <;> simp [Value.cells] at hcs <;> first | exact congr (congr (congrArg Value.slice hcs.1) hcs.2.1) hcs.2.2 | skip
      all_goals (simp [Cell.okWide, Cell.ok, T.hS] at hk)
    subst hv
    have hk : Cell.ok P W .any b0 tS (.slice (some a) len cap) := by
      have hk : Value.okWide P W .any b0 tS (.slice (some a) len cap) := hval
      unfold Value.okWide at hk
      rw [T.hS] at hk
      simpa [Cell.okWide, T.hS] using hk
    simp only [Cell.ok, T.hS] at hk
    obtain ⟨_, _, _, hsp, row, cells, hshape, _⟩ := hk
    obtain ⟨b, off, spot⟩ := a
    simp only at hsp hshape
    subst hsp
    have hblt : b < W.heap.size := by
      rcases Nat.lt_or_ge b W.heap.size with h | h
      · exact h
      · simp [World.shape?, Array.getElem?_eq_none h] at hshape
    have each : ∀ i, i < len → ∃ o : OpV, o.Fits ∧ (elems[i]?).map (·.1) = some o.data ∧ ∀ j, j < 6 → W.cell? ⟨b, off + i * 6 + j, none⟩ = o.vals[j]? := by
      intro i hi
      have he := hel i hi
      obtain ⟨y, hy⟩ : ∃ y, elems[i]? = some y := ⟨elems[i], List.getElem?_eq_getElem (by omega)⟩
      rw [hy, Option.bind_eq_some_iff, T.cOp, add_plain] at he
      obtain ⟨cs, hc, ht⟩ := he
      obtain ⟨o, rfl, hf, hdat⟩ := op_read T ht
      refine ⟨o, hf, by rw [hy, ← hdat]; rfl, fun j hj => ?_⟩
      have := (World.cells?_some hc).2.2 j hj
      rw [add_plain] at this
      exact this
    classical
    let f : Nat → OpV := fun i => if h : i < len then (each i h).choose else ⟨0, default, default, default, 0, 0⟩
    have hf : ∀ i, i < len → (f i).Fits ∧ (elems[i]?).map (·.1) = some (f i).data ∧ ∀ j, j < 6 → W.cell? ⟨b, off + i * 6 + j, none⟩ = (f i).vals[j]? := by
      intro i hi
      simp only [f, dif_pos hi]
      exact (each i hi).choose_spec
    refine ⟨(List.range len).map f, off + len * 6, fun B hB => ?_, by simp; omega, fun o ho => ?_, .inr ⟨rest.map (·.1), ?_⟩⟩
    · have := Rel.slice (G := G0 W B) (w := W) 6 tOp (((List.range len).map f).map OpV.enc) b off cap (((List.range len).map f).map OpV.vals) (by simp) (by simpa using hlc)
        (by simp only [G0, List.length_map, List.length_range, if_pos hblt]; exact hB)
        (fun i e he => by
          simp only [List.getElem?_map, Option.map_eq_some_iff] at he
          obtain ⟨_, _, rfl⟩ := he
          rfl)
        (fun i e he => by
          simp only [List.getElem?_map, Option.map_eq_some_iff] at he
          obtain ⟨_, _, rfl⟩ := he
          rfl)
        (fun i j x c hx hc => by
          simp only [List.getElem?_map, Option.map_eq_some_iff] at hx
          obtain ⟨o, ⟨k, hk, rfl⟩, rfl⟩ := hx
          obtain ⟨hk1, hk2⟩ := List.getElem?_eq_some_iff.1 hk
          simp only [List.length_range] at hk1
          simp only [List.getElem_range] at hk2
          subst hk2
          have hj : j < 6 := by have := (List.getElem?_eq_some_iff.1 hc).1; exact this
          refine ⟨by rw [(hf i hk1).2.2 j hj]; exact hc, ?_⟩
          match j, hj with
          | 0, _ => simp [OpV.vals] at hc; subst hc; rfl
          | 1, _ => simp [OpV.vals] at hc; subst hc; rfl
          | 2, _ => simp [OpV.vals] at hc; subst hc; rfl
          | 3, _ => simp [OpV.vals] at hc; subst hc; rfl
          | 4, _ => simp [OpV.vals] at hc; subst hc; rfl
          | 5, _ => simp [OpV.vals] at hc; subst hc; rfl)
        (fun i j e x v c he hx hv hc => by
          simp only [List.getElem?_map, Option.map_eq_some_iff] at he hx
          obtain ⟨o, ⟨k, hk, rfl⟩, rfl⟩ := hx
          obtain ⟨o', ⟨k', hk', rfl⟩, rfl⟩ := he
          rw [hk] at hk'
          obtain rfl := Option.some.inj hk'
          match j with
          | 0 => simp [OpV.vals, OpV.enc] at hc hv; subst hc; subst hv; exact .int _ _
          | 1 => simp [OpV.vals, OpV.enc] at hc hv; subst hc; subst hv; exact .str _
          | 2 => simp [OpV.vals, OpV.enc] at hc hv; subst hc; subst hv; exact .str _
          | 3 => simp [OpV.vals, OpV.enc] at hc hv; subst hc; subst hv; exact .str _
          | 4 => simp [OpV.vals, OpV.enc] at hc hv; subst hc; subst hv; exact .int _ _
          | 5 => simp [OpV.vals, OpV.enc] at hc hv; subst hc; subst hv; exact .int _ _
          | j + 6 => simp [OpV.vals] at hc)
      simpa using this
    · simp only [List.mem_map, List.mem_range] at ho
      obtain ⟨i, hi, rfl⟩ := ho
      exact (hf i hi).1
    · simp only [Prod.mk.injEq] at hx
      rw [hx.1]
      congr 1
      apply List.ext_getElem?
      intro i
      by_cases hi : i < len
      · rw [List.getElem?_map, (hf i hi).2.1]
        simp [hi]
      · rw [List.getElem?_eq_none (by simp; omega), List.getElem?_eq_none (by simp; omega)]

theorem op_weights {tS tOp tInt tStr : TypeId} (T : OpTy P tS tOp tInt tStr) (o : OpV) : (o.data : DataW H).weights P tOp = [o.s.data.toList.length, o.t.data.toList.length, o.u.data.toList.length] := by
  obtain ⟨fs, hu, hf⟩ := T.hOp
  have ht : fs.toList.map (·.type) = [tInt, tStr, tStr, tStr, tInt, tInt] := by
    have := congrArg (List.map Prod.fst) hf
    rw [List.map_map] at this
    exact this
  simp only [OpV.data, DataW.weights, hu, ht, DataW.weightsEach]
  rfl
theorem weightsAll_mem {tOp : TypeId} : ∀ {l : List (DataW H)} {d : DataW H} {n : Nat}, d ∈ l → n ∈ d.weights P tOp → n ∈ DataW.weightsAll P tOp l
  | [], _, _, h, _ => by simp at h
  | x :: l, d, n, h, hn => by
    simp only [DataW.weightsAll, List.mem_append]
    rcases List.mem_cons.1 h with rfl | h
    · exact .inl hn
    · exact .inr (weightsAll_mem h hn)
/-- The sizes of what is handed in. -/
theorem script_sized {tS tOp tInt tStr : TypeId} (T : OpTy P tS tOp tInt tStr) (hb : 0 < P.bytesOf tOp) {L : List OpV} {d : DataW H} (hd : (d = .nil ∧ L = []) ∨ ∃ rest, d = .slice (L.map OpV.data) rest)
    (h : (DataW.weightsEach P [tS] [d]).all (· ≤ reachBytes) = true) : L.length < 2 ^ 47 ∧ ∀ o ∈ L, o.s.size < 2 ^ 47 ∧ o.t.size < 2 ^ 47 ∧ o.u.size < 2 ^ 47 := by
  have hr : reachBytes < 2 ^ 47 := by decide
  rcases hd with ⟨_, rfl⟩ | ⟨rest, rfl⟩
  · exact ⟨by simp, by simp⟩
  · rw [List.all_eq_true] at h
    simp only [DataW.weightsEach, DataW.weights, T.hS, List.append_nil] at h
    refine ⟨?_, fun o ho => ?_⟩
    · have := h _ (List.mem_cons_self ..)
      simp only [decide_eq_true_eq, List.length_map] at this
      have h2 : L.length * 1 ≤ (L.length + rest.length) * P.bytesOf tOp := Nat.mul_le_mul (Nat.le_add_right _ _) hb
      omega
    · have key : ∀ n ∈ (o.data : DataW H).weights P tOp, n ≤ reachBytes := by
        intro n hn
        have := h n (List.mem_cons_of_mem _ (List.mem_append_left _ (weightsAll_mem (List.mem_map_of_mem ho) hn)))
        simpa using this
      rw [op_weights T o] at key
      have k1 := key o.s.data.toList.length (by simp)
      have k2 := key o.t.data.toList.length (by simp)
      have k3 := key o.u.data.toList.length (by simp)
      rw [Array.length_toList] at k1 k2 k3
      exact ⟨Nat.lt_of_le_of_lt k1 hr, Nat.lt_of_le_of_lt k2 hr, Nat.lt_of_le_of_lt k3 hr⟩

/-- A table of strings. -/
theorem strTab {base : Nat} {fuel : Nat} {t e : TypeId} {n : Nat} {cs : List Value} {p : List MemPlace} {d : DataW H}
    (ht : P.underlying t = some (.array n e)) (he : P.underlying e = some .string) (hce : P.cellsOf e = 1) (hct : P.cellsOf t = n) (ss : List ByteArray) (hd : d = .agg (ss.map fun s => .lit (.string s.data.toList)))
    (h : DataW.trod enc P W base sp held fuel t cs = some (d, p)) : cs = ss.map Value.string := by
  subst hd
  cases fuel with
  | zero => simp [DataW.trod] at h
  | succ fuel =>
    simp only [DataW.trod, ht, hce, hct, Nat.mul_one] at h
    split at h
    · rename_i hl
      obtain ⟨xs, hm, hx⟩ := Option.map_eq_some_iff.1 h
      have hxs : xs.map (·.1) = ss.map fun s => (DataW.lit (.string s.data.toList) : DataW H) := by
        have := congrArg Prod.fst hx
        simpa using this
      have hxl : xs.length = n := by simpa using Lib.mapM_length hm
      have hsl : ss.length = n := by
        have := congrArg List.length hxs
        simp at this
        omega
      apply List.ext_getElem?
      intro i
      by_cases hi : i < n
      · obtain ⟨y, hy, hy2⟩ := Lib.mapM_at hm i i (by simp [hi])
        obtain ⟨s, h1, h2, _⟩ := DataW.trod_string he hy2
        have hci : cs[i]? = some (.string s) := by
          have hlt : i < cs.length := by omega
          have : (cs.drop i).take 1 = [cs[i]] := by
            rw [List.drop_eq_getElem_cons hlt]; rfl
          rw [this] at h1
          rw [List.getElem?_eq_getElem hlt]
          simpa using h1
        have hs : (xs.map (·.1))[i]? = some (DataW.lit (.string s.data.toList)) := by rw [List.getElem?_map, hy, h2]; rfl
        rw [hxs, List.getElem?_map, Option.map_eq_some_iff] at hs
        obtain ⟨s', h3, h4⟩ := hs
        have h5 : s'.data.toList = s.data.toList := by simpa using h4
        have : s' = s := by
          apply ByteArray.ext
          exact Array.toList_inj.1 h5
        rw [hci, List.getElem?_map, h3, this]; rfl
      · rw [List.getElem?_eq_none (by omega), List.getElem?_eq_none (by simp; omega)]
    · simp at h
/-- A table of strings, read as a context's variable. -/
theorem tab_rel {B : Nat} {g : Nat} {ss : List ByteArray} (hg : ∀ i s, ss[i]? = some s → W.cell? ⟨g, i, none⟩ = some (.string s)) (hlt : g < W.heap.size) (hB : ss.length ≤ B) :
    Rel (G0 W B) W (.eptr (ss.map V.str).length (ss.map V.str) 0) (.pointer (some ⟨g, 0, none⟩)) := by
  have := Rel.eptr (G := G0 W B) (w := W) (ss.map V.str).length (ss.map V.str) 0 g 0 (ss.map Value.string) rfl (by simp) (by simp only [G0, if_pos hlt, List.length_map]; omega)
    (fun i c hc => by
      simp only [List.getElem?_map, Option.map_eq_some_iff] at hc
      obtain ⟨s, hs, rfl⟩ := hc
      exact ⟨by rw [Nat.zero_add]; exact hg i s hs, rfl⟩)
    (fun i v c hv hc => by
      simp only [List.getElem?_map, Option.map_eq_some_iff] at hv hc
      obtain ⟨s, hs, rfl⟩ := hv
      obtain ⟨s', hs', rfl⟩ := hc
      rw [hs] at hs'
      obtain rfl := Option.some.inj hs'
      exact .str _)
  simpa using this
/-- A slice of strings that is laid: where its row lies. -/
theorem strSlice {base : Nat} {fuel : Nat} {t e : TypeId} {cs : List Value} {p : List MemPlace} {d : DataW H}
    (ht : P.underlying t = some (.slice e)) (he : P.underlying e = some .string) (hce : P.cellsOf e = 1) (ss : List ByteArray) (hne : 0 < ss.length) (hd : d = .slice (ss.map fun s => .lit (.string s.data.toList)) [])
    (h : DataW.trod enc P W base sp held fuel t cs = some (d, p)) :
    ∃ b off cap, cs = [.slice (some ⟨b, off, none⟩) ss.length cap] ∧ ss.length ≤ cap ∧ b < W.heap.size ∧ ∀ i s, ss[i]? = some s → W.cell? ⟨b, off + i, none⟩ = some (.string s) := by
  subst hd
  rcases DataW.trod_slice ht h with ⟨_, h1⟩ | ⟨a, len, cap, elems, rest, n, _, hcs, hx, _, hlc, hm, hlen, hel, _, _⟩
  · simp at h1
  · simp only [Prod.mk.injEq] at hx
    have hx1 := hx.1
    injection hx1 with hx1 hx2
    have hlen2 : ss.length = len := by
      have := congrArg List.length hx1
      simp only [List.length_map] at this
      omega
    have each : ∀ i s, ss[i]? = some s → W.cell? (a.add i) = some (.string s) := by
      intro i s hs
      have hi : i < ss.length := (List.getElem?_eq_some_iff.1 hs).1
      have hei := hel i (by omega)
      obtain ⟨y, hy⟩ : ∃ y, elems[i]? = some y := ⟨elems[i], List.getElem?_eq_getElem (by omega)⟩
      rw [hy, Option.bind_eq_some_iff, hce, Nat.mul_one] at hei
      obtain ⟨c1, hc, htr⟩ := hei
      obtain ⟨s', g1, g2, _⟩ := DataW.trod_string he htr
      have hcc := (World.cells?_some hc).2.2 0 (by omega)
      have hdat : (elems.map (·.1))[i]? = some (DataW.lit (.string s'.data.toList)) := by rw [List.getElem?_map, hy, g2]; rfl
      rw [← hx1, List.getElem?_map, hs] at hdat
      have h5 : s.data.toList = s'.data.toList := by simpa using hdat
      have : s = s' := by
        apply ByteArray.ext
        exact Array.toList_inj.1 h5
      rw [this]
      have e0 : (a.add i).add 0 = a.add i := by simp [Addr.add]
      rw [e0] at hcc
      have g1' : c1 = [.string s'] := by simpa using g1
      rw [hcc, g1']; rfl
    have h0 := each 0 ss[0] (List.getElem?_eq_getElem hne)
    obtain ⟨b, off, spot⟩ := a
    have hsp : spot = none := by
      have e0 : (⟨b, off, spot⟩ : Addr).add 0 = ⟨b, off, spot⟩ := by simp [Addr.add]
      rw [e0] at h0
      unfold World.cell? at h0
      split at h0
      · cases spot with
        | none => rfl
        | some z => simp at h0
      · simp at h0
    subst hsp
    refine ⟨b, off, cap, by rw [hlen2]; exact hcs, by omega, ?_, fun i s hs => ?_⟩
    · have e0 : (⟨b, off, none⟩ : Addr).add 0 = ⟨b, off, none⟩ := by simp [Addr.add]
      rw [e0] at h0
      exact World.block_lt_of_cell? _ _ h0
    · have := each i s hs
      rw [add_plain] at this
      exact this
/-- It is read as a context's variable. -/
theorem strSlice_rel {B : Nat} {g : Nat} {ss : List ByteArray} {b off cap : Nat} {e : TypeId} (hg : W.cell? ⟨g, 0, none⟩ = some (.slice (some ⟨b, off, none⟩) ss.length cap)) (hlt : g < W.heap.size) (hb : b < W.heap.size) (hcap : ss.length ≤ cap)
    (hc : ∀ i s, ss[i]? = some s → W.cell? ⟨b, off + i, none⟩ = some (.string s)) (hB1 : 1 ≤ B) (hB : off + ss.length ≤ B) :
    Rel (G0 W B) W (.eptr 1 [V.slice 1 e (ss.map fun s => [V.str s])] 0) (.pointer (some ⟨g, 0, none⟩)) := by
  have hr : Rel (G0 W B) W (.slice 1 e (ss.map fun s => [V.str s])) (.slice (some ⟨b, off, none⟩) ss.length cap) := by
    have := Rel.slice (G := G0 W B) (w := W) 1 e (ss.map fun s => [V.str s]) b off cap (ss.map fun s => [Value.string s]) (by simp) (by simpa using hcap)
      (by simp only [G0, List.length_map, if_pos hb]; omega)
      (fun i e he => by
        simp only [List.getElem?_map, Option.map_eq_some_iff] at he
        obtain ⟨_, _, rfl⟩ := he
        rfl)
      (fun i e he => by
        simp only [List.getElem?_map, Option.map_eq_some_iff] at he
        obtain ⟨_, _, rfl⟩ := he
        rfl)
      (fun i j x c hx hcc => by
        simp only [List.getElem?_map, Option.map_eq_some_iff] at hx
        obtain ⟨s, hs, rfl⟩ := hx
        match j with
        | 0 => simp at hcc; subst hcc; exact ⟨by rw [show off + i * 1 + 0 = off + i by omega]; exact hc i s hs, rfl⟩
        | j + 1 => simp at hcc)
      (fun i j e x v c he hx hv hcc => by
        simp only [List.getElem?_map, Option.map_eq_some_iff] at he hx
        obtain ⟨s, hs, rfl⟩ := hx
        obtain ⟨s', hs', rfl⟩ := he
        rw [hs] at hs'
        obtain rfl := Option.some.inj hs'
        match j with
        | 0 => simp at hcc hv; subst hcc; subst hv; exact .str _
        | j + 1 => simp at hcc)
    simpa using this
  refine Rel.eptr 1 [V.slice 1 e (ss.map fun s => [V.str s])] 0 g 0 [.slice (some ⟨b, off, none⟩) ss.length cap] rfl rfl ?_ ?_ ?_
  · show 0 + 1 ≤ if g < W.heap.size then B else 0
    rw [if_pos hlt]; omega
  · intro i c hc'
    match i with
    | 0 => simp at hc'; subst hc'; exact ⟨hg, rfl⟩
    | i + 1 => simp at hc'
  · intro i v c hv hc'
    match i with
    | 0 => simp at hv hc'; subst hv; subst hc'; exact hr
    | i + 1 => simp at hv
/-- What is behind a call that returns true and leaves all that was there. -/
theorem post_true {f : Func} {s : ChangeSpec} {tS : TypeId} {W' : World} {G' : Gh} {B : Nat} {v : Value} {d : DataW H} {before : List MemPlace} {tB : TypeId}
    (hp : f.params = #[tS]) (hr : f.resultTypes = #[tB]) (hB : P.underlying tB = some .bool) (hvars : s.vars = []) (hfn : s.fn H [d] = { results := [.lit (.bool true)], args := [d] })
    (hl : laidOutB P = true) (hrr : P.readableRec tS = true) (hrow : tS < P.types.size)
    (hW : DataW.Whole enc P f.params.toList s.vars false W [v] [d] [] before) (hE : Ext (G0 W B) W G' W') :
    s.post enc P f false true false false W #[v] (.bool true) W' := by
  have hb := below_of_ext hE
  have hlt := hW.lt
  obtain ⟨p, q, hA, hV, hpq, hz, hn⟩ := id hW
  rw [hp] at hA
  obtain ⟨v0, vs0, d0, ds0, p0, q0, hargs, hds, hps, h0, r0⟩ := trodAll_cons hA
  obtain ⟨rfl, rfl, rfl⟩ := trodAll_nil r0
  simp only [List.cons.injEq, and_true] at hargs hds
  subst hargs; subst hds
  rw [hvars] at hV
  obtain ⟨_, rfl⟩ := trodVars_none hV
  simp only [List.append_nil] at hps hpq
  subst hps; subst hpq
  have hres : ∀ (b : Nat) (sp : Nat → Bool) (hd : Bool), DataW.TrodAll enc P W' b sp hd f.resultTypes.toList ((Value.bool true).resultList f.resultTypes.size) (s.fn H ([d] ++ [])).results [] := by
    intro b sp hd
    rw [List.append_nil, hfn, hr]
    exact trodAll_mk1 ⟨1, by simp [DataW.trod, hB, Value.cells]⟩
  refine ⟨[d], [], before, [], before, [], hW, hres _ _ _, ?_, ?_, hb.frame _, fun h => by cases h⟩
  · rw [List.append_nil, hfn, hp]
    exact trodAll_mk1 (RowKit.Below.trod hl hrr hrow h0 hb fun x hx => hlt x hx)
  · rw [hvars, List.append_nil, hfn]; exact rfl
end
end Go.Ab
end
section
namespace Go.Ab.Mq
open Go.Proofs Go.Ab Go.Ab.Mk
open Classical

/-! The closed facts. -/
def fu : Lv := .param (ByteArray.mk #[117])
def f1 : Lv := .succ .zero
def fm : Lv := .max fu f1
def fi : Lv := .imax f1 fu
theorem good_fu : GoodL fu := ⟨fun s hs => by
  simp only [fu, Lv.pars, List.mem_singleton] at hs
  subst hs
  exact ⟨by decide, by decide⟩, by decide⟩
theorem good_fm : GoodL fm := ⟨fun s hs => by
  simp only [fm, f1, fu, Lv.pars, List.append_nil, List.mem_singleton] at hs
  subst hs
  exact ⟨by decide, by decide⟩, by decide⟩
theorem good_fi : GoodL fi := ⟨fun s hs => by
  simp only [fi, f1, fu, Lv.pars, List.nil_append, List.mem_singleton] at hs
  subst hs
  exact ⟨by decide, by decide⟩, by decide⟩
theorem fact1 : decide (fu.Leq fm) = true := decide_eq_true fun v => Nat.le_max_left _ _
theorem fact2 : decide (fm.Leq fu) = false := decide_eq_false fun h => by
  have := h fun _ => 0
  simp [fm, f1, fu, Lv.val] at this
theorem fi_val (v : ByteArray → Nat) : fi.val v = fu.val v := by
  show (if fu.val v = 0 then 0 else Nat.max 1 (fu.val v)) = fu.val v
  by_cases h : fu.val v = 0
  · rw [if_pos h]; exact h.symm
  · rw [if_neg h]; exact Nat.max_eq_right (by omega)
theorem fact3 : (decide (fi.Leq fu) && decide (fu.Leq fi)) = true := by
  rw [decide_eq_true (p := fi.Leq fu) fun v => Nat.le_of_eq (fi_val v), decide_eq_true (p := fu.Leq fi) fun v => Nat.le_of_eq (fi_val v).symm]
  rfl
theorem fact4 : decide (fi.Leq fm) = true := decide_eq_true fun v => by rw [fi_val]; exact Nat.le_max_left _ _
theorem fact5 : rworthV [ByteArray.mk #[117]] [4] fm = 4 := by
  simp only [fm, f1, fu, rworthV, pval, beq_self_eq_true, if_true]
  rfl
theorem levelFacts_law (σ : Sto) : ∃ σ', lim Mq.C 8 [] σ = some (.ret [(.bool true, false)], σ') := by
  have h1 := lim_ext (C := Mq.C) (f := 13) (s := lim Mk.C 13) (by kernel_rfl) (leq_law good_fu good_fm σ)
  have h2 := lim_ext (C := Mq.C) (f := 13) (s := lim Mk.C 13) (by kernel_rfl) (leq_law good_fm good_fu σ)
  have h3 := lim_ext (C := Mq.C) (f := 14) (s := lim Mk.C 14) (by kernel_rfl) (same_law good_fi good_fu σ)
  have h4 := lim_ext (C := Mq.C) (f := 13) (s := lim Mk.C 13) (by kernel_rfl) (leq_law good_fi good_fm σ)
  have h5 := lim_ext (C := Mq.C) (f := 15) (s := lim Mk.C 15) (by kernel_rfl) (print_law σ fm (by simp [printL, fm]) (by decide))
  have h6 := lim_ext (C := Mq.C) (f := 12) (s := lim Mk.C 12) (by kernel_rfl) (worth_law (ps := [ByteArray.mk #[117]]) (ns := [4]) rfl (by decide) (σ ++ [bcell σ.length true (printL fm)]) fm true true)
  rw [fact1] at h1
  rw [fact2] at h2
  rw [fact3] at h3
  rw [fact4] at h4
  rw [fact5] at h6
  refine ⟨σ ++ [bcell σ.length true (printL fm)], levelFacts_lim (n := 0) ?_⟩
  unfold levelFacts levelFactsF
  refine (callK_ret1 h1).trans ?_
  refine (callK_ret1 h2).trans ?_
  refine (callK_ret1 h3).trans ?_
  refine (callK_ret1 h4).trans ?_
  refine (callK_ret1 h5).trans ?_
  refine (callK_ret1 h6).trans ?_
  have es : ba (printL fm) = ByteArray.mk #[40, 109, 97, 120, 32, 117, 32, 40, 115, 32, 48, 41, 41] := rfl
  simp only [List.getD_cons_zero, V.asBool, V.asStr, V.asInt, if_true, Option.bind_some, cond_true, Bool.not_false, es, beq_self_eq_true]

/-! One of the script. -/
theorem limitV_ok {n : Int} (h1 : -(2 ^ 63) ≤ n) (h2 : n < 2 ^ 63) : 0 ≤ limitV n ∧ limitV n ≤ 5 := by
  unfold limitV
  by_cases hn : n < 0
  · rw [decide_eq_true hn, cond_true]
    have e1 : IntKind.wrap .i64 (n + 1) = n + 1 := by
      unfold IntKind.wrap
      simp [IntKind.bits, IntKind.signed] <;> omega
    have e2 : IntKind.wrap .i64 (0 - (n + 1)) = 0 - (n + 1) := by
      unfold IntKind.wrap
      simp [IntKind.bits, IntKind.signed] <;> omega
    rw [e1, e2]
    have h3 := Int.tmod_nonneg (a := 0 - (n + 1)) 6 (by omega)
    have h4 := Int.tmod_lt_of_pos (0 - (n + 1)) (b := 6) (by omega)
    omega
  · rw [decide_eq_false hn, cond_false]
    have h3 := Int.tmod_nonneg (a := n) 6 (by omega)
    have h4 := Int.tmod_lt_of_pos n (b := 6) (by omega)
    omega
theorem wrap_in (n : Int) : -(2 ^ 63) ≤ IntKind.wrap .i64 n ∧ IntKind.wrap .i64 n < 2 ^ 63 := by
  unfold IntKind.wrap
  simp [IntKind.bits, IntKind.signed]
  split <;> omega
theorem pval_in {M : Int} (hM : 0 ≤ M) (s : ByteArray) : ∀ (ps : List ByteArray) (ns : List Int), (∀ n ∈ ns, 0 ≤ n ∧ n ≤ M) → 0 ≤ pval s ps ns ∧ pval s ps ns ≤ M
  | [], ns, _ => by cases ns <;> exact ⟨Int.le_refl _, hM⟩
  | p :: ps, [], _ => ⟨Int.le_refl _, hM⟩
  | p :: ps, n :: ns, h => by
    simp only [pval]
    split
    · exact h n (List.mem_cons_self ..)
    · exact pval_in hM s ps ns fun m hm => h m (List.mem_cons_of_mem _ hm)
/-- Under numbers that are no less than nought a level is worth what it is worth. -/
theorem worth_val {l : Lv} {ps : List ByteArray} {ns : List Int} (h : ∀ n ∈ ns, 0 ≤ n ∧ n ≤ 5) (hs : l.size < 2 ^ 50) : rworthV ps ns l = ((l.val fun q => (pval q ps ns).toNat : Nat) : Int) := by
  have hp := fun q => pval_in (by decide) q ps ns h
  have := sucs_size l
  exact rworth_val (M := 5) (fun s _ => by have := hp s; omega) (fun s _ => by have := hp s; omega) (by omega)
theorem uncellW (l : Lv) : V.agg [V.cell (.agg [.int .i64 l.kind, .str l.name, .slice 3 31 l.args]) 0, V.cell (.agg [.int .i64 l.kind, .str l.name, .slice 3 31 l.args]) 1, V.cell (.agg [.int .i64 l.kind, .str l.name, .slice 3 31 l.args]) 2] = V.agg [.int .i64 l.kind, .str l.name, .slice 3 31 l.args] := rfl

theorem levelWorthy_step (rec0 : List (List V) → V → Int → Sto → Option Res) {L : List OpV} {i : Nat} (hlt : i < L.length) (hb : L.length < 2 ^ 60) (hs : L[i].s.size < 2 ^ 61) (ht : L[i].t.size < 2 ^ 61)
    (ha : -(2 ^ 63) ≤ L[i].a ∧ L[i].a < 2 ^ 63) (hbb : -(2 ^ 63) ≤ L[i].b ∧ L[i].b < 2 ^ 63) (σ : Sto) :
    ∃ σ', levelWorthys0 (lim Mq.C) rec0 (L.map OpV.enc) (.bool true) i σ = rec0 (L.map OpV.enc) (.bool true) ((i + 1 : Nat) : Int) σ' := by
  have hget : (L.map OpV.enc).getD (Int.toNat (i : Int)) [] = L[i].enc := by simp [hlt]
  generalize L[i] = o at hs ht ha hbb hget
  have ho : o.enc = [.int .i64 o.k, .str o.s, .str o.t, .str o.u, .int .i64 o.a, .int .i64 o.b] := rfl
  have hbig : decide ((i : Int) < 1152921504606846976) = true := by simp; omega
  obtain ⟨σ1, h1⟩ := parseLevel_law o.s hs σ
  obtain ⟨σ3, h2⟩ := parseLevel_law o.t ht (σ ++ σ1)
  generalize σ ++ σ1 ++ σ3 = σ2 at h2
  have h1 := lim_ext (C := Mq.C) (f := 9) (s := lim Mk.C 9) (by kernel_rfl) h1
  have h2 := lim_ext (C := Mq.C) (f := 9) (s := lim Mk.C 9) (by kernel_rfl) h2
  have hg : ∀ {c : Cell} {cs : List Cell}, (c :: cs).getD 0 cellD = c := fun {_ _} => rfl
  have hg1 : ∀ {c d : Cell} {cs : List Cell}, (c :: d :: cs).getD 1 cellD = d := fun {_ _ _} => rfl
  have v1 : ∀ {a b : V} {cs : List V}, (a :: b :: cs).getD 1 V.any = b := fun {_ _ _} => rfl
  have v2 : ∀ {a b c : V} {cs : List V}, (a :: b :: c :: cs).getD 2 V.any = c := fun {_ _ _ _} => rfl
  have v4 : ∀ {a b c d e : V} {cs : List V}, (a :: b :: c :: d :: e :: cs).getD 4 V.any = e := fun {_ _ _ _ _ _} => rfl
  have v5 : ∀ {a b c d e f : V} {cs : List V}, (a :: b :: c :: d :: e :: f :: cs).getD 5 V.any = f := fun {_ _ _ _ _ _ _} => rfl
  have f3 : ∀ l : Lv, V.fits (.agg [.int .i64 l.kind, .str l.name, .slice 3 31 l.args]) true 3 = true := fun _ => rfl
  have f2 : ∀ x y : Int, V.fits (.agg [.int .i64 x, .int .i64 y]) true 2 = true := fun _ _ => rfl
  have fi : ∀ x : Int, V.fits (.int .i64 x) false 1 = true := fun _ => rfl
  have c0 : ∀ x y : Int, V.cell (.agg [.int .i64 x, .int .i64 y]) 0 = .int .i64 x := fun _ _ => rfl
  have hw := wrap_succ (show i < 2 ^ 61 by omega)
  unfold levelWorthys0
  rw [List.length_map, d0, dlt hlt, hbig, hget, ho]
  simp only [cond_true, Bool.and_self, V.asBool, V.asInt, V.asStr, if_true, grd, Option.bind_some, v1, v2, v4, v5, callK_ret2 h1, hg, hg1, f3, f2, callK_ret2 h2, c0, uncellW, hw]
  by_cases e1 : (parseV o.s).2.1 = 0
  case neg =>
    have : ((parseV o.s).2.1 != (0 : Int)) = true := by simpa using e1
    rw [this, cond_true]; exact ⟨_, rfl⟩
  have e1' : ((parseV o.s).2.1 != (0 : Int)) = false := by simpa using e1
  rw [e1', cond_false]
  by_cases e2 : (parseV o.t).2.1 = 0
  case neg =>
    have : ((parseV o.t).2.1 != (0 : Int)) = true := by simpa using e2
    rw [this, cond_true]; exact ⟨_, rfl⟩
  have e2' : ((parseV o.t).2.1 != (0 : Int)) = false := by simpa using e2
  rw [e2', cond_false]
  by_cases z1 : (o.s.size : Int) > 300
  · rw [decide_eq_true z1, cond_true]; exact ⟨_, rfl⟩
  rw [decide_eq_false z1, cond_false]
  by_cases z2 : (o.t.size : Int) > 300
  · rw [decide_eq_true z2, cond_true]; exact ⟨_, rfl⟩
  rw [decide_eq_false z2, cond_false]
  obtain ⟨px, zs, nx, _⟩ := parseV_ok e1
  obtain ⟨_, zt, _, _⟩ := parseV_ok e2
  have ns := parse_named o.s
  have nt := parse_named o.t
  generalize (parseV o.s).1 = x at zs ns px nx ⊢
  generalize (parseV o.t).1 = y at zt nt ⊢
  have ly := rparamsV_length y []
  have hx : lim Mk.C 10 [(.agg [.int .i64 y.kind, .str y.name, .slice 3 31 y.args], false), (.slice 1 9 [], true)] σ2 = some (.ret [(.slice 1 9 (strs (rparamsV y [])), true)], σ2) := rparams_law σ2 y [] (by simp; omega)
  have hx := lim_ext (C := Mq.C) (f := 10) (s := lim Mk.C 10) (by kernel_rfl) hx
  have hy := lim_ext (C := Mq.C) (f := 10) (s := lim Mk.C 10) (by kernel_rfl) (rparams_law σ2 x (rparamsV y []) (by simp at ly; omega))
  have hsl : V.asSlice (.slice 1 9 (strs (rparamsV x (rparamsV y [])))) 1 9 = some (strs (rparamsV x (rparamsV y []))) := rfl
  simp only [callK_ret1 hx, hg, callK_ret1 hy, hsl, strs_length, Option.bind_some, Bool.and_self, cond_true]
  by_cases hP : ((rparamsV x (rparamsV y [])).length : Int) > 6
  · rw [decide_eq_true hP, cond_true]; exact ⟨_, rfl⟩
  rw [decide_eq_false hP, cond_false]
  have big : 300 ≤ maxLen := by decide
  have gx : GoodL x := ⟨fun n hn => by have := ns n hn; exact ⟨this.pos, Nat.le_trans this.few (by omega)⟩, by omega⟩
  have gy : GoodL y := ⟨fun n hn => by have := nt n hn; exact ⟨this.pos, Nat.le_trans this.few (by omega)⟩, by omega⟩
  have q11 : ∀ n, lim Mq.C 11 [(.int .i64 n, false)] σ2 = some (.ret [(.int .i64 (limitV n), false)], σ2) := fun n => lim_ext (C := Mq.C) (f := 11) (s := lim Mk.C 11) (by kernel_rfl) (limit_law n σ2)
  have m1 := limitV_ok ha.1 ha.2
  have m2 := limitV_ok hbb.1 hbb.2
  have m3 := limitV_ok (wrap_in (o.a + o.b)).1 (wrap_in (o.a + o.b)).2
  simp only [callK_ret1 (q11 _), hg, fi, Bool.and_self, cond_true, Option.bind_some]
  generalize limitV o.a = n1 at m1
  generalize limitV o.b = n2 at m2
  generalize limitV (IntKind.wrap .i64 (o.a + o.b)) = n3 at m3
  let ps : List ByteArray := [ByteArray.mk #[117], ByteArray.mk #[118], ByteArray.mk #[119]]
  have hns : ∀ n ∈ [n1, n2, n3], 0 ≤ n ∧ n ≤ 5 := by
    intro n hn
    simp only [List.mem_cons, List.not_mem_nil, or_false] at hn
    rcases hn with rfl | rfl | rfl
    · exact m1
    · exact m2
    · exact m3
  have wx := worth_val (l := x) (ps := ps) hns (by omega)
  have wy := worth_val (l := y) (ps := ps) hns (by omega)
  have q12 : ∀ l : Lv, lim Mq.C 12 [(.agg [.int .i64 l.kind, .str l.name, .slice 3 31 l.args], false), (.slice 1 9 [[.str (ByteArray.mk #[117])], [.str (ByteArray.mk #[118])], [.str (ByteArray.mk #[119])]], false), (.slice 1 3 [[.int .i64 n1], [.int .i64 n2], [.int .i64 n3]], false)] σ2 = some (.ret [(.int .i64 (rworthV ps [n1, n2, n3] l), false)], σ2) :=
    fun l => lim_ext (C := Mq.C) (f := 12) (s := lim Mk.C 12) (by kernel_rfl) (worth_law (ps := ps) (ns := [n1, n2, n3]) rfl (by decide) σ2 l false false)
  have q13 : ∀ {a b : Lv}, GoodL a → GoodL b → lim Mq.C 13 [(.agg [.int .i64 a.kind, .str a.name, .slice 3 31 a.args], false), (.agg [.int .i64 b.kind, .str b.name, .slice 3 31 b.args], false)] σ2 = some (.ret [(.bool (decide (a.Leq b)), false)], σ2) :=
    fun ga gb => lim_ext (C := Mq.C) (f := 13) (s := lim Mk.C 13) (by kernel_rfl) (leq_law ga gb σ2)
  have q14 : ∀ {a b : Lv} (σ : Sto), GoodL a → GoodL b → lim Mq.C 14 [(.agg [.int .i64 a.kind, .str a.name, .slice 3 31 a.args], false), (.agg [.int .i64 b.kind, .str b.name, .slice 3 31 b.args], false)] σ = some (.ret [(.bool (decide (a.Leq b) && decide (b.Leq a)), false)], σ) :=
    fun σ ga gb => lim_ext (C := Mq.C) (f := 14) (s := lim Mk.C 14) (by kernel_rfl) (same_law ga gb σ)
  have q15 := lim_ext (C := Mq.C) (f := 15) (s := lim Mk.C 15) (by kernel_rfl) (print_law σ2 x nx (by omega))
  obtain ⟨err, σ4, k1, _, k3⟩ := parse_law2 (ba (printL x)) (by rw [ba_size]; omega) (σ2 ++ [bcell σ2.length true (printL x)])
  have pp := parse_print ns (by omega)
  have hnil : err = .nilIface := k3 (by rw [pp])
  rw [pp, hnil] at k1
  have q16 := lim_ext (C := Mq.C) (f := 16) (s := parseS (lim Mk.C)) (by kernel_rfl) k1
  have hself : decide (x.Leq x) = true := decide_eq_true fun v => Nat.le_refl _
  have q14x := q14 (a := x) (b := x) σ4 gx gx
  rw [hself] at q14x
  refine ⟨σ4, ?_⟩
  simp only [callK_ret1 (q12 _), callK_ret1 (q13 gx gy), callK_ret1 (q13 gy gx), callK_ret1 (q14 σ2 gx gy), hg]
  rw [wx, wy]
  have hin : V.ifaceNil .nilIface = some true := rfl
  have gtf : ∀ a b : Nat, a ≤ b → decide ((a : Int) > (b : Int)) = false := fun a b h => decide_eq_false (by omega)
  have nef : ∀ a b : Nat, a ≤ b → b ≤ a → ((a : Int) != (b : Int)) = false := fun a b h1 h2 => by
    obtain rfl : a = b := by omega
    simp
  by_cases hl : x.Leq y
  · have hl1 := hl fun q => (pval q ps [n1, n2, n3]).toNat
    rw [decide_eq_true hl]
    by_cases hr : y.Leq x
    · have hr1 := hr fun q => (pval q ps [n1, n2, n3]).toNat
      rw [decide_eq_true hr]
      simp only [if_true, cond_true, cond_false, Option.bind_some, Bool.and_self, gtf _ _ hl1, nef _ _ hl1 hr1, beq_self_eq_true, Bool.not_true, callK_ret1 q15, callK_ret2 q16, hg, hg1, f3, uncellW, callK_ret1 q14x, hin]
    · rw [decide_eq_false hr]
      simp only [if_true, cond_true, cond_false, Option.bind_some, Bool.and_self, Bool.and_false, gtf _ _ hl1, beq_self_eq_true, Bool.not_true, callK_ret1 q15, callK_ret2 q16, hg, hg1, f3, uncellW, callK_ret1 q14x, hin]
  · rw [decide_eq_false hl]
    simp only [if_true, cond_true, cond_false, Option.bind_some, Bool.and_self, Bool.false_and, beq_self_eq_true, Bool.not_true, callK_ret1 q15, callK_ret2 q16, hg, hg1, f3, uncellW, callK_ret1 q14x, hin]

theorem levelWorthy_loop (n : Nat) {L : List OpV} (hb : L.length < 2 ^ 60) (hs : ∀ o ∈ L, o.s.size < 2 ^ 61 ∧ o.t.size < 2 ^ 61)
    (hi : ∀ o ∈ L, (-(2 ^ 63) ≤ o.a ∧ o.a < 2 ^ 63) ∧ (-(2 ^ 63) ≤ o.b ∧ o.b < 2 ^ 63)) :
    ∀ (m i : Nat) (σ : Sto), i ≤ L.length → L.length - i < m → ∃ σ', levelWorthyl0 (lim Mq.C) n m (L.map OpV.enc) (.bool true) i σ = some (.ret [(.bool true, false)], σ')
  | 0, i, _, _, hm => by omega
  | m + 1, i, σ, hi', hm => by
    by_cases hlt : i < L.length
    · obtain ⟨σ1, h1⟩ := levelWorthy_step (levelWorthyl0 (lim Mq.C) n m) hlt hb (hs _ (List.getElem_mem hlt)).1 (hs _ (List.getElem_mem hlt)).2 (hi _ (List.getElem_mem hlt)).1 (hi _ (List.getElem_mem hlt)).2 σ
      obtain ⟨σ3, h3⟩ := levelWorthy_loop n hb hs hi m (i + 1) σ1 (by omega) (by omega)
      exact ⟨σ3, h1.trans h3⟩
    · show ∃ σ', levelWorthys0 (lim Mq.C) (levelWorthyl0 (lim Mq.C) n m) (L.map OpV.enc) (.bool true) i σ = _
      unfold levelWorthys0
      rw [List.length_map, dnlt hlt]
      exact ⟨σ, rfl⟩
theorem levelWorthy_law (L : List OpV) (hb : L.length < 2 ^ 60) (hs : ∀ o ∈ L, o.s.size < 2 ^ 61 ∧ o.t.size < 2 ^ 61)
    (hi : ∀ o ∈ L, (-(2 ^ 63) ≤ o.a ∧ o.a < 2 ^ 63) ∧ (-(2 ^ 63) ≤ o.b ∧ o.b < 2 ^ 63)) (σ : Sto) :
    ∃ σ', lim Mq.C 5 [(.slice 6 25 (L.map OpV.enc), false)] σ = some (.ret [(.bool true, false)], σ') := by
  obtain ⟨σ1, h1⟩ := levelFacts_law σ
  obtain ⟨σ', h⟩ := levelWorthy_loop (L.length + 1) hb hs hi (L.length + 1) 0 σ1 (by omega) (by omega)
  refine ⟨σ', levelWorthy_lim (n := L.length + 1) ?_⟩
  unfold levelWorthy levelWorthyF
  rw [callK_ret1 h1]
  exact h
end Go.Ab.Mq
end
section
namespace Go.Proofs
open Go.RowKit Go.Ab
set_option maxHeartbeats 1000000 in
set_option maxRecDepth 100000 in
theorem Mk.copyCheck_used (b : Nat) (w : World) (h0 : w.cell? ⟨b, 0, none⟩ = some (.pointer (some ⟨b, 0, none⟩))) :
    Calls Tryd.prog 57 #[.pointer (some ⟨b, 0, none⟩)] w fun e w' => e = .returned (.tuple #[]) ∧ w' = w := by
  obtain ⟨j, hj, _⟩ := Option.map_eq_some_iff.1 (show (Tryd.prog.info? 63).map (·.size) = some 2 by kernel_rfl)
  go_enter Tryd.func57, Tryd.ntmps57
  go_wp2
  rw [Lib.run_neq_ptr_same w _ Tryd.underlying60 hj]
  go_wp2
  go_end0
  exact ⟨rfl, rfl⟩
set_option maxHeartbeats 1000000 in
set_option maxRecDepth 100000 in
theorem Mk.copyCheck_fresh (b : Nat) (w : World) (h0 : w.cell? ⟨b, 0, none⟩ = some (.pointer none)) (hsh : w.shape? b = some (63, 2)) (hfz : w.frozen? ⟨b, 0, none⟩ = false) :
    Calls Tryd.prog 57 #[.pointer (some ⟨b, 0, none⟩)] w fun e w' => e = .returned (.tuple #[]) ∧ w' = w.setCell ⟨b, 0, none⟩ (.pointer (some ⟨b, 0, none⟩)) := by
  obtain ⟨j, hj, hjs⟩ := Option.map_eq_some_iff.1 (show (Tryd.prog.info? 63).map (·.size) = some 2 by kernel_rfl)
  go_enter Tryd.func57, Tryd.ntmps57
  go_wp2
  rw [Lib.run_to_unsafe w ⟨b, 0, none⟩ Tryd.underlying60 Tryd.underlying98 hj (by rw [hjs]; decide) hsh (Nat.zero_lt_succ 1)]
  simp only [Result.andThen]
  rw [Oper.upon_value]
  go_wp2
  rw [run_callFunc_extern Tryd.func67 (by kernel_rfl) (by kernel_rfl) (by kernel_rfl) (e := Extern.AbiNoEscape.same) (by kernel_rfl)]
  rw [Lib.run_noEscape]
  simp only [Result.andThen]
  rw [Oper.upon_value]
  go_wp2
  rw [Lib.run_from_unsafe w ⟨b, 0, none⟩ Tryd.underlying98 Tryd.underlying60 hj hsh (by kernel_rfl)]
  simp only [Result.andThen]
  rw [Oper.upon_value]
  go_wp2
  go_end0
  exact ⟨rfl, rfl⟩
set_option maxHeartbeats 1000000 in
set_option maxRecDepth 100000 in
theorem Mk.bldString (b g cap cells : Nat) (l : List UInt8) (w : World) (h0 : l ≠ []) (hcap : l.length ≤ cap) (hlc : l.length ≤ cells) (_ : cap ≤ cells) (c1 : w.cell? ⟨b, 1, none⟩ = some (.slice (some ⟨g, 0, none⟩) l.length cap)) (hsh : w.shape? g = some (5, cells)) (h63 : l.length ≤ 9223372036854775807)
    (hcell : ∀ j x, l[j]? = some x → w.cell? ⟨g, j, none⟩ = some (.int .u8 x.toNat)) :
    Calls Tryd.prog 31 #[.pointer (some ⟨b, 0, none⟩)] w fun en w' => en = .returned (.string ⟨l.toArray⟩) ∧ w' = w.drew.freeze ⟨g, 0, none⟩ l.length := by
  have hl0 : l.length ≠ 0 := by simpa using h0
  have c1' : w.drew.cell? ⟨b, 1, none⟩ = some (.slice (some ⟨g, 0, none⟩) l.length cap) := c1
  have hSD : (Builtin.unsafeSliceData_ #[61] 88 #[.slice (some ⟨g, 0, none⟩) l.length cap]).run Tryd.prog w.drew = .ok (.pointer (some ⟨g, 0, none⟩)) w.drew :=
    Lib.run_unsafeSliceData_row _ _ _ _ _ _ (by omega)
  have hUS : (Builtin.unsafeString_ #[88, 3] 9 #[.pointer (some ⟨g, 0, none⟩), .int .i64 l.length]).run Tryd.prog w.drew = .ok (.string ⟨l.toArray⟩) (w.drew.freeze ⟨g, 0, none⟩ l.length) := by
    refine Lib.run_unsafeString_row w.drew 88 3 9 5 Tryd.underlying88 (by kernel_rfl) g cells hsh l h0 hlc h63 ?_
    intro j x hx
    have := hcell j x hx
    rw [add_plain, Nat.zero_add]
    exact this
  go_enter Tryd.func31, Tryd.ntmps31
  go_wp2
  go_region
  all_goals (go_wp2; go_ret; exact ⟨rfl, rfl⟩)
end Go.Proofs
end
