/- AbMk0: printed by program: functions of the program, their code told as plain Lean, and the equations. -/
import Derived.Test.YtcpdcpgblcapeaaDoorAbCtx
import Derived.Test.YtcpdcpgblcapeaaDoorAbExt
import Derived.Test.YtcpdcpgblcapeaaDoorProg
set_option linter.unusedSimpArgs false
set_option linter.unusedVariables false
set_option linter.deprecated false
set_option maxRecDepth 100000
namespace Go.Ab.Mk
open Go.Proofs Go.Ab
def TL : List (TypeId × TI) := [
  (0, ⟨(.tuple 0), 1, 0, [V.any]⟩),
  (3, ⟨(.int .i64), 1, 8, [(V.int .i64 (0 : Int))]⟩),
  (4, ⟨.bool, 1, 1, [(V.bool false)]⟩),
  (5, ⟨(.int .u8), 1, 1, [(V.int .u8 (0 : Int))]⟩),
  (9, ⟨.string, 1, 16, [(V.str (ByteArray.mk #[]))]⟩),
  (20, ⟨.iface, 1, 16, [V.nilIface]⟩),
  (29, ⟨(.slice 31), 1, 24, [(V.slice 3 31 [])]⟩),
  (31, ⟨(.struct [(0, 3), (1, 9), (2, 29)]), 3, 48, [(V.int .i64 (0 : Int)), (V.str (ByteArray.mk #[])), (V.slice 3 31 [])]⟩),
  (33, ⟨(.struct [(0, 3), (1, 3)]), 2, 16, [(V.int .i64 (0 : Int)), (V.int .i64 (0 : Int))]⟩),
  (36, ⟨(.slice 9), 1, 24, [(V.slice 1 9 [])]⟩),
  (39, ⟨(.slice 3), 1, 24, [(V.slice 1 3 [])]⟩),
  (44, ⟨.iface, 1, 16, [V.nilIface]⟩),
  (51, ⟨(.pointer 53), 1, 8, [V.nilp]⟩),
  (53, ⟨(.struct [(0, 9), (1, 3), (2, 33)]), 4, 40, [(V.str (ByteArray.mk #[])), (V.int .i64 (0 : Int)), (V.int .i64 (0 : Int)), (V.int .i64 (0 : Int))]⟩),
  (60, ⟨(.pointer 63), 1, 8, [V.nilp]⟩),
  (61, ⟨(.slice 5), 1, 24, [(V.slice 1 5 [])]⟩),
  (63, ⟨(.struct [(0, 60), (1, 61)]), 2, 32, [V.nilp, (V.slice 1 5 [])]⟩),
  (66, ⟨(.pointer 33), 1, 8, [V.nilp]⟩),
  (69, ⟨(.pointer 90), 1, 8, [V.nilp]⟩),
  (73, ⟨.func, 1, 8, [V.nilFunc]⟩),
  (76, ⟨(.tuple 3), 1, 0, [V.any]⟩),
  (90, ⟨(.struct [(0, 9), (1, 3), (2, 9), (3, 3)]), 4, 48, [(V.str (ByteArray.mk #[])), (V.int .i64 (0 : Int)), (V.str (ByteArray.mk #[])), (V.int .i64 (0 : Int))]⟩),
  (97, ⟨.func, 1, 8, [V.nilFunc]⟩)]
noncomputable def parseLevelH : Hints := { keep := fun i => [], steal := [], esc := [14], ownres := [], lp := [2, 3, 5, 6, 19], ep := [], roots := [(2, 2), (3, 3), (5, 5), (6, 6), (19, 6)], ord := fun i => if i = 7 then [0, 1, 2, 3] else if i = 8 then [0, 1, 2, 3] else [], own := [] }
noncomputable def parseLevelC : Code := Tryd.f9.body.getD .skip
noncomputable def parseLevelD : FDef := ⟨Tryd.f9, parseLevelC, parseLevelH⟩
noncomputable def rparamsH : Hints := { keep := fun i => if i = 0 then [1, 2, 6] else [], steal := [16, 21, 34, 36], esc := [], ownres := [(35, 0)], lp := [2, 7, 10, 17, 23, 29], ep := [32], roots := [(2, 2), (7, 2), (10, 2), (17, 2), (23, 2), (29, 2)], ord := fun i => [], own := [1] }
noncomputable def rparamsC : Code := Tryd.f10.body.getD .skip
noncomputable def rparamsD : FDef := ⟨Tryd.f10, rparamsC, rparamsH⟩
noncomputable def limitH : Hints := { keep := fun i => [], steal := [], esc := [], ownres := [], lp := [], ep := [], roots := [], ord := fun i => [], own := [] }
noncomputable def limitC : Code := Tryd.f11.body.getD .skip
noncomputable def limitD : FDef := ⟨Tryd.f11, limitC, limitH⟩
noncomputable def worthH : Hints := { keep := fun i => [], steal := [], esc := [], ownres := [], lp := [3, 9, 13, 23, 30, 40, 49, 61], ep := [15, 25, 32, 42, 51, 68], roots := [(3, 3), (9, 3), (13, 3), (23, 3), (30, 3), (40, 3), (49, 3), (61, 3)], ord := fun i => if i = 5 then [0, 1, 2, 3, 4, 5, 7, 8, 9, 10, 11, 12, 6, 13, 14, 15] else [], own := [] }
noncomputable def worthC : Code := Tryd.f12.body.getD .skip
noncomputable def worthD : FDef := ⟨Tryd.f12, worthC, worthH⟩
noncomputable def printH : Hints := { keep := fun i => [], steal := [], esc := [3], ownres := [], lp := [1], ep := [], roots := [(1, 1)], ord := fun i => [], own := [] }
noncomputable def printC : Code := Tryd.f15.body.getD .skip
noncomputable def printD : FDef := ⟨Tryd.f15, printC, printH⟩
noncomputable def paramsH : Hints := { keep := fun i => [], steal := [], esc := [3], ownres := [], lp := [1], ep := [], roots := [(1, 1)], ord := fun i => [], own := [] }
noncomputable def paramsC : Code := Tryd.f17.body.getD .skip
noncomputable def paramsD : FDef := ⟨Tryd.f17, paramsC, paramsH⟩
noncomputable def sameNamesH : Hints := { keep := fun i => if i = 0 then [0, 1, 5] else [], steal := [], esc := [], ownres := [], lp := [], ep := [19, 23], roots := [], ord := fun i => if i = 6 then [0, 1, 2, 3, 4, 5, 6, 7, 8] else [], own := [] }
noncomputable def sameNamesC : Code := Tryd.f18.body.getD .skip
noncomputable def sameNamesD : FDef := ⟨Tryd.f18, sameNamesC, sameNamesH⟩
noncomputable def rprintH : Hints := { keep := fun i => [], steal := [], esc := [], ownres := [], lp := [1, 4, 10, 19, 21, 27, 34], ep := [12, 29, 36], roots := [(1, 1), (4, 1), (10, 1), (19, 1), (21, 1), (27, 1), (34, 1)], ord := fun i => if i = 11 then [0, 1, 2, 3, 4, 5, 6, 10, 11, 12, 13, 7, 8, 9, 14, 15, 16, 17] else [], own := [] }
noncomputable def rprintC : Code := Tryd.f19.body.getD .skip
noncomputable def rprintD : FDef := ⟨Tryd.f19, rprintC, rprintH⟩
noncomputable def substH : Hints := { keep := fun i => if i = 0 then [1, 2, 6, 8, 28, 29, 30] else [], steal := [35], esc := [], ownres := [], lp := [3, 6, 8, 10, 11, 15, 26, 27, 34, 42], ep := [22, 32], roots := [(3, 3), (6, 6), (8, 8), (10, 10), (11, 3), (15, 3), (26, 8), (27, 3), (34, 8), (42, 8)], ord := fun i => if i = 11 then [0, 1, 2, 3, 4, 5, 6, 7, 8, 9] else [], own := [] }
noncomputable def substC : Code := Tryd.f20.body.getD .skip
noncomputable def substD : FDef := ⟨Tryd.f20, substC, substH⟩
noncomputable def rsubstH : Hints := { keep := fun i => if i = 2 then [1, 2, 3, 6, 8, 9] else if i = 0 then [1, 2, 3, 6, 7] else [], steal := [35, 44], esc := [], ownres := [], lp := [3, 6, 8, 10, 23, 31, 33, 37, 43, 45, 55], ep := [21, 28, 48], roots := [(3, 3), (6, 6), (8, 8), (10, 3), (23, 3), (31, 3), (33, 3), (37, 3), (43, 8), (45, 3), (55, 8)], ord := fun i => if i = 5 then [0, 1, 2, 3, 4, 5, 6] else if i = 12 then [0, 1, 2, 3, 4, 5, 6, 7, 8, 9, 10, 11, 12, 13] else [], own := [] }
noncomputable def rsubstC : Code := Tryd.f21.body.getD .skip
noncomputable def rsubstD : FDef := ⟨Tryd.f21, rsubstC, rsubstH⟩
noncomputable def sameLevelH : Hints := { keep := fun i => if i = 0 then [2, 3, 5] else [], steal := [], esc := [], ownres := [], lp := [2, 3, 7, 9, 13, 15, 20, 23, 29, 35, 40], ep := [38, 43], roots := [(2, 2), (3, 3), (7, 2), (9, 3), (13, 2), (15, 3), (20, 2), (23, 3), (29, 2), (35, 2), (40, 3)], ord := fun i => if i = 6 then [0, 1, 2, 3, 4, 5, 6, 7, 8, 9, 10, 11] else [], own := [] }
noncomputable def sameLevelC : Code := Tryd.f22.body.getD .skip
noncomputable def sameLevelD : FDef := ⟨Tryd.f22, sameLevelC, sameLevelH⟩
noncomputable def rworthH : Hints := { keep := fun i => if i = 1 then [1, 2, 3, 7] else [], steal := [], esc := [], ownres := [], lp := [3, 10, 16, 36, 43, 50, 57], ep := [18, 34, 41, 45, 52], roots := [(3, 3), (10, 3), (16, 3), (36, 3), (43, 3), (50, 3), (57, 3)], ord := fun i => if i = 10 then [0, 1, 2, 3, 4, 5, 6] else [], own := [] }
noncomputable def rworthC : Code := Tryd.f23.body.getD .skip
noncomputable def rworthD : FDef := ⟨Tryd.f23, rworthC, rworthH⟩
noncomputable def rlevelH : Hints := { keep := fun i => [], steal := [68, 70, 79], esc := [], ownres := [], lp := [2, 11, 69, 75, 78, 84], ep := [], roots := [(2, 2), (11, 11), (69, 11), (75, 11), (78, 11), (84, 11)], ord := fun i => if i = 26 then [0, 1, 2, 3, 4, 5, 6, 7] else if i = 28 then [0, 1, 2, 3, 4, 5, 6, 7] else [], own := [] }
noncomputable def rlevelC : Code := Tryd.f25.body.getD .skip
noncomputable def rlevelD : FDef := ⟨Tryd.f25, rlevelC, rlevelH⟩
noncomputable def rdoneH : Hints := { keep := fun i => [], steal := [], esc := [], ownres := [], lp := [2], ep := [], roots := [(2, 2)], ord := fun i => [], own := [] }
noncomputable def rdoneC : Code := Tryd.f26.body.getD .skip
noncomputable def rdoneD : FDef := ⟨Tryd.f26, rdoneC, rdoneH⟩
noncomputable def amongH : Hints := { keep := fun i => if i = 0 then [0, 1, 5] else [], steal := [], esc := [], ownres := [], lp := [], ep := [14], roots := [], ord := fun i => [], own := [] }
noncomputable def amongC : Code := Tryd.f27.body.getD .skip
noncomputable def amongD : FDef := ⟨Tryd.f27, amongC, amongH⟩
noncomputable def indexH : Hints := { keep := fun i => if i = 0 then [0, 1, 7, 8] else [], steal := [], esc := [], ownres := [], lp := [], ep := [14], roots := [], ord := fun i => [], own := [] }
noncomputable def indexC : Code := Tryd.f28.body.getD .skip
noncomputable def indexD : FDef := ⟨Tryd.f28, indexC, indexH⟩
noncomputable def eachH : Hints := { keep := fun i => if i = 0 then [1, 14, 15, 16] else [], steal := [], esc := [], ownres := [], lp := [2, 5, 6, 10, 13], ep := [18], roots := [(2, 2), (5, 5), (6, 2), (10, 2), (13, 2)], ord := fun i => [], own := [] }
noncomputable def eachC : Code := Tryd.f37.body.getD .skip
noncomputable def eachD : FDef := ⟨Tryd.f37, eachC, eachH⟩
noncomputable def params1H : Hints := { keep := fun i => [], steal := [7], esc := [], ownres := [], lp := [], ep := [], roots := [], ord := fun i => [], own := [] }
noncomputable def params1C : Code := Tryd.f38.body.getD .skip
noncomputable def params1D : FDef := ⟨Tryd.f38, params1C, params1H⟩
noncomputable def containsH : Hints := { keep := fun i => [], steal := [], esc := [], ownres := [], lp := [], ep := [], roots := [], ord := fun i => [], own := [] }
noncomputable def containsC : Code := Tryd.f39.body.getD .skip
noncomputable def containsD : FDef := ⟨Tryd.f39, containsC, containsH⟩
noncomputable def rtokenH : Hints := { keep := fun i => if i = 3 then [0, 5, 6] else if i = 5 then [0, 5, 6, 7, 148, 149, 150, 151, 154, 155, 156, 157, 158, 159, 160, 161, 162, 163, 164, 165, 166] else if i = 0 then [0, 5, 73, 74, 86, 87, 88, 89, 90, 91, 92, 105, 106, 107, 108, 109, 110, 120, 121, 122, 123, 124, 125, 126, 129, 130, 131, 132, 133, 134, 135, 148, 149, 150, 151, 154, 155, 156, 157, 158, 159, 160, 161, 162, 163, 164, 165, 166] else [], steal := [], esc := [], ownres := [], lp := [], ep := [], roots := [], ord := fun i => [], own := [] }
noncomputable def rtokenC : Code := Tryd.f41.body.getD .skip
noncomputable def rtokenD : FDef := ⟨Tryd.f41, rtokenC, rtokenH⟩
noncomputable def isNameH : Hints := { keep := fun i => [], steal := [], esc := [], ownres := [], lp := [], ep := [], roots := [], ord := fun i => [], own := [] }
noncomputable def isNameC : Code := Tryd.f42.body.getD .skip
noncomputable def isNameD : FDef := ⟨Tryd.f42, isNameC, isNameH⟩
noncomputable def rnextH : Hints := { keep := fun i => [], steal := [], esc := [], ownres := [], lp := [], ep := [], roots := [], ord := fun i => [], own := [] }
noncomputable def rnextC : Code := Tryd.f43.body.getD .skip
noncomputable def rnextD : FDef := ⟨Tryd.f43, rnextC, rnextH⟩
noncomputable def rfailH : Hints := { keep := fun i => [], steal := [], esc := [], ownres := [], lp := [], ep := [], roots := [], ord := fun i => [], own := [] }
noncomputable def rfailC : Code := Tryd.f44.body.getD .skip
noncomputable def rfailD : FDef := ⟨Tryd.f44, rfailC, rfailH⟩
noncomputable def rtakeH : Hints := { keep := fun i => [], steal := [], esc := [], ownres := [], lp := [], ep := [], roots := [], ord := fun i => [], own := [] }
noncomputable def rtakeC : Code := Tryd.f45.body.getD .skip
noncomputable def rtakeD : FDef := ⟨Tryd.f45, rtakeC, rtakeH⟩
noncomputable def wstringH : Hints := { keep := fun i => [], steal := [12], esc := [], ownres := [], lp := [], ep := [], roots := [], ord := fun i => [], own := [] }
noncomputable def wstringC : Code := Tryd.f48.body.getD .skip
noncomputable def wstringD : FDef := ⟨Tryd.f48, wstringC, wstringH⟩
noncomputable def wbyteH : Hints := { keep := fun i => [], steal := [11], esc := [], ownres := [], lp := [], ep := [], roots := [], ord := fun i => [], own := [] }
noncomputable def wbyteC : Code := Tryd.f49.body.getD .skip
noncomputable def wbyteD : FDef := ⟨Tryd.f49, wbyteC, wbyteH⟩
noncomputable def nameByteH : Hints := { keep := fun i => [], steal := [], esc := [], ownres := [], lp := [], ep := [], roots := [], ord := fun i => [], own := [] }
noncomputable def nameByteC : Code := Tryd.f55.body.getD .skip
noncomputable def nameByteD : FDef := ⟨Tryd.f55, nameByteC, nameByteH⟩
noncomputable def newScannerH : Hints := { keep := fun i => [], steal := [], esc := [6], ownres := [], lp := [], ep := [], roots := [], ord := fun i => [], own := [] }
noncomputable def newScannerC : Code := Tryd.f34.body.getD .skip
noncomputable def newScannerD : FDef := ⟨Tryd.f34, newScannerC, newScannerH⟩
noncomputable def slevelH : Hints := { keep := fun i => [], steal := [35, 45], esc := [], ownres := [], lp := [2, 3, 25, 28, 31, 34, 40, 41, 44, 50], ep := [], roots := [(2, 2), (3, 3), (25, 3), (28, 3), (31, 3), (34, 3), (40, 3), (41, 3), (44, 3), (50, 3)], ord := fun i => if i = 17 then [0, 1, 2, 3, 4, 5, 6, 7] else if i = 19 then [0, 1, 2, 3, 4, 5, 6, 7] else [], own := [] }
noncomputable def slevelC : Code := Tryd.f35.body.getD .skip
noncomputable def slevelD : FDef := ⟨Tryd.f35, slevelC, slevelH⟩
noncomputable def sendH : Hints := { keep := fun i => [], steal := [], esc := [], ownres := [], lp := [], ep := [], roots := [], ord := fun i => [], own := [] }
noncomputable def sendC : Code := Tryd.f36.body.getD .skip
noncomputable def sendD : FDef := ⟨Tryd.f36, sendC, sendH⟩
noncomputable def sstepH : Hints := { keep := fun i => [], steal := [], esc := [], ownres := [], lp := [], ep := [], roots := [], ord := fun i => if i = 1 then [0, 1, 2, 3, 4, 5, 6, 7, 8, 9] else if i = 4 then [0, 1, 2, 3, 4, 5, 6, 7, 8, 9] else if i = 21 then [0, 1, 2, 3, 4, 5, 6, 7, 8, 9, 10, 11, 12, 13, 14, 15, 16, 17, 18] else [], own := [] }
noncomputable def sstepC : Code := Tryd.f50.body.getD .skip
noncomputable def sstepD : FDef := ⟨Tryd.f50, sstepC, sstepH⟩
noncomputable def sfailH : Hints := { keep := fun i => [], steal := [], esc := [7], ownres := [], lp := [], ep := [], roots := [], ord := fun i => [], own := [] }
noncomputable def sfailC : Code := Tryd.f51.body.getD .skip
noncomputable def sfailD : FDef := ⟨Tryd.f51, sfailC, sfailH⟩
noncomputable def stakeH : Hints := { keep := fun i => [], steal := [], esc := [], ownres := [], lp := [], ep := [], roots := [], ord := fun i => [], own := [] }
noncomputable def stakeC : Code := Tryd.f52.body.getD .skip
noncomputable def stakeD : FDef := ⟨Tryd.f52, stakeC, stakeH⟩
noncomputable def snameH : Hints := { keep := fun i => [], steal := [], esc := [], ownres := [], lp := [], ep := [], roots := [], ord := fun i => [], own := [] }
noncomputable def snameC : Code := Tryd.f53.body.getD .skip
noncomputable def snameD : FDef := ⟨Tryd.f53, snameC, snameH⟩
noncomputable def srunH : Hints := { keep := fun i => if i = 0 then [0, 1, 2] else [], steal := [], esc := [], ownres := [], lp := [], ep := [], roots := [], ord := fun i => [], own := [] }
noncomputable def srunC : Code := Tryd.f58.body.getD .skip
noncomputable def srunD : FDef := ⟨Tryd.f58, srunC, srunH⟩
noncomputable def sblankH : Hints := { keep := fun i => [], steal := [], esc := [], ownres := [], lp := [], ep := [], roots := [], ord := fun i => [], own := [] }
noncomputable def sblankC : Code := Tryd.f59.body.getD .skip
noncomputable def sblankD : FDef := ⟨Tryd.f59, sblankC, sblankH⟩
noncomputable def letterH : Hints := { keep := fun i => [], steal := [], esc := [], ownres := [], lp := [], ep := [], roots := [], ord := fun i => [], own := [] }
noncomputable def letterC : Code := Tryd.f60.body.getD .skip
noncomputable def letterD : FDef := ⟨Tryd.f60, letterC, letterH⟩
noncomputable def snmbH : Hints := { keep := fun i => [], steal := [], esc := [], ownres := [], lp := [], ep := [], roots := [], ord := fun i => [], own := [] }
noncomputable def snmbC : Code := Tryd.f61.body.getD .skip
noncomputable def snmbD : FDef := ⟨Tryd.f61, snmbC, snmbH⟩
noncomputable def digitH : Hints := { keep := fun i => [], steal := [], esc := [], ownres := [], lp := [], ep := [], roots := [], ord := fun i => [], own := [] }
noncomputable def digitC : Code := Tryd.f62.body.getD .skip
noncomputable def digitD : FDef := ⟨Tryd.f62, digitC, digitH⟩
noncomputable def FL : List (FuncId × FDef) := [(9, parseLevelD), (10, rparamsD), (11, limitD), (12, worthD), (15, printD), (17, paramsD), (18, sameNamesD), (19, rprintD), (20, substD), (21, rsubstD), (22, sameLevelD), (23, rworthD), (25, rlevelD), (26, rdoneD), (27, amongD), (28, indexD), (37, eachD), (38, params1D), (39, containsD), (41, rtokenD), (42, isNameD), (43, rnextD), (44, rfailD), (45, rtakeD), (48, wstringD), (49, wbyteD), (55, nameByteD), (34, newScannerD), (35, slevelD), (36, sendD), (50, sstepD), (51, sfailD), (52, stakeD), (53, snameD), (58, srunD), (59, sblankD), (60, letterD), (61, snmbD), (62, digitD)]
noncomputable def C : Ctx := { T := look TL, glob := fun g => if g = 1 then some [V.lit (Value.iface 113 (Value.agg #[Value.pointer (some ⟨2, 44, none⟩)]))] else none, ext := fun f => if f = 57 then some (copyCheckS 63) else if f = 31 then some (bldStringS 63 5) else none, fdef := lookF FL }
theorem typesOk : ∀ t i, C.T t = some i → TOk Tryd.prog t i := look_ok (by kernel_rfl)
theorem ctxOk : CtxOk Tryd.prog C where
  mixed := by kernel_rfl
  T := typesOk
  fdef := by
    refine lookF_ok (P := Tryd.prog) (Q := fun f d => Tryd.prog.funcs[f]? = some d.fn ∧ d.fn.body = some d.code ∧ (∀ (args : Array Value) (w : World), (callFunc f args).run Tryd.prog w = .ok (.enter f args) w)) (L := FL) ?_
    intro p hp
    simp only [FL, List.mem_cons, List.not_mem_nil, or_false] at hp
    rcases hp with rfl | rfl | rfl | rfl | rfl | rfl | rfl | rfl | rfl | rfl | rfl | rfl | rfl | rfl | rfl | rfl | rfl | rfl | rfl | rfl | rfl | rfl | rfl | rfl | rfl | rfl | rfl | rfl | rfl | rfl | rfl | rfl | rfl | rfl | rfl | rfl | rfl | rfl | rfl
    · exact ⟨Tryd.func9, by kernel_rfl, fun args w => Tryd.call9 args w⟩
    · exact ⟨Tryd.func10, by kernel_rfl, fun args w => Tryd.call10 args w⟩
    · exact ⟨Tryd.func11, by kernel_rfl, fun args w => Tryd.call11 args w⟩
    · exact ⟨Tryd.func12, by kernel_rfl, fun args w => Tryd.call12 args w⟩
    · exact ⟨Tryd.func15, by kernel_rfl, fun args w => Tryd.call15 args w⟩
    · exact ⟨Tryd.func17, by kernel_rfl, fun args w => Tryd.call17 args w⟩
    · exact ⟨Tryd.func18, by kernel_rfl, fun args w => Tryd.call18 args w⟩
    · exact ⟨Tryd.func19, by kernel_rfl, fun args w => Tryd.call19 args w⟩
    · exact ⟨Tryd.func20, by kernel_rfl, fun args w => Tryd.call20 args w⟩
    · exact ⟨Tryd.func21, by kernel_rfl, fun args w => Tryd.call21 args w⟩
    · exact ⟨Tryd.func22, by kernel_rfl, fun args w => Tryd.call22 args w⟩
    · exact ⟨Tryd.func23, by kernel_rfl, fun args w => Tryd.call23 args w⟩
    · exact ⟨Tryd.func25, by kernel_rfl, fun args w => Tryd.call25 args w⟩
    · exact ⟨Tryd.func26, by kernel_rfl, fun args w => Tryd.call26 args w⟩
    · exact ⟨Tryd.func27, by kernel_rfl, fun args w => Tryd.call27 args w⟩
    · exact ⟨Tryd.func28, by kernel_rfl, fun args w => Tryd.call28 args w⟩
    · exact ⟨Tryd.func37, by kernel_rfl, fun args w => Tryd.call37 args w⟩
    · exact ⟨Tryd.func38, by kernel_rfl, fun args w => Tryd.call38 args w⟩
    · exact ⟨Tryd.func39, by kernel_rfl, fun args w => Tryd.call39 args w⟩
    · exact ⟨Tryd.func41, by kernel_rfl, fun args w => Tryd.call41 args w⟩
    · exact ⟨Tryd.func42, by kernel_rfl, fun args w => Tryd.call42 args w⟩
    · exact ⟨Tryd.func43, by kernel_rfl, fun args w => Tryd.call43 args w⟩
    · exact ⟨Tryd.func44, by kernel_rfl, fun args w => Tryd.call44 args w⟩
    · exact ⟨Tryd.func45, by kernel_rfl, fun args w => Tryd.call45 args w⟩
    · exact ⟨Tryd.func48, by kernel_rfl, fun args w => Tryd.call48 args w⟩
    · exact ⟨Tryd.func49, by kernel_rfl, fun args w => Tryd.call49 args w⟩
    · exact ⟨Tryd.func55, by kernel_rfl, fun args w => Tryd.call55 args w⟩
    · exact ⟨Tryd.func34, by kernel_rfl, fun args w => Tryd.call34 args w⟩
    · exact ⟨Tryd.func35, by kernel_rfl, fun args w => Tryd.call35 args w⟩
    · exact ⟨Tryd.func36, by kernel_rfl, fun args w => Tryd.call36 args w⟩
    · exact ⟨Tryd.func50, by kernel_rfl, fun args w => Tryd.call50 args w⟩
    · exact ⟨Tryd.func51, by kernel_rfl, fun args w => Tryd.call51 args w⟩
    · exact ⟨Tryd.func52, by kernel_rfl, fun args w => Tryd.call52 args w⟩
    · exact ⟨Tryd.func53, by kernel_rfl, fun args w => Tryd.call53 args w⟩
    · exact ⟨Tryd.func58, by kernel_rfl, fun args w => Tryd.call58 args w⟩
    · exact ⟨Tryd.func59, by kernel_rfl, fun args w => Tryd.call59 args w⟩
    · exact ⟨Tryd.func60, by kernel_rfl, fun args w => Tryd.call60 args w⟩
    · exact ⟨Tryd.func61, by kernel_rfl, fun args w => Tryd.call61 args w⟩
    · exact ⟨Tryd.func62, by kernel_rfl, fun args w => Tryd.call62 args w⟩
end Go.Ab.Mk
