/- AbMq0: printed by program: functions of the program, their code told as plain Lean, and the equations. -/
import Derived.Test.YtcpdcpgblcapeaaDoorAbCtx
import Derived.Test.YtcpdcpgblcapeaaDoorAbMk0
import Derived.Test.YtcpdcpgblcapeaaDoorAbPs5
import Derived.Test.YtcpdcpgblcapeaaDoorProg
set_option linter.unusedSimpArgs false
set_option linter.unusedVariables false
set_option linter.deprecated false
set_option maxRecDepth 100000
namespace Go.Ab.Mq
open Go.Proofs Go.Ab
def TL : List (TypeId × TI) := [
  (0, ⟨(.tuple 0), 1, 0, [V.any]⟩),
  (3, ⟨(.int .i64), 1, 8, [(V.int .i64 (0 : Int))]⟩),
  (4, ⟨.bool, 1, 1, [(V.bool false)]⟩),
  (9, ⟨.string, 1, 16, [(V.str (ByteArray.mk #[]))]⟩),
  (22, ⟨(.slice 25), 1, 24, [(V.slice 6 25 [])]⟩),
  (25, ⟨(.struct [(0, 3), (1, 9), (2, 9), (3, 9), (4, 3), (5, 3)]), 6, 72, [(V.int .i64 (0 : Int)), (V.str (ByteArray.mk #[])), (V.str (ByteArray.mk #[])), (V.str (ByteArray.mk #[])), (V.int .i64 (0 : Int)), (V.int .i64 (0 : Int))]⟩),
  (29, ⟨(.slice 31), 1, 24, [(V.slice 3 31 [])]⟩),
  (31, ⟨(.struct [(0, 3), (1, 9), (2, 29)]), 3, 48, [(V.int .i64 (0 : Int)), (V.str (ByteArray.mk #[])), (V.slice 3 31 [])]⟩),
  (33, ⟨(.struct [(0, 3), (1, 3)]), 2, 16, [(V.int .i64 (0 : Int)), (V.int .i64 (0 : Int))]⟩),
  (34, ⟨(.tuple 2), 1, 0, [V.any]⟩),
  (44, ⟨.iface, 1, 16, [V.nilIface]⟩),
  (45, ⟨(.tuple 2), 1, 0, [V.any]⟩),
  (74, ⟨(.tuple 2), 1, 0, [V.any]⟩)]
noncomputable def levelParsesH : Hints := { keep := fun i => if i = 0 then [0, 3] else [], steal := [], esc := [], ownres := [], lp := [], ep := [18, 19, 24, 25], roots := [], ord := fun i => [], own := [] }
noncomputable def levelParsesC : Code := Tryd.f4.body.getD .skip
noncomputable def levelParsesD : FDef := ⟨Tryd.f4, levelParsesC, levelParsesH⟩
noncomputable def levelParsedH : Hints := { keep := fun i => [], steal := [], esc := [], ownres := [], lp := [3, 5, 6], ep := [], roots := [(3, 3), (5, 5), (6, 6)], ord := fun i => [], own := [] }
noncomputable def levelParsedC : Code := Tryd.f7.body.getD .skip
noncomputable def levelParsedD : FDef := ⟨Tryd.f7, levelParsedC, levelParsedH⟩
noncomputable def faultyH : Hints := { keep := fun i => [], steal := [], esc := [], ownres := [], lp := [3, 13, 21], ep := [], roots := [(3, 3), (13, 3), (21, 3)], ord := fun i => [], own := [] }
noncomputable def faultyC : Code := Tryd.f24.body.getD .skip
noncomputable def faultyD : FDef := ⟨Tryd.f24, faultyC, faultyH⟩
noncomputable def FL : List (FuncId × FDef) := [(4, levelParsesD), (7, levelParsedD), (24, faultyD)]
noncomputable def C : Ctx := { T := look TL, glob := fun g => if g = 1 then some [V.lit (Value.iface 113 (Value.agg #[Value.pointer (some ⟨2, 44, none⟩)]))] else none, ext := fun f => if f = 16 then some (Mk.parseS (lim Mk.C)) else if f = 40 then some Mk.codeS else if f = 9 then some (lim Mk.C 9) else if f = 22 then some (lim Mk.C 22) else none, fdef := lookF FL }
theorem typesOk : ∀ t i, C.T t = some i → TOk Tryd.prog t i := look_ok (by kernel_rfl)
theorem ctxOk : CtxOk Tryd.prog C where
  mixed := by kernel_rfl
  T := typesOk
  fdef := by
    refine lookF_ok (P := Tryd.prog) (Q := fun f d => Tryd.prog.funcs[f]? = some d.fn ∧ d.fn.body = some d.code ∧ (∀ (args : Array Value) (w : World), (callFunc f args).run Tryd.prog w = .ok (.enter f args) w)) (L := FL) ?_
    intro p hp
    simp only [FL, List.mem_cons, List.not_mem_nil, or_false] at hp
    rcases hp with rfl | rfl | rfl
    · exact ⟨Tryd.func4, by kernel_rfl, fun args w => Tryd.call4 args w⟩
    · exact ⟨Tryd.func7, by kernel_rfl, fun args w => Tryd.call7 args w⟩
    · exact ⟨Tryd.func24, by kernel_rfl, fun args w => Tryd.call24 args w⟩
end Go.Ab.Mq
