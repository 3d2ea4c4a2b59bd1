/- What the printed functions are made of. -/
import Derived.Test.YtcpdcpgblcapeaaDoorAbFun
import Derived.KernelRfl
set_option linter.unusedSimpArgs false
set_option linter.unusedVariables false
set_option linter.deprecated false
namespace Go.Ab

def codeL : Code → Code
  | .seq a _ => a
  | .cond _ a _ => a
  | .block _ b => b
  | .loop b => b
  | c => c
def codeR : Code → Code
  | .seq _ b => b
  | .cond _ _ b => b
  | c => c

/-- A call, and what goes on behind it. -/
def callK (call : CallF) (f : FuncId) (args : List Cell) (σ : Sto) (n : Nat) (K : List Cell → Sto → Option Res) (KP : V → Sto → Option Res) : Option Res :=
  match call f args σ with
  | none => none
  | some r => match r.1 with
    | .ret vs => if vs.length = n then K vs r.2 else none
    | .pan v => KP v r.2

theorem callK_ret {call : CallF} {f : FuncId} {args : List Cell} {σ σ' : Sto} {n : Nat} {K : List Cell → Sto → Option Res} {KP : V → Sto → Option Res} {vs : List Cell} (h : call f args σ = some (.ret vs, σ')) (hn : vs.length = n) :
    callK call f args σ n K KP = K vs σ' := by simp [callK, h, hn]
theorem callK_pan {call : CallF} {f : FuncId} {args : List Cell} {σ σ' : Sto} {n : Nat} {K : List Cell → Sto → Option Res} {KP : V → Sto → Option Res} {v : V} (h : call f args σ = some (.pan v, σ')) :
    callK call f args σ n K KP = KP v σ' := by simp [callK, h]

/-- A table of types. -/
def look : List (TypeId × TI) → TypeId → Option TI
  | [], _ => none
  | (t, i) :: rest, u => bif Nat.beq t u then some i else look rest u
end Go.Ab
