/- What goes on behind an operation may as well be bound to what it comes to. -/
import Derived.Test.YtcpdcpgblcapeaaDoorAbBase
set_option linter.unusedSimpArgs false
set_option linter.unusedVariables false
set_option linter.deprecated false
namespace Go.Ab
section
variable {C : Ctx} {H : Hints}

theorem bc {α β : Type} {x : Option α} {f : α → Option β} {g : α → Option Res} {K : β → Option Res} (h : ∀ a, g a = (f a).bind K) : x.bind g = (x.bind f).bind K := by
  cases x with
  | none => rfl
  | some a => exact h a

theorem intOpK_eq (op : BinOp) (k : IntKind) (a b : Int) (K : V → Option Res) : intOpK op k a b K = (intOp op k a b).bind K := by
  cases op <;> simp only [intOpK, intOp] <;> (try rfl) <;> (rw [Option.bind_assoc]; rfl)
theorem strOpK_eq (op : BinOp) (a b : ByteArray) (K : V → Option Res) : strOpK op a b K = (strOp op a b).bind K := by
  cases op <;> simp only [strOpK, strOp] <;> (try rfl) <;> (rw [Option.bind_assoc]; rfl)

theorem binKK_eq (regs : List RV) (op : BinOp) (t : TypeId) (x y : Operand) (K : V → Option Res) : binKK C regs op t x y K = (binK C regs op t x y).bind K := by
  simp only [binKK, binK, intOpK_eq, strOpK_eq]
  repeat' first
    | rfl
    | (refine bc fun _ => ?_)
    | split

theorem fillKK_eq (regs : List RV) (place : Nat → Option (Nat × Nat × TypeId)) (K : List V → Option Res) : ∀ (ps : List (Nat × Operand)) (cs : List V), fillKK C regs place cs ps K = (fillK C regs place cs ps).bind K
  | [], _ => rfl
  | (i, x) :: rest, cs => by
    simp only [fillKK, fillK, Option.bind_assoc]
    congr 1; funext p; congr 1; funext ti; congr 1; funext v; congr 1; funext _
    exact fillKK_eq regs place K rest _

theorem optIntK_eq (regs : List RV) (x : Option Operand) (d : Int) (K : Int → Option Res) : optIntK C regs x d K = (optInt C regs x d).bind K := by
  cases x <;> simp only [optIntK, optInt, Option.bind_assoc] <;> rfl

theorem actK_eq (o : Oper) (regs : List RV) (K : Eff → Option Res) : actK C H o regs K = (act C H o regs).bind K := by
  obtain ⟨dst, op, type, pos, after, guard⟩ := o
  cases op
  case call c =>
    obtain ⟨callee, args, argTypes⟩ := c
    cases callee with
    | builtin b =>
      cases b <;> simp only [actK, act]
      all_goals repeat' first
        | with_reducible exact (Option.bind_some ..).symm
        | with_reducible exact (Option.bind_none ..).symm
        | (refine bc fun _ => ?_)
        | split
    | invoke => rfl
    | value g =>
      simp only [actK, act]
      repeat' first
        | with_reducible exact (Option.bind_some ..).symm
        | with_reducible exact (Option.bind_none ..).symm
        | (refine bc fun _ => ?_)
        | split
  all_goals
    simp only [actK, act, binKK_eq, fillKK_eq, optIntK_eq]
    repeat' first
      | with_reducible exact (Option.bind_some ..).symm
      | with_reducible exact (Option.bind_none ..).symm
      | (refine bc fun _ => ?_)
      | split
end
end Go.Ab
