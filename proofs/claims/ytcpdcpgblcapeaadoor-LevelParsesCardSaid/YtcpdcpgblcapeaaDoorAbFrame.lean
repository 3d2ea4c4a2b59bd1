/- What an operation touches: the frame of a step. -/
import Derived.Test.YtcpdcpgblcapeaaDoorAbCps
set_option linter.unusedSimpArgs false
set_option linter.unusedVariables false
set_option linter.deprecated false
namespace Go.Ab
section
variable {C : Ctx} {H : Hints} {call : CallF}

/-- The registers of operands agree. -/
def SameOn (xs : List Operand) (s t : List RV) : Prop := ∀ r, Operand.tmp r ∈ xs → s.getD r .dead = t.getD r .dead

theorem opndT_same {xs : List Operand} {s t : List RV} (h : SameOn xs s t) {x : Operand} (hx : x ∈ xs) (ty : TypeId) : opndT C s ty x = opndT C t ty x := by
  cases x with
  | tmp r => exact h r hx
  | _ => rfl

theorem vk_same {xs : List Operand} {s t : List RV} (h : SameOn xs s t) {x : Operand} (hx : x ∈ xs) (ty : TypeId) : vk C s ty x = vk C t ty x := by
  simp only [vk, opndT_same h hx]
theorem ck_same {xs : List Operand} {s t : List RV} (h : SameOn xs s t) {x : Operand} (hx : x ∈ xs) (ty : TypeId) : ck C s ty x = ck C t ty x := by
  simp only [ck, opndT_same h hx]

theorem fillK_same {xs : List Operand} {s t : List RV} (h : SameOn xs s t) (place : Nat → Option (Nat × Nat × TypeId)) : ∀ (ps : List (Nat × Operand)) (cs : List V), (∀ p ∈ ps, p.2 ∈ xs) → fillK C s place cs ps = fillK C t place cs ps
  | [], _, _ => rfl
  | (i, x) :: rest, cs, hp => by
    simp only [fillK]
    congr 1; funext p; congr 1; funext ti
    rw [vk_same h (hp _ (List.mem_cons_self ..))]
    congr 1; funext v; congr 1; funext _
    exact fillK_same h place rest _ fun p hp' => hp p (List.mem_cons_of_mem _ hp')

theorem plainParts_same {xs : List Operand} {s t : List RV} (h : SameOn xs s t) : ∀ (ps : List (Nat × Operand)), (∀ p ∈ ps, p.2 ∈ xs) → plainParts C s ps = plainParts C t ps
  | [], _ => rfl
  | p :: rest, hp => by
    have := plainParts_same h rest fun q hq => hp q (List.mem_cons_of_mem _ hq)
    unfold plainParts at *
    simp only [List.all_cons, this, opndT_same h (hp p (List.mem_cons_self ..))]

theorem argCells_same {xs : List Operand} {s t : List RV} (h : SameOn xs s t) : ∀ (ps : List (Operand × TypeId)), (∀ p ∈ ps, p.1 ∈ xs) → argCells C s ps = argCells C t ps
  | [], _ => rfl
  | (x, ty) :: rest, hp => by
    simp only [argCells]
    rw [ck_same h (hp _ (List.mem_cons_self ..)), argCells_same h rest fun p hp' => hp p (List.mem_cons_of_mem _ hp')]

theorem optInt_same {xs : List Operand} {s t : List RV} (h : SameOn xs s t) {x : Option Operand} (hx : ∀ y, x = some y → y ∈ xs) (d : Int) : optInt C s x d = optInt C t x d := by
  cases x with
  | none => rfl
  | some y => simp only [optInt, vk_same h (hx y rfl)]

theorem binK_same {xs : List Operand} {s t : List RV} (h : SameOn xs s t) {op : BinOp} {ty : TypeId} {x y : Operand} (hx : x ∈ xs) (hy : y ∈ xs) : binK C s op ty x y = binK C t op ty x y := by
  simp only [binK, vk_same h hx, vk_same h hy]

theorem act_same (o : Oper) {s t : List RV} (h : SameOn o.op.operands.toList s t) : act C H o s = act C H o t := by
  obtain ⟨dst, op, type, pos, after, guard⟩ := o
  simp only at h
  cases op
  case call c =>
    obtain ⟨callee, args, argTypes⟩ := c
    simp only [Op.operands, Call.operands] at h
    cases callee with
    | builtin b =>
      simp only [Array.toList_append, List.nil_append] at h
      cases b <;> simp only [act]
      all_goals
        split <;> try rfl
        simp only [*, List.mem_cons, true_or, or_true, vk_same h, opndT_same h]
    | invoke => rfl
    | value g =>
      simp only [act]
      rw [vk_same h (by simp), argCells_same h (args.toList.zip argTypes.toList) (fun p hp => by
        have := (List.of_mem_zip hp).1
        simp [this])]
  case build ty ps =>
    simp only [Op.operands] at h
    have hp : ∀ p ∈ ps.toList, p.2 ∈ (ps.toList.map (·.2)).toArray.toList := fun p hp => by simpa using ⟨p.1, by simpa using hp⟩
    simp only [act, fillK_same h _ ps.toList _ hp, plainParts_same h ps.toList hp]
  case buildSlice ty n ps =>
    simp only [Op.operands] at h
    have hp : ∀ p ∈ ps.toList, p.2 ∈ (ps.toList.map (·.2)).toArray.toList := fun p hp => by simpa using ⟨p.1, by simpa using hp⟩
    simp only [act, fillK_same h _ ps.toList _ hp]
  case makeFunc fn first captured =>
    simp only [Op.operands] at h
    simp only [act]
    rw [argCells_same h (captured.toList.map fun x => (x, 0)) (fun p hp => by
      obtain ⟨x, hx, rfl⟩ := List.mem_map.1 hp
      simp only [Array.toList_append, List.mem_append]
      exact .inr hx)]
  case slice ty x lo hi mx =>
    simp only [Op.operands] at h
    have hx := vk_same (C := C) (x := x) h (by simp)
    have hl := fun d => optInt_same (C := C) (x := lo) h (by rintro y rfl; simp) d
    have hh := fun d => optInt_same (C := C) (x := hi) h (by rintro y rfl; simp) d
    simp only [act, hx, hl, hh]
  all_goals first
    | rfl
    | (simp only [Op.operands] at h
       simp only [act, List.mem_cons, true_or, or_true, vk_same h, opndT_same h, ck_same h, binK_same h])
end
end Go.Ab
