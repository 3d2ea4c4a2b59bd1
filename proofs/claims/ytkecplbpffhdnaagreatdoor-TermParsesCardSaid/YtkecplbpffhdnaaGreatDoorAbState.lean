/- What goes on behind an operation may as well be bound to what it comes to. What an operation touches: the frame of a step. How abstract states stand to real ones: relations, and how they are carried along. Single operations of the model, run: what they come to on related values. How the abstract state's changes are met by the real one's. -/
import Derived.Test.YtkecplbpffhdnaaGreatDoorAbBase
import Derived.Laws.Sem
import Derived.Laws.World
import Derived.Laws.Cells
set_option linter.unusedSimpArgs false
set_option linter.unusedVariables false
set_option linter.deprecated false
section
namespace Go.Ab
section
variable {C : Ctx} {H : Hints}

theorem bc {α β : Type} {x : Option α} {f : α → Option β} {g : α → Option Res} {K : β → Option Res} (h : ∀ a, g a = (f a).bind K) : x.bind g = (x.bind f).bind K := by
  cases x with
  | none => rfl
  | some a => exact h a

theorem intOpK_eq (op : BinOp) (k : IntKind) (a b : Int) (K : V → Option Res) : intOpK op k a b K = (intOp op k a b).bind K := by
  cases op <;> simp only [intOpK, intOp] <;> (try rfl) <;> (rw [Option.bind_assoc]; rfl)
theorem strOpK_eq (op : BinOp) (a b : ByteArray) (K : V → Option Res) : strOpK op a b K = (strOp op a b).bind K := by
  cases op <;> simp only [strOpK, strOp] <;> (try rfl) <;> (rw [Option.bind_assoc]; rfl)

theorem binKK_eq (regs : List RV) (op : BinOp) (t : TypeId) (x y : Operand) (K : V → Option Res) : binKK C regs op t x y K = (binK C regs op t x y).bind K := by
  simp only [binKK, binK, intOpK_eq, strOpK_eq]
  repeat' first
    | rfl
    | (refine bc fun _ => ?_)
    | split

theorem fillKK_eq (regs : List RV) (place : Nat → Option (Nat × Nat × TypeId)) (K : List V → Option Res) : ∀ (ps : List (Nat × Operand)) (cs : List V), fillKK C regs place cs ps K = (fillK C regs place cs ps).bind K
  | [], _ => rfl
  | (i, x) :: rest, cs => by
    simp only [fillKK, fillK, Option.bind_assoc]
    congr 1; funext p; congr 1; funext ti; congr 1; funext v; congr 1; funext _
    exact fillKK_eq regs place K rest _

theorem optIntK_eq (regs : List RV) (x : Option Operand) (d : Int) (K : Int → Option Res) : optIntK C regs x d K = (optInt C regs x d).bind K := by
  cases x <;> simp only [optIntK, optInt, Option.bind_assoc] <;> rfl

theorem actK_eq (o : Oper) (regs : List RV) (K : Eff → Option Res) : actK C H o regs K = (act C H o regs).bind K := by
  obtain ⟨dst, op, type, pos, after, guard⟩ := o
  cases op
  case call c =>
    obtain ⟨callee, args, argTypes⟩ := c
    cases callee with
    | builtin b =>
      cases b <;> simp only [actK, act]
      all_goals repeat' first
        | with_reducible exact (Option.bind_some ..).symm
        | with_reducible exact (Option.bind_none ..).symm
        | (refine bc fun _ => ?_)
        | split
    | invoke => rfl
    | value g =>
      simp only [actK, act]
      repeat' first
        | with_reducible exact (Option.bind_some ..).symm
        | with_reducible exact (Option.bind_none ..).symm
        | (refine bc fun _ => ?_)
        | split
  all_goals
    simp only [actK, act, binKK_eq, fillKK_eq, optIntK_eq]
    repeat' first
      | with_reducible exact (Option.bind_some ..).symm
      | with_reducible exact (Option.bind_none ..).symm
      | (refine bc fun _ => ?_)
      | split
end
end Go.Ab
end
section
namespace Go.Ab
section
variable {C : Ctx} {H : Hints} {call : CallF}

/-- The registers of operands agree. -/
def SameOn (xs : List Operand) (s t : List RV) : Prop := ∀ r, Operand.tmp r ∈ xs → s.getD r .dead = t.getD r .dead

theorem opndT_same {xs : List Operand} {s t : List RV} (h : SameOn xs s t) {x : Operand} (hx : x ∈ xs) (ty : TypeId) : opndT C s ty x = opndT C t ty x := by
  cases x with
  | tmp r => exact h r hx
  | _ => rfl

theorem vk_same {xs : List Operand} {s t : List RV} (h : SameOn xs s t) {x : Operand} (hx : x ∈ xs) (ty : TypeId) : vk C s ty x = vk C t ty x := by
  simp only [vk, opndT_same h hx]
theorem ck_same {xs : List Operand} {s t : List RV} (h : SameOn xs s t) {x : Operand} (hx : x ∈ xs) (ty : TypeId) : ck C s ty x = ck C t ty x := by
  simp only [ck, opndT_same h hx]

theorem fillK_same {xs : List Operand} {s t : List RV} (h : SameOn xs s t) (place : Nat → Option (Nat × Nat × TypeId)) : ∀ (ps : List (Nat × Operand)) (cs : List V), (∀ p ∈ ps, p.2 ∈ xs) → fillK C s place cs ps = fillK C t place cs ps
  | [], _, _ => rfl
  | (i, x) :: rest, cs, hp => by
    simp only [fillK]
    congr 1; funext p; congr 1; funext ti
    rw [vk_same h (hp _ (List.mem_cons_self ..))]
    congr 1; funext v; congr 1; funext _
    exact fillK_same h place rest _ fun p hp' => hp p (List.mem_cons_of_mem _ hp')

theorem plainParts_same {xs : List Operand} {s t : List RV} (h : SameOn xs s t) : ∀ (ps : List (Nat × Operand)), (∀ p ∈ ps, p.2 ∈ xs) → plainParts C s ps = plainParts C t ps
  | [], _ => rfl
  | p :: rest, hp => by
    have := plainParts_same h rest fun q hq => hp q (List.mem_cons_of_mem _ hq)
    unfold plainParts at *
    simp only [List.all_cons, this, opndT_same h (hp p (List.mem_cons_self ..))]

theorem argCells_same {xs : List Operand} {s t : List RV} (h : SameOn xs s t) : ∀ (ps : List (Operand × TypeId)), (∀ p ∈ ps, p.1 ∈ xs) → argCells C s ps = argCells C t ps
  | [], _ => rfl
  | (x, ty) :: rest, hp => by
    simp only [argCells]
    rw [ck_same h (hp _ (List.mem_cons_self ..)), argCells_same h rest fun p hp' => hp p (List.mem_cons_of_mem _ hp')]

theorem optInt_same {xs : List Operand} {s t : List RV} (h : SameOn xs s t) {x : Option Operand} (hx : ∀ y, x = some y → y ∈ xs) (d : Int) : optInt C s x d = optInt C t x d := by
  cases x with
  | none => rfl
  | some y => simp only [optInt, vk_same h (hx y rfl)]

theorem binK_same {xs : List Operand} {s t : List RV} (h : SameOn xs s t) {op : BinOp} {ty : TypeId} {x y : Operand} (hx : x ∈ xs) (hy : y ∈ xs) : binK C s op ty x y = binK C t op ty x y := by
  simp only [binK, vk_same h hx, vk_same h hy]

theorem act_same (o : Oper) {s t : List RV} (h : SameOn o.op.operands.toList s t) : act C H o s = act C H o t := by
  obtain ⟨dst, op, type, pos, after, guard⟩ := o
  simp only at h
  cases op
  case call c =>
    obtain ⟨callee, args, argTypes⟩ := c
    simp only [Op.operands, Call.operands] at h
    cases callee with
    | builtin b =>
      simp only [Array.toList_append, List.nil_append] at h
      cases b <;> simp only [act]
      all_goals
        split <;> try rfl
        simp only [*, List.mem_cons, true_or, or_true, vk_same h, opndT_same h]
    | invoke => rfl
    | value g =>
      simp only [act]
      rw [vk_same h (by simp), argCells_same h (args.toList.zip argTypes.toList) (fun p hp => by
        have := (List.of_mem_zip hp).1
        simp [this])]
  case build ty ps =>
    simp only [Op.operands] at h
    have hp : ∀ p ∈ ps.toList, p.2 ∈ (ps.toList.map (·.2)).toArray.toList := fun p hp => by simpa using ⟨p.1, by simpa using hp⟩
    simp only [act, fillK_same h _ ps.toList _ hp, plainParts_same h ps.toList hp]
  case buildSlice ty n ps =>
    simp only [Op.operands] at h
    have hp : ∀ p ∈ ps.toList, p.2 ∈ (ps.toList.map (·.2)).toArray.toList := fun p hp => by simpa using ⟨p.1, by simpa using hp⟩
    simp only [act, fillK_same h _ ps.toList _ hp]
  case makeFunc fn first captured =>
    simp only [Op.operands] at h
    simp only [act]
    rw [argCells_same h (captured.toList.map fun x => (x, 0)) (fun p hp => by
      obtain ⟨x, hx, rfl⟩ := List.mem_map.1 hp
      simp only [Array.toList_append, List.mem_append]
      exact .inr hx)]
  case slice ty x lo hi mx =>
    simp only [Op.operands] at h
    have hx := vk_same (C := C) (x := x) h (by simp)
    have hl := fun d => optInt_same (C := C) (x := lo) h (by rintro y rfl; simp) d
    have hh := fun d => optInt_same (C := C) (x := hi) h (by rintro y rfl; simp) d
    simp only [act, hx, hl, hh]
  all_goals first
    | rfl
    | (simp only [Op.operands] at h
       simp only [act, List.mem_cons, true_or, or_true, vk_same h, opndT_same h, ck_same h, binK_same h])
end
end Go.Ab
end
section
namespace Go.Ab

inductive Place where
  | reg (r : Nat) | tup (r i : Nat) | lc (r o : Nat) | gc (b o : Nat) | box (r : Nat) | blk (b : Nat) | res (i : Nat)
  deriving DecidableEq

/-- What the proof knows of memory: which block stands for an abstract one, how many cells of a block are settled, who holds a block. -/
structure Gh where
  N : Nat
  μ : Nat → Nat
  lim : Nat → Nat
  owner : Nat → Option Place
  ty : Nat → TypeId

def upd {α : Type} (f : Nat → α) (i : Nat) (x : α) : Nat → α := fun j => if j = i then x else f j
@[simp] theorem upd_same {α : Type} (f : Nat → α) (i : Nat) (x : α) : upd f i x i = x := by simp [upd]
theorem upd_other {α : Type} (f : Nat → α) {i j : Nat} (x : α) (h : j ≠ i) : upd f i x j = f j := by simp [upd, h]

inductive Rel (G : Gh) (w : World) : V → Value → Prop
  | any (c : Value) : c.oneCell' = true → Rel G w .any c
  | bool (b : Bool) : Rel G w (.bool b) (.bool b)
  | int (k : IntKind) (n : Int) : Rel G w (.int k n) (.int k n)
  | str (s : ByteArray) : Rel G w (.str s) (.string s)
  | nilp : Rel G w .nilp (.pointer none)
  | ptr (t : TypeId) (b o : Nat) : b < G.N → G.ty b = t → Rel G w (.ptr t b o) (.pointer (some ⟨G.μ b, o, none⟩))
  | eptr (k : Nat) (e : List V) (o b off : Nat) (cs : List Value) : e.length = k → cs.length = k → off + k ≤ G.lim b →
      (∀ (i : Nat) (c : Value), cs[i]? = some c → w.cell? ⟨b, off + i, none⟩ = some c ∧ c.oneCell' = true) →
      (∀ (i : Nat) (v : V) (c : Value), e[i]? = some v → cs[i]? = some c → Rel G w v c) → Rel G w (.eptr k e o) (.pointer (some ⟨b, off + o, none⟩))
  | nils : Rel G w .nils (.slice none 0 0)
  | snil (k : Nat) (e : TypeId) : Rel G w (.slice k e []) (.slice none 0 0)
  | slice (k : Nat) (et : TypeId) (es : List (List V)) (b off c : Nat) (cs : List (List Value)) : cs.length = es.length → es.length ≤ c → off + es.length * k ≤ G.lim b →
      (∀ (i : Nat) (e : List V), es[i]? = some e → e.length = k) → (∀ (i : Nat) (x : List Value), cs[i]? = some x → x.length = k) →
      (∀ (i j : Nat) (x : List Value) (c : Value), cs[i]? = some x → x[j]? = some c → w.cell? ⟨b, off + i * k + j, none⟩ = some c ∧ c.oneCell' = true) →
      (∀ (i j : Nat) (e : List V) (x : List Value) (v : V) (c : Value), es[i]? = some e → cs[i]? = some x → e[j]? = some v → x[j]? = some c → Rel G w v c) →
      Rel G w (.slice k et es) (.slice (some ⟨b, off, none⟩) es.length c)
  | func (fn : Fn) (first cap : List V) (f c : List Value) : f.length = first.length → c.length = cap.length →
      (∀ (i : Nat) (v : V) (x : Value), first[i]? = some v → f[i]? = some x → Rel G w v x) → (∀ (i : Nat) (v : V) (x : Value), cap[i]? = some v → c[i]? = some x → Rel G w v x) →
      Rel G w (.func fn first cap) (.func fn f.toArray c.toArray)
  | nilFunc : Rel G w .nilFunc .nilFunc
  | iface (t : TypeId) (v : V) (c : Value) : Rel G w v c → Rel G w (.iface t v) (.iface t c)
  | nilIface : Rel G w .nilIface .nilIface
  | lit (c : Value) : c.oneCell' = true → Rel G w (.lit c) c
  | agg (cs : List V) (xs : List Value) : xs.length = cs.length → (∀ (i : Nat) (x : Value), xs[i]? = some x → x.oneCell' = true) → (∀ (i : Nat) (v : V) (x : Value), cs[i]? = some v → xs[i]? = some x → Rel G w v x) → Rel G w (.agg cs) (.agg xs.toArray)

/-- From one moment to a later one. -/
structure Ext (G : Gh) (w : World) (G' : Gh) (w' : World) : Prop where
  N : G.N ≤ G'.N
  μ : ∀ b, b < G.N → G'.μ b = G.μ b
  ty : ∀ b, b < G.N → G'.ty b = G.ty b
  lim : ∀ b, G.lim b ≤ G'.lim b
  cell : ∀ b o, o < G.lim b → w'.cell? ⟨b, o, none⟩ = w.cell? ⟨b, o, none⟩
  os : w'.os = w.os
  tape : w'.tape = w.tape
  output : w'.output = w.output
  size : w.heap.size ≤ w'.heap.size
  old : ∀ i, i < w.heap.size → G.owner i = none → w'.heap[i]? = w.heap[i]? ∧ G'.lim i = G.lim i ∧ G'.owner i = none

theorem Ext.refl (G : Gh) (w : World) : Ext G w G w :=
  ⟨Nat.le_refl _, fun _ _ => rfl, fun _ _ => rfl, fun _ => Nat.le_refl _, fun _ _ _ => rfl, rfl, rfl, rfl, Nat.le_refl _, fun _ _ h => ⟨rfl, rfl, h⟩⟩

theorem Ext.trans {G G1 G2 : Gh} {w w1 w2 : World} (h : Ext G w G1 w1) (k : Ext G1 w1 G2 w2) : Ext G w G2 w2 where
  N := Nat.le_trans h.N k.N
  μ b hb := (k.μ b (Nat.lt_of_lt_of_le hb h.N)).trans (h.μ b hb)
  ty b hb := (k.ty b (Nat.lt_of_lt_of_le hb h.N)).trans (h.ty b hb)
  lim b := Nat.le_trans (h.lim b) (k.lim b)
  cell b o ho := (k.cell b o (Nat.lt_of_lt_of_le ho (h.lim b))).trans (h.cell b o ho)
  os := k.os.trans h.os
  tape := k.tape.trans h.tape
  output := k.output.trans h.output
  size := Nat.le_trans h.size k.size
  old i hi ho := by
    obtain ⟨a1, a2, a3⟩ := h.old i hi ho
    obtain ⟨b1, b2, b3⟩ := k.old i (Nat.lt_of_lt_of_le hi h.size) a3
    exact ⟨b1.trans a1, b2.trans a2, b3⟩

theorem Rel.mono {G G' : Gh} {w w' : World} (x : Ext G w G' w') {v : V} {c : Value} (h : Rel G w v c) : Rel G' w' v c := by
  induction h with
  | any c h => exact .any c h
  | bool b => exact .bool b
  | int k n => exact .int k n
  | str s => exact .str s
  | nilp => exact .nilp
  | ptr t b o hb ht => rw [← x.μ b hb]; exact .ptr t b o (Nat.lt_of_lt_of_le hb x.N) ((x.ty b hb).trans ht)
  | eptr k e o b off cs h1 h2 h3 h4 _ ih =>
    refine .eptr k e o b off cs h1 h2 (Nat.le_trans h3 (x.lim b)) (fun i c hc => ?_) ih
    rw [x.cell b (off + i) (by have := (List.getElem?_eq_some_iff.1 hc).1; omega)]; exact h4 i c hc
  | nils => exact .nils
  | snil k e => exact .snil k e
  | slice k et es b off c cs h1 h2 h3 h4 h5 h6 _ ih =>
    refine .slice k et es b off c cs h1 h2 (Nat.le_trans h3 (x.lim b)) h4 h5 (fun i j y c hy hc => ?_) ih
    rw [x.cell b _ (by
      have hi := (List.getElem?_eq_some_iff.1 hy).1
      have hj := (List.getElem?_eq_some_iff.1 hc).1
      rw [h5 i y hy] at hj
      have : (i + 1) * k ≤ es.length * k := Nat.mul_le_mul_right k (by omega)
      rw [Nat.succ_mul] at this
      omega)]
    exact h6 i j y c hy hc
  | func fn first cap f c h1 h2 _ _ ih1 ih2 => exact .func fn first cap f c h1 h2 ih1 ih2
  | nilFunc => exact .nilFunc
  | iface t v c _ ih => exact .iface t v c ih
  | nilIface => exact .nilIface
  | agg cs xs h1 h2 _ ih => exact .agg cs xs h1 h2 ih
  | lit c h => exact .lit c h

/-- No row. -/
def Tight : Value → Prop
  | .slice (some _) _ _ => False
  | _ => True

def Own (G : Gh) (w : World) (p : Place) (v : V) (c : Value) : Prop :=
  match v, c with
  | .slice k e _, .slice (some a) n cap => a.off = 0 ∧ a.spot = none ∧ G.owner a.block = some p ∧ G.lim a.block = n * k ∧
      ∃ cv fr, w.heap[a.block]? = some (.cells cv e fr) ∧ cap * k ≤ cv.size ∧ fr.2 ≤ n * k
  | .agg cs, .agg xs => ∀ (i k : Nat) (e : TypeId) (x : Value), cs[i]? = some (.slice k e []) → xs[i]? = some x → Tight x
  | _, _ => True

def CRel (G : Gh) (w : World) (p : Place) (c : Cell) (x : Value) : Prop := Rel G w c.1 x ∧ (c.2 = true → Own G w p c.1 x)

theorem Own.move {G G' : Gh} {w w' : World} {p q : Place} {v : V} {c : Value} (h : Own G w p v c)
    (hp : ∀ i, G.owner i = some p → w'.heap[i]? = w.heap[i]? ∧ G'.lim i = G.lim i ∧ G'.owner i = some q) : Own G' w' q v c := by
  unfold Own at *
  split at h
  · obtain ⟨h1, h2, h3, h4, cv, fr, h5, h6, h7⟩ := h
    obtain ⟨a1, a2, a3⟩ := hp _ h3
    exact ⟨h1, h2, a3, by rw [a2]; exact h4, cv, fr, by rw [a1]; exact h5, h6, h7⟩
  · exact h
  · trivial

theorem CRel.move {G G' : Gh} {w w' : World} {p : Place} {c : Cell} {x : Value} (h : CRel G w p c x) (e : Ext G w G' w')
    (hp : c.2 = true → ∀ i, G.owner i = some p → w'.heap[i]? = w.heap[i]? ∧ G'.lim i = G.lim i ∧ G'.owner i = some p) : CRel G' w' p c x :=
  ⟨h.1.mono e, fun ho => (h.2 ho).move (hp ho)⟩

/-- A block that stands for abstract cells. -/
def BlkOk (G : Gh) (w : World) (r : Nat) (p : Place) (q : Nat → Place) (cs : List Cell) : Prop :=
  ∃ cv el, w.heap[r]? = some (.cells cv el (0, 0)) ∧ cv.size = cs.length ∧ G.owner r = some p ∧ G.lim r = 0 ∧
    ∀ (j : Nat) c x, cs[j]? = some c → cv[j]? = some x → CRel G w (q j) c x ∧ x.oneCell' = true

def WF (G : Gh) (w : World) : Prop := ∀ i, w.heap.size ≤ i → G.lim i = 0 ∧ G.owner i = none

structure SInv (gl : Nat → Option (List V)) (G : Gh) (w : World) (σ : Sto) : Prop where
  wf : WF G w
  glob : ∀ (g : Nat) (cs : List V), gl g = some cs → Rel G w (.eptr cs.length cs 0) (.pointer (some ⟨g, 0, none⟩))
  N : G.N = σ.length
  typed : ∀ b, b < σ.length → ∃ cv fr, w.heap[G.μ b]? = some (.cells cv (G.ty b) fr)
  blk : ∀ (b : Nat) (cs : List Cell), σ[b]? = some cs → BlkOk G w (G.μ b) (.blk b) (fun j => .gc b j) cs

def RRel (G : Gh) (lam : Nat → Nat) (w : World) (r : Nat) (x : RV) (c : Value) : Prop :=
  match x with
  | .dead => True
  | .val v o => CRel G w (.reg r) (v, o) c
  | .lptr r' o => c = .pointer (some ⟨lam r', o, none⟩)
  | .tup cs => ∃ xs : List Value, c = .tuple xs.toArray ∧ xs.length = cs.length ∧ ∀ i y v, cs[i]? = some y → xs[i]? = some v → CRel G w (.tup r i) y v

structure Inv (gl : Nat → Option (List V)) (G : Gh) (lam : Nat → Nat) (a : Act) (w : World) (st : St) : Prop where
  defers : a.defers = []
  len : a.tmps.size = st.regs.length
  lenl : st.locs.length = st.regs.length
  regs : ∀ r x, st.regs[r]? = some x → RRel G lam w r x (a.tmps.getD r undef)
  locs : ∀ r cs, st.locs[r]? = some cs → cs ≠ [] → BlkOk G w (lam r) (.box r) (fun j => .lc r j) cs
  sto : SInv gl G w st.sto

/-- Which places hold a token. -/
def St.flagged (st : St) : Place → Prop
  | .reg r => ∃ v, st.regs[r]? = some (.val v true)
  | .tup r i => ∃ cs v, st.regs[r]? = some (.tup cs) ∧ cs[i]? = some (v, true)
  | .lc r j => ∃ cs v, st.locs[r]? = some cs ∧ cs[j]? = some (v, true)
  | .gc b j => ∃ cs v, st.sto[b]? = some cs ∧ cs[j]? = some (v, true)
  | _ => False

/-- The blocks that stand for cells stay; so do the blocks of the places that hold tokens. -/
structure Keeps (G : Gh) (w : World) (G' : Gh) (w' : World) (fl : Place → Prop) : Prop where
  blocks : ∀ i p, G.owner i = some p → fl p → w'.heap[i]? = w.heap[i]? ∧ G'.lim i = G.lim i ∧ G'.owner i = some p

theorem BlkOk.move {G G' : Gh} {w w' : World} {r : Nat} {p : Place} {q : Nat → Place} {cs : List Cell} {fl : Place → Prop} (h : BlkOk G w r p q cs) (e : Ext G w G' w') (k : Keeps G w G' w' fl)
    (hp : fl p) (hq : ∀ j v, cs[j]? = some (v, true) → fl (q j)) : BlkOk G' w' r p q cs := by
  obtain ⟨cv, el, h1, h2, h3, h4, h5⟩ := h
  obtain ⟨a1, a2, a3⟩ := k.blocks r p h3 hp
  refine ⟨cv, el, by rw [a1]; exact h1, h2, a3, by rw [a2]; exact h4, fun j c x hc hx => ⟨(h5 j c x hc hx).1.move e fun ho i hi => ?_, (h5 j c x hc hx).2⟩⟩
  obtain ⟨v, o⟩ := c
  simp only at ho
  subst ho
  exact k.blocks i _ hi (hq j v hc)

theorem RRel.move {G G' : Gh} {lam : Nat → Nat} {w w' : World} {r : Nat} {x : RV} {c : Value} {fl : Place → Prop} (h : RRel G lam w r x c) (e : Ext G w G' w') (k : Keeps G w G' w' fl)
    (h1 : ∀ v, x = .val v true → fl (.reg r)) (h2 : ∀ cs i v, x = .tup cs → cs[i]? = some (v, true) → fl (.tup r i)) : RRel G' lam w' r x c := by
  cases x with
  | dead => trivial
  | val v o => exact CRel.move h e fun ho i hi => k.blocks i _ hi (h1 v (by simp only at ho; rw [ho]))
  | lptr r' o => exact h
  | tup cs =>
    obtain ⟨xs, g1, g2, g3⟩ := h
    refine ⟨xs, g1, g2, fun i y v hy hv => (g3 i y v hy hv).move e fun ho j hj => ?_⟩
    obtain ⟨y, o⟩ := y
    simp only at ho
    subst ho
    exact k.blocks j _ hj (h2 cs i y rfl hy)

theorem SInv.move {gl : Nat → Option (List V)} {G G' : Gh} {w w' : World} {σ : Sto} {fl : Place → Prop} (h : SInv gl G w σ) (e : Ext G w G' w') (k : Keeps G w G' w' fl) (wf : WF G' w') (hN : G'.N = G.N)
    (hb' : ∀ b, b < σ.length → fl (.blk b)) (hq : ∀ b cs j v, σ[b]? = some cs → cs[j]? = some (v, true) → fl (.gc b j)) : SInv gl G' w' σ := by
  refine ⟨wf, fun g cs hg => (h.glob g cs hg).mono e, hN.trans h.N, fun b hb => ?_, fun b cs hb => ?_⟩
  · obtain ⟨cv, fr, h1⟩ := h.typed b hb
    obtain ⟨_, _, _, _, h3, _⟩ := h.blk b σ[b] (List.getElem?_eq_getElem hb)
    have hlt : b < G.N := by rw [h.N]; exact hb
    rw [e.μ b hlt, e.ty b hlt]
    exact ⟨cv, fr, by rw [(k.blocks _ _ h3 (hb' b hb)).1]; exact h1⟩
  have hlt : b < G.N := by rw [h.N]; exact (List.getElem?_eq_some_iff.1 hb).1
  rw [e.μ b hlt]
  exact (h.blk b cs hb).move e k (hb' b (by rw [← h.N]; exact hlt)) (fun j v hv => hq b cs j v hb hv)

/-- The whole state is carried along, if what holds tokens and what stands for cells is left alone. -/
theorem Inv.move {gl : Nat → Option (List V)} {G G' : Gh} {lam : Nat → Nat} {a : Act} {w w' : World} {st : St} (h : Inv gl G lam a w st) (e : Ext G w G' w') (k : Keeps G w G' w' (fun p => st.flagged p ∨ (∃ r, p = .box r) ∨ ∃ b, p = .blk b)) (wf : WF G' w') (hN : G'.N = G.N) : Inv gl G' lam a w' st where
  defers := h.defers
  len := h.len
  lenl := h.lenl
  regs r x hx := (h.regs r x hx).move e k (fun v hv => .inl ⟨v, hv ▸ hx⟩) (fun cs i v hv hi => .inl ⟨cs, v, hv ▸ hx, hi⟩)
  locs r cs hc hne := (h.locs r cs hc hne).move e k (.inr (.inl ⟨r, rfl⟩)) (fun j v hv => .inl ⟨cs, v, hc, hv⟩)
  sto := h.sto.move e k wf hN (fun b _ => .inr (.inr ⟨b, rfl⟩)) (fun b cs j v hb hv => .inl ⟨cs, v, hb, hv⟩)

/-- Another world with the same memory. -/
theorem Ext.same {G : Gh} {w w' : World} (hh : w'.heap = w.heap) (h1 : w'.os = w.os) (h2 : w'.tape = w.tape) (h3 : w'.output = w.output) : Ext G w G w' where
  N := Nat.le_refl _
  μ _ _ := rfl
  ty _ _ := rfl
  lim _ := Nat.le_refl _
  cell b o _ := by simp [World.cell?, hh]
  os := h1
  tape := h2
  output := h3
  size := by rw [hh]; exact Nat.le_refl _
  old i _ ho := ⟨by rw [hh], rfl, ho⟩
theorem Keeps.same {G : Gh} {w w' : World} {fl : Place → Prop} (hh : w'.heap = w.heap) : Keeps G w G w' fl := ⟨fun i p hp _ => ⟨by rw [hh], rfl, hp⟩⟩
theorem Inv.same {gl : Nat → Option (List V)} {G : Gh} {lam : Nat → Nat} {a : Act} {w w' : World} {st : St} (h : Inv gl G lam a w st) (hh : w'.heap = w.heap) (h1 : w'.os = w.os) (h2 : w'.tape = w.tape) (h3 : w'.output = w.output) : Inv gl G lam a w' st :=
  h.move (Ext.same hh h1 h2 h3) (Keeps.same hh) (fun i hi => h.sto.wf i (by rw [hh] at hi; exact hi)) rfl

end Go.Ab
end
section
namespace Go.Ab

theorem add_plain (b o n : Nat) : (⟨b, o, none⟩ : Addr).add n = ⟨b, o + n, none⟩ := by unfold Addr.add; split <;> simp_all

def zmatch : V → Value → Bool
  | .bool a, .bool b => a == b
  | .int k n, .int k' n' => decide (k = k' ∧ n = n')
  | .str s, .string t => decide (s = t)
  | .nilp, .pointer none => true
  | .nils, .slice none 0 0 => true
  | .slice _ _ [], .slice none 0 0 => true
  | .nilFunc, .nilFunc => true
  | .nilIface, .nilIface => true
  | .any, c => c.oneCell'
  | _, _ => false

theorem zmatch_rel {v : V} {c : Value} (h : zmatch v c = true) (G : Gh) (w : World) : Rel G w v c ∧ (∀ p, Own G w p v c) ∧ c.oneCell' = true := by
  unfold zmatch at h
  split at h
  · simp at h; subst h; exact ⟨.bool _, fun _ => trivial, rfl⟩
  · simp at h; obtain ⟨rfl, rfl⟩ := h; exact ⟨.int _ _, fun _ => trivial, rfl⟩
  · simp at h; subst h; exact ⟨.str _, fun _ => trivial, rfl⟩
  · exact ⟨.nilp, fun _ => trivial, rfl⟩
  · exact ⟨.nils, fun _ => trivial, rfl⟩
  · exact ⟨.snil _ _, fun _ => trivial, rfl⟩
  · exact ⟨.nilFunc, fun _ => trivial, rfl⟩
  · exact ⟨.nilIface, fun _ => trivial, rfl⟩
  · exact ⟨.any _ h, fun _ => trivial, h⟩
  · simp at h

theorem ofVal_rel (c : Value) (h : ofVal c ≠ .any) (G : Gh) (w : World) : Rel G w (ofVal c) c ∧ ∀ p, Own G w p (ofVal c) c := by
  unfold ofVal at *
  split
  · exact ⟨.bool _, fun _ => trivial⟩
  · exact ⟨.int _ _, fun _ => trivial⟩
  · exact ⟨.str _, fun _ => trivial⟩
  · exact ⟨.nilp, fun _ => trivial⟩
  · exact ⟨.nils, fun _ => trivial⟩
  · exact ⟨.nilFunc, fun _ => trivial⟩
  · exact ⟨.nilIface, fun _ => trivial⟩
  · exact ⟨.func _ [] [] [] [] rfl rfl (by simp) (by simp), fun _ => trivial⟩
  · simp at h

def KOk : TK → TypeDesc → Prop
  | .bool, .bool => True
  | .int k, .int k' => k = k'
  | .string, .string => True
  | .pointer e, .pointer e' => e = e'
  | .slice e, .slice e' => e = e'
  | .array n e, .array n' e' => n = n' ∧ e = e'
  | .struct fs, .struct fields => fields.toList.map (fun f => (f.offset, f.type)) = fs
  | .iface, .interface _ => True
  | .func, .func .. => True
  | .map k e, .map k' e' => k = k' ∧ e = e'
  | .tuple _, .tuple _ => True
  | .other, .struct _ => False
  | .other, .array .. => False
  | .other, .interface _ => False
  | .other, _ => True
  | _, _ => False

structure TOk (P : Program) (t : TypeId) (i : TI) : Prop where
  info : ∃ info, P.info? t = some info ∧ info.size = i.size ∧ info.bytes = i.bytes
  zero : (∃ n, i.kind = .tuple n) ∨ ∃ info z, P.info? t = some info ∧ info.zero = some z ∧ z.cells.toList.length = i.zero.length ∧ i.zero.length = i.size ∧
    ∀ (j : Nat) v c, i.zero[j]? = some v → z.cells.toList[j]? = some c → zmatch v c = true
  desc : ∃ d, P.underlying t = some d ∧ KOk i.kind d

section
variable {P : Program} {t : TypeId} {i : TI} {w : World}

theorem run_typeInfo_of {info : TypeInfo} (h : P.info? t = some info) : (typeInfo t).run P w = .ok info w := by
  simp [typeInfo, h]
theorem run_sizeOf_of (h : TOk P t i) : (sizeOf t).run P w = .ok i.size w := by
  obtain ⟨info, h1, h2, _⟩ := h.info
  simp [sizeOf, run_typeInfo_of h1, h2]
theorem run_underlying_of {d : TypeDesc} (h : P.underlying t = some d) : (underlying t).run P w = .ok d w := by
  simp [underlying, h]
theorem run_isAgg_of (h : TOk P t i) : (isAgg t).run P w = .ok i.agg w := by
  obtain ⟨d, h1, h2⟩ := h.desc
  simp only [isAgg, Sem.run_bind, run_underlying_of h1, Result.andThen_ok]
  unfold TI.agg
  generalize i.kind = k at h2
  unfold KOk at h2
  split at h2 <;> first | rfl | exact h2.elim | (simp_all; done)

theorem kok_int {k : IntKind} {d : TypeDesc} (h : KOk (.int k) d) : d = .int k := by cases d <;> simp_all [KOk]
theorem kok_bool {d : TypeDesc} (h : KOk .bool d) : d = .bool := by cases d <;> simp_all [KOk]
theorem kok_string {d : TypeDesc} (h : KOk .string d) : d = .string := by cases d <;> simp_all [KOk]
theorem kok_pointer {e : TypeId} {d : TypeDesc} (h : KOk (.pointer e) d) : d = .pointer e := by cases d <;> simp_all [KOk]
theorem kok_slice {e : TypeId} {d : TypeDesc} (h : KOk (.slice e) d) : d = .slice e := by cases d <;> simp_all [KOk]
theorem kok_array {n : Nat} {e : TypeId} {d : TypeDesc} (h : KOk (.array n e) d) : d = .array n e := by cases d <;> simp_all [KOk]
theorem kok_struct {fs : List (Nat × TypeId)} {d : TypeDesc} (h : KOk (.struct fs) d) : ∃ fields, d = .struct fields ∧ fields.toList.map (fun f => (f.offset, f.type)) = fs := by cases d <;> simp_all [KOk]
theorem kok_iface {d : TypeDesc} (h : KOk .iface d) : ∃ ms, d = .interface ms := by cases d <;> simp_all [KOk]
end

def putCells (w : World) (b o : Nat) : List Value → World
  | [] => w
  | v :: vs => putCells (w.setCell ⟨b, o, none⟩ v) b (o + 1) vs

def setA (cv : Array Value) (o : Nat) : List Value → Array Value
  | [] => cv
  | v :: vs => setA (cv.setIfInBounds o v) (o + 1) vs

@[simp] theorem setA_size (cv : Array Value) (o : Nat) (vs : List Value) : (setA cv o vs).size = cv.size := by
  induction vs generalizing cv o with
  | nil => rfl
  | cons v vs ih => simp [setA, ih]

theorem setA_get (cv : Array Value) (o : Nat) (vs : List Value) (j : Nat) (h : o + vs.length ≤ cv.size) :
    (setA cv o vs)[j]? = if o ≤ j ∧ j < o + vs.length then vs[j - o]? else cv[j]? := by
  induction vs generalizing cv o with
  | nil => simp [setA]; intro h1 h2; omega
  | cons v vs ih =>
    simp only [List.length_cons] at h
    rw [setA, ih (cv.setIfInBounds o v) (o + 1) (by simp; omega)]
    by_cases h1 : o + 1 ≤ j ∧ j < o + 1 + vs.length
    · rw [if_pos h1, if_pos (by simp; omega), show j - o = (j - (o + 1)) + 1 by omega, List.getElem?_cons_succ]
    · rw [if_neg h1]
      by_cases h2 : j = o
      · subst h2
        rw [if_pos (by simp), Array.getElem?_setIfInBounds]
        simp; omega
      · rw [if_neg (by simp; omega), Array.getElem?_setIfInBounds, if_neg (by omega)]

theorem putCells_heap (w : World) (b o : Nat) (vs : List Value) (i : Nat) :
    (putCells w b o vs).heap[i]? = if i = b then (w.heap[i]?).map fun
      | .cells c elem frozen => .cells (setA c o vs) elem frozen
      | o => o else w.heap[i]? := by
  induction vs generalizing w o with
  | nil =>
    simp only [putCells, setA]
    split
    · cases w.heap[i]? with
      | none => rfl
      | some x => cases x <;> rfl
    · rfl
  | cons v vs ih =>
    simp only [putCells, setA]
    rw [ih]
    split
    · rename_i h
      subst h
      simp only [World.setCell, Array.getElem?_modify, if_true]
      cases w.heap[i]? with
      | none => rfl
      | some x => cases x <;> rfl
    · rename_i h
      simp only [World.setCell, Array.getElem?_modify]
      rw [if_neg (by omega)]

theorem putCells_rest (w : World) (b o : Nat) (vs : List Value) :
    (putCells w b o vs).heap.size = w.heap.size ∧ (putCells w b o vs).os = w.os ∧ (putCells w b o vs).tape = w.tape ∧ (putCells w b o vs).output = w.output := by
  induction vs generalizing w o with
  | nil => exact ⟨rfl, rfl, rfl, rfl⟩
  | cons v vs ih =>
    obtain ⟨h1, h2, h3, h4⟩ := ih (w.setCell ⟨b, o, none⟩ v) (o + 1)
    exact ⟨by simp only [putCells]; rw [h1]; simp, h2, h3, h4⟩

theorem cell?_of_heap {w : World} {b : Nat} {cv : Array Value} {el : TypeId} {fr : Nat × Nat} (h : w.heap[b]? = some (.cells cv el fr)) (o : Nat) : w.cell? ⟨b, o, none⟩ = cv[o]? := by
  simp [World.cell?, h]
theorem frozen?_of_heap {w : World} {b : Nat} {cv : Array Value} {el : TypeId} {fr : Nat × Nat} (h : w.heap[b]? = some (.cells cv el fr)) (o : Nat) (hf : fr.2 ≤ o) : w.frozen? ⟨b, o, none⟩ = false := by
  obtain ⟨lo, hi⟩ := fr
  simp only [World.frozen?, h]
  simp only at hf
  simp; omega

theorem run_storeCells_plain {P : Program} (vs : List Value) : ∀ (w : World) (b o k : Nat) (cv : Array Value) (el : TypeId) (fr : Nat × Nat), w.heap[b]? = some (.cells cv el fr) → o + k + vs.length ≤ cv.size → fr.2 ≤ o + k →
    (∀ v, v ∈ vs → v.oneCell' = true) → (storeCells ⟨b, o, none⟩ vs k).run P w = .ok () (putCells w b (o + k) vs) := by
  induction vs with
  | nil => intro w b o k cv el fr _ _ _ _; simp [storeCells, putCells]
  | cons v vs ih =>
    intro w b o k cv el fr h hk hf hv
    simp only [List.length_cons] at hk
    have hc : w.cell? ⟨b, o + k, none⟩ = some (cv[o + k]'(by omega)) := by rw [cell?_of_heap h]; simp
    have hfr := frozen?_of_heap h (o + k) hf
    simp only [storeCells, add_plain, Sem.run_bind]
    rw [run_store _ _ _ _ _ (hv v (by simp)), hc]
    simp only [hfr, Bool.false_eq_true, if_false, Result.andThen_ok]
    rw [ih (w.setCell ⟨b, o + k, none⟩ v) b o (k + 1) (cv.setIfInBounds (o + k) v) el fr (by simp [World.setCell, Array.getElem?_modify, h]) (by simp; omega) (by omega) (fun x hx => hv x (by simp [hx]))]
    rfl

section
variable {P : Program} {t : TypeId} {i : TI} {w : World}

theorem run_loadVar_of (h : TOk P t i) (b o : Nat) (cs : List Value) (hl : cs.length = i.size) (hc : ∀ (j : Nat) c, cs[j]? = some c → w.cell? ⟨b, o + j, none⟩ = some c) (hs : i.agg = false → i.size = 1) :
    (loadVar t ⟨b, o, none⟩).run P w = .ok (if i.agg then .agg cs.toArray else cs.headD undef) w := by
  simp only [loadVar, Sem.run_bind, run_isAgg_of h, Result.andThen_ok, Sem.run_ite]
  cases hi : i.agg with
  | true =>
    simp only [if_true, Sem.run_bind, run_sizeOf_of h, Result.andThen_ok]
    rw [← hl, run_loadCells_list w ⟨b, o, none⟩ cs (fun j v hj => by rw [add_plain]; exact hc j v hj)]
    simp
  | false =>
    have h1 := hs hi
    obtain ⟨c, rfl⟩ : ∃ c, cs = [c] := by
      match cs, hl.trans h1 with
      | [c], _ => exact ⟨c, rfl⟩
    have := hc 0 c rfl
    simp only [Nat.add_zero] at this
    simp [run_load, this]
end
end Go.Ab
end
section
namespace Go.Ab

section
variable {gl : Nat → Option (List V)} {G : Gh} {lam : Nat → Nat} {a : Act} {w : World} {st : St}

theorem put_tmps (a : Act) (dst : Option Nat) (c : Value) : (a.put dst c).defers = a.defers ∧ (a.put dst c).tmps.size = a.tmps.size := by
  cases dst <;> simp [Act.put]

theorem put_get (a : Act) (d : Nat) (c : Value) (r : Nat) : (a.put (some d) c).tmps.getD r undef = if d = r ∧ r < a.tmps.size then c else a.tmps.getD r undef := by
  simp only [Act.put, Array.getD_eq_getD_getElem?, Array.getElem?_setIfInBounds]
  by_cases h : d = r
  · subst h
    by_cases h2 : d < a.tmps.size
    · simp [h2]
    · simp [h2]
  · simp [h]

theorem Inv.put (h : Inv gl G lam a w st) (dst : Option Nat) (x : RV) (c : Value) (hr : ∀ d, dst = some d → RRel G lam w d x c) : Inv gl G lam (a.put dst c) w (st.put dst x) := by
  cases dst with
  | none => exact h
  | some d =>
    refine ⟨by rw [(put_tmps _ _ _).1]; exact h.defers, by rw [(put_tmps _ _ _).2]; simp [St.put, St.setReg, h.len], by simp [St.put, St.setReg, h.lenl], fun r y hy => ?_, h.locs, h.sto⟩
    rw [put_get]
    simp only [St.put, St.setReg, List.getElem?_set] at hy
    by_cases hd : d = r
    · subst hd
      rw [if_pos rfl] at hy
      split at hy
      · rename_i hlt
        rw [if_pos ⟨rfl, by rw [h.len]; exact hlt⟩]
        obtain rfl := Option.some.inj hy
        exact hr d rfl
      · exact absurd hy (by simp)
    · rw [if_neg hd] at hy
      rw [if_neg (by simp [hd])]
      exact h.regs r y hy

theorem clr_rel {r : Nat} {x : RV} {c : Value} (h : RRel G lam w r x c) : RRel G lam w r (clr x) c := by
  cases x with
  | val v o => exact ⟨h.1, fun hh => by simp at hh⟩
  | _ => exact h

theorem clearRegs_get (regs : List RV) (rs : List Nat) (r : Nat) : (clearRegs regs rs)[r]? = if rs.contains r then (regs[r]?).map clr else regs[r]? := by
  induction rs generalizing regs with
  | nil => simp [clearRegs]
  | cons x rs ih =>
    rw [clearRegs, ih, List.getElem?_modify]
    by_cases hx : x = r
    · subst hx
      simp only [if_true, List.contains_cons, beq_self_eq_true, Bool.true_or]
      split
      · cases regs[x]? with
        | none => rfl
        | some y => cases y <;> rfl
      · cases regs[x]? <;> rfl
    · have h2 : (r == x) = false := by simp; exact fun e => hx e.symm
      simp only [hx, List.contains_cons, h2, Bool.false_or, if_false]
      cases regs[r]? <;> simp

theorem clearRegs_length (regs : List RV) (rs : List Nat) : (clearRegs regs rs).length = regs.length := by
  induction rs generalizing regs with
  | nil => rfl
  | cons x rs ih => simp [clearRegs, ih]

theorem Inv.clear (h : Inv gl G lam a w st) (rs : List Nat) : Inv gl G lam a w (st.clear rs) := by
  refine ⟨h.defers, by simp only [St.clear, clearRegs_length]; exact h.len, by simp only [St.clear, clearRegs_length]; exact h.lenl, fun r y hy => ?_, h.locs, h.sto⟩
  simp only [St.clear, clearRegs_get] at hy
  split at hy
  · cases hx : st.regs[r]? with
    | none => rw [hx] at hy; simp at hy
    | some x =>
      rw [hx] at hy
      obtain rfl := Option.some.inj hy
      exact clr_rel (h.regs r x hx)
  · exact h.regs r y hy

theorem clear_not_flagged (rs : List Nat) (t : Nat) (ht : rs.contains t = true) : ¬ (st.clear rs).flagged (.reg t) := by
  rintro ⟨v, hv⟩
  simp only [St.clear, clearRegs_get, ht, if_true] at hv
  cases hx : st.regs[t]? with
  | none => rw [hx] at hv; simp at hv
  | some x => rw [hx] at hv; cases x <;> simp [clr] at hv

/-- A token goes from one place to another. -/
theorem Inv.token (h : Inv gl G lam a w st) {p q : Place} {v : V} {c : Value} (ho : Own G w p v c) (hp : ¬ st.flagged p) (hp1 : ∀ r, p ≠ .box r) (hp2 : ∀ b, p ≠ .blk b) :
    ∃ G', Ext G w G' w ∧ Inv gl G' lam a w st ∧ Own G' w q v c ∧ G'.N = G.N := by
  by_cases hd : ∃ k e es a n cap, v = .slice k e es ∧ c = .slice (some a) n cap
  · obtain ⟨k, e, es, ad, n, cap, rfl, rfl⟩ := hd
    obtain ⟨h1, h2, h3, h4, h5⟩ := ho
    · refine ⟨{ G with owner := upd G.owner ad.block (some q) }, ?_, ?_, ?_, rfl⟩
      · exact ⟨Nat.le_refl _, fun _ _ => rfl, fun _ _ => rfl, fun _ => Nat.le_refl _, fun _ _ _ => rfl, rfl, rfl, rfl, Nat.le_refl _, fun i _ hi => ⟨rfl, rfl, by
          show upd G.owner ad.block (some q) i = none
          rw [upd_other]
          · exact hi
          · rintro rfl; rw [h3] at hi; exact absurd hi (by simp)⟩⟩
      · refine h.move ?_ ⟨fun i p' hp' hf => ⟨rfl, rfl, ?_⟩⟩ (fun i hi => ?_) rfl
        · exact ⟨Nat.le_refl _, fun _ _ => rfl, fun _ _ => rfl, fun _ => Nat.le_refl _, fun _ _ _ => rfl, rfl, rfl, rfl, Nat.le_refl _, fun i _ hi => ⟨rfl, rfl, by
            show upd G.owner ad.block (some q) i = none
            rw [upd_other]
            · exact hi
            · rintro rfl; rw [h3] at hi; exact absurd hi (by simp)⟩⟩
        · show upd G.owner ad.block (some q) i = _
          rw [upd_other]
          · exact hp'
          · rintro rfl
            rw [h3] at hp'
            obtain rfl := Option.some.inj hp'
            rcases hf with hf | ⟨r, hr⟩ | ⟨b, hb⟩
            · exact hp hf
            · exact hp1 r hr
            · exact hp2 b hb
        · obtain ⟨a1, a2⟩ := h.sto.wf i hi
          refine ⟨a1, ?_⟩
          show upd G.owner ad.block (some q) i = _
          rw [upd_other]
          · exact a2
          · rintro rfl; rw [h3] at a2; exact absurd a2 (by simp)
      · exact ⟨h1, h2, by simp, h4, h5⟩
  · refine ⟨G, Ext.refl _ _, h, ?_, rfl⟩
    unfold Own at *
    split at ho
    · rename_i k e es ad n cap
      exact absurd ⟨k, e, es, ad, n, cap, rfl, rfl⟩ hd
    · exact ho
    · trivial

theorem cell?_alloc_old' {w : World} {o : Obj} {b j : Nat} (h : b < w.heap.size) : (w.alloc o).cell? ⟨b, j, none⟩ = w.cell? ⟨b, j, none⟩ := World.cell?_alloc_lt _ _ _ h

theorem lim_lt {G : Gh} {w : World} (h : WF G w) {b o : Nat} (ho : o < G.lim b) : b < w.heap.size := by
  rcases Nat.lt_or_ge b w.heap.size with h1 | h1
  · exact h1
  · rw [(h b h1).1] at ho; omega

theorem owner_lt {G : Gh} {w : World} (h : WF G w) {b : Nat} {p : Place} (ho : G.owner b = some p) : b < w.heap.size := by
  rcases Nat.lt_or_ge b w.heap.size with h1 | h1
  · exact h1
  · rw [(h b h1).2] at ho; simp at ho

theorem heap_alloc_lt {w : World} {o : Obj} {i : Nat} (h : i < w.heap.size) : (w.alloc o).heap[i]? = w.heap[i]? := by
  show (w.heap.push o)[i]? = _
  rw [Array.getElem?_push, if_neg (by omega)]

theorem heap_alloc_new (w : World) (o : Obj) : (w.alloc o).heap[w.heap.size]? = some o := by
  show (w.heap.push o)[w.heap.size]? = _
  simp

/-- A new block: so many of its cells settled, held by whom. -/
def Gh.new (G : Gh) (w : World) (lim : Nat) (p : Option Place) : Gh := { G with lim := upd G.lim w.heap.size lim, owner := upd G.owner w.heap.size p }

theorem Ext.alloc {G : Gh} {w : World} (wf : WF G w) (o : Obj) (lim : Nat) (p : Option Place) : Ext G w (G.new w lim p) (w.alloc o) where
  N := Nat.le_refl _
  μ _ _ := rfl
  ty _ _ := rfl
  lim b := by
    show _ ≤ upd G.lim w.heap.size lim b
    by_cases hb : b = w.heap.size
    · subst hb; rw [(wf _ (Nat.le_refl _)).1]; omega
    · rw [upd_other _ _ hb]; exact Nat.le_refl _
  cell b o ho := cell?_alloc_old' (lim_lt wf ho)
  os := rfl
  tape := rfl
  output := rfl
  size := by simp
  old i hi ho := ⟨heap_alloc_lt hi, upd_other _ _ (by omega), by show upd G.owner _ _ i = _; rw [upd_other _ _ (by omega)]; exact ho⟩

theorem WF.alloc {G : Gh} {w : World} (wf : WF G w) (o : Obj) (lim : Nat) (p : Option Place) : WF (G.new w lim p) (w.alloc o) := by
  intro i hi
  simp at hi
  obtain ⟨h1, h2⟩ := wf i (by omega)
  exact ⟨(upd_other _ _ (by omega)).trans h1, (upd_other _ _ (by omega)).trans h2⟩

theorem Keeps.alloc {G : Gh} {w : World} {fl : Place → Prop} (wf : WF G w) (o : Obj) (lim : Nat) (p : Option Place) : Keeps G w (G.new w lim p) (w.alloc o) fl :=
  ⟨fun i q hq _ => by
    have := owner_lt wf hq
    exact ⟨heap_alloc_lt this, upd_other _ _ (by omega), by show upd G.owner _ _ i = _; rw [upd_other _ _ (by omega)]; exact hq⟩⟩

theorem Inv.alloc (h : Inv gl G lam a w st) (o : Obj) (lim : Nat) (p : Option Place) : Inv gl (G.new w lim p) lam a (w.alloc o) st :=
  h.move (Ext.alloc h.sto.wf o lim p) (Keeps.alloc h.sto.wf o lim p) (h.sto.wf.alloc o lim p) rfl
end
end Go.Ab
end
