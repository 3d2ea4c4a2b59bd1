/- The abstract values and the abstract interpreter over the model's code: definitions. -/
import Derived.Calls
import Derived.Below
set_option linter.unusedSimpArgs false
set_option linter.unusedVariables false
set_option linter.deprecated false
namespace Go.Ab

inductive V where
  | any
  | bool (b : Bool)
  | int (k : IntKind) (n : Int)
  | str (s : ByteArray)
  | nilp
  | ptr (t : TypeId) (b o : Nat)
  | eptr (k : Nat) (e : List V) (o : Nat)
  | nils
  | slice (k : Nat) (e : TypeId) (es : List (List V))
  | func (fn : Fn) (first cap : List V)
  | nilFunc
  | iface (t : TypeId) (v : V)
  | nilIface
  | agg (cs : List V)
  | lit (c : Value)
  deriving Inhabited

abbrev Cell := V × Bool
abbrev Sto := List (List Cell)

inductive RV where
  | dead
  | val (v : V) (own : Bool)
  | lptr (r o : Nat)
  | tup (cs : List Cell)
  deriving Inhabited

structure St where
  regs : List RV
  locs : List (List Cell)
  sto : Sto

inductive End where
  | ret (vs : List Cell)
  | pan (v : V)

abbrev Res := End × Sto
abbrev CallF := FuncId → List Cell → Sto → Option Res

inductive Ex where
  | normal
  | exit (id : Nat)
  | ret
  | pan (v : V)

/-- What an operation comes to. -/
inductive Out where
  | next (st : St)
  | pan (v : V) (st : St)

inductive TK where
  | bool | int (k : IntKind) | string | pointer (e : TypeId) | slice (e : TypeId) | array (n : Nat) (e : TypeId)
  | struct (fs : List (Nat × TypeId)) | iface | func | map (k e : TypeId) | tuple (n : Nat) | other
  deriving Inhabited

structure TI where
  kind : TK
  size : Nat
  bytes : Nat
  zero : List V
  deriving Inhabited

structure Hints where
  keep : Nat → List Nat
  steal : List Nat
  esc : List Nat
  ownres : List (Nat × Nat)
  lp : List Nat
  ep : List Nat
  roots : List (Nat × Nat)
  ord : Nat → List Nat
  own : List Nat

structure FDef where
  fn : Func
  code : Code
  hints : Hints

structure Ctx where
  T : TypeId → Option TI
  glob : Nat → Option (List V)
  ext : FuncId → Option (List Cell → Sto → Option Res)
  fdef : FuncId → Option FDef

def TI.isTup (i : TI) : Bool := match i.kind with | .tuple _ => true | _ => false
def TI.agg (i : TI) : Bool := match i.kind with | .array .. | .struct _ => true | _ => false

/-! Named, so that they stay folded on what is not known. -/
def grd (b : Bool) : Option Unit := bif b then some () else none
def V.asInt (v : V) (k : IntKind) : Option Int := match v with | .int k' n => if k' = k then some n else none | _ => none
def V.asBool (v : V) : Option Bool := match v with | .bool b => some b | _ => none
def V.asStr (v : V) : Option ByteArray := match v with | .str s => some s | _ => none
def V.asSlice (v : V) (k : Nat) (e : TypeId) : Option (List (List V)) := match v with | .slice k' e' es => if k' = k ∧ e' = e then some es else none | .nils => some [] | _ => none
def V.asArr (v : V) (n : Nat) : Option (List V) := match v with | .eptr k e o => if k = n ∧ o = 0 then some e else none | _ => none
def V.nonnil (v : V) : Option V := match v with | .ptr t b o => some (.ptr t b o) | .eptr k e o => some (.eptr k e o) | .func (.func f) a b => some (.func (.func f) a b) | _ => none
def V.ptrNil (v : V) : Option Bool := match v with | .nilp => some true | .ptr .. => some false | .eptr .. => some false | _ => none
def V.ifaceNil (v : V) : Option Bool := match v with | .nilIface => some true | .iface .. => some false | _ => none
def V.asFunc (v : V) : Option (FuncId × List V × List V) := match v with | .func (.func f) a b => some (f, a, b) | _ => none
def V.asIface (v : V) : Option V := match v with | .iface t u => some (.iface t u) | _ => none
def V.cell (v : V) (i : Nat) : V := match v with | .agg cs => cs.getD i .any | _ => .any
/-- Is it a value of so many cells, an aggregate or none? -/
def V.fits (v : V) (agg : Bool) (n : Nat) : Bool := match v with | .agg cs => agg && cs.length == n | .any => false | _ => !agg && n == 1
def V.addOff (v : V) (n : Nat) : V := match v with | .ptr t b o => .ptr t b (o + n) | .eptr k e o => .eptr k e (o + n) | _ => .any
def V.isNo (v : V) : Bool := match v with | .slice _ _ [] => true | _ => false
def V.plain (v : V) : Bool := match v with | .bool _ | .int .. | .str _ | .nilp | .ptr .. | .nilIface | .nilFunc => true | _ => false
def V.isSl (v : V) : Bool := match v with | .slice .. | .nils => true | _ => false
def V.isPtr (v : V) : Bool := match v with | .ptr .. | .eptr .. => true | _ => false

/-- The cells of a value of so many cells. -/
def cellsN (v : V) (agg : Bool) (n : Nat) : List V := if agg then (List.range n).map v.cell else [v]
def cellsO (v : V) (own agg : Bool) (n : Nat) : List Cell := if agg then (List.range n).map fun i => (v.cell i, own && (v.cell i).isNo) else [(v, own)]

def cellD : Cell := (.any, false)

def gather (cs : List Cell) (o n : Nat) (agg : Bool) : Option V :=
  if o + n ≤ cs.length then (if agg then some (.agg ((List.range n).map fun i => (cs.getD (o + i) cellD).1)) else if n = 1 then some (cs.getD o cellD).1 else none) else none

/-- What lies in so many cells: an aggregate, or one value. -/
def memGet (σ : Sto) (p : V) (agg : Bool) (n : Nat) : Option V :=
  match p with
  | .ptr _ b o => (σ[b]?).bind fun cs => gather cs o n agg
  | .eptr k e o => if o + n ≤ k then (if agg then some (.agg ((List.range n).map fun i => e.getD (o + i) .any)) else if n = 1 then some (e.getD o .any) else none) else none
  | _ => none

def setCells (cs : List Cell) (o : Nat) : List Cell → List Cell
  | [] => cs
  | x :: xs => setCells (cs.set o x) (o + 1) xs

def memSet (σ : Sto) (p : V) (xs : List Cell) : Option Sto :=
  match p with
  | .ptr _ b o => (σ[b]?).bind fun cs => if o + xs.length ≤ cs.length then some (σ.set b (setCells cs o xs)) else none
  | _ => none

/-- One cell with its token, which is taken. -/
def memTake (σ : Sto) (p : V) : Option (V × Sto) :=
  match p with
  | .ptr _ b o => (σ[b]?).bind fun cs => if o < cs.length then (if (cs.getD o cellD).2 then some ((cs.getD o cellD).1, σ.set b (cs.set o ((cs.getD o cellD).1, false))) else none) else none
  | _ => none

def ofVal : Value → V
  | .bool b => .bool b
  | .int k n => .int k n
  | .string s => .str s
  | .pointer none => .nilp
  | .slice none 0 0 => .nils
  | .nilFunc => .nilFunc
  | .nilIface => .nilIface
  | .func (.func f) ⟨[]⟩ ⟨[]⟩ => .func (.func f) [] []
  | _ => .any

/-- A string's bytes, as elements of one cell. -/
def bytesV (s : ByteArray) : List (List V) := s.data.toList.map fun b => [.int .u8 b.toNat]
def byteAt (s : ByteArray) (i : Nat) : Int := (s.data.toList.getD i 0).toNat

/-- Room for an append: so many elements of so many bytes. -/
def room (n : Nat) : Bool := decide (n.log2 ≤ 33)
def strRoom (x y : ByteArray) : Bool := decide ((x.size + y.size).log2 ≤ 61)
theorem log2_bound {n k : Nat} (h : n.log2 ≤ k) : n < 2 ^ (k + 1) := by
  by_cases h0 : n = 0
  · subst h0; exact Nat.two_pow_pos _
  · exact (Nat.log2_lt h0).1 (by omega)
theorem room_le {n b : Nat} (h : room n = true) (hb : b ≤ 4096) : 5 * n * b + 2 ^ 24 ≤ 2 ^ 50 := by
  have h1 := log2_bound (of_decide_eq_true h)
  have h2 : 5 * n * b ≤ 5 * 2 ^ 34 * 4096 := Nat.mul_le_mul (by omega) hb
  omega
theorem strRoom_le {x y : ByteArray} (h : strRoom x y = true) : x.size + y.size ≤ 2 ^ 62 := Nat.le_of_lt (log2_bound (of_decide_eq_true h))

def noOwn : RV → RV
  | .val v _ => .val v false
  | .tup cs => .tup (cs.map fun c => (c.1, false))
  | x => x

def valOwn : RV → RV
  | .tup cs => .tup (cs.map fun c => (c.1, false))
  | x => x

def isLptr (r : Nat) : RV → Bool
  | .lptr r' _ => r' == r
  | _ => false

inductive Eff where
  | val (x : RV)
  | getL (r o n : Nat) (agg steal : Bool)
  | setL (r o : Nat) (cs : List Cell)
  | newL (cs : List Cell)
  | getS (p : V) (n : Nat) (agg : Bool)
  | takeS (p : V)
  | setS (p : V) (cs : List Cell)
  | newS (t : TypeId) (cs : List Cell)
  | tupTake (r i : Nat)
  | call (f : FuncId) (args : List Cell) (n : Nat)
  | pan (v : V)

inductive Cls where | pure | loc | sto
  deriving DecidableEq

def addrCls (H : Hints) : Operand → Cls
  | .tmp r => if H.lp.contains r then .loc else if H.ep.contains r then .pure else .sto
  | _ => .pure

section
variable (C : Ctx)

def opndT (regs : List RV) (t : TypeId) : Operand → RV
  | .tmp r => regs.getD r .dead
  | .const c => match ofVal c with
    | .nils => match C.T t with
      | some ⟨.slice e, _, _, _⟩ => match C.T e with | some i => .val (.slice i.size e []) true | none => .val .nils true
      | _ => .val .nils true
    | .any => .dead
    | v => .val v false
  | .global g => match C.glob g with | some cs => .val (.eptr cs.length cs 0) false | none => .dead
  | .func f => .val (.func (.func f) [] []) false

def vk (regs : List RV) (t : TypeId) (x : Operand) : Option V :=
  match opndT C regs t x with
  | .val v _ => some v
  | _ => none

def ck (regs : List RV) (t : TypeId) (x : Operand) : Option Cell :=
  match opndT C regs t x with
  | .val v o => some (v, o)
  | _ => none

def intOp (op : BinOp) (k : IntKind) (a b : Int) : Option V :=
  match op with
  | .add => some (.int k (k.wrap (a + b)))
  | .sub => some (.int k (k.wrap (a - b)))
  | .mul => some (.int k (k.wrap (a * b)))
  | .quo => (grd (!(b == 0))).bind fun _ => some (.int k (k.wrap (a.tdiv b)))
  | .rem => (grd (!(b == 0))).bind fun _ => some (.int k (a.tmod b))
  | .and => some (.int k (k.wrap (BitVec.ofInt k.bits a &&& BitVec.ofInt k.bits b).toNat))
  | .or => some (.int k (k.wrap (BitVec.ofInt k.bits a ||| BitVec.ofInt k.bits b).toNat))
  | .eql => some (.bool (a == b))
  | .neq => some (.bool (a != b))
  | .lss => some (.bool (a < b))
  | .leq => some (.bool (a ≤ b))
  | .gtr => some (.bool (a > b))
  | .geq => some (.bool (a ≥ b))
  | _ => none

def strOp (op : BinOp) (x y : ByteArray) : Option V :=
  match op with
  | .add => (grd (strRoom x y)).bind fun _ => some (.str (x ++ y))
  | .eql => some (.bool (x.toList == y.toList))
  | .neq => some (.bool !(x.toList == y.toList))
  | _ => none

def eqOp (op : BinOp) (b : Bool) : Option V :=
  match op with
  | .eql => some (.bool b)
  | .neq => some (.bool (!b))
  | _ => none

def isNilP : Operand → Bool
  | .const (.pointer none) => true
  | _ => false
def isNilI : Operand → Bool
  | .const .nilIface => true
  | _ => false

def binK (regs : List RV) (op : BinOp) (t : TypeId) (x y : Operand) : Option V :=
  (C.T t).bind fun i => match i.kind with
    | .int k => (vk C regs t x).bind fun a => (vk C regs t y).bind fun b => (a.asInt k).bind fun a => (b.asInt k).bind fun b => intOp op k a b
    | .string => (vk C regs t x).bind fun a => (vk C regs t y).bind fun b => a.asStr.bind fun a => b.asStr.bind fun b => strOp op a b
    | .bool => (vk C regs t x).bind fun a => (vk C regs t y).bind fun b => a.asBool.bind fun a => b.asBool.bind fun b => eqOp op (a == b)
    | .pointer _ => if isNilP y then (vk C regs t x).bind fun a => a.ptrNil.bind fun b => eqOp op b else none
    | .iface => if isNilI y then (vk C regs t x).bind fun a => a.ifaceNil.bind fun b => eqOp op b else none
    | _ => none

/-- The parts of a literal laid into cells. -/
def fillK (regs : List RV) (place : Nat → Option (Nat × Nat × TypeId)) (cs : List V) : List (Nat × Operand) → Option (List V)
  | [] => some cs
  | (i, x) :: rest => (place i).bind fun p => (C.T p.2.2).bind fun ti => (vk C regs p.2.2 x).bind fun v =>
      (grd (v.fits ti.agg p.2.1 && decide (p.1 + p.2.1 ≤ cs.length))).bind fun _ =>
        fillK regs place ((cs.take p.1) ++ cellsN v ti.agg p.2.1 ++ cs.drop (p.1 + p.2.1)) rest

/-- Are the parts neither slices nor aggregates? -/
def plainParts (regs : List RV) (ps : List (Nat × Operand)) : Bool := ps.all fun p => match opndT C regs 0 p.2 with | .val v _ => v.plain | _ => false

def chunks (k : Nat) : Nat → List V → List (List V)
  | 0, _ => []
  | n + 1, l => l.take k :: chunks k n (l.drop k)

def replZero (n : Nat) (z : List V) : List V := match n with | 0 => [] | n + 1 => z ++ replZero n z

/-- The arguments of a call. -/
def argCells (regs : List RV) : List (Operand × TypeId) → Option (List Cell)
  | [] => some []
  | (x, t) :: rest => (ck C regs t x).bind fun c => (argCells regs rest).bind fun cs => some (c :: cs)

def nres (t : TypeId) : Nat := match C.T t with | some ⟨.tuple n, _, _, _⟩ => n | _ => 1

def optInt (regs : List RV) (x : Option Operand) (d : Int) : Option Int :=
  match x with
  | none => some d
  | some x => (vk C regs 0 x).bind fun v => v.asInt .i64

def sameOpnd : Option Operand → Option Operand → Bool
  | some (.tmp a), some (.tmp b) => a == b
  | _, _ => false

def tmpOf : Operand → List Nat
  | .tmp r => [r]
  | _ => []

def distinct : List Nat → Bool
  | [] => true
  | x :: xs => !xs.contains x && distinct xs

/-- The registers whose tokens an operation takes. -/
def clearOf (H : Hints) (o : Oper) : List Nat :=
  match o.op with
  | .move x => if o.dst.any H.steal.contains then tmpOf x else []
  | .assign x => tmpOf x
  | .box _ x => tmpOf x
  | .store _ _ x => tmpOf x
  | .call c => match c.callee with
    | .builtin .append => (c.args.toList.take 1).flatMap tmpOf
    | .value _ => c.args.toList.flatMap tmpOf
    | _ => []
  | _ => []

/-- What an operation is about to do: off the registers alone. -/
def act (H : Hints) (o : Oper) (regs : List RV) : Option Eff :=
  match o.op with
  | .move x => if o.dst.any H.steal.contains then some (.val (valOwn (opndT C regs o.type x))) else some (.val (noOwn (opndT C regs o.type x)))
  | .assign x => some (.val (valOwn (opndT C regs o.type x)))
  | .pick c a b => (vk C regs 0 c).bind fun v => v.asBool.bind fun t => some (.val (noOwn (bif t then opndT C regs o.type a else opndT C regs o.type b)))
  | .alloc t => (C.T t).bind fun i => if i.isTup = true then none else if o.dst.any H.esc.contains then some (.newS t (i.zero.map fun v => (v, v.isSl))) else some (.newL (i.zero.map fun v => (v, v.isSl)))
  | .box t x => (C.T t).bind fun i => (ck C regs t x).bind fun c => (grd (c.1.fits i.agg i.size)).bind fun _ =>
      if o.dst.any H.esc.contains then some (.newS t (cellsO c.1 c.2 i.agg i.size)) else some (.newL (cellsO c.1 c.2 i.agg i.size))
  | .build t parts => (C.T t).bind fun i => match i.kind with
      | .struct fs => if (fs.all fun p => (C.T p.2).isSome) = true then (fillK C regs (fun j => (fs[j]?).bind fun p => (C.T p.2).map fun fi => (p.1, fi.size, p.2)) i.zero parts.toList).bind fun cs => some (.val (.val (.agg cs) (o.dst.any H.steal.contains && plainParts C regs parts.toList))) else none
      | .array _ e => (C.T e).bind fun ei => (fillK C regs (fun j => some (j * ei.size, ei.size, e)) i.zero parts.toList).bind fun cs => some (.val (.val (.agg cs) false))
      | _ => none
  | .buildSlice t len parts => (C.T t).bind fun i => match i.kind with
      | .slice e => (C.T e).bind fun ei => if len * ei.size ≤ 2 ^ 24 ∧ ei.isTup = false then
          (fillK C regs (fun j => some (j * ei.size, ei.size, e)) (replZero len ei.zero) parts.toList).bind fun cs => some (.val (.val (.slice ei.size e (chunks ei.size len cs)) true)) else none
      | _ => none
  | .load t a => (C.T t).bind fun i => match addrCls H a, opndT C regs 0 a with
      | .loc, .lptr r of => some (.getL r of i.size i.agg (o.dst.any H.steal.contains))
      | .pure, .val (.eptr k e of) _ => (memGet [] (.eptr k e of) i.agg i.size).bind fun v => some (.val (.val v false))
      | .sto, .val p _ => if o.dst.any H.steal.contains then (if i.agg || i.size != 1 then none else some (.takeS p)) else some (.getS p i.size i.agg)
      | _, _ => none
  | .store t a x => (C.T t).bind fun i => (ck C regs t x).bind fun c => (grd (c.1.fits i.agg i.size)).bind fun _ => match addrCls H a, opndT C regs 0 a with
      | .loc, .lptr r of => some (.setL r of (cellsO c.1 c.2 i.agg i.size))
      | .sto, .val p _ => some (.setS p (cellsO c.1 c.2 i.agg i.size))
      | _, _ => none
  | .nilCheck x => match opndT C regs 0 x with
    | .lptr r of => some (.val (.lptr r of))
    | .val v _ => v.nonnil.bind fun v => some (.val (.val v false))
    | _ => none
  | .binOp op t x y _ => (binK C regs op t x y).bind fun v => some (.val (.val v false))
  | .unOp op _ x => (vk C regs 0 x).bind fun v => match op with
    | .not => v.asBool.bind fun b => some (.val (.val (.bool !b) false))
    | .neg => (v.asInt .i64).bind fun n => some (.val (.val (.int .i64 (IntKind.i64.wrap (0 - n))) false))
    | _ => none
  | .convert src dst x => (C.T src).bind fun i => (C.T dst).bind fun j => match i.kind, j.kind with
      | .int k, .int k' => (vk C regs 0 x).bind fun v => (v.asInt k).bind fun n => some (.val (.val (.int k' (k'.wrap n)) false))
      | .string, .slice e => (C.T e).bind fun ei => match ei.kind with
        | .int .u8 => (vk C regs 0 x).bind fun v => v.asStr.bind fun s => some (.val (.val (.slice 1 e (bytesV s)) false))
        | _ => none
      | _, _ => none
  | .makeInterface t x => (C.T t).bind fun i => match i.kind with
    | .iface => none
    | _ => (vk C regs t x).bind fun v => some (.val (.val (.iface t v) false))
  | .slice t x lo hi mx => (C.T t).bind fun i => match i.kind with
      | .string => if mx.isSome then none else (vk C regs t x).bind fun v => v.asStr.bind fun s => (optInt C regs lo 0).bind fun l => (optInt C regs hi s.size).bind fun h =>
          (grd (decide (0 ≤ l) && decide (l ≤ h) && decide (h ≤ s.size))).bind fun _ => some (.val (.val (.str (s.extract l.toNat h.toNat)) false))
      | .slice e => (C.T e).bind fun ei => (vk C regs t x).bind fun v => (v.asSlice ei.size e).bind fun es => (optInt C regs lo 0).bind fun l => (optInt C regs hi es.length).bind fun h =>
            (grd (decide (0 ≤ l) && decide (l ≤ h) && decide (h ≤ es.length))).bind fun _ =>
              match mx with
               | none => some (.val (.val (.slice ei.size e ((es.take h.toNat).drop l.toNat)) false))
               | some _ => none
      | .array n e => (C.T e).bind fun ei => if mx.isSome = true ∨ ei.size ≠ 1 then none else (vk C regs 0 x).bind fun v => (v.asArr n).bind fun cs => (optInt C regs lo 0).bind fun l => (optInt C regs hi n).bind fun h =>
            (grd (decide (0 ≤ l) && decide (l ≤ h) && decide (h ≤ n) && decide (l < n))).bind fun _ => some (.val (.val (.slice 1 e (((cs.map fun v => [v]).take h.toNat).drop l.toNat)) false))
      | _ => none
  | .fieldAddr s x f => (C.T s).bind fun i => match i.kind with
      | .struct fs => (fs[f]?).bind fun p => (C.T p.2).bind fun fi => if fi.size = 0 then none else match opndT C regs 0 x with
          | .lptr r of => some (.val (.lptr r (of + p.1)))
          | .val v _ => (grd v.isPtr).bind fun _ => some (.val (.val (v.addOff p.1) false))
          | _ => none
      | _ => none
  | .field t x f => (C.T t).bind fun i => match i.kind with
      | .struct fs => (fs[f]?).bind fun p => (C.T p.2).bind fun fi => (vk C regs t x).bind fun v => (grd (v.fits true i.size && decide (p.1 + fi.size ≤ i.size) && (fi.agg || decide (0 < fi.size)))).bind fun _ =>
              if fi.agg then some (.val (.val (.agg ((List.range fi.size).map fun j => v.cell (p.1 + j))) false))
               else some (.val (.val (v.cell p.1) false))
      | _ => none
  | .indexAddr t x ix => (C.T t).bind fun i => match i.kind with
      | .slice e => (C.T e).bind fun ei => (vk C regs t x).bind fun v => (v.asSlice ei.size e).bind fun es => (vk C regs 0 ix).bind fun w => (w.asInt .i64).bind fun n =>
            (grd (decide (0 ≤ n) && decide (n < es.length))).bind fun _ => some (.val (.val (.eptr ei.size (es.getD n.toNat []) 0) false))
      | .array len e => (C.T e).bind fun ei => (vk C regs 0 x).bind fun p => (grd p.isPtr).bind fun _ => (vk C regs 0 ix).bind fun w => (w.asInt .i64).bind fun n =>
              (grd (decide (0 ≤ n) && decide (n < len))).bind fun _ => some (.val (.val (p.addOff (n.toNat * ei.size)) false))
      | _ => none
  | .index t x ix => (C.T t).bind fun i => match i.kind with
      | .string => (vk C regs t x).bind fun v => v.asStr.bind fun s => (vk C regs 0 ix).bind fun w => (w.asInt .i64).bind fun n =>
          (grd (decide (0 ≤ n) && decide (n < s.size))).bind fun _ => some (.val (.val (.int .u8 (byteAt s n.toNat)) false))
      | .array len e => (C.T e).bind fun ei => if ei.agg then none else if ei.size ≠ 1 then none else (vk C regs t x).bind fun v => (grd (v.fits true len)).bind fun _ => (vk C regs 0 ix).bind fun w => (w.asInt .i64).bind fun n =>
              (grd (decide (0 ≤ n) && decide (n < len))).bind fun _ => some (.val (.val (v.cell n.toNat) false))
      | _ => none
  | .makeFunc fn first captured => if first.size = 0 then (argCells C regs (captured.toList.map fun x => (x, 0))).bind fun cs => some (.val (.val (.func fn [] (cs.map (·.1))) false)) else none
  | .extract t ix => match t with
    | .tmp r => some (.tupTake r ix)
    | _ => none
  | .panic x => (vk C regs 0 x).bind fun v => v.asIface.bind fun v => some (.pan v)
  | .call c => match c.callee with
    | .builtin .len => match c.args.toList, c.argTypes.toList with
      | [x], [t] => (C.T t).bind fun i => match i.kind with
          | .string => (vk C regs t x).bind fun v => v.asStr.bind fun s => some (.val (.val (.int .i64 s.size) false))
          | .slice e => (C.T e).bind fun ei => (vk C regs t x).bind fun v => (v.asSlice ei.size e).bind fun es => some (.val (.val (.int .i64 es.length) false))
          | .array n _ => some (.val (.val (.int .i64 n) false))
          | _ => none
      | _, _ => none
    | .builtin .append => match c.args.toList, c.argTypes.toList with
      | [x, y], [t, u] => (C.T t).bind fun i => (C.T u).bind fun j => match i.kind, j.kind with
          | .slice e, .slice e' => (C.T e).bind fun ei => (C.T e').bind fun ei' => if ei.size = ei'.size ∧ ei.bytes ≤ 4096 ∧ 0 < ei.bytes ∧ ei.isTup = false then
                (match opndT C regs t x with
                 | .val v true => (v.asSlice ei.size e).bind fun es => (vk C regs u y).bind fun w => (w.asSlice ei.size e').bind fun xs =>
                     (grd (room (es.length + xs.length))).bind fun _ => some (.val (.val (.slice ei.size e (es ++ xs)) true))
                 | _ => none) else none
          | .slice e, .string => (C.T e).bind fun ei => if ei.size = 1 ∧ ei.bytes ≤ 4096 ∧ 0 < ei.bytes ∧ ei.isTup = false then
                (match opndT C regs t x with
                 | .val v true => (v.asSlice 1 e).bind fun es => (vk C regs u y).bind fun w => w.asStr.bind fun s =>
                     (grd (room (es.length + s.size))).bind fun _ => some (.val (.val (.slice 1 e (es ++ bytesV s)) true))
                 | _ => none) else none
          | _, _ => none
      | _, _ => none
    | .builtin .max => match c.args.toList with
      | [x, y] => (vk C regs 0 x).bind fun v => (v.asInt .i64).bind fun a => (vk C regs 0 y).bind fun w => (w.asInt .i64).bind fun b => some (.val (.val (.int .i64 (if a < b then b else a)) false))
      | _ => none
    | .builtin _ => none
    | .invoke .. => none
    | .value g => (vk C regs 0 g).bind fun gv => gv.asFunc.bind fun f =>
        if c.args.size = c.argTypes.size ∧ distinct (c.args.toList.flatMap tmpOf) then
          (argCells C regs (c.args.toList.zip c.argTypes.toList)).bind fun args => some (.call f.1 (f.2.1.map (fun v => (v, false)) ++ args ++ f.2.2.map fun v => (v, false)) (nres C o.type))
          else none
  | _ => none

/-! With what goes on behind: so that nothing stands between a question and its use. -/
def intOpK (op : BinOp) (k : IntKind) (a b : Int) (K : V → Option Res) : Option Res :=
  match op with
  | .quo => (grd (!(b == 0))).bind fun _ => K (.int k (k.wrap (a.tdiv b)))
  | .rem => (grd (!(b == 0))).bind fun _ => K (.int k (a.tmod b))
  | op => (intOp op k a b).bind K
def strOpK (op : BinOp) (x y : ByteArray) (K : V → Option Res) : Option Res :=
  match op with
  | .add => (grd (strRoom x y)).bind fun _ => K (.str (x ++ y))
  | op => (strOp op x y).bind K
def binKK (regs : List RV) (op : BinOp) (t : TypeId) (x y : Operand) (K : V → Option Res) : Option Res :=
  (C.T t).bind fun i => match i.kind with
    | .int k => (vk C regs t x).bind fun a => (vk C regs t y).bind fun b => (a.asInt k).bind fun a => (b.asInt k).bind fun b => intOpK op k a b K
    | .string => (vk C regs t x).bind fun a => (vk C regs t y).bind fun b => a.asStr.bind fun a => b.asStr.bind fun b => strOpK op a b K
    | .bool => (vk C regs t x).bind fun a => (vk C regs t y).bind fun b => a.asBool.bind fun a => b.asBool.bind fun b => (eqOp op (a == b)).bind K
    | .pointer _ => if isNilP y then (vk C regs t x).bind fun a => a.ptrNil.bind fun b => (eqOp op b).bind K else none
    | .iface => if isNilI y then (vk C regs t x).bind fun a => a.ifaceNil.bind fun b => (eqOp op b).bind K else none
    | _ => none
def fillKK (regs : List RV) (place : Nat → Option (Nat × Nat × TypeId)) : List V → List (Nat × Operand) → (List V → Option Res) → Option Res
  | cs, [], K => K cs
  | cs, (i, x) :: rest, K => (place i).bind fun p => (C.T p.2.2).bind fun ti => (vk C regs p.2.2 x).bind fun v =>
      (grd (v.fits ti.agg p.2.1 && decide (p.1 + p.2.1 ≤ cs.length))).bind fun _ =>
        fillKK regs place ((cs.take p.1) ++ cellsN v ti.agg p.2.1 ++ cs.drop (p.1 + p.2.1)) rest K
def optIntK (regs : List RV) (x : Option Operand) (d : Int) (K : Int → Option Res) : Option Res :=
  match x with
  | none => K d
  | some x => (vk C regs 0 x).bind fun v => (v.asInt .i64).bind K

/-- The same, with what goes on behind it. -/
def actK (H : Hints) (o : Oper) (regs : List RV) (K : Eff → Option Res) : Option Res :=
  match o.op with
  | .move x => if o.dst.any H.steal.contains then K (.val (valOwn (opndT C regs o.type x))) else K (.val (noOwn (opndT C regs o.type x)))
  | .assign x => K (.val (valOwn (opndT C regs o.type x)))
  | .pick c a b => (vk C regs 0 c).bind fun v => v.asBool.bind fun t => K (.val (noOwn (bif t then opndT C regs o.type a else opndT C regs o.type b)))
  | .alloc t => (C.T t).bind fun i => if i.isTup = true then none else if o.dst.any H.esc.contains then K (.newS t (i.zero.map fun v => (v, v.isSl))) else K (.newL (i.zero.map fun v => (v, v.isSl)))
  | .box t x => (C.T t).bind fun i => (ck C regs t x).bind fun c => (grd (c.1.fits i.agg i.size)).bind fun _ =>
      if o.dst.any H.esc.contains then K (.newS t (cellsO c.1 c.2 i.agg i.size)) else K (.newL (cellsO c.1 c.2 i.agg i.size))
  | .build t parts => (C.T t).bind fun i => match i.kind with
      | .struct fs => if (fs.all fun p => (C.T p.2).isSome) = true then fillKK C regs (fun j => (fs[j]?).bind fun p => (C.T p.2).map fun fi => (p.1, fi.size, p.2)) i.zero parts.toList fun cs => K (.val (.val (.agg cs) (o.dst.any H.steal.contains && plainParts C regs parts.toList))) else none
      | .array _ e => (C.T e).bind fun ei => fillKK C regs (fun j => some (j * ei.size, ei.size, e)) i.zero parts.toList fun cs => K (.val (.val (.agg cs) false))
      | _ => none
  | .buildSlice t len parts => (C.T t).bind fun i => match i.kind with
      | .slice e => (C.T e).bind fun ei => if len * ei.size ≤ 2 ^ 24 ∧ ei.isTup = false then
          fillKK C regs (fun j => some (j * ei.size, ei.size, e)) (replZero len ei.zero) parts.toList fun cs => K (.val (.val (.slice ei.size e (chunks ei.size len cs)) true)) else none
      | _ => none
  | .load t a => (C.T t).bind fun i => match addrCls H a, opndT C regs 0 a with
      | .loc, .lptr r of => K (.getL r of i.size i.agg (o.dst.any H.steal.contains))
      | .pure, .val (.eptr k e of) _ => (memGet [] (.eptr k e of) i.agg i.size).bind fun v => K (.val (.val v false))
      | .sto, .val p _ => if o.dst.any H.steal.contains then (if i.agg || i.size != 1 then none else K (.takeS p)) else K (.getS p i.size i.agg)
      | _, _ => none
  | .store t a x => (C.T t).bind fun i => (ck C regs t x).bind fun c => (grd (c.1.fits i.agg i.size)).bind fun _ => match addrCls H a, opndT C regs 0 a with
      | .loc, .lptr r of => K (.setL r of (cellsO c.1 c.2 i.agg i.size))
      | .sto, .val p _ => K (.setS p (cellsO c.1 c.2 i.agg i.size))
      | _, _ => none
  | .nilCheck x => match opndT C regs 0 x with
    | .lptr r of => K (.val (.lptr r of))
    | .val v _ => v.nonnil.bind fun v => K (.val (.val v false))
    | _ => none
  | .binOp op t x y _ => binKK C regs op t x y fun v => K (.val (.val v false))
  | .unOp op _ x => (vk C regs 0 x).bind fun v => match op with
    | .not => v.asBool.bind fun b => K (.val (.val (.bool !b) false))
    | .neg => (v.asInt .i64).bind fun n => K (.val (.val (.int .i64 (IntKind.i64.wrap (0 - n))) false))
    | _ => none
  | .convert src dst x => (C.T src).bind fun i => (C.T dst).bind fun j => match i.kind, j.kind with
      | .int k, .int k' => (vk C regs 0 x).bind fun v => (v.asInt k).bind fun n => K (.val (.val (.int k' (k'.wrap n)) false))
      | .string, .slice e => (C.T e).bind fun ei => match ei.kind with
        | .int .u8 => (vk C regs 0 x).bind fun v => v.asStr.bind fun s => K (.val (.val (.slice 1 e (bytesV s)) false))
        | _ => none
      | _, _ => none
  | .makeInterface t x => (C.T t).bind fun i => match i.kind with
    | .iface => none
    | _ => (vk C regs t x).bind fun v => K (.val (.val (.iface t v) false))
  | .slice t x lo hi mx => (C.T t).bind fun i => match i.kind with
      | .string => if mx.isSome then none else (vk C regs t x).bind fun v => v.asStr.bind fun s => optIntK C regs lo 0 fun l => optIntK C regs hi s.size fun h =>
          (grd (decide (0 ≤ l) && decide (l ≤ h) && decide (h ≤ s.size))).bind fun _ => K (.val (.val (.str (s.extract l.toNat h.toNat)) false))
      | .slice e => (C.T e).bind fun ei => (vk C regs t x).bind fun v => (v.asSlice ei.size e).bind fun es => optIntK C regs lo 0 fun l => optIntK C regs hi es.length fun h =>
            (grd (decide (0 ≤ l) && decide (l ≤ h) && decide (h ≤ es.length))).bind fun _ =>
              match mx with
               | none => K (.val (.val (.slice ei.size e ((es.take h.toNat).drop l.toNat)) false))
               | some _ => none
      | .array n e => (C.T e).bind fun ei => if mx.isSome = true ∨ ei.size ≠ 1 then none else (vk C regs 0 x).bind fun v => (v.asArr n).bind fun cs => optIntK C regs lo 0 fun l => optIntK C regs hi n fun h =>
            (grd (decide (0 ≤ l) && decide (l ≤ h) && decide (h ≤ n) && decide (l < n))).bind fun _ => K (.val (.val (.slice 1 e (((cs.map fun v => [v]).take h.toNat).drop l.toNat)) false))
      | _ => none
  | .fieldAddr s x f => (C.T s).bind fun i => match i.kind with
      | .struct fs => (fs[f]?).bind fun p => (C.T p.2).bind fun fi => if fi.size = 0 then none else match opndT C regs 0 x with
          | .lptr r of => K (.val (.lptr r (of + p.1)))
          | .val v _ => (grd v.isPtr).bind fun _ => K (.val (.val (v.addOff p.1) false))
          | _ => none
      | _ => none
  | .field t x f => (C.T t).bind fun i => match i.kind with
      | .struct fs => (fs[f]?).bind fun p => (C.T p.2).bind fun fi => (vk C regs t x).bind fun v => (grd (v.fits true i.size && decide (p.1 + fi.size ≤ i.size) && (fi.agg || decide (0 < fi.size)))).bind fun _ =>
              if fi.agg then K (.val (.val (.agg ((List.range fi.size).map fun j => v.cell (p.1 + j))) false))
               else K (.val (.val (v.cell p.1) false))
      | _ => none
  | .indexAddr t x ix => (C.T t).bind fun i => match i.kind with
      | .slice e => (C.T e).bind fun ei => (vk C regs t x).bind fun v => (v.asSlice ei.size e).bind fun es => (vk C regs 0 ix).bind fun w => (w.asInt .i64).bind fun n =>
            (grd (decide (0 ≤ n) && decide (n < es.length))).bind fun _ => K (.val (.val (.eptr ei.size (es.getD n.toNat []) 0) false))
      | .array len e => (C.T e).bind fun ei => (vk C regs 0 x).bind fun p => (grd p.isPtr).bind fun _ => (vk C regs 0 ix).bind fun w => (w.asInt .i64).bind fun n =>
              (grd (decide (0 ≤ n) && decide (n < len))).bind fun _ => K (.val (.val (p.addOff (n.toNat * ei.size)) false))
      | _ => none
  | .index t x ix => (C.T t).bind fun i => match i.kind with
      | .string => (vk C regs t x).bind fun v => v.asStr.bind fun s => (vk C regs 0 ix).bind fun w => (w.asInt .i64).bind fun n =>
          (grd (decide (0 ≤ n) && decide (n < s.size))).bind fun _ => K (.val (.val (.int .u8 (byteAt s n.toNat)) false))
      | .array len e => (C.T e).bind fun ei => if ei.agg then none else if ei.size ≠ 1 then none else (vk C regs t x).bind fun v => (grd (v.fits true len)).bind fun _ => (vk C regs 0 ix).bind fun w => (w.asInt .i64).bind fun n =>
              (grd (decide (0 ≤ n) && decide (n < len))).bind fun _ => K (.val (.val (v.cell n.toNat) false))
      | _ => none
  | .makeFunc fn first captured => if first.size = 0 then (argCells C regs (captured.toList.map fun x => (x, 0))).bind fun cs => K (.val (.val (.func fn [] (cs.map (·.1))) false)) else none
  | .extract t ix => match t with
    | .tmp r => K (.tupTake r ix)
    | _ => none
  | .panic x => (vk C regs 0 x).bind fun v => v.asIface.bind fun v => K (.pan v)
  | .call c => match c.callee with
    | .builtin .len => match c.args.toList, c.argTypes.toList with
      | [x], [t] => (C.T t).bind fun i => match i.kind with
          | .string => (vk C regs t x).bind fun v => v.asStr.bind fun s => K (.val (.val (.int .i64 s.size) false))
          | .slice e => (C.T e).bind fun ei => (vk C regs t x).bind fun v => (v.asSlice ei.size e).bind fun es => K (.val (.val (.int .i64 es.length) false))
          | .array n _ => K (.val (.val (.int .i64 n) false))
          | _ => none
      | _, _ => none
    | .builtin .append => match c.args.toList, c.argTypes.toList with
      | [x, y], [t, u] => (C.T t).bind fun i => (C.T u).bind fun j => match i.kind, j.kind with
          | .slice e, .slice e' => (C.T e).bind fun ei => (C.T e').bind fun ei' => if ei.size = ei'.size ∧ ei.bytes ≤ 4096 ∧ 0 < ei.bytes ∧ ei.isTup = false then
                (match opndT C regs t x with
                 | .val v true => (v.asSlice ei.size e).bind fun es => (vk C regs u y).bind fun w => (w.asSlice ei.size e').bind fun xs =>
                     (grd (room (es.length + xs.length))).bind fun _ => K (.val (.val (.slice ei.size e (es ++ xs)) true))
                 | _ => none) else none
          | .slice e, .string => (C.T e).bind fun ei => if ei.size = 1 ∧ ei.bytes ≤ 4096 ∧ 0 < ei.bytes ∧ ei.isTup = false then
                (match opndT C regs t x with
                 | .val v true => (v.asSlice 1 e).bind fun es => (vk C regs u y).bind fun w => w.asStr.bind fun s =>
                     (grd (room (es.length + s.size))).bind fun _ => K (.val (.val (.slice 1 e (es ++ bytesV s)) true))
                 | _ => none) else none
          | _, _ => none
      | _, _ => none
    | .builtin .max => match c.args.toList with
      | [x, y] => (vk C regs 0 x).bind fun v => (v.asInt .i64).bind fun a => (vk C regs 0 y).bind fun w => (w.asInt .i64).bind fun b => K (.val (.val (.int .i64 (if a < b then b else a)) false))
      | _ => none
    | .builtin _ => none
    | .invoke .. => none
    | .value g => (vk C regs 0 g).bind fun gv => gv.asFunc.bind fun f =>
        if c.args.size = c.argTypes.size ∧ distinct (c.args.toList.flatMap tmpOf) then
          (argCells C regs (c.args.toList.zip c.argTypes.toList)).bind fun args => K (.call f.1 (f.2.1.map (fun v => (v, false)) ++ args ++ f.2.2.map fun v => (v, false)) (nres C o.type))
          else none
  | _ => none

def clr : RV → RV
  | .val v _ => .val v false
  | x => x

def clearRegs (regs : List RV) : List Nat → List RV
  | [] => regs
  | r :: rs => clearRegs (regs.modify r clr) rs

def St.setReg (st : St) (r : Nat) (x : RV) : St := { st with regs := st.regs.set r x }
def St.put (st : St) (dst : Option Nat) (x : RV) : St := match dst with | some d => st.setReg d x | none => st
def St.clear (st : St) (rs : List Nat) : St := { st with regs := clearRegs st.regs rs }

/-- The results of a call as a register: tokens are kept where the hint says so (and then asked for). -/
def tokF (H : Hints) (dst : Option Nat) (i : Nat) : Bool := match dst with | some d => H.ownres.contains (d, i) | none => false
def resV (H : Hints) (dst : Option Nat) (n : Nat) (vs : List Cell) : RV :=
  if n = 1 then .val (vs.getD 0 cellD).1 (tokF H dst 0) else .tup ((List.range n).map fun i => ((vs.getD i cellD).1, tokF H dst i))
def toksOk (H : Hints) (dst : Option Nat) (n : Nat) (vs : List Cell) : Bool := (List.range n).all (fun i => !tokF H dst i || (vs.getD i cellD).2)
def resRV (H : Hints) (dst : Option Nat) (n : Nat) (vs : List Cell) : Option RV := (grd (toksOk H dst n vs)).bind fun _ => some (resV H dst n vs)

def apply (H : Hints) (call : CallF) (dst : Option Nat) (st : St) (K : Out → Option Res) : Eff → Option Res
  | .val x => K (.next (st.put dst x))
  | .getL r o n agg steal => if steal then
        (if o < (st.locs.getD r []).length ∧ n = 1 ∧ agg = false then
          (if ((st.locs.getD r []).getD o cellD).2 then K (.next ({ st with locs := st.locs.set r ((st.locs.getD r []).set o (((st.locs.getD r []).getD o cellD).1, false)) }.put dst (.val ((st.locs.getD r []).getD o cellD).1 true))) else none) else none)
      else (gather (st.locs.getD r []) o n agg).bind fun v => K (.next (st.put dst (.val v false)))
  | .setL r o cs => if o + cs.length ≤ (st.locs.getD r []).length then K (.next ({ st with locs := st.locs.set r (setCells (st.locs.getD r []) o cs) }.put dst .dead)) else none
  | .newL cs => match dst with
    | some d => if d < st.locs.length ∧ cs.length ≠ 0 ∧ (st.regs.all fun x => !isLptr d x) = true then K (.next ({ st with locs := st.locs.set d cs }.setReg d (.lptr d 0))) else none
    | none => none
  | .getS p n agg => (memGet st.sto p agg n).bind fun v => K (.next (st.put dst (.val v false)))
  | .takeS p => (memTake st.sto p).bind fun v => K (.next ({ st with sto := v.2 }.put dst (.val v.1 true)))
  | .setS p cs => (memSet st.sto p cs).bind fun σ => K (.next ({ st with sto := σ }.put dst .dead))
  | .newS t cs => match dst with
    | some d => K (.next ({ st with sto := st.sto ++ [cs] }.setReg d (.val (.ptr t st.sto.length 0) false)))
    | none => none
  | .tupTake r i => match st.regs.getD r .dead with
    | .tup cs => match cs[i]? with
      | some c => K (.next ((st.setReg r (.tup (cs.set i (c.1, false)))).put dst (.val c.1 c.2)))
      | none => none
    | _ => none
  | .call f args n => match call f args st.sto with
    | none => none
    | some r => match r.1 with
      | .ret vs => if vs.length = n then (grd (toksOk H dst n vs)).bind fun _ => K (.next ({ st with sto := r.2 }.put dst (resV H dst n vs))) else none
      | .pan v => K (.pan v { st with sto := r.2 })
  | .pan v => K (.pan v st)

def aop (H : Hints) (call : CallF) (o : Oper) (st : St) (K : Out → Option Res) : Option Res :=
  actK C H o st.regs fun e => apply H call o.dst (st.clear (clearOf H o)) K e

/-! Regions whose order is drawn. -/
def edgesOf (o : Oper) : List Nat := (o.after.toList.filter fun e => Region.binds .any e).map (·.on)
def addAll : List Nat → List Nat → List Nat
  | [], acc => acc
  | x :: xs, acc => if acc.contains x then addAll xs acc else addAll xs (x :: acc)
/-- What each operation comes behind, whatever the order. -/
def ancs : List Oper → List (List Nat) → List (List Nat)
  | [], T => T
  | o :: rest, T => ancs rest (T ++ [addAll ((edgesOf o).flatMap fun k => k :: T.getD k []) []])

inductive LF where | none | one (r : Nat) | all
def LF.has : LF → Nat → Bool
  | .none, _ => false
  | .one r, i => r == i
  | .all, _ => true
def LF.meets : LF → LF → Bool
  | .none, _ => false
  | _, .none => false
  | .one r, .one i => r == i
  | _, _ => true
def assoc : List (Nat × Nat) → Nat → Option Nat
  | [], _ => none
  | (a, r) :: rest, x => if a = x then some r else assoc rest x
def locOf (H : Hints) : Operand → LF
  | .tmp a => if H.lp.contains a then (match assoc H.roots a with | some r => .one r | none => .all) else .none
  | _ => .none
def locF (H : Hints) (o : Oper) : LF := match o.op with
  | .load _ a => locOf H a
  | .store _ a _ => locOf H a
  | _ => .none
def locW (H : Hints) (o : Oper) : LF := match o.op with
  | .load _ a => if o.dst.any H.steal.contains then locOf H a else .none
  | .store _ a _ => locOf H a
  | _ => .none
def stoW (H : Hints) (o : Oper) : Bool := match o.op with
  | .load _ a => addrCls H a == .sto && o.dst.any H.steal.contains
  | .store _ a _ => addrCls H a == .sto
  | .alloc _ | .box .. | .panic _ => true
  | .call c => match c.callee with | .value _ => true | _ => false
  | _ => false
def stoF (H : Hints) (o : Oper) : Bool := stoW H o || match o.op with
  | .load _ a => addrCls H a == .sto
  | _ => false
/-- A cell of the function's own is laid: that goes with nothing. -/
def wild (H : Hints) (o : Oper) : Bool := match o.op with
  | .alloc _ | .box .. => !o.dst.any H.esc.contains
  | _ => false
def regW (H : Hints) (o : Oper) : List Nat := o.dst.toList ++ clearOf H o ++ match o.op with | .extract t _ => tmpOf t | _ => []
def guardReg (ops : Array Oper) (o : Oper) : List Nat := match o.guard with | some (j, _) => ((ops[j]?).bind (·.dst)).toList | none => []
def regF (H : Hints) (ops : Array Oper) (o : Oper) : List Nat := o.op.operands.toList.flatMap tmpOf ++ guardReg ops o ++ regW H o
def apart (xs ys : List Nat) : Bool := xs.all fun x => !ys.contains x
/-- Two operations that may go in either order. -/
def indep (H : Hints) (ops : Array Oper) (x y : Oper) : Bool :=
  !wild H x && !wild H y && apart (regW H x) (regF H ops y) && apart (regW H y) (regF H ops x) &&
  !(locW H x).meets (locF H y) && !(locW H y).meets (locF H x) && !(stoW H x && stoF H y) && !(stoW H y && stoF H x)

def pairs (f : Nat → Nat → Bool) : List Nat → Bool
  | [] => true
  | x :: xs => xs.all (f x) && pairs f xs
def edgesAt (ops : Array Oper) (i : Nat) : List Nat := match ops[i]? with | some o => edgesOf o | none => []
def indepAt (H : Hints) (ops : Array Oper) (i j : Nat) : Bool := match ops[i]?, ops[j]? with | some x, some y => indep H ops x y | _, _ => false
/-- May the region's operations go in whatever order? -/
def free (H : Hints) (ops : Array Oper) (ord : List Nat) : Bool :=
  ord.length == ops.size && distinct ord && ord.all (· < ops.size) && (List.range ops.size).all ord.contains &&
  (List.range ops.size).all (fun i => (edgesAt ops i).all fun k => k < ops.size && k != i) &&
  pairs (fun i j => !(edgesAt ops i).contains j && (((ancs ops.toList []).getD j []).contains i || indepAt H ops i j)) ord

/-- A cell of that root; or nothing, where the operation is passed by. -/
def isRoot (r : Nat) : RV → Bool
  | .lptr r' _ => r' == r
  | .tup [] => true
  | _ => false
/-- Is the address's root the one that is named? -/
def rootOk (H : Hints) (o : Oper) (regs : List RV) : Bool :=
  let chk : Operand → Bool := fun
    | .tmp a => match assoc H.roots a with | some r => isRoot r (regs.getD a .dead) | none => true
    | _ => true
  match o.op with
  | .load _ a => chk a
  | .store _ a _ => chk a
  | _ => true
def chkOk (H : Hints) (dr : Option (List (List Nat))) (o : Oper) (regs : List RV) : Bool := match dr with | none => true | some _ => rootOk H o regs
def panOk (dr : Option (List (List Nat))) (i : Nat) (rest : List Nat) : Bool := match dr with | none => true | some T => rest.all fun k => (T.getD k []).contains i

/-- The operations of a region, one behind the other. A guard's Bool is laid open first. -/
def aops (H : Hints) (call : CallF) (dr : Option (List (List Nat))) (ops : Array Oper) : List Nat → St → (Out → Option Res) → Option Res
  | [], st, K => K (.next st)
  | i :: rest, st, K => match ops[i]? with
    | none => none
    | some o => (grd (chkOk H dr o st.regs)).bind fun _ => match o.guard with
      | none => aop C H call o st fun out => match out with | .next st => aops H call dr ops rest st K | .pan v st => (grd (panOk dr i rest)).bind fun _ => K (.pan v st)
      | some (j, want) => match (ops[j]?).bind (·.dst) with
        | none => none
        | some d => match st.regs.getD d .dead with
          | .val v ow => v.asBool.bind fun b =>
              bif b then
                (if want then aop C H call o (st.setReg d (.val (.bool true) ow)) fun out => match out with | .next st => aops H call dr ops rest st K | .pan v st => (grd (panOk dr i rest)).bind fun _ => K (.pan v st)
                 else aops H call dr ops rest ((st.setReg d (.val (.bool true) ow)).put o.dst (.tup [])) K)
              else
                (if want then aops H call dr ops rest ((st.setReg d (.val (.bool false) ow)).put o.dst (.tup [])) K
                 else aop C H call o (st.setReg d (.val (.bool false) ow)) fun out => match out with | .next st => aops H call dr ops rest st K | .pan v st => (grd (panOk dr i rest)).bind fun _ => K (.pan v st))
          | .tup [] => aops H call dr ops rest (st.put o.dst (.tup [])) K
          | _ => none

def keepRegs (keep : List Nat) : Nat → List RV → List RV
  | _, [] => []
  | i, x :: xs => (if keep.contains i then x else .dead) :: keepRegs keep (i + 1) xs
def keepLocs (keep : List Nat) : Nat → List (List Cell) → List (List Cell)
  | _, [] => []
  | i, x :: xs => (if keep.contains i then x else []) :: keepLocs keep (i + 1) xs
def St.kill (keep : List Nat) (st : St) : St := { st with regs := keepRegs keep 0 st.regs, locs := keepLocs keep 0 st.locs }

/-- What goes on behind a loop's body. -/
def kloop (keep : List Nat) (F : St → Option Res) (K : Ex → St → Option Res) : Ex → St → Option Res := fun ex st' => match ex with | .normal => F (st'.kill keep) | ex => K ex st'
def aloop (body : St → (Ex → St → Option Res) → Option Res) (keep : List Nat) : Nat → St → (Ex → St → Option Res) → Option Res
  | 0, _, _ => none
  | n + 1, st, K => body st (kloop keep (fun st' => aloop body keep n st' K) K)

/-- What goes on behind the first part of a sequence, behind a block's body. -/
def kseq (next : St → Option Res) (K : Ex → St → Option Res) : Ex → St → Option Res := fun ex st' => match ex with | .normal => next st' | ex => K ex st'
def kblk (id : Nat) (K : Ex → St → Option Res) : Ex → St → Option Res := fun ex st' => match ex with
  | .exit id' => if id' = id then K .normal st' else K (.exit id') st'
  | ex => K ex st'

def aexec (H : Hints) (call : CallF) (n : Nat) : Code → Nat → St → (Ex → St → Option Res) → Option Res
  | .skip, _, st, K => K .normal st
  | .label _, _, st, K => K .normal st
  | .region id ops draw, _, st, K =>
      if draw then (grd (free H ops (H.ord id))).bind fun _ => aops C H call (some (ancs ops.toList [])) ops (H.ord id) st fun out => match out with | .next st => K .normal st | .pan v st => K (.pan v) st
      else aops C H call none ops (List.range ops.size) st fun out => match out with | .next st => K .normal st | .pan v st => K (.pan v) st
  | .seq a b, _, st, K => aexec H call n a 0 st (kseq (fun st' => aexec H call n b 0 st' K) K)
  | .cond c x y, _, st, K => match c with
    | .tmp r => match st.regs.getD r .dead with
      | .val v ow => v.asBool.bind fun b => bif b then aexec H call n x 0 (st.setReg r (.val (.bool true) ow)) K else aexec H call n y 0 (st.setReg r (.val (.bool false) ow)) K
      | _ => none
    | .const (.bool b) => if b then aexec H call n x 0 st K else aexec H call n y 0 st K
    | _ => none
  | .block id body, _, st, K => aexec H call n body id st (kblk id K)
  | .loop body, id, st, K => aloop (fun st K => aexec H call n body 0 st K) (H.keep id) n (st.kill (H.keep id)) K
  | .exit id, _, st, K => K (.exit id) st
  | .ret, _, st, K => K .ret st
  | _, _, _, _ => none

def resCells (st : St) : List ResultVar → Option (List Cell)
  | [] => some []
  | .tmp t :: rest => match st.regs.getD t .dead with
    | .val v o => (resCells (st.clear [t]) rest).bind fun cs => some ((v, o) :: cs)
    | _ => none
  | .cell a t :: rest => (C.T t).bind fun i => match st.regs.getD a .dead with
    | .lptr r o => (gather (st.locs.getD r []) o i.size i.agg).bind fun v => (resCells st rest).bind fun cs => some ((v, false) :: cs)
    | .val p _ => (memGet st.sto p i.agg i.size).bind fun v => (resCells st rest).bind fun cs => some ((v, false) :: cs)
    | _ => none

/-- The end of a function. -/
def kfin (d : FDef) : Ex → St → Option Res := fun ex st => match ex with
  | .normal => (resCells C st d.fn.results.toList).bind fun vs => some (.ret vs, st.sto)
  | .ret => (resCells C st d.fn.results.toList).bind fun vs => some (.ret vs, st.sto)
  | .pan v => some (.pan v, st.sto)
  | .exit _ => none

def afun (d : FDef) (call : CallF) (n : Nat) (args : List Cell) (σ : Sto) : Option Res :=
  if args.length ≤ d.fn.ntmps then
    aexec C d.hints call n d.code 0 { regs := args.map (fun c => .val c.1 c.2) ++ List.replicate (d.fn.ntmps - args.length) .dead, locs := List.replicate d.fn.ntmps [], sto := σ } (kfin C d)
  else none

/-- The arguments' tokens: kept where the function holds them. -/
def maskArgs (own : List Nat) : Nat → List Cell → List Cell
  | _, [] => []
  | i, c :: cs => (c.1, own.contains i && c.2) :: maskArgs own (i + 1) cs

def acall : Nat → CallF
  | 0, _, _, _ => none
  | n + 1, f, args, σ => match C.ext f with
    | some s => s args σ
    | none => match C.fdef f with
      | some d => afun C d (acall n) n (maskArgs d.hints.own 0 args) σ
      | none => none

end
end Go.Ab
