/- Literals: the parts laid into cells. -/
import Derived.Calls
import Derived.Below
import Derived.Laws.Sem
import Derived.Laws.World
import Derived.Laws.Cells
import Derived.Laws.Tables
set_option linter.unusedSimpArgs false
set_option linter.unusedVariables false
set_option linter.deprecated false
section
namespace Go.Ab
inductive V where
 | any
 | bool (b : Bool)
 | int (k : IntKind) (n : Int)
 | str (s : ByteArray)
 | nilp
 | ptr (t : TypeId) (b o : Nat)
 | eptr (k : Nat) (e : List V) (o : Nat)
 | nils
 | slice (k : Nat) (e : TypeId) (es : List (List V))
 | func (fn : Fn) (first cap : List V)
 | nilFunc
 | iface (t : TypeId) (v : V)
 | nilIface
 | agg (cs : List V)
 | lit (c : Value)
 | map (es : List (ByteArray × Int))
 | full (k : Nat) (e : TypeId) (es : List (List V))
 deriving Inhabited
abbrev Cell := V × Bool
abbrev Sto := List (List Cell)
inductive RV where
 | dead
 | val (v : V) (own : Bool)
 | lptr (r o : Nat)
 | tup (cs : List Cell)
 deriving Inhabited
structure St where
 regs : List RV
 locs : List (List Cell)
 sto : Sto
inductive End where
 | ret (vs : List Cell)
 | pan (v : V)
abbrev Res := End × Sto
abbrev CallF := FuncId → List Cell → Sto → Option Res
inductive Ex where
 | normal
 | exit (id : Nat)
 | ret
 | pan (v : V)
inductive Out where
 | next (st : St)
 | pan (v : V) (st : St)
inductive TK where
 | bool | int (k : IntKind) | string | pointer (e : TypeId) | slice (e : TypeId) | array (n : Nat) (e : TypeId)
 | struct (fs : List (Nat × TypeId)) | iface | func | map (k e : TypeId) | tuple (n : Nat) | other
 deriving Inhabited
structure TI where
 kind : TK
 size : Nat
 bytes : Nat
 zero : List V
 deriving Inhabited
structure Hints where
 keep : Nat → List Nat
 steal : List Nat := []
 esc : List Nat := []
 ownres : List (Nat × Nat) := []
 lp : List Nat := []
 ep : List Nat := []
 roots : List (Nat × Nat) := []
 ord : Nat → List Nat := fun _ => []
 own : List Nat := []
 pureF : List FuncId := []
structure FDef where
 fn : Func
 code : Code
 hints : Hints
structure Ctx where
 T : TypeId → Option TI
 glob : Nat → Option (List V)
 ext : FuncId → Option (List Cell → Sto → Option Res)
 fdef : FuncId → Option FDef
def TI.isTup (i : TI) : Bool := match i.kind with | .tuple _ => true | _ => false
def TI.agg (i : TI) : Bool := match i.kind with | .array .. | .struct _ => true | _ => false
def grd (b : Bool) : Option Unit := bif b then some () else none
def V.asInt (v : V) (k : IntKind) : Option Int := match v with | .int k' n => if k' = k then some n else none | _ => none
def V.asBool (v : V) : Option Bool := match v with | .bool b => some b | _ => none
def V.asStr (v : V) : Option ByteArray := match v with | .str s => some s | _ => none
def V.asSlice (v : V) (k : Nat) (e : TypeId) : Option (List (List V)) := match v with | .slice k' e' es => if k' = k ∧ e' = e then some es else none | .nils => some [] | _ => none
def V.asArr (v : V) (n : Nat) : Option (List V) := match v with | .eptr k e o => if k = n ∧ o = 0 then some e else none | _ => none
def V.nonnil (v : V) : Option V := match v with | .ptr t b o => some (.ptr t b o) | .eptr k e o => some (.eptr k e o) | .func (.func f) a b => some (.func (.func f) a b) | _ => none
def V.ptrNil (v : V) : Option Bool := match v with | .nilp => some true | .ptr .. => some false | .eptr .. => some false | _ => none
def V.ifaceNil (v : V) : Option Bool := match v with | .nilIface => some true | .iface .. => some false | _ => none
def V.asFunc (v : V) : Option (FuncId × List V × List V) := match v with | .func (.func f) a b => some (f, a, b) | _ => none
def V.asIface (v : V) : Option V := match v with | .iface t u => some (.iface t u) | _ => none
def V.asRow (v : V) (k : Nat) (e : TypeId) : Option (List (List V)) := match v with | .slice k' e' es => if k' = k ∧ e' = e then some es else none | .nils => some [] | .full k' e' es => if k' = k ∧ e' = e then some es else none | _ => none
def V.isFull (v : V) : Bool := match v with | .full .. => true | _ => false
def V.asMap (v : V) : Option (List (ByteArray × Int)) := match v with | .map es => some es | _ => none
def mapLook : List (ByteArray × Int) → ByteArray → Int
 | [], _ => 0
 | (k, n) :: es, s => bif s.toList == k.toList then n else mapLook es s
def V.cell (v : V) (i : Nat) : V := match v with | .agg cs => cs.getD i .any | _ => .any
def V.fits (v : V) (agg : Bool) (n : Nat) : Bool := match v with | .agg cs => agg && cs.length == n | .any => false | .full .. => false | _ => !agg && n == 1
def V.addOff (v : V) (n : Nat) : V := match v with | .ptr t b o => .ptr t b (o + n) | .eptr k e o => .eptr k e (o + n) | _ => .any
def V.isNo (v : V) : Bool := match v with | .slice _ _ [] => true | _ => false
def V.plain (v : V) : Bool := match v with | .bool _ | .int .. | .str _ | .nilp | .ptr .. | .nilIface | .nilFunc => true | _ => false
def V.isSl (v : V) : Bool := match v with | .slice .. | .nils => true | _ => false
def V.isPtr (v : V) : Bool := match v with | .ptr .. | .eptr .. => true | _ => false
def cellsN (v : V) (agg : Bool) (n : Nat) : List V := if agg then (List.range n).map v.cell else [v]
def cellsO (v : V) (own agg : Bool) (n : Nat) : List Cell := if agg then (List.range n).map fun i => (v.cell i, own && (v.cell i).isNo) else [(v, own)]
def cellD : Cell := (.any, false)
def gather (cs : List Cell) (o n : Nat) (agg : Bool) : Option V :=
 if o + n ≤ cs.length then (if agg then some (.agg ((List.range n).map fun i => (cs.getD (o + i) cellD).1)) else if n = 1 then some (cs.getD o cellD).1 else none) else none
def memGet (σ : Sto) (p : V) (agg : Bool) (n : Nat) : Option V :=
 match p with
 | .ptr _ b o => (σ[b]?).bind fun cs => gather cs o n agg
 | .eptr k e o => if o + n ≤ k then (if agg then some (.agg ((List.range n).map fun i => e.getD (o + i) .any)) else if n = 1 then some (e.getD o .any) else none) else none
 | _ => none
def setCells (cs : List Cell) (o : Nat) : List Cell → List Cell
 | [] => cs
 | x :: xs => setCells (cs.set o x) (o + 1) xs
def memSet (σ : Sto) (p : V) (xs : List Cell) : Option Sto :=
 match p with
 | .ptr _ b o => (σ[b]?).bind fun cs => if o + xs.length ≤ cs.length then some (σ.set b (setCells cs o xs)) else none
 | _ => none
def memTake (σ : Sto) (p : V) : Option (V × Sto) :=
 match p with
 | .ptr _ b o => (σ[b]?).bind fun cs => if o < cs.length then (if (cs.getD o cellD).2 then some ((cs.getD o cellD).1, σ.set b (cs.set o ((cs.getD o cellD).1, false))) else none) else none
 | _ => none
def ofVal : Value → V
 | .bool b => .bool b
 | .int k n => .int k n
 | .string s => .str s
 | .pointer none => .nilp
 | .slice none 0 0 => .nils
 | .nilFunc => .nilFunc
 | .nilIface => .nilIface
 | .func (.func f) ⟨[]⟩ ⟨[]⟩ => .func (.func f) [] []
 | _ => .any
def bytesV (s : ByteArray) : List (List V) := s.data.toList.map fun b => [.int .u8 b.toNat]
def byteAt (s : ByteArray) (i : Nat) : Int := (s.data.toList.getD i 0).toNat
def room (n : Nat) : Bool := decide (n.log2 ≤ 33)
def strRoom (x y : ByteArray) : Bool := decide ((x.size + y.size).log2 ≤ 61)
theorem log2_bound {n k : Nat} (h : n.log2 ≤ k) : n < 2 ^ (k + 1) := by
 by_cases h0 : n = 0
 ·subst h0; exact Nat.two_pow_pos _
 ·exact (Nat.log2_lt h0).1 (by omega)
theorem room_le {n b : Nat} (h : room n = true) (hb : b ≤ 4096) : 5 * n * b + 2 ^ 24 ≤ 2 ^ 50 := by
 have h1 := log2_bound (of_decide_eq_true h)
 have h2 : 5 * n * b ≤ 5 * 2 ^ 34 * 4096 := Nat.mul_le_mul (by omega) hb
 omega
theorem strRoom_le {x y : ByteArray} (h : strRoom x y = true) : x.size + y.size ≤ 2 ^ 62 := Nat.le_of_lt (log2_bound (of_decide_eq_true h))
def noOwn : RV → RV
 | .val v _ => .val v false
 | .tup cs => .tup (cs.map fun c => (c.1, false))
 | x => x
def valOwn : RV → RV
 | .tup cs => .tup (cs.map fun c => (c.1, false))
 | x => x
def isLptr (r : Nat) : RV → Bool
 | .lptr r' _ => r' == r
 | _ => false
inductive Eff where
 | val (x : RV)
 | getL (r o n : Nat) (agg steal : Bool)
 | setL (r o : Nat) (cs : List Cell)
 | newL (cs : List Cell)
 | getS (p : V) (n : Nat) (agg : Bool)
 | takeS (p : V)
 | setS (p : V) (cs : List Cell)
 | newS (t : TypeId) (cs : List Cell)
 | tupTake (r i : Nat)
 | call (f : FuncId) (args : List Cell) (n : Nat)
 | pcall (f : FuncId) (args : List Cell) (n : Nat)
 | pan (v : V)
inductive Cls where | pure | loc | sto
 deriving DecidableEq
def addrCls (H : Hints) : Operand → Cls
 | .tmp r => if H.lp.contains r then .loc else if H.ep.contains r then .pure else .sto
 | _ => .pure
section
variable (C : Ctx)
def opndT (regs : List RV) (t : TypeId) : Operand → RV
 | .tmp r => regs.getD r .dead
 | .const c => match ofVal c with
  | .nils => match C.T t with
   | some ⟨.slice e, _, _, _⟩ => match C.T e with | some i => .val (.slice i.size e []) true | none => .val .nils true
   | _ => .val .nils true
  | .any => .dead
  | v => .val v false
 | .global g => match C.glob g with | some cs => .val (.eptr cs.length cs 0) false | none => .dead
 | .func f => .val (.func (.func f) [] []) false
def vk (regs : List RV) (t : TypeId) (x : Operand) : Option V :=
 match opndT C regs t x with
 | .val v _ => some v
 | _ => none
def ck (regs : List RV) (t : TypeId) (x : Operand) : Option Cell :=
 match opndT C regs t x with
 | .val v o => some (v, o)
 | _ => none
def intOp (op : BinOp) (k : IntKind) (a b : Int) : Option V :=
 match op with
 | .add => some (.int k (k.wrap (a + b)))
 | .sub => some (.int k (k.wrap (a - b)))
 | .mul => some (.int k (k.wrap (a * b)))
 | .quo => (grd (!(b == 0))).bind fun _ => some (.int k (k.wrap (a.tdiv b)))
 | .rem => (grd (!(b == 0))).bind fun _ => some (.int k (a.tmod b))
 | .and => some (.int k (k.wrap (BitVec.ofInt k.bits a &&& BitVec.ofInt k.bits b).toNat))
 | .or => some (.int k (k.wrap (BitVec.ofInt k.bits a ||| BitVec.ofInt k.bits b).toNat))
 | .eql => some (.bool (a == b))
 | .neq => some (.bool (a != b))
 | .lss => some (.bool (a < b))
 | .leq => some (.bool (a ≤ b))
 | .gtr => some (.bool (a > b))
 | .geq => some (.bool (a ≥ b))
 | _ => none
def strOp (op : BinOp) (x y : ByteArray) : Option V :=
 match op with
 | .add => (grd (strRoom x y)).bind fun _ => some (.str (x ++ y))
 | .eql => some (.bool (x.toList == y.toList))
 | .neq => some (.bool !(x.toList == y.toList))
 | _ => none
def eqOp (op : BinOp) (b : Bool) : Option V :=
 match op with
 | .eql => some (.bool b)
 | .neq => some (.bool (!b))
 | _ => none
def isNilP : Operand → Bool
 | .const (.pointer none) => true
 | _ => false
def isNilI : Operand → Bool
 | .const .nilIface => true
 | _ => false
def binK (regs : List RV) (op : BinOp) (t : TypeId) (x y : Operand) : Option V :=
 (C.T t).bind fun i => match i.kind with
  | .int k => (vk C regs t x).bind fun a => (vk C regs t y).bind fun b => (a.asInt k).bind fun a => (b.asInt k).bind fun b => intOp op k a b
  | .string => (vk C regs t x).bind fun a => (vk C regs t y).bind fun b => a.asStr.bind fun a => b.asStr.bind fun b => strOp op a b
  | .bool => (vk C regs t x).bind fun a => (vk C regs t y).bind fun b => a.asBool.bind fun a => b.asBool.bind fun b => eqOp op (a == b)
  | .pointer _ => if isNilP y then (vk C regs t x).bind fun a => a.ptrNil.bind fun b => eqOp op b else none
  | .iface => if isNilI y then (vk C regs t x).bind fun a => a.ifaceNil.bind fun b => eqOp op b else none
  | _ => none
def fillK (regs : List RV) (place : Nat → Option (Nat × Nat × TypeId)) (cs : List V) : List (Nat × Operand) → Option (List V)
 | [] => some cs
 | (i, x) :: rest => (place i).bind fun p => (C.T p.2.2).bind fun ti => (vk C regs p.2.2 x).bind fun v =>
   (grd (v.fits ti.agg p.2.1 && decide (p.1 + p.2.1 ≤ cs.length))).bind fun _ =>
    fillK regs place ((cs.take p.1) ++ cellsN v ti.agg p.2.1 ++ cs.drop (p.1 + p.2.1)) rest
def plainParts (regs : List RV) (ps : List (Nat × Operand)) : Bool := ps.all fun p => match opndT C regs 0 p.2 with | .val v _ => v.plain | _ => false
def chunks (k : Nat) : Nat → List V → List (List V)
 | 0, _ => []
 | n + 1, l => l.take k :: chunks k n (l.drop k)
def replZero (n : Nat) (z : List V) : List V := match n with | 0 => [] | n + 1 => z ++ replZero n z
def argCells (regs : List RV) : List (Operand × TypeId) → Option (List Cell)
 | [] => some []
 | (x, t) :: rest => (ck C regs t x).bind fun c => (argCells regs rest).bind fun cs => some (c :: cs)
def nres (t : TypeId) : Nat := match C.T t with | some ⟨.tuple n, _, _, _⟩ => n | _ => 1
def optInt (regs : List RV) (x : Option Operand) (d : Int) : Option Int :=
 match x with
 | none => some d
 | some x => (vk C regs 0 x).bind fun v => v.asInt .i64
def tmpOf : Operand → List Nat
 | .tmp r => [r]
 | _ => []
def distinct : List Nat → Bool
 | [] => true
 | x :: xs => !xs.contains x && distinct xs
def isPure (H : Hints) : Operand → Bool
 | .func f => H.pureF.contains f
 | _ => false
def pcallR : Option Res → Option (List Cell)
 | some (.ret vs, []) => some vs
 | _ => none
def clearOf (H : Hints) (o : Oper) : List Nat :=
 match o.op with
 | .move x => if o.dst.any H.steal.contains then tmpOf x else []
 | .assign x => tmpOf x
 | .box _ x => tmpOf x
 | .store _ _ x => tmpOf x
 | .call c => match c.callee with
  | .builtin .append => (c.args.toList.take 1).flatMap tmpOf
  | .value _ => c.args.toList.flatMap tmpOf
  | _ => []
 | _ => []
def act (H : Hints) (o : Oper) (regs : List RV) : Option Eff :=
  match o.op with
  | .move x => if o.dst.any H.steal.contains then some (.val (valOwn (opndT C regs o.type x))) else some (.val (noOwn (opndT C regs o.type x)))
  | .assign x => some (.val (valOwn (opndT C regs o.type x)))
  | .pick c a b => (vk C regs 0 c).bind fun v => v.asBool.bind fun t => some (.val (noOwn (bif t then opndT C regs o.type a else opndT C regs o.type b)))
  | .alloc t => (C.T t).bind fun i => if i.isTup = true then none else if o.dst.any H.esc.contains then some (.newS t (i.zero.map fun v => (v, v.isSl))) else some (.newL (i.zero.map fun v => (v, v.isSl)))
  | .box t x => (C.T t).bind fun i => (ck C regs t x).bind fun c => (grd (c.1.fits i.agg i.size)).bind fun _ =>
      if o.dst.any H.esc.contains then some (.newS t (cellsO c.1 c.2 i.agg i.size)) else some (.newL (cellsO c.1 c.2 i.agg i.size))
  | .build t parts => (C.T t).bind fun i => match i.kind with
      | .struct fs => if (fs.all fun p => (C.T p.2).isSome) = true then (fillK C regs (fun j => (fs[j]?).bind fun p => (C.T p.2).map fun fi => (p.1, fi.size, p.2)) i.zero parts.toList).bind fun cs => some (.val (.val (.agg cs) (o.dst.any H.steal.contains && plainParts C regs parts.toList))) else none
      | .array _ e => (C.T e).bind fun ei => (fillK C regs (fun j => some (j * ei.size, ei.size, e)) i.zero parts.toList).bind fun cs => some (.val (.val (.agg cs) false))
      | _ => none
  | .buildSlice t len parts => (C.T t).bind fun i => match i.kind with
      | .slice e => (C.T e).bind fun ei => if len * ei.size ≤ 2 ^ 24 ∧ ei.isTup = false then
          (fillK C regs (fun j => some (j * ei.size, ei.size, e)) (replZero len ei.zero) parts.toList).bind fun cs => some (.val (.val (.slice ei.size e (chunks ei.size len cs)) true)) else none
      | _ => none
  | .load t a => (C.T t).bind fun i => match addrCls H a, opndT C regs 0 a with
      | .loc, .lptr r of => some (.getL r of i.size i.agg (o.dst.any H.steal.contains))
      | .pure, .val (.eptr k e of) _ => (memGet [] (.eptr k e of) i.agg i.size).bind fun v => some (.val (.val v false))
      | .sto, .val p _ => if o.dst.any H.steal.contains then (if i.agg || i.size != 1 then none else some (.takeS p)) else some (.getS p i.size i.agg)
      | _, _ => none
  | .store t a x => (C.T t).bind fun i => (ck C regs t x).bind fun c => (grd (c.1.fits i.agg i.size)).bind fun _ => match addrCls H a, opndT C regs 0 a with
      | .loc, .lptr r of => some (.setL r of (cellsO c.1 c.2 i.agg i.size))
      | .sto, .val p _ => some (.setS p (cellsO c.1 c.2 i.agg i.size))
      | _, _ => none
  | .nilCheck x => match opndT C regs 0 x with
    | .lptr r of => some (.val (.lptr r of))
    | .val v _ => v.nonnil.bind fun v => some (.val (.val v false))
    | _ => none
  | .binOp op t x y _ => (binK C regs op t x y).bind fun v => some (.val (.val v false))
  | .unOp op _ x => (vk C regs 0 x).bind fun v => match op with
    | .not => v.asBool.bind fun b => some (.val (.val (.bool !b) false))
    | .neg => (v.asInt .i64).bind fun n => some (.val (.val (.int .i64 (IntKind.i64.wrap (0 - n))) false))
    | _ => none
  | .convert src dst x => (C.T src).bind fun i => (C.T dst).bind fun j => match i.kind, j.kind with
      | .int k, .int k' => (vk C regs 0 x).bind fun v => (v.asInt k).bind fun n => some (.val (.val (.int k' (k'.wrap n)) false))
      | .string, .slice e => (C.T e).bind fun ei => match ei.kind with
        | .int .u8 => (vk C regs 0 x).bind fun v => v.asStr.bind fun s => some (.val (.val (.slice 1 e (bytesV s)) false))
        | _ => none
      | _, _ => none
  | .makeInterface t x => (C.T t).bind fun i => match i.kind with
    | .iface => none
    | _ => (vk C regs t x).bind fun v => some (.val (.val (.iface t v) false))
  | .slice t x lo hi mx => (C.T t).bind fun i => match i.kind with
      | .string => if mx.isSome then none else (vk C regs t x).bind fun v => v.asStr.bind fun s => (optInt C regs lo 0).bind fun l => (optInt C regs hi s.size).bind fun h =>
          (grd (decide (0 ≤ l) && decide (l ≤ h) && decide (h ≤ s.size))).bind fun _ => some (.val (.val (.str (s.extract l.toNat h.toNat)) false))
      | .slice e => (C.T e).bind fun ei => (vk C regs t x).bind fun v => (v.asSlice ei.size e).bind fun es => (optInt C regs lo 0).bind fun l => (optInt C regs hi es.length).bind fun h =>
            (grd (decide (0 ≤ l) && decide (l ≤ h) && decide (h ≤ es.length))).bind fun _ =>
              match mx with
               | none => some (.val (.val (.slice ei.size e ((es.take h.toNat).drop l.toNat)) false))
               | some q => if hi.isSome = true then (optInt C regs (some q) 0).bind fun m => (grd (decide (h = m))).bind fun _ => some (.val (.val (.full ei.size e ((es.take h.toNat).drop l.toNat)) true)) else none
      | .array n e => (C.T e).bind fun ei => if mx.isSome = true ∨ ei.size ≠ 1 then none else (vk C regs 0 x).bind fun v => (v.asArr n).bind fun cs => (optInt C regs lo 0).bind fun l => (optInt C regs hi n).bind fun h =>
            (grd (decide (0 ≤ l) && decide (l ≤ h) && decide (h ≤ n) && decide (l < n))).bind fun _ => some (.val (.val (.slice 1 e (((cs.map fun v => [v]).take h.toNat).drop l.toNat)) false))
      | _ => none
  | .fieldAddr s x f => (C.T s).bind fun i => match i.kind with
      | .struct fs => (fs[f]?).bind fun p => (C.T p.2).bind fun fi => if fi.size = 0 then none else match opndT C regs 0 x with
          | .lptr r of => some (.val (.lptr r (of + p.1)))
          | .val v _ => (grd v.isPtr).bind fun _ => some (.val (.val (v.addOff p.1) false))
          | _ => none
      | _ => none
  | .field t x f => (C.T t).bind fun i => match i.kind with
      | .struct fs => (fs[f]?).bind fun p => (C.T p.2).bind fun fi => (vk C regs t x).bind fun v => (grd (v.fits true i.size && decide (p.1 + fi.size ≤ i.size) && (fi.agg || decide (0 < fi.size)))).bind fun _ =>
              if fi.agg then some (.val (.val (.agg ((List.range fi.size).map fun j => v.cell (p.1 + j))) false))
               else some (.val (.val (v.cell p.1) false))
      | _ => none
  | .indexAddr t x ix => (C.T t).bind fun i => match i.kind with
      | .slice e => (C.T e).bind fun ei => (vk C regs t x).bind fun v => (v.asSlice ei.size e).bind fun es => (vk C regs 0 ix).bind fun w => (w.asInt .i64).bind fun n =>
            (grd (decide (0 ≤ n) && decide (n < es.length))).bind fun _ => some (.val (.val (.eptr ei.size (es.getD n.toNat []) 0) false))
      | .array len e => (C.T e).bind fun ei => (vk C regs 0 x).bind fun p => (grd p.isPtr).bind fun _ => (vk C regs 0 ix).bind fun w => (w.asInt .i64).bind fun n =>
              (grd (decide (0 ≤ n) && decide (n < len))).bind fun _ => some (.val (.val (p.addOff (n.toNat * ei.size)) false))
      | _ => none
  | .index t x ix => (C.T t).bind fun i => match i.kind with
      | .string => (vk C regs t x).bind fun v => v.asStr.bind fun s => (vk C regs 0 ix).bind fun w => (w.asInt .i64).bind fun n =>
          (grd (decide (0 ≤ n) && decide (n < s.size))).bind fun _ => some (.val (.val (.int .u8 (byteAt s n.toNat)) false))
      | .array len e => (C.T e).bind fun ei => if ei.agg then none else if ei.size ≠ 1 then none else (vk C regs t x).bind fun v => (grd (v.fits true len)).bind fun _ => (vk C regs 0 ix).bind fun w => (w.asInt .i64).bind fun n =>
              (grd (decide (0 ≤ n) && decide (n < len))).bind fun _ => some (.val (.val (v.cell n.toNat) false))
      | _ => none
  | .lookup t x ix ok => (C.T t).bind fun i => match i.kind with
      | .map k e => (C.T k).bind fun ki => (C.T e).bind fun ei => match ki.kind, ei.kind, ok with
        | .string, .int .i64, false => (vk C regs t x).bind fun v => v.asMap.bind fun es => (vk C regs 0 ix).bind fun w => w.asStr.bind fun s => some (.val (.val (.int .i64 (mapLook es s)) false))
        | _, _, _ => none
      | _ => none
  | .makeFunc fn first captured => if first.size = 0 then (argCells C regs (captured.toList.map fun x => (x, 0))).bind fun cs => some (.val (.val (.func fn [] (cs.map (·.1))) false)) else none
  | .extract t ix => match t with
    | .tmp r => some (.tupTake r ix)
    | _ => none
  | .panic x => (vk C regs 0 x).bind fun v => v.asIface.bind fun v => some (.pan v)
  | .call c => match c.callee with
    | .builtin .len => match c.args.toList, c.argTypes.toList with
      | [x], [t] => (C.T t).bind fun i => match i.kind with
          | .string => (vk C regs t x).bind fun v => v.asStr.bind fun s => some (.val (.val (.int .i64 s.size) false))
          | .slice e => (C.T e).bind fun ei => (vk C regs t x).bind fun v => (v.asSlice ei.size e).bind fun es => some (.val (.val (.int .i64 es.length) false))
          | .array n _ => some (.val (.val (.int .i64 n) false))
          | _ => none
      | _, _ => none
    | .builtin .append => match c.args.toList, c.argTypes.toList with
      | [x, y], [t, u] => (C.T t).bind fun i => (C.T u).bind fun j => match i.kind, j.kind with
          | .slice e, .slice e' => (C.T e).bind fun ei => (C.T e').bind fun ei' => if ei.size = ei'.size ∧ ei.bytes ≤ 4096 ∧ 0 < ei.bytes ∧ ei.isTup = false then
                (match opndT C regs t x with
                 | .val v true => (v.asRow ei.size e).bind fun es => (vk C regs u y).bind fun w => (w.asSlice ei.size e').bind fun xs =>
                     (grd ((!v.isFull || decide (0 < xs.length)) && room (es.length + xs.length))).bind fun _ => some (.val (.val (.slice ei.size e (es ++ xs)) true))
                 | _ => none) else none
          | .slice e, .string => (C.T e).bind fun ei => if ei.size = 1 ∧ ei.bytes ≤ 4096 ∧ 0 < ei.bytes ∧ ei.isTup = false then
                (match opndT C regs t x with
                 | .val v true => (v.asSlice 1 e).bind fun es => (vk C regs u y).bind fun w => w.asStr.bind fun s =>
                     (grd (room (es.length + s.size))).bind fun _ => some (.val (.val (.slice 1 e (es ++ bytesV s)) true))
                 | _ => none) else none
          | _, _ => none
      | _, _ => none
    | .builtin .max => match c.args.toList with
      | [x, y] => (vk C regs 0 x).bind fun v => (v.asInt .i64).bind fun a => (vk C regs 0 y).bind fun w => (w.asInt .i64).bind fun b => some (.val (.val (.int .i64 (if a < b then b else a)) false))
      | _ => none
    | .builtin _ => none
    | .invoke .. => none
    | .value g => (vk C regs 0 g).bind fun gv => gv.asFunc.bind fun f =>
        if c.args.size = c.argTypes.size ∧ distinct (c.args.toList.flatMap tmpOf) then
          (argCells C regs (c.args.toList.zip c.argTypes.toList)).bind fun args => match isPure H g with
            | true => some (.pcall f.1 (f.2.1.map (fun v => (v, false)) ++ args ++ f.2.2.map fun v => (v, false)) (nres C o.type))
            | false => some (.call f.1 (f.2.1.map (fun v => (v, false)) ++ args ++ f.2.2.map fun v => (v, false)) (nres C o.type))
          else none
  | _ => none
def intOpK (op : BinOp) (k : IntKind) (a b : Int) (K : V → Option Res) : Option Res :=
 match op with
 | .quo => (grd (!(b == 0))).bind fun _ => K (.int k (k.wrap (a.tdiv b)))
 | .rem => (grd (!(b == 0))).bind fun _ => K (.int k (a.tmod b))
 | op => (intOp op k a b).bind K
def strOpK (op : BinOp) (x y : ByteArray) (K : V → Option Res) : Option Res :=
 match op with
 | .add => (grd (strRoom x y)).bind fun _ => K (.str (x ++ y))
 | op => (strOp op x y).bind K
def binKK (regs : List RV) (op : BinOp) (t : TypeId) (x y : Operand) (K : V → Option Res) : Option Res :=
 (C.T t).bind fun i => match i.kind with
  | .int k => (vk C regs t x).bind fun a => (vk C regs t y).bind fun b => (a.asInt k).bind fun a => (b.asInt k).bind fun b => intOpK op k a b K
  | .string => (vk C regs t x).bind fun a => (vk C regs t y).bind fun b => a.asStr.bind fun a => b.asStr.bind fun b => strOpK op a b K
  | .bool => (vk C regs t x).bind fun a => (vk C regs t y).bind fun b => a.asBool.bind fun a => b.asBool.bind fun b => (eqOp op (a == b)).bind K
  | .pointer _ => if isNilP y then (vk C regs t x).bind fun a => a.ptrNil.bind fun b => (eqOp op b).bind K else none
  | .iface => if isNilI y then (vk C regs t x).bind fun a => a.ifaceNil.bind fun b => (eqOp op b).bind K else none
  | _ => none
def fillKK (regs : List RV) (place : Nat → Option (Nat × Nat × TypeId)) : List V → List (Nat × Operand) → (List V → Option Res) → Option Res
 | cs, [], K => K cs
 | cs, (i, x) :: rest, K => (place i).bind fun p => (C.T p.2.2).bind fun ti => (vk C regs p.2.2 x).bind fun v =>
   (grd (v.fits ti.agg p.2.1 && decide (p.1 + p.2.1 ≤ cs.length))).bind fun _ =>
    fillKK regs place ((cs.take p.1) ++ cellsN v ti.agg p.2.1 ++ cs.drop (p.1 + p.2.1)) rest K
def optIntK (regs : List RV) (x : Option Operand) (d : Int) (K : Int → Option Res) : Option Res :=
 match x with
 | none => K d
 | some x => (vk C regs 0 x).bind fun v => (v.asInt .i64).bind K
def actK (H : Hints) (o : Oper) (regs : List RV) (K : Eff → Option Res) : Option Res :=
  match o.op with
  | .move x => if o.dst.any H.steal.contains then K (.val (valOwn (opndT C regs o.type x))) else K (.val (noOwn (opndT C regs o.type x)))
  | .assign x => K (.val (valOwn (opndT C regs o.type x)))
  | .pick c a b => (vk C regs 0 c).bind fun v => v.asBool.bind fun t => K (.val (noOwn (bif t then opndT C regs o.type a else opndT C regs o.type b)))
  | .alloc t => (C.T t).bind fun i => if i.isTup = true then none else if o.dst.any H.esc.contains then K (.newS t (i.zero.map fun v => (v, v.isSl))) else K (.newL (i.zero.map fun v => (v, v.isSl)))
  | .box t x => (C.T t).bind fun i => (ck C regs t x).bind fun c => (grd (c.1.fits i.agg i.size)).bind fun _ =>
      if o.dst.any H.esc.contains then K (.newS t (cellsO c.1 c.2 i.agg i.size)) else K (.newL (cellsO c.1 c.2 i.agg i.size))
  | .build t parts => (C.T t).bind fun i => match i.kind with
      | .struct fs => if (fs.all fun p => (C.T p.2).isSome) = true then fillKK C regs (fun j => (fs[j]?).bind fun p => (C.T p.2).map fun fi => (p.1, fi.size, p.2)) i.zero parts.toList fun cs => K (.val (.val (.agg cs) (o.dst.any H.steal.contains && plainParts C regs parts.toList))) else none
      | .array _ e => (C.T e).bind fun ei => fillKK C regs (fun j => some (j * ei.size, ei.size, e)) i.zero parts.toList fun cs => K (.val (.val (.agg cs) false))
      | _ => none
  | .buildSlice t len parts => (C.T t).bind fun i => match i.kind with
      | .slice e => (C.T e).bind fun ei => if len * ei.size ≤ 2 ^ 24 ∧ ei.isTup = false then
          fillKK C regs (fun j => some (j * ei.size, ei.size, e)) (replZero len ei.zero) parts.toList fun cs => K (.val (.val (.slice ei.size e (chunks ei.size len cs)) true)) else none
      | _ => none
  | .load t a => (C.T t).bind fun i => match addrCls H a, opndT C regs 0 a with
      | .loc, .lptr r of => K (.getL r of i.size i.agg (o.dst.any H.steal.contains))
      | .pure, .val (.eptr k e of) _ => (memGet [] (.eptr k e of) i.agg i.size).bind fun v => K (.val (.val v false))
      | .sto, .val p _ => if o.dst.any H.steal.contains then (if i.agg || i.size != 1 then none else K (.takeS p)) else K (.getS p i.size i.agg)
      | _, _ => none
  | .store t a x => (C.T t).bind fun i => (ck C regs t x).bind fun c => (grd (c.1.fits i.agg i.size)).bind fun _ => match addrCls H a, opndT C regs 0 a with
      | .loc, .lptr r of => K (.setL r of (cellsO c.1 c.2 i.agg i.size))
      | .sto, .val p _ => K (.setS p (cellsO c.1 c.2 i.agg i.size))
      | _, _ => none
  | .nilCheck x => match opndT C regs 0 x with
    | .lptr r of => K (.val (.lptr r of))
    | .val v _ => v.nonnil.bind fun v => K (.val (.val v false))
    | _ => none
  | .binOp op t x y _ => binKK C regs op t x y fun v => K (.val (.val v false))
  | .unOp op _ x => (vk C regs 0 x).bind fun v => match op with
    | .not => v.asBool.bind fun b => K (.val (.val (.bool !b) false))
    | .neg => (v.asInt .i64).bind fun n => K (.val (.val (.int .i64 (IntKind.i64.wrap (0 - n))) false))
    | _ => none
  | .convert src dst x => (C.T src).bind fun i => (C.T dst).bind fun j => match i.kind, j.kind with
      | .int k, .int k' => (vk C regs 0 x).bind fun v => (v.asInt k).bind fun n => K (.val (.val (.int k' (k'.wrap n)) false))
      | .string, .slice e => (C.T e).bind fun ei => match ei.kind with
        | .int .u8 => (vk C regs 0 x).bind fun v => v.asStr.bind fun s => K (.val (.val (.slice 1 e (bytesV s)) false))
        | _ => none
      | _, _ => none
  | .makeInterface t x => (C.T t).bind fun i => match i.kind with
    | .iface => none
    | _ => (vk C regs t x).bind fun v => K (.val (.val (.iface t v) false))
  | .slice t x lo hi mx => (C.T t).bind fun i => match i.kind with
      | .string => if mx.isSome then none else (vk C regs t x).bind fun v => v.asStr.bind fun s => optIntK C regs lo 0 fun l => optIntK C regs hi s.size fun h =>
          (grd (decide (0 ≤ l) && decide (l ≤ h) && decide (h ≤ s.size))).bind fun _ => K (.val (.val (.str (s.extract l.toNat h.toNat)) false))
      | .slice e => (C.T e).bind fun ei => (vk C regs t x).bind fun v => (v.asSlice ei.size e).bind fun es => optIntK C regs lo 0 fun l => optIntK C regs hi es.length fun h =>
            (grd (decide (0 ≤ l) && decide (l ≤ h) && decide (h ≤ es.length))).bind fun _ =>
              match mx with
               | none => K (.val (.val (.slice ei.size e ((es.take h.toNat).drop l.toNat)) false))
               | some q => if hi.isSome = true then optIntK C regs (some q) 0 fun m => (grd (decide (h = m))).bind fun _ => K (.val (.val (.full ei.size e ((es.take h.toNat).drop l.toNat)) true)) else none
      | .array n e => (C.T e).bind fun ei => if mx.isSome = true ∨ ei.size ≠ 1 then none else (vk C regs 0 x).bind fun v => (v.asArr n).bind fun cs => optIntK C regs lo 0 fun l => optIntK C regs hi n fun h =>
            (grd (decide (0 ≤ l) && decide (l ≤ h) && decide (h ≤ n) && decide (l < n))).bind fun _ => K (.val (.val (.slice 1 e (((cs.map fun v => [v]).take h.toNat).drop l.toNat)) false))
      | _ => none
  | .fieldAddr s x f => (C.T s).bind fun i => match i.kind with
      | .struct fs => (fs[f]?).bind fun p => (C.T p.2).bind fun fi => if fi.size = 0 then none else match opndT C regs 0 x with
          | .lptr r of => K (.val (.lptr r (of + p.1)))
          | .val v _ => (grd v.isPtr).bind fun _ => K (.val (.val (v.addOff p.1) false))
          | _ => none
      | _ => none
  | .field t x f => (C.T t).bind fun i => match i.kind with
      | .struct fs => (fs[f]?).bind fun p => (C.T p.2).bind fun fi => (vk C regs t x).bind fun v => (grd (v.fits true i.size && decide (p.1 + fi.size ≤ i.size) && (fi.agg || decide (0 < fi.size)))).bind fun _ =>
              if fi.agg then K (.val (.val (.agg ((List.range fi.size).map fun j => v.cell (p.1 + j))) false))
               else K (.val (.val (v.cell p.1) false))
      | _ => none
  | .indexAddr t x ix => (C.T t).bind fun i => match i.kind with
      | .slice e => (C.T e).bind fun ei => (vk C regs t x).bind fun v => (v.asSlice ei.size e).bind fun es => (vk C regs 0 ix).bind fun w => (w.asInt .i64).bind fun n =>
            (grd (decide (0 ≤ n) && decide (n < es.length))).bind fun _ => K (.val (.val (.eptr ei.size (es.getD n.toNat []) 0) false))
      | .array len e => (C.T e).bind fun ei => (vk C regs 0 x).bind fun p => (grd p.isPtr).bind fun _ => (vk C regs 0 ix).bind fun w => (w.asInt .i64).bind fun n =>
              (grd (decide (0 ≤ n) && decide (n < len))).bind fun _ => K (.val (.val (p.addOff (n.toNat * ei.size)) false))
      | _ => none
  | .index t x ix => (C.T t).bind fun i => match i.kind with
      | .string => (vk C regs t x).bind fun v => v.asStr.bind fun s => (vk C regs 0 ix).bind fun w => (w.asInt .i64).bind fun n =>
          (grd (decide (0 ≤ n) && decide (n < s.size))).bind fun _ => K (.val (.val (.int .u8 (byteAt s n.toNat)) false))
      | .array len e => (C.T e).bind fun ei => if ei.agg then none else if ei.size ≠ 1 then none else (vk C regs t x).bind fun v => (grd (v.fits true len)).bind fun _ => (vk C regs 0 ix).bind fun w => (w.asInt .i64).bind fun n =>
              (grd (decide (0 ≤ n) && decide (n < len))).bind fun _ => K (.val (.val (v.cell n.toNat) false))
      | _ => none
  | .lookup t x ix ok => (C.T t).bind fun i => match i.kind with
      | .map k e => (C.T k).bind fun ki => (C.T e).bind fun ei => match ki.kind, ei.kind, ok with
        | .string, .int .i64, false => (vk C regs t x).bind fun v => v.asMap.bind fun es => (vk C regs 0 ix).bind fun w => w.asStr.bind fun s => K (.val (.val (.int .i64 (mapLook es s)) false))
        | _, _, _ => none
      | _ => none
  | .makeFunc fn first captured => if first.size = 0 then (argCells C regs (captured.toList.map fun x => (x, 0))).bind fun cs => K (.val (.val (.func fn [] (cs.map (·.1))) false)) else none
  | .extract t ix => match t with
    | .tmp r => K (.tupTake r ix)
    | _ => none
  | .panic x => (vk C regs 0 x).bind fun v => v.asIface.bind fun v => K (.pan v)
  | .call c => match c.callee with
    | .builtin .len => match c.args.toList, c.argTypes.toList with
      | [x], [t] => (C.T t).bind fun i => match i.kind with
          | .string => (vk C regs t x).bind fun v => v.asStr.bind fun s => K (.val (.val (.int .i64 s.size) false))
          | .slice e => (C.T e).bind fun ei => (vk C regs t x).bind fun v => (v.asSlice ei.size e).bind fun es => K (.val (.val (.int .i64 es.length) false))
          | .array n _ => K (.val (.val (.int .i64 n) false))
          | _ => none
      | _, _ => none
    | .builtin .append => match c.args.toList, c.argTypes.toList with
      | [x, y], [t, u] => (C.T t).bind fun i => (C.T u).bind fun j => match i.kind, j.kind with
          | .slice e, .slice e' => (C.T e).bind fun ei => (C.T e').bind fun ei' => if ei.size = ei'.size ∧ ei.bytes ≤ 4096 ∧ 0 < ei.bytes ∧ ei.isTup = false then
                (match opndT C regs t x with
                 | .val v true => (v.asRow ei.size e).bind fun es => (vk C regs u y).bind fun w => (w.asSlice ei.size e').bind fun xs =>
                     (grd ((!v.isFull || decide (0 < xs.length)) && room (es.length + xs.length))).bind fun _ => K (.val (.val (.slice ei.size e (es ++ xs)) true))
                 | _ => none) else none
          | .slice e, .string => (C.T e).bind fun ei => if ei.size = 1 ∧ ei.bytes ≤ 4096 ∧ 0 < ei.bytes ∧ ei.isTup = false then
                (match opndT C regs t x with
                 | .val v true => (v.asSlice 1 e).bind fun es => (vk C regs u y).bind fun w => w.asStr.bind fun s =>
                     (grd (room (es.length + s.size))).bind fun _ => K (.val (.val (.slice 1 e (es ++ bytesV s)) true))
                 | _ => none) else none
          | _, _ => none
      | _, _ => none
    | .builtin .max => match c.args.toList with
      | [x, y] => (vk C regs 0 x).bind fun v => (v.asInt .i64).bind fun a => (vk C regs 0 y).bind fun w => (w.asInt .i64).bind fun b => K (.val (.val (.int .i64 (if a < b then b else a)) false))
      | _ => none
    | .builtin _ => none
    | .invoke .. => none
    | .value g => (vk C regs 0 g).bind fun gv => gv.asFunc.bind fun f =>
        if c.args.size = c.argTypes.size ∧ distinct (c.args.toList.flatMap tmpOf) then
          (argCells C regs (c.args.toList.zip c.argTypes.toList)).bind fun args => match isPure H g with
            | true => K (.pcall f.1 (f.2.1.map (fun v => (v, false)) ++ args ++ f.2.2.map fun v => (v, false)) (nres C o.type))
            | false => K (.call f.1 (f.2.1.map (fun v => (v, false)) ++ args ++ f.2.2.map fun v => (v, false)) (nres C o.type))
          else none
  | _ => none
def clr : RV → RV
 | .val v _ => .val v false
 | x => x
def clearRegs (regs : List RV) : List Nat → List RV
 | [] => regs
 | r :: rs => clearRegs (regs.modify r clr) rs
def St.setReg (st : St) (r : Nat) (x : RV) : St := { st with regs := st.regs.set r x }
def St.put (st : St) (dst : Option Nat) (x : RV) : St := match dst with | some d => st.setReg d x | none => st
def St.clear (st : St) (rs : List Nat) : St := { st with regs := clearRegs st.regs rs }
def tokF (H : Hints) (dst : Option Nat) (i : Nat) : Bool := match dst with | some d => H.ownres.contains (d, i) | none => false
def resV (H : Hints) (dst : Option Nat) (n : Nat) (vs : List Cell) : RV :=
 if n = 1 then .val (vs.getD 0 cellD).1 (tokF H dst 0) else .tup ((List.range n).map fun i => ((vs.getD i cellD).1, tokF H dst i))
def toksOk (H : Hints) (dst : Option Nat) (n : Nat) (vs : List Cell) : Bool := (List.range n).all (fun i => !tokF H dst i || (vs.getD i cellD).2)
def apply (H : Hints) (call : CallF) (dst : Option Nat) (st : St) (K : Out → Option Res) : Eff → Option Res
 | .val x => K (.next (st.put dst x))
 | .getL r o n agg steal => if steal then
    (if o < (st.locs.getD r []).length ∧ n = 1 ∧ agg = false then
     (if ((st.locs.getD r []).getD o cellD).2 then K (.next ({ st with locs := st.locs.set r ((st.locs.getD r []).set o (((st.locs.getD r []).getD o cellD).1, false)) }.put dst (.val ((st.locs.getD r []).getD o cellD).1 true))) else none) else none)
   else (gather (st.locs.getD r []) o n agg).bind fun v => K (.next (st.put dst (.val v false)))
 | .setL r o cs => if o + cs.length ≤ (st.locs.getD r []).length then K (.next ({ st with locs := st.locs.set r (setCells (st.locs.getD r []) o cs) }.put dst .dead)) else none
 | .newL cs => match dst with
  | some d => if d < st.locs.length ∧ cs.length ≠ 0 ∧ (st.regs.all fun x => !isLptr d x) = true then K (.next ({ st with locs := st.locs.set d cs }.setReg d (.lptr d 0))) else none
  | none => none
 | .getS p n agg => (memGet st.sto p agg n).bind fun v => K (.next (st.put dst (.val v false)))
 | .takeS p => (memTake st.sto p).bind fun v => K (.next ({ st with sto := v.2 }.put dst (.val v.1 true)))
 | .setS p cs => (memSet st.sto p cs).bind fun σ => K (.next ({ st with sto := σ }.put dst .dead))
 | .newS t cs => match dst with
  | some d => K (.next ({ st with sto := st.sto ++ [cs] }.setReg d (.val (.ptr t st.sto.length 0) false)))
  | none => none
 | .tupTake r i => match st.regs.getD r .dead with
  | .tup cs => match cs[i]? with
   | some c => K (.next ((st.setReg r (.tup (cs.set i (c.1, false)))).put dst (.val c.1 c.2)))
   | none => none
  | _ => none
 | .call f args n => match call f args st.sto with
  | none => none
  | some r => match r.1 with
   | .ret vs => if vs.length = n then (grd (toksOk H dst n vs)).bind fun _ => K (.next ({ st with sto := r.2 }.put dst (resV H dst n vs))) else none
   | .pan v => K (.pan v { st with sto := r.2 })
 | .pcall f args n => (pcallR (call f args [])).bind fun vs => if vs.length = n then (grd (toksOk H dst n vs)).bind fun _ => K (.next (st.put dst (resV H dst n vs))) else none
 | .pan v => K (.pan v st)
def aop (H : Hints) (call : CallF) (o : Oper) (st : St) (K : Out → Option Res) : Option Res :=
 actK C H o st.regs fun e => apply H call o.dst (st.clear (clearOf H o)) K e
def edgesOf (o : Oper) : List Nat := (o.after.toList.filter fun e => Region.binds .any e).map (·.on)
def addAll : List Nat → List Nat → List Nat
 | [], acc => acc
 | x :: xs, acc => if acc.contains x then addAll xs acc else addAll xs (x :: acc)
def ancs : List Oper → List (List Nat) → List (List Nat)
 | [], T => T
 | o :: rest, T => ancs rest (T ++ [addAll ((edgesOf o).flatMap fun k => k :: T.getD k []) []])
inductive LF where | none | one (r : Nat) | all
def LF.has : LF → Nat → Bool
 | .none, _ => false
 | .one r, i => r == i
 | .all, _ => true
def LF.meets : LF → LF → Bool
 | .none, _ => false
 | _, .none => false
 | .one r, .one i => r == i
 | _, _ => true
def assoc : List (Nat × Nat) → Nat → Option Nat
 | [], _ => none
 | (a, r) :: rest, x => if a = x then some r else assoc rest x
def locOf (H : Hints) : Operand → LF
 | .tmp a => if H.lp.contains a then (match assoc H.roots a with | some r => .one r | none => .all) else .none
 | _ => .none
def locF (H : Hints) (o : Oper) : LF := match o.op with
 | .load _ a => locOf H a
 | .store _ a _ => locOf H a
 | _ => .none
def locW (H : Hints) (o : Oper) : LF := match o.op with
 | .load _ a => if o.dst.any H.steal.contains then locOf H a else .none
 | .store _ a _ => locOf H a
 | _ => .none
def stoW (H : Hints) (o : Oper) : Bool := match o.op with
 | .load _ a => addrCls H a == .sto && o.dst.any H.steal.contains
 | .store _ a _ => addrCls H a == .sto
 | .alloc _ | .box .. | .panic _ => true
 | .call c => match c.callee with | .value g => !isPure H g | _ => false
 | _ => false
def stoF (H : Hints) (o : Oper) : Bool := stoW H o || match o.op with
 | .load _ a => addrCls H a == .sto
 | _ => false
def wild (H : Hints) (o : Oper) : Bool := match o.op with
 | .alloc _ | .box .. => !o.dst.any H.esc.contains
 | _ => false
def regW (H : Hints) (o : Oper) : List Nat := o.dst.toList ++ clearOf H o ++ match o.op with | .extract t _ => tmpOf t | _ => []
def guardReg (ops : Array Oper) (o : Oper) : List Nat := match o.guard with | some (j, _) => ((ops[j]?).bind (·.dst)).toList | none => []
def regF (H : Hints) (ops : Array Oper) (o : Oper) : List Nat := o.op.operands.toList.flatMap tmpOf ++ guardReg ops o ++ regW H o
def apart (xs ys : List Nat) : Bool := xs.all fun x => !ys.contains x
def allocFirst (H : Hints) (ops : Array Oper) (x y : Oper) : Bool :=
 (match x.op with | .alloc _ => true | _ => false) && x.guard.isNone && !wild H y && (match x.dst with | some d => !H.esc.contains d && !(regF H ops y).contains d && !(locF H y).has d | none => false)
def indep (H : Hints) (ops : Array Oper) (x y : Oper) : Bool :=
 allocFirst H ops x y || (
 !wild H x && !wild H y && apart (regW H x) (regF H ops y) && apart (regW H y) (regF H ops x) &&
 !(locW H x).meets (locF H y) && !(locW H y).meets (locF H x) && !(stoW H x && stoF H y) && !(stoW H y && stoF H x))
def pairs (f : Nat → Nat → Bool) : List Nat → Bool
 | [] => true
 | x :: xs => xs.all (f x) && pairs f xs
def edgesAt (ops : Array Oper) (i : Nat) : List Nat := match ops[i]? with | some o => edgesOf o | none => []
def indepAt (H : Hints) (ops : Array Oper) (i j : Nat) : Bool := match ops[i]?, ops[j]? with | some x, some y => indep H ops x y | _, _ => false
def free (H : Hints) (ops : Array Oper) (ord : List Nat) : Bool :=
  ord.length == ops.size && distinct ord && ord.all (· < ops.size) && (List.range ops.size).all ord.contains &&
  (List.range ops.size).all (fun i => (edgesAt ops i).all fun k => k < ops.size && k != i) &&
  pairs (fun i j => !(edgesAt ops i).contains j && (((ancs ops.toList []).getD j []).contains i || indepAt H ops i j)) ord
def isRoot (r : Nat) : RV → Bool
 | .lptr r' _ => r' == r
 | .tup [] => true
 | _ => false
def rootOk (H : Hints) (o : Oper) (regs : List RV) : Bool :=
 let chk : Operand → Bool := fun
  | .tmp a => match assoc H.roots a with | some r => isRoot r (regs.getD a .dead) | none => true
  | _ => true
 match o.op with
 | .load _ a => chk a
 | .store _ a _ => chk a
 | _ => true
def chkOk (H : Hints) (dr : Option (List (List Nat))) (o : Oper) (regs : List RV) : Bool := match dr with | none => true | some _ => rootOk H o regs
def panOk (dr : Option (List (List Nat))) (i : Nat) (rest : List Nat) : Bool := match dr with | none => true | some T => rest.all fun k => (T.getD k []).contains i
def aops (H : Hints) (call : CallF) (dr : Option (List (List Nat))) (ops : Array Oper) : List Nat → St → (Out → Option Res) → Option Res
  | [], st, K => K (.next st)
  | i :: rest, st, K => match ops[i]? with
    | none => none
    | some o => (grd (chkOk H dr o st.regs)).bind fun _ => match o.guard with
      | none => aop C H call o st fun out => match out with | .next st => aops H call dr ops rest st K | .pan v st => (grd (panOk dr i rest)).bind fun _ => K (.pan v st)
      | some (j, want) => match (ops[j]?).bind (·.dst) with
        | none => none
        | some d => match st.regs.getD d .dead with
          | .val v ow => v.asBool.bind fun b =>
              bif b then
                (if want then aop C H call o (st.setReg d (.val (.bool true) ow)) fun out => match out with | .next st => aops H call dr ops rest st K | .pan v st => (grd (panOk dr i rest)).bind fun _ => K (.pan v st)
                 else aops H call dr ops rest ((st.setReg d (.val (.bool true) ow)).put o.dst (.tup [])) K)
              else
                (if want then aops H call dr ops rest ((st.setReg d (.val (.bool false) ow)).put o.dst (.tup [])) K
                 else aop C H call o (st.setReg d (.val (.bool false) ow)) fun out => match out with | .next st => aops H call dr ops rest st K | .pan v st => (grd (panOk dr i rest)).bind fun _ => K (.pan v st))
          | .tup [] => aops H call dr ops rest (st.put o.dst (.tup [])) K
          | _ => none
def keepRegs (keep : List Nat) : Nat → List RV → List RV
 | _, [] => []
 | i, x :: xs => (if keep.contains i then x else .dead) :: keepRegs keep (i + 1) xs
def keepLocs (keep : List Nat) : Nat → List (List Cell) → List (List Cell)
 | _, [] => []
 | i, x :: xs => (if keep.contains i then x else []) :: keepLocs keep (i + 1) xs
def St.kill (keep : List Nat) (st : St) : St := { st with regs := keepRegs keep 0 st.regs, locs := keepLocs keep 0 st.locs }
def kloop (keep : List Nat) (F : St → Option Res) (K : Ex → St → Option Res) : Ex → St → Option Res := fun ex st' => match ex with | .normal => F (st'.kill keep) | ex => K ex st'
def aloop (body : St → (Ex → St → Option Res) → Option Res) (keep : List Nat) : Nat → St → (Ex → St → Option Res) → Option Res
 | 0, _, _ => none
 | n + 1, st, K => body st (kloop keep (fun st' => aloop body keep n st' K) K)
def kseq (next : St → Option Res) (K : Ex → St → Option Res) : Ex → St → Option Res := fun ex st' => match ex with | .normal => next st' | ex => K ex st'
def kblk (id : Nat) (K : Ex → St → Option Res) : Ex → St → Option Res := fun ex st' => match ex with
 | .exit id' => if id' = id then K .normal st' else K (.exit id') st'
 | ex => K ex st'
def aexec (H : Hints) (call : CallF) (n : Nat) : Code → Nat → St → (Ex → St → Option Res) → Option Res
 | .skip, _, st, K => K .normal st
 | .label _, _, st, K => K .normal st
 | .region id ops draw, _, st, K =>
   if draw then (grd (free H ops (H.ord id))).bind fun _ => aops C H call (some (ancs ops.toList [])) ops (H.ord id) st fun out => match out with | .next st => K .normal st | .pan v st => K (.pan v) st
   else aops C H call none ops (List.range ops.size) st fun out => match out with | .next st => K .normal st | .pan v st => K (.pan v) st
 | .seq a b, _, st, K => aexec H call n a 0 st (kseq (fun st' => aexec H call n b 0 st' K) K)
 | .cond c x y, _, st, K => match c with
  | .tmp r => match st.regs.getD r .dead with
   | .val v ow => v.asBool.bind fun b => bif b then aexec H call n x 0 (st.setReg r (.val (.bool true) ow)) K else aexec H call n y 0 (st.setReg r (.val (.bool false) ow)) K
   | _ => none
  | .const (.bool b) => if b then aexec H call n x 0 st K else aexec H call n y 0 st K
  | _ => none
 | .block id body, _, st, K => aexec H call n body id st (kblk id K)
 | .loop body, id, st, K => aloop (fun st K => aexec H call n body 0 st K) (H.keep id) n (st.kill (H.keep id)) K
 | .exit id, _, st, K => K (.exit id) st
 | .ret, _, st, K => K .ret st
 | _, _, _, _ => none
def resCells (st : St) : List ResultVar → Option (List Cell)
 | [] => some []
 | .tmp t :: rest => match st.regs.getD t .dead with
  | .val v o => (resCells (st.clear [t]) rest).bind fun cs => some ((v, o) :: cs)
  | _ => none
 | .cell a t :: rest => (C.T t).bind fun i => match st.regs.getD a .dead with
  | .lptr r o => (gather (st.locs.getD r []) o i.size i.agg).bind fun v => (resCells st rest).bind fun cs => some ((v, false) :: cs)
  | .val p _ => (memGet st.sto p i.agg i.size).bind fun v => (resCells st rest).bind fun cs => some ((v, false) :: cs)
  | _ => none
def kfin (d : FDef) : Ex → St → Option Res := fun ex st => match ex with
 | .normal => (resCells C st d.fn.results.toList).bind fun vs => some (.ret vs, st.sto)
 | .ret => (resCells C st d.fn.results.toList).bind fun vs => some (.ret vs, st.sto)
 | .pan v => some (.pan v, st.sto)
 | .exit _ => none
def afun (d : FDef) (call : CallF) (n : Nat) (args : List Cell) (σ : Sto) : Option Res :=
 if args.length ≤ d.fn.ntmps then
  aexec C d.hints call n d.code 0 { regs := args.map (fun c => .val c.1 c.2) ++ List.replicate (d.fn.ntmps - args.length) .dead, locs := List.replicate d.fn.ntmps [], sto := σ } (kfin C d)
 else none
def maskArgs (own : List Nat) : Nat → List Cell → List Cell
 | _, [] => []
 | i, c :: cs => (c.1, own.contains i && c.2) :: maskArgs own (i + 1) cs
def acall : Nat → CallF
 | 0, _, _, _ => none
 | n + 1, f, args, σ => match C.ext f with
  | some s => s args σ
  | none => match C.fdef f with
   | some d => afun C d (acall n) n (maskArgs d.hints.own 0 args) σ
   | none => none
end
end Go.Ab
end
section
namespace Go.Ab
section
variable {C : Ctx} {H : Hints}
theorem bc {α β : Type} {x : Option α} {f : α → Option β} {g : α → Option Res} {K : β → Option Res} (h : ∀ a, g a = (f a).bind K) : x.bind g = (x.bind f).bind K := by
 cases x with
 | none => rfl
 | some a => exact h a
theorem intOpK_eq (op : BinOp) (k : IntKind) (a b : Int) (K : V → Option Res) : intOpK op k a b K = (intOp op k a b).bind K := by
 cases op <;> simp only [intOpK, intOp] <;> (try rfl) <;> (rw [Option.bind_assoc]; rfl)
theorem strOpK_eq (op : BinOp) (a b : ByteArray) (K : V → Option Res) : strOpK op a b K = (strOp op a b).bind K := by
 cases op <;> simp only [strOpK, strOp] <;> (try rfl) <;> (rw [Option.bind_assoc]; rfl)
theorem binKK_eq (regs : List RV) (op : BinOp) (t : TypeId) (x y : Operand) (K : V → Option Res) : binKK C regs op t x y K = (binK C regs op t x y).bind K := by
 simp only [binKK, binK, intOpK_eq, strOpK_eq]
 repeat' first
  | rfl
  | (refine bc fun _ => ?_)
  | split
theorem fillKK_eq (regs : List RV) (place : Nat → Option (Nat × Nat × TypeId)) (K : List V → Option Res) : ∀ (ps : List (Nat × Operand)) (cs : List V), fillKK C regs place cs ps K = (fillK C regs place cs ps).bind K
 | [], _ => rfl
 | (i, x) :: rest, cs => by
  simp only [fillKK, fillK, Option.bind_assoc]
  congr 1; funext p; congr 1; funext ti; congr 1; funext v; congr 1; funext _
  exact fillKK_eq regs place K rest _
theorem optIntK_eq (regs : List RV) (x : Option Operand) (d : Int) (K : Int → Option Res) : optIntK C regs x d K = (optInt C regs x d).bind K := by
 cases x <;> simp only [optIntK, optInt, Option.bind_assoc] <;> rfl
theorem actK_eq (o : Oper) (regs : List RV) (K : Eff → Option Res) : actK C H o regs K = (act C H o regs).bind K := by
 obtain ⟨dst, op, type, pos, after, guard⟩ := o
 cases op
 case call c =>
  obtain ⟨callee, args, argTypes⟩ := c
  cases callee with
  | builtin b =>
   cases b <;> simp only [actK, act]
   all_goals repeat' first
    | with_reducible exact (Option.bind_some ..).symm
    | with_reducible exact (Option.bind_none ..).symm
    | (refine bc fun _ => ?_)
    | split
  | invoke => rfl
  | value g =>
   simp only [actK, act]
   repeat' first
    | with_reducible exact (Option.bind_some ..).symm
    | with_reducible exact (Option.bind_none ..).symm
    | (refine bc fun _ => ?_)
    | split
 all_goals
  simp only [actK, act, binKK_eq, fillKK_eq, optIntK_eq]
  repeat' first
   | with_reducible exact (Option.bind_some ..).symm
   | with_reducible exact (Option.bind_none ..).symm
   | (refine bc fun _ => ?_)
   | split
end
end Go.Ab
end
section
namespace Go.Ab
section
variable {C : Ctx} {H : Hints} {call : CallF}
def SameOn (xs : List Operand) (s t : List RV) : Prop := ∀ r, Operand.tmp r ∈ xs → s.getD r .dead = t.getD r .dead
theorem opndT_same {xs : List Operand} {s t : List RV} (h : SameOn xs s t) {x : Operand} (hx : x ∈ xs) (ty : TypeId) : opndT C s ty x = opndT C t ty x := by
 cases x with
 | tmp r => exact h r hx
 | _ => rfl
theorem vk_same {xs : List Operand} {s t : List RV} (h : SameOn xs s t) {x : Operand} (hx : x ∈ xs) (ty : TypeId) : vk C s ty x = vk C t ty x := by
 simp only [vk, opndT_same h hx]
theorem ck_same {xs : List Operand} {s t : List RV} (h : SameOn xs s t) {x : Operand} (hx : x ∈ xs) (ty : TypeId) : ck C s ty x = ck C t ty x := by
 simp only [ck, opndT_same h hx]
theorem fillK_same {xs : List Operand} {s t : List RV} (h : SameOn xs s t) (place : Nat → Option (Nat × Nat × TypeId)) : ∀ (ps : List (Nat × Operand)) (cs : List V), (∀ p ∈ ps, p.2 ∈ xs) → fillK C s place cs ps = fillK C t place cs ps
 | [], _, _ => rfl
 | (i, x) :: rest, cs, hp => by
  simp only [fillK]
  congr 1; funext p; congr 1; funext ti
  rw [vk_same h (hp _ (List.mem_cons_self ..))]
  congr 1; funext v; congr 1; funext _
  exact fillK_same h place rest _ fun p hp' => hp p (List.mem_cons_of_mem _ hp')
theorem plainParts_same {xs : List Operand} {s t : List RV} (h : SameOn xs s t) : ∀ (ps : List (Nat × Operand)), (∀ p ∈ ps, p.2 ∈ xs) → plainParts C s ps = plainParts C t ps
 | [], _ => rfl
 | p :: rest, hp => by
  have := plainParts_same h rest fun q hq => hp q (List.mem_cons_of_mem _ hq)
  unfold plainParts at *
  simp only [List.all_cons, this, opndT_same h (hp p (List.mem_cons_self ..))]
theorem argCells_same {xs : List Operand} {s t : List RV} (h : SameOn xs s t) : ∀ (ps : List (Operand × TypeId)), (∀ p ∈ ps, p.1 ∈ xs) → argCells C s ps = argCells C t ps
 | [], _ => rfl
 | (x, ty) :: rest, hp => by
  simp only [argCells]
  rw [ck_same h (hp _ (List.mem_cons_self ..)), argCells_same h rest fun p hp' => hp p (List.mem_cons_of_mem _ hp')]
theorem optInt_same {xs : List Operand} {s t : List RV} (h : SameOn xs s t) {x : Option Operand} (hx : ∀ y, x = some y → y ∈ xs) (d : Int) : optInt C s x d = optInt C t x d := by
 cases x with
 | none => rfl
 | some y => simp only [optInt, vk_same h (hx y rfl)]
theorem binK_same {xs : List Operand} {s t : List RV} (h : SameOn xs s t) {op : BinOp} {ty : TypeId} {x y : Operand} (hx : x ∈ xs) (hy : y ∈ xs) : binK C s op ty x y = binK C t op ty x y := by
 simp only [binK, vk_same h hx, vk_same h hy]
theorem act_same (o : Oper) {s t : List RV} (h : SameOn o.op.operands.toList s t) : act C H o s = act C H o t := by
  obtain ⟨dst, op, type, pos, after, guard⟩ := o
  simp only at h
  cases op
  case call c =>
    obtain ⟨callee, args, argTypes⟩ := c
    simp only [Op.operands, Call.operands] at h
    cases callee with
    | builtin b =>
      simp only [Array.toList_append, List.nil_append] at h
      cases b <;> simp only [act]
      all_goals
        split <;> try rfl
        simp only [*, List.mem_cons, true_or, or_true, vk_same h, opndT_same h]
    | invoke => rfl
    | value g =>
      simp only [act]
      rw [vk_same h (by simp), argCells_same h (args.toList.zip argTypes.toList) (fun p hp => by
        have := (List.of_mem_zip hp).1
        simp [this])]
  case build ty ps =>
    simp only [Op.operands] at h
    have hp : ∀ p ∈ ps.toList, p.2 ∈ (ps.toList.map (·.2)).toArray.toList := fun p hp => by simpa using ⟨p.1, by simpa using hp⟩
    simp only [act, fillK_same h _ ps.toList _ hp, plainParts_same h ps.toList hp]
  case buildSlice ty n ps =>
    simp only [Op.operands] at h
    have hp : ∀ p ∈ ps.toList, p.2 ∈ (ps.toList.map (·.2)).toArray.toList := fun p hp => by simpa using ⟨p.1, by simpa using hp⟩
    simp only [act, fillK_same h _ ps.toList _ hp]
  case makeFunc fn first captured =>
    simp only [Op.operands] at h
    simp only [act]
    rw [argCells_same h (captured.toList.map fun x => (x, 0)) (fun p hp => by
      obtain ⟨x, hx, rfl⟩ := List.mem_map.1 hp
      simp only [Array.toList_append, List.mem_append]
      exact .inr hx)]
  case slice ty x lo hi mx =>
    simp only [Op.operands] at h
    have hx := vk_same (C := C) (x := x) h (by simp)
    have hl := fun d => optInt_same (C := C) (x := lo) h (by rintro y rfl; simp) d
    have hh := fun d => optInt_same (C := C) (x := hi) h (by rintro y rfl; simp) d
    cases mx with
    | none => simp only [act, hx, hl, hh]
    | some q =>
      have hm := fun d => optInt_same (C := C) (x := some q) h (by rintro y hy; cases hy; simp) d
      simp only [act, hx, hl, hh, hm]
  all_goals first
    | rfl
    | (simp only [Op.operands] at h
       simp only [act, List.mem_cons, true_or, or_true, vk_same h, opndT_same h, ck_same h, binK_same h])
end
end Go.Ab
end
section
namespace Go.Ab
inductive Place where
 | reg (r : Nat) | tup (r i : Nat) | lc (r o : Nat) | gc (b o : Nat) | box (r : Nat) | blk (b : Nat) | res (i : Nat)
 deriving DecidableEq
structure Gh where
 N : Nat
 μ : Nat → Nat
 lim : Nat → Nat
 owner : Nat → Option Place
 ty : Nat → TypeId
def upd {α : Type} (f : Nat → α) (i : Nat) (x : α) : Nat → α := fun j => if j = i then x else f j
@[simp] theorem upd_same {α : Type} (f : Nat → α) (i : Nat) (x : α) : upd f i x i = x := by simp [upd]
theorem upd_other {α : Type} (f : Nat → α) {i j : Nat} (x : α) (h : j ≠ i) : upd f i x j = f j := by simp [upd, h]
def peek (w : World) (b o : Nat) : Option (Value ⊕ (Array MapEntry × Nat)) :=
 match w.heap[b]? with
 | some (.map es c) => some (.inr (es, c))
 | _ => (w.cell? ⟨b, o, none⟩).map .inl
theorem peek_map {w : World} {b o : Nat} {es : Array MapEntry} {c : Nat} (h : peek w b o = some (.inr (es, c))) : w.heap[b]? = some (.map es c) := by
 unfold peek at h
 split at h
 ·rename_i es' c' hh; simp at h; rw [hh, h.1, h.2]
 ·simp at h
theorem peek_block {w w' : World} {b : Nat} (h : w'.heap[b]? = w.heap[b]?) (o : Nat) : peek w' b o = peek w b o := by
 simp only [peek, World.cell?, h]
theorem peek_cell {w w' : World} {b o : Nat} (h : w'.cell? ⟨b, o, none⟩ = w.cell? ⟨b, o, none⟩) (h1 : ∀ es c, w.heap[b]? ≠ some (.map es c)) (h2 : ∀ es c, w'.heap[b]? ≠ some (.map es c)) : peek w' b o = peek w b o := by
 have e : ∀ {u : World}, (∀ es c, u.heap[b]? ≠ some (.map es c)) → peek u b o = (u.cell? ⟨b, o, none⟩).map .inl := by
  intro u hu
  unfold peek
  split
  ·rename_i es c hh; exact absurd hh (hu es c)
  ·rfl
 rw [e h1, e h2, h]
theorem cell_peek {w w' : World} {b o : Nat} (h : peek w' b o = peek w b o) : w'.cell? ⟨b, o, none⟩ = w.cell? ⟨b, o, none⟩ := by
 have e : ∀ u : World, u.cell? ⟨b, o, none⟩ = (match peek u b o with | some (.inl v) => some v | _ => none) := by
  intro u
  simp only [peek, World.cell?]
  cases u.heap[b]? with
  | none => rfl
  | some ob => cases ob <;> first | rfl | (simp only []; split <;> rfl) | (rename_i c t f; simp; cases c[o]? <;> rfl)
 rw [e, e, h]
inductive Rel (G : Gh) (w : World) : V → Value → Prop
 | any (c : Value) : c.oneCell' = true → Rel G w .any c
 | bool (b : Bool) : Rel G w (.bool b) (.bool b)
 | int (k : IntKind) (n : Int) : Rel G w (.int k n) (.int k n)
 | str (s : ByteArray) : Rel G w (.str s) (.string s)
 | nilp : Rel G w .nilp (.pointer none)
 | ptr (t : TypeId) (b o : Nat) : b < G.N → G.ty b = t → Rel G w (.ptr t b o) (.pointer (some ⟨G.μ b, o, none⟩))
 | eptr (k : Nat) (e : List V) (o b off : Nat) (cs : List Value) : e.length = k → cs.length = k → off + k ≤ G.lim b →
   (∀ (i : Nat) (c : Value), cs[i]? = some c → w.cell? ⟨b, off + i, none⟩ = some c ∧ c.oneCell' = true) →
   (∀ (i : Nat) (v : V) (c : Value), e[i]? = some v → cs[i]? = some c → Rel G w v c) → Rel G w (.eptr k e o) (.pointer (some ⟨b, off + o, none⟩))
 | nils : Rel G w .nils (.slice none 0 0)
 | snil (k : Nat) (e : TypeId) : Rel G w (.slice k e []) (.slice none 0 0)
 | slice (k : Nat) (et : TypeId) (es : List (List V)) (b off c : Nat) (cs : List (List Value)) : cs.length = es.length → es.length ≤ c → off + es.length * k ≤ G.lim b →
   (∀ (i : Nat) (e : List V), es[i]? = some e → e.length = k) → (∀ (i : Nat) (x : List Value), cs[i]? = some x → x.length = k) →
   (∀ (i j : Nat) (x : List Value) (c : Value), cs[i]? = some x → x[j]? = some c → w.cell? ⟨b, off + i * k + j, none⟩ = some c ∧ c.oneCell' = true) →
   (∀ (i j : Nat) (e : List V) (x : List Value) (v : V) (c : Value), es[i]? = some e → cs[i]? = some x → e[j]? = some v → x[j]? = some c → Rel G w v c) →
   Rel G w (.slice k et es) (.slice (some ⟨b, off, none⟩) es.length c)
 | func (fn : Fn) (first cap : List V) (f c : List Value) : f.length = first.length → c.length = cap.length →
   (∀ (i : Nat) (v : V) (x : Value), first[i]? = some v → f[i]? = some x → Rel G w v x) → (∀ (i : Nat) (v : V) (x : Value), cap[i]? = some v → c[i]? = some x → Rel G w v x) →
   Rel G w (.func fn first cap) (.func fn f.toArray c.toArray)
 | nilFunc : Rel G w .nilFunc .nilFunc
 | iface (t : TypeId) (v : V) (c : Value) : Rel G w v c → Rel G w (.iface t v) (.iface t c)
 | nilIface : Rel G w .nilIface .nilIface
 | lit (c : Value) : c.oneCell' = true → Rel G w (.lit c) c
 | map (es : List (ByteArray × Int)) (b : Nat) (ents : Array MapEntry) (clock : Nat) : 0 < G.lim b → peek w b 0 = some (.inr (ents, clock)) →
   ents.toList.map (fun e => (e.key, e.val)) = es.map (fun p => (Value.string p.1, Value.int .i64 p.2)) → Rel G w (.map es) (.map (some b))
 | full (k : Nat) (et : TypeId) (es : List (List V)) (c : Value) : Rel G w (.slice k et es) c → (∀ a n cap, c = .slice a n cap → n = cap) → Rel G w (.full k et es) c
 | agg (cs : List V) (xs : List Value) : xs.length = cs.length → (∀ (i : Nat) (x : Value), xs[i]? = some x → x.oneCell' = true) → (∀ (i : Nat) (v : V) (x : Value), cs[i]? = some v → xs[i]? = some x → Rel G w v x) → Rel G w (.agg cs) (.agg xs.toArray)
structure Ext (G : Gh) (w : World) (G' : Gh) (w' : World) : Prop where
 N : G.N ≤ G'.N
 μ : ∀ b, b < G.N → G'.μ b = G.μ b
 ty : ∀ b, b < G.N → G'.ty b = G.ty b
 lim : ∀ b, G.lim b ≤ G'.lim b
 peek : ∀ b o, o < G.lim b → peek w' b o = peek w b o
 os : w'.os = w.os
 tape : w'.tape = w.tape
 output : w'.output = w.output
 size : w.heap.size ≤ w'.heap.size
 old : ∀ i, i < w.heap.size → G.owner i = none → w'.heap[i]? = w.heap[i]? ∧ G'.lim i = G.lim i ∧ G'.owner i = none
theorem Ext.cell {G G' : Gh} {w w' : World} (x : Ext G w G' w') (b o : Nat) (h : o < G.lim b) : w'.cell? ⟨b, o, none⟩ = w.cell? ⟨b, o, none⟩ := cell_peek (x.peek b o h)
theorem Ext.refl (G : Gh) (w : World) : Ext G w G w :=
 ⟨Nat.le_refl _, fun _ _ => rfl, fun _ _ => rfl, fun _ => Nat.le_refl _, fun _ _ _ => rfl, rfl, rfl, rfl, Nat.le_refl _, fun _ _ h => ⟨rfl, rfl, h⟩⟩
theorem Ext.trans {G G1 G2 : Gh} {w w1 w2 : World} (h : Ext G w G1 w1) (k : Ext G1 w1 G2 w2) : Ext G w G2 w2 where
 N := Nat.le_trans h.N k.N
 μ b hb := (k.μ b (Nat.lt_of_lt_of_le hb h.N)).trans (h.μ b hb)
 ty b hb := (k.ty b (Nat.lt_of_lt_of_le hb h.N)).trans (h.ty b hb)
 lim b := Nat.le_trans (h.lim b) (k.lim b)
 peek b o ho := (k.peek b o (Nat.lt_of_lt_of_le ho (h.lim b))).trans (h.peek b o ho)
 os := k.os.trans h.os
 tape := k.tape.trans h.tape
 output := k.output.trans h.output
 size := Nat.le_trans h.size k.size
 old i hi ho := by
  obtain ⟨a1, a2, a3⟩ := h.old i hi ho
  obtain ⟨b1, b2, b3⟩ := k.old i (Nat.lt_of_lt_of_le hi h.size) a3
  exact ⟨b1.trans a1, b2.trans a2, b3⟩
theorem Rel.mono {G G' : Gh} {w w' : World} (x : Ext G w G' w') {v : V} {c : Value} (h : Rel G w v c) : Rel G' w' v c := by
 induction h with
 | any c h => exact .any c h
 | bool b => exact .bool b
 | int k n => exact .int k n
 | str s => exact .str s
 | nilp => exact .nilp
 | ptr t b o hb ht => rw [← x.μ b hb]; exact .ptr t b o (Nat.lt_of_lt_of_le hb x.N) ((x.ty b hb).trans ht)
 | eptr k e o b off cs h1 h2 h3 h4 _ ih =>
  refine .eptr k e o b off cs h1 h2 (Nat.le_trans h3 (x.lim b)) (fun i c hc => ?_) ih
  rw [x.cell b (off + i) (by have := (List.getElem?_eq_some_iff.1 hc).1; omega)]; exact h4 i c hc
 | nils => exact .nils
 | snil k e => exact .snil k e
 | slice k et es b off c cs h1 h2 h3 h4 h5 h6 _ ih =>
  refine .slice k et es b off c cs h1 h2 (Nat.le_trans h3 (x.lim b)) h4 h5 (fun i j y c hy hc => ?_) ih
  rw [x.cell b _ (by
   have hi := (List.getElem?_eq_some_iff.1 hy).1
   have hj := (List.getElem?_eq_some_iff.1 hc).1
   rw [h5 i y hy] at hj
   have : (i + 1) * k ≤ es.length * k := Nat.mul_le_mul_right k (by omega)
   rw [Nat.succ_mul] at this
   omega)]
  exact h6 i j y c hy hc
 | func fn first cap f c h1 h2 _ _ ih1 ih2 => exact .func fn first cap f c h1 h2 ih1 ih2
 | nilFunc => exact .nilFunc
 | iface t v c _ ih => exact .iface t v c ih
 | nilIface => exact .nilIface
 | agg cs xs h1 h2 _ ih => exact .agg cs xs h1 h2 ih
 | lit c h => exact .lit c h
 | full k et es c _ h2 ih => exact .full k et es c ih h2
 | map es b ents clock h1 h2 h3 => exact .map es b ents clock (Nat.lt_of_lt_of_le h1 (x.lim b)) ((x.peek b 0 h1).trans h2) h3
def Tight : Value → Prop
 | .slice (some _) _ _ => False
 | _ => True
def Own (G : Gh) (w : World) (p : Place) (v : V) (c : Value) : Prop :=
 match v, c with
 | .slice k e _, .slice (some a) n cap => a.off = 0 ∧ a.spot = none ∧ G.owner a.block = some p ∧ G.lim a.block = n * k ∧
   ∃ cv fr, w.heap[a.block]? = some (.cells cv e fr) ∧ cap * k ≤ cv.size ∧ fr.2 ≤ n * k
 | .agg cs, .agg xs => ∀ (i k : Nat) (e : TypeId) (x : Value), cs[i]? = some (.slice k e []) → xs[i]? = some x → Tight x
 | _, _ => True
def CRel (G : Gh) (w : World) (p : Place) (c : Cell) (x : Value) : Prop := Rel G w c.1 x ∧ (c.2 = true → Own G w p c.1 x)
theorem Own.move {G G' : Gh} {w w' : World} {p q : Place} {v : V} {c : Value} (h : Own G w p v c)
  (hp : ∀ i, G.owner i = some p → w'.heap[i]? = w.heap[i]? ∧ G'.lim i = G.lim i ∧ G'.owner i = some q) : Own G' w' q v c := by
 unfold Own at *
 split at h
 ·obtain ⟨h1, h2, h3, h4, cv, fr, h5, h6, h7⟩ := h
  obtain ⟨a1, a2, a3⟩ := hp _ h3
  exact ⟨h1, h2, a3, by rw [a2]; exact h4, cv, fr, by rw [a1]; exact h5, h6, h7⟩
 ·exact h
 ·trivial
theorem CRel.move {G G' : Gh} {w w' : World} {p : Place} {c : Cell} {x : Value} (h : CRel G w p c x) (e : Ext G w G' w')
  (hp : c.2 = true → ∀ i, G.owner i = some p → w'.heap[i]? = w.heap[i]? ∧ G'.lim i = G.lim i ∧ G'.owner i = some p) : CRel G' w' p c x :=
 ⟨h.1.mono e, fun ho => (h.2 ho).move (hp ho)⟩
def BlkOk (G : Gh) (w : World) (r : Nat) (p : Place) (q : Nat → Place) (cs : List Cell) : Prop :=
 ∃ cv el, w.heap[r]? = some (.cells cv el (0, 0)) ∧ cv.size = cs.length ∧ G.owner r = some p ∧ G.lim r = 0 ∧
  ∀ (j : Nat) c x, cs[j]? = some c → cv[j]? = some x → CRel G w (q j) c x ∧ x.oneCell' = true
def WF (G : Gh) (w : World) : Prop := ∀ i, w.heap.size ≤ i → G.lim i = 0 ∧ G.owner i = none
def GSz (gl : Nat → Option (List V)) (G : Gh) (w : World) : Prop := ∀ (g : Nat) (cs : List V), gl g = some cs → G.owner g = none ∧ 0 < G.lim g ∧ ∃ cv el fr, w.heap[g]? = some (.cells cv el fr) ∧ cv.size = cs.length
theorem GSz.mono {gl : Nat → Option (List V)} {G G' : Gh} {w w' : World} (h : GSz gl G w) (e : Ext G w G' w') : GSz gl G' w' := fun g cs hg => by
 obtain ⟨h1, h2, cv, el, fr, h3, h4⟩ := h g cs hg
 obtain ⟨a1, a2, a3⟩ := e.old g (Array.getElem?_eq_some_iff.1 h3).1 h1
 exact ⟨a3, by rw [a2]; exact h2, cv, el, fr, a1.trans h3, h4⟩
structure SInv (gl : Nat → Option (List V)) (G : Gh) (w : World) (σ : Sto) : Prop where
 wf : WF G w
 glob : ∀ (g : Nat) (cs : List V), gl g = some cs → Rel G w (.eptr cs.length cs 0) (.pointer (some ⟨g, 0, none⟩))
 N : G.N = σ.length
 typed : ∀ b, b < σ.length → ∃ cv fr, w.heap[G.μ b]? = some (.cells cv (G.ty b) fr)
 blk : ∀ (b : Nat) (cs : List Cell), σ[b]? = some cs → BlkOk G w (G.μ b) (.blk b) (fun j => .gc b j) cs
 gsz : GSz gl G w
def RRel (G : Gh) (lam : Nat → Nat) (w : World) (r : Nat) (x : RV) (c : Value) : Prop :=
 match x with
 | .dead => True
 | .val v o => CRel G w (.reg r) (v, o) c
 | .lptr r' o => c = .pointer (some ⟨lam r', o, none⟩)
 | .tup cs => ∃ xs : List Value, c = .tuple xs.toArray ∧ xs.length = cs.length ∧ ∀ i y v, cs[i]? = some y → xs[i]? = some v → CRel G w (.tup r i) y v
structure Inv (gl : Nat → Option (List V)) (G : Gh) (lam : Nat → Nat) (a : Act) (w : World) (st : St) : Prop where
 defers : a.defers = []
 len : a.tmps.size = st.regs.length
 lenl : st.locs.length = st.regs.length
 regs : ∀ r x, st.regs[r]? = some x → RRel G lam w r x (a.tmps.getD r undef)
 locs : ∀ r cs, st.locs[r]? = some cs → cs ≠ [] → BlkOk G w (lam r) (.box r) (fun j => .lc r j) cs
 sto : SInv gl G w st.sto
def St.flagged (st : St) : Place → Prop
 | .reg r => ∃ v, st.regs[r]? = some (.val v true)
 | .tup r i => ∃ cs v, st.regs[r]? = some (.tup cs) ∧ cs[i]? = some (v, true)
 | .lc r j => ∃ cs v, st.locs[r]? = some cs ∧ cs[j]? = some (v, true)
 | .gc b j => ∃ cs v, st.sto[b]? = some cs ∧ cs[j]? = some (v, true)
 | _ => False
structure Keeps (G : Gh) (w : World) (G' : Gh) (w' : World) (fl : Place → Prop) : Prop where
 blocks : ∀ i p, G.owner i = some p → fl p → w'.heap[i]? = w.heap[i]? ∧ G'.lim i = G.lim i ∧ G'.owner i = some p
theorem BlkOk.move {G G' : Gh} {w w' : World} {r : Nat} {p : Place} {q : Nat → Place} {cs : List Cell} {fl : Place → Prop} (h : BlkOk G w r p q cs) (e : Ext G w G' w') (k : Keeps G w G' w' fl)
  (hp : fl p) (hq : ∀ j v, cs[j]? = some (v, true) → fl (q j)) : BlkOk G' w' r p q cs := by
 obtain ⟨cv, el, h1, h2, h3, h4, h5⟩ := h
 obtain ⟨a1, a2, a3⟩ := k.blocks r p h3 hp
 refine ⟨cv, el, by rw [a1]; exact h1, h2, a3, by rw [a2]; exact h4, fun j c x hc hx => ⟨(h5 j c x hc hx).1.move e fun ho i hi => ?_, (h5 j c x hc hx).2⟩⟩
 obtain ⟨v, o⟩ := c
 simp only at ho
 subst ho
 exact k.blocks i _ hi (hq j v hc)
theorem RRel.move {G G' : Gh} {lam : Nat → Nat} {w w' : World} {r : Nat} {x : RV} {c : Value} {fl : Place → Prop} (h : RRel G lam w r x c) (e : Ext G w G' w') (k : Keeps G w G' w' fl)
  (h1 : ∀ v, x = .val v true → fl (.reg r)) (h2 : ∀ cs i v, x = .tup cs → cs[i]? = some (v, true) → fl (.tup r i)) : RRel G' lam w' r x c := by
 cases x with
 | dead => trivial
 | val v o => exact CRel.move h e fun ho i hi => k.blocks i _ hi (h1 v (by simp only at ho; rw [ho]))
 | lptr r' o => exact h
 | tup cs =>
  obtain ⟨xs, g1, g2, g3⟩ := h
  refine ⟨xs, g1, g2, fun i y v hy hv => (g3 i y v hy hv).move e fun ho j hj => ?_⟩
  obtain ⟨y, o⟩ := y
  simp only at ho
  subst ho
  exact k.blocks j _ hj (h2 cs i y rfl hy)
theorem SInv.move {gl : Nat → Option (List V)} {G G' : Gh} {w w' : World} {σ : Sto} {fl : Place → Prop} (h : SInv gl G w σ) (e : Ext G w G' w') (k : Keeps G w G' w' fl) (wf : WF G' w') (hN : G'.N = G.N)
  (hb' : ∀ b, b < σ.length → fl (.blk b)) (hq : ∀ b cs j v, σ[b]? = some cs → cs[j]? = some (v, true) → fl (.gc b j)) : SInv gl G' w' σ := by
 refine ⟨wf, fun g cs hg => (h.glob g cs hg).mono e, hN.trans h.N, fun b hb => ?_, fun b cs hb => ?_, h.gsz.mono e⟩
 ·obtain ⟨cv, fr, h1⟩ := h.typed b hb
  obtain ⟨_, _, _, _, h3, _⟩ := h.blk b σ[b] (List.getElem?_eq_getElem hb)
  have hlt : b < G.N := by rw [h.N]; exact hb
  rw [e.μ b hlt, e.ty b hlt]
  exact ⟨cv, fr, by rw [(k.blocks _ _ h3 (hb' b hb)).1]; exact h1⟩
 have hlt : b < G.N := by rw [h.N]; exact (List.getElem?_eq_some_iff.1 hb).1
 rw [e.μ b hlt]
 exact (h.blk b cs hb).move e k (hb' b (by rw [← h.N]; exact hlt)) (fun j v hv => hq b cs j v hb hv)
theorem Inv.move {gl : Nat → Option (List V)} {G G' : Gh} {lam : Nat → Nat} {a : Act} {w w' : World} {st : St} (h : Inv gl G lam a w st) (e : Ext G w G' w') (k : Keeps G w G' w' (fun p => st.flagged p ∨ (∃ r, p = .box r) ∨ ∃ b, p = .blk b)) (wf : WF G' w') (hN : G'.N = G.N) : Inv gl G' lam a w' st where
 defers := h.defers
 len := h.len
 lenl := h.lenl
 regs r x hx := (h.regs r x hx).move e k (fun v hv => .inl ⟨v, hv ▸ hx⟩) (fun cs i v hv hi => .inl ⟨cs, v, hv ▸ hx, hi⟩)
 locs r cs hc hne := (h.locs r cs hc hne).move e k (.inr (.inl ⟨r, rfl⟩)) (fun j v hv => .inl ⟨cs, v, hc, hv⟩)
 sto := h.sto.move e k wf hN (fun b _ => .inr (.inr ⟨b, rfl⟩)) (fun b cs j v hb hv => .inl ⟨cs, v, hb, hv⟩)
theorem Ext.same {G : Gh} {w w' : World} (hh : w'.heap = w.heap) (h1 : w'.os = w.os) (h2 : w'.tape = w.tape) (h3 : w'.output = w.output) : Ext G w G w' where
 N := Nat.le_refl _
 μ _ _ := rfl
 ty _ _ := rfl
 lim _ := Nat.le_refl _
 peek b o _ := peek_block (by rw [hh]) o
 os := h1
 tape := h2
 output := h3
 size := by rw [hh]; exact Nat.le_refl _
 old i _ ho := ⟨by rw [hh], rfl, ho⟩
theorem Keeps.same {G : Gh} {w w' : World} {fl : Place → Prop} (hh : w'.heap = w.heap) : Keeps G w G w' fl := ⟨fun i p hp _ => ⟨by rw [hh], rfl, hp⟩⟩
theorem Inv.same {gl : Nat → Option (List V)} {G : Gh} {lam : Nat → Nat} {a : Act} {w w' : World} {st : St} (h : Inv gl G lam a w st) (hh : w'.heap = w.heap) (h1 : w'.os = w.os) (h2 : w'.tape = w.tape) (h3 : w'.output = w.output) : Inv gl G lam a w' st :=
 h.move (Ext.same hh h1 h2 h3) (Keeps.same hh) (fun i hi => h.sto.wf i (by rw [hh] at hi; exact hi)) rfl
end Go.Ab
end
section
namespace Go.Ab
theorem add_plain (b o n : Nat) : (⟨b, o, none⟩ : Addr).add n = ⟨b, o + n, none⟩ := by unfold Addr.add; split <;> simp_all
def zmatch : V → Value → Bool
 | .bool a, .bool b => a == b
 | .int k n, .int k' n' => decide (k = k' ∧ n = n')
 | .str s, .string t => decide (s = t)
 | .nilp, .pointer none => true
 | .nils, .slice none 0 0 => true
 | .slice _ _ [], .slice none 0 0 => true
 | .nilFunc, .nilFunc => true
 | .nilIface, .nilIface => true
 | .any, c => c.oneCell'
 | _, _ => false
theorem zmatch_rel {v : V} {c : Value} (h : zmatch v c = true) (G : Gh) (w : World) : Rel G w v c ∧ (∀ p, Own G w p v c) ∧ c.oneCell' = true := by
 unfold zmatch at h
 split at h
 ·simp at h; subst h; exact ⟨.bool _, fun _ => trivial, rfl⟩
 ·simp at h; obtain ⟨rfl, rfl⟩ := h; exact ⟨.int _ _, fun _ => trivial, rfl⟩
 ·simp at h; subst h; exact ⟨.str _, fun _ => trivial, rfl⟩
 ·exact ⟨.nilp, fun _ => trivial, rfl⟩
 ·exact ⟨.nils, fun _ => trivial, rfl⟩
 ·exact ⟨.snil _ _, fun _ => trivial, rfl⟩
 ·exact ⟨.nilFunc, fun _ => trivial, rfl⟩
 ·exact ⟨.nilIface, fun _ => trivial, rfl⟩
 ·exact ⟨.any _ h, fun _ => trivial, h⟩
 ·simp at h
theorem ofVal_rel (c : Value) (h : ofVal c ≠ .any) (G : Gh) (w : World) : Rel G w (ofVal c) c ∧ ∀ p, Own G w p (ofVal c) c := by
 unfold ofVal at *
 split
 ·exact ⟨.bool _, fun _ => trivial⟩
 ·exact ⟨.int _ _, fun _ => trivial⟩
 ·exact ⟨.str _, fun _ => trivial⟩
 ·exact ⟨.nilp, fun _ => trivial⟩
 ·exact ⟨.nils, fun _ => trivial⟩
 ·exact ⟨.nilFunc, fun _ => trivial⟩
 ·exact ⟨.nilIface, fun _ => trivial⟩
 ·exact ⟨.func _ [] [] [] [] rfl rfl (by simp) (by simp), fun _ => trivial⟩
 ·simp at h
def KOk : TK → TypeDesc → Prop
 | .bool, .bool => True
 | .int k, .int k' => k = k'
 | .string, .string => True
 | .pointer e, .pointer e' => e = e'
 | .slice e, .slice e' => e = e'
 | .array n e, .array n' e' => n = n' ∧ e = e'
 | .struct fs, .struct fields => fields.toList.map (fun f => (f.offset, f.type)) = fs
 | .iface, .interface _ => True
 | .func, .func .. => True
 | .map k e, .map k' e' => k = k' ∧ e = e'
 | .tuple _, .tuple _ => True
 | .other, .struct _ => False
 | .other, .array .. => False
 | .other, .interface _ => False
 | .other, _ => True
 | _, _ => False
structure TOk (P : Program) (t : TypeId) (i : TI) : Prop where
 info : ∃ info, P.info? t = some info ∧ info.size = i.size ∧ info.bytes = i.bytes
 zero : (∃ n, i.kind = .tuple n) ∨ ∃ info z, P.info? t = some info ∧ info.zero = some z ∧ z.cells.toList.length = i.zero.length ∧ i.zero.length = i.size ∧
  ∀ (j : Nat) v c, i.zero[j]? = some v → z.cells.toList[j]? = some c → zmatch v c = true
 desc : ∃ d, P.underlying t = some d ∧ KOk i.kind d
 izero : ∀ k, i.kind = .int k → ∃ info, P.info? t = some info ∧ info.zero = some (.int k 0)
section
variable {P : Program} {t : TypeId} {i : TI} {w : World}
theorem run_typeInfo_of {info : TypeInfo} (h : P.info? t = some info) : (typeInfo t).run P w = .ok info w := by
 simp [typeInfo, h]
theorem run_sizeOf_of (h : TOk P t i) : (sizeOf t).run P w = .ok i.size w := by
 obtain ⟨info, h1, h2, _⟩ := h.info
 simp [sizeOf, run_typeInfo_of h1, h2]
theorem run_underlying_of {d : TypeDesc} (h : P.underlying t = some d) : (underlying t).run P w = .ok d w := by
 simp [underlying, h]
theorem run_isAgg_of (h : TOk P t i) : (isAgg t).run P w = .ok i.agg w := by
 obtain ⟨d, h1, h2⟩ := h.desc
 simp only [isAgg, Sem.run_bind, run_underlying_of h1, Result.andThen_ok]
 unfold TI.agg
 generalize i.kind = k at h2
 unfold KOk at h2
 split at h2 <;> first | rfl | exact h2.elim | (simp_all; done)
theorem kok_int {k : IntKind} {d : TypeDesc} (h : KOk (.int k) d) : d = .int k := by cases d <;> simp_all [KOk]
theorem kok_bool {d : TypeDesc} (h : KOk .bool d) : d = .bool := by cases d <;> simp_all [KOk]
theorem kok_string {d : TypeDesc} (h : KOk .string d) : d = .string := by cases d <;> simp_all [KOk]
theorem kok_pointer {e : TypeId} {d : TypeDesc} (h : KOk (.pointer e) d) : d = .pointer e := by cases d <;> simp_all [KOk]
theorem kok_slice {e : TypeId} {d : TypeDesc} (h : KOk (.slice e) d) : d = .slice e := by cases d <;> simp_all [KOk]
theorem kok_array {n : Nat} {e : TypeId} {d : TypeDesc} (h : KOk (.array n e) d) : d = .array n e := by cases d <;> simp_all [KOk]
theorem kok_map {k e : TypeId} {d : TypeDesc} (h : KOk (.map k e) d) : d = .map k e := by cases d <;> simp_all [KOk]
theorem kok_struct {fs : List (Nat × TypeId)} {d : TypeDesc} (h : KOk (.struct fs) d) : ∃ fields, d = .struct fields ∧ fields.toList.map (fun f => (f.offset, f.type)) = fs := by cases d <;> simp_all [KOk]
theorem kok_iface {d : TypeDesc} (h : KOk .iface d) : ∃ ms, d = .interface ms := by cases d <;> simp_all [KOk]
end
def putCells (w : World) (b o : Nat) : List Value → World
 | [] => w
 | v :: vs => putCells (w.setCell ⟨b, o, none⟩ v) b (o + 1) vs
def setA (cv : Array Value) (o : Nat) : List Value → Array Value
 | [] => cv
 | v :: vs => setA (cv.setIfInBounds o v) (o + 1) vs
@[simp] theorem setA_size (cv : Array Value) (o : Nat) (vs : List Value) : (setA cv o vs).size = cv.size := by
 induction vs generalizing cv o with
 | nil => rfl
 | cons v vs ih => simp [setA, ih]
theorem setA_get (cv : Array Value) (o : Nat) (vs : List Value) (j : Nat) (h : o + vs.length ≤ cv.size) :
  (setA cv o vs)[j]? = if o ≤ j ∧ j < o + vs.length then vs[j - o]? else cv[j]? := by
 induction vs generalizing cv o with
 | nil => simp [setA]; intro h1 h2; omega
 | cons v vs ih =>
  simp only [List.length_cons] at h
  rw [setA, ih (cv.setIfInBounds o v) (o + 1) (by simp; omega)]
  by_cases h1 : o + 1 ≤ j ∧ j < o + 1 + vs.length
  ·rw [if_pos h1, if_pos (by simp; omega), show j - o = (j - (o + 1)) + 1 by omega, List.getElem?_cons_succ]
  ·rw [if_neg h1]
   by_cases h2 : j = o
   ·subst h2
    rw [if_pos (by simp), Array.getElem?_setIfInBounds]
    simp; omega
   ·rw [if_neg (by simp; omega), Array.getElem?_setIfInBounds, if_neg (by omega)]
theorem putCells_heap (w : World) (b o : Nat) (vs : List Value) (i : Nat) :
  (putCells w b o vs).heap[i]? = if i = b then (w.heap[i]?).map fun
   | .cells c elem frozen => .cells (setA c o vs) elem frozen
   | o => o else w.heap[i]? := by
 induction vs generalizing w o with
 | nil =>
  simp only [putCells, setA]
  split
  ·cases w.heap[i]? with
   | none => rfl
   | some x => cases x <;> rfl
  ·rfl
 | cons v vs ih =>
  simp only [putCells, setA]
  rw [ih]
  split
  ·rename_i h
   subst h
   simp only [World.setCell, Array.getElem?_modify, if_true]
   cases w.heap[i]? with
   | none => rfl
   | some x => cases x <;> rfl
  ·rename_i h
   simp only [World.setCell, Array.getElem?_modify]
   rw [if_neg (by omega)]
theorem putCells_rest (w : World) (b o : Nat) (vs : List Value) :
  (putCells w b o vs).heap.size = w.heap.size ∧ (putCells w b o vs).os = w.os ∧ (putCells w b o vs).tape = w.tape ∧ (putCells w b o vs).output = w.output := by
 induction vs generalizing w o with
 | nil => exact ⟨rfl, rfl, rfl, rfl⟩
 | cons v vs ih =>
  obtain ⟨h1, h2, h3, h4⟩ := ih (w.setCell ⟨b, o, none⟩ v) (o + 1)
  exact ⟨by simp only [putCells]; rw [h1]; simp, h2, h3, h4⟩
theorem cell?_of_heap {w : World} {b : Nat} {cv : Array Value} {el : TypeId} {fr : Nat × Nat} (h : w.heap[b]? = some (.cells cv el fr)) (o : Nat) : w.cell? ⟨b, o, none⟩ = cv[o]? := by
 simp [World.cell?, h]
theorem frozen?_of_heap {w : World} {b : Nat} {cv : Array Value} {el : TypeId} {fr : Nat × Nat} (h : w.heap[b]? = some (.cells cv el fr)) (o : Nat) (hf : fr.2 ≤ o) : w.frozen? ⟨b, o, none⟩ = false := by
 obtain ⟨lo, hi⟩ := fr
 simp only [World.frozen?, h]
 simp only at hf
 simp; omega
theorem run_storeCells_plain {P : Program} (vs : List Value) : ∀ (w : World) (b o k : Nat) (cv : Array Value) (el : TypeId) (fr : Nat × Nat), w.heap[b]? = some (.cells cv el fr) → o + k + vs.length ≤ cv.size → fr.2 ≤ o + k →
  (∀ v, v ∈ vs → v.oneCell' = true) → (storeCells ⟨b, o, none⟩ vs k).run P w = .ok () (putCells w b (o + k) vs) := by
 induction vs with
 | nil => intro w b o k cv el fr _ _ _ _; simp [storeCells, putCells]
 | cons v vs ih =>
  intro w b o k cv el fr h hk hf hv
  simp only [List.length_cons] at hk
  have hc : w.cell? ⟨b, o + k, none⟩ = some (cv[o + k]'(by omega)) := by rw [cell?_of_heap h]; simp
  have hfr := frozen?_of_heap h (o + k) hf
  simp only [storeCells, add_plain, Sem.run_bind]
  rw [run_store _ _ _ _ _ (hv v (by simp)), hc]
  simp only [hfr, Bool.false_eq_true, if_false, Result.andThen_ok]
  rw [ih (w.setCell ⟨b, o + k, none⟩ v) b o (k + 1) (cv.setIfInBounds (o + k) v) el fr (by simp [World.setCell, Array.getElem?_modify, h]) (by simp; omega) (by omega) (fun x hx => hv x (by simp [hx]))]
  rfl
section
variable {P : Program} {t : TypeId} {i : TI} {w : World}
theorem run_loadVar_of (h : TOk P t i) (b o : Nat) (cs : List Value) (hl : cs.length = i.size) (hc : ∀ (j : Nat) c, cs[j]? = some c → w.cell? ⟨b, o + j, none⟩ = some c) (hs : i.agg = false → i.size = 1) :
  (loadVar t ⟨b, o, none⟩).run P w = .ok (if i.agg then .agg cs.toArray else cs.headD undef) w := by
 simp only [loadVar, Sem.run_bind, run_isAgg_of h, Result.andThen_ok, Sem.run_ite]
 cases hi : i.agg with
 | true =>
  simp only [if_true, Sem.run_bind, run_sizeOf_of h, Result.andThen_ok]
  rw [← hl, run_loadCells_list w ⟨b, o, none⟩ cs (fun j v hj => by rw [add_plain]; exact hc j v hj)]
  simp
 | false =>
  have h1 := hs hi
  obtain ⟨c, rfl⟩ : ∃ c, cs = [c] := by
   match cs, hl.trans h1 with
   | [c], _ => exact ⟨c, rfl⟩
  have := hc 0 c rfl
  simp only [Nat.add_zero] at this
  simp [run_load, this]
end
end Go.Ab
end
section
namespace Go.Ab
section
variable {gl : Nat → Option (List V)} {G : Gh} {lam : Nat → Nat} {a : Act} {w : World} {st : St}
theorem put_tmps (a : Act) (dst : Option Nat) (c : Value) : (a.put dst c).defers = a.defers ∧ (a.put dst c).tmps.size = a.tmps.size := by
 cases dst <;> simp [Act.put]
theorem put_get (a : Act) (d : Nat) (c : Value) (r : Nat) : (a.put (some d) c).tmps.getD r undef = if d = r ∧ r < a.tmps.size then c else a.tmps.getD r undef := by
 simp only [Act.put, Array.getD_eq_getD_getElem?, Array.getElem?_setIfInBounds]
 by_cases h : d = r
 ·subst h
  by_cases h2 : d < a.tmps.size
  ·simp [h2]
  ·simp [h2]
 ·simp [h]
theorem Inv.put (h : Inv gl G lam a w st) (dst : Option Nat) (x : RV) (c : Value) (hr : ∀ d, dst = some d → RRel G lam w d x c) : Inv gl G lam (a.put dst c) w (st.put dst x) := by
 cases dst with
 | none => exact h
 | some d =>
  refine ⟨by rw [(put_tmps _ _ _).1]; exact h.defers, by rw [(put_tmps _ _ _).2]; simp [St.put, St.setReg, h.len], by simp [St.put, St.setReg, h.lenl], fun r y hy => ?_, h.locs, h.sto⟩
  rw [put_get]
  simp only [St.put, St.setReg, List.getElem?_set] at hy
  by_cases hd : d = r
  ·subst hd
   rw [if_pos rfl] at hy
   split at hy
   ·rename_i hlt
    rw [if_pos ⟨rfl, by rw [h.len]; exact hlt⟩]
    obtain rfl := Option.some.inj hy
    exact hr d rfl
   ·exact absurd hy (by simp)
  ·rw [if_neg hd] at hy
   rw [if_neg (by simp [hd])]
   exact h.regs r y hy
theorem clr_rel {r : Nat} {x : RV} {c : Value} (h : RRel G lam w r x c) : RRel G lam w r (clr x) c := by
 cases x with
 | val v o => exact ⟨h.1, fun hh => by simp at hh⟩
 | _ => exact h
theorem clearRegs_get (regs : List RV) (rs : List Nat) (r : Nat) : (clearRegs regs rs)[r]? = if rs.contains r then (regs[r]?).map clr else regs[r]? := by
 induction rs generalizing regs with
 | nil => simp [clearRegs]
 | cons x rs ih =>
  rw [clearRegs, ih, List.getElem?_modify]
  by_cases hx : x = r
  ·subst hx
   simp only [if_true, List.contains_cons, beq_self_eq_true, Bool.true_or]
   split
   ·cases regs[x]? with
    | none => rfl
    | some y => cases y <;> rfl
   ·cases regs[x]? <;> rfl
  ·have h2 : (r == x) = false := by simp; exact fun e => hx e.symm
   simp only [hx, List.contains_cons, h2, Bool.false_or, if_false]
   cases regs[r]? <;> simp
theorem clearRegs_length (regs : List RV) (rs : List Nat) : (clearRegs regs rs).length = regs.length := by
 induction rs generalizing regs with
 | nil => rfl
 | cons x rs ih => simp [clearRegs, ih]
theorem Inv.clear (h : Inv gl G lam a w st) (rs : List Nat) : Inv gl G lam a w (st.clear rs) := by
 refine ⟨h.defers, by simp only [St.clear, clearRegs_length]; exact h.len, by simp only [St.clear, clearRegs_length]; exact h.lenl, fun r y hy => ?_, h.locs, h.sto⟩
 simp only [St.clear, clearRegs_get] at hy
 split at hy
 ·cases hx : st.regs[r]? with
  | none => rw [hx] at hy; simp at hy
  | some x =>
   rw [hx] at hy
   obtain rfl := Option.some.inj hy
   exact clr_rel (h.regs r x hx)
 ·exact h.regs r y hy
theorem clear_not_flagged (rs : List Nat) (t : Nat) (ht : rs.contains t = true) : ¬ (st.clear rs).flagged (.reg t) := by
 rintro ⟨v, hv⟩
 simp only [St.clear, clearRegs_get, ht, if_true] at hv
 cases hx : st.regs[t]? with
 | none => rw [hx] at hv; simp at hv
 | some x => rw [hx] at hv; cases x <;> simp [clr] at hv
theorem Inv.token (h : Inv gl G lam a w st) {p q : Place} {v : V} {c : Value} (ho : Own G w p v c) (hp : ¬ st.flagged p) (hp1 : ∀ r, p ≠ .box r) (hp2 : ∀ b, p ≠ .blk b) :
  ∃ G', Ext G w G' w ∧ Inv gl G' lam a w st ∧ Own G' w q v c ∧ G'.N = G.N := by
 by_cases hd : ∃ k e es a n cap, v = .slice k e es ∧ c = .slice (some a) n cap
 ·obtain ⟨k, e, es, ad, n, cap, rfl, rfl⟩ := hd
  obtain ⟨h1, h2, h3, h4, h5⟩ := ho
  ·refine ⟨{ G with owner := upd G.owner ad.block (some q) }, ?_, ?_, ?_, rfl⟩
   ·exact ⟨Nat.le_refl _, fun _ _ => rfl, fun _ _ => rfl, fun _ => Nat.le_refl _, fun _ _ _ => rfl, rfl, rfl, rfl, Nat.le_refl _, fun i _ hi => ⟨rfl, rfl, by
     show upd G.owner ad.block (some q) i = none
     rw [upd_other]
     ·exact hi
     ·rintro rfl; rw [h3] at hi; exact absurd hi (by simp)⟩⟩
   ·refine h.move ?_ ⟨fun i p' hp' hf => ⟨rfl, rfl, ?_⟩⟩ (fun i hi => ?_) rfl
    ·exact ⟨Nat.le_refl _, fun _ _ => rfl, fun _ _ => rfl, fun _ => Nat.le_refl _, fun _ _ _ => rfl, rfl, rfl, rfl, Nat.le_refl _, fun i _ hi => ⟨rfl, rfl, by
      show upd G.owner ad.block (some q) i = none
      rw [upd_other]
      ·exact hi
      ·rintro rfl; rw [h3] at hi; exact absurd hi (by simp)⟩⟩
    ·show upd G.owner ad.block (some q) i = _
     rw [upd_other]
     ·exact hp'
     ·rintro rfl
      rw [h3] at hp'
      obtain rfl := Option.some.inj hp'
      rcases hf with hf | ⟨r, hr⟩ | ⟨b, hb⟩
      ·exact hp hf
      ·exact hp1 r hr
      ·exact hp2 b hb
    ·obtain ⟨a1, a2⟩ := h.sto.wf i hi
     refine ⟨a1, ?_⟩
     show upd G.owner ad.block (some q) i = _
     rw [upd_other]
     ·exact a2
     ·rintro rfl; rw [h3] at a2; exact absurd a2 (by simp)
   ·exact ⟨h1, h2, by simp, h4, h5⟩
 ·refine ⟨G, Ext.refl _ _, h, ?_, rfl⟩
  unfold Own at *
  split at ho
  ·rename_i k e es ad n cap
   exact absurd ⟨k, e, es, ad, n, cap, rfl, rfl⟩ hd
  ·exact ho
  ·trivial
theorem cell?_alloc_old' {w : World} {o : Obj} {b j : Nat} (h : b < w.heap.size) : (w.alloc o).cell? ⟨b, j, none⟩ = w.cell? ⟨b, j, none⟩ := World.cell?_alloc_lt _ _ _ h
theorem lim_lt {G : Gh} {w : World} (h : WF G w) {b o : Nat} (ho : o < G.lim b) : b < w.heap.size := by
 rcases Nat.lt_or_ge b w.heap.size with h1 | h1
 ·exact h1
 ·rw [(h b h1).1] at ho; omega
theorem owner_lt {G : Gh} {w : World} (h : WF G w) {b : Nat} {p : Place} (ho : G.owner b = some p) : b < w.heap.size := by
 rcases Nat.lt_or_ge b w.heap.size with h1 | h1
 ·exact h1
 ·rw [(h b h1).2] at ho; simp at ho
theorem heap_alloc_lt {w : World} {o : Obj} {i : Nat} (h : i < w.heap.size) : (w.alloc o).heap[i]? = w.heap[i]? := by
 show (w.heap.push o)[i]? = _
 rw [Array.getElem?_push, if_neg (by omega)]
theorem heap_alloc_new (w : World) (o : Obj) : (w.alloc o).heap[w.heap.size]? = some o := by
 show (w.heap.push o)[w.heap.size]? = _
 simp
def Gh.new (G : Gh) (w : World) (lim : Nat) (p : Option Place) : Gh := { G with lim := upd G.lim w.heap.size lim, owner := upd G.owner w.heap.size p }
theorem Ext.alloc {G : Gh} {w : World} (wf : WF G w) (o : Obj) (lim : Nat) (p : Option Place) : Ext G w (G.new w lim p) (w.alloc o) where
 N := Nat.le_refl _
 μ _ _ := rfl
 ty _ _ := rfl
 lim b := by
  show _ ≤ upd G.lim w.heap.size lim b
  by_cases hb : b = w.heap.size
  ·subst hb; rw [(wf _ (Nat.le_refl _)).1]; omega
  ·rw [upd_other _ _ hb]; exact Nat.le_refl _
 peek b o ho := peek_block (heap_alloc_lt (lim_lt wf ho)) o
 os := rfl
 tape := rfl
 output := rfl
 size := by simp
 old i hi ho := ⟨heap_alloc_lt hi, upd_other _ _ (by omega), by show upd G.owner _ _ i = _; rw [upd_other _ _ (by omega)]; exact ho⟩
theorem WF.alloc {G : Gh} {w : World} (wf : WF G w) (o : Obj) (lim : Nat) (p : Option Place) : WF (G.new w lim p) (w.alloc o) := by
 intro i hi
 simp at hi
 obtain ⟨h1, h2⟩ := wf i (by omega)
 exact ⟨(upd_other _ _ (by omega)).trans h1, (upd_other _ _ (by omega)).trans h2⟩
theorem Keeps.alloc {G : Gh} {w : World} {fl : Place → Prop} (wf : WF G w) (o : Obj) (lim : Nat) (p : Option Place) : Keeps G w (G.new w lim p) (w.alloc o) fl :=
 ⟨fun i q hq _ => by
  have := owner_lt wf hq
  exact ⟨heap_alloc_lt this, upd_other _ _ (by omega), by show upd G.owner _ _ i = _; rw [upd_other _ _ (by omega)]; exact hq⟩⟩
theorem Inv.alloc (h : Inv gl G lam a w st) (o : Obj) (lim : Nat) (p : Option Place) : Inv gl (G.new w lim p) lam a (w.alloc o) st :=
 h.move (Ext.alloc h.sto.wf o lim p) (Keeps.alloc h.sto.wf o lim p) (h.sto.wf.alloc o lim p) rfl
end
end Go.Ab
end
section
namespace Go.Ab
structure CtxOk (P : Program) (C : Ctx) : Prop where
 mixed : P.follows .mixedOrders = true
 T : ∀ t i, C.T t = some i → TOk P t i
 fdef : ∀ f d, C.fdef f = some d → P.funcs[f]? = some d.fn ∧ d.fn.body = some d.code ∧ (∀ (args : Array Value) (w : World), (callFunc f args).run P w = .ok (.enter f args) w)
 pure : ∀ f d, C.fdef f = some d → ∀ g, d.hints.pureF.contains g = true → ∃ s, C.ext g = some s ∧ ∀ args vs, s args [] = some (.ret vs, []) → ∀ σ, s args σ = some (.ret vs, σ)
def PureOk (H : Hints) (call : CallF) : Prop := ∀ f args vs, H.pureF.contains f = true → call f args [] = some (.ret vs, []) → ∀ σ, call f args σ = some (.ret vs, σ)
theorem pcallR_some {r : Option Res} {vs : List Cell} (h : pcallR r = some vs) : r = some (.ret vs, []) := by
 unfold pcallR at h
 split at h
 ·obtain rfl := Option.some.inj h; rfl
 ·simp at h
section
variable {G : Gh} {w : World}
theorem rel_bool {b : Bool} {c : Value} (h : Rel G w (.bool b) c) : c = .bool b := by cases h; rfl
theorem rel_int {k : IntKind} {n : Int} {c : Value} (h : Rel G w (.int k n) c) : c = .int k n := by cases h; rfl
theorem rel_str {s : ByteArray} {c : Value} (h : Rel G w (.str s) c) : c = .string s := by cases h; rfl
theorem asInt_some {v : V} {k : IntKind} {n : Int} (h : v.asInt k = some n) : v = .int k n := by
 cases v <;> simp [V.asInt] at h; obtain ⟨rfl, rfl⟩ := h; rfl
theorem asBool_some {v : V} {b : Bool} (h : v.asBool = some b) : v = .bool b := by cases v <;> simp [V.asBool] at h; rw [h]
theorem asStr_some {v : V} {s : ByteArray} (h : v.asStr = some s) : v = .str s := by cases v <;> simp [V.asStr] at h; rw [h]
theorem grd_some {b : Bool} {u : Unit} (h : grd b = some u) : b = true := by cases b <;> simp [grd] at h ⊢
theorem rel_fits {v : V} {c : Value} {n : Nat} {ag : Bool} (h : Rel G w v c) (hf : v.fits ag n = true) :
  (ag = true ∧ ∃ cs, ∃ xs : List Value, v = .agg cs ∧ c = .agg xs.toArray ∧ cs.length = n ∧ xs.length = n) ∨ (ag = false ∧ n = 1 ∧ c.oneCell' = true) := by
 cases h <;> simp [V.fits] at hf <;> first | (right; simp_all [Value.oneCell']; done) | (left; obtain ⟨h1, h2⟩ := hf; exact ⟨h1, _, _, rfl, rfl, h2, by omega⟩)
theorem rel_slice {k : Nat} {et : TypeId} {es : List (List V)} {c : Value} (h : Rel G w (.slice k et es) c) : (es = [] ∧ c = .slice none 0 0) ∨
  ∃ b off cap, ∃ cs : List (List Value), c = .slice (some ⟨b, off, none⟩) es.length cap ∧ cs.length = es.length ∧ es.length ≤ cap ∧ off + es.length * k ≤ G.lim b ∧
   (∀ (i : Nat) (e : List V), es[i]? = some e → e.length = k) ∧ (∀ (i : Nat) (x : List Value), cs[i]? = some x → x.length = k) ∧
   (∀ (i j : Nat) (x : List Value) (c : Value), cs[i]? = some x → x[j]? = some c → w.cell? ⟨b, off + i * k + j, none⟩ = some c ∧ c.oneCell' = true) ∧
   (∀ (i j : Nat) (e : List V) (x : List Value) (v : V) (c : Value), es[i]? = some e → cs[i]? = some x → e[j]? = some v → x[j]? = some c → Rel G w v c) := by
 cases h with
 | snil => exact .inl ⟨rfl, rfl⟩
 | slice _ _ _ b off cap cs h1 h2 h3 h4 h5 h6 h7 => exact .inr ⟨b, off, cap, cs, rfl, h1, h2, h3, h4, h5, h6, h7⟩
theorem asSlice_rel {v : V} {k : Nat} {et : TypeId} {es : List (List V)} {c : Value} (h : v.asSlice k et = some es) (r : Rel G w v c) : Rel G w (.slice k et es) c ∧ (v = .slice k et es ∨ (v = .nils ∧ es = [])) := by
 cases v <;> simp [V.asSlice] at h
 ·subst h; cases r; exact ⟨.snil _ _, .inr ⟨rfl, rfl⟩⟩
 ·obtain ⟨⟨rfl, rfl⟩, rfl⟩ := h; exact ⟨r, .inl rfl⟩
theorem asRow_rel {v : V} {k : Nat} {et : TypeId} {es : List (List V)} {c : Value} (h : v.asRow k et = some es) (r : Rel G w v c) : Rel G w (.slice k et es) c ∧ (v = .slice k et es ∨ (v = .nils ∧ es = []) ∨ (v.isFull = true ∧ ∀ a n cap, c = .slice a n cap → n = cap)) := by
 cases v <;> simp [V.asRow] at h
 ·subst h; cases r; exact ⟨.snil _ _, .inr (.inl ⟨rfl, rfl⟩)⟩
 ·obtain ⟨⟨rfl, rfl⟩, rfl⟩ := h; exact ⟨r, .inl rfl⟩
 ·obtain ⟨⟨rfl, rfl⟩, rfl⟩ := h
  cases r with
  | full _ _ _ _ h1 h2 => exact ⟨h1, .inr (.inr ⟨rfl, h2⟩)⟩
end
section
variable {P : Program} {C : Ctx} {G : Gh} {lam : Nat → Nat} {a : Act} {w : World} {st : St}
theorem eval_reg (h : Inv C.glob G lam a w st) (r : Nat) : RRel G lam w r (st.regs.getD r .dead) (a.eval (.tmp r)) := by
 simp only [Act.eval, List.getD_eq_getElem?_getD]
 cases hx : st.regs[r]? with
 | none => exact trivial
 | some x => exact h.regs r x hx
theorem eval_rel (h : Inv C.glob G lam a w st) {t : TypeId} {x : Operand} {v : V} {o : Bool} (hv : opndT C st.regs t x = .val v o) : Rel G w v (a.eval x) ∧
  (o = true → (∃ r, x = .tmp r ∧ Own G w (.reg r) v (a.eval x)) ∨ ∀ p, Own G w p v (a.eval x)) := by
 cases x with
 | tmp r =>
  have := eval_reg h r
  simp only [opndT] at hv
  rw [hv] at this
  exact ⟨this.1, fun ho => .inl ⟨r, rfl, this.2 ho⟩⟩
 | const c =>
  simp only [opndT] at hv
  by_cases hn : ofVal c = .any
  ·rw [hn] at hv; simp at hv
  ·have hr := ofVal_rel c hn G w
   simp only [Act.eval]
   split at hv
   ·rename_i hnil
    rw [hnil] at hr
    have hc : c = .slice none 0 0 := by have := hr.1; cases this; rfl
    subst hc
    (repeat' split at hv) <;> (obtain ⟨rfl, rfl⟩ := RV.val.inj hv) <;> first | exact ⟨.snil _ _, fun _ => .inr fun _ => trivial⟩ | exact ⟨.nils, fun _ => .inr fun _ => trivial⟩
   ·rename_i hany; exact absurd hany hn
   ·obtain ⟨rfl, rfl⟩ := RV.val.inj hv
    exact ⟨hr.1, fun ho => by simp at ho⟩
 | global g =>
  simp only [opndT] at hv
  split at hv
  ·rename_i cs hg
   obtain ⟨rfl, rfl⟩ := RV.val.inj hv
   exact ⟨h.sto.glob g cs hg, fun ho => by simp at ho⟩
  ·simp at hv
 | func f =>
  simp only [opndT] at hv
  obtain ⟨rfl, rfl⟩ := RV.val.inj hv
  exact ⟨.func _ [] [] [] [] rfl rfl (by simp) (by simp), fun ho => by simp at ho⟩
theorem eval_lptr (h : Inv C.glob G lam a w st) {t : TypeId} {x : Operand} {r o : Nat} (hv : opndT C st.regs t x = .lptr r o) : a.eval x = .pointer (some ⟨lam r, o, none⟩) := by
 cases x with
 | tmp r' =>
  have := eval_reg h r'
  simp only [opndT] at hv
  rw [hv] at this
  exact this
 | const c =>
  simp only [opndT] at hv
  (repeat' split at hv) <;> simp at hv
 | global g => simp only [opndT] at hv; split at hv <;> simp at hv
 | func f => simp [opndT] at hv
theorem noOwn_rel {r d : Nat} {x : RV} {c : Value} (h : RRel G lam w r x c) : RRel G lam w d (noOwn x) c := by
 cases x with
 | dead => trivial
 | val v o => exact ⟨h.1, fun ho => by simp at ho⟩
 | lptr r' o => exact h
 | tup cs =>
  obtain ⟨xs, h1, h2, h3⟩ := h
  refine ⟨xs, h1, by simp [h2], fun i y v hy hv => ?_⟩
  simp only [List.getElem?_map, Option.map_eq_some_iff] at hy
  obtain ⟨z, hz, rfl⟩ := hy
  exact ⟨(h3 i z v hz hv).1, fun ho => by simp at ho⟩
theorem noOwn_opnd (h : Inv C.glob G lam a w st) (t : TypeId) (x : Operand) (d : Nat) : RRel G lam w d (noOwn (opndT C st.regs t x)) (a.eval x) := by
 cases hv : opndT C st.regs t x with
 | dead => trivial
 | val v o => exact ⟨(eval_rel h hv).1, fun ho => by simp at ho⟩
 | lptr r o => exact eval_lptr h hv
 | tup cs =>
  cases x with
  | tmp r =>
   have := eval_reg h r
   simp only [opndT] at hv
   rw [hv] at this
   exact noOwn_rel (x := .tup cs) this
  | const c => simp only [opndT] at hv; (repeat' split at hv) <;> simp at hv
  | global g => simp only [opndT] at hv; split at hv <;> simp at hv
  | func f => simp [opndT] at hv
theorem vk_rel (h : Inv C.glob G lam a w st) {t : TypeId} {x : Operand} {v : V} (hv : vk C st.regs t x = some v) : Rel G w v (a.eval x) := by
 unfold vk at hv
 split at hv
 ·rename_i v' o hx
  obtain rfl := Option.some.inj hv
  exact (eval_rel h hx).1
 ·simp at hv
theorem ck_rel (h : Inv C.glob G lam a w st) {t : TypeId} {x : Operand} {c : Cell} (hv : ck C st.regs t x = some c) : Rel G w c.1 (a.eval x) ∧
  (c.2 = true → (∃ r, x = .tmp r ∧ Own G w (.reg r) c.1 (a.eval x)) ∨ ∀ p, Own G w p c.1 (a.eval x)) := by
 unfold ck at hv
 split at hv
 ·rename_i v' o hx
  obtain rfl := Option.some.inj hv
  exact eval_rel h hx
 ·simp at hv
theorem vk_int (h : Inv C.glob G lam a w st) {t : TypeId} {x : Operand} {v : V} {k : IntKind} {n : Int} (hv : vk C st.regs t x = some v) (hn : v.asInt k = some n) : a.eval x = .int k n := by
 have := vk_rel h hv
 rw [asInt_some hn] at this
 exact rel_int this
theorem vk_bool (h : Inv C.glob G lam a w st) {t : TypeId} {x : Operand} {v : V} {b : Bool} (hv : vk C st.regs t x = some v) (hn : v.asBool = some b) : a.eval x = .bool b := by
 have := vk_rel h hv
 rw [asBool_some hn] at this
 exact rel_bool this
theorem vk_str (h : Inv C.glob G lam a w st) {t : TypeId} {x : Operand} {v : V} {s : ByteArray} (hv : vk C st.regs t x = some v) (hn : v.asStr = some s) : a.eval x = .string s := by
 have := vk_rel h hv
 rw [asStr_some hn] at this
 exact rel_str this
def VOk (P : Program) (C : Ctx) (H : Hints) (G : Gh) (lam : Nat → Nat) (a : Act) (w : World) (st : St) (o : Oper) (x : RV) : Prop :=
 ∃ c w' G', (execOp a.eval o).run P w = .ok (.value c) w' ∧ Ext G w G' w' ∧ Inv C.glob G' lam a w' (st.clear (clearOf H o)) ∧ ∀ d, o.dst = some d → RRel G' lam w' d x c
theorem VOk.pure {H : Hints} {o : Oper} {x : RV} (h : Inv C.glob G lam a w st) (c : Value) (hrun : (execOp a.eval o).run P w = .ok (.value c) w) (hr : ∀ d, RRel G lam w d x c) : VOk P C H G lam a w st o x :=
 ⟨c, w, G, hrun, Ext.refl _ _, h.clear _, fun d _ => hr d⟩
theorem VOk.val {H : Hints} {o : Oper} {v : V} (h : Inv C.glob G lam a w st) (c : Value) (hrun : (execOp a.eval o).run P w = .ok (.value c) w) (hr : Rel G w v c) : VOk P C H G lam a w st o (.val v false) :=
 VOk.pure h c hrun fun _ => ⟨hr, fun ho => by simp at ho⟩
theorem VOk.drawn {H : Hints} {o : Oper} {v : V} (h : Inv C.glob G lam a w st) (c : Value) (w' : World) (hh : w'.heap = w.heap) (h1 : w'.os = w.os) (h2 : w'.tape = w.tape) (h3 : w'.output = w.output)
  (hrun : (execOp a.eval o).run P w = .ok (.value c) w') (hr : Rel G w v c) : VOk P C H G lam a w st o (.val v false) :=
 ⟨c, w', G, hrun, Ext.same hh h1 h2 h3, (h.same hh h1 h2 h3).clear _, fun _ _ => ⟨hr.mono (Ext.same hh h1 h2 h3), fun ho => by simp at ho⟩⟩
theorem run_int {op : BinOp} {t : TypeId} {x y : Operand} {k : IntKind} {m n : Int} {v : V} (h : intOp op k m n = some v) :
  ∃ c, (do eqGuard op t x y (.int k m) (.int k n); binOp op t (.int k m) (.int k n) : Sem Value).run P w = .ok c w ∧ Rel G w v c := by
 cases op <;> simp only [intOp, Option.some.injEq, reduceCtorEq] at h
 case quo =>
  obtain ⟨u, h1, h2⟩ := Option.bind_eq_some_iff.1 h
  have := grd_some h1
  obtain rfl := Option.some.inj h2
  refine ⟨_, ?_, .int _ _⟩
  simp [eqGuard, binOp, Op.intDiv, show ¬ n = 0 by simpa using this]
 case rem =>
  obtain ⟨u, h1, h2⟩ := Option.bind_eq_some_iff.1 h
  have := grd_some h1
  obtain rfl := Option.some.inj h2
  refine ⟨_, ?_, .int _ _⟩
  simp [eqGuard, binOp, Op.intDiv, show ¬ n = 0 by simpa using this]
 all_goals
  subst h
  first
  | (refine ⟨_, ?_, .int _ _⟩; simp [eqGuard, binOp, Op.intArith, Op.intBits, Op.intCmp]; done)
  | (refine ⟨_, ?_, .bool _⟩; simp [eqGuard, binOp, Op.intArith, Op.intBits, Op.intCmp]; done)
theorem run_str {op : BinOp} {t : TypeId} {x y : Operand} {m n : ByteArray} {v : V} (h : strOp op m n = some v) :
  ∃ c, (do eqGuard op t x y (.string m) (.string n); binOp op t (.string m) (.string n) : Sem Value).run P w = .ok c w ∧ Rel G w v c := by
 cases op <;> simp only [strOp, Option.some.injEq, reduceCtorEq] at h
 case add =>
  obtain ⟨u, h1, h2⟩ := Option.bind_eq_some_iff.1 h
  have hg := grd_some h1
  obtain rfl := Option.some.inj h2
  have hg := strRoom_le hg
  refine ⟨.string (m ++ n), ?_, .str _⟩
  have hmax : IntKind.i64.max = 9223372036854775807 := rfl
  have : ¬ (((m.size + n.size : Nat) : Int) > IntKind.i64.max) := by rw [hmax]; omega
  simp [eqGuard, binOp, Op.stringOp, hmax]
  omega
 all_goals
  subst h
  refine ⟨_, ?_, .bool _⟩
  simp [eqGuard, binOp, Op.stringOp]
end
end Go.Ab
end
section
namespace Go.Ab
def CellsRel (G : Gh) (w : World) (cs : List V) (xs : List Value) : Prop := xs.length = cs.length ∧ ∀ (i : Nat) v x, cs[i]? = some v → xs[i]? = some x → Rel G w v x ∧ x.oneCell' = true
section
variable {P : Program} {C : Ctx} {G : Gh} {lam : Nat → Nat} {a : Act} {w : World} {st : St}
theorem foldl_set (off : Nat) (vs : List Value) : ∀ (k : Nat) (cells : Array Value), (vs.zipIdx k).foldl (fun cs (x : Value × Nat) => cs.setIfInBounds (off + x.2) x.1) cells = setA cells (off + k) vs := by
 induction vs with
 | nil => intro k cells; rfl
 | cons v vs ih => intro k cells; simp only [List.zipIdx_cons, List.foldl_cons, setA]; rw [ih]; rfl
theorem foldl_setA (off : Nat) (vs cells : Array Value) : vs.zipIdx.foldl (fun cs (x : Value × Nat) => cs.setIfInBounds (off + x.2) x.1) cells = setA cells off vs.toList := by
 rw [← Array.foldl_toList, Array.toList_zipIdx, foldl_set]; rfl
theorem cellsN_rel {v : V} {c : Value} {ag : Bool} {n : Nat} (h : Rel G w v c) (hf : v.fits ag n = true) : CellsRel G w (cellsN v ag n) c.cells.toList ∧ c.cells.size = n ∧ (cellsN v ag n).length = n := by
 rcases rel_fits h hf with ⟨rfl, cs, xs, rfl, rfl, h1, h2⟩ | ⟨rfl, rfl, h1⟩
 ·cases h with
  | agg _ _ g1 g2 g3 =>
   simp only [cellsN, if_true, Value.cells]
   refine ⟨⟨by simp [h2], fun i v x hv hx => ?_⟩, by simp [h2], by simp⟩
   obtain ⟨hi, hv⟩ := List.getElem?_eq_some_iff.1 hv
   simp only [List.length_map, List.length_range] at hi
   simp only [List.getElem_map, List.getElem_range, V.cell, List.getD_eq_getElem?_getD] at hv
   have hlt : i < cs.length := by omega
   rw [List.getElem?_eq_getElem hlt] at hv
   simp only [Option.getD_some] at hv
   exact ⟨g3 i v x (by rw [List.getElem?_eq_getElem hlt, hv]) hx, g2 i x hx⟩
 ·have hc : c.cells = #[c] := by cases c <;> simp_all [Value.cells, Value.oneCell']
  rw [hc]
  refine ⟨⟨rfl, fun i v' x hv hx => ?_⟩, rfl, rfl⟩
  match i with
  | 0 =>
   simp [cellsN] at hv hx
   subst hv; subst hx
   exact ⟨h, h1⟩
  | i + 1 => simp [cellsN] at hv
theorem CellsRel.splice {cs : List V} {xs : Array Value} {vs : List V} {ys : List Value} {off : Nat} (h : CellsRel G w cs xs.toList) (k : CellsRel G w vs ys) (hl : off + vs.length ≤ cs.length) :
  CellsRel G w (cs.take off ++ vs ++ cs.drop (off + vs.length)) (setA xs off ys).toList := by
 obtain ⟨h1, h2⟩ := h
 obtain ⟨k1, k2⟩ := k
 simp only [Array.length_toList] at h1
 refine ⟨by simp; omega, fun i v x hv hx => ?_⟩
 simp only [Array.getElem?_toList] at hx
 rw [setA_get _ _ _ _ (by omega)] at hx
 by_cases c1 : i < off
 ·rw [if_neg (by omega)] at hx
  rw [List.append_assoc, List.getElem?_append_left (by simp; omega), List.getElem?_take_of_lt c1] at hv
  exact h2 i v x hv (by simpa using hx)
 ·by_cases c2 : i < off + vs.length
  ·rw [if_pos (by omega)] at hx
   rw [List.getElem?_append_left (by simp; omega), List.getElem?_append_right (by simp; omega)] at hv
   simp only [List.length_take, Nat.min_eq_left (show off ≤ cs.length by omega)] at hv
   exact k2 _ v x hv hx
  ·rw [if_neg (by omega)] at hx
   rw [List.getElem?_append_right (by simp; omega), List.getElem?_drop] at hv
   simp only [List.length_append, List.length_take, Nat.min_eq_left (show off ≤ cs.length by omega)] at hv
   rw [show off + vs.length + (i - (off + vs.length)) = i by omega] at hv
   exact h2 i v x hv (by simpa using hx)
def TightC (cs : List V) (xs : List Value) : Prop := ∀ (i k : Nat) (e : TypeId) (x : Value), cs[i]? = some (.slice k e []) → xs[i]? = some x → Tight x
theorem TightC.splice {cs : List V} {xs : Array Value} {vs : List V} {ys : List Value} {off : Nat} (h : TightC cs xs.toList) (hv : ∀ (i k : Nat) (e : TypeId), vs[i]? ≠ some (.slice k e [])) (hx : xs.size = cs.length) (hy : ys.length = vs.length) (hl : off + vs.length ≤ cs.length) :
  TightC (cs.take off ++ vs ++ cs.drop (off + vs.length)) (setA xs off ys).toList := by
 intro i k et x hc hx'
 simp only [Array.getElem?_toList] at hx'
 rw [setA_get _ _ _ _ (by omega)] at hx'
 by_cases c1 : i < off
 ·rw [if_neg (by omega)] at hx'
  rw [List.append_assoc, List.getElem?_append_left (by simp; omega), List.getElem?_take_of_lt c1] at hc
  exact h i k et x hc (by simpa using hx')
 ·by_cases c2 : i < off + vs.length
  ·rw [List.getElem?_append_left (by simp; omega), List.getElem?_append_right (by simp; omega)] at hc
   exact absurd hc (hv _ k et)
  ·rw [if_neg (by omega)] at hx'
   rw [List.getElem?_append_right (by simp; omega), List.getElem?_drop] at hc
   simp only [List.length_append, List.length_take, Nat.min_eq_left (show off ≤ cs.length by omega)] at hc
   rw [show off + vs.length + (i - (off + vs.length)) = i by omega] at hc
   exact h i k et x hc (by simpa using hx')
theorem plain_vk {regs : List RV} {t : TypeId} {x : Operand} {v : V} (h : (match opndT C regs 0 x with | .val v _ => v.plain | _ => false) = true) (hv : vk C regs t x = some v) : v.plain = true := by
 have hsame : opndT C regs t x = opndT C regs 0 x ∨ ∃ v' o, opndT C regs 0 x = .val v' o ∧ v'.plain = false := by
  cases x with
  | const c =>
   simp only [opndT]
   split
   ·refine .inr ?_
    split
    ·split <;> exact ⟨_, _, rfl, rfl⟩
    ·exact ⟨_, _, rfl, rfl⟩
   ·exact .inl rfl
   ·exact .inl rfl
  | _ => exact .inl rfl
 rcases hsame with hs | ⟨v', o, hs, hp⟩
 ·rw [← hs] at h
  unfold vk at hv
  split at hv
  ·rename_i v' o hx
   obtain rfl := Option.some.inj hv
   rw [hx] at h
   exact h
  ·simp at hv
 ·rw [hs] at h; simp only at h; rw [hp] at h; simp at h
theorem plain_cells {v : V} {ag : Bool} {n : Nat} (hp : v.plain = true) (hf : v.fits ag n = true) (i k : Nat) (e : TypeId) : (cellsN v ag n)[i]? ≠ some (.slice k e []) := by
 cases ag with
 | true => cases v <;> simp_all [V.plain, V.fits]
 | false =>
  simp only [cellsN, Bool.false_eq_true, if_false]
  match i with
  | 0 => intro h; simp at h; subst h; simp [V.plain] at hp
  | i + 1 => simp
theorem fill_ok (h : Inv C.glob G lam a w st) (place : Nat → Option (Nat × Nat × TypeId)) (place' : Nat → Option (Nat × Nat)) (hp : ∀ i p, place i = some p → place' i = some (p.1, p.2.1)) :
  ∀ (parts : List (Nat × Operand)) (cs cs' : List V) (xs : Array Value), fillK C st.regs place cs parts = some cs' → CellsRel G w cs xs.toList →
   ∃ xs' : Array Value, Instr.fill place' xs (parts.map fun x => (x.1, a.eval x.2)) = some xs' ∧ CellsRel G w cs' xs'.toList ∧ cs'.length = cs.length ∧ (plainParts C st.regs parts = true → TightC cs xs.toList → TightC cs' xs'.toList)
 | [], cs, cs', xs, hf, hc => by
  simp only [fillK, Option.some.injEq] at hf
  subst hf
  exact ⟨xs, rfl, hc, rfl, fun _ h => h⟩
 | (i, x) :: rest, cs, cs', xs, hf, hc => by
  simp only [fillK, Option.bind_eq_some_iff] at hf
  obtain ⟨p, hp1, ti, ht, v, hv, u, hg, hf⟩ := hf
  have hg := grd_some hg
  simp only [Bool.and_eq_true, decide_eq_true_eq] at hg
  have hr := vk_rel h hv
  obtain ⟨k1, k2, k3⟩ := cellsN_rel hr hg.1
  have hlen := hc.1
  simp only [Array.length_toList] at hlen
  have hsp : CellsRel G w (cs.take p.1 ++ cellsN v ti.agg p.2.1 ++ cs.drop (p.1 + p.2.1)) (setA xs p.1 (a.eval x).cells.toList).toList := by
   have := CellsRel.splice (off := p.1) hc k1 (by rw [k3]; exact hg.2)
   rw [k3] at this
   exact this
  obtain ⟨xs', e1, e2, e3, e4⟩ := fill_ok h place place' hp rest _ cs' _ hf hsp
  refine ⟨xs', ?_, e2, ?_, fun hpl ht => ?_⟩
  ·simp only [List.map_cons, Instr.fill, hp i p hp1]
   rw [if_neg (by simp [k2]; omega)]
   have := foldl_setA p.1 (a.eval x).cells xs
   rw [this]
   exact e1
  ·rw [e3]
   simp [k3]
   omega
  ·simp only [plainParts, List.all_cons, Bool.and_eq_true] at hpl
   refine e4 hpl.2 ?_
   have := TightC.splice (off := p.1) (vs := cellsN v ti.agg p.2.1) (ys := (a.eval x).cells.toList) ht (plain_cells (plain_vk hpl.1 hv) hg.1) hlen (by simp [k2, k3]) (by rw [k3]; exact hg.2)
   rw [k3] at this
   exact this
theorem tight_zmatch {k : Nat} {e : TypeId} {x : Value} (h : zmatch (.slice k e []) x = true) : Tight x := by
 generalize hv : (V.slice k e []) = v at h
 unfold zmatch at h
 split at h <;> first | exact rfl | (cases hv; done) | trivial | (simp at h)
theorem zero_rel {t : TypeId} {i : TI} (h : TOk P t i) (hk : ∀ n, i.kind ≠ .tuple n) (G : Gh) (w : World) : ∃ info z, P.info? t = some info ∧ info.zero = some z ∧ CellsRel G w i.zero z.cells.toList ∧ i.zero.length = i.size ∧ TightC i.zero z.cells.toList := by
 rcases h.zero with ⟨n, hn⟩ | ⟨info, z, h1, h2, h3, h4, h5⟩
 ·exact absurd hn (hk n)
 ·refine ⟨info, z, h1, h2, ⟨h3, fun j v x hv hx => ?_⟩, h4, fun j k et x hv hx => tight_zmatch (h5 j _ x hv hx)⟩
  obtain ⟨a1, _, a3⟩ := zmatch_rel (h5 j v x hv hx) G w
  exact ⟨a1, a3⟩
theorem parts_map (parts : Array (Nat × Operand)) (f : Operand → Value) : (parts.map fun (i, x) => (i, f x)).toList = parts.toList.map fun x => (x.1, f x.2) := by
 simp
end
end Go.Ab
end
