/- Literals: the parts laid into cells. -/
import Derived.Calls
import Derived.Below
import Derived.Laws.Sem
import Derived.Laws.World
import Derived.Laws.AppendOwn
import Derived.Laws.Cells
import Derived.Laws.Tables
set_option linter.unusedSimpArgs false
set_option linter.unusedVariables false
set_option linter.deprecated false
section
namespace Go.Ab
inductive V where
 |any
 |bool (b:Bool)
 |int (k:IntKind) (n:Int)
 |str (s:ByteArray)
 |kc
 |ptr (t:TypeId) (b o:Nat)
 |eL (k:Nat) (e:List V) (o:Nat)
 |pJ
 |slice (k:Nat) (e:TypeId) (es:List (List V))
 |func (fn:Fn) (first cap:List V)
 |nilFunc
 |iface (t:TypeId) (v:V)
 |nilIface
 |agg (cs:List V)
 |lit (c:Value)
 |map (es:List (ByteArray×Int))
 |full (k:Nat) (e:TypeId) (es:List (List V))
 |row (k:Nat) (e:TypeId) (es:List (List V))
 |jM (ks:List ByteArray) (es:List (List V))
 deriving Inhabited
abbrev Cell:=V×Bool
abbrev az:=List (List Cell)
inductive RV where
 |dead
 |val (v:V) (own:Bool)
 |eK (r o:Nat)
 |oH (cs:List Cell)
 deriving Inhabited
structure St where
 au:List RV
 bC:List (List Cell)
 bP:az
inductive End where
 |ret (vs:List Cell)
 |fB (v:V)
abbrev aQ:=End×az
abbrev af:=FuncId→List Cell→az→Option aQ
inductive Ex where
 |normal
 |exit (id:Nat)
 |ret
 |fB (v:V)
inductive Out where
 |next (st:St)
 |fB (v:V) (st:St)
inductive TK where
 |bool|int (k:IntKind)|string|pointer (e:TypeId)|slice (e:TypeId)|array (n:Nat) (e:TypeId)
 |struct (fs:List (Nat×TypeId))|iface|func|map (k e:TypeId)|tuple (n:Nat)|other
 deriving Inhabited
structure TI where
 kind:TK
 size:Nat
 bytes:Nat
 zero:List V
 deriving Inhabited
structure Hints where
 bI:Nat→List Nat:=fun _=>[]
 cW:List Nat:=[]
 PL:List Nat:=[]
 rE:List (Nat×Nat):=[]
 ep:List Nat:=[]
 roots:List (Nat×Nat):=[]
 lp:List Nat:=roots.map (·.1)
 ord:Nat→List Nat:=fun _=>[]
 own:List Nat:=[]
 F2:List FuncId:=[]
 rows:List Nat:=[]
structure oO where
 fn:Func
 code:Code
 hints:Hints
structure Ctx where
 T:TypeId→Option TI
 bN:Nat→Option (List V)
 ext:FuncId→Option (List Cell→az→Option aQ)
 Fi:FuncId→Option oO
def TI.kZ (i:TI):Bool:=match i.kind with|.tuple _=>true|_=>false
def TI.agg (i:TI):Bool:=match i.kind with|.array ..|.struct _=>true|_=>false
def bz (b:Bool):Option Unit:=bif b then some ()else none
def V.asInt (v:V) (k:IntKind):Option Int:=match v with|.int k' n=>if k'=k then some n else none|_=>none
def V.asBool (v:V):Option Bool:=match v with|.bool b=>some b|_=>none
def V.di (v:V):Option ByteArray:=match v with|.str s=>some s|_=>none
def V.asSlice (v:V) (k:Nat) (e:TypeId):Option (List (List V)):=match v with|.slice k' e' es=>if k'=k∧e'=e then some es else none|.pJ=>some []|_=>none
def V.Tv (v:V) (n:Nat):Option (List V):=match v with|.eL k e o=>if k=n∧o=0 then some e else none|_=>none
def V.kv (v:V):Option V:=match v with|.ptr t b o=>some (.ptr t b o)|.eL k e o=>some (.eL k e o)|.func (.func f) a b=>some (.func (.func f) a b)|_=>none
def V.mH (v:V):Option Bool:=match v with|.kc=>some true|.ptr ..=>some false|.eL ..=>some false|_=>none
def V.wU (v:V):Option Bool:=match v with|.nilIface=>some true|.iface ..=>some false|_=>none
def V.Hy (v:V):Option (FuncId×List V×List V):=match v with|.func (.func f) a b=>some (f,a,b)|_=>none
def V.Hz (v:V):Option V:=match v with|.iface t u=>some (.iface t u)|_=>none
def V.kj (v:V) (k:Nat) (e:TypeId):Option (List (List V)):=match v with|.slice k' e' es=>if k'=k∧e'=e then some es else none|.pJ=>some []|.full k' e' es=>if k'=k∧e'=e then some es else none|_=>none
def V.isFull (v:V):Bool:=match v with|.full ..=>true|_=>false
def V.rowLen (v:V):Option Nat:=match v with|.row _ _ es=>some es.length|.lit (.slice none 0 0)=>some 0|_=>none
def V.PG (v:V):Option (List (ByteArray×Int)):=match v with|.map es=>some es|_=>none
def pG:List (ByteArray×Int)→ByteArray→Int
 |[],_=>0
 |(k,n)::es,s=>bif s.toList==k.toList then n else pG es s
def V.cell (v:V) (i:Nat):V:=match v with|.agg cs=>cs.getD i .any|_=>.any
def V.fits (v:V) (agg:Bool) (n:Nat):Bool:=match v with|.agg cs=>agg&&cs.length==n|.any=>false|.full ..=>false|_=>!agg&&n==1
def V.mO (v:V) (n:Nat):V:=match v with|.ptr t b o=>.ptr t b (o+n)|.eL k e o=>.eL k e (o+n)|_=>.any
def V.gh (v:V):Bool:=match v with|.slice _ _ []=>true|_=>false
def V.plain (v:V):Bool:=match v with|.bool _|.int ..|.str _|.kc|.ptr ..|.nilIface|.nilFunc=>true|_=>false
def V.HD (v:V):Bool:=match v with|.slice ..|.pJ|.row ..|.jM ..=>true|_=>false
def V.oJ (v:V):Bool:=match v with|.ptr ..|.eL ..=>true|_=>false
def kx (v:V) (agg:Bool) (n:Nat):List V:=if agg then(List.range n).map v.cell else[v]
def fY (v:V) (own agg:Bool) (n:Nat):List Cell:=if agg then(List.range n).map fun i=>(v.cell i,own&&(v.cell i).gh)else[(v,own)]
def bZ:Cell:=(.any,false)
def dX (cs:List Cell) (o n:Nat) (agg:Bool):Option V:=
 if o+n≤cs.length then(if agg then some (.agg ((List.range n).map fun i=>(cs.getD (o+i) bZ).1))else if n=1 then some (cs.getD o bZ).1 else none)else none
def bu (σ:az) (p:V) (agg:Bool) (n:Nat):Option V:=
 match p with
 |.ptr _ b o=>(σ[b]?).bind fun cs=>dX cs o n agg
 |.eL k e o=>if o+n≤k then(if agg then some (.agg ((List.range n).map fun i=>e.getD (o+i) .any))else if n=1 then some (e.getD o .any)else none)else none
 |_=>none
def setCells (cs:List Cell) (o:Nat):List Cell→List Cell
 |[]=>cs
 |x::xs=>setCells (cs.set o x) (o+1) xs
def aV (σ:az) (p:V) (xs:List Cell):Option az:=
 match p with
 |.ptr _ b o=>(σ[b]?).bind fun cs=>if o+xs.length≤cs.length then some (σ.set b (setCells cs o xs))else none
 |_=>none
def fk (σ:az) (p:V):Option (V×az):=
 match p with
 |.ptr _ b o=>(σ[b]?).bind fun cs=>if o<cs.length then(if (cs.getD o bZ).2 then some ((cs.getD o bZ).1,σ.set b (cs.set o ((cs.getD o bZ).1,false)))else none)else none
 |_=>none
def F3:Value→V
 |.bool b=>.bool b
 |.int k n=>.int k n
 |.string s=>.str s
 |.pointer none=>.kc
 |.slice none 0 0=>.pJ
 |.nilFunc=>.nilFunc
 |.nilIface=>.nilIface
 |.func (.func f) ⟨[]⟩ ⟨[]⟩=>.func (.func f) [] []
 |_=>.any
def fM (s:ByteArray):List (List V):=s.data.toList.map fun b=>[.int .u8 b.toNat]
def av (s:ByteArray) (i:Nat):Int:=(s.data.toList.getD i 0).toNat
def room (n:Nat):Bool:=decide (n.log2≤33)
def fm (x y:ByteArray):Bool:=decide ((x.size+y.size).log2≤61)
theorem Cq {n k:Nat} (h:n.log2≤k):n<2^(k+1):=by
 by_cases h0:n=0
 ·subst h0;exact Nat.two_pow_pos _
 ·exact(Nat.log2_lt h0).1 (by omega)
theorem room_le {n b:Nat} (h:room n=true) (hb:b≤4096):5*n*b+2^24≤2^50:=by
 have h1:=Cq (of_decide_eq_true h)
 have h2:5*n*b≤5*2^34*4096:=Nat.mul_le_mul (by omega) hb
 omega
theorem MH {x y:ByteArray} (h:fm x y=true):x.size+y.size≤2^62:=Nat.le_of_lt (Cq (of_decide_eq_true h))
def xc:RV→RV
 |.val v _=>.val v false
 |.oH cs=>.oH (cs.map fun c=>(c.1,false))
 |x=>x
def rA:RV→RV
 |.oH cs=>.oH (cs.map fun c=>(c.1,false))
 |x=>x
def rF (r:Nat):RV→Bool
 |.eK r' _=>r'==r
 |_=>false
inductive lM where
 |val (x:RV)
 |xd (r o n:Nat) (agg cW:Bool)
 |xe (r o:Nat) (cs:List Cell)
 |rl (cs:List Cell)
 |vz (p:V) (n:Nat) (agg:Bool)
 |nH (p:V)
 |yR (p:V) (cs:List Cell)
 |vA (t:TypeId) (cs:List Cell)
 |gR (r i:Nat)
 |call (f:FuncId) (args:List Cell) (n:Nat)
 |qJ (f:FuncId) (args:List Cell) (n:Nat)
 |fB (v:V)
inductive Cls where|pure|loc|bP
 deriving DecidableEq
def gT (H:Hints):Operand→Cls
 |.tmp r=>if H.lp.contains r then .loc else if H.ep.contains r then .pure else .bP
 |_=>.pure
section
variable (C:Ctx)
def cf (au:List RV) (t:TypeId):Operand→RV
 |.tmp r=>au.getD r .dead
 |.const c=>match F3 c with
  |.pJ=>match C.T t with
   |some ⟨.slice e,_,_,_⟩=>match C.T e with|some i=>.val (.slice i.size e []) true|none=>.val .pJ true
   |_=>.val .pJ true
  |.any=>.dead
  |v=>.val v false
 |.global g=>match C.bN g with|some cs=>.val (.eL cs.length cs 0) false|none=>.dead
 |.func f=>.val (.func (.func f) [] []) false
def vk (au:List RV) (t:TypeId) (x:Operand):Option V:=
 match cf C au t x with
 |.val v _=>some v
 |_=>none
def ck (au:List RV) (t:TypeId) (x:Operand):Option Cell:=
 match cf C au t x with
 |.val v o=>some (v,o)
 |_=>none
def F4 (op:BinOp) (k:IntKind) (a b:Int):Option V:=
 match op with
 |.add=>some (.int k (k.wrap (a+b)))
 |.sub=>some (.int k (k.wrap (a - b)))
 |.mul=>some (.int k (k.wrap (a*b)))
 |.quo=>(bz (!(b==0))).bind fun _=>some (.int k (k.wrap (a.tdiv b)))
 |.rem=>(bz (!(b==0))).bind fun _=>some (.int k (a.tmod b))
 |.and=>some (.int k (k.wrap (BitVec.ofInt k.bits a&&& BitVec.ofInt k.bits b).toNat))
 |.or=>some (.int k (k.wrap (BitVec.ofInt k.bits a|||BitVec.ofInt k.bits b).toNat))
 |.eql=>some (.bool (a==b))
 |.neq=>some (.bool (a != b))
 |.lss=>some (.bool (a<b))
 |.leq=>some (.bool (a≤b))
 |.gtr=>some (.bool (a>b))
 |.geq=>some (.bool (a≥b))
 |_=>none
def F5 (op:BinOp) (x y:ByteArray):Option V:=
 match op with
 |.add=>(bz (fm x y)).bind fun _=>some (.str (x++y))
 |.eql=>some (.bool (x.toList==y.toList))
 |.neq=>some (.bool !(x.toList==y.toList))
 |_=>none
def JT (op:BinOp) (b:Bool):Option V:=
 match op with
 |.eql=>some (.bool b)
 |.neq=>some (.bool (!b))
 |_=>none
def Hn:Operand→Bool
 |.const (.pointer none)=>true
 |_=>false
def Ho:Operand→Bool
 |.const .nilIface=>true
 |_=>false
def Mv (au:List RV) (op:BinOp) (t:TypeId) (x y:Operand):Option V:=
 (C.T t).bind fun i=>match i.kind with
  |.int k=>(vk C au t x).bind fun a=>(vk C au t y).bind fun b=>(a.asInt k).bind fun a=>(b.asInt k).bind fun b=>F4 op k a b
  |.string=>(vk C au t x).bind fun a=>(vk C au t y).bind fun b=>a.di.bind fun a=>b.di.bind fun b=>F5 op a b
  |.bool=>(vk C au t x).bind fun a=>(vk C au t y).bind fun b=>a.asBool.bind fun a=>b.asBool.bind fun b=>JT op (a==b)
  |.pointer _=>if Hn y then(vk C au t x).bind fun a=>a.mH.bind fun b=>JT op b else none
  |.iface=>if Ho y then(vk C au t x).bind fun a=>a.wU.bind fun b=>JT op b else none
  |_=>none
def qK (au:List RV) (place:Nat→Option (Nat×Nat×TypeId)) (cs:List V):List (Nat×Operand)→Option (List V)
 |[]=>some cs
 |(i,x)::rest=>(place i).bind fun p=>(C.T p.2.2).bind fun ti=>(vk C au p.2.2 x).bind fun v=>
  (bz (v.fits ti.agg p.2.1&&decide (p.1+p.2.1≤cs.length))).bind fun _=>
   qK au place ((cs.take p.1)++kx v ti.agg p.2.1++cs.drop (p.1+p.2.1)) rest
def jf (au:List RV) (ps:List (Nat×Operand)):Bool:=ps.all fun p=>match cf C au 0 p.2 with|.val v _=>v.plain|_=>false
def chunks (k:Nat):Nat→List V→List (List V)
 |0,_=>[]
 |n+1,l=>l.take k::chunks k n (l.drop k)
def iT (n:Nat) (z:List V):List V:=match n with|0=>[]|n+1=>z++iT n z
def fF (au:List RV):List (Operand×TypeId)→Option (List Cell)
 |[]=>some []
 |(x,t)::rest=>(ck C au t x).bind fun c=>(fF au rest).bind fun cs=>some (c::cs)
def MI (t:TypeId):Nat:=match C.T t with|some ⟨.tuple n,_,_,_⟩=>n|_=>1
def iN (au:List RV) (x:Option Operand) (d:Int):Option Int:=
 match x with
 |none=>some d
 |some x=>(vk C au 0 x).bind fun v=>v.asInt .i64
def dE:Operand→List Nat
 |.tmp r=>[r]
 |_=>[]
def distinct:List Nat→Bool
 |[]=>true
 |x::xs=>!xs.contains x&&distinct xs
def yS (H:Hints):Operand→Bool
 |.func f=>H.F2.contains f
 |_=>false
def isRow (H:Hints):Operand→Bool
 |.tmp r=>H.rows.contains r
 |_=>false
def yT:Option aQ→Option (List Cell)
 |some (.ret vs,[])=>some vs
 |_=>none
def bj (H:Hints) (o:Oper):List Nat:=
 match o.op with
 |.move x=>if o.dst.any H.cW.contains then dE x else[]
 |.assign x=>dE x
 |.box _ x=>dE x
 |.store _ _ x=>dE x
 |.call c=>match c.callee with
  |.builtin .append=>(c.args.toList.take 1).flatMap dE
  |.value _=>c.args.toList.flatMap dE
  |_=>[]
 |_=>[]
def act (H:Hints) (o:Oper) (au:List RV):Option lM:=
  match o.op with
  |.move x=>if o.dst.any H.cW.contains then some (.val (rA (cf C au o.type x)))else some (.val (xc (cf C au o.type x)))
  |.assign x=>some (.val (rA (cf C au o.type x)))
  |.pick c a b=>(vk C au 0 c).bind fun v=>v.asBool.bind fun t=>some (.val (xc (bif t then cf C au o.type a else cf C au o.type b)))
  |.alloc t=>(C.T t).bind fun i=>if i.kZ=true then none else if o.dst.any H.PL.contains then some (.vA t (i.zero.map fun v=>(v,v.HD)))else some (.rl (i.zero.map fun v=>(v,v.HD)))
  |.box t x=>(C.T t).bind fun i=>(ck C au t x).bind fun c=>(bz (c.1.fits i.agg i.size)).bind fun _=>
      if o.dst.any H.PL.contains then some (.vA t (fY c.1 c.2 i.agg i.size))else some (.rl (fY c.1 c.2 i.agg i.size))
  |.build t parts=>(C.T t).bind fun i=>match i.kind with
      |.struct fs=>if (fs.all fun p=>(C.T p.2).isSome)=true then(qK C au (fun j=>(fs[j]?).bind fun p=>(C.T p.2).map fun fi=>(p.1,fi.size,p.2)) i.zero parts.toList).bind fun cs=>some (.val (.val (.agg cs) (o.dst.any H.cW.contains&&jf C au parts.toList)))else none
      |.array _ e=>(C.T e).bind fun ei=>(qK C au (fun j=>some (j*ei.size,ei.size,e)) i.zero parts.toList).bind fun cs=>some (.val (.val (.agg cs) false))
      |_=>none
  |.buildSlice t len parts=>(C.T t).bind fun i=>match i.kind with
      |.slice e=>(C.T e).bind fun ei=>if len*ei.size≤2^24∧ei.kZ=false then
          (qK C au (fun j=>some (j*ei.size,ei.size,e)) (iT len ei.zero) parts.toList).bind fun cs=>some (.val (.val (.slice ei.size e (chunks ei.size len cs)) true))else none
      |_=>none
  |.load t a=>(C.T t).bind fun i=>match gT H a,cf C au 0 a with
      |.loc,.eK r of=>some (.xd r of i.size i.agg (o.dst.any H.cW.contains))
      |.pure,.val (.eL k e of) _=>(bu [] (.eL k e of) i.agg i.size).bind fun v=>some (.val (.val v false))
      |.bP,.val p _=>if o.dst.any H.cW.contains then(if i.agg||i.size != 1 then none else some (.nH p))else some (.vz p i.size i.agg)
      |_,_=>none
  |.store t a x=>(C.T t).bind fun i=>(ck C au t x).bind fun c=>(bz (c.1.fits i.agg i.size)).bind fun _=>match gT H a,cf C au 0 a with
      |.loc,.eK r of=>some (.xe r of (fY c.1 c.2 i.agg i.size))
      |.bP,.val p _=>some (.yR p (fY c.1 c.2 i.agg i.size))
      |_,_=>none
  |.nilCheck x=>match cf C au 0 x with
   |.eK r of=>some (.val (.eK r of))
   |.val v _=>v.kv.bind fun v=>some (.val (.val v false))
   |_=>none
  |.binOp op t x y _=>(Mv C au op t x y).bind fun v=>some (.val (.val v false))
  |.unOp op _ x=>(vk C au 0 x).bind fun v=>match op with
   |.not=>v.asBool.bind fun b=>some (.val (.val (.bool !b) false))
   |.neg=>(v.asInt .i64).bind fun n=>some (.val (.val (.int .i64 (IntKind.i64.wrap (0 - n))) false))
   |_=>none
  |.convert src dst x=>(C.T src).bind fun i=>(C.T dst).bind fun j=>match i.kind,j.kind with
      |.int k,.int k'=>(vk C au 0 x).bind fun v=>(v.asInt k).bind fun n=>some (.val (.val (.int k' (k'.wrap n)) false))
      |.string,.slice e=>(C.T e).bind fun ei=>match ei.kind with
       |.int .u8=>(vk C au 0 x).bind fun v=>v.di.bind fun s=>some (.val (.val (.slice 1 e (fM s)) false))
       |_=>none
      |_,_=>none
  |.makeInterface t x=>(C.T t).bind fun i=>match i.kind with
   |.iface=>none
   |_=>(vk C au t x).bind fun v=>some (.val (.val (.iface t v) false))
  |.slice t x lo hi mx=>(C.T t).bind fun i=>match i.kind with
      |.string=>if mx.isSome then none else(vk C au t x).bind fun v=>v.di.bind fun s=>(iN C au lo 0).bind fun l=>(iN C au hi s.size).bind fun h=>
          (bz (decide (0≤l)&&decide (l≤h)&&decide (h≤s.size))).bind fun _=>some (.val (.val (.str (s.extract l.toNat h.toNat)) false))
      |.slice e=>(C.T e).bind fun ei=>(vk C au t x).bind fun v=>(v.asSlice ei.size e).bind fun es=>(iN C au lo 0).bind fun l=>(iN C au hi es.length).bind fun h=>
            (bz (decide (0≤l)&&decide (l≤h)&&decide (h≤es.length))).bind fun _=>
              match mx with
               |none=>some (.val (.val (.slice ei.size e ((es.take h.toNat).drop l.toNat)) false))
               |some q=>if hi.isSome=true then(iN C au (some q) 0).bind fun m=>(bz (decide (h=m))).bind fun _=>some (.val (.val (.full ei.size e ((es.take h.toNat).drop l.toNat)) true))else none
      |.array n e=>(C.T e).bind fun ei=>if mx.isSome=true∨ei.size≠1 then none else(vk C au 0 x).bind fun v=>(v.Tv n).bind fun cs=>(iN C au lo 0).bind fun l=>(iN C au hi n).bind fun h=>
            (bz (decide (0≤l)&&decide (l≤h)&&decide (h≤n)&&decide (l<n))).bind fun _=>some (.val (.val (.slice 1 e (((cs.map fun v=>[v]).take h.toNat).drop l.toNat)) false))
      |_=>none
  |.fieldAddr s x f=>(C.T s).bind fun i=>match i.kind with
      |.struct fs=>(fs[f]?).bind fun p=>(C.T p.2).bind fun fi=>if fi.size=0 then none else match cf C au 0 x with
          |.eK r of=>some (.val (.eK r (of+p.1)))
          |.val v _=>(bz v.oJ).bind fun _=>some (.val (.val (v.mO p.1) false))
          |_=>none
      |_=>none
  |.field t x f=>(C.T t).bind fun i=>match i.kind with
      |.struct fs=>(fs[f]?).bind fun p=>(C.T p.2).bind fun fi=>(vk C au t x).bind fun v=>(bz (v.fits true i.size&&decide (p.1+fi.size≤i.size)&&(fi.agg||decide (0<fi.size)))).bind fun _=>
              if fi.agg then some (.val (.val (.agg ((List.range fi.size).map fun j=>v.cell (p.1+j))) false))
               else some (.val (.val (v.cell p.1) false))
      |_=>none
  |.indexAddr t x ix=>(C.T t).bind fun i=>match i.kind with
      |.slice e=>(C.T e).bind fun ei=>(vk C au t x).bind fun v=>(v.asSlice ei.size e).bind fun es=>(vk C au 0 ix).bind fun w=>(w.asInt .i64).bind fun n=>
            (bz (decide (0≤n)&&decide (n<es.length))).bind fun _=>some (.val (.val (.eL ei.size (es.getD n.toNat []) 0) false))
      |.array len e=>(C.T e).bind fun ei=>(vk C au 0 x).bind fun p=>(bz p.oJ).bind fun _=>(vk C au 0 ix).bind fun w=>(w.asInt .i64).bind fun n=>
              (bz (decide (0≤n)&&decide (n<len))).bind fun _=>some (.val (.val (p.mO (n.toNat*ei.size)) false))
      |_=>none
  |.index t x ix=>(C.T t).bind fun i=>match i.kind with
      |.string=>(vk C au t x).bind fun v=>v.di.bind fun s=>(vk C au 0 ix).bind fun w=>(w.asInt .i64).bind fun n=>
          (bz (decide (0≤n)&&decide (n<s.size))).bind fun _=>some (.val (.val (.int .u8 (av s n.toNat)) false))
      |.array len e=>(C.T e).bind fun ei=>if ei.agg then none else if ei.size≠1 then none else(vk C au t x).bind fun v=>(bz (v.fits true len)).bind fun _=>(vk C au 0 ix).bind fun w=>(w.asInt .i64).bind fun n=>
              (bz (decide (0≤n)&&decide (n<len))).bind fun _=>some (.val (.val (v.cell n.toNat) false))
      |_=>none
  |.lookup t x ix ok=>(C.T t).bind fun i=>match i.kind with
      |.map k e=>(C.T k).bind fun ki=>(C.T e).bind fun ei=>match ki.kind,ei.kind,ok with
       |.string,.int .i64,false=>(vk C au t x).bind fun v=>v.PG.bind fun es=>(vk C au 0 ix).bind fun w=>w.di.bind fun s=>some (.val (.val (.int .i64 (pG es s)) false))
       |_,_,_=>none
      |_=>none
  |.makeFunc fn first captured=>if first.size=0 then(fF C au (captured.toList.map fun x=>(x,0))).bind fun cs=>some (.val (.val (.func fn [] (cs.map (·.1))) false))else none
  |.extract t ix=>match t with
   |.tmp r=>if isRow H (.tmp r)=true then(match au.getD r .dead with
    |.oH cs=>match cs[ix]? with
     |some c=>some (.val (.val c.1 false))
     |none=>none
    |_=>none)else some (.gR r ix)
   |_=>none
  |.panic x=>(vk C au 0 x).bind fun v=>v.Hz.bind fun v=>some (.fB v)
  |.call c=>match c.callee with
   |.builtin .len=>match c.args.toList,c.argTypes.toList with
    |[x],[t]=>(C.T t).bind fun i=>match i.kind with
       |.string=>(vk C au t x).bind fun v=>v.di.bind fun s=>some (.val (.val (.int .i64 s.size) false))
       |.slice e=>(C.T e).bind fun ei=>if isRow H x=true then(vk C au t x).bind fun v=>v.rowLen.bind fun n=>some (.val (.val (.int .i64 n) false))else(vk C au t x).bind fun v=>(v.asSlice ei.size e).bind fun es=>some (.val (.val (.int .i64 es.length) false))
       |.array n _=>some (.val (.val (.int .i64 n) false))
       |_=>none
    |_,_=>none
   |.builtin .append=>match c.args.toList,c.argTypes.toList with
    |[x,y],[t,u]=>(C.T t).bind fun i=>(C.T u).bind fun j=>match i.kind,j.kind with
       |.slice e,.slice e'=>(C.T e).bind fun ei=>(C.T e').bind fun ei'=>if ei.size=ei'.size∧ei.bytes≤4096∧0<ei.bytes∧ei.kZ=false then
             (match cf C au t x with
              |.val v true=>(v.kj ei.size e).bind fun es=>(vk C au u y).bind fun w=>(w.asSlice ei.size e').bind fun xs=>
                  (bz ((!v.isFull||decide (0<xs.length))&&room (es.length+xs.length))).bind fun _=>some (.val (.val (.slice ei.size e (es++xs)) true))
              |_=>none)else none
       |.slice e,.string=>(C.T e).bind fun ei=>if ei.size=1∧ei.bytes≤4096∧0<ei.bytes∧ei.kZ=false then
             (match cf C au t x with
              |.val v true=>(v.asSlice 1 e).bind fun es=>(vk C au u y).bind fun w=>w.di.bind fun s=>
                  (bz (room (es.length+s.size))).bind fun _=>some (.val (.val (.slice 1 e (es++fM s)) true))
              |_=>none)else none
       |_,_=>none
    |_,_=>none
   |.builtin .max=>match c.args.toList with
    |[x,y]=>(vk C au 0 x).bind fun v=>(v.asInt .i64).bind fun a=>(vk C au 0 y).bind fun w=>(w.asInt .i64).bind fun b=>some (.val (.val (.int .i64 (if a<b then b else a)) false))
    |_=>none
   |.builtin _=>none
   |.invoke ..=>none
   |.value g=>(vk C au 0 g).bind fun gv=>gv.Hy.bind fun f=>
       if c.args.size=c.argTypes.size∧distinct (c.args.toList.flatMap dE)then
         (fF C au (c.args.toList.zip c.argTypes.toList)).bind fun args=>match yS H g with
           |true=>some (.qJ f.1 (f.2.1.map (fun v=>(v,false))++args++f.2.2.map fun v=>(v,false)) (MI C o.type))
           |false=>some (.call f.1 (f.2.1.map (fun v=>(v,false))++args++f.2.2.map fun v=>(v,false)) (MI C o.type))
         else none
  |_=>none
def MJ (op:BinOp) (k:IntKind) (a b:Int) (K:V→Option aQ):Option aQ:=
 match op with
 |.quo=>(bz (!(b==0))).bind fun _=>K (.int k (k.wrap (a.tdiv b)))
 |.rem=>(bz (!(b==0))).bind fun _=>K (.int k (a.tmod b))
 |op=>(F4 op k a b).bind K
def MK (op:BinOp) (x y:ByteArray) (K:V→Option aQ):Option aQ:=
 match op with
 |.add=>(bz (fm x y)).bind fun _=>K (.str (x++y))
 |op=>(F5 op x y).bind K
def TF (au:List RV) (op:BinOp) (t:TypeId) (x y:Operand) (K:V→Option aQ):Option aQ:=
 (C.T t).bind fun i=>match i.kind with
  |.int k=>(vk C au t x).bind fun a=>(vk C au t y).bind fun b=>(a.asInt k).bind fun a=>(b.asInt k).bind fun b=>MJ op k a b K
  |.string=>(vk C au t x).bind fun a=>(vk C au t y).bind fun b=>a.di.bind fun a=>b.di.bind fun b=>MK op a b K
  |.bool=>(vk C au t x).bind fun a=>(vk C au t y).bind fun b=>a.asBool.bind fun a=>b.asBool.bind fun b=>(JT op (a==b)).bind K
  |.pointer _=>if Hn y then(vk C au t x).bind fun a=>a.mH.bind fun b=>(JT op b).bind K else none
  |.iface=>if Ho y then(vk C au t x).bind fun a=>a.wU.bind fun b=>(JT op b).bind K else none
  |_=>none
def yU (au:List RV) (place:Nat→Option (Nat×Nat×TypeId)):List V→List (Nat×Operand)→(List V→Option aQ)→Option aQ
 |cs,[],K=>K cs
 |cs,(i,x)::rest,K=>(place i).bind fun p=>(C.T p.2.2).bind fun ti=>(vk C au p.2.2 x).bind fun v=>
  (bz (v.fits ti.agg p.2.1&&decide (p.1+p.2.1≤cs.length))).bind fun _=>
   yU au place ((cs.take p.1)++kx v ti.agg p.2.1++cs.drop (p.1+p.2.1)) rest K
def lZ (au:List RV) (x:Option Operand) (d:Int) (K:Int→Option aQ):Option aQ:=
 match x with
 |none=>K d
 |some x=>(vk C au 0 x).bind fun v=>(v.asInt .i64).bind K
def TG (H:Hints) (o:Oper) (au:List RV) (K:lM→Option aQ):Option aQ:=
  match o.op with
  |.move x=>if o.dst.any H.cW.contains then K (.val (rA (cf C au o.type x)))else K (.val (xc (cf C au o.type x)))
  |.assign x=>K (.val (rA (cf C au o.type x)))
  |.pick c a b=>(vk C au 0 c).bind fun v=>v.asBool.bind fun t=>K (.val (xc (bif t then cf C au o.type a else cf C au o.type b)))
  |.alloc t=>(C.T t).bind fun i=>if i.kZ=true then none else if o.dst.any H.PL.contains then K (.vA t (i.zero.map fun v=>(v,v.HD)))else K (.rl (i.zero.map fun v=>(v,v.HD)))
  |.box t x=>(C.T t).bind fun i=>(ck C au t x).bind fun c=>(bz (c.1.fits i.agg i.size)).bind fun _=>
      if o.dst.any H.PL.contains then K (.vA t (fY c.1 c.2 i.agg i.size))else K (.rl (fY c.1 c.2 i.agg i.size))
  |.build t parts=>(C.T t).bind fun i=>match i.kind with
      |.struct fs=>if (fs.all fun p=>(C.T p.2).isSome)=true then yU C au (fun j=>(fs[j]?).bind fun p=>(C.T p.2).map fun fi=>(p.1,fi.size,p.2)) i.zero parts.toList fun cs=>K (.val (.val (.agg cs) (o.dst.any H.cW.contains&&jf C au parts.toList)))else none
      |.array _ e=>(C.T e).bind fun ei=>yU C au (fun j=>some (j*ei.size,ei.size,e)) i.zero parts.toList fun cs=>K (.val (.val (.agg cs) false))
      |_=>none
  |.buildSlice t len parts=>(C.T t).bind fun i=>match i.kind with
      |.slice e=>(C.T e).bind fun ei=>if len*ei.size≤2^24∧ei.kZ=false then
          yU C au (fun j=>some (j*ei.size,ei.size,e)) (iT len ei.zero) parts.toList fun cs=>K (.val (.val (.slice ei.size e (chunks ei.size len cs)) true))else none
      |_=>none
  |.load t a=>(C.T t).bind fun i=>match gT H a,cf C au 0 a with
      |.loc,.eK r of=>K (.xd r of i.size i.agg (o.dst.any H.cW.contains))
      |.pure,.val (.eL k e of) _=>(bu [] (.eL k e of) i.agg i.size).bind fun v=>K (.val (.val v false))
      |.bP,.val p _=>if o.dst.any H.cW.contains then(if i.agg||i.size != 1 then none else K (.nH p))else K (.vz p i.size i.agg)
      |_,_=>none
  |.store t a x=>(C.T t).bind fun i=>(ck C au t x).bind fun c=>(bz (c.1.fits i.agg i.size)).bind fun _=>match gT H a,cf C au 0 a with
      |.loc,.eK r of=>K (.xe r of (fY c.1 c.2 i.agg i.size))
      |.bP,.val p _=>K (.yR p (fY c.1 c.2 i.agg i.size))
      |_,_=>none
  |.nilCheck x=>match cf C au 0 x with
   |.eK r of=>K (.val (.eK r of))
   |.val v _=>v.kv.bind fun v=>K (.val (.val v false))
   |_=>none
  |.binOp op t x y _=>TF C au op t x y fun v=>K (.val (.val v false))
  |.unOp op _ x=>(vk C au 0 x).bind fun v=>match op with
   |.not=>v.asBool.bind fun b=>K (.val (.val (.bool !b) false))
   |.neg=>(v.asInt .i64).bind fun n=>K (.val (.val (.int .i64 (IntKind.i64.wrap (0 - n))) false))
   |_=>none
  |.convert src dst x=>(C.T src).bind fun i=>(C.T dst).bind fun j=>match i.kind,j.kind with
      |.int k,.int k'=>(vk C au 0 x).bind fun v=>(v.asInt k).bind fun n=>K (.val (.val (.int k' (k'.wrap n)) false))
      |.string,.slice e=>(C.T e).bind fun ei=>match ei.kind with
       |.int .u8=>(vk C au 0 x).bind fun v=>v.di.bind fun s=>K (.val (.val (.slice 1 e (fM s)) false))
       |_=>none
      |_,_=>none
  |.makeInterface t x=>(C.T t).bind fun i=>match i.kind with
   |.iface=>none
   |_=>(vk C au t x).bind fun v=>K (.val (.val (.iface t v) false))
  |.slice t x lo hi mx=>(C.T t).bind fun i=>match i.kind with
      |.string=>if mx.isSome then none else(vk C au t x).bind fun v=>v.di.bind fun s=>lZ C au lo 0 fun l=>lZ C au hi s.size fun h=>
          (bz (decide (0≤l)&&decide (l≤h)&&decide (h≤s.size))).bind fun _=>K (.val (.val (.str (s.extract l.toNat h.toNat)) false))
      |.slice e=>(C.T e).bind fun ei=>(vk C au t x).bind fun v=>(v.asSlice ei.size e).bind fun es=>lZ C au lo 0 fun l=>lZ C au hi es.length fun h=>
            (bz (decide (0≤l)&&decide (l≤h)&&decide (h≤es.length))).bind fun _=>
              match mx with
               |none=>K (.val (.val (.slice ei.size e ((es.take h.toNat).drop l.toNat)) false))
               |some q=>if hi.isSome=true then lZ C au (some q) 0 fun m=>(bz (decide (h=m))).bind fun _=>K (.val (.val (.full ei.size e ((es.take h.toNat).drop l.toNat)) true))else none
      |.array n e=>(C.T e).bind fun ei=>if mx.isSome=true∨ei.size≠1 then none else(vk C au 0 x).bind fun v=>(v.Tv n).bind fun cs=>lZ C au lo 0 fun l=>lZ C au hi n fun h=>
            (bz (decide (0≤l)&&decide (l≤h)&&decide (h≤n)&&decide (l<n))).bind fun _=>K (.val (.val (.slice 1 e (((cs.map fun v=>[v]).take h.toNat).drop l.toNat)) false))
      |_=>none
  |.fieldAddr s x f=>(C.T s).bind fun i=>match i.kind with
      |.struct fs=>(fs[f]?).bind fun p=>(C.T p.2).bind fun fi=>if fi.size=0 then none else match cf C au 0 x with
          |.eK r of=>K (.val (.eK r (of+p.1)))
          |.val v _=>(bz v.oJ).bind fun _=>K (.val (.val (v.mO p.1) false))
          |_=>none
      |_=>none
  |.field t x f=>(C.T t).bind fun i=>match i.kind with
      |.struct fs=>(fs[f]?).bind fun p=>(C.T p.2).bind fun fi=>(vk C au t x).bind fun v=>(bz (v.fits true i.size&&decide (p.1+fi.size≤i.size)&&(fi.agg||decide (0<fi.size)))).bind fun _=>
              if fi.agg then K (.val (.val (.agg ((List.range fi.size).map fun j=>v.cell (p.1+j))) false))
               else K (.val (.val (v.cell p.1) false))
      |_=>none
  |.indexAddr t x ix=>(C.T t).bind fun i=>match i.kind with
      |.slice e=>(C.T e).bind fun ei=>(vk C au t x).bind fun v=>(v.asSlice ei.size e).bind fun es=>(vk C au 0 ix).bind fun w=>(w.asInt .i64).bind fun n=>
            (bz (decide (0≤n)&&decide (n<es.length))).bind fun _=>K (.val (.val (.eL ei.size (es.getD n.toNat []) 0) false))
      |.array len e=>(C.T e).bind fun ei=>(vk C au 0 x).bind fun p=>(bz p.oJ).bind fun _=>(vk C au 0 ix).bind fun w=>(w.asInt .i64).bind fun n=>
              (bz (decide (0≤n)&&decide (n<len))).bind fun _=>K (.val (.val (p.mO (n.toNat*ei.size)) false))
      |_=>none
  |.index t x ix=>(C.T t).bind fun i=>match i.kind with
      |.string=>(vk C au t x).bind fun v=>v.di.bind fun s=>(vk C au 0 ix).bind fun w=>(w.asInt .i64).bind fun n=>
          (bz (decide (0≤n)&&decide (n<s.size))).bind fun _=>K (.val (.val (.int .u8 (av s n.toNat)) false))
      |.array len e=>(C.T e).bind fun ei=>if ei.agg then none else if ei.size≠1 then none else(vk C au t x).bind fun v=>(bz (v.fits true len)).bind fun _=>(vk C au 0 ix).bind fun w=>(w.asInt .i64).bind fun n=>
              (bz (decide (0≤n)&&decide (n<len))).bind fun _=>K (.val (.val (v.cell n.toNat) false))
      |_=>none
  |.lookup t x ix ok=>(C.T t).bind fun i=>match i.kind with
      |.map k e=>(C.T k).bind fun ki=>(C.T e).bind fun ei=>match ki.kind,ei.kind,ok with
       |.string,.int .i64,false=>(vk C au t x).bind fun v=>v.PG.bind fun es=>(vk C au 0 ix).bind fun w=>w.di.bind fun s=>K (.val (.val (.int .i64 (pG es s)) false))
       |_,_,_=>none
      |_=>none
  |.makeFunc fn first captured=>if first.size=0 then(fF C au (captured.toList.map fun x=>(x,0))).bind fun cs=>K (.val (.val (.func fn [] (cs.map (·.1))) false))else none
  |.extract t ix=>match t with
   |.tmp r=>if isRow H (.tmp r)=true then(match au.getD r .dead with
    |.oH cs=>match cs[ix]? with
     |some c=>K (.val (.val c.1 false))
     |none=>none
    |_=>none)else K (.gR r ix)
   |_=>none
  |.panic x=>(vk C au 0 x).bind fun v=>v.Hz.bind fun v=>K (.fB v)
  |.call c=>match c.callee with
   |.builtin .len=>match c.args.toList,c.argTypes.toList with
    |[x],[t]=>(C.T t).bind fun i=>match i.kind with
       |.string=>(vk C au t x).bind fun v=>v.di.bind fun s=>K (.val (.val (.int .i64 s.size) false))
       |.slice e=>(C.T e).bind fun ei=>if isRow H x=true then(vk C au t x).bind fun v=>v.rowLen.bind fun n=>K (.val (.val (.int .i64 n) false))else(vk C au t x).bind fun v=>(v.asSlice ei.size e).bind fun es=>K (.val (.val (.int .i64 es.length) false))
       |.array n _=>K (.val (.val (.int .i64 n) false))
       |_=>none
    |_,_=>none
   |.builtin .append=>match c.args.toList,c.argTypes.toList with
    |[x,y],[t,u]=>(C.T t).bind fun i=>(C.T u).bind fun j=>match i.kind,j.kind with
       |.slice e,.slice e'=>(C.T e).bind fun ei=>(C.T e').bind fun ei'=>if ei.size=ei'.size∧ei.bytes≤4096∧0<ei.bytes∧ei.kZ=false then
             (match cf C au t x with
              |.val v true=>(v.kj ei.size e).bind fun es=>(vk C au u y).bind fun w=>(w.asSlice ei.size e').bind fun xs=>
                  (bz ((!v.isFull||decide (0<xs.length))&&room (es.length+xs.length))).bind fun _=>K (.val (.val (.slice ei.size e (es++xs)) true))
              |_=>none)else none
       |.slice e,.string=>(C.T e).bind fun ei=>if ei.size=1∧ei.bytes≤4096∧0<ei.bytes∧ei.kZ=false then
             (match cf C au t x with
              |.val v true=>(v.asSlice 1 e).bind fun es=>(vk C au u y).bind fun w=>w.di.bind fun s=>
                  (bz (room (es.length+s.size))).bind fun _=>K (.val (.val (.slice 1 e (es++fM s)) true))
              |_=>none)else none
       |_,_=>none
    |_,_=>none
   |.builtin .max=>match c.args.toList with
    |[x,y]=>(vk C au 0 x).bind fun v=>(v.asInt .i64).bind fun a=>(vk C au 0 y).bind fun w=>(w.asInt .i64).bind fun b=>K (.val (.val (.int .i64 (if a<b then b else a)) false))
    |_=>none
   |.builtin _=>none
   |.invoke ..=>none
   |.value g=>(vk C au 0 g).bind fun gv=>gv.Hy.bind fun f=>
       if c.args.size=c.argTypes.size∧distinct (c.args.toList.flatMap dE)then
         (fF C au (c.args.toList.zip c.argTypes.toList)).bind fun args=>match yS H g with
           |true=>K (.qJ f.1 (f.2.1.map (fun v=>(v,false))++args++f.2.2.map fun v=>(v,false)) (MI C o.type))
           |false=>K (.call f.1 (f.2.1.map (fun v=>(v,false))++args++f.2.2.map fun v=>(v,false)) (MI C o.type))
         else none
  |_=>none
def clr:RV→RV
 |.val v _=>.val v false
 |x=>x
def dL (au:List RV):List Nat→List RV
 |[]=>au
 |r::rs=>dL (au.modify r clr) rs
def St.cD (st:St) (r:Nat) (x:RV):St:={st with au:=st.au.set r x}
def St.put (st:St) (dst:Option Nat) (x:RV):St:=match dst with|some d=>st.cD d x|none=>st
def St.clear (st:St) (rs:List Nat):St:={st with au:=dL st.au rs}
def Xw (H:Hints) (dst:Option Nat) (i:Nat):Bool:=match dst with|some d=>H.rE.contains (d,i)|none=>false
def Cr (H:Hints) (dst:Option Nat) (n:Nat) (vs:List Cell):RV:=
 if n=1 then .val (vs.getD 0 bZ).1 (Xw H dst 0)else .oH ((List.range n).map fun i=>((vs.getD i bZ).1,Xw H dst i))
def pK (H:Hints) (dst:Option Nat) (n:Nat) (vs:List Cell):Bool:=(List.range n).all (fun i=>!Xw H dst i||(vs.getD i bZ).2)
def apply(H:Hints) (call:af) (dst:Option Nat) (st:St) (K:Out→Option aQ):lM→Option aQ
 |.val x=>K (.next (st.put dst x))
 |.xd r o n agg cW=>if cW then
    (if o<(st.bC.getD r []).length∧n=1∧agg=false then
     (if ((st.bC.getD r []).getD o bZ).2 then K (.next ({st with bC:=st.bC.set r ((st.bC.getD r []).set o (((st.bC.getD r []).getD o bZ).1,false))}.put dst (.val ((st.bC.getD r []).getD o bZ).1 true)))else none)else none)
  else(dX (st.bC.getD r []) o n agg).bind fun v=>K (.next (st.put dst (.val v false)))
 |.xe r o cs=>if o+cs.length≤(st.bC.getD r []).length then K (.next ({st with bC:=st.bC.set r (setCells (st.bC.getD r []) o cs)}.put dst .dead))else none
 |.rl cs=>match dst with
  |some d=>if d<st.bC.length∧cs.length≠0∧(st.au.all fun x=>!rF d x)=true then K (.next ({st with bC:=st.bC.set d cs}.cD d (.eK d 0)))else none
  |none=>none
 |.vz p n agg=>(bu st.bP p agg n).bind fun v=>K (.next (st.put dst (.val v false)))
 |.nH p=>(fk st.bP p).bind fun v=>K (.next ({st with bP:=v.2}.put dst (.val v.1 true)))
 |.yR p cs=>(aV st.bP p cs).bind fun σ=>K (.next ({st with bP:=σ}.put dst .dead))
 |.vA t cs=>match dst with
  |some d=>K (.next ({st with bP:=st.bP++[cs]}.cD d (.val (.ptr t st.bP.length 0) false)))
  |none=>none
 |.gR r i=>match st.au.getD r .dead with
  |.oH cs=>match cs[i]? with
   |some c=>K (.next ((st.cD r (.oH (cs.set i (c.1,false)))).put dst (.val c.1 c.2)))
   |none=>none
  |_=>none
 |.call f args n=>match call f args st.bP with
  |none=>none
  |some r=>match r.1 with
   |.ret vs=>if vs.length=n then(bz (pK H dst n vs)).bind fun _=>K (.next ({st with bP:=r.2}.put dst (Cr H dst n vs)))else none
   |.fB v=>K (.fB v {st with bP:=r.2})
 |.qJ f args n=>(yT (call f args [])).bind fun vs=>if vs.length=n then(bz (pK H dst n vs)).bind fun _=>K (.next (st.put dst (Cr H dst n vs)))else none
 |.fB v=>K (.fB v st)
def QT (H:Hints) (call:af) (o:Oper) (st:St) (K:Out→Option aQ):Option aQ:=
 TG C H o st.au fun e=>apply H call o.dst (st.clear (bj H o)) K e
def BP (o:Oper):List Nat:=(o.after.toList.filter fun e=>Region.binds .any e).map (·.on)
def Cs:List Nat→List Nat→List Nat
 |[],acc=>acc
 |x::xs,acc=>if acc.contains x then Cs xs acc else Cs xs (x::acc)
def J6:List Oper→List (List Nat)→List (List Nat)
 |[],T=>T
 |o::rest,T=>J6 rest (T++[Cs ((BP o).flatMap fun k=>k::T.getD k []) []])
inductive LF where|none|one (r:Nat)|all
def LF.has:LF→Nat→Bool
 |.none,_=>false
 |.one r,i=>r==i
 |.all,_=>true
def LF.meets:LF→LF→Bool
 |.none,_=>false
 |_,.none=>false
 |.one r,.one i=>r==i
 |_,_=>true
def assoc:List (Nat×Nat)→Nat→Option Nat
 |[],_=>none
 |(a,r)::rest,x=>if a=x then some r else assoc rest x
def F6 (H:Hints):Operand→LF
 |.tmp a=>if H.lp.contains a then(match assoc H.roots a with|some r=>.one r|none=>.all)else .none
 |_=>.none
def ux (H:Hints) (o:Oper):LF:=match o.op with
 |.load _ a=>F6 H a
 |.store _ a _=>F6 H a
 |_=>.none
def oP (H:Hints) (o:Oper):LF:=match o.op with
 |.load _ a=>if o.dst.any H.cW.contains then F6 H a else .none
 |.store _ a _=>F6 H a
 |_=>.none
def oQ (H:Hints) (o:Oper):Bool:=match o.op with
 |.load _ a=>gT H a==.bP&&o.dst.any H.cW.contains
 |.store _ a _=>gT H a==.bP
 |.alloc _|.box ..|.panic _=>true
 |.call c=>match c.callee with|.value g=>!yS H g|_=>false
 |_=>false
def yV (H:Hints) (o:Oper):Bool:=oQ H o||match o.op with
 |.load _ a=>gT H a==.bP
 |_=>false
def Ct (H:Hints) (o:Oper):Bool:=match o.op with
 |.alloc _|.box ..=>!o.dst.any H.PL.contains
 |_=>false
def lP (H:Hints) (o:Oper):List Nat:=o.dst.toList++bj H o++match o.op with|.extract t _=>if isRow H t=true then[]else dE t|_=>[]
def Cu (ops:Array Oper) (o:Oper):List Nat:=match o.guard with|some (j,_)=>((ops[j]?).bind (·.dst)).toList|none=>[]
def Bw (H:Hints) (ops:Array Oper) (o:Oper):List Nat:=o.op.operands.toList.flatMap dE++Cu ops o++lP H o
def apart (xs ys:List Nat):Bool:=xs.all fun x=>!ys.contains x
def vB (H:Hints) (ops:Array Oper) (x y:Oper):Bool:=
 (match x.op with|.alloc _=>true|_=>false)&&x.guard.isNone&&!Ct H y&&(match x.dst with|some d=>!H.PL.contains d&&!(Bw H ops y).contains d&&!(ux H y).has d|none=>false)
def HE (H:Hints) (x y:Oper):Bool:=
 match x.op,y.op,x.dst,y.dst with
 |.load _ a,.load _ b,some d,some e=>x.guard.isNone&&y.guard.isNone&&(gT H a==.bP)&&(gT H b==.bP)&&!H.cW.contains d&&H.cW.contains e&&d != e&&!(dE a).contains e&&!(dE b).contains d
 |_,_,_,_=>false
def indep (H:Hints) (ops:Array Oper) (x y:Oper):Bool:=
 vB H ops x y||HE H x y||(
 !Ct H x&&!Ct H y&&apart (lP H x) (Bw H ops y)&&apart (lP H y) (Bw H ops x)&&
 !(oP H x).meets (ux H y)&&!(oP H y).meets (ux H x)&&!(oQ H x&&yV H y)&&!(oQ H y&&yV H x))
def PN (f:Nat→Nat→Bool):List Nat→Bool
 |[]=>true
 |x::xs=>xs.all (f x)&&PN f xs
def fG (ops:Array Oper) (i:Nat):List Nat:=match ops[i]? with|some o=>BP o|none=>[]
def xf (H:Hints) (ops:Array Oper) (i j:Nat):Bool:=match ops[i]?,ops[j]? with|some x,some y=>indep H ops x y|_,_=>false
def free (H:Hints) (ops:Array Oper) (ord:List Nat):Bool:=
  ord.length==ops.size&&distinct ord&&ord.all (·<ops.size)&&(List.range ops.size).all ord.contains&&
  (List.range ops.size).all (fun i=>(fG ops i).all fun k=>k<ops.size&&k != i)&&
  PN (fun i j=>!(fG ops i).contains j&&(((J6 ops.toList []).getD j []).contains i||xf H ops i j)) ord
def isRoot (r:Nat):RV→Bool
 |.eK r' _=>r'==r
 |.oH []=>true
 |_=>false
def jg (H:Hints) (o:Oper) (au:List RV):Bool:=
 let chk:Operand→Bool:=fun
  |.tmp a=>match assoc H.roots a with|some r=>isRoot r (au.getD a .dead)|none=>true
  |_=>true
 match o.op with
 |.load _ a=>chk a
 |.store _ a _=>chk a
 |_=>true
def Cv (H:Hints) (dr:Option (List (List Nat))) (o:Oper) (au:List RV):Bool:=match dr with|none=>true|some _=>jg H o au
def AI (dr:Option (List (List Nat))) (i:Nat) (rest:List Nat):Bool:=match dr with|none=>true|some T=>rest.all fun k=>(T.getD k []).contains i
def pL (H:Hints) (call:af) (dr:Option (List (List Nat))) (ops:Array Oper):List Nat→St→(Out→Option aQ)→Option aQ
  |[],st,K=>K (.next st)
  |i::rest,st,K=>match ops[i]? with
   |none=>none
   |some o=>(bz (Cv H dr o st.au)).bind fun _=>match o.guard with
    |none=>QT C H call o st fun out=>match out with|.next st=>pL H call dr ops rest st K|.fB v st=>(bz (AI dr i rest)).bind fun _=>K (.fB v st)
    |some (j,want)=>match (ops[j]?).bind (·.dst)with
     |none=>none
     |some d=>match st.au.getD d .dead with
      |.val v ow=>v.asBool.bind fun b=>
          bif b then
            (if want then QT C H call o (st.cD d (.val (.bool true) ow)) fun out=>match out with|.next st=>pL H call dr ops rest st K|.fB v st=>(bz (AI dr i rest)).bind fun _=>K (.fB v st)
             else pL H call dr ops rest ((st.cD d (.val (.bool true) ow)).put o.dst (.oH [])) K)
          else
            (if want then pL H call dr ops rest ((st.cD d (.val (.bool false) ow)).put o.dst (.oH [])) K
             else QT C H call o (st.cD d (.val (.bool false) ow)) fun out=>match out with|.next st=>pL H call dr ops rest st K|.fB v st=>(bz (AI dr i rest)).bind fun _=>K (.fB v st))
      |.oH []=>pL H call dr ops rest (st.put o.dst (.oH [])) K
      |_=>none
def lg (bI:List Nat):Nat→List RV→List RV
 |_,[]=>[]
 |i,x::xs=>(if bI.contains i then x else .dead)::lg bI (i+1) xs
def lh (bI:List Nat):Nat→List (List Cell)→List (List Cell)
 |_,[]=>[]
 |i,x::xs=>(if bI.contains i then x else[])::lh bI (i+1) xs
def St.kill (bI:List Nat) (st:St):St:={st with au:=lg bI 0 st.au,bC:=lh bI 0 st.bC}
def uH (bI:List Nat) (F:St→Option aQ) (K:Ex→St→Option aQ):Ex→St→Option aQ:=fun ex cN=>match ex with|.normal=>F (cN.kill bI)|ex=>K ex cN
def kl (body:St→(Ex→St→Option aQ)→Option aQ) (bI:List Nat):Nat→St→(Ex→St→Option aQ)→Option aQ
 |0,_,_=>none
 |n+1,st,K=>body st (uH bI (fun cN=>kl body bI n cN K) K)
def aam (next:St→Option aQ) (K:Ex→St→Option aQ):Ex→St→Option aQ:=fun ex cN=>match ex with|.normal=>next cN|ex=>K ex cN
def TH (id:Nat) (K:Ex→St→Option aQ):Ex→St→Option aQ:=fun ex cN=>match ex with
 |.exit id'=>if id'=id then K .normal cN else K (.exit id') cN
 |ex=>K ex cN
def fb (H:Hints) (call:af) (n:Nat):Code→Nat→St→(Ex→St→Option aQ)→Option aQ
 |.skip,_,st,K=>K .normal st
 |.label _,_,st,K=>K .normal st
 |.region id ops draw,_,st,K=>
  if draw then(bz (free H ops (H.ord id))).bind fun _=>pL C H call (some (J6 ops.toList [])) ops (H.ord id) st fun out=>match out with|.next st=>K .normal st|.fB v st=>K (.fB v) st
  else pL C H call none ops (List.range ops.size) st fun out=>match out with|.next st=>K .normal st|.fB v st=>K (.fB v) st
 |.seq a b,_,st,K=>fb H call n a 0 st (aam (fun cN=>fb H call n b 0 cN K) K)
 |.cond c x y,_,st,K=>match c with
  |.tmp r=>match st.au.getD r .dead with
   |.val v ow=>v.asBool.bind fun b=>bif b then fb H call n x 0 (st.cD r (.val (.bool true) ow)) K else fb H call n y 0 (st.cD r (.val (.bool false) ow)) K
   |_=>none
  |.const (.bool b)=>if b then fb H call n x 0 st K else fb H call n y 0 st K
  |_=>none
 |.block id body,_,st,K=>fb H call n body id st (TH id K)
 |.loop body,id,st,K=>kl (fun st K=>fb H call n body 0 st K) (H.bI id) n (st.kill (H.bI id)) K
 |.exit id,_,st,K=>K (.exit id) st
 |.ret,_,st,K=>K .ret st
 |_,_,_,_=>none
def hU (st:St):List ResultVar→Option (List Cell)
 |[]=>some []
 |.tmp t::rest=>match st.au.getD t .dead with
  |.val v o=>(hU (st.clear [t]) rest).bind fun cs=>some ((v,o)::cs)
  |_=>none
 |.cell a t::rest=>(C.T t).bind fun i=>match st.au.getD a .dead with
  |.eK r o=>(dX (st.bC.getD r []) o i.size i.agg).bind fun v=>(hU st rest).bind fun cs=>some ((v,false)::cs)
  |.val p _=>(bu st.bP p i.agg i.size).bind fun v=>(hU st rest).bind fun cs=>some ((v,false)::cs)
  |_=>none
def HH (d:oO):Ex→St→Option aQ:=fun ex st=>match ex with
 |.normal=>(hU C st d.fn.results.toList).bind fun vs=>some (.ret vs,st.bP)
 |.ret=>(hU C st d.fn.results.toList).bind fun vs=>some (.ret vs,st.bP)
 |.fB v=>some (.fB v,st.bP)
 |.exit _=>none
def J7 (d:oO) (call:af) (n:Nat) (args:List Cell) (σ:az):Option aQ:=
 if args.length≤d.fn.ntmps then
  fb C d.hints call n d.code 0 {au:=args.map (fun c=>.val c.1 c.2)++List.replicate (d.fn.ntmps - args.length) .dead,bC:=List.replicate d.fn.ntmps [],bP:=σ} (HH C d)
 else none
def gG (own:List Nat):Nat→List Cell→List Cell
 |_,[]=>[]
 |i,c::cs=>(c.1,own.contains i&&c.2)::gG own (i+1) cs
def jN:Nat→af
 |0,_,_,_=>none
 |n+1,f,args,σ=>match C.ext f with
  |some s=>s args σ
  |none=>match C.Fi f with
   |some d=>J7 C d (jN n) n (gG d.hints.own 0 args) σ
   |none=>none
end
end Go.Ab
end
section
namespace Go.Ab
section
variable {C:Ctx} {H:Hints}
theorem bc {α β:Type} {x:Option α} {f:α→Option β} {g:α→Option aQ} {K:β→Option aQ} (h:∀a,g a=(f a).bind K):x.bind g=(x.bind f).bind K:=by
 cases x with
 |none=>rfl
 |some a=>exact h a
theorem QU (op:BinOp) (k:IntKind) (a b:Int) (K:V→Option aQ):MJ op k a b K=(F4 op k a b).bind K:=by
 cases op<;>simp only[MJ,F4]<;>(try rfl)<;>(rw[Option.bind_assoc];rfl)
theorem QV (op:BinOp) (a b:ByteArray) (K:V→Option aQ):MK op a b K=(F5 op a b).bind K:=by
 cases op<;>simp only[MK,F5]<;>(try rfl)<;>(rw[Option.bind_assoc];rfl)
theorem TJ (au:List RV) (op:BinOp) (t:TypeId) (x y:Operand) (K:V→Option aQ):TF C au op t x y K=(Mv C au op t x y).bind K:=by
 simp only[TF,Mv,QU,QV]
 repeat' first
  |rfl
  |(refine bc fun _=>?_)
  |split
theorem F7 (au:List RV) (place:Nat→Option (Nat×Nat×TypeId)) (K:List V→Option aQ):∀(ps:List (Nat×Operand)) (cs:List V),yU C au place cs ps K=(qK C au place cs ps).bind K
 |[],_=>rfl
 |(i,x)::rest,cs=>by
  simp only[yU,qK,Option.bind_assoc]
  congr 1;funext p;congr 1;funext ti;congr 1;funext v;congr 1;funext _
  exact F7 au place K rest _
theorem ML (au:List RV) (x:Option Operand) (d:Int) (K:Int→Option aQ):lZ C au x d K=(iN C au x d).bind K:=by
 cases x<;>simp only[lZ,iN,Option.bind_assoc]<;>rfl
theorem HI (o:Oper) (au:List RV) (K:lM→Option aQ):TG C H o au K=(act C H o au).bind K:=by
 obtain⟨dst,op,type,pos,after,guard⟩:=o
 cases op
 case call c=>
  obtain⟨callee,args,argTypes⟩:=c
  cases callee with
  |builtin b=>
   cases b<;>simp only[TG,act]
   all_goals repeat' first
    |with_reducible exact(Option.bind_some ..).symm
    |with_reducible exact(Option.bind_none ..).symm
    |(refine bc fun _=>?_)
    |split
  |invoke=>rfl
  |value g=>
   simp only[TG,act]
   repeat' first
    |with_reducible exact(Option.bind_some ..).symm
    |with_reducible exact(Option.bind_none ..).symm
    |(refine bc fun _=>?_)
    |split
 all_goals
  simp only[TG,act,TJ,F7,ML]
  repeat' first
   |with_reducible exact(Option.bind_some ..).symm
   |with_reducible exact(Option.bind_none ..).symm
   |(refine bc fun _=>?_)
   |split
end
end Go.Ab
end
section
namespace Go.Ab
section
variable {C:Ctx} {H:Hints} {call:af}
def ky (xs:List Operand) (s t:List RV):Prop:=∀r,Operand.tmp r∈xs→s.getD r .dead=t.getD r .dead
theorem mP {xs:List Operand} {s t:List RV} (h:ky xs s t) {x:Operand} (hx:x∈xs) (ty:TypeId):cf C s ty x=cf C t ty x:=by
 cases x with
 |tmp r=>exact h r hx
 |_=>rfl
theorem nI {xs:List Operand} {s t:List RV} (h:ky xs s t) {x:Operand} (hx:x∈xs) (ty:TypeId):vk C s ty x=vk C t ty x:=by
 simp only[vk,mP h hx]
theorem PO {xs:List Operand} {s t:List RV} (h:ky xs s t) {x:Operand} (hx:x∈xs) (ty:TypeId):ck C s ty x=ck C t ty x:=by
 simp only[ck,mP h hx]
theorem vC {xs:List Operand} {s t:List RV} (h:ky xs s t) (place:Nat→Option (Nat×Nat×TypeId)):∀(ps:List (Nat×Operand)) (cs:List V),(∀p∈ps,p.2∈xs)→qK C s place cs ps=qK C t place cs ps
 |[],_,_=>rfl
 |(i,x)::rest,cs,hp=>by
  simp only[qK]
  congr 1;funext p;congr 1;funext ti
  rw[nI h (hp _ (List.mem_cons_self ..))]
  congr 1;funext v;congr 1;funext _
  exact vC h place rest _ fun p Bv=>hp p (List.mem_cons_of_mem _ Bv)
theorem qL {xs:List Operand} {s t:List RV} (h:ky xs s t):∀(ps:List (Nat×Operand)),(∀p∈ps,p.2∈xs)→jf C s ps=jf C t ps
 |[],_=>rfl
 |p::rest,hp=>by
  have:=qL h rest fun q hq=>hp q (List.mem_cons_of_mem _ hq)
  unfold jf at*
  simp only[List.all_cons,this,mP h (hp p (List.mem_cons_self ..))]
theorem oe {xs:List Operand} {s t:List RV} (h:ky xs s t):∀(ps:List (Operand×TypeId)),(∀p∈ps,p.1∈xs)→fF C s ps=fF C t ps
 |[],_=>rfl
 |(x,ty)::rest,hp=>by
  simp only[fF]
  rw[PO h (hp _ (List.mem_cons_self ..)),oe h rest fun p Bv=>hp p (List.mem_cons_of_mem _ Bv)]
theorem rG {xs:List Operand} {s t:List RV} (h:ky xs s t) {x:Option Operand} (hx:∀y,x=some y→y∈xs) (d:Int):iN C s x d=iN C t x d:=by
 cases x with
 |none=>rfl
 |some y=>simp only[iN,nI h (hx y rfl)]
theorem QW {xs:List Operand} {s t:List RV} (h:ky xs s t) {op:BinOp} {ty:TypeId} {x y:Operand} (hx:x∈xs) (hy:y∈xs):Mv C s op ty x y=Mv C t op ty x y:=by
 simp only[Mv,nI h hx,nI h hy]
theorem Cw (o:Oper) {s t:List RV} (h:ky o.op.operands.toList s t):act C H o s=act C H o t:=by
  obtain⟨dst,op,type,pos,after,guard⟩:=o
  simp only at h
  cases op
  case call c=>
    obtain⟨callee,args,argTypes⟩:=c
    simp only[Op.operands,Call.operands]at h
    cases callee with
    |builtin b=>
     simp only[Array.toList_append,List.nil_append]at h
     cases b<;>simp only[act]
     all_goals
       split<;>try rfl
       simp only[*,List.mem_cons,true_or,or_true,nI h,mP h]
    |invoke=>rfl
    |value g=>
     simp only[act]
     rw[nI h (by simp),oe h (args.toList.zip argTypes.toList) (fun p hp=>by
       have:=(List.of_mem_zip hp).1
       simp[this])]
  case extract x i=>
    simp only[Op.operands]at h
    cases x with
    |tmp r=>
     have hr:s.getD r .dead=t.getD r .dead:=h r (by simp)
     simp only[act,hr]
    |_=>rfl
  case build ty ps=>
    simp only[Op.operands]at h
    have hp:∀p∈ps.toList,p.2∈(ps.toList.map (·.2)).toArray.toList:=fun p hp=>by simpa using⟨p.1,by simpa using hp⟩
    simp only[act,vC h _ ps.toList _ hp,qL h ps.toList hp]
  case buildSlice ty n ps=>
    simp only[Op.operands]at h
    have hp:∀p∈ps.toList,p.2∈(ps.toList.map (·.2)).toArray.toList:=fun p hp=>by simpa using⟨p.1,by simpa using hp⟩
    simp only[act,vC h _ ps.toList _ hp]
  case makeFunc fn first captured=>
    simp only[Op.operands]at h
    simp only[act]
    rw[oe h (captured.toList.map fun x=>(x,0)) (fun p hp=>by
      obtain⟨x,hx,rfl⟩:=List.mem_map.1 hp
      simp only[Array.toList_append,List.mem_append]
      exact .inr hx)]
  case slice ty x lo hi mx=>
    simp only[Op.operands]at h
    have hx:=nI (C:=C) (x:=x) h (by simp)
    have hl:=fun d=>rG (C:=C) (x:=lo) h (by rintro y rfl;simp) d
    have hh:=fun d=>rG (C:=C) (x:=hi) h (by rintro y rfl;simp) d
    cases mx with
    |none=>simp only[act,hx,hl,hh]
    |some q=>
     have hm:=fun d=>rG (C:=C) (x:=some q) h (by rintro y hy;cases hy;simp) d
     simp only[act,hx,hl,hh,hm]
  all_goals first
    |rfl
    |(simp only[Op.operands]at h
      simp only[act,List.mem_cons,true_or,or_true,nI h,mP h,PO h,QW h])
end
end Go.Ab
end
section
namespace Go.Ab
inductive Place where
 |ry (r:Nat)|oH (r i:Nat)|lc (r o:Nat)|gc (b o:Nat)|box (r:Nat)|eZ (b:Nat)|res (i:Nat)
 deriving DecidableEq
structure Gh where
 N:Nat
 μ:Nat→Nat
 ah:Nat→Nat
 owner:Nat→Option Place
 ty:Nat→TypeId
def lX {α:Type} (f:Nat→α) (i:Nat) (x:α):Nat→α:=fun j=>if j=i then x else f j
@[simp] theorem jK {α:Type} (f:Nat→α) (i:Nat) (x:α):lX f i x i=x:=by simp[lX]
theorem bB {α:Type} (f:Nat→α) {i j:Nat} (x:α) (h:j≠i):lX f i x j=f j:=by simp[lX,h]
def fE (w:World) (b o:Nat):Option (Value ⊕ (Array MapEntry×Nat)):=
 match w.heap[b]? with
 |some (.map es c)=>some (.inr (es,c))
 |_=>(w.cell? ⟨b,o,none⟩).map .inl
theorem Ts {w:World} {b o:Nat} {es:Array MapEntry} {c:Nat} (h:fE w b o=some (.inr (es,c))):w.heap[b]?=some (.map es c):=by
 unfold fE at h
 split at h
 ·rename_i es' c' hh;simp at h;rw[hh,h.1,h.2]
 ·simp at h
theorem eH {w w':World} {b:Nat} (h:w'.heap[b]?=w.heap[b]?) (o:Nat):fE w' b o=fE w b o:=by
 simp only[fE,World.cell?,h]
theorem FY {w w':World} {b o:Nat} (h:w'.cell? ⟨b,o,none⟩=w.cell? ⟨b,o,none⟩) (h1:∀es c,w.heap[b]?≠some (.map es c)) (h2:∀es c,w'.heap[b]?≠some (.map es c)):fE w' b o=fE w b o:=by
 have e:∀{u:World},(∀es c,u.heap[b]?≠some (.map es c))→fE u b o=(u.cell? ⟨b,o,none⟩).map .inl:=by
  intro u hu
  unfold fE
  split
  ·rename_i es c hh;exact absurd hh (hu es c)
  ·rfl
 rw[e h1,e h2,h]
theorem QX {w w':World} {b o:Nat} (h:fE w' b o=fE w b o):w'.cell? ⟨b,o,none⟩=w.cell? ⟨b,o,none⟩:=by
 have e:∀u:World,u.cell? ⟨b,o,none⟩=(match fE u b o with|some (.inl v)=>some v|_=>none):=by
  intro u
  simp only[fE,World.cell?]
  cases u.heap[b]? with
  |none=>rfl
  |some ob=>cases ob<;>first|rfl|(simp only[];split<;>rfl)|(rename_i c t f;simp;cases c[o]?<;>rfl)
 rw[e,e,h]
inductive Rel (G:Gh) (w:World):V→Value→Prop
 |any (c:Value):c.oneCell'=true→Rel G w .any c
 |bool (b:Bool):Rel G w (.bool b) (.bool b)
 |int (k:IntKind) (n:Int):Rel G w (.int k n) (.int k n)
 |str (s:ByteArray):Rel G w (.str s) (.string s)
 |kc:Rel G w .kc (.pointer none)
 |ptr (t:TypeId) (b o:Nat):b<G.N→G.ty b=t→Rel G w (.ptr t b o) (.pointer (some ⟨G.μ b,o,none⟩))
 |eL (k:Nat) (e:List V) (o b off:Nat) (cs:List Value):e.length=k→cs.length=k→off+k≤G.ah b→
  (∀(i:Nat) (c:Value),cs[i]?=some c→w.cell? ⟨b,off+i,none⟩=some c∧c.oneCell'=true)→
  (∀(i:Nat) (v:V) (c:Value),e[i]?=some v→cs[i]?=some c→Rel G w v c)→Rel G w (.eL k e o) (.pointer (some ⟨b,off+o,none⟩))
 |pJ:Rel G w .pJ (.slice none 0 0)
 |rh (k:Nat) (e:TypeId):Rel G w (.slice k e []) (.slice none 0 0)
 |slice (k:Nat) (et:TypeId) (es:List (List V)) (b off c:Nat) (cs:List (List Value)):cs.length=es.length→es.length≤c→off+es.length*k≤G.ah b→
  (∀(i:Nat) (e:List V),es[i]?=some e→e.length=k)→(∀(i:Nat) (x:List Value),cs[i]?=some x→x.length=k)→
  (∀(i j:Nat) (x:List Value) (c:Value),cs[i]?=some x→x[j]?=some c→w.cell? ⟨b,off+i*k+j,none⟩=some c∧c.oneCell'=true)→
  (∀(i j:Nat) (e:List V) (x:List Value) (v:V) (c:Value),es[i]?=some e→cs[i]?=some x→e[j]?=some v→x[j]?=some c→Rel G w v c)→
  Rel G w (.slice k et es) (.slice (some ⟨b,off,none⟩) es.length c)
 |func (fn:Fn) (first cap:List V) (f c:List Value):f.length=first.length→c.length=cap.length→
  (∀(i:Nat) (v:V) (x:Value),first[i]?=some v→f[i]?=some x→Rel G w v x)→(∀(i:Nat) (v:V) (x:Value),cap[i]?=some v→c[i]?=some x→Rel G w v x)→
  Rel G w (.func fn first cap) (.func fn f.toArray c.toArray)
 |nilFunc:Rel G w .nilFunc .nilFunc
 |iface (t:TypeId) (v:V) (c:Value):Rel G w v c→Rel G w (.iface t v) (.iface t c)
 |nilIface:Rel G w .nilIface .nilIface
 |lit (c:Value):c.oneCell'=true→Rel G w (.lit c) c
 |map (es:List (ByteArray×Int)) (b:Nat) (bY:Array MapEntry) (clock:Nat):0<G.ah b→fE w b 0=some (.inr (bY,clock))→
  bY.toList.map (fun e=>(e.key,e.val))=es.map (fun p=>(Value.string p.1,Value.int .i64 p.2))→Rel G w (.map es) (.map (some b))
 |full (k:Nat) (et:TypeId) (es:List (List V)) (c:Value):Rel G w (.slice k et es) c→(∀a n cap,c=.slice a n cap→n=cap)→Rel G w (.full k et es) c
 |row (k:Nat) (et:TypeId) (es:List (List V)) (a:Option Addr) (n cap:Nat):n=es.length→(a=none→cap=0∧es=[])→Rel G w (.row k et es) (.slice a n cap)
 |jM (ks:List ByteArray) (es:List (List V)) (b:Nat):Rel G w (.jM ks es) (.map (some b))
 |agg (cs:List V) (xs:List Value):xs.length=cs.length→(∀(i:Nat) (x:Value),xs[i]?=some x→x.oneCell'=true)→(∀(i:Nat) (v:V) (x:Value),cs[i]?=some v→xs[i]?=some x→Rel G w v x)→Rel G w (.agg cs) (.agg xs.toArray)
structure Ext (G:Gh) (w:World) (G':Gh) (w':World):Prop where
 N:G.N≤G'.N
 μ:∀b,b<G.N→G'.μ b=G.μ b
 ty:∀b,b<G.N→G'.ty b=G.ty b
 ah:∀b,G.ah b≤G'.ah b
 fE:∀b o,o<G.ah b→fE w' b o=fE w b o
 os:w'.os=w.os
 tape:w'.tape=w.tape
 output:w'.output=w.output
 size:w.heap.size≤w'.heap.size
 rv:∀i,i<w.heap.size→G.owner i=none→w'.heap[i]?=w.heap[i]?∧G'.ah i=G.ah i∧G'.owner i=none
theorem Ext.cell {G G':Gh} {w w':World} (x:Ext G w G' w') (b o:Nat) (h:o<G.ah b):w'.cell? ⟨b,o,none⟩=w.cell? ⟨b,o,none⟩:=QX (x.fE b o h)
theorem Ext.refl (G:Gh) (w:World):Ext G w G w:=
 ⟨Nat.le_refl _,fun _ _=>rfl,fun _ _=>rfl,fun _=>Nat.le_refl _,fun _ _ _=>rfl,rfl,rfl,rfl,Nat.le_refl _,fun _ _ h=>⟨rfl,rfl,h⟩⟩
theorem Ext.trans {G G1 G2:Gh} {w w1 w2:World} (h:Ext G w G1 w1) (k:Ext G1 w1 G2 w2):Ext G w G2 w2 where
 N:=Nat.le_trans h.N k.N
 μ b hb:=(k.μ b (Nat.lt_of_lt_of_le hb h.N)).trans (h.μ b hb)
 ty b hb:=(k.ty b (Nat.lt_of_lt_of_le hb h.N)).trans (h.ty b hb)
 ah b:=Nat.le_trans (h.ah b) (k.ah b)
 fE b o ho:=(k.fE b o (Nat.lt_of_lt_of_le ho (h.ah b))).trans (h.fE b o ho)
 os:=k.os.trans h.os
 tape:=k.tape.trans h.tape
 output:=k.output.trans h.output
 size:=Nat.le_trans h.size k.size
 rv i hi ho:=by
  obtain⟨a1,a2,a3⟩:=h.rv i hi ho
  obtain⟨b1,b2,b3⟩:=k.rv i (Nat.lt_of_lt_of_le hi h.size) a3
  exact⟨b1.trans a1,b2.trans a2,b3⟩
theorem Rel.mono {G G':Gh} {w w':World} (x:Ext G w G' w') {v:V} {c:Value} (h:Rel G w v c):Rel G' w' v c:=by
 induction h with
 |any c h=>exact .any c h
 |bool b=>exact .bool b
 |int k n=>exact .int k n
 |str s=>exact .str s
 |kc=>exact .kc
 |ptr t b o hb ht=>rw[←x.μ b hb];exact .ptr t b o (Nat.lt_of_lt_of_le hb x.N) ((x.ty b hb).trans ht)
 |eL k e o b off cs h1 h2 h3 h4 _ ih=>
  refine .eL k e o b off cs h1 h2 (Nat.le_trans h3 (x.ah b)) (fun i c hc=>?_) ih
  rw[x.cell b (off+i) (by have:=(List.getElem?_eq_some_iff.1 hc).1;omega)];exact h4 i c hc
 |pJ=>exact .pJ
 |rh k e=>exact .rh k e
 |slice k et es b off c cs h1 h2 h3 h4 h5 h6 _ ih=>
  refine .slice k et es b off c cs h1 h2 (Nat.le_trans h3 (x.ah b)) h4 h5 (fun i j y c hy hc=>?_) ih
  rw[x.cell b _ (by
   have hi:=(List.getElem?_eq_some_iff.1 hy).1
   have hj:=(List.getElem?_eq_some_iff.1 hc).1
   rw[h5 i y hy]at hj
   have:(i+1)*k≤es.length*k:=Nat.mul_le_mul_right k (by omega)
   rw[Nat.succ_mul]at this
   omega)]
  exact h6 i j y c hy hc
 |func fn first cap f c h1 h2 _ _ Xx Xy=>exact .func fn first cap f c h1 h2 Xx Xy
 |nilFunc=>exact .nilFunc
 |iface t v c _ ih=>exact .iface t v c ih
 |nilIface=>exact .nilIface
 |agg cs xs h1 h2 _ ih=>exact .agg cs xs h1 h2 ih
 |lit c h=>exact .lit c h
 |full k et es c _ h2 ih=>exact .full k et es c ih h2
 |row k et es a n cap h1 h2=>exact .row k et es a n cap h1 h2
 |jM ks es b=>exact .jM ks es b
 |map es b bY clock h1 h2 h3=>exact .map es b bY clock (Nat.lt_of_lt_of_le h1 (x.ah b)) ((x.fE b 0 h1).trans h2) h3
def PK:Value→Prop
 |.slice (some _) _ _=>False
 |_=>True
def PQ (G:Gh) (w:World) (k:Nat) (e:TypeId) (es:List (List V)) (c:Value):Prop:=
 ∃xs,w.ownsRow 0 e k c es.length xs∧(∀x∈es,x.length=k)∧
  ∀(i j:Nat) (x:List V) (v:V),es[i]?=some x→x[j]?=some v→∃y,xs[i*k+j]?=some y∧y.oneCell'=true∧Rel G w v y
def xg (G:Gh) (w:World) (ks:List ByteArray) (es:List (List V)) (b:Nat):Prop:=
 ∃bY clock,w.heap[b]?=some (.map bY clock)∧bY.toList.map (fun e=>e.key)=ks.map (fun s=>Value.string s)∧es.length=ks.length∧ks.Nodup∧
  ∀(i:Nat) (x:List V) (e:MapEntry),es[i]?=some x→bY[i]?=some e→Rel G w (.eL x.length x 0) e.val∧e.val.oneCell'=true
theorem PQ.move {G G':Gh} {w w':World} {k:Nat} {e:TypeId} {es:List (List V)} {a:Addr} {n cap:Nat} (h:PQ G w k e es (.slice (some a) n cap)) (hr:∀{v c},Rel G w v c→Rel G' w' v c) (hb:w'.heap[a.block]?=w.heap[a.block]?):PQ G' w' k e es (.slice (some a) n cap):=by
 obtain⟨xs,h1,h4,h5⟩:=h
 refine⟨xs,⟨h1.1,?_⟩,h4,fun i j x v hx hv=>by
  obtain⟨y,q1,q2,q3⟩:=h5 i j x v hx hv
  exact⟨y,q1,q2,hr q3⟩⟩
 rcases h1.2 with⟨q,_⟩|⟨g,J3,cur,q,q1,q2,q3⟩
 ·simp at q
 ·refine .inr ⟨g,J3,cur,q,q1,?_,q3⟩
  rw[show g=a.block by have:=Value.slice.inj q;rw[Option.some.inj this.1]]
  rw[hb,←q2,show g=a.block by have:=Value.slice.inj q;rw[Option.some.inj this.1]]
theorem xg.move {G G':Gh} {w w':World} {ks:List ByteArray} {es:List (List V)} {b:Nat} (h:xg G w ks es b) (hr:∀{v c},Rel G w v c→Rel G' w' v c) (hb:w'.heap[b]?=w.heap[b]?):xg G' w' ks es b:=by
 obtain⟨bY,clock,h1,h2,h3,h5,h4⟩:=h
 exact⟨bY,clock,hb.trans h1,h2,h3,h5,fun i x e hx he=>⟨hr (h4 i x e hx he).1,(h4 i x e hx he).2⟩⟩
def Own (G:Gh) (w:World) (p:Place) (v:V) (c:Value):Prop:=
  match v,c with
  |.slice k e _,.slice (some a) n cap=>a.off=0∧a.spot=none∧G.owner a.block=some p∧G.ah a.block=n*k∧
      ∃cv fr,w.heap[a.block]?=some (.cells cv e fr)∧cap*k≤cv.size∧fr.2≤n*k
  |.row k e es,.slice (some a) n cap=>G.owner a.block=some p∧G.ah a.block=0∧PQ G w k e es (.slice (some a) n cap)
  |.jM ks es,.map (some b)=>G.owner b=some p∧G.ah b=0∧xg G w ks es b
  |.agg cs,.agg xs=>∀(i k:Nat) (e:TypeId) (x:Value),cs[i]?=some (.slice k e [])→xs[i]?=some x→PK x
  |_,_=>True
def je (G:Gh) (w:World) (p:Place) (c:Cell) (x:Value):Prop:=Rel G w c.1 x∧(c.2=true→Own G w p c.1 x)
theorem Own.cut {G:Gh} {w:World} {p:Place} {v:V} {c:Value} (h:Own G w p v c):(∀G' w' q,Own G' w' q v c)∨
  ∃b,G.owner b=some p∧∀(G':Gh) (w':World) (q:Place),(∀{v c},Rel G w v c→Rel G' w' v c)→w'.heap[b]?=w.heap[b]?→G'.ah b=G.ah b→G'.owner b=some q→Own G' w' q v c:=by
 unfold Own at h
 split at h
 ·obtain⟨h1,h2,h3,h4,cv,fr,h5,h6,h7⟩:=h
  exact .inr ⟨_,h3,fun G' w' q _ a1 a2 a3=>⟨h1,h2,a3,by rw[a2];exact h4,cv,fr,by rw[a1];exact h5,h6,h7⟩⟩
 ·obtain⟨h3,h4,h5⟩:=h
  exact .inr ⟨_,h3,fun G' w' q hr a1 a2 a3=>⟨a3,by rw[a2];exact h4,h5.move hr a1⟩⟩
 ·obtain⟨h3,h4,h5⟩:=h
  exact .inr ⟨_,h3,fun G' w' q hr a1 a2 a3=>⟨a3,by rw[a2];exact h4,h5.move hr a1⟩⟩
 ·exact .inl fun G' w' q=>h
 ·rename_i h1 h2 h3 h4
  refine .inl fun G' w' q=>?_
  unfold Own
  split
  ·exact(h1 _ _ _ _ _ _ rfl rfl).elim
  ·exact(h2 _ _ _ _ _ _ rfl rfl).elim
  ·exact(h3 _ _ _ rfl rfl).elim
  ·exact(h4 _ _ rfl rfl).elim
  ·trivial
theorem Own.move {G G':Gh} {w w':World} {p q:Place} {v:V} {c:Value} (h:Own G w p v c) (hr:∀{v c},Rel G w v c→Rel G' w' v c)
  (hp:∀i,G.owner i=some p→w'.heap[i]?=w.heap[i]?∧G'.ah i=G.ah i∧G'.owner i=some q):Own G' w' q v c:=by
 rcases h.cut with h|⟨b,h1,h2⟩
 ·exact h _ _ _
 ·exact h2 G' w' q hr (hp b h1).1 (hp b h1).2.1 (hp b h1).2.2
theorem je.move {G G':Gh} {w w':World} {p:Place} {c:Cell} {x:Value} (h:je G w p c x) (e:Ext G w G' w')
  (hp:c.2=true→∀i,G.owner i=some p→w'.heap[i]?=w.heap[i]?∧G'.ah i=G.ah i∧G'.owner i=some p):je G' w' p c x:=
 ⟨h.1.mono e,fun ho=>(h.2 ho).move (fun hr=>hr.mono e) (hp ho)⟩
def lf (G:Gh) (w:World) (r:Nat) (p:Place) (q:Nat→Place) (cs:List Cell):Prop:=
 ∃cv el,w.heap[r]?=some (.cells cv el (0,0))∧cv.size=cs.length∧G.owner r=some p∧G.ah r=0∧
  ∀(j:Nat) c x,cs[j]?=some c→cv[j]?=some x→je G w (q j) c x∧x.oneCell'=true
def WF (G:Gh) (w:World):Prop:=∀i,w.heap.size≤i→G.ah i=0∧G.owner i=none
def GSz (gl:Nat→Option (List V)) (G:Gh) (w:World):Prop:=∀(g:Nat) (cs:List V),gl g=some cs→G.owner g=none∧0<G.ah g∧∃cv el fr,w.heap[g]?=some (.cells cv el fr)∧cv.size=cs.length
theorem GSz.mono {gl:Nat→Option (List V)} {G G':Gh} {w w':World} (h:GSz gl G w) (e:Ext G w G' w'):GSz gl G' w':=fun g cs hg=>by
 obtain⟨h1,h2,cv,el,fr,h3,h4⟩:=h g cs hg
 obtain⟨a1,a2,a3⟩:=e.rv g (Array.getElem?_eq_some_iff.1 h3).1 h1
 exact⟨a3,by rw[a2];exact h2,cv,el,fr,a1.trans h3,h4⟩
structure dR (gl:Nat→Option (List V)) (G:Gh) (w:World) (σ:az):Prop where
 wf:WF G w
 bN:∀(g:Nat) (cs:List V),gl g=some cs→Rel G w (.eL cs.length cs 0) (.pointer (some ⟨g,0,none⟩))
 N:G.N=σ.length
 typed:∀b,b<σ.length→∃cv fr,w.heap[G.μ b]?=some (.cells cv (G.ty b) fr)
 eZ:∀(b:Nat) (cs:List Cell),σ[b]?=some cs→lf G w (G.μ b) (.eZ b) (fun j=>.gc b j) cs
 PE:GSz gl G w
def vD (G:Gh) (lam:Nat→Nat) (w:World) (r:Nat) (x:RV) (c:Value):Prop:=
 match x with
 |.dead=>True
 |.val v o=>je G w (.ry r) (v,o) c
 |.eK r' o=>c=.pointer (some ⟨lam r',o,none⟩)
 |.oH cs=>∃xs:List Value,c=.tuple xs.toArray∧xs.length=cs.length∧∀i y v,cs[i]?=some y→xs[i]?=some v→je G w (.oH r i) y v
structure Inv (gl:Nat→Option (List V)) (G:Gh) (lam:Nat→Nat) (a:Act) (w:World) (st:St):Prop where
 defers:a.defers=[]
 len:a.tmps.size=st.au.length
 jL:st.bC.length=st.au.length
 au:∀r x,st.au[r]?=some x→vD G lam w r x (a.tmps.getD r undef)
 bC:∀r cs,st.bC[r]?=some cs→cs≠[]→lf G w (lam r) (.box r) (fun j=>.lc r j) cs
 bP:dR gl G w st.bP
def St.th (st:St):Place→Prop
 |.ry r=>∃v,st.au[r]?=some (.val v true)
 |.oH r i=>∃cs v,st.au[r]?=some (.oH cs)∧cs[i]?=some (v,true)
 |.lc r j=>∃cs v,st.bC[r]?=some cs∧cs[j]?=some (v,true)
 |.gc b j=>∃cs v,st.bP[b]?=some cs∧cs[j]?=some (v,true)
 |_=>False
structure mM (G:Gh) (w:World) (G':Gh) (w':World) (fl:Place→Prop):Prop where
 blocks:∀i p,G.owner i=some p→fl p→w'.heap[i]?=w.heap[i]?∧G'.ah i=G.ah i∧G'.owner i=some p
theorem lf.move {G G':Gh} {w w':World} {r:Nat} {p:Place} {q:Nat→Place} {cs:List Cell} {fl:Place→Prop} (h:lf G w r p q cs) (e:Ext G w G' w') (k:mM G w G' w' fl)
  (hp:fl p) (hq:∀j v,cs[j]?=some (v,true)→fl (q j)):lf G' w' r p q cs:=by
 obtain⟨cv,el,h1,h2,h3,h4,h5⟩:=h
 obtain⟨a1,a2,a3⟩:=k.blocks r p h3 hp
 refine⟨cv,el,by rw[a1];exact h1,h2,a3,by rw[a2];exact h4,fun j c x hc hx=>⟨(h5 j c x hc hx).1.move e fun ho i hi=>?_,(h5 j c x hc hx).2⟩⟩
 obtain⟨v,o⟩:=c
 simp only at ho
 subst ho
 exact k.blocks i _ hi (hq j v hc)
theorem vD.move {G G':Gh} {lam:Nat→Nat} {w w':World} {r:Nat} {x:RV} {c:Value} {fl:Place→Prop} (h:vD G lam w r x c) (e:Ext G w G' w') (k:mM G w G' w' fl)
  (h1:∀v,x=.val v true→fl (.ry r)) (h2:∀cs i v,x=.oH cs→cs[i]?=some (v,true)→fl (.oH r i)):vD G' lam w' r x c:=by
 cases x with
 |dead=>trivial
 |val v o=>exact je.move h e fun ho i hi=>k.blocks i _ hi (h1 v (by simp only at ho;rw[ho]))
 |eK r' o=>exact h
 |oH cs=>
  obtain⟨xs,g1,g2,g3⟩:=h
  refine⟨xs,g1,g2,fun i y v hy hv=>(g3 i y v hy hv).move e fun ho j hj=>?_⟩
  obtain⟨y,o⟩:=y
  simp only at ho
  subst ho
  exact k.blocks j _ hj (h2 cs i y rfl hy)
theorem dR.move {gl:Nat→Option (List V)} {G G':Gh} {w w':World} {σ:az} {fl:Place→Prop} (h:dR gl G w σ) (e:Ext G w G' w') (k:mM G w G' w' fl) (wf:WF G' w') (hN:G'.N=G.N)
  (jI:∀b,b<σ.length→fl (.eZ b)) (hq:∀b cs j v,σ[b]?=some cs→cs[j]?=some (v,true)→fl (.gc b j)):dR gl G' w' σ:=by
 refine⟨wf,fun g cs hg=>(h.bN g cs hg).mono e,hN.trans h.N,fun b hb=>?_,fun b cs hb=>?_,h.PE.mono e⟩
 ·obtain⟨cv,fr,h1⟩:=h.typed b hb
  obtain⟨_,_,_,_,h3,_⟩:=h.eZ b σ[b] (List.getElem?_eq_getElem hb)
  have aG:b<G.N:=by rw[h.N];exact hb
  rw[e.μ b aG,e.ty b aG]
  exact⟨cv,fr,by rw[(k.blocks _ _ h3 (jI b hb)).1];exact h1⟩
 have aG:b<G.N:=by rw[h.N];exact(List.getElem?_eq_some_iff.1 hb).1
 rw[e.μ b aG]
 exact(h.eZ b cs hb).move e k (jI b (by rw[←h.N];exact aG)) (fun j v hv=>hq b cs j v hb hv)
theorem Inv.move {gl:Nat→Option (List V)} {G G':Gh} {lam:Nat→Nat} {a:Act} {w w':World} {st:St} (h:Inv gl G lam a w st) (e:Ext G w G' w') (k:mM G w G' w' (fun p=>st.th p∨(∃r,p=.box r)∨∃b,p=.eZ b)) (wf:WF G' w') (hN:G'.N=G.N):Inv gl G' lam a w' st where
 defers:=h.defers
 len:=h.len
 jL:=h.jL
 au r x hx:=(h.au r x hx).move e k (fun v hv=>.inl ⟨v,hv▸hx⟩) (fun cs i v hv hi=>.inl ⟨cs,v,hv▸hx,hi⟩)
 bC r cs hc eJ:=(h.bC r cs hc eJ).move e k (.inr (.inl ⟨r,rfl⟩)) (fun j v hv=>.inl ⟨cs,v,hc,hv⟩)
 bP:=h.bP.move e k wf hN (fun b _=>.inr (.inr ⟨b,rfl⟩)) (fun b cs j v hb hv=>.inl ⟨cs,v,hb,hv⟩)
theorem Ext.same {G:Gh} {w w':World} (hh:w'.heap=w.heap) (h1:w'.os=w.os) (h2:w'.tape=w.tape) (h3:w'.output=w.output):Ext G w G w' where
 N:=Nat.le_refl _
 μ _ _:=rfl
 ty _ _:=rfl
 ah _:=Nat.le_refl _
 fE b o _:=eH (by rw[hh]) o
 os:=h1
 tape:=h2
 output:=h3
 size:=by rw[hh];exact Nat.le_refl _
 rv i _ ho:=⟨by rw[hh],rfl,ho⟩
theorem mM.same {G:Gh} {w w':World} {fl:Place→Prop} (hh:w'.heap=w.heap):mM G w G w' fl:=⟨fun i p hp _=>⟨by rw[hh],rfl,hp⟩⟩
theorem Inv.same {gl:Nat→Option (List V)} {G:Gh} {lam:Nat→Nat} {a:Act} {w w':World} {st:St} (h:Inv gl G lam a w st) (hh:w'.heap=w.heap) (h1:w'.os=w.os) (h2:w'.tape=w.tape) (h3:w'.output=w.output):Inv gl G lam a w' st:=
 h.move (Ext.same hh h1 h2 h3) (mM.same hh) (fun i hi=>h.bP.wf i (by rw[hh]at hi;exact hi)) rfl
end Go.Ab
end
section
namespace Go.Ab
theorem add_plain (b o n:Nat):(⟨b,o,none⟩:Addr).add n=⟨b,o+n,none⟩:=by unfold Addr.add;split<;>simp_all
def yW:V→Value→Bool
 |.bool a,.bool b=>a==b
 |.int k n,.int k' n'=>decide (k=k'∧n=n')
 |.str s,.string t=>decide (s=t)
 |.kc,.pointer none=>true
 |.pJ,.slice none 0 0=>true
 |.slice _ _ [],.slice none 0 0=>true
 |.lit (.slice none 0 0),.slice none 0 0=>true
 |.nilFunc,.nilFunc=>true
 |.nilIface,.nilIface=>true
 |.any,c=>c.oneCell'
 |_,_=>false
theorem Cx {v:V} {c:Value} (h:yW v c=true) (G:Gh) (w:World):Rel G w v c∧(∀p,Own G w p v c)∧c.oneCell'=true:=by
 unfold yW at h
 split at h
 ·simp at h;subst h;exact⟨.bool _,fun _=>trivial,rfl⟩
 ·simp at h;obtain⟨rfl,rfl⟩:=h;exact⟨.int _ _,fun _=>trivial,rfl⟩
 ·simp at h;subst h;exact⟨.str _,fun _=>trivial,rfl⟩
 ·exact⟨.kc,fun _=>trivial,rfl⟩
 ·exact⟨.pJ,fun _=>trivial,rfl⟩
 ·exact⟨.rh _ _,fun _=>trivial,rfl⟩
 ·exact⟨.lit _ rfl,fun _=>trivial,rfl⟩
 ·exact⟨.nilFunc,fun _=>trivial,rfl⟩
 ·exact⟨.nilIface,fun _=>trivial,rfl⟩
 ·exact⟨.any _ h,fun _=>trivial,h⟩
 ·simp at h
theorem QY (c:Value) (h:F3 c≠.any) (G:Gh) (w:World):Rel G w (F3 c) c∧∀p,Own G w p (F3 c) c:=by
 unfold F3 at*
 split
 ·exact⟨.bool _,fun _=>trivial⟩
 ·exact⟨.int _ _,fun _=>trivial⟩
 ·exact⟨.str _,fun _=>trivial⟩
 ·exact⟨.kc,fun _=>trivial⟩
 ·exact⟨.pJ,fun _=>trivial⟩
 ·exact⟨.nilFunc,fun _=>trivial⟩
 ·exact⟨.nilIface,fun _=>trivial⟩
 ·exact⟨.func _ [] [] [] [] rfl rfl (by simp) (by simp),fun _=>trivial⟩
 ·simp at h
def Cf:TK→TypeDesc→Prop
 |.bool,.bool=>True
 |.int k,.int k'=>k=k'
 |.string,.string=>True
 |.pointer e,.pointer e'=>e=e'
 |.slice e,.slice e'=>e=e'
 |.array n e,.array n' e'=>n=n'∧e=e'
 |.struct fs,.struct fields=>fields.toList.map (fun f=>(f.offset,f.type))=fs
 |.iface,.interface _=>True
 |.func,.func ..=>True
 |.map k e,.map k' e'=>k=k'∧e=e'
 |.tuple _,.tuple _=>True
 |.other,.struct _=>False
 |.other,.array ..=>False
 |.other,.interface _=>False
 |.other,_=>True
 |_,_=>False
structure Mw (P:Program) (t:TypeId) (i:TI):Prop where
 info:∃info,P.info? t=some info∧info.size=i.size∧info.bytes=i.bytes
 zero:(∃n,i.kind=.tuple n)∨∃info z,P.info? t=some info∧info.zero=some z∧z.cells.toList.length=i.zero.length∧i.zero.length=i.size∧
  ∀(j:Nat) v c,i.zero[j]?=some v→z.cells.toList[j]?=some c→yW v c=true
 desc:∃d,P.underlying t=some d∧Cf i.kind d
 abH:∀k,i.kind=.int k→∃info,P.info? t=some info∧info.zero=some (.int k 0)
section
variable {P:Program} {t:TypeId} {i:TI} {w:World}
theorem fA {info:TypeInfo} (h:P.info? t=some info):(typeInfo t).run P w=.ok info w:=by
 simp[typeInfo,h]
theorem cZ (h:Mw P t i):(sizeOf t).run P w=.ok i.size w:=by
 obtain⟨info,h1,h2,_⟩:=h.info
 simp[sizeOf,fA h1,h2]
theorem aK {d:TypeDesc} (h:P.underlying t=some d):(underlying t).run P w=.ok d w:=by
 simp[underlying,h]
theorem wW (h:Mw P t i):(isAgg t).run P w=.ok i.agg w:=by
 obtain⟨d,h1,h2⟩:=h.desc
 simp only[isAgg,Sem.run_bind,aK h1,Result.andThen_ok]
 unfold TI.agg
 generalize i.kind=k at h2
 unfold Cf at h2
 split at h2<;>first|rfl|exact h2.elim|(simp_all;done)
theorem Hp {k:IntKind} {d:TypeDesc} (h:Cf (.int k) d):d=.int k:=by cases d<;>simp_all [Cf]
theorem Tl {d:TypeDesc} (h:Cf .bool d):d=.bool:=by cases d<;>simp_all [Cf]
theorem ku {d:TypeDesc} (h:Cf .string d):d=.string:=by cases d<;>simp_all [Cf]
theorem JU {e:TypeId} {d:TypeDesc} (h:Cf (.pointer e) d):d=.pointer e:=by cases d<;>simp_all [Cf]
theorem jo {e:TypeId} {d:TypeDesc} (h:Cf (.slice e) d):d=.slice e:=by cases d<;>simp_all [Cf]
theorem oL {n:Nat} {e:TypeId} {d:TypeDesc} (h:Cf (.array n e) d):d=.array n e:=by cases d<;>simp_all [Cf]
theorem Xk {k e:TypeId} {d:TypeDesc} (h:Cf (.map k e) d):d=.map k e:=by cases d<;>simp_all [Cf]
theorem vt {fs:List (Nat×TypeId)} {d:TypeDesc} (h:Cf (.struct fs) d):∃fields,d=.struct fields∧fields.toList.map (fun f=>(f.offset,f.type))=fs:=by cases d<;>simp_all [Cf]
theorem QH {d:TypeDesc} (h:Cf .iface d):∃ms,d=.interface ms:=by cases d<;>simp_all [Cf]
end
def putCells (w:World) (b o:Nat):List Value→World
 |[]=>w
 |v::vs=>putCells (w.setCell ⟨b,o,none⟩ v) b (o+1) vs
def ri (cv:Array Value) (o:Nat):List Value→Array Value
 |[]=>cv
 |v::vs=>ri (cv.setIfInBounds o v) (o+1) vs
@[simp] theorem FZ (cv:Array Value) (o:Nat) (vs:List Value):(ri cv o vs).size=cv.size:=by
 induction vs generalizing cv o with
 |nil=>rfl
 |cons v vs ih=>simp[ri,ih]
theorem w8 (cv:Array Value) (o:Nat) (vs:List Value) (j:Nat) (h:o+vs.length≤cv.size):
  (ri cv o vs)[j]?=if o≤j∧j<o+vs.length then vs[j - o]? else cv[j]?:=by
 induction vs generalizing cv o with
 |nil=>simp[ri];intro h1 h2;omega
 |cons v vs ih=>
  simp only[List.length_cons]at h
  rw[ri,ih (cv.setIfInBounds o v) (o+1) (by simp;omega)]
  by_cases h1:o+1≤j∧j<o+1+vs.length
  ·rw[if_pos h1,if_pos (by simp;omega),show j - o=(j - (o+1))+1 by omega,List.getElem?_cons_succ]
  ·rw[if_neg h1]
   by_cases h2:j=o
   ·subst h2
    rw[if_pos (by simp),Array.getElem?_setIfInBounds]
    simp;omega
   ·rw[if_neg (by simp;omega),Array.getElem?_setIfInBounds,if_neg (by omega)]
theorem n9 (w:World) (b o:Nat) (vs:List Value) (i:Nat):
  (putCells w b o vs).heap[i]?=if i=b then(w.heap[i]?).map fun
   |.cells c elem frozen=>.cells (ri c o vs) elem frozen
   |o=>o else w.heap[i]?:=by
 induction vs generalizing w o with
 |nil=>
  simp only[putCells,ri]
  split
  ·cases w.heap[i]? with
   |none=>rfl
   |some x=>cases x<;>rfl
  ·rfl
 |cons v vs ih=>
  simp only[putCells,ri]
  rw[ih]
  split
  ·rename_i h
   subst h
   simp only[World.setCell,Array.getElem?_modify,if_true]
   cases w.heap[i]? with
   |none=>rfl
   |some x=>cases x<;>rfl
  ·rename_i h
   simp only[World.setCell,Array.getElem?_modify]
   rw[if_neg (by omega)]
theorem uF (w:World) (b o:Nat) (vs:List Value):
  (putCells w b o vs).heap.size=w.heap.size∧(putCells w b o vs).os=w.os∧(putCells w b o vs).tape=w.tape∧(putCells w b o vs).output=w.output:=by
 induction vs generalizing w o with
 |nil=>exact⟨rfl,rfl,rfl,rfl⟩
 |cons v vs ih=>
  obtain⟨h1,h2,h3,h4⟩:=ih (w.setCell ⟨b,o,none⟩ v) (o+1)
  exact⟨by simp only[putCells];rw[h1];simp,h2,h3,h4⟩
theorem aj {w:World} {b:Nat} {cv:Array Value} {el:TypeId} {fr:Nat×Nat} (h:w.heap[b]?=some (.cells cv el fr)) (o:Nat):w.cell? ⟨b,o,none⟩=cv[o]?:=by
 simp[World.cell?,h]
theorem Bx {w:World} {b:Nat} {cv:Array Value} {el:TypeId} {fr:Nat×Nat} (h:w.heap[b]?=some (.cells cv el fr)) (o:Nat) (hf:fr.2≤o):w.frozen? ⟨b,o,none⟩=false:=by
 obtain⟨lo,hi⟩:=fr
 simp only[World.frozen?,h]
 simp only at hf
 simp;omega
theorem k9 {P:Program} (vs:List Value):∀(w:World) (b o k:Nat) (cv:Array Value) (el:TypeId) (fr:Nat×Nat),w.heap[b]?=some (.cells cv el fr)→o+k+vs.length≤cv.size→fr.2≤o+k→
  (∀v,v∈vs→v.oneCell'=true)→(storeCells ⟨b,o,none⟩ vs k).run P w=.ok () (putCells w b (o+k) vs):=by
 induction vs with
 |nil=>intro w b o k cv el fr _ _ _ _;simp[storeCells,putCells]
 |cons v vs ih=>
  intro w b o k cv el fr h hk hf hv
  simp only[List.length_cons]at hk
  have hc:w.cell? ⟨b,o+k,none⟩=some (cv[o+k]'(by omega)):=by rw[aj h];simp
  have hfr:=Bx h (o+k) hf
  simp only[storeCells,add_plain,Sem.run_bind]
  rw[run_store _ _ _ _ _ (hv v (by simp)),hc]
  simp only[hfr,Bool.false_eq_true,if_false,Result.andThen_ok]
  rw[ih (w.setCell ⟨b,o+k,none⟩ v) b o (k+1) (cv.setIfInBounds (o+k) v) el fr (by simp[World.setCell,Array.getElem?_modify,h]) (by simp;omega) (by omega) (fun x hx=>hv x (by simp[hx]))]
  rfl
section
variable {P:Program} {t:TypeId} {i:TI} {w:World}
theorem mL (h:Mw P t i) (b o:Nat) (cs:List Value) (hl:cs.length=i.size) (hc:∀(j:Nat) c,cs[j]?=some c→w.cell? ⟨b,o+j,none⟩=some c) (hs:i.agg=false→i.size=1):
  (loadVar t ⟨b,o,none⟩).run P w=.ok (if i.agg then .agg cs.toArray else cs.headD undef) w:=by
 simp only[loadVar,Sem.run_bind,wW h,Result.andThen_ok,Sem.run_ite]
 cases hi:i.agg with
 |true=>
  simp only[if_true,Sem.run_bind,cZ h,Result.andThen_ok]
  rw[←hl,run_loadCells_list w ⟨b,o,none⟩ cs (fun j v hj=>by rw[add_plain];exact hc j v hj)]
  simp
 |false=>
  have h1:=hs hi
  obtain⟨c,rfl⟩:∃c,cs=[c]:=by
   match cs,hl.trans h1 with
   |[c],_=>exact⟨c,rfl⟩
  have:=hc 0 c rfl
  simp only[Nat.add_zero]at this
  simp[run_load,this]
end
end Go.Ab
end
section
namespace Go.Ab
section
variable {gl:Nat→Option (List V)} {G:Gh} {lam:Nat→Nat} {a:Act} {w:World} {st:St}
theorem J8 (a:Act) (dst:Option Nat) (c:Value):(a.put dst c).defers=a.defers∧(a.put dst c).tmps.size=a.tmps.size:=by
 cases dst<;>simp[Act.put]
theorem Xz (a:Act) (d:Nat) (c:Value) (r:Nat):(a.put (some d) c).tmps.getD r undef=if d=r∧r<a.tmps.size then c else a.tmps.getD r undef:=by
 simp only[Act.put,Array.getD_eq_getD_getElem?,Array.getElem?_setIfInBounds]
 by_cases h:d=r
 ·subst h
  by_cases h2:d<a.tmps.size
  ·simp[h2]
  ·simp[h2]
 ·simp[h]
theorem Inv.put (h:Inv gl G lam a w st) (dst:Option Nat) (x:RV) (c:Value) (hr:∀d,dst=some d→vD G lam w d x c):Inv gl G lam (a.put dst c) w (st.put dst x):=by
 cases dst with
 |none=>exact h
 |some d=>
  refine⟨by rw[(J8 _ _ _).1];exact h.defers,by rw[(J8 _ _ _).2];simp[St.put,St.cD,h.len],by simp[St.put,St.cD,h.jL],fun r y hy=>?_,h.bC,h.bP⟩
  rw[Xz]
  simp only[St.put,St.cD,List.getElem?_set]at hy
  by_cases hd:d=r
  ·subst hd
   rw[if_pos rfl]at hy
   split at hy
   ·rename_i aG
    rw[if_pos ⟨rfl,by rw[h.len];exact aG⟩]
    obtain rfl:=Option.some.inj hy
    exact hr d rfl
   ·exact absurd hy (by simp)
  ·rw[if_neg hd]at hy
   rw[if_neg (by simp[hd])]
   exact h.au r y hy
theorem XA {r:Nat} {x:RV} {c:Value} (h:vD G lam w r x c):vD G lam w r (clr x) c:=by
 cases x with
 |val v o=>exact⟨h.1,fun hh=>by simp at hh⟩
 |_=>exact h
theorem uI (au:List RV) (rs:List Nat) (r:Nat):(dL au rs)[r]?=if rs.contains r then(au[r]?).map clr else au[r]?:=by
 induction rs generalizing au with
 |nil=>simp[dL]
 |cons x rs ih=>
  rw[dL,ih,List.getElem?_modify]
  by_cases hx:x=r
  ·subst hx
   simp only[if_true,List.contains_cons,beq_self_eq_true,Bool.true_or]
   split
   ·cases au[x]? with
    |none=>rfl
    |some y=>cases y<;>rfl
   ·cases au[x]?<;>rfl
  ·have h2:(r==x)=false:=by simp;exact fun e=>hx e.symm
   simp only[hx,List.contains_cons,h2,Bool.false_or,if_false]
   cases au[r]?<;>simp
theorem iw (au:List RV) (rs:List Nat):(dL au rs).length=au.length:=by
 induction rs generalizing au with
 |nil=>rfl
 |cons x rs ih=>simp[dL,ih]
theorem Inv.clear (h:Inv gl G lam a w st) (rs:List Nat):Inv gl G lam a w (st.clear rs):=by
 refine⟨h.defers,by simp only[St.clear,iw];exact h.len,by simp only[St.clear,iw];exact h.jL,fun r y hy=>?_,h.bC,h.bP⟩
 simp only[St.clear,uI]at hy
 split at hy
 ·cases hx:st.au[r]? with
  |none=>rw[hx]at hy;simp at hy
  |some x=>
   rw[hx]at hy
   obtain rfl:=Option.some.inj hy
   exact XA (h.au r x hx)
 ·exact h.au r y hy
theorem eE (rs:List Nat) (t:Nat) (ht:rs.contains t=true):¬(st.clear rs).th (.ry t):=by
 rintro⟨v,hv⟩
 simp only[St.clear,uI,ht,if_true]at hv
 cases hx:st.au[t]? with
 |none=>rw[hx]at hv;simp at hv
 |some x=>rw[hx]at hv;cases x<;>simp[clr]at hv
theorem Inv.token (h:Inv gl G lam a w st) {p q:Place} {v:V} {c:Value} (ho:Own G w p v c) (hp:¬st.th p) (E9:∀r,p≠.box r) (TM:∀b,p≠.eZ b):
  ∃G',Ext G w G' w∧Inv gl G' lam a w st∧Own G' w q v c∧G'.N=G.N:=by
 rcases ho.cut with gZ|⟨b,h3,h5⟩
 ·exact⟨G,Ext.refl _ _,h,gZ _ _ _,rfl⟩
 ·have hx:Ext G w {G with owner:=lX G.owner b (some q)} w:=⟨Nat.le_refl _,fun _ _=>rfl,fun _ _=>rfl,fun _=>Nat.le_refl _,fun _ _ _=>rfl,rfl,rfl,rfl,Nat.le_refl _,fun i _ hi=>⟨rfl,rfl,by
   show lX G.owner b (some q) i=none
   rw[bB]
   ·exact hi
   ·rintro rfl;rw[h3]at hi;exact absurd hi (by simp)⟩⟩
  refine⟨{G with owner:=lX G.owner b (some q)},hx,?_,h5 _ _ _ (fun hr=>hr.mono hx) rfl rfl (jK _ _ _),rfl⟩
  refine h.move hx ⟨fun i p' Bv hf=>⟨rfl,rfl,?_⟩⟩ (fun i hi=>?_) rfl
  ·show lX G.owner b (some q) i=_
   rw[bB]
   ·exact Bv
   ·rintro rfl
    rw[h3]at Bv
    obtain rfl:=Option.some.inj Bv
    rcases hf with hf|⟨r,hr⟩|⟨b,hb⟩
    ·exact hp hf
    ·exact E9 r hr
    ·exact TM b hb
  ·obtain⟨a1,a2⟩:=h.bP.wf i hi
   refine⟨a1,?_⟩
   show lX G.owner b (some q) i=_
   rw[bB]
   ·exact a2
   ·rintro rfl;rw[h3]at a2;exact absurd a2 (by simp)
theorem vm {G:Gh} {w:World} (h:WF G w) {b o:Nat} (ho:o<G.ah b):b<w.heap.size:=by
 rcases Nat.lt_or_ge b w.heap.size with h1|h1
 ·exact h1
 ·rw[(h b h1).1]at ho;omega
theorem fV {G:Gh} {w:World} (h:WF G w) {b:Nat} {p:Place} (ho:G.owner b=some p):b<w.heap.size:=by
 rcases Nat.lt_or_ge b w.heap.size with h1|h1
 ·exact h1
 ·rw[(h b h1).2]at ho;simp at ho
theorem aO {w:World} {o:Obj} {i:Nat} (h:i<w.heap.size):(w.alloc o).heap[i]?=w.heap[i]?:=by
 show(w.heap.push o)[i]?=_
 rw[Array.getElem?_push,if_neg (by omega)]
theorem heap_alloc_new (w:World) (o:Obj):(w.alloc o).heap[w.heap.size]?=some o:=by
 show(w.heap.push o)[w.heap.size]?=_
 simp
def Gh.new (G:Gh) (w:World) (ah:Nat) (p:Option Place):Gh:={G with ah:=lX G.ah w.heap.size ah,owner:=lX G.owner w.heap.size p}
theorem Ext.alloc {G:Gh} {w:World} (wf:WF G w) (o:Obj) (ah:Nat) (p:Option Place):Ext G w (G.new w ah p) (w.alloc o) where
 N:=Nat.le_refl _
 μ _ _:=rfl
 ty _ _:=rfl
 ah b:=by
  show _≤lX G.ah w.heap.size ah b
  by_cases hb:b=w.heap.size
  ·subst hb;rw[(wf _ (Nat.le_refl _)).1];omega
  ·rw[bB _ _ hb];exact Nat.le_refl _
 fE b o ho:=eH (aO (vm wf ho)) o
 os:=rfl
 tape:=rfl
 output:=rfl
 size:=by simp
 rv i hi ho:=⟨aO hi,bB _ _ (by omega),by show lX G.owner _ _ i=_;rw[bB _ _ (by omega)];exact ho⟩
theorem WF.alloc {G:Gh} {w:World} (wf:WF G w) (o:Obj) (ah:Nat) (p:Option Place):WF (G.new w ah p) (w.alloc o):=by
 intro i hi
 simp at hi
 obtain⟨h1,h2⟩:=wf i (by omega)
 exact⟨(bB _ _ (by omega)).trans h1,(bB _ _ (by omega)).trans h2⟩
theorem mM.alloc {G:Gh} {w:World} {fl:Place→Prop} (wf:WF G w) (o:Obj) (ah:Nat) (p:Option Place):mM G w (G.new w ah p) (w.alloc o) fl:=
 ⟨fun i q hq _=>by
  have:=fV wf hq
  exact⟨aO this,bB _ _ (by omega),by show lX G.owner _ _ i=_;rw[bB _ _ (by omega)];exact hq⟩⟩
theorem Inv.alloc (h:Inv gl G lam a w st) (o:Obj) (ah:Nat) (p:Option Place):Inv gl (G.new w ah p) lam a (w.alloc o) st:=
 h.move (Ext.alloc h.bP.wf o ah p) (mM.alloc h.bP.wf o ah p) (h.bP.wf.alloc o ah p) rfl
end
end Go.Ab
end
section
namespace Go.Ab
structure dN (P:Program) (C:Ctx):Prop where
 mixed:P.follows .mixedOrders=true
 T:∀t i,C.T t=some i→Mw P t i
 Fi:∀f d,C.Fi f=some d→P.funcs[f]?=some d.fn∧d.fn.body=some d.code∧(∀(args:Array Value) (w:World),(callFunc f args).run P w=.ok (.enter f args) w)
 pure:∀f d,C.Fi f=some d→∀g,d.hints.F2.contains g=true→∃s,C.ext g=some s∧∀args vs,s args []=some (.ret vs,[])→∀σ,s args σ=some (.ret vs,σ)
def MN (H:Hints) (call:af):Prop:=∀f args vs,H.F2.contains f=true→call f args []=some (.ret vs,[])→∀σ,call f args σ=some (.ret vs,σ)
theorem AJ {r:Option aQ} {vs:List Cell} (h:yT r=some vs):r=some (.ret vs,[]):=by
 unfold yT at h
 split at h
 ·obtain rfl:=Option.some.inj h;rfl
 ·simp at h
section
variable {G:Gh} {w:World}
theorem Cy {b:Bool} {c:Value} (h:Rel G w (.bool b) c):c=.bool b:=by cases h;rfl
theorem XB {k:IntKind} {n:Int} {c:Value} (h:Rel G w (.int k n) c):c=.int k n:=by cases h;rfl
theorem PJ {s:ByteArray} {c:Value} (h:Rel G w (.str s) c):c=.string s:=by cases h;rfl
theorem MO {v:V} {k:IntKind} {n:Int} (h:v.asInt k=some n):v=.int k n:=by
 cases v<;>simp[V.asInt]at h;obtain⟨rfl,rfl⟩:=h;rfl
theorem rH {v:V} {b:Bool} (h:v.asBool=some b):v=.bool b:=by cases v<;>simp[V.asBool]at h;rw[h]
theorem Co {v:V} {s:ByteArray} (h:v.di=some s):v=.str s:=by cases v<;>simp[V.di]at h;rw[h]
theorem cL {b:Bool} {u:Unit} (h:bz b=some u):b=true:=by cases b<;>simp[bz]at h ⊢
theorem Cp {v:V} {c:Value} {n:Nat} {ag:Bool} (h:Rel G w v c) (hf:v.fits ag n=true):
  (ag=true∧∃cs,∃xs:List Value,v=.agg cs∧c=.agg xs.toArray∧cs.length=n∧xs.length=n)∨(ag=false∧n=1∧c.oneCell'=true):=by
 cases h<;>simp[V.fits]at hf<;>first|(right;simp_all [Value.oneCell'];done)|(left;obtain⟨h1,h2⟩:=hf;exact⟨h1,_,_,rfl,rfl,h2,by omega⟩)
theorem oK {k:Nat} {et:TypeId} {es:List (List V)} {c:Value} (h:Rel G w (.slice k et es) c):(es=[]∧c=.slice none 0 0)∨
  ∃b off cap,∃cs:List (List Value),c=.slice (some ⟨b,off,none⟩) es.length cap∧cs.length=es.length∧es.length≤cap∧off+es.length*k≤G.ah b∧
   (∀(i:Nat) (e:List V),es[i]?=some e→e.length=k)∧(∀(i:Nat) (x:List Value),cs[i]?=some x→x.length=k)∧
   (∀(i j:Nat) (x:List Value) (c:Value),cs[i]?=some x→x[j]?=some c→w.cell? ⟨b,off+i*k+j,none⟩=some c∧c.oneCell'=true)∧
   (∀(i j:Nat) (e:List V) (x:List Value) (v:V) (c:Value),es[i]?=some e→cs[i]?=some x→e[j]?=some v→x[j]?=some c→Rel G w v c):=by
 cases h with
 |rh=>exact .inl ⟨rfl,rfl⟩
 |slice _ _ _ b off cap cs h1 h2 h3 h4 h5 h6 h7=>exact .inr ⟨b,off,cap,cs,rfl,h1,h2,h3,h4,h5,h6,h7⟩
theorem nG {v:V} {k:Nat} {et:TypeId} {es:List (List V)} {c:Value} (h:v.asSlice k et=some es) (r:Rel G w v c):Rel G w (.slice k et es) c∧(v=.slice k et es∨(v=.pJ∧es=[])):=by
 cases v<;>simp[V.asSlice]at h
 ·subst h;cases r;exact⟨.rh _ _,.inr ⟨rfl,rfl⟩⟩
 ·obtain⟨⟨rfl,rfl⟩,rfl⟩:=h;exact⟨r,.inl rfl⟩
theorem QR {v:V} {k:Nat} {et:TypeId} {es:List (List V)} {c:Value} (h:v.kj k et=some es) (r:Rel G w v c):Rel G w (.slice k et es) c∧(v=.slice k et es∨(v=.pJ∧es=[])∨(v.isFull=true∧∀a n cap,c=.slice a n cap→n=cap)):=by
 cases v<;>simp[V.kj]at h
 ·subst h;cases r;exact⟨.rh _ _,.inr (.inl ⟨rfl,rfl⟩)⟩
 ·obtain⟨⟨rfl,rfl⟩,rfl⟩:=h;exact⟨r,.inl rfl⟩
 ·obtain⟨⟨rfl,rfl⟩,rfl⟩:=h
  cases r with
  |full _ _ _ _ h1 h2=>exact⟨h1,.inr (.inr ⟨rfl,h2⟩)⟩
end
section
variable {P:Program} {C:Ctx} {G:Gh} {lam:Nat→Nat} {a:Act} {w:World} {st:St}
theorem jO (h:Inv C.bN G lam a w st) (r:Nat):vD G lam w r (st.au.getD r .dead) (a.eval (.tmp r)):=by
 simp only[Act.eval,List.getD_eq_getElem?_getD]
 cases hx:st.au[r]? with
 |none=>exact trivial
 |some x=>exact h.au r x hx
theorem gX (h:Inv C.bN G lam a w st) {t:TypeId} {x:Operand} {v:V} {o:Bool} (hv:cf C st.au t x=.val v o):Rel G w v (a.eval x)∧
  (o=true→(∃r,x=.tmp r∧Own G w (.ry r) v (a.eval x))∨∀p,Own G w p v (a.eval x)):=by
 cases x with
 |tmp r=>
  have:=jO h r
  simp only[cf]at hv
  rw[hv]at this
  exact⟨this.1,fun ho=>.inl ⟨r,rfl,this.2 ho⟩⟩
 |const c=>
  simp only[cf]at hv
  by_cases hn:F3 c=.any
  ·rw[hn]at hv;simp at hv
  ·have hr:=QY c hn G w
   simp only[Act.eval]
   split at hv
   ·rename_i yX
    rw[yX]at hr
    have hc:c=.slice none 0 0:=by have:=hr.1;cases this;rfl
    subst hc
    (repeat' split at hv)<;>(obtain⟨rfl,rfl⟩:=RV.val.inj hv)<;>first|exact⟨.rh _ _,fun _=>.inr fun _=>trivial⟩|exact⟨.pJ,fun _=>.inr fun _=>trivial⟩
   ·rename_i adj;exact absurd adj hn
   ·obtain⟨rfl,rfl⟩:=RV.val.inj hv
    exact⟨hr.1,fun ho=>by simp at ho⟩
 |global g=>
  simp only[cf]at hv
  split at hv
  ·rename_i cs hg
   obtain⟨rfl,rfl⟩:=RV.val.inj hv
   exact⟨h.bP.bN g cs hg,fun ho=>by simp at ho⟩
  ·simp at hv
 |func f=>
  simp only[cf]at hv
  obtain⟨rfl,rfl⟩:=RV.val.inj hv
  exact⟨.func _ [] [] [] [] rfl rfl (by simp) (by simp),fun ho=>by simp at ho⟩
theorem kr (h:Inv C.bN G lam a w st) {t:TypeId} {x:Operand} {r o:Nat} (hv:cf C st.au t x=.eK r o):a.eval x=.pointer (some ⟨lam r,o,none⟩):=by
 cases x with
 |tmp r'=>
  have:=jO h r'
  simp only[cf]at hv
  rw[hv]at this
  exact this
 |const c=>
  simp only[cf]at hv
  (repeat' split at hv)<;>simp at hv
 |global g=>simp only[cf]at hv;split at hv<;>simp at hv
 |func f=>simp[cf]at hv
theorem QZ {r d:Nat} {x:RV} {c:Value} (h:vD G lam w r x c):vD G lam w d (xc x) c:=by
 cases x with
 |dead=>trivial
 |val v o=>exact⟨h.1,fun ho=>by simp at ho⟩
 |eK r' o=>exact h
 |oH cs=>
  obtain⟨xs,h1,h2,h3⟩:=h
  refine⟨xs,h1,by simp[h2],fun i y v hy hv=>?_⟩
  simp only[List.getElem?_map,Option.map_eq_some_iff]at hy
  obtain⟨z,hz,rfl⟩:=hy
  exact⟨(h3 i z v hz hv).1,fun ho=>by simp at ho⟩
theorem pE (h:Inv C.bN G lam a w st) (t:TypeId) (x:Operand) (d:Nat):vD G lam w d (xc (cf C st.au t x)) (a.eval x):=by
 cases hv:cf C st.au t x with
 |dead=>trivial
 |val v o=>exact⟨(gX h hv).1,fun ho=>by simp at ho⟩
 |eK r o=>exact kr h hv
 |oH cs=>
  cases x with
  |tmp r=>
   have:=jO h r
   simp only[cf]at hv
   rw[hv]at this
   exact QZ (x:=.oH cs) this
  |const c=>simp only[cf]at hv;(repeat' split at hv)<;>simp at hv
  |global g=>simp only[cf]at hv;split at hv<;>simp at hv
  |func f=>simp[cf]at hv
theorem fW (h:Inv C.bN G lam a w st) {t:TypeId} {x:Operand} {v:V} (hv:vk C st.au t x=some v):Rel G w v (a.eval x):=by
 unfold vk at hv
 split at hv
 ·rename_i v' o hx
  obtain rfl:=Option.some.inj hv
  exact(gX h hx).1
 ·simp at hv
theorem Tq (h:Inv C.bN G lam a w st) {t:TypeId} {x:Operand} {c:Cell} (hv:ck C st.au t x=some c):Rel G w c.1 (a.eval x)∧
  (c.2=true→(∃r,x=.tmp r∧Own G w (.ry r) c.1 (a.eval x))∨∀p,Own G w p c.1 (a.eval x)):=by
 unfold ck at hv
 split at hv
 ·rename_i v' o hx
  obtain rfl:=Option.some.inj hv
  exact gX h hx
 ·simp at hv
theorem mI (h:Inv C.bN G lam a w st) {t:TypeId} {x:Operand} {v:V} {k:IntKind} {n:Int} (hv:vk C st.au t x=some v) (hn:v.asInt k=some n):a.eval x=.int k n:=by
 have:=fW h hv
 rw[MO hn]at this
 exact XB this
theorem BL (h:Inv C.bN G lam a w st) {t:TypeId} {x:Operand} {v:V} {b:Bool} (hv:vk C st.au t x=some v) (hn:v.asBool=some b):a.eval x=.bool b:=by
 have:=fW h hv
 rw[rH hn]at this
 exact Cy this
theorem vr (h:Inv C.bN G lam a w st) {t:TypeId} {x:Operand} {v:V} {s:ByteArray} (hv:vk C st.au t x=some v) (hn:v.di=some s):a.eval x=.string s:=by
 have:=fW h hv
 rw[Co hn]at this
 exact PJ this
def gj (P:Program) (C:Ctx) (H:Hints) (G:Gh) (lam:Nat→Nat) (a:Act) (w:World) (st:St) (o:Oper) (x:RV):Prop:=
 ∃c w' G',(execOp a.eval o).run P w=.ok (.value c) w'∧Ext G w G' w'∧Inv C.bN G' lam a w' (st.clear (bj H o))∧∀d,o.dst=some d→vD G' lam w' d x c
theorem gj.pure {H:Hints} {o:Oper} {x:RV} (h:Inv C.bN G lam a w st) (c:Value) (iS:(execOp a.eval o).run P w=.ok (.value c) w) (hr:∀d,vD G lam w d x c):gj P C H G lam a w st o x:=
 ⟨c,w,G,iS,Ext.refl _ _,h.clear _,fun d _=>hr d⟩
theorem gj.val {H:Hints} {o:Oper} {v:V} (h:Inv C.bN G lam a w st) (c:Value) (iS:(execOp a.eval o).run P w=.ok (.value c) w) (hr:Rel G w v c):gj P C H G lam a w st o (.val v false):=
 gj.pure h c iS fun _=>⟨hr,fun ho=>by simp at ho⟩
theorem gj.drawn {H:Hints} {o:Oper} {v:V} (h:Inv C.bN G lam a w st) (c:Value) (w':World) (hh:w'.heap=w.heap) (h1:w'.os=w.os) (h2:w'.tape=w.tape) (h3:w'.output=w.output)
  (iS:(execOp a.eval o).run P w=.ok (.value c) w') (hr:Rel G w v c):gj P C H G lam a w st o (.val v false):=
 ⟨c,w',G,iS,Ext.same hh h1 h2 h3,(h.same hh h1 h2 h3).clear _,fun _ _=>⟨hr.mono (Ext.same hh h1 h2 h3),fun ho=>by simp at ho⟩⟩
theorem Xi {op:BinOp} {t:TypeId} {x y:Operand} {k:IntKind} {m n:Int} {v:V} (h:F4 op k m n=some v):
  ∃c,(do eqGuard op t x y (.int k m) (.int k n);binOp op t (.int k m) (.int k n):Sem Value).run P w=.ok c w∧Rel G w v c:=by
 cases op<;>simp only[F4,Option.some.injEq,reduceCtorEq]at h
 case quo=>
  obtain⟨u,h1,h2⟩:=Option.bind_eq_some_iff.1 h
  have:=cL h1
  obtain rfl:=Option.some.inj h2
  refine⟨_,?_,.int _ _⟩
  simp[eqGuard,binOp,Op.intDiv,show ¬n=0 by simpa using this]
 case rem=>
  obtain⟨u,h1,h2⟩:=Option.bind_eq_some_iff.1 h
  have:=cL h1
  obtain rfl:=Option.some.inj h2
  refine⟨_,?_,.int _ _⟩
  simp[eqGuard,binOp,Op.intDiv,show ¬n=0 by simpa using this]
 all_goals
  subst h
  first
  |(refine⟨_,?_,.int _ _⟩;simp[eqGuard,binOp,Op.intArith,Op.intBits,Op.intCmp];done)
  |(refine⟨_,?_,.bool _⟩;simp[eqGuard,binOp,Op.intArith,Op.intBits,Op.intCmp];done)
theorem Xj {op:BinOp} {t:TypeId} {x y:Operand} {m n:ByteArray} {v:V} (h:F5 op m n=some v):
  ∃c,(do eqGuard op t x y (.string m) (.string n);binOp op t (.string m) (.string n):Sem Value).run P w=.ok c w∧Rel G w v c:=by
 cases op<;>simp only[F5,Option.some.injEq,reduceCtorEq]at h
 case add=>
  obtain⟨u,h1,h2⟩:=Option.bind_eq_some_iff.1 h
  have hg:=cL h1
  obtain rfl:=Option.some.inj h2
  have hg:=MH hg
  refine⟨.string (m++n),?_,.str _⟩
  have abM:IntKind.i64.max=9223372036854775807:=rfl
  have:¬(((m.size+n.size:Nat):Int)>IntKind.i64.max):=by rw[abM];omega
  simp[eqGuard,binOp,Op.stringOp,abM]
  omega
 all_goals
  subst h
  refine⟨_,?_,.bool _⟩
  simp[eqGuard,binOp,Op.stringOp]
end
end Go.Ab
end
section
namespace Go.Ab
def fX (G:Gh) (w:World) (cs:List V) (xs:List Value):Prop:=xs.length=cs.length∧∀(i:Nat) v x,cs[i]?=some v→xs[i]?=some x→Rel G w v x∧x.oneCell'=true
section
variable {P:Program} {C:Ctx} {G:Gh} {lam:Nat→Nat} {a:Act} {w:World} {st:St}
theorem Q0 (off:Nat) (vs:List Value):∀(k:Nat) (cells:Array Value),(vs.zipIdx k).foldl (fun cs (x:Value×Nat)=>cs.setIfInBounds (off+x.2) x.1) cells=ri cells (off+k) vs:=by
 induction vs with
 |nil=>intro k cells;rfl
 |cons v vs ih=>intro k cells;simp only[List.zipIdx_cons,List.foldl_cons,ri];rw[ih];rfl
theorem MP (off:Nat) (vs cells:Array Value):vs.zipIdx.foldl (fun cs (x:Value×Nat)=>cs.setIfInBounds (off+x.2) x.1) cells=ri cells off vs.toList:=by
 rw[←Array.foldl_toList,Array.toList_zipIdx,Q0];rfl
theorem vw {v:V} {c:Value} {ag:Bool} {n:Nat} (h:Rel G w v c) (hf:v.fits ag n=true):fX G w (kx v ag n) c.cells.toList∧c.cells.size=n∧(kx v ag n).length=n:=by
 rcases Cp h hf with⟨rfl,cs,xs,rfl,rfl,h1,h2⟩|⟨rfl,rfl,h1⟩
 ·cases h with
  |agg _ _ g1 g2 g3=>
   simp only[kx,if_true,Value.cells]
   refine⟨⟨by simp[h2],fun i v x hv hx=>?_⟩,by simp[h2],by simp⟩
   obtain⟨hi,hv⟩:=List.getElem?_eq_some_iff.1 hv
   simp only[List.length_map,List.length_range]at hi
   simp only[List.getElem_map,List.getElem_range,V.cell,List.getD_eq_getElem?_getD]at hv
   have aG:i<cs.length:=by omega
   rw[List.getElem?_eq_getElem aG]at hv
   simp only[Option.getD_some]at hv
   exact⟨g3 i v x (by rw[List.getElem?_eq_getElem aG,hv]) hx,g2 i x hx⟩
 ·have hc:c.cells=#[c]:=by cases c<;>simp_all [Value.cells,Value.oneCell']
  rw[hc]
  refine⟨⟨rfl,fun i v' x hv hx=>?_⟩,rfl,rfl⟩
  match i with
  |0=>
   simp[kx]at hv hx
   subst hv;subst hx
   exact⟨h,h1⟩
  |i+1=>simp[kx]at hv
theorem fX.MQ {cs:List V} {xs:Array Value} {vs:List V} {ys:List Value} {off:Nat} (h:fX G w cs xs.toList) (k:fX G w vs ys) (hl:off+vs.length≤cs.length):
  fX G w (cs.take off++vs++cs.drop (off+vs.length)) (ri xs off ys).toList:=by
 obtain⟨h1,h2⟩:=h
 obtain⟨k1,k2⟩:=k
 simp only[Array.length_toList]at h1
 refine⟨by simp;omega,fun i v x hv hx=>?_⟩
 simp only[Array.getElem?_toList]at hx
 rw[w8 _ _ _ _ (by omega)]at hx
 by_cases c1:i<off
 ·rw[if_neg (by omega)]at hx
  rw[List.append_assoc,List.getElem?_append_left (by simp;omega),List.getElem?_take_of_lt c1]at hv
  exact h2 i v x hv (by simpa using hx)
 ·by_cases c2:i<off+vs.length
  ·rw[if_pos (by omega)]at hx
   rw[List.getElem?_append_left (by simp;omega),List.getElem?_append_right (by simp;omega)]at hv
   simp only[List.length_take,Nat.min_eq_left (show off≤cs.length by omega)]at hv
   exact k2 _ v x hv hx
  ·rw[if_neg (by omega)]at hx
   rw[List.getElem?_append_right (by simp;omega),List.getElem?_drop]at hv
   simp only[List.length_append,List.length_take,Nat.min_eq_left (show off≤cs.length by omega)]at hv
   rw[show off+vs.length+(i - (off+vs.length))=i by omega]at hv
   exact h2 i v x hv (by simpa using hx)
def rC (cs:List V) (xs:List Value):Prop:=∀(i k:Nat) (e:TypeId) (x:Value),cs[i]?=some (.slice k e [])→xs[i]?=some x→PK x
theorem rC.MQ {cs:List V} {xs:Array Value} {vs:List V} {ys:List Value} {off:Nat} (h:rC cs xs.toList) (hv:∀(i k:Nat) (e:TypeId),vs[i]?≠some (.slice k e [])) (hx:xs.size=cs.length) (hy:ys.length=vs.length) (hl:off+vs.length≤cs.length):
  rC (cs.take off++vs++cs.drop (off+vs.length)) (ri xs off ys).toList:=by
 intro i k et x hc w7
 simp only[Array.getElem?_toList]at w7
 rw[w8 _ _ _ _ (by omega)]at w7
 by_cases c1:i<off
 ·rw[if_neg (by omega)]at w7
  rw[List.append_assoc,List.getElem?_append_left (by simp;omega),List.getElem?_take_of_lt c1]at hc
  exact h i k et x hc (by simpa using w7)
 ·by_cases c2:i<off+vs.length
  ·rw[List.getElem?_append_left (by simp;omega),List.getElem?_append_right (by simp;omega)]at hc
   exact absurd hc (hv _ k et)
  ·rw[if_neg (by omega)]at w7
   rw[List.getElem?_append_right (by simp;omega),List.getElem?_drop]at hc
   simp only[List.length_append,List.length_take,Nat.min_eq_left (show off≤cs.length by omega)]at hc
   rw[show off+vs.length+(i - (off+vs.length))=i by omega]at hc
   exact h i k et x hc (by simpa using w7)
theorem TN {au:List RV} {t:TypeId} {x:Operand} {v:V} (h:(match cf C au 0 x with|.val v _=>v.plain|_=>false)=true) (hv:vk C au t x=some v):v.plain=true:=by
 have TP:cf C au t x=cf C au 0 x∨∃v' o,cf C au 0 x=.val v' o∧v'.plain=false:=by
  cases x with
  |const c=>
   simp only[cf]
   split
   ·refine .inr ?_
    split
    ·split<;>exact⟨_,_,rfl,rfl⟩
    ·exact⟨_,_,rfl,rfl⟩
   ·exact .inl rfl
   ·exact .inl rfl
  |_=>exact .inl rfl
 rcases TP with hs|⟨v',o,hs,hp⟩
 ·rw[←hs]at h
  unfold vk at hv
  split at hv
  ·rename_i v' o hx
   obtain rfl:=Option.some.inj hv
   rw[hx]at h
   exact h
  ·simp at hv
 ·rw[hs]at h;simp only at h;rw[hp]at h;simp at h
theorem J9 {v:V} {ag:Bool} {n:Nat} (hp:v.plain=true) (hf:v.fits ag n=true) (i k:Nat) (e:TypeId):(kx v ag n)[i]?≠some (.slice k e []):=by
 cases ag with
 |true=>cases v<;>simp_all [V.plain,V.fits]
 |false=>
  simp only[kx,Bool.false_eq_true,if_false]
  match i with
  |0=>intro h;simp at h;subst h;simp[V.plain]at hp
  |i+1=>simp
theorem BM (h:Inv C.bN G lam a w st) (place:Nat→Option (Nat×Nat×TypeId)) (MR:Nat→Option (Nat×Nat)) (hp:∀i p,place i=some p→MR i=some (p.1,p.2.1)):
  ∀(parts:List (Nat×Operand)) (cs ta:List V) (xs:Array Value),qK C st.au place cs parts=some ta→fX G w cs xs.toList→
   ∃QQ:Array Value,Instr.fill MR xs (parts.map fun x=>(x.1,a.eval x.2))=some QQ∧fX G w ta QQ.toList∧ta.length=cs.length∧(jf C st.au parts=true→rC cs xs.toList→rC ta QQ.toList)
 |[],cs,ta,xs,hf,hc=>by
  simp only[qK,Option.some.injEq]at hf
  subst hf
  exact⟨xs,rfl,hc,rfl,fun _ h=>h⟩
 |(i,x)::rest,cs,ta,xs,hf,hc=>by
  simp only[qK,Option.bind_eq_some_iff]at hf
  obtain⟨p,E9,ti,ht,v,hv,u,hg,hf⟩:=hf
  have hg:=cL hg
  simp only[Bool.and_eq_true,decide_eq_true_eq]at hg
  have hr:=fW h hv
  obtain⟨k1,k2,k3⟩:=vw hr hg.1
  have hlen:=hc.1
  simp only[Array.length_toList]at hlen
  have jP:fX G w (cs.take p.1++kx v ti.agg p.2.1++cs.drop (p.1+p.2.1)) (ri xs p.1 (a.eval x).cells.toList).toList:=by
   have:=fX.MQ (off:=p.1) hc k1 (by rw[k3];exact hg.2)
   rw[k3]at this
   exact this
  obtain⟨QQ,e1,e2,e3,e4⟩:=BM h place MR hp rest _ ta _ hf jP
  refine⟨QQ,?_,e2,?_,fun yM ht=>?_⟩
  ·simp only[List.map_cons,Instr.fill,hp i p E9]
   rw[if_neg (by simp[k2];omega)]
   have:=MP p.1 (a.eval x).cells xs
   rw[this]
   exact e1
  ·rw[e3]
   simp[k3]
   omega
  ·simp only[jf,List.all_cons,Bool.and_eq_true]at yM
   refine e4 yM.2 ?_
   have:=rC.MQ (off:=p.1) (vs:=kx v ti.agg p.2.1) (ys:=(a.eval x).cells.toList) ht (J9 (TN yM.1 hv) hg.1) hlen (by simp[k2,k3]) (by rw[k3];exact hg.2)
   rw[k3]at this
   exact this
theorem HJ {k:Nat} {e:TypeId} {x:Value} (h:yW (.slice k e []) x=true):PK x:=by
 generalize hv:(V.slice k e [])=v at h
 unfold yW at h
 split at h<;>first|exact rfl|(cases hv;done)|trivial|(simp at h)
theorem wZ {t:TypeId} {i:TI} (h:Mw P t i) (hk:∀n,i.kind≠.tuple n) (G:Gh) (w:World):∃info z,P.info? t=some info∧info.zero=some z∧fX G w i.zero z.cells.toList∧i.zero.length=i.size∧rC i.zero z.cells.toList:=by
 rcases h.zero with⟨n,hn⟩|⟨info,z,h1,h2,h3,h4,h5⟩
 ·exact absurd hn (hk n)
 ·refine⟨info,z,h1,h2,⟨h3,fun j v x hv hx=>?_⟩,h4,fun j k et x hv hx=>HJ (h5 j _ x hv hx)⟩
  obtain⟨a1,_,a3⟩:=Cx (h5 j v x hv hx) G w
  exact⟨a1,a3⟩
theorem FW (parts:Array (Nat×Operand)) (f:Operand→Value):(parts.map fun(i,x)=>(i,f x)).toList=parts.toList.map fun x=>(x.1,f x.2):=by
 simp
end
end Go.Ab
end
