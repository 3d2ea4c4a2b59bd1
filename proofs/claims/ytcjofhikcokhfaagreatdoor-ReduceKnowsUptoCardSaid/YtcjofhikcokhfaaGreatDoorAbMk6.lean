/- AbMk6: printed by program: functions of the program as plain Lean, and the equations. -/
import Derived.Test.YtcjofhikcokhfaaGreatDoorAbMk0
set_option linter.unusedSimpArgs false
set_option linter.unusedVariables false
set_option linter.deprecated false
noncomputable section
set_option maxRecDepth 100000
namespace Go.Ab.Mk
open Go.Proofs Go.Ab
open List (getD)
open IntKind (wrap)
abbrev qi (α:Type):=V→ln (az→α)
def vE:af→qi RO→qi RO:=fun call bh c a d e f g h i j k o p q r s t b σ=>
 bif (decide (a<(b.length:Int)))then
 cB c fun b1=>
 bif b1 then
 bo a b<|
 aE call 45 (aM (xh b a)) σ 1 (fun u v=>
 bh (ae u) (bp a) d e f g h i j k o p q r s t b v)
 else
 aq c σ
 else
 aq c σ
def mR (call:af) (n:Nat):=eR (vE call)
def Oh:qi St:=fun a b c d e f g h i j k o p q r s t σ=>⟨[aU,cH 1,aU,aU,aU,gV a,bg b]++dd 28 [],[[],gW (dZ c d e f g h i j k o p q r s t)]++nn 33 [],σ⟩
def xk:af→Nat→pT RR:=fun call n k o p a b c d e f g h i j q r σ=>
 aE call 45 (aM (aC a b c d e)) σ 1 fun t u=>
 aE call 45 (aM (aC f g h i j)) u 1 fun v s=>
 cB (ae t) fun b7=>
 bif b7 then
 (mR call n n) (ae v) 0 k o p a b c d e f g h i j q r s
 else
 (mR call n n) (V.bool false) 0 k o p a b c d e f g h i j q r s
theorem FE (call:af) (n:Nat) (m:Nat):mR call n m=lq C zi call n 0 (pt 500) [] Oh m:=bn (fun F x=>by kernel_rfl) m
theorem xj{n a b c e f g i j k o p q s t u b0}:bS 44 [((dZ a b c e f g i j k o p q s t u),b0)] (xk (ah C) n a b c e f g i j k o p q s t u):=bV zi n (e:=by intro _;rw[xk,FE];kernel_rfl)
abbrev oz (α:Type):=Int→cM (az→α)
abbrev kW (α:Type):=Int→cM (az→α)
def sf:af→kW RO→kW RO:=fun call eU a d e f g b σ=>
 bif (decide (a<(b.length:Int)))then
 bo a b<|
 aE call 45 (aM (bJ b a)) σ 1 (fun h c=>
 cB (ae h) fun b4=>
 bif (!b4)then
 aq (V.bool false) c
 else
 eU (bp a) d e f g b c)
 else
 aq (V.bool true) σ
def jr (call:af) (n:Nat):=eR (sf call)
def K7:kW St:=fun a b c d e f σ=>⟨[aU,cH 1,aU,aU,aU,bg a]++dd 31 [],[[],gW (aC b c d e f)]++nn 35 [],σ⟩
def sg:af→kW RO→oz RO→oz RO:=fun call L1 bh a c d e b f σ=>
 bif (decide (a<(b.length:Int)))then
 bo a b<|
 aE call 73 (aF (V.agg [(ak b a 0),(ak b a 1),(ak b a 2)]) (aP 300)) σ 1 (fun h g=>
 bb (ae h) fun i4=>
 bif (decide (i4>300))then
 aq (V.bool false) g
 else
 bh (bp a) c d e b f g)
 else
 L1 0 c d e b f σ
def nL (call:af) (n:Nat):=eR fun r=>sg call (jr call n n) r
def K8:oz St:=fun a b c d e f σ=>⟨[aU,cH 1,aU,bg a]++dd 33 [],[[],gW (aC b c d e f)]++nn 35 [],σ⟩
def Gu:af→Nat→cM RR:=fun call n a b c d e σ=>
 (nL call n n) 0 a b c d e σ
theorem DA (call:af) (n:Nat) (m:Nat):jr call n m=lq C pS call n 2 (pt 116) [] K7 m:=bn (fun F x=>by kernel_rfl) m
theorem DB (call:af) (n:Nat) (m:Nat):nL call n m=lq C pS call n 0 (pt 52) [] K8 m:=bn (fun F x=>by rw[DA];kernel_rfl) m
theorem FF{n a b c e f b0}:bS 45 [((aC a b c e f),b0)] (Gu (ah C) n a b c e f):=bV pS n (e:=by intro _;rw[Gu,DB];kernel_rfl)
abbrev oC (α:Type):=uC (kd (az→α))
def lA:af→oC RO→oC RO:=fun call bh a e f b g h c σ=>
 bif (decide (a<(b.length:Int)))then
 bo a b<|
 bo a c<|
 aE call 46 (aF (V.agg [(ak b a 0),(ak b a 1),(ak b a 2)]) (V.agg [(ak c a 0),(ak c a 1),(ak c a 2)])) σ 1 (fun i d=>
 cB (ae i) fun b4=>
 bif (!b4)then
 aq (V.bool false) d
 else
 bh (bp a) e f b g h c d)
 else
 aq (V.bool true) σ
def jx (call:af) (n:Nat):=eR (lA call)
def K9:oC St:=fun a b c d e f g σ=>⟨[aU,aU,cH 2,cH 3,aU,bg a]++dd 42 [],[[],[],gW (bU b c d),gW (bU e f g)]++nn 44 [],σ⟩
def kL:af→Nat→kd (kd RR):=fun call n a b c d e f σ=>
 bif (a != d)then
 aq (V.bool false) σ
 else
 bif (!(b.toList==e.toList))then
 aq (V.bool false) σ
 else
 bif ((c.length:Int) != (f.length:Int))then
 aq (V.bool false) σ
 else
 (jx call n n) 0 a b c d e f σ
theorem DC (call:af) (n:Nat) (m:Nat):jx call n m=lq C vI call n 0 (pt 116) [] K9 m:=bn (fun F x=>by kernel_rfl) m
theorem iV{n a b c e f g b0 b1}:bS 46 [((bU a b c),b0),((bU e f g),b1)] (kL (ah C) n a b c e f g):=bV vI n (e:=by intro _;rw[kL,DC];kernel_rfl)
def ZK:af→Nat→kd (kd RR):=fun call n a b c d e f σ=>
 aE call 74 (aF (bU a b c) (bU d e f)) σ 1 fun h i=>
 aE call 74 (aF (bU d e f) (bU a b c)) i 1 fun j g=>
 cB (ae h) fun b7=>
 bif b7 then
 aq (ae j) g
 else
 aq (V.bool false) g
theorem RE{n a b c e f g b0 b1}:bS 47 [((bU a b c),b0),((bU e f g),b1)] (ZK (ah C) n a b c e f g):=bV Uz n
abbrev qj (α:Type):=Nat→LL→iF (az→α)
def mQ:af→qj RO→qj RO:=fun call bh c d f g σ=>
 cj σ 202 c 2 fun m1=>
 bb m1 fun i2=>
 bif (i2==0)then
 aE call 112 (aM (V.ptr 202 c 0)) σ 3 (fun h e=>
 (V.asBool (getD h 2 bZ).1).bind fun b6=>
 bif b6 then
 dG (ae h) fun s7=>
 bif (s7.toList==(ByteArray.mk #[]).toList)then
 cq (V.slice 15 56 d) (Fk 0 0) e
 else
 aE call 113 (aM (V.ptr 202 c 0)) e 1 (fun a i=>
 bQ (ae a) 15<|
 iz d<|
 bh c (d++[[V.cell (ae a) 0,V.cell (ae a) 1,V.cell (ae a) 2,V.cell (ae a) 3,V.cell (ae a) 4,V.cell (ae a) 5,V.cell (ae a) 6,V.cell (ae a) 7,V.cell (ae a) 8,V.cell (ae a) 9,V.cell (ae a) 10,V.cell (ae a) 11,V.cell (ae a) 12,V.cell (ae a) 13,V.cell (ae a) 14]]) f g i)
 else
 aE call 113 (aM (V.ptr 202 c 0)) e 1 fun b j=>
 bQ (ae b) 15<|
 iz d<|
 bh c (d++[[V.cell (ae b) 0,V.cell (ae b) 1,V.cell (ae b) 2,V.cell (ae b) 3,V.cell (ae b) 4,V.cell (ae b) 5,V.cell (ae b) 6,V.cell (ae b) 7,V.cell (ae b) 8,V.cell (ae b) 9,V.cell (ae b) 10,V.cell (ae b) 11,V.cell (ae b) 12,V.cell (ae b) 13,V.cell (ae b) 14]]) f g j)
 else
 (bu σ (V.ptr 202 c 2) true 2).bind fun m14=>
 bQ m14 2<|
 some (.ret [(V.slice 15 56 [],true),((yZ m14),false)],σ)
def kz (call:af) (n:Nat):=eR (mQ call)
def Oi:qj St:=fun a b c d σ=>⟨[aU,aU,aU,cH 3,gV (V.ptr 202 a 0),KG (V.slice 15 56 b)]++dd 36 [],[[],[],[],gW (Fk c d)]++nn 38 [],σ⟩
def La:af→Nat→ByteArray→RR:=fun call n a σ=>
 (kz call n n) (List.length σ) [] 0 0 (σ++[[(V.str a,false),((aP 0),false),((aP 0),false),((aP 0),false)]])
theorem FG (call:af) (n:Nat) (m:Nat):kz call n m=lq C zj call n 0 (pt 120) [] Oi m:=bn (fun F x=>by kernel_rfl) m
theorem HR{n a b0}:bS 71 [(V.str a,b0)] (La (ah C) n a):=bV zj n (e:=by intro _;rw[La,FG];kernel_rfl)
def Yu:af→Nat→Nat→pT (Int→RR):=fun call n b c d e f g h i j k o p q r s t v σ=>
 bif (c==3)then
 aE call 114 (bH (V.ptr 49 b 0) (dZ c d e f g h i j k o p q r s t) (aP v)) σ 3 (fun a w=>
 bQ (aH a) 5<|
 (V.asInt (getD a 2 bZ).1 .i64).bind fun i4=>
 bif (i4==0)then
 (fk w (V.ptr 49 b 0)).bind fun m5=>
 jq (ae a) false 1<|
 (V.kj m5.1 21 58).bind fun l6=>
 dS ((!V.isFull m5.1||decide (0<1))&&room (List.length l6+1))<|
 (aV m5.2 (V.ptr 49 b 0) [(V.slice 21 58 (l6++[[V.int .i64 c,V.str d,V.slice 1 9 e,V.int .i64 f,V.int .i64 g,V.str h,V.slice 3 120 i,V.slice 5 53 j,V.int .i64 k,V.int .i64 o,V.str p,V.slice 3 120 q,V.slice 5 53 r,V.int .i64 s,V.slice 6 60 t,(ae a),V.cell (aH a) 0,V.cell (aH a) 1,V.cell (aH a) 2,V.cell (aH a) 3,V.cell (aH a) 4]]),true)]).bind fun m7=>
 aq ((getD a 2 bZ).1) m7
 else
 aq ((getD a 2 bZ).1) w)
 else
 aE call 115 (bH (V.ptr 49 b 0) (dZ c d e f g h i j k o p q r s t) (aP v)) σ 1 fun u x=>
 bb (ae u) fun i11=>
 bif (i11==0)then
 (fk x (V.ptr 49 b 0)).bind fun m12=>
 (V.kj m12.1 21 58).bind fun UU=>
 dS ((!V.isFull m12.1||decide (0<1))&&room (List.length UU+1))<|
 (aV m12.2 (V.ptr 49 b 0) [((V.slice 21 58 (UU++[[V.int .i64 c,V.str d,V.slice 1 9 e,V.int .i64 f,V.int .i64 g,V.str h,V.slice 3 120 i,V.slice 5 53 j,V.int .i64 k,V.int .i64 o,V.str p,V.slice 3 120 q,V.slice 5 53 r,V.int .i64 s,V.slice 6 60 t,V.slice 1 9 [],(aP 0),(aP 0),V.str ⟨#[]⟩,V.slice 3 120 [],V.slice 5 53 []]])),true)]).bind fun m14=>
 aq (ae u) m14
 else
 aq (ae u) x
theorem Vp{n a b c e f g i j k o p q s t u v w b0 b1 b2}:bS 72 [(V.ptr 49 a 0,b0),((dZ b c e f g i j k o p q s t u v),b1),(V.int .i64 w,b2)] (Yu (ah C) n a b c e f g i j k o p q s t u v w):=bV Zy n
abbrev nh (α:Type):=iF (uC (az→α))
def jU:af→nh RO→nh RO:=fun call bh d c a e f b σ=>
 bif (decide (a<(b.length:Int)))then
 bif (decide (c≤d))then
 bo a b<|
 aE call 73 (aF (V.agg [(ak b a 0),(ak b a 1),(ak b a 2)]) (aP (wrap .i64 (d - c)))) σ 1 (fun g h=>
 bb (ae g) fun i4=>
 bh d (wrap .i64 (c+i4)) (bp a) e f b h)
 else
 aq (aP c) σ
 else
 aq (aP c) σ
def iG (call:af) (n:Nat):=eR (jU call)
def IY:nh St:=fun a b c d e f σ=>⟨[aU,bg a,cH 2,aU,aU,bg b,bg c]++dd 26 [],[[],[],gW (bU d e f)]++nn 30 [],σ⟩
def DE:af→Nat→kd (Int→RR):=fun call n a b c d σ=>
 (iG call n n) d 1 0 a b c σ
theorem BF (call:af) (n:Nat) (m:Nat):iG call n m=lq C rQ call n 0 (pt 116) [] IY m:=bn (fun F x=>by kernel_rfl) m
theorem sh{n a b c e b0 b1}:bS 73 [((bU a b c),b0),(V.int .i64 e,b1)] (DE (ah C) n a b c e):=bV rQ n (e:=by intro _;rw[DE,BF];kernel_rfl)
end Go.Ab.Mk
end
noncomputable section
set_option maxRecDepth 100000
namespace Go.Ab.Mk
open Go.Proofs Go.Ab
open List (getD)
open IntKind (wrap)
abbrev DF (α:Type):=V→eh (uC (kd (az→α)))
abbrev o6 (α:Type):=V→eh (uC (kd (az→α)))
abbrev xJ (α:Type):=V→LL→iF (eh (uC (kd (az→α))))
def Oj:af→o6 RO→xJ RO→xJ RO:=fun call eU rq a b k o d c p e f g h i j σ=>
 cz a 1 9 fun l1=>
 bif (decide (p<(l1.length:Int)))then
 bo (Int.tmod c 3) b<|
 jq (ak b (Int.tmod c 3) 0) false 1<|
 iz d<|
 rq a b k o (d++[[ak b (Int.tmod c 3) 0]]) (wrap .i64 (Int.tdiv c 3)) (bp p) e f g h i j σ
 else
 aE call 118 (bH (bU e f g) a (V.slice 1 3 d)) σ 1 fun r s=>
 aE call 118 (bH (bU h i j) a (V.slice 1 3 d)) s 1 fun t q=>
 bb (ae r) fun i8=>
 bb (ae t) fun i9=>
 bif (decide (i8>i9))then
 aq (V.bool false) q
 else
 eU a b k (bp o) e f g h i j q
def zJ (call:af) (n:Nat) (eU:o6 RO):=eR (Oj call eU)
def aaS:xJ St:=fun a b c d e f g h i j k o p σ=>⟨[aU,aU,cH 2,cH 3,aU,KG a,aU,KG (V.slice 1 3 b),bg c,aU,bg d,KG (V.slice 1 3 e),bg f,bg g]++dd 51 [],[[],[],gW (bU h i j),gW (bU k o p)]++nn 61 [],σ⟩
def Ok:af→xJ RO→o6 RO→o6 RO:=fun call L2 eU c d b a e f g h i j σ=>
 bif (decide (a<b))then
 L2 c d b a [] a 0 e f g h i j σ
 else
 aq (V.bool true) σ
def wi (call:af) (n:Nat):=eR fun r=>Ok call (zJ call n r n) r
def Vq:o6 St:=fun a b c d e f g h i j σ=>⟨[aU,aU,cH 2,cH 3,aU,KG a,aU,KG (V.slice 1 3 b),bg c,aU,bg d]++dd 54 [],[[],[],gW (bU e f g),gW (bU h i j)]++nn 61 [],σ⟩
def Ol:af→o6 RO→DF RO→DF RO:=fun call L1 bh a b c d e f g h i j σ=>
 cz a 1 9 fun l1=>
 bif (decide (d<(l1.length:Int)))then
 bh a b (wrap .i64 (c*3)) (bp d) e f g h i j σ
 else
 L1 a b c 0 e f g h i j σ
def DG (call:af) (n:Nat):=eR fun r=>Ol call (wi call n n) r
def aaT:DF St:=fun a b c d e f g h i j σ=>⟨[aU,aU,cH 2,cH 3,aU,KG a,aU,KG (V.slice 1 3 b),bg c,bg d]++dd 55 [],[[],[],gW (bU e f g),gW (bU h i j)]++nn 61 [],σ⟩
def aaU:af→Nat→kd (kd RR):=fun call n a b c d e f σ=>
 aE call 116 [((bU a b c),false),(V.slice 1 9 [],true)] σ 1 fun g i=>
 AU g<|
 aE call 116 [((bU d e f),false),((ae g),true)] i 1 fun h j=>
 AU h<|
 aE call 117 (aM (bU a b c)) j 1 fun k o=>
 bb (ae k) fun i10=>
 aE call 117 (aM (bU d e f)) o 1 fun p q=>
 bb (ae p) fun i14=>
 (DG call n n) (ae h) [[(aP 0)],[(aP 1)],[(aP (wrap .i64 ((wrap .i64 (2+i10))+i14)))]] 1 0 a b c d e f q
theorem RF (call:af) (n:Nat) (F1:St→RO) (m:Nat):zJ call n (mX.c fun x=>F1 (mX.u Vq x)) m=lq C KA call n 4 (pt 1042740) [(2,F1)] aaS m:=bn (fun F x=>by kernel_rfl) m
theorem RG (call:af) (n:Nat) (m:Nat):wi call n m=lq C KA call n 2 (pt 2036) [] Vq m:=bn (fun F x=>by rw[RF call n F];kernel_rfl) m
theorem RH (call:af) (n:Nat) (m:Nat):DG call n m=lq C KA call n 0 (pt 1012) [] aaT m:=bn (fun F x=>by rw[RG];kernel_rfl) m
theorem Vr{n a b c e f g b0 b1}:bS 74 [((bU a b c),b0),((bU e f g),b1)] (aaU (ah C) n a b c e f g):=bV KA n (e:=by intro _;rw[aaU,RH];kernel_rfl)
abbrev wj (α:Type):=Nat→V→az→α
abbrev qk (α:Type):=Nat→V→Int→az→α
abbrev qm (α:Type):=Nat→V→iF (az→α)
def DH:af→qk RO→qk RO:=fun call eU c b a σ=>
 cj σ 202 c 0 fun m1=>
 dG m1 fun s2=>
 bif (decide (a<(s2.size:Int)))then
 cj σ 202 c 0 fun m3=>
 dG m3 fun s4=>
 dS (decide (0≤a)&&decide (a<s4.size))<|
 aE call 159 (aF (V.int .u8 (av s4 a.toNat)) (V.bool false)) σ 1 (fun e d=>
 cB (ae e) fun b8=>
 bif b8 then
 eU c b (bp a) d
 else
 bb b fun i9=>
 bif (decide ((wrap .i64 (a - i9))>40))then
 dc (V.str ⟨#[]⟩) b (V.bool false) d
 else
 cj d 202 c 0 fun m10=>
 dG m10 fun s11=>
 bb b fun i12=>
 dS (decide (0≤i12)&&decide (i12≤a)&&decide (a≤s11.size))<|
 dc (V.str (s11.extract i12.toNat a.toNat)) b (V.bool true) d)
 else
 bb b fun i13=>
 bif (decide ((wrap .i64 (a - i13))>40))then
 dc (V.str ⟨#[]⟩) b (V.bool false) σ
 else
 cj σ 202 c 0 fun m14=>
 dG m14 fun s15=>
 bb b fun i16=>
 dS (decide (0≤i16)&&decide (i16≤a)&&decide (a≤s15.size))<|
 dc (V.str (s15.extract i16.toNat a.toNat)) b (V.bool true) σ
def ni (call:af) (n:Nat):=eR (DH call)
def Vs:qk St:=fun a b c σ=>⟨[gV (V.ptr 202 a 0)]++dd 4 ([gV b,bg c]++dd 170 []),nn 177 [],σ⟩
def DI:af→qm RO→qm RO:=fun call rq c b a d σ=>
 cj σ 202 c 0 fun m1=>
 dG m1 fun s2=>
 bif (decide (a<(s2.size:Int)))then
 cj σ 202 c 0 fun m3=>
 dG m3 fun s4=>
 dS (decide (0≤a)&&decide (a<s4.size))<|
 bif (decide ((av s4 a.toNat)≥48))then
 cj σ 202 c 0 fun m5=>
 dG m5 fun s6=>
 dS (decide (0≤a)&&decide (a<s6.size))<|
 bif (decide ((av s6 a.toNat)≤57))then
 rq c b (bp a) d σ
 else
 bif (d==35)then
 bb b fun i7=>
 bif (a==(bp i7))then
 dc (V.str ⟨#[]⟩) b (V.bool false) σ
 else
 bif (decide ((wrap .i64 (a - (bp i7)))>5))then
 dc (V.str ⟨#[]⟩) b (V.bool false) σ
 else
 bif (decide ((wrap .i64 (a - (bp i7)))>1))then
 cj σ 202 c 0 fun m8=>
 dG m8 fun s9=>
 dS (decide (0≤(bp i7))&&decide ((bp i7)<s9.size))<|
 bif ((av s9 (Int.toNat (bp i7)))==48)then
 dc (V.str ⟨#[]⟩) b (V.bool false) σ
 else
 cj σ 202 c 0 fun m10=>
 dG m10 fun s11=>
 bb b fun i12=>
 dS (decide (0≤i12)&&decide (i12≤a)&&decide (a≤s11.size))<|
 dc (V.str (s11.extract i12.toNat a.toNat)) b (V.bool true) σ
 else
 cj σ 202 c 0 fun m13=>
 dG m13 fun s14=>
 bb b fun i15=>
 dS (decide (0≤i15)&&decide (i15≤a)&&decide (a≤s14.size))<|
 dc (V.str (s14.extract i15.toNat a.toNat)) b (V.bool true) σ
 else
 bb b fun i16=>
 bif (a==i16)then
 dc (V.str ⟨#[]⟩) b (V.bool false) σ
 else
 bb b fun i17=>
 bif (decide ((wrap .i64 (a - i17))>5))then
 dc (V.str ⟨#[]⟩) b (V.bool false) σ
 else
 bb b fun i18=>
 bif (decide ((wrap .i64 (a - i18))>1))then
 cj σ 202 c 0 fun m19=>
 dG m19 fun s20=>
 bb b fun i21=>
 dS (decide (0≤i21)&&decide (i21<s20.size))<|
 bif ((av s20 i21.toNat)==48)then
 dc (V.str ⟨#[]⟩) b (V.bool false) σ
 else
 cj σ 202 c 0 fun m22=>
 dG m22 fun ZL=>
 bb b fun i24=>
 dS (decide (0≤i24)&&decide (i24≤a)&&decide (a≤ZL.size))<|
 dc (V.str (ZL.extract i24.toNat a.toNat)) b (V.bool true) σ
 else
 cj σ 202 c 0 fun Yi=>
 dG Yi fun s26=>
 bb b fun i27=>
 dS (decide (0≤i27)&&decide (i27≤a)&&decide (a≤s26.size))<|
 dc (V.str (s26.extract i27.toNat a.toNat)) b (V.bool true) σ
 else
 bif (d==35)then
 bb b fun i28=>
 bif (a==(bp i28))then
 dc (V.str ⟨#[]⟩) b (V.bool false) σ
 else
 bif (decide ((wrap .i64 (a - (bp i28)))>5))then
 dc (V.str ⟨#[]⟩) b (V.bool false) σ
 else
 bif (decide ((wrap .i64 (a - (bp i28)))>1))then
 cj σ 202 c 0 fun m29=>
 dG m29 fun s30=>
 dS (decide (0≤(bp i28))&&decide ((bp i28)<s30.size))<|
 bif ((av s30 (Int.toNat (bp i28)))==48)then
 dc (V.str ⟨#[]⟩) b (V.bool false) σ
 else
 cj σ 202 c 0 fun m31=>
 dG m31 fun s32=>
 bb b fun i33=>
 dS (decide (0≤i33)&&decide (i33≤a)&&decide (a≤s32.size))<|
 dc (V.str (s32.extract i33.toNat a.toNat)) b (V.bool true) σ
 else
 cj σ 202 c 0 fun m34=>
 dG m34 fun s35=>
 bb b fun i36=>
 dS (decide (0≤i36)&&decide (i36≤a)&&decide (a≤s35.size))<|
 dc (V.str (s35.extract i36.toNat a.toNat)) b (V.bool true) σ
 else
 bb b fun i37=>
 bif (a==i37)then
 dc (V.str ⟨#[]⟩) b (V.bool false) σ
 else
 bb b fun i38=>
 bif (decide ((wrap .i64 (a - i38))>5))then
 dc (V.str ⟨#[]⟩) b (V.bool false) σ
 else
 bb b fun i39=>
 bif (decide ((wrap .i64 (a - i39))>1))then
 cj σ 202 c 0 fun m40=>
 dG m40 fun s41=>
 bb b fun i42=>
 dS (decide (0≤i42)&&decide (i42<s41.size))<|
 bif ((av s41 i42.toNat)==48)then
 dc (V.str ⟨#[]⟩) b (V.bool false) σ
 else
 cj σ 202 c 0 fun m43=>
 dG m43 fun s44=>
 bb b fun i45=>
 dS (decide (0≤i45)&&decide (i45≤a)&&decide (a≤s44.size))<|
 dc (V.str (s44.extract i45.toNat a.toNat)) b (V.bool true) σ
 else
 cj σ 202 c 0 fun m46=>
 dG m46 fun s47=>
 bb b fun i48=>
 dS (decide (0≤i48)&&decide (i48≤a)&&decide (a≤s47.size))<|
 dc (V.str (s47.extract i48.toNat a.toNat)) b (V.bool true) σ
 else
 bif (d==35)then
 bb b fun i49=>
 bif (a==(bp i49))then
 dc (V.str ⟨#[]⟩) b (V.bool false) σ
 else
 bif (decide ((wrap .i64 (a - (bp i49)))>5))then
 dc (V.str ⟨#[]⟩) b (V.bool false) σ
 else
 bif (decide ((wrap .i64 (a - (bp i49)))>1))then
 cj σ 202 c 0 fun m50=>
 dG m50 fun s51=>
 dS (decide (0≤(bp i49))&&decide ((bp i49)<s51.size))<|
 bif ((av s51 (Int.toNat (bp i49)))==48)then
 dc (V.str ⟨#[]⟩) b (V.bool false) σ
 else
 cj σ 202 c 0 fun m52=>
 dG m52 fun s53=>
 bb b fun i54=>
 dS (decide (0≤i54)&&decide (i54≤a)&&decide (a≤s53.size))<|
 dc (V.str (s53.extract i54.toNat a.toNat)) b (V.bool true) σ
 else
 cj σ 202 c 0 fun m55=>
 dG m55 fun s56=>
 bb b fun i57=>
 dS (decide (0≤i57)&&decide (i57≤a)&&decide (a≤s56.size))<|
 dc (V.str (s56.extract i57.toNat a.toNat)) b (V.bool true) σ
 else
 bb b fun i58=>
 bif (a==i58)then
 dc (V.str ⟨#[]⟩) b (V.bool false) σ
 else
 bb b fun i59=>
 bif (decide ((wrap .i64 (a - i59))>5))then
 dc (V.str ⟨#[]⟩) b (V.bool false) σ
 else
 bb b fun i60=>
 bif (decide ((wrap .i64 (a - i60))>1))then
 cj σ 202 c 0 fun m61=>
 dG m61 fun s62=>
 bb b fun i63=>
 dS (decide (0≤i63)&&decide (i63<s62.size))<|
 bif ((av s62 i63.toNat)==48)then
 dc (V.str ⟨#[]⟩) b (V.bool false) σ
 else
 cj σ 202 c 0 fun m64=>
 dG m64 fun s65=>
 bb b fun i66=>
 dS (decide (0≤i66)&&decide (i66≤a)&&decide (a≤s65.size))<|
 dc (V.str (s65.extract i66.toNat a.toNat)) b (V.bool true) σ
 else
 cj σ 202 c 0 fun m67=>
 dG m67 fun s68=>
 bb b fun i69=>
 dS (decide (0≤i69)&&decide (i69≤a)&&decide (a≤s68.size))<|
 dc (V.str (s68.extract i69.toNat a.toNat)) b (V.bool true) σ
def nj (call:af) (n:Nat):=eR (DI call)
def Vt:qm St:=fun a b c d σ=>⟨[gV (V.ptr 202 a 0)]++dd 4 ([gV b,bg c,gV (V.int .u8 d)]++dd 169 []),nn 177 [],σ⟩
def DJ:af→qk RO→qm RO→wj RO→wj RO:=fun call L1 L2 bh b a σ=>
 cj σ 202 b 0 fun m1=>
 dG m1 fun s2=>
 bb a fun i3=>
 bif (decide (i3<(s2.size:Int)))then
 cj σ 202 b 0 fun m4=>
 dG m4 fun s5=>
 bb a fun i6=>
 dS (decide (0≤i6)&&decide (i6<s5.size))<|
 bif ((av s5 i6.toNat)==32)then
 bb a fun i7=>
 bh b (aP (bp i7)) σ
 else
 cj σ 202 b 0 fun m8=>
 dG m8 fun s9=>
 bb a fun i10=>
 dS (decide (0≤i10)&&decide (i10<s9.size))<|
 bif ((av s9 i10.toNat)==9)then
 bb a fun i11=>
 bh b (aP (bp i11)) σ
 else
 cj σ 202 b 0 fun m12=>
 dG m12 fun ZM=>
 bb a fun i14=>
 dS (decide (0≤i14)&&decide (i14<ZM.size))<|
 bif ((av ZM i14.toNat)==10)then
 bb a fun i15=>
 bh b (aP (bp i15)) σ
 else
 cj σ 202 b 0 fun m16=>
 dG m16 fun s17=>
 bb a fun i18=>
 bif (i18==(s17.size:Int))then
 dc (V.str ⟨#[]⟩) a (V.bool true) σ
 else
 bb a fun i19=>
 cj σ 202 b 0 fun m20=>
 dG m20 fun Yv=>
 bb a fun i22=>
 dS (decide (0≤i22)&&decide (i22<Yv.size))<|
 aE call 159 (aF (V.int .u8 (av Yv i22.toNat)) (V.bool true)) σ 1 (fun e c=>
 bif ((av Yv i22.toNat)==40)then
 cj c 202 b 0 fun m26=>
 dG m26 fun s27=>
 bb a fun i28=>
 dS (decide (0≤i28)&&decide (i28≤(bp i19))&&decide ((bp i19)≤s27.size))<|
 dc (V.str (s27.extract i28.toNat (Int.toNat (bp i19)))) a (V.bool true) c
 else
 bif ((av Yv i22.toNat)==41)then
 cj c 202 b 0 fun m29=>
 dG m29 fun s30=>
 bb a fun i31=>
 dS (decide (0≤i31)&&decide (i31≤(bp i19))&&decide ((bp i19)≤s30.size))<|
 dc (V.str (s30.extract i31.toNat (Int.toNat (bp i19)))) a (V.bool true) c
 else
 cB (ae e) fun b32=>
 bif b32 then
 L1 b a (bp i19) c
 else
 bif ((av Yv i22.toNat)==35)then
 L2 b a (bp i19) (av Yv i22.toNat) c
 else
 bif (decide ((av Yv i22.toNat)≥48))then
 bif (decide ((av Yv i22.toNat)≤57))then
 L2 b a (bp i19) (av Yv i22.toNat) c
 else
 dc (V.str ⟨#[]⟩) a (V.bool false) c
 else
 dc (V.str ⟨#[]⟩) a (V.bool false) c)
 else
 cj σ 202 b 0 fun m33=>
 dG m33 fun Yg=>
 bb a fun i35=>
 bif (i35==(Yg.size:Int))then
 dc (V.str ⟨#[]⟩) a (V.bool true) σ
 else
 bb a fun i36=>
 cj σ 202 b 0 fun m37=>
 dG m37 fun Yw=>
 bb a fun i39=>
 dS (decide (0≤i39)&&decide (i39<Yw.size))<|
 aE call 159 (aF (V.int .u8 (av Yw i39.toNat)) (V.bool true)) σ 1 fun f d=>
 bif ((av Yw i39.toNat)==40)then
 cj d 202 b 0 fun m43=>
 dG m43 fun s44=>
 bb a fun i45=>
 dS (decide (0≤i45)&&decide (i45≤(bp i36))&&decide ((bp i36)≤s44.size))<|
 dc (V.str (s44.extract i45.toNat (Int.toNat (bp i36)))) a (V.bool true) d
 else
 bif ((av Yw i39.toNat)==41)then
 cj d 202 b 0 fun m46=>
 dG m46 fun s47=>
 bb a fun i48=>
 dS (decide (0≤i48)&&decide (i48≤(bp i36))&&decide ((bp i36)≤s47.size))<|
 dc (V.str (s47.extract i48.toNat (Int.toNat (bp i36)))) a (V.bool true) d
 else
 cB (ae f) fun b49=>
 bif b49 then
 L1 b a (bp i36) d
 else
 bif ((av Yw i39.toNat)==35)then
 L2 b a (bp i36) (av Yw i39.toNat) d
 else
 bif (decide ((av Yw i39.toNat)≥48))then
 bif (decide ((av Yw i39.toNat)≤57))then
 L2 b a (bp i36) (av Yw i39.toNat) d
 else
 dc (V.str ⟨#[]⟩) a (V.bool false) d
 else
 dc (V.str ⟨#[]⟩) a (V.bool false) d
def xK (call:af) (n:Nat):=eR fun r=>DJ call (ni call n n) (nj call n n) r
def Vu:wj St:=fun a b σ=>⟨[gV (V.ptr 202 a 0)]++dd 4 ([gV b]++dd 171 []),nn 177 [],σ⟩
def Om:af→Nat→Nat→RR:=fun call n a σ=>
 cj σ 202 a 1 fun m1=>
 (xK call n n) a m1 σ
theorem Lb (call:af) (n:Nat) (m:Nat):ni call n m=lq C xt call n 3 (pt 130672) [] Vs m:=bn (fun F x=>by kernel_rfl) m
theorem Lc (call:af) (n:Nat) (m:Nat):nj call n m=lq C xt call n 5 (pt 522736) [] Vt m:=bn (fun F x=>by kernel_rfl) m
theorem Ld (call:af) (n:Nat) (m:Nat):xK call n m=lq C xt call n 0 (pt 56) [] Vu m:=bn (fun F x=>by rw[Lb,Lc];kernel_rfl) m
theorem On{n a b0}:bS 112 [(V.ptr 202 a 0,b0)] (Om (ah C) n a):=bV xt n (e:=by intro _;rw[Om,Ld];kernel_rfl)
end Go.Ab.Mk
end
noncomputable section
set_option maxRecDepth 100000
namespace Go.Ab.Mk
open Go.Proofs Go.Ab
open List (getD)
open IntKind (wrap)
abbrev zK (α:Type):=Nat→pT (Int→V→LL→aaV (az→α))
abbrev ua (α:Type):=Nat→pT (Int→V→LL→V→V→V→V→V→V→V→V→V→V→V→LL→az→α)
abbrev ub (α:Type):=Nat→pT (Int→V→LL→V→V→V→V→V→cM (V→LL→az→α))
def IZ:af→ua RO→ua RO:=fun call eU a w x y z a0 a1 a2 a3 a4 a5 a6 a7 a8 a9 c0 c e f g h i j k o p q r s t d σ=>
 bif (c==3)then
 cj σ 202 a 2 fun m1=>
 bb m1 fun i2=>
 bif (i2==0)then
 aE call 164 (aM (V.ptr 202 a 0)) σ 1 (fun c1 u=>
 dG (ae c1) fun s6=>
 bif (s6.toList==(ByteArray.mk #[40]).toList)then
 aE call 160 (aF (V.ptr 202 a 0) (V.str ⟨#[40]⟩)) u 0 (fun d0 c2=>
 aE call 160 (aF (V.ptr 202 a 0) (V.str ⟨#[99,116,111,114]⟩)) c2 0 fun d1 c3=>
 aE call 163 (aM (V.ptr 202 a 0)) c3 1 fun v c4=>
 jq (ae v) false 1<|
 aE call 166 (aM (V.ptr 202 a 0)) c4 1 fun b c5=>
 bQ (ae b) 5<|
 aE call 160 (aF (V.ptr 202 a 0) (V.str ⟨#[41]⟩)) c5 0 fun d2 c6=>
 iz d<|
 eU a w x y z a0 a1 a2 a3 a4 a5 a6 a7 a8 a9 c0 c e f g h i j k o p q r s t (d++[[(ae v),V.cell (ae b) 0,V.cell (ae b) 1,V.cell (ae b) 2,V.cell (ae b) 3,V.cell (ae b) 4]]) c6)
 else
 aE call 160 (aF (V.ptr 202 a 0) (V.str ⟨#[41]⟩)) u 0 fun d3 c7=>
 aq (V.agg [V.int .i64 c,e,V.slice 1 9 f,g,h,i,j,k,o,p,q,r,s,t,V.slice 6 60 d]) c7)
 else
 aE call 160 (aF (V.ptr 202 a 0) (V.str ⟨#[41]⟩)) σ 0 (fun d4 c8=>
 aq (V.agg [V.int .i64 c,e,V.slice 1 9 f,g,h,i,j,k,o,p,q,r,s,t,V.slice 6 60 d]) c8)
 else
 aE call 160 (aF (V.ptr 202 a 0) (V.str ⟨#[41]⟩)) σ 0 fun d5 c9=>
 aq (V.agg [V.int .i64 c,e,V.slice 1 9 f,g,h,i,j,k,o,p,q,r,s,t,V.slice 6 60 d]) c9
def ud (call:af) (n:Nat):=eR (IZ call)
def Yx:ua St:=fun a b c d e f g h i j k o p q r s t u v w x y z a0 a1 a2 a3 a4 a5 a6 a7 σ=>⟨[gV (V.ptr 202 a 0),aU,cH 2,aU,aU,aU,cH 6]++dd 139 [],[[],[],[(V.int .i64 b,false),(V.str c,false),(V.slice 1 9 d,true),(V.int .i64 e,false),(V.int .i64 f,false),(V.str g,false),(V.slice 3 120 h,true),(V.slice 5 53 i,true),(V.int .i64 j,false),(V.int .i64 k,false),(V.str o,false),(V.slice 3 120 p,true),(V.slice 5 53 q,true),(V.int .i64 r,false),(V.slice 6 60 s,true)],[],[],[],[(V.int .i64 t,false),(u,false),(V.slice 1 9 v,true),(w,false),(x,false),(y,false),(z,false),(a0,false),(a1,false),(a2,false),(a3,false),(a4,false),(a5,false),(a6,false),(V.slice 6 60 a7,true)]]++nn 139 [],σ⟩
def xL:af→ub RO→ub RO:=fun call rq a w x y z a0 a1 a2 a3 a4 a5 a6 a7 a8 a9 c0 c e f g h i j k o p q r s t d σ=>
 bif (c==3)then
 cj σ 202 a 2 fun m1=>
 bb m1 fun i2=>
 bif (i2==0)then
 aE call 164 (aM (V.ptr 202 a 0)) σ 1 (fun c1 u=>
 dG (ae c1) fun s6=>
 bif (s6.toList==(ByteArray.mk #[40]).toList)then
 aE call 160 (aF (V.ptr 202 a 0) (V.str ⟨#[40]⟩)) u 0 (fun d0 c2=>
 aE call 160 (aF (V.ptr 202 a 0) (V.str ⟨#[99,116,111,114]⟩)) c2 0 fun d1 c3=>
 aE call 163 (aM (V.ptr 202 a 0)) c3 1 fun v c4=>
 jq (ae v) false 1<|
 aE call 166 (aM (V.ptr 202 a 0)) c4 1 fun b c5=>
 bQ (ae b) 5<|
 aE call 160 (aF (V.ptr 202 a 0) (V.str ⟨#[41]⟩)) c5 0 fun d2 c6=>
 iz d<|
 rq a w x y z a0 a1 a2 a3 a4 a5 a6 a7 a8 a9 c0 c e f g h i j k o p q r s t (d++[[(ae v),V.cell (ae b) 0,V.cell (ae b) 1,V.cell (ae b) 2,V.cell (ae b) 3,V.cell (ae b) 4]]) c6)
 else
 aE call 160 (aF (V.ptr 202 a 0) (V.str ⟨#[41]⟩)) u 0 fun d3 c7=>
 aq (V.agg [V.int .i64 c,e,V.slice 1 9 f,g,h,i,j,k,V.int .i64 o,V.int .i64 p,V.str q,V.slice 3 120 r,V.slice 5 53 s,t,V.slice 6 60 d]) c7)
 else
 aE call 160 (aF (V.ptr 202 a 0) (V.str ⟨#[41]⟩)) σ 0 (fun d4 c8=>
 aq (V.agg [V.int .i64 c,e,V.slice 1 9 f,g,h,i,j,k,V.int .i64 o,V.int .i64 p,V.str q,V.slice 3 120 r,V.slice 5 53 s,t,V.slice 6 60 d]) c8)
 else
 aE call 160 (aF (V.ptr 202 a 0) (V.str ⟨#[41]⟩)) σ 0 fun d5 c9=>
 aq (V.agg [V.int .i64 c,e,V.slice 1 9 f,g,h,i,j,k,V.int .i64 o,V.int .i64 p,V.str q,V.slice 3 120 r,V.slice 5 53 s,t,V.slice 6 60 d]) c9
def mh (call:af) (n:Nat):=eR (xL call)
def Yy:ub St:=fun a b c d e f g h i j k o p q r s t u v w x y z a0 a1 a2 a3 a4 a5 a6 a7 σ=>⟨[gV (V.ptr 202 a 0),aU,cH 2,aU,aU,aU,cH 6]++dd 139 [],[[],[],[(V.int .i64 b,false),(V.str c,false),(V.slice 1 9 d,true),(V.int .i64 e,false),(V.int .i64 f,false),(V.str g,false),(V.slice 3 120 h,true),(V.slice 5 53 i,true),(V.int .i64 j,false),(V.int .i64 k,false),(V.str o,false),(V.slice 3 120 p,true),(V.slice 5 53 q,true),(V.int .i64 r,false),(V.slice 6 60 s,true)],[],[],[],[(V.int .i64 t,false),(u,false),(V.slice 1 9 v,true),(w,false),(x,false),(y,false),(z,false),(a0,false),(V.int .i64 a1,false),(V.int .i64 a2,false),(V.str a3,false),(V.slice 3 120 a4,true),(V.slice 5 53 a5,true),(a6,false),(V.slice 6 60 a7,true)]]++nn 139 [],σ⟩
def I0:af→ua RO→ub RO→zK RO→zK RO:=fun call L1 L2 bh a z a0 a1 a2 a3 a4 a5 a6 a7 a8 a9 c0 c1 c2 c3 b d c o p q r s f g h i j k e σ=>
 UR (fun A B D E F H I J K M N=>
 L1 a z a0 a1 a2 a3 a4 a5 a6 a7 a8 a9 c0 c1 c2 c3 b d c A B D E F H I J K M N e) fun R1L=>
 UR (fun A B D E F H=>
 L2 a z a0 a1 a2 a3 a4 a5 a6 a7 a8 a9 c0 c1 c2 c3 b d c A B D E F f g h i j H e) fun R2L=>
 cj σ 202 a 2 fun m1=>
 bb m1 fun i2=>
 bif (i2==0)then
 aE call 164 (aM (V.ptr 202 a 0)) σ 1 (fun e0 d2=>
 dG (ae e0) fun s6=>
 bif (!(s6.toList==(ByteArray.mk #[41]).toList))then
 aE call 163 (aM (V.ptr 202 a 0)) d2 1 (fun d3 e1=>
 jq (ae d3) false 1<|
 iz c<|
 bh a z a0 a1 a2 a3 a4 a5 a6 a7 a8 a9 c0 c1 c2 c3 b d (c++[[(ae d3)]]) o p q r s f g h i j k e e1)
 else
 aE call 160 (aF (V.ptr 202 a 0) (V.str ⟨#[41]⟩)) d2 0 fun g0 d4=>
 bif (b==3)then
 aE call 112 (aM (V.ptr 202 a 0)) d4 3 (fun t c4=>
 (V.asBool (getD t 2 bZ).1).bind fun UQ=>
 bif (!UQ)then
 aE call 161 (aF (V.ptr 202 a 0) (aH t)) c4 0 (fun g1 e2=>
 aq (V.agg [V.int .i64 b,d,V.slice 1 9 c,V.int .i64 o,V.int .i64 p,V.str q,V.slice 3 120 r,V.slice 5 53 s,V.int .i64 f,V.int .i64 g,V.str h,V.slice 3 120 i,V.slice 5 53 j,V.int .i64 k,V.slice 6 60 e]) e2)
 else
 dG (ae t) fun s20=>
 bif (s20.toList==(ByteArray.mk #[]).toList)then
 aE call 161 (aF (V.ptr 202 a 0) (aH t)) c4 0 (fun g2 e3=>
 aq (V.agg [V.int .i64 b,d,V.slice 1 9 c,V.int .i64 o,V.int .i64 p,V.str q,V.slice 3 120 r,V.slice 5 53 s,V.int .i64 f,V.int .i64 g,V.str h,V.slice 3 120 i,V.slice 5 53 j,V.int .i64 k,V.slice 6 60 e]) e3)
 else
 dG (ae t) fun ZG=>
 dS (decide (0≤(0:Int))&&decide ((0:Int)<ZG.size))<|
 bif (decide ((av ZG (Int.toNat 0))<48))then
 aE call 161 (aF (V.ptr 202 a 0) (aH t)) c4 0 (fun g3 e4=>
 aq (V.agg [V.int .i64 b,d,V.slice 1 9 c,V.int .i64 o,V.int .i64 p,V.str q,V.slice 3 120 r,V.slice 5 53 s,V.int .i64 f,V.int .i64 g,V.str h,V.slice 3 120 i,V.slice 5 53 j,V.int .i64 k,V.slice 6 60 e]) e4)
 else
 dG (ae t) fun s28=>
 dS (decide (0≤(0:Int))&&decide ((0:Int)<s28.size))<|
 bif (decide ((av s28 (Int.toNat 0))>57))then
 aE call 161 (aF (V.ptr 202 a 0) (aH t)) c4 0 (fun g4 e5=>
 aq (V.agg [V.int .i64 b,d,V.slice 1 9 c,V.int .i64 o,V.int .i64 p,V.str q,V.slice 3 120 r,V.slice 5 53 s,V.int .i64 f,V.int .i64 g,V.str h,V.slice 3 120 i,V.slice 5 53 j,V.int .i64 k,V.slice 6 60 e]) e5)
 else
 dG (ae t) fun s32=>
 bif (decide ((s32.size:Int)>2))then
 aE call 161 (aF (V.ptr 202 a 0) (aH t)) c4 0 (fun g5 e6=>
 aq (V.agg [V.int .i64 b,d,V.slice 1 9 c,V.int .i64 o,V.int .i64 p,V.str q,V.slice 3 120 r,V.slice 5 53 s,V.int .i64 f,V.int .i64 g,V.str h,V.slice 3 120 i,V.slice 5 53 j,V.int .i64 k,V.slice 6 60 e]) e6)
 else
 aE call 162 (aM (V.ptr 202 a 0)) c4 1 fun g6 e7=>
 aE call 165 (aM (ae t)) e7 1 fun d0 e8=>
 W2 (ae d0) 1<|
 aE call 166 (aM (V.ptr 202 a 0)) e8 1 fun u d5=>
 bQ (ae u) 5<|
 bif (b==2)then
 aE call 166 (aM (V.ptr 202 a 0)) d5 1 (fun c5 e9=>
 bQ (ae c5) 5<|
 cR (cR R1L (ae u)) (ae c5) (ae d0) e9)
 else
 cR R2L (ae u) (ae d0) d5)
 else
 aE call 166 (aM (V.ptr 202 a 0)) d4 1 fun v d6=>
 bQ (ae v) 5<|
 bif (b==2)then
 aE call 166 (aM (V.ptr 202 a 0)) d6 1 (fun c6 f0=>
 bQ (ae c6) 5<|
 cR (cR R1L (ae v)) (ae c6) (aP k) f0)
 else
 cR R2L (ae v) (aP k) d6)
 else
 aE call 160 (aF (V.ptr 202 a 0) (V.str ⟨#[41]⟩)) σ 0 fun g7 d7=>
 bif (b==3)then
 aE call 112 (aM (V.ptr 202 a 0)) d7 3 (fun w c7=>
 (V.asBool (getD w 2 bZ).1).bind fun b60=>
 bif (!b60)then
 aE call 161 (aF (V.ptr 202 a 0) (aH w)) c7 0 (fun g8 f1=>
 aq (V.agg [V.int .i64 b,d,V.slice 1 9 c,V.int .i64 o,V.int .i64 p,V.str q,V.slice 3 120 r,V.slice 5 53 s,V.int .i64 f,V.int .i64 g,V.str h,V.slice 3 120 i,V.slice 5 53 j,V.int .i64 k,V.slice 6 60 e]) f1)
 else
 dG (ae w) fun s64=>
 bif (s64.toList==(ByteArray.mk #[]).toList)then
 aE call 161 (aF (V.ptr 202 a 0) (aH w)) c7 0 (fun g9 f2=>
 aq (V.agg [V.int .i64 b,d,V.slice 1 9 c,V.int .i64 o,V.int .i64 p,V.str q,V.slice 3 120 r,V.slice 5 53 s,V.int .i64 f,V.int .i64 g,V.str h,V.slice 3 120 i,V.slice 5 53 j,V.int .i64 k,V.slice 6 60 e]) f2)
 else
 dG (ae w) fun s68=>
 dS (decide (0≤(0:Int))&&decide ((0:Int)<s68.size))<|
 bif (decide ((av s68 (Int.toNat 0))<48))then
 aE call 161 (aF (V.ptr 202 a 0) (aH w)) c7 0 (fun h0 f3=>
 aq (V.agg [V.int .i64 b,d,V.slice 1 9 c,V.int .i64 o,V.int .i64 p,V.str q,V.slice 3 120 r,V.slice 5 53 s,V.int .i64 f,V.int .i64 g,V.str h,V.slice 3 120 i,V.slice 5 53 j,V.int .i64 k,V.slice 6 60 e]) f3)
 else
 dG (ae w) fun s72=>
 dS (decide (0≤(0:Int))&&decide ((0:Int)<s72.size))<|
 bif (decide ((av s72 (Int.toNat 0))>57))then
 aE call 161 (aF (V.ptr 202 a 0) (aH w)) c7 0 (fun h1 f4=>
 aq (V.agg [V.int .i64 b,d,V.slice 1 9 c,V.int .i64 o,V.int .i64 p,V.str q,V.slice 3 120 r,V.slice 5 53 s,V.int .i64 f,V.int .i64 g,V.str h,V.slice 3 120 i,V.slice 5 53 j,V.int .i64 k,V.slice 6 60 e]) f4)
 else
 dG (ae w) fun s76=>
 bif (decide ((s76.size:Int)>2))then
 aE call 161 (aF (V.ptr 202 a 0) (aH w)) c7 0 (fun h2 f5=>
 aq (V.agg [V.int .i64 b,d,V.slice 1 9 c,V.int .i64 o,V.int .i64 p,V.str q,V.slice 3 120 r,V.slice 5 53 s,V.int .i64 f,V.int .i64 g,V.str h,V.slice 3 120 i,V.slice 5 53 j,V.int .i64 k,V.slice 6 60 e]) f5)
 else
 aE call 162 (aM (V.ptr 202 a 0)) c7 1 fun h3 f6=>
 aE call 165 (aM (ae w)) f6 1 fun d1 f7=>
 W2 (ae d1) 1<|
 aE call 166 (aM (V.ptr 202 a 0)) f7 1 fun x d8=>
 bQ (ae x) 5<|
 bif (b==2)then
 aE call 166 (aM (V.ptr 202 a 0)) d8 1 (fun c8 f8=>
 bQ (ae c8) 5<|
 cR (cR R1L (ae x)) (ae c8) (ae d1) f8)
 else
 cR R2L (ae x) (ae d1) d8)
 else
 aE call 166 (aM (V.ptr 202 a 0)) d7 1 fun y d9=>
 bQ (ae y) 5<|
 bif (b==2)then
 aE call 166 (aM (V.ptr 202 a 0)) d9 1 (fun c9 f9=>
 bQ (ae c9) 5<|
 cR (cR R1L (ae y)) (ae c9) (aP k) f9)
 else
 cR R2L (ae y) (aP k) d9
def pM (call:af) (n:Nat):=eR fun r=>I0 call (ud call n n) (mh call n n) r
def Yz:zK St:=fun a b c d e f g h i j k o p q r s t u v w x y z a0 a1 a2 a3 a4 a5 a6 a7 σ=>⟨[gV (V.ptr 202 a 0),aU,cH 2,aU,aU,aU,cH 6]++dd 139 [],[[],[],[(V.int .i64 b,false),(V.str c,false),(V.slice 1 9 d,true),(V.int .i64 e,false),(V.int .i64 f,false),(V.str g,false),(V.slice 3 120 h,true),(V.slice 5 53 i,true),(V.int .i64 j,false),(V.int .i64 k,false),(V.str o,false),(V.slice 3 120 p,true),(V.slice 5 53 q,true),(V.int .i64 r,false),(V.slice 6 60 s,true)],[],[],[],[(V.int .i64 t,false),(u,false),(V.slice 1 9 v,true),(V.int .i64 w,false),(V.int .i64 x,false),(V.str y,false),(V.slice 3 120 z,true),(V.slice 5 53 a0,true),(V.int .i64 a1,false),(V.int .i64 a2,false),(V.str a3,false),(V.slice 3 120 a4,true),(V.slice 5 53 a5,true),(V.int .i64 a6,false),(V.slice 6 60 a7,true)]]++nn 139 [],σ⟩
def PR:af→Nat→Nat→RR:=fun call n a σ=>
 aE call 160 (aF (V.ptr 202 a 0) (V.str ⟨#[40]⟩)) σ 0 fun u g=>
 aE call 112 (aM (V.ptr 202 a 0)) g 3 fun b c=>
 dG (ae b) fun s7=>
 bif (s7.toList==(ByteArray.mk #[97,120,105,111,109]).toList)then
 aE call 162 (aM (V.ptr 202 a 0)) c 1 (fun v h=>
 aE call 163 (aM (V.ptr 202 a 0)) h 1 fun d i=>
 W2 (ae d) 1<|
 aE call 160 (aF (V.ptr 202 a 0) (V.str ⟨#[40]⟩)) i 0 fun w j=>
 (pM call n n) a 0 (ByteArray.mk #[]) [] 0 0 (ByteArray.mk #[]) [] [] 0 0 (ByteArray.mk #[]) [] [] 0 [] 1 (ae d) [] 0 0 (ByteArray.mk #[]) [] [] 0 0 (ByteArray.mk #[]) [] [] 0 [] j)
 else
 dG (ae b) fun s17=>
 bif (s17.toList==(ByteArray.mk #[100,101,102]).toList)then
 aE call 162 (aM (V.ptr 202 a 0)) c 1 (fun x k=>
 aE call 163 (aM (V.ptr 202 a 0)) k 1 fun e o=>
 W2 (ae e) 1<|
 aE call 160 (aF (V.ptr 202 a 0) (V.str ⟨#[40]⟩)) o 0 fun y p=>
 (pM call n n) a 0 (ByteArray.mk #[]) [] 0 0 (ByteArray.mk #[]) [] [] 0 0 (ByteArray.mk #[]) [] [] 0 [] 2 (ae e) [] 0 0 (ByteArray.mk #[]) [] [] 0 0 (ByteArray.mk #[]) [] [] 0 [] p)
 else
 dG (ae b) fun s27=>
 bif (s27.toList==(ByteArray.mk #[105,110,100,117,99,116,105,118,101]).toList)then
 aE call 162 (aM (V.ptr 202 a 0)) c 1 (fun z q=>
 aE call 163 (aM (V.ptr 202 a 0)) q 1 fun f r=>
 W2 (ae f) 1<|
 aE call 160 (aF (V.ptr 202 a 0) (V.str ⟨#[40]⟩)) r 0 fun a0 s=>
 (pM call n n) a 0 (ByteArray.mk #[]) [] 0 0 (ByteArray.mk #[]) [] [] 0 0 (ByteArray.mk #[]) [] [] 0 [] 3 (ae f) [] 0 0 (ByteArray.mk #[]) [] [] 0 0 (ByteArray.mk #[]) [] [] 0 [] s)
 else
 aE call 161 (aF (V.ptr 202 a 0) (aH b)) c 0 fun a1 t=>
 aq (dZ 0 ⟨#[]⟩ [] 0 0 ⟨#[]⟩ [] [] 0 0 ⟨#[]⟩ [] [] 0 []) t
theorem Oo (call:af) (n:Nat) (m:Nat):ud call n m=lq C C3 call n 3 (pt 131064) [] Yx m:=bn (fun F x=>by kernel_rfl) m
theorem Oq (call:af) (n:Nat) (m:Nat):mh call n m=lq C C3 call n 3 (pt 131064) [] Yy m:=bn (fun F x=>by kernel_rfl) m
theorem Ot (call:af) (n:Nat) (m:Nat):pM call n m=lq C C3 call n 1 (pt 4088) [] Yz m:=bn (fun F x=>by rw[Oo,Oq];kernel_rfl) m
theorem Q2{n a b0}:bS 113 [(V.ptr 202 a 0,b0)] (PR (ah C) n a):=bV C3 n (e:=by intro _;rw[PR,Ot];kernel_rfl)
end Go.Ab.Mk
end
