/- AbMk20: printed by program: functions of the program as plain Lean, and the equations. -/
import Derived.Test.YtcjofhikcokhfaaGreatDoorAbMk0
set_option linter.unusedSimpArgs false
set_option linter.unusedVariables false
set_option linter.deprecated false
noncomputable section
set_option maxRecDepth 100000
namespace Go.Ab.Mk
open Go.Proofs Go.Ab
open List (getD)
open IntKind (wrap)
def Gt:af→Nat→ke RR:=fun call n a b c d e f g h i j σ=>
 aE call 29 (bH (aC a b c d e) (aC f g h i j) (V.bool true)) σ 1 fun k o=>
 aq (ae k) o
theorem Fx{n a b c e f g i j k o b0 b1}:bS 249 [((aC a b c e f),b0),((aC g i j k o),b1)] (Gt (ah C) n a b c e f g i j k o):=bV C6 n
abbrev Dl (α:Type):=ByteArray→Int→cM (az→α)
def NT:af→Dl RO→Dl RO:=fun call bh c a e f g h b σ=>
 bif (decide (a<(b.length:Int)))then
 bo a b<|
 aE call 250 (aF (bJ b a) (V.str c)) σ 1 (fun i d=>
 cB (ae i) fun b4=>
 bif b4 then
 aq (V.bool true) d
 else
 bh c (bp a) e f g h b d)
 else
 aq (V.bool false) σ
def zA (call:af) (n:Nat):=eR (NT call)
def aaK:Dl St:=fun a b c d e f g σ=>⟨[aU,KW a,cH 2,aU,aU,bg b]++dd 25 [],[[],[],gW (aC c d e f g)]++nn 28 [],σ⟩
def aaL:af→Nat→cM (ByteArray→RR):=fun call n a d b e f c σ=>
 bif (a==2)then
 bif (b.toList==c.toList)then
 aq (V.bool true) σ
 else
 (zA call n n) c 0 a d b e f σ
 else
 (zA call n n) c 0 a d b e f σ
theorem Rv (call:af) (n:Nat) (m:Nat):zA call n m=lq C UL call n 0 (pt 116) [] aaK m:=bn (fun F x=>by kernel_rfl) m
theorem Va{n a b c e f g b0 b1}:bS 250 [((aC a b c e f),b0),(V.str g,b1)] (aaL (ah C) n a b c e f g):=bV UL n (e:=by intro _;rw[aaL,Rv];kernel_rfl)
abbrev qd (α:Type):=Nat→eh (V→V→V→V→V→cM (az→α))
def vZ:af→qd RO→qd RO:=fun call bh d c a e f g h i j k o p q σ=>
 bif (decide (a≥0))then
 bo a c<|
 aE call 227 (aF (V.ptr 305 d 0) (ak c a 0)) σ 1 (fun r s=>
 aE call 256 (bH (ae r) (aP a) (aP 0)) s 1 fun t u=>
 aE call 273 (aF (bF e f g h i) (ae t)) u 1 fun b v=>
 bQ (ae b) 5<|
 cR (bh d c (wrap .i64 (a - 1))) (ae b) j k o p q v)
 else
 aq (bF e f g h i) σ
def nf (call:af) (n:Nat):=eR (vZ call)
def NU:qd St:=fun a b c d e f g h i j k o p σ=>⟨[gV (V.ptr 305 a 0),aU,gV (V.slice 1 3 b),aU,cH 4,aU,cH 6,bg c]++dd 18 [],nn 4 ([dn d e f g h,[],[(V.int .i64 i,false),(V.int .i64 j,false),(V.str k,false),(V.slice 3 120 o,true),(V.slice 5 53 p,true)]]++nn 19 []),σ⟩
def Dn:af→Nat→Nat→cM (LL→RR):=fun call n b c d e f g a σ=>
 (nf call n n) b a (wrap .i64 ((a.length:Int) - 1)) (aP c) (aP d) (V.str e) (iP f) (dk g) 0 0 (ByteArray.mk #[]) [] [] σ
theorem Fy (call:af) (n:Nat) (m:Nat):nf call n m=lq C zm call n 0 (pt 52) [] NU m:=bn (fun F x=>by kernel_rfl) m
theorem IL{n a b c e f g i b0 b1 b2}:bS 251 [(V.ptr 305 a 0,b0),((aC b c e f g),b1),(V.slice 1 3 i,b2)] (Dn (ah C) n a b c e f g i):=bV zm n (e:=by intro _;rw[Dn,Fy];kernel_rfl)
def Qa:af→Nat→eh RR:=fun call n a b σ=>
 dS (room (0+List.length a))<|
 iz a<|
 some (.ret [(V.slice 1 3 (a++[[aP b]]),true)],σ)
theorem KX{n a b b0 b1}:bS 252 [(V.slice 1 3 a,b0),(V.int .i64 b,b1)] (Qa (ah C) n a b):=bV KB n
abbrev Dp (α:Type):=LL→eh (az→α)
def NV:af→Dp RO→Dp RO:=fun call bh b c a σ=>
 bif (decide (a<(b.length:Int)))then
 bo a b<|
 jq (ak b a 0) false 1<|
 iz c<|
 bh b (c++[[(aP 4),(ak b a 0),V.slice 3 120 []]]) (bp a) σ
 else
 aq (iP c) σ
def Dq (call:af) (n:Nat):=eR (NV call)
def aaM:Dp St:=fun a b c σ=>⟨[zr a,aU,aU,adx b,bg c]++dd 15 [],nn 20 [],σ⟩
def ab8:af→Nat→LL→RR:=fun call n a σ=>
 (Dq call n n) a [] 0 σ
theorem Rw (call:af) (n:Nat) (m:Nat):Dq call n m=lq C UM call n 0 (pt 116) [] aaM m:=bn (fun F x=>by kernel_rfl) m
theorem Vb{n a b0}:bS 253 [(V.slice 1 9 a,b0)] (ab8 (ah C) n a):=bV UM n (e:=by intro _;rw[ab8,Rw];kernel_rfl)
def rpi:af→Nat→ke RR:=fun call n a b c d e f g h i j σ=>
 aq (aC 5 0 ⟨#[]⟩ [] [[V.int .i64 a,V.int .i64 b,V.str c,V.slice 3 120 d,V.slice 5 53 e],[V.int .i64 f,V.int .i64 g,V.str h,V.slice 3 120 i,V.slice 5 53 j]]) σ
theorem Yl{n a b c e f g i j k o b0 b1}:bS 254 [((aC a b c e f),b0),((aC g i j k o),b1)] (rpi (ah C) n a b c e f g i j k o):=bV ab4 n
abbrev v7 (α:Type):=Nat→LL→iF (V→V→V→cM (V→V→V→V→V→az→α))
def Dr:af→v7 RO→v7 RO:=fun call bh d e i j f g h s t u v w k o p q r σ=>
 cz g 5 53 fun l1=>
 bb h fun i2=>
 bif (decide (i2<(l1.length:Int)))then
 cz g 5 53 fun l3=>
 bb h fun i4=>
 bo i4 l3<|
 aE call 251 (bH (V.ptr 305 d 0) (bJ l3 i4) f) σ 1 (fun x y=>
 aE call 228 (aF (bF k o p q r) (ae x)) y 1 fun a z=>
 bQ (ae a) 5<|
 bb h fun i11=>
 cR (bh d e i j f g (aP (bp i11)) s t u v w) (ae a) z)
 else
 cz f 1 3 fun US=>
 dS (decide (0≤(e.length:Int))&&decide ((e.length:Int)≤(US.length:Int))&&decide ((US.length:Int)≤US.length))<|
 aE call 227 (aF (V.ptr 305 d 0) (aP i)) σ 1 fun a0 a1=>
 aE call 221 (bH (V.ptr 305 d 0) (ae a0) (V.slice 1 3 ((US.take (Int.toNat (US.length:Int))).drop (Int.toNat (e.length:Int))))) a1 1 fun a2 a3=>
 aE call 228 (aF (bF k o p q r) (ae a2)) a3 1 fun b a4=>
 bQ (ae b) 5<|
 aE call 224 (bH (V.ptr 305 d 0) (bA (ae b)) (aP j)) a4 1 fun c a5=>
 bQ (ae c) 5<|
 aq (bA (ae c)) a5
def rZ (call:af) (n:Nat):=eR (Dr call)
def Vc:v7 St:=fun a b c d e f g h i j k o p q r s t σ=>⟨[gV (V.ptr 305 a 0),aU,gV (V.slice 1 3 b),bg c]++dd 4 ([cH 8,bg d,aU,aU,gV e,aU,gV f,cH 15,gV g]++dd 61 []),nn 8 ([[(V.int .i64 h,false),(V.int .i64 i,false),(V.str j,false),(V.slice 3 120 k,true),(V.slice 5 53 o,true)]]++nn 6 ([dn p q r s t]++nn 62 [])),σ⟩
def IM:af→Nat→Nat→cM (eh RR):=fun call n b d e f g h i p σ=>
 cj σ 305 b 16 fun m1=>
 (V.rowLen m1).bind fun n2=>
 aE call 171 (aM (aC d e f g h)) σ 1 fun q r=>
 aE call 220 (ft (V.ptr 305 b 0) (aC d e f g h) (V.slice 1 3 i) (ae q)) r 2 fun a s=>
 bQ (ae a) 5<|
 aE call 219 (aM (bA (ae a))) s 2 fun j k=>
 bQ (ae j) 5<|
 cj k 305 b 17 fun m12=>
 aE call 227 (aF (V.ptr 305 b 0) m12) k 1 fun c o=>
 bQ (ae c) 5<|
 cj o 305 b 13 fun m16=>
 cR ((rZ call n n) b i p (n2:Int) (aH a) (aH j) m16 0 0 (ByteArray.mk #[]) [] []) (ae c) o
theorem KY (call:af) (n:Nat) (m:Nat):rZ call n m=lq C Iu call n 0 (pt 2036) [] Vc m:=bn (fun F x=>by kernel_rfl) m
theorem NW{n a b c e f g i j b0 b1 b2 b3}:bS 255 [(V.ptr 305 a 0,b0),((aC b c e f g),b1),(V.slice 1 3 i,b2),(V.int .i64 j,b3)] (IM (ah C) n a b c e f g i j):=bV Iu n (e:=by intro _;rw[IM,KY];kernel_rfl)
abbrev zB (α:Type):=iF (eh (ke (az→α)))
def IP:af→zB RO→zB RO:=fun call bh g h f a i j k o b p q r s t σ=>
 bif (decide (a<(b.length:Int)))then
 aE call 274 (aF (aC i j k o b) (aP a)) σ 1 (fun v u=>
 cB (ae v) fun b4=>
 bif b4 then
 bo a b<|
 aE call 256 (bH (bJ b a) (aP g) (aP (bp h))) u 1 (fun c w=>
 jq (ae c) true 5<|
 iz f<|
 bh g h (f++[[V.cell (ae c) 0,V.cell (ae c) 1,V.cell (ae c) 2,V.cell (ae c) 3,V.cell (ae c) 4]]) (bp a) i j k o b p q r s t w)
 else
 bo a b<|
 aE call 256 (bH (bJ b a) (aP g) (aP h)) u 1 fun d x=>
 jq (ae d) true 5<|
 iz f<|
 bh g h (f++[[V.cell (ae d) 0,V.cell (ae d) 1,V.cell (ae d) 2,V.cell (ae d) 3,V.cell (ae d) 4]]) (bp a) i j k o b p q r s t x)
 else
 aE call 271 (aF (aC i j k o b) (dk f)) σ 1 fun e y=>
 bQ (ae e) 5<|
 aq (bA (ae e)) y
def xB (call:af) (n:Nat):=eR (IP call)
def Ym:zB St:=fun a b c d e f g h i j k o p q σ=>⟨[aU,bg a,bg b,cH 3,aU,aU,cH 6,zq c,bg d]++dd 41 [],[[],[],[],gW (aC e f g h i),[],[],[(V.int .i64 j,false),(V.int .i64 k,false),(V.str o,false),(V.slice 3 120 p,true),(V.slice 5 53 q,true)]]++nn 43 [],σ⟩
def Vd:af→Nat→cM (iF RR):=fun call n b a c d e f g σ=>
 bif (b==0)then
 bif (decide (a≥g))then
 aq (aC 0 (wrap .i64 (a+f)) ⟨#[]⟩ [] []) σ
 else
 aq (aC b a c d e) σ
 else
 (xB call n n) f g [] 0 b a c d e 0 0 (ByteArray.mk #[]) [] [] σ
theorem NY (call:af) (n:Nat) (m:Nat):xB call n m=lq C Ny call n 0 (pt 244) [] Ym m:=bn (fun F x=>by kernel_rfl) m
theorem Rx{n a b c e f g i b0 b1 b2}:bS 256 [((aC a b c e f),b0),(V.int .i64 g,b1),(V.int .i64 i,b2)] (Vd (ah C) n a b c e f g i):=bV Ny n (e:=by intro _;rw[Vd,NY];kernel_rfl)
end Go.Ab.Mk
end
noncomputable section
set_option maxRecDepth 100000
namespace Go.Ab.Mk
open Go.Proofs Go.Ab
open List (getD)
open IntKind (wrap)
abbrev qe (α:Type):=LL→V→Int→az→α
def v8:af→qe RO→qe RO:=fun call bh c b a σ=>
 cz b 1 9 fun l1=>
 bif (decide (a<(l1.length:Int)))then
 cz b 1 9 fun l2=>
 bo a l2<|
 aE call 168 (aF (ak l2 a 0) (de c)) σ 1 (fun e d=>
 cB (ae e) fun b6=>
 bif (!b6)then
 aq (V.bool false) d
 else
 bh c b (bp a) d)
 else
 aq (V.bool true) σ
def ng (call:af) (n:Nat):=eR (v8 call)
def NZ:qe St:=fun a b c σ=>⟨[aU,zr a,aU,aU,aU,KG b,bg c]++dd 17 [],nn 24 [],σ⟩
def declared:af→Nat→kd (LL→RR):=fun call n b c d e σ=>
 aE call 116 [((bU b c d),false),(V.slice 1 9 [],true)] σ 1 fun a f=>
 AU a<|
 (ng call n n) e (ae a) 0 f
theorem Fz (call:af) (n:Nat) (m:Nat):ng call n m=lq C zn call n 0 (pt 116) [] NZ m:=bn (fun F x=>by kernel_rfl) m
theorem IQ{n a b c e b0 b1}:bS 257 [((bU a b c),b0),(V.slice 1 9 e,b1)] (declared (ah C) n a b c e):=bV zn n (e:=by intro _;rw[declared,Fz];kernel_rfl)
abbrev oo (α:Type):=Nat→LL→LL→V→iF (ke (az→α))
def r8:af→oo RO→oo RO:=fun call bh b q a f g c h i j k o r s t u v σ=>
 bif (decide (c<(a.length:Int)))then
 bo c a<|
 aE call 73 (aF (V.agg [(ak a c 0),(ak a c 1),(ak a c 2)]) (aP 20000)) σ 1 (fun w x=>
 bb (ae w) fun i4=>
 bh b q a f (if g<i4 then
 i4
 else
 g) (bp c) h i j k o r s t u v x)
 else
 bb f fun i5=>
 bif (decide (i5≤20000))then
 aE call 275 (aM (aC h i j k o)) σ 1 (fun y p=>
 cj p 49 b 1 fun m9=>
 cB m9 fun b10=>
 bif b10 then
 (aV p (V.ptr 49 b 1) [(V.bool true,false)]).bind fun m11=>
 aq (aC 1 0 ⟨#[]⟩ [[(aP 0),V.str ⟨#[]⟩,V.slice 3 120 []]] []) m11
 else
 bb (ae y) fun i12=>
 bb f fun i13=>
 bif (decide ((wrap .i64 (i13+(wrap .i64 (i12*g))))>20000))then
 (aV p (V.ptr 49 b 1) [(V.bool true,false)]).bind fun m14=>
 aq (aC 1 0 ⟨#[]⟩ [[(aP 0),V.str ⟨#[]⟩,V.slice 3 120 []]] []) m14
 else
 aE call 276 (bH (aC h i j k o) (de q) (iP a)) p 1 fun d z=>
 bQ (ae d) 5<|
 aq (bA (ae d)) z)
 else
 cj σ 49 b 1 fun m18=>
 cB m18 fun b19=>
 bif b19 then
 (aV σ (V.ptr 49 b 1) [(V.bool true,false)]).bind fun m20=>
 aq (aC 1 0 ⟨#[]⟩ [[(aP 0),V.str ⟨#[]⟩,V.slice 3 120 []]] []) m20
 else
 bb f fun i21=>
 bif (decide ((wrap .i64 (i21+(wrap .i64 (0*g))))>20000))then
 (aV σ (V.ptr 49 b 1) [(V.bool true,false)]).bind fun m22=>
 aq (aC 1 0 ⟨#[]⟩ [[(aP 0),V.str ⟨#[]⟩,V.slice 3 120 []]] []) m22
 else
 aE call 276 (bH (aC h i j k o) (de q) (iP a)) σ 1 fun e a0=>
 bQ (ae e) 5<|
 aq (bA (ae e)) a0
def ly (call:af) (n:Nat):=eR (r8 call)
def KZ:oo St:=fun a b c d e f g h i j k o p q r s σ=>⟨[nD a,aU,zr b,Ve c,aU,cH 5,aU,aU,cH 8,gV d,bg e,bg f]++dd 44 [],nn 5 ([gW (aC g h i j k),[],[],[(V.int .i64 o,false),(V.int .i64 p,false),(V.str q,false),(V.slice 3 120 r,true),(V.slice 5 53 s,true)]]++nn 47 []),σ⟩
def zC:af→Nat→Nat→cM (LL→LL→RR):=fun call n f a b c d e g h σ=>
 aE call 231 (aF (aC a b c d e) (aP 20000)) σ 1 fun i j=>
 (ly call n n) f g h (ae i) 0 0 a b c d e 0 0 (ByteArray.mk #[]) [] [] j
theorem Ds (call:af) (n:Nat) (m:Nat):ly call n m=lq C vL call n 0 (pt 244) [] KZ m:=bn (fun F x=>by kernel_rfl) m
theorem FA{n a b c e f g i j b0 b1 b2 b3}:bS 258 [(V.ptr 49 a 0,b0),((aC b c e f g),b1),(V.slice 1 9 i,b2),(V.slice 3 120 j,b3)] (zC (ah C) n a b c e f g i j):=bV vL n (e:=by intro _;rw[zC,Ds];kernel_rfl)
def Dt:af→Nat→Nat→LL→LL→cM (Int→RR):=fun call n d j k s t u v a g σ=>
 bo 0 a<|
 aE call 179 (dn (V.ptr 49 d 0) (de j) (dk k) (bJ a 0) (aP g)) σ 2 fun b o=>
 bQ (ae b) 5<|
 bb (aH b) fun i4=>
 bif (i4 != 0)then
 cq (aC 0 0 ⟨#[]⟩ [] []) (aH b) o
 else
 aE call 214 (bH (V.ptr 49 d 0) (bA (ae b)) (aP g)) o 3 fun e h=>
 bQ (ae e) 5<|
 (V.asInt (getD e 2 bZ).1 .i64).bind fun i8=>
 bif (i8 != 0)then
 cq (aC 0 0 ⟨#[]⟩ [] []) ((getD e 2 bZ).1) h
 else
 bb (V.cell (ae e) 0) fun i9=>
 bif (i9 != 5)then
 cq (aC 0 0 ⟨#[]⟩ [] []) (aP 8) h
 else
 bo 1 a<|
 aE call 179 (dn (V.ptr 49 d 0) (de j) (dk k) (bJ a 1) (aP g)) h 2 fun c p=>
 bQ (ae c) 5<|
 bb (aH c) fun i13=>
 bif (i13 != 0)then
 cq (aC 0 0 ⟨#[]⟩ [] []) (aH c) p
 else
 cz (V.cell (ae e) 4) 5 53 fun ZF=>
 bo 0 ZF<|
 aE call 180 (ft (V.ptr 49 d 0) (bA (ae c)) (bJ ZF 0) (aP g)) p 1 fun q r=>
 bb (ae q) fun i18=>
 bif (i18 != 0)then
 cq (aC 0 0 ⟨#[]⟩ [] []) (ae q) r
 else
 cz (V.cell (ae e) 4) 5 53 fun U9=>
 bo 1 U9<|
 bo 1 a<|
 aE call 260 (bH (V.ptr 49 d 0) (bJ U9 1) (bJ a 1)) r 1 fun f i=>
 bQ (ae f) 5<|
 cj i 49 d 1 fun m23=>
 cB m23 fun b24=>
 bif b24 then
 cq (aC 0 0 ⟨#[]⟩ [] []) (aP 14) i
 else
 cq (bA (ae f)) (aP 0) i
theorem IU{n a b c e f g i j k b0 b1 b2 b3 b4}:bS 259 [(V.ptr 49 a 0,b0),(V.slice 1 9 b,b1),(V.slice 5 53 c,b2),((aC e f g i j),b3),(V.int .i64 k,b4)] (Dt (ah C) n a b c e f g i j k):=bV Gp n
def xC:af→Nat→Nat→ke RR:=fun call n c d e f g h i j k o p σ=>
 aE call 277 (aF (aC d e f g h) (aC i j k o p)) σ 1 fun q b=>
 cB (ae q) fun b4=>
 bif b4 then
 (aV b (V.ptr 49 c 1) [(V.bool true,false)]).bind fun m5=>
 aq (aC 1 0 ⟨#[]⟩ [[(aP 0),V.str ⟨#[]⟩,V.slice 3 120 []]] []) m5
 else
 cj b 49 c 1 fun m6=>
 cB m6 fun b7=>
 bif b7 then
 (aV b (V.ptr 49 c 1) [(V.bool true,false)]).bind fun m8=>
 aq (aC 1 0 ⟨#[]⟩ [[(aP 0),V.str ⟨#[]⟩,V.slice 3 120 []]] []) m8
 else
 aE call 273 (aF (aC d e f g h) (aC i j k o p)) b 1 fun a r=>
 bQ (ae a) 5<|
 aq (bA (ae a)) r
theorem qf{n a b c e f g i j k o p b0 b1 b2}:bS 260 [(V.ptr 49 a 0,b0),((aC b c e f g),b1),((aC i j k o p),b2)] (xC (ah C) n a b c e f g i j k o p):=bV Gq n
def Du:af→Nat→Nat→RR:=fun call n a σ=>
 cj σ 332 a 0 fun m1=>
 cj σ 332 a 1 fun m2=>
 bb m1 fun i3=>
 bb m2 fun i4=>
 bif (decide (i3≥i4))then
 (aV σ (V.ptr 332 a 2) [(V.bool true,false)]).bind fun m5=>
 aq (V.bool false) m5
 else
 cj σ 332 a 0 fun m6=>
 bb m6 fun i7=>
 (aV σ (V.ptr 332 a 0) [((aP (bp i7)),false)]).bind fun m8=>
 aq (V.bool true) m8
theorem xD{n a b0}:bS 266 [(V.ptr 332 a 0,b0)] (Du (ah C) n a):=bV Gr n
abbrev wa (α:Type):=eh (V→V→V→V→V→cM (az→α))
def Dv:af→wa RO→wa RO:=fun call bh b a d e f g h i j k o p σ=>
 bif (decide (a<(b.length:Int)))then
 bo a b<|
 aE call 228 (aF (bF d e f g h) (bJ b a)) σ 1 (fun c q=>
 bQ (ae c) 5<|
 cR (bh b (bp a)) (ae c) i j k o p q)
 else
 aq (bF d e f g h) σ
def r9 (call:af) (n:Nat):=eR (Dv call)
def Vf:wa St:=fun a b c d e f g h i j k o σ=>⟨[aU,IC a,cH 2,aU,cH 4,bg b]++dd 13 [],[[],[],dn c d e f g,[],[(V.int .i64 h,false),(V.int .i64 i,false),(V.str j,false),(V.slice 3 120 k,true),(V.slice 5 53 o,true)]]++nn 14 [],σ⟩
def Vg:af→Nat→cM (LL→RR):=fun call n a b c d e f σ=>
 (r9 call n n) f 0 (aP a) (aP b) (V.str c) (iP d) (dk e) 0 0 (ByteArray.mk #[]) [] [] σ
theorem K0 (call:af) (n:Nat) (m:Nat):r9 call n m=lq C Iv call n 0 (pt 52) [] Vf m:=bn (fun F x=>by kernel_rfl) m
theorem N0{n a b c e f g b0 b1}:bS 267 [((aC a b c e f),b0),(V.slice 5 53 g,b1)] (Vg (ah C) n a b c e f g):=bV Iv n (e:=by intro _;rw[Vg,K0];kernel_rfl)
def measure:af→Nat→Nat→cM (Nat→RR):=fun call n b c d e f g h σ=>
 aE call 231 (aF (aC c d e f g) (aP 20000)) σ 1 fun i a=>
 cj a 49 b 1 fun m4=>
 cB m4 fun b5=>
 bif b5 then
 (aV a (V.ptr 49 b 1) [(V.bool true,false)]).bind fun m6=>
 some (.ret [],m6)
 else
 cj a 332 h 4 fun m7=>
 bb m7 fun i8=>
 bb (ae i) fun i9=>
 (aV a (V.ptr 49 b 1) [((V.bool (decide ((wrap .i64 (i8+i9))>20000))),false)]).bind fun m10=>
 some (.ret [],m10)
theorem AY{n a b c e f g i b0 b1 b2}:bS 268 [(V.ptr 49 a 0,b0),((aC b c e f g),b1),(V.ptr 332 i 0,b2)] (measure (ah C) n a b c e f g i):=bV KC n
end Go.Ab.Mk
end
noncomputable section
set_option maxRecDepth 100000
namespace Go.Ab.Mk
open Go.Proofs Go.Ab
open List (getD)
open IntKind (wrap)
abbrev Dw (α:Type):=Nat→LL→iF (Int→V→V→Int→ke (pT (V→V→V→V→V→V→V→V→V→V→az→α)))
abbrev xE (α:Type):=Nat→LL→iF (Int→V→eh (ke (pT (V→V→V→V→V→V→V→V→V→V→az→α))))
abbrev xF (α:Type):=Nat→eh (cM (V→V→V→V→V→az→α))
def N1:af→xF RO→xF RO:=fun call rq d b a k o p q r e f g h i σ=>
 bif (decide (a<(b.length:Int)))then
 bo a b<|
 aE call 228 (aF (bF e f g h i) (bJ b a)) σ 1 (fun c s=>
 bQ (ae c) 5<|
 cR (rq d b (bp a) k o p q r) (ae c) s)
 else
 aE call 231 (aF (bF e f g h i) (aP 20000)) σ 1 fun t j=>
 cj j 49 d 1 fun m7=>
 cB m7 fun b8=>
 bif b8 then
 (aV j (V.ptr 49 d 1) [(V.bool true,false)]).bind fun m9=>
 cq (bF e f g h i) (V.bool true) m9
 else
 bb (ae t) fun i10=>
 (aV j (V.ptr 49 d 1) [((V.bool (decide (i10>20000))),false)]).bind fun m11=>
 cq (bF e f g h i) (V.bool true) m11
def zD (call:af) (n:Nat):=eR (N1 call)
def aaN:xF St:=fun a b c d e f g h i j k o p σ=>⟨[nD a,aU,IC b]++dd 7 ([cH 10]++dd 14 ([cH 25]++dd 5 ([bg c]++dd 239 []))),nn 10 ([[(V.int .i64 d,false),(V.int .i64 e,false),(V.str f,false),(V.slice 3 120 g,true),(V.slice 5 53 h,true)]]++nn 14 ([dn i j k o p]++nn 245 [])),σ⟩
def N2:af→xF RO→xE RO→xE RO:=fun call L2 eU h f b g j c e a k o p q r s t u v w y x z a0 a1 a2 a3 a4 a5 a6 a7 a8 a9 c0 c1 c2 c3 c4 c5 c6 d2 d3 d4 d5 i σ=>
 UR (fun A B=>
 eU h f b g j c A B k o p q r s t u v w y x z a0 a1 a2 a3 a4 a5 a6 a7 a8 a9 c0 c1) fun R1=>
 cz c 5 53 fun l1=>
 bif (decide (a<(l1.length:Int)))then
 cz i 5 53 fun l2=>
 bo 0 l2<|
 aE call 279 (aF (bJ l2 0) (V.str x)) σ 1 (fun c9 c7=>
 bif (decide (a≥b))then
 cB (ae c9) fun b6=>
 bif b6 then
 dS (decide (0≤(0:Int))&&decide (0≤(wrap .i64 ((bp b)+g)))&&decide ((wrap .i64 ((bp b)+g))≤f.length))<|
 cz i 5 53 fun l7=>
 bo 0 l7<|
 cz c 5 53 fun l8=>
 bo a l8<|
 aE call 280 (Yb (V.ptr 49 h 0) (aC k o p q r) (dk ((f.take (Int.toNat (wrap .i64 ((bp b)+g)))).drop (Int.toNat 0))) (aP b) (bJ l7 0) (dk e) (bJ l8 a)) c7 1 (fun d0 d1=>
 aE call 228 (aF (bF c2 c3 c4 c5 c6) (ae d0)) d1 1 fun d c8=>
 bQ (ae d) 5<|
 bif (decide (a≥b))then
 cz c 5 53 fun Kd=>
 bo a Kd<|
 iz e<|
 cz i 5 53 fun ZI=>
 bo 1 ZI<|
 gr (cR (R1 (e++[[(ak Kd a 0),(ak Kd a 1),(ak Kd a 2),(ak Kd a 3),(ak Kd a 4)]]) (bp a)) (ae d)) ZI 1 c8
 else
 cz i 5 53 fun l17=>
 bo 1 l17<|
 gr (cR (R1 e (bp a)) (ae d)) l17 1 c8)
 else
 bif (decide (a≥b))then
 cz c 5 53 fun l18=>
 bo a l18<|
 iz e<|
 cz i 5 53 fun U9=>
 bo 1 U9<|
 gr (R1 (e++[[(ak l18 a 0),(ak l18 a 1),(ak l18 a 2),(ak l18 a 3),(ak l18 a 4)]]) (bp a) c2 c3 c4 c5 c6) U9 1 c7
 else
 cz i 5 53 fun UW=>
 bo 1 UW<|
 gr (R1 e (bp a) c2 c3 c4 c5 c6) UW 1 c7
 else
 bif (decide (a≥b))then
 cz c 5 53 fun Yh=>
 bo a Yh<|
 iz e<|
 cz i 5 53 fun IV=>
 bo 1 IV<|
 gr (R1 (e++[[(ak Yh a 0),(ak Yh a 1),(ak Yh a 2),(ak Yh a 3),(ak Yh a 4)]]) (bp a) c2 c3 c4 c5 c6) IV 1 c7
 else
 cz i 5 53 fun l23=>
 bo 1 l23<|
 gr (R1 e (bp a) c2 c3 c4 c5 c6) l23 1 c7)
 else
 L2 h f (bp j) s t u v w c2 c3 c4 c5 c6 σ
def zE (call:af) (n:Nat):=eR fun r=>N2 call (zD call n n) r
def aaO:xE St:=fun a b c d e f g h i j k o p q r s t u v w x y z a0 a1 a2 a3 a4 a5 a6 a7 a8 a9 c0 c1 c2 c3 c4 c5 c6 c7 c8 c9 σ=>⟨[nD a,aU,IC b,aU,aU,aU,cH 6,aU,aU,aU,cH 10,aU,cH 12,bg c,bg d,aU,bg e,aU,aU,aU,gV f]++dd 4 ([cH 25,aU,zq g,cH 28,bg h]++dd 241 []),nn 6 ([gW (aC i j k o p),[],[],[],[(V.int .i64 q,false),(V.int .i64 r,false),(V.str s,false),(V.slice 3 120 t,true),(V.slice 5 53 u,true)],[],gW (dZ v w x y z a0 a1 a2 a3 a4 a5 a6 a7 a8 a9)]++nn 12 ([dn c0 c1 c2 c3 c4,[],[],dn c5 c6 c7 c8 c9]++nn 242 [])),σ⟩
def N3:af→xE RO→Dw RO→Dw RO:=fun call L1 bh g f c k o h p a q r s t u v w x y z a0 a1 i a2 a3 a4 a5 a6 a7 a8 a9 c0 c1 c2 b c9 d0 d1 c3 d2 c4 c5 c6 c7 c8 σ=>
 cz h 5 53 fun l1=>
 bif (decide (a<(l1.length:Int)))then
 cz h 5 53 fun l2=>
 bo a l2<|
 aE call 228 (aF (bF c4 c5 c6 c7 c8) (bJ l2 a)) σ 1 (fun d d3=>
 bQ (ae d) 5<|
 cR (bh g f c k o h p (bp a) q r s t u v w x y z a0 a1 i a2 a3 a4 a5 a6 a7 a8 a9 c0 c1 c2 b c9 d0 d1 c3 d2) (ae d) d3)
 else
 dS (decide (0≤(0:Int))&&decide (0≤c)&&decide (c≤f.length))<|
 dS (room (0+List.length ((f.take c.toNat).drop (Int.toNat 0))))<|
 bb p fun i6=>
 bo i6 b<|
 aE call 258 (ft (V.ptr 49 g 0) (xh b i6) (de i) c3) σ 1 fun e j=>
 bQ (ae e) 5<|
 cj j 49 g 1 fun m10=>
 cB m10 fun b11=>
 bif b11 then
 cq (aC 0 0 ⟨#[]⟩ [] []) (V.bool false) j
 else
 cR (L1 g f c k o h ((f.take c.toNat).drop (Int.toNat 0)) 0 q r s t u v w x y z a0 a1 i a2 a3 a4 a5 a6 a7 a8 a9 c0 c1 c2 b c4 c5 c6 c7 c8) (ae e) j
def Dx (call:af) (n:Nat):=eR fun r=>N3 call (zE call n n) r
def aaP:Dw St:=fun a b c d e f g h i j k o p q r s t u v w x y z a0 a1 a2 a3 a4 a5 a6 a7 a8 a9 c0 c1 c2 c3 c4 c5 c6 c7 c8 c9 σ=>⟨[nD a,aU,IC b,aU,aU,aU,cH 6,aU,aU,aU,cH 10,aU,cH 12,bg c,bg d,aU,bg e,aU,aU,cH 19,gV f,aU,aU,gV g,aU,cH 25,bg h]++dd 244 [],nn 6 ([gW (aC i j k o p),[],[],[],[(V.int .i64 q,false),(V.int .i64 r,false),(V.str s,false),(V.slice 3 120 t,true),(V.slice 5 53 u,true)],[],gW (dZ v w x y z a0 a1 a2 a3 a4 a5 a6 a7 a8 a9)]++nn 6 ([dn c0 c1 c2 c3 c4]++nn 5 ([dn c5 c6 c7 c8 c9]++nn 245 []))),σ⟩
def iota:af→Nat→Nat→cM (LL→pT (LL→cM (Nat→RR))):=fun call n h j k o p q c a3 r a4 s t u v w a5 a6 a7 a8 a9 a b c8 c9 d0 d1 d2 d3 e σ=>
 aE call 171 (aM (aC s t u v w)) σ 1 fun c0 x=>
 bb (ae c0) fun i4=>
 bif (decide ((c.length:Int)≤(wrap .i64 ((wrap .i64 ((bp a)+(b.length:Int)))+(wrap .i64 (i4 - a))))))then
 cq (aC 0 0 ⟨#[]⟩ [] []) (V.bool false) x
 else
 bo (wrap .i64 ((wrap .i64 ((bp a)+(b.length:Int)))+(wrap .i64 (i4 - a)))) c<|
 aE call 267 (aF (aC j k o p q) (dk c)) x 1 fun c1 c2=>
 aE call 231 (aF (ae c1) (aP 20000)) c2 1 fun c3 c4=>
 aE call 231 (aF (bJ c (wrap .i64 ((wrap .i64 ((bp a)+(b.length:Int)))+(wrap .i64 (i4 - a))))) (aP 20000)) c4 1 fun c5 y=>
 bb (ae c3) fun i14=>
 bb (ae c5) fun i15=>
 cj y 332 e 4 fun m16=>
 bb m16 fun i17=>
 (aV y (V.ptr 332 e 4) [(V.int .i64 (wrap .i64 (i17+(wrap .i64 (i14 - i15)))),false)]).bind fun m18=>
 bo (wrap .i64 ((wrap .i64 ((bp a)+(b.length:Int)))+(wrap .i64 (i4 - a)))) c<|
 aE call 246 (bH (V.ptr 49 h 0) (bJ c (wrap .i64 ((wrap .i64 ((bp a)+(b.length:Int)))+(wrap .i64 (i4 - a))))) (V.ptr 332 e 0)) m18 1 fun f z=>
 bQ (ae f) 5<|
 cj z 332 e 4 fun m22=>
 bb m22 fun i23=>
 (aV z (V.ptr 332 e 4) [(V.int .i64 (wrap .i64 (i23 - (wrap .i64 (i14 - i15)))),false)]).bind fun m24=>
 cj m24 332 e 2 fun Yi=>
 cB Yi fun b26=>
 bif b26 then
 cq (aC 0 0 ⟨#[]⟩ [] []) (V.bool false) m24
 else
 cj m24 49 h 1 fun m27=>
 cB m27 fun b28=>
 bif b28 then
 cq (aC 0 0 ⟨#[]⟩ [] []) (V.bool false) m24
 else
 aE call 219 (aM (bA (ae f))) m24 2 fun d a0=>
 bQ (ae d) 5<|
 bb (V.cell (ae d) 0) fun i32=>
 bif (i32 != 2)then
 cq (aC 0 0 ⟨#[]⟩ [] []) (V.bool false) a0
 else
 aE call 28 (aF (V.ptr 49 h 0) (V.cell (ae d) 2)) a0 3 fun g i=>
 bQ (aH g) 21<|
 bb (ae g) fun i36=>
 bif (i36 != 4)then
 cq (aC 0 0 ⟨#[]⟩ [] []) (V.bool false) i
 else
 dG (V.cell (aH g) 1) fun s37=>
 bif (!(s37.toList==r.toList))then
 cq (aC 0 0 ⟨#[]⟩ [] []) (V.bool false) i
 else
 cz (aH d) 5 53 fun l38=>
 (V.asInt (getD g 2 bZ).1 .i64).bind fun i39=>
 bo i39 b<|
 aE call 171 (aM (xh b i39)) i 1 fun c6 a1=>
 bb (ae c6) fun i43=>
 bif ((l38.length:Int) != i43)then
 cq (aC 0 0 ⟨#[]⟩ [] []) (V.bool false) a1
 else
 aE call 266 (aM (V.ptr 332 e 0)) a1 1 fun c7 a2=>
 cB (ae c7) fun b47=>
 bif (!b47)then
 cq (aC 0 0 ⟨#[]⟩ [] []) (V.bool false) a2
 else
 (V.asInt (getD g 2 bZ).1 .i64).bind fun i48=>
 bo (wrap .i64 ((bp a)+i48)) c<|
 gr (cR ((Dx call n n) h c a (b.length:Int) (wrap .i64 ((wrap .i64 ((bp a)+(b.length:Int)))+(wrap .i64 (i4 - a)))) (aH d) (getD g 2 bZ).1 a j k o p q 0 0 (ByteArray.mk #[]) [] [] a3 r a4 s t u v w a5 a6 a7 a8 a9 a b) (ae d)) c (wrap .i64 ((bp a)+i48)) a2
theorem Ry (call:af) (n:Nat) (m:Nat):zD call n m=lq C KD call n 4 (pt 1073741812) [] aaN m:=bn (fun F x=>by kernel_rfl) m
theorem Rz (call:af) (n:Nat) (m:Nat):zE call n m=lq C KD call n 2 (pt 536870900) [] aaO m:=bn (fun F x=>by rw[Ry];kernel_rfl) m
theorem RA (call:af) (n:Nat) (m:Nat):Dx call n m=lq C KD call n 0 (pt 16777204) [] aaP m:=bn (fun F x=>by rw[Rz];kernel_rfl) m
theorem Vh{n a b c e f g i j k o p q s t u v w x y z a0 a1 a2 a3 a4 a5 a6 a7 a8 b0 b1 b2 b3 b4}:bS 269 [(V.ptr 49 a 0,b0),((aC b c e f g),b1),(V.slice 5 53 i,b2),((aaQ j k o p q s t u v w x y z a0 a1 a2 a3 a4 a5 a6 a7),b3),(V.ptr 332 a8 0,b4)] (iota (ah C) n a b c e f g i j k o p q s t u v w x y z a0 a1 a2 a3 a4 a5 a6 a7 a8):=bV KD n (e:=by intro _;rw[iota,RA];kernel_rfl)
end Go.Ab.Mk
end
