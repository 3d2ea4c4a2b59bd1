/- AbMk17: printed by program: functions of the program as plain Lean, and the equations. -/
import Derived.Test.YtcjofhikcokhfaaGreatDoorAbMk0
set_option linter.unusedSimpArgs false
set_option linter.unusedVariables false
set_option linter.deprecated false
noncomputable section
set_option maxRecDepth 100000
namespace Go.Ab.Mk
open Go.Proofs Go.Ab
open List (getD)
open IntKind (wrap)
abbrev vR (α:Type):=LL→V→V→V→V→V→cM (az→α)
abbrev pX (α:Type):=LL→eh (V→V→V→V→V→cM (az→α))
def rU:af→pX RO→pX RO:=fun call eU b c a d e f g h i j k o p σ=>
 bif (decide (a≥0))then
 bo a b<|
 iz c<|
 eU b (c++[[(ak b a 0),(ak b a 1),(ak b a 2),(ak b a 3),(ak b a 4)]]) (wrap .i64 (a - 1)) d e f g h i j k o p σ
 else
 cq (bF d e f g h) (dk c) σ
def lx (call:af) (n:Nat):=eR (rU call)
def U0:pX St:=fun a b c d e f g h i j k o p σ=>⟨[aU,cH 1,cH 2,aU,zq a,zq b,bg c]++dd 30 [],[[],dn d e f g h,[(V.int .i64 i,false),(V.int .i64 j,false),(V.str k,false),(V.slice 3 120 o,true),(V.slice 5 53 p,true)]]++nn 34 [],σ⟩
def De:af→pX RO→vR RO→vR RO:=fun call L1 bh a c i j k b d e f g h σ=>
 bb c fun i1=>
 bif (i1==3)then
 cz b 5 53 fun l2=>
 bo 1 l2<|
 iz a<|
 cz b 5 53 fun l3=>
 bo 0 l3<|
 gr (bh (a++[[(ak l2 1 0),(ak l2 1 1),(ak l2 1 2),(ak l2 1 3),(ak l2 1 4)]])) l3 0 d e f g h σ
 else
 L1 a [] (wrap .i64 ((a.length:Int) - 1)) c i j k b d e f g h σ
def rV (call:af) (n:Nat):=eR fun r=>De call (lx call n n) r
def U1:vR St:=fun a b c d e f g h i j k σ=>⟨[aU,cH 1,cH 2,aU,zq a]++dd 32 [],[[],dn b c d e f,[(V.int .i64 g,false),(V.int .i64 h,false),(V.str i,false),(V.slice 3 120 j,true),(V.slice 5 53 k,true)]]++nn 34 [],σ⟩
def U2:af→Nat→cM RR:=fun call n a b c d e σ=>
 (rV call n n) [] (aP a) (aP b) (V.str c) (iP d) (dk e) 0 0 (ByteArray.mk #[]) [] [] σ
theorem KO (call:af) (n:Nat) (m:Nat):lx call n m=lq C BU call n 2 (pt 500) [] U0 m:=bn (fun F x=>by kernel_rfl) m
theorem KQ (call:af) (n:Nat) (m:Nat):rV call n m=lq C BU call n 0 (pt 56) [] U1 m:=bn (fun F x=>by rw[KO];kernel_rfl) m
theorem NJ{n a b c e f b0}:bS 219 [((aC a b c e f),b0)] (U2 (ah C) n a b c e f):=bV BU n (e:=by intro _;rw[U2,KQ];kernel_rfl)
abbrev pY (α:Type):=Nat→V→iF (V→V→V→V→V→cM (az→α))
def vS:af→pY RO→pY RO:=fun call bh b c e f h i j k d o p q r s σ=>
 bif (decide (f<e))then
 cz d 5 53 fun l1=>
 bo 0 l1<|
 aE call 251 (bH (V.ptr 305 b 0) (bJ l1 0) c) σ 1 (fun a g=>
 bQ (ae a) 5<|
 cj g 305 b 16 fun m5=>
 (V.rowLen m5).bind fun n6=>
 aE call 252 (aF c (aP (n6:Int))) g 1 fun t u=>
 aE call 223 (aF (V.ptr 305 b 0) (bA (ae a))) u 0 fun w v=>
 cz d 5 53 fun UU=>
 bo 1 UU<|
 gr (bh b (ae t) e (bp f)) UU 1 o p q r s v)
 else
 cq (bF h i j k d) c σ
def mZ (call:af) (n:Nat):=eR (vS call)
def NK:pY St:=fun a b c d e f g h i j k o p q σ=>⟨[gV (V.ptr 305 a 0),aU,gV b,bg c,aU,cH 5,aU,aU,cH 8,aU,bg d]++dd 29 [],nn 5 ([dn e f g h i,[],[],[(V.int .i64 j,false),(V.int .i64 k,false),(V.str o,false),(V.slice 3 120 p,true),(V.slice 5 53 q,true)]]++nn 31 []),σ⟩
def Df:af→Nat→Nat→cM (eh RR):=fun call n a b c d e f g h σ=>
 (mZ call n n) a (V.slice 1 3 g) h 0 (aP b) (aP c) (V.str d) (iP e) (dk f) 0 0 (ByteArray.mk #[]) [] [] σ
theorem Fs (call:af) (n:Nat) (m:Nat):mZ call n m=lq C zl call n 0 (pt 52) [] NK m:=bn (fun F x=>by kernel_rfl) m
theorem IE{n a b c e f g i j b0 b1 b2 b3}:bS 220 [(V.ptr 305 a 0,b0),((aC b c e f g),b1),(V.slice 1 3 i,b2),(V.int .i64 j,b3)] (Df (ah C) n a b c e f g i j):=bV zl n (e:=by intro _;rw[Df,Fs];kernel_rfl)
abbrev na (α:Type):=Nat→eh (V→V→V→V→V→cM (az→α))
def pZ:af→na RO→na RO:=fun call bh d c b e f g h i j k o p q σ=>
 bif (decide (b<(c.length:Int)))then
 bo b c<|
 aE call 227 (aF (V.ptr 305 d 0) (ak c b 0)) σ 1 (fun r s=>
 aE call 228 (aF (bF e f g h i) (ae r)) s 1 fun a t=>
 bQ (ae a) 5<|
 cR (bh d c (bp b)) (ae a) j k o p q t)
 else
 aq (bF e f g h i) σ
def jS (call:af) (n:Nat):=eR (pZ call)
def IF:na St:=fun a b c d e f g h i j k o p σ=>⟨[gV (V.ptr 305 a 0),aU,gV (V.slice 1 3 b),aU,cH 4,aU,cH 6,bg c]++dd 15 [],nn 4 ([dn d e f g h,[],[(V.int .i64 i,false),(V.int .i64 j,false),(V.str k,false),(V.slice 3 120 o,true),(V.slice 5 53 p,true)]]++nn 16 []),σ⟩
def vT:af→Nat→Nat→cM (LL→RR):=fun call n a b c d e f g σ=>
 (jS call n n) a g 0 (aP b) (aP c) (V.str d) (iP e) (dk f) 0 0 (ByteArray.mk #[]) [] [] σ
theorem BE (call:af) (n:Nat) (m:Nat):jS call n m=lq C rR call n 0 (pt 52) [] IF m:=bn (fun F x=>by kernel_rfl) m
theorem Dg{n a b c e f g i b0 b1 b2}:bS 221 [(V.ptr 305 a 0,b0),((aC b c e f g),b1),(V.slice 1 3 i,b2)] (vT (ah C) n a b c e f g i):=bV rR n (e:=by intro _;rw[vT,BE];kernel_rfl)
def KR:af→Nat→AX RR:=fun call n b c σ=>
 cj σ 305 b 2 fun m1=>
 aE call 253 (aM m1) σ 1 fun a d=>
 jq (ae a) false 1<|
 aq (V.agg [(aP 2),(aP 0),V.str c,(ae a),V.slice 5 53 []]) d
theorem IG{n a b b0 b1}:bS 222 [(V.ptr 305 a 0,b0),(V.str b,b1)] (KR (ah C) n a b):=bV Gn n
def ZH:af→Nat→kd RR:=fun call n a b c σ=>
 aq (aC 1 0 ⟨#[]⟩ [[V.int .i64 a,V.str b,V.slice 3 120 c]] []) σ
theorem Rp{n a b c b0}:bS 225 [((bU a b c),b0)] (ZH (ah C) n a b c):=bV UJ n
end Go.Ab.Mk
end
noncomputable section
set_option maxRecDepth 100000
namespace Go.Ab.Mk
open Go.Proofs Go.Ab
open List (getD)
open IntKind (wrap)
abbrev p9 (α:Type):=Nat→Int→LL→Rq (ke (az→α))
abbrev me (α:Type):=Nat→Int→V→V→Rq (ke (V→V→V→V→V→V→V→V→V→V→az→α))
abbrev mf (α:Type):=Nat→Int→V→V→V→ByteArray→ke (V→V→V→V→V→az→α)
def vU:af→mf RO→mf RO:=fun call rq d h e f g i r s t u v w x y z a0 j k o p q σ=>
 cz f 5 53 fun l1=>
 bb g fun i2=>
 bif (decide (i2<(l1.length:Int)))then
 cz f 5 53 fun l3=>
 bb g fun i4=>
 bo i4 l3<|
 aE call 251 (bH (V.ptr 305 d 0) (bJ l3 i4) e) σ 1 (fun a1 a2=>
 aE call 228 (aF (bF j k o p q) (ae a1)) a2 1 fun a a3=>
 bQ (ae a) 5<|
 bb g fun i11=>
 cR (rq d h e f (aP (bp i11)) i r s t u v w x y z a0) (ae a) a3)
 else
 aE call 222 (aF (V.ptr 305 d 0) (V.str i)) σ 1 fun a4 a5=>
 aE call 221 (bH (V.ptr 305 d 0) (ae a4) e) a5 1 fun a6 a7=>
 aE call 228 (aF (bF j k o p q) (ae a6)) a7 1 fun b a8=>
 bQ (ae b) 5<|
 aE call 224 (bH (V.ptr 305 d 0) (bA (ae b)) (aP h)) a8 1 fun c a9=>
 bQ (ae c) 5<|
 aq (bA (ae c)) a9
def kG (call:af) (n:Nat):=eR (vU call)
def NL:mf St:=fun a b c d e f g h i j k o p q r s t u v w x σ=>⟨[gV (V.ptr 305 a 0),aU,aU,cH 3,cH 4,bg b]++dd 5 ([gV c]++dd 4 ([gV d,cH 17,gV e]++dd 125 [])),[[],[],[],gW (NA f g h i j k),[(V.int .i64 o,false),(V.int .i64 p,false),(V.str q,false),(V.slice 3 120 r,true),(V.slice 5 53 s,true)]]++nn 12 ([dn t u v w x]++nn 126 []),σ⟩
def vV:af→mf RO→me RO→me RO:=fun call L2 eU a f g d b h i j k o p q r s t u a8 a9 c0 c1 v w x y z a0 σ=>
 bb g fun i1=>
 bif (decide (b<i1))then
 cz v 5 53 fun l2=>
 bo 0 l2<|
 cj σ 305 a 1 fun m3=>
 aE call 250 (aF (bJ l2 0) m3) σ 1 (fun a4 e=>
 cB (ae a4) fun b7=>
 bif b7 then
 cj e 305 a 13 fun m8=>
 bb m8 fun i9=>
 cz d 1 3 fun l10=>
 dS (decide (0≤(0:Int))&&decide (0≤(wrap .i64 (i9+b)))&&decide ((wrap .i64 (i9+b))≤l10.length))<|
 cj e 305 a 13 fun m11=>
 bb m11 fun i12=>
 cz d 1 3 fun UU=>
 bo (wrap .i64 (i12+b)) UU<|
 aE call 255 (ft (V.ptr 305 a 0) (bJ l2 0) (V.slice 1 3 ((l10.take (Int.toNat (wrap .i64 (i9+b)))).drop (Int.toNat 0))) (ak UU (wrap .i64 (i12+b)) 0)) e 1 (fun a5 a6=>
 aE call 223 (aF (V.ptr 305 a 0) (ae a5)) a6 0 fun c2 a7=>
 cz v 5 53 fun UW=>
 bo 1 UW<|
 gr (eU a f g d (bp b) h i j k o p q r s t u) UW 1 w x y z a0 a7)
 else
 cz v 5 53 fun Yh=>
 bo 1 Yh<|
 gr (eU a f g d (bp b) h i j k o p q r s t u) Yh 1 w x y z a0 e)
 else
 aE call 219 (aM (bF w x y z a0)) σ 2 fun a1 a2=>
 bQ (ae a1) 5<|
 cj a2 305 a 17 fun Yi=>
 aE call 227 (aF (V.ptr 305 a 0) Yi) a2 1 fun c a3=>
 bQ (ae c) 5<|
 cj a3 305 a 13 fun m29=>
 cR (L2 a f d (aH a1) m29 h i j k o p q r s t u) (ae c) a3
def kH (call:af) (n:Nat):=eR fun r=>vV call (kG call n n) r
def NM:me St:=fun a b c d e f g h i j k o p q r s t u v w x y z a0 a1 a2 σ=>⟨[gV (V.ptr 305 a 0),aU,aU,cH 3,cH 4,bg b,aU,aU,cH 8,gV c,cH 10,gV d,bg e]++dd 131 [],[[],[],[],gW (NA f g h i j k),[(V.int .i64 o,false),(V.int .i64 p,false),(V.str q,false),(V.slice 3 120 r,true),(V.slice 5 53 s,true)],[],[],[],dn t u v w x,[],dn y z a0 a1 a2]++nn 133 [],σ⟩
def vW:af→me RO→p9 RO→p9 RO:=fun call L1 bh c k d e o f g h i j p q r s t σ=>
 cj σ 305 c 13 fun m1=>
 bb m1 fun i2=>
 bif (decide (e<i2))then
 iz d<|
 bh c k (d++[[aP e]]) (bp e) o f g h i j p q r s t σ
 else
 cj σ 305 c 13 fun m3=>
 aE call 172 (aF (aC f g h i j) m3) σ 1 fun a v=>
 bQ (ae a) 5<|
 aE call 171 (aM (bA (ae a))) v 1 fun u w=>
 aE call 220 (ft (V.ptr 305 c 0) (bA (ae a)) (V.slice 1 3 d) (ae u)) w 2 fun b x=>
 bQ (ae b) 5<|
 cR (cR (L1 c k (ae u) (aH b) 0 o f g h i j p q r s t) (ae a)) (ae b) x
def nd (call:af) (n:Nat):=eR fun r=>vW call (kH call n n) r
def NN:p9 St:=fun a b c d e f g h i j k o p q r σ=>⟨[gV (V.ptr 305 a 0),aU,aU,cH 3,cH 4,bg b,KG (V.slice 1 3 c),bg d]++dd 136 [],[[],[],[],gW (NA e f g h i j),[(V.int .i64 k,false),(V.int .i64 o,false),(V.str p,false),(V.slice 3 120 q,true),(V.slice 5 53 r,true)]]++nn 139 [],σ⟩
def xy:af→Nat→AX (cM RR):=fun call n a b c d e f g σ=>
 cj σ 305 a 16 fun m1=>
 (V.rowLen m1).bind fun n2=>
 (nd call n n) a (n2:Int) [] 0 b c d e f g 0 0 (ByteArray.mk #[]) [] [] σ
theorem Ft (call:af) (n:Nat) (m:Nat):kG call n m=lq C oU call n 4 (pt 32756) [] NL m:=bn (fun F x=>by kernel_rfl) m
theorem Fv (call:af) (n:Nat) (m:Nat):kH call n m=lq C oU call n 2 (pt 4084) [] NM m:=bn (fun F x=>by rw[Ft];kernel_rfl) m
theorem Fw (call:af) (n:Nat) (m:Nat):nd call n m=lq C oU call n 0 (pt 244) [] NN m:=bn (fun F x=>by rw[Fv];kernel_rfl) m
theorem IH{n a b c e f g i b0 b1}:bS 226 [(V.ptr 305 a 0,b0),((NA b c e f g i),b1)] (xy (ah C) n a b c e f g i):=bV oU n (e:=by intro _;rw[xy,Fw];kernel_rfl)
def recAt:af→Nat→Nat→Int→RR:=fun call n b c σ=>
 cj σ 305 b 16 fun m1=>
 (V.rowLen m1).bind fun n2=>
 aE call 229 (aM (aP (wrap .i64 ((wrap .i64 ((n2:Int) - 1)) - c)))) σ 1 fun a d=>
 bQ (ae a) 5<|
 aq (bA (ae a)) d
theorem Rr{n a b b0 b1}:bS 227 [(V.ptr 305 a 0,b0),(V.int .i64 b,b1)] (recAt (ah C) n a b):=bV UK n
def ab7:af→Nat→ke RR:=fun call n a b c d e f g h i j σ=>
 aq (aC 3 0 ⟨#[]⟩ [] [[V.int .i64 a,V.int .i64 b,V.str c,V.slice 3 120 d,V.slice 5 53 e],[V.int .i64 f,V.int .i64 g,V.str h,V.slice 3 120 i,V.slice 5 53 j]]) σ
theorem U3{n a b c e f g i j k o b0 b1}:bS 228 [((aC a b c e f),b0),((aC g i j k o),b1)] (ab7 (ah C) n a b c e f g i j k o):=bV ZA n
def adw:af→Nat→Int→RR:=fun call n a σ=>
 aq (aC 0 a ⟨#[]⟩ [] []) σ
theorem U4{n a b0}:bS 229 [(V.int .i64 a,b0)] (adw (ah C) n a):=bV ZB n
end Go.Ab.Mk
end
noncomputable section
set_option maxRecDepth 100000
namespace Go.Ab.Mk
open Go.Proofs Go.Ab
open List (getD)
open IntKind (wrap)
abbrev vX (α:Type):=Nat→LL→V→Int→ke (V→V→V→V→V→az→α)
def Dh:af→vX RO→vX RO:=fun call bh d f g a q r s b t u v w x y h i j k o σ=>
 bif (decide (a<(b.length:Int)))then
 bo a b<|
 aE call 257 (aF (V.agg [(ak b a 0),(ak b a 1),(ak b a 2)]) (de f)) σ 1 (fun z p=>
 cB (ae z) fun b4=>
 bif (!b4)then
 cq (aC 0 0 ⟨#[]⟩ [] []) (aP 5) p
 else
 bh d f g (bp a) q r s b t u v w x y h i j k o p)
 else
 aE call 258 (ft (V.ptr 49 d 0) (bF h i j k o) g (iP b)) σ 1 fun c e=>
 bQ (ae c) 5<|
 cj e 49 d 1 fun m8=>
 cB m8 fun b9=>
 bif b9 then
 cq (aC 0 0 ⟨#[]⟩ [] []) (aP 14) e
 else
 cq (bA (ae c)) (aP 0) e
def rW (call:af) (n:Nat):=eR (Dh call)
def U5:vX St:=fun a b c d e f g h i j k o p q r s t u v σ=>⟨[nD a,zr b]++dd 6 ([cH 8,aU,cH 10,aU,aU,gV c,cH 14,aU,bg d]++dd 268 []),nn 8 ([gW (aC e f g h i),[],[(V.int .i64 j,false),(V.int .i64 k,false),(V.str o,false),(V.slice 3 120 p,true),(V.slice 5 53 q,true)],[],[],[],dn r s t u v]++nn 270 []),σ⟩
def gA:af→Nat→Nat→LL→LL→cM (Int→RR):=fun call n c f b i d x e a g σ=>
 cj σ 49 c 1 fun m1=>
 cB m1 fun b2=>
 bif b2 then
 cq (aC 0 0 ⟨#[]⟩ [] []) (aP 14) σ
 else
 bif (i==0)then
 bif (decide (d≥(b.length:Int)))then
 cq (aC 0 0 ⟨#[]⟩ [] []) (aP 7) σ
 else
 bo (wrap .i64 ((wrap .i64 ((b.length:Int) - 1)) - d)) b<|
 aE call 256 (bH (bJ b (wrap .i64 ((wrap .i64 ((b.length:Int) - 1)) - d))) (aP (bp d)) (aP 0)) σ 1 (fun q c2=>
 bQ (ae q) 5<|
 cq (bA (ae q)) (aP 0) c2)
 else
 bif (i==1)then
 bo 0 e<|
 aE call 257 (aF (V.agg [(ak e 0 0),(ak e 0 1),(ak e 0 2)]) (de f)) σ 1 (fun c3 a1=>
 cB (ae c3) fun b9=>
 bif (!b9)then
 cq (aC 0 0 ⟨#[]⟩ [] []) (aP 5) a1
 else
 bo 0 e<|
 aE call 225 (aM (bU 1 ⟨#[]⟩ [[(ak e 0 0),(ak e 0 1),(ak e 0 2)]])) a1 1 fun r c4=>
 bQ (ae r) 5<|
 cq (bA (ae r)) (aP 0) c4)
 else
 bif (i==2)then
 aE call 16 (aF (V.ptr 49 c 0) (V.str x)) σ 3 (fun h y=>
 bQ (aH h) 5<|
 (V.asBool (getD h 2 bZ).1).bind fun UQ=>
 bif (!UQ)then
 cq (aC 0 0 ⟨#[]⟩ [] []) (aP 4) y
 else
 cz (ae h) 1 9 fun l17=>
 bif ((l17.length:Int) != (e.length:Int))then
 cq (aC 0 0 ⟨#[]⟩ [] []) (aP 6) y
 else
 cR ((rW call n n) c f (ae h) 0 i d x e a 0 0 (ByteArray.mk #[]) [] []) (aH h) y)
 else
 bif (i==3)then
 aE call 259 (dn (V.ptr 49 c 0) (de f) (dk b) (aC i d x e a) (aP g)) σ 2 (fun o c5=>
 bQ (ae o) 5<|
 cq (bA (ae o)) (aH o) c5)
 else
 bif (i==4)then
 bo 0 a<|
 aE call 170 (dn (V.ptr 49 c 0) (de f) (dk b) (bJ a 0) (aP g)) σ 2 (fun z a2=>
 bQ (ae z) 3<|
 bb (aH z) fun i24=>
 bif (i24 != 0)then
 cq (aC 0 0 ⟨#[]⟩ [] []) (aH z) a2
 else
 bo 0 a<|
 bo 1 a<|
 aE call 218 (aF (dk b) (bJ a 0)) a2 1 fun a3 c6=>
 AU a3<|
 aE call 179 [(V.ptr 49 c 0,false),(V.slice 1 9 f,false),((ae a3),true),((bJ a 1),false),(V.int .i64 g,false)] c6 2 fun j a4=>
 bQ (ae j) 5<|
 bb (aH j) fun i31=>
 bif (i31 != 0)then
 cq (aC 0 0 ⟨#[]⟩ [] []) (aH j) a4
 else
 bo 0 a<|
 aE call 254 (aF (bJ a 0) (bA (ae j))) a4 1 fun s c7=>
 bQ (ae s) 5<|
 cq (bA (ae s)) (aP 0) c7)
 else
 bif (i==5)then
 bo 0 a<|
 aE call 170 (dn (V.ptr 49 c 0) (de f) (dk b) (bJ a 0) (aP g)) σ 2 (fun t a5=>
 bQ (ae t) 3<|
 bb (aH t) fun i38=>
 bif (i38 != 0)then
 cq (aC 0 0 ⟨#[]⟩ [] []) (aH t) a5
 else
 bo 0 a<|
 bo 1 a<|
 aE call 218 (aF (dk b) (bJ a 0)) a5 1 fun a6 c8=>
 AU a6<|
 aE call 170 [(V.ptr 49 c 0,false),(V.slice 1 9 f,false),((ae a6),true),((bJ a 1),false),(V.int .i64 g,false)] c8 2 fun u a7=>
 bQ (ae u) 3<|
 bb (aH u) fun i45=>
 bif (i45 != 0)then
 cq (aC 0 0 ⟨#[]⟩ [] []) (aH u) a7
 else
 aE call 225 (aM (bU 3 ⟨#[]⟩ [[V.cell (ae t) 0,V.cell (ae t) 1,V.cell (ae t) 2],[V.cell (ae u) 0,V.cell (ae u) 1,V.cell (ae u) 2]])) a7 1 fun v c9=>
 bQ (ae v) 5<|
 cq (bA (ae v)) (aP 0) c9)
 else
 bo 0 a<|
 aE call 170 (dn (V.ptr 49 c 0) (de f) (dk b) (bJ a 0) (aP g)) σ 2 fun a0 a8=>
 bQ (ae a0) 3<|
 bb (aH a0) fun i52=>
 bif (i52 != 0)then
 cq (aC 0 0 ⟨#[]⟩ [] []) (aH a0) a8
 else
 bo 1 a<|
 aE call 179 (dn (V.ptr 49 c 0) (de f) (dk b) (bJ a 1) (aP g)) a8 2 fun k a9=>
 bQ (ae k) 5<|
 bb (aH k) fun i56=>
 bif (i56 != 0)then
 cq (aC 0 0 ⟨#[]⟩ [] []) (aH k) a9
 else
 bo 0 a<|
 aE call 180 (ft (V.ptr 49 c 0) (bA (ae k)) (bJ a 0) (aP g)) a9 1 fun c0 c1=>
 bb (ae c0) fun i60=>
 bif (i60 != 0)then
 cq (aC 0 0 ⟨#[]⟩ [] []) (ae c0) c1
 else
 bo 2 a<|
 bo 1 a<|
 aE call 260 (bH (V.ptr 49 c 0) (bJ a 2) (bJ a 1)) c1 1 fun w d0=>
 bQ (ae w) 5<|
 aE call 179 (dn (V.ptr 49 c 0) (de f) (dk b) (bA (ae w)) (aP g)) d0 2 fun p d1=>
 bQ (ae p) 5<|
 cq (bA (ae p)) (aH p) d1
theorem KS (call:af) (n:Nat) (m:Nat):rW call n m=lq C It call n 1 (pt 483188) [] U5 m:=bn (fun F x=>by kernel_rfl) m
theorem Di{n a b c e f g i j k b0 b1 b2 b3 b4}:bS 230 [(V.ptr 49 a 0,b0),(V.slice 1 9 b,b1),(V.slice 5 53 c,b2),((aC e f g i j),b3),(V.int .i64 k,b4)] (gA (ah C) n a b c e f g i j k):=bV It n (e:=by intro _;rw[gA,KS];kernel_rfl)
abbrev vY (α:Type):=iF (Int→cM (az→α))
abbrev qc (α:Type):=iF (Int→cM (az→α))
def Dj:af→qc RO→qc RO:=fun call eU d c a e f g h b σ=>
 bif (decide (a<(b.length:Int)))then
 bif (decide (c≤d))then
 bo a b<|
 aE call 231 (aF (bJ b a) (aP (wrap .i64 (d - c)))) σ 1 (fun i j=>
 bb (ae i) fun i4=>
 eU d (wrap .i64 (c+i4)) (bp a) e f g h b j)
 else
 aq (aP c) σ
 else
 aq (aP c) σ
def oZ (call:af) (n:Nat):=eR (Dj call)
def U6:qc St:=fun a b c d e f g h σ=>⟨[aU,bg a,cH 2,aU,aU,bg b,aU,aU,bg c]++dd 50 [],[[],[],gW (aC d e f g h)]++nn 56 [],σ⟩
def Dk:af→qc RO→vY RO→vY RO:=fun call L1 bh c d b e f g a h σ=>
 bif (decide (b<(a.length:Int)))then
 bif (decide (d≤c))then
 bo b a<|
 aE call 73 (aF (V.agg [(ak a b 0),(ak a b 1),(ak a b 2)]) (aP (wrap .i64 (c - d)))) σ 1 (fun i j=>
 bb (ae i) fun i4=>
 bh c (wrap .i64 (d+i4)) (bp b) e f g a h j)
 else
 L1 c d 0 e f g a h σ
 else
 L1 c d 0 e f g a h σ
def xA (call:af) (n:Nat):=eR fun r=>Dk call (oZ call n n) r
def U7:vY St:=fun a b c d e f g h σ=>⟨[aU,bg a,cH 2,aU,aU,bg b,bg c]++dd 52 [],[[],[],gW (aC d e f g h)]++nn 56 [],σ⟩
def U8:af→Nat→cM (Int→RR):=fun call n a b c d e f σ=>
 (xA call n n) f 1 0 a b c d e σ
theorem KT (call:af) (n:Nat) (m:Nat):oZ call n m=lq C BV call n 2 (pt 244) [] U6 m:=bn (fun F x=>by kernel_rfl) m
theorem KU (call:af) (n:Nat) (m:Nat):xA call n m=lq C BV call n 0 (pt 116) [] U7 m:=bn (fun F x=>by rw[KT];kernel_rfl) m
theorem NQ{n a b c e f g b0 b1}:bS 231 [((aC a b c e f),b0),(V.int .i64 g,b1)] (U8 (ah C) n a b c e f g):=bV BV n (e:=by intro _;rw[U8,KU];kernel_rfl)
end Go.Ab.Mk
end
noncomputable section
set_option maxRecDepth 100000
namespace Go.Ab.Mk
open Go.Proofs Go.Ab
open List (getD)
open IntKind (wrap)
abbrev zt (α:Type):=Nat→Nat→V→V→V→V→V→cM (az→α)
def II:af→zt RO→zt RO:=fun call bh c d e f g h i s t u v w σ=>
 cj σ 332 d 2 fun m1=>
 cB m1 fun b2=>
 bif (!b2)then
 cj σ 49 c 1 fun m3=>
 cB m3 fun b4=>
 bif (!b4)then
 aE call 219 (aM (bF e f g h i)) σ 2 (fun b x=>
 bQ (ae b) 5<|
 bb (V.cell (ae b) 0) fun i8=>
 bif (i8==4)then
 cz (aH b) 5 53 fun l9=>
 bif ((l9.length:Int)==0)then
 aq (bF e f g h i) x
 else
 aE call 266 (aM (V.ptr 332 d 0)) x 1 (fun a3 y=>
 cB (ae a3) fun Yf=>
 bif (!Yf)then
 aq (bF e f g h i) y
 else
 cz (V.cell (ae b) 4) 5 53 fun ZF=>
 bo 1 ZF<|
 cz (aH b) 5 53 fun Kd=>
 bo 0 Kd<|
 cz (aH b) 5 53 fun ZI=>
 dS (decide (0≤(1:Int))&&decide (1≤(ZI.length:Int))&&decide ((ZI.length:Int)≤ZI.length))<|
 aE call 260 (bH (V.ptr 49 c 0) (bJ ZF 1) (bJ Kd 0)) y 1 fun a4 a5=>
 aE call 267 (aF (ae a4) (dk ((ZI.take (Int.toNat (ZI.length:Int))).drop (Int.toNat 1)))) a5 1 fun o a6=>
 bQ (ae o) 5<|
 aE call 268 (bH (V.ptr 49 c 0) (bA (ae o)) (V.ptr 332 d 0)) a6 0 fun d0 a7=>
 cR (bh c d) (ae o) s t u v w a7)
 else
 bb (V.cell (ae b) 0) fun i26=>
 bif (i26==6)then
 aE call 266 (aM (V.ptr 332 d 0)) x 1 (fun a8 z=>
 cB (ae a8) fun b30=>
 bif (!b30)then
 aq (bF e f g h i) z
 else
 cz (V.cell (ae b) 4) 5 53 fun l31=>
 bo 2 l31<|
 cz (V.cell (ae b) 4) 5 53 fun l32=>
 bo 1 l32<|
 aE call 260 (bH (V.ptr 49 c 0) (bJ l31 2) (bJ l32 1)) z 1 fun a9 c0=>
 aE call 267 (aF (ae a9) (aH b)) c0 1 fun p c1=>
 bQ (ae p) 5<|
 aE call 268 (bH (V.ptr 49 c 0) (bA (ae p)) (V.ptr 332 d 0)) c1 0 fun d1 c2=>
 cR (bh c d) (ae p) s t u v w c2)
 else
 bb (V.cell (ae b) 0) fun i42=>
 bif (i42==2)then
 aE call 28 (aF (V.ptr 49 c 0) (V.cell (ae b) 2)) x 3 (fun a r=>
 bQ (aH a) 21<|
 bb (ae a) fun i46=>
 bif (i46==2)then
 cz (V.cell (aH a) 2) 1 9 fun l47=>
 cz (V.cell (ae b) 3) 3 120 fun l48=>
 bif ((l47.length:Int)==(l48.length:Int))then
 aE call 266 (aM (V.ptr 332 d 0)) r 1 (fun c3 a0=>
 cB (ae c3) fun b52=>
 bif (!b52)then
 aq (bF e f g h i) a0
 else
 aE call 258 (ft (V.ptr 49 c 0) (V.agg [V.cell (aH a) 8,V.cell (aH a) 9,V.cell (aH a) 10,V.cell (aH a) 11,V.cell (aH a) 12]) (V.cell (aH a) 2) (V.cell (ae b) 3)) a0 1 fun c4 c5=>
 aE call 267 (aF (ae c4) (aH b)) c5 1 fun q c6=>
 bQ (ae q) 5<|
 aE call 268 (bH (V.ptr 49 c 0) (bA (ae q)) (V.ptr 332 d 0)) c6 0 fun d2 c7=>
 cR (bh c d) (ae q) s t u v w c7)
 else
 bb (ae a) fun i62=>
 bif (i62==5)then
 cz (V.cell (aH a) 15) 1 9 fun l63=>
 cz (V.cell (ae b) 3) 3 120 fun l64=>
 bif ((l63.length:Int)==(l64.length:Int))then
 aE call 269 (dn (V.ptr 49 c 0) (bA (ae b)) (aH b) (V.agg [V.cell (aH a) 0,V.cell (aH a) 1,V.cell (aH a) 2,V.cell (aH a) 3,V.cell (aH a) 4,V.cell (aH a) 5,V.cell (aH a) 6,V.cell (aH a) 7,V.cell (aH a) 8,V.cell (aH a) 9,V.cell (aH a) 10,V.cell (aH a) 11,V.cell (aH a) 12,V.cell (aH a) 13,V.cell (aH a) 14,V.cell (aH a) 15,V.cell (aH a) 16,V.cell (aH a) 17,V.cell (aH a) 18,V.cell (aH a) 19,V.cell (aH a) 20]) (V.ptr 332 d 0)) r 2 (fun j a1=>
 bQ (ae j) 5<|
 cB (aH j) fun b68=>
 bif b68 then
 aE call 268 (bH (V.ptr 49 c 0) (bA (ae j)) (V.ptr 332 d 0)) a1 0 (fun d3 c8=>
 cR (bh c d) (ae j) s t u v w c8)
 else
 aq (bF e f g h i) a1)
 else
 aq (bF e f g h i) r
 else
 aq (bF e f g h i) r
 else
 bb (ae a) fun i72=>
 bif (i72==5)then
 cz (V.cell (aH a) 15) 1 9 fun l73=>
 cz (V.cell (ae b) 3) 3 120 fun l74=>
 bif ((l73.length:Int)==(l74.length:Int))then
 aE call 269 (dn (V.ptr 49 c 0) (bA (ae b)) (aH b) (V.agg [V.cell (aH a) 0,V.cell (aH a) 1,V.cell (aH a) 2,V.cell (aH a) 3,V.cell (aH a) 4,V.cell (aH a) 5,V.cell (aH a) 6,V.cell (aH a) 7,V.cell (aH a) 8,V.cell (aH a) 9,V.cell (aH a) 10,V.cell (aH a) 11,V.cell (aH a) 12,V.cell (aH a) 13,V.cell (aH a) 14,V.cell (aH a) 15,V.cell (aH a) 16,V.cell (aH a) 17,V.cell (aH a) 18,V.cell (aH a) 19,V.cell (aH a) 20]) (V.ptr 332 d 0)) r 2 (fun k a2=>
 bQ (ae k) 5<|
 cB (aH k) fun b78=>
 bif b78 then
 aE call 268 (bH (V.ptr 49 c 0) (bA (ae k)) (V.ptr 332 d 0)) a2 0 (fun d4 c9=>
 cR (bh c d) (ae k) s t u v w c9)
 else
 aq (bF e f g h i) a2)
 else
 aq (bF e f g h i) r
 else
 aq (bF e f g h i) r)
 else
 aq (bF e f g h i) x)
 else
 aq (bF e f g h i) σ
 else
 aq (bF e f g h i) σ
def tT (call:af) (n:Nat):=eR (II call)
def Yj:zt St:=fun a b c d e f g h i j k o σ=>⟨[nD a,aU,gV (V.ptr 332 b 0),aU,cH 4,aU,cH 6]++dd 150 [],nn 4 ([dn c d e f g,[],[(V.int .i64 h,false),(V.int .i64 i,false),(V.str j,false),(V.slice 3 120 k,true),(V.slice 5 53 o,true)]]++nn 150 []),σ⟩
def ZJ:af→Nat→Nat→cM (Nat→RR):=fun call n a b c d e f g σ=>
 (tT call n n) a g (aP b) (aP c) (V.str d) (iP e) (dk f) 0 0 (ByteArray.mk #[]) [] [] σ
theorem NR (call:af) (n:Nat) (m:Nat):tT call n m=lq C Nw call n 0 (pt 24) [] Yj m:=bn (fun F x=>by kernel_rfl) m
theorem Gs{n a b c e f g i b0 b1 b2}:bS 246 [(V.ptr 49 a 0,b0),((aC b c e f g),b1),(V.ptr 332 i 0,b2)] (ZJ (ah C) n a b c e f g i):=bV Nw n (e:=by intro _;rw[ZJ,NR];kernel_rfl)
abbrev rX (α:Type):=Nat→Nat→V→V→Int→cM (V→V→V→V→V→az→α)
abbrev rY (α:Type):=Nat→Nat→V→eh (V→V→V→V→V→cM (az→α))
def zu:af→rX RO→rX RO:=fun call bh e f o d a p q r s t g h i j k σ=>
 cz d 5 53 fun l1=>
 bif (decide (a<(l1.length:Int)))then
 cz d 5 53 fun l2=>
 bo a l2<|
 aE call 270 (ft (V.ptr 49 e 0) (bJ l2 a) o (V.ptr 332 f 0)) σ 2 (fun b u=>
 bQ (ae b) 5<|
 aE call 228 (aF (bF g h i j k) (bA (ae b))) u 1 fun c v=>
 bQ (ae c) 5<|
 cR (bh e f (aH b) d (bp a) p q r s t) (ae c) v)
 else
 aq (bF g h i j k) σ
def kI (call:af) (n:Nat):=eR (zu call)
def Rs:rX St:=fun a b c d e f g h i j k o p q r σ=>⟨[nD a,aU,gV (V.ptr 332 b 0),aU,aU,aU,cH 6,gV c,cH 8,gV d,bg e]++dd 105 [],nn 6 ([[(V.int .i64 f,false),(V.int .i64 g,false),(V.str h,false),(V.slice 3 120 i,true),(V.slice 5 53 j,true)],[],dn k o p q r]++nn 107 []),σ⟩
def zx:af→rY RO→rY RO:=fun call eU f g o e a h i j k d p q r s t σ=>
 cz d 5 53 fun l1=>
 bif (decide (a<(l1.length:Int)))then
 cz d 5 53 fun l2=>
 bo a l2<|
 aE call 270 (ft (V.ptr 49 f 0) (bJ l2 a) o (V.ptr 332 g 0)) σ 2 (fun b u=>
 bQ (ae b) 5<|
 iz e<|
 eU f g (aH b) (e++[[V.cell (ae b) 0,V.cell (ae b) 1,V.cell (ae b) 2,V.cell (ae b) 3,V.cell (ae b) 4]]) (bp a) h i j k d p q r s t u)
 else
 aE call 271 (aF (bF h i j k d) (dk e)) σ 1 fun c v=>
 bQ (ae c) 5<|
 aq (bA (ae c)) v
def kJ (call:af) (n:Nat):=eR (zx call)
def Rt:rY St:=fun a b c d e f g h i j k o p q r σ=>⟨[nD a,aU,gV (V.ptr 332 b 0),aU,cH 4,aU,cH 6,gV c]++dd 5 ([zq d,bg e]++dd 101 []),nn 4 ([dn f g h i j,[],[(V.int .i64 k,false),(V.int .i64 o,false),(V.str p,false),(V.slice 3 120 q,true),(V.slice 5 53 r,true)]]++nn 109 []),σ⟩
def BX:af→Nat→Nat→cM (Nat→RR):=fun call n b p q r s t c σ=>
 aE call 246 (bH (V.ptr 49 b 0) (aC p q r s t) (V.ptr 332 c 0)) σ 1 fun a h=>
 bQ (ae a) 5<|
 cj h 332 c 3 fun m4=>
 bb m4 fun i5=>
 (aV h (V.ptr 332 c 3) [((aP (bp i5)),false)]).bind fun m6=>
 cj m6 49 b 1 fun m7=>
 cB m7 fun b8=>
 bif b8 then
 (aV m6 (V.ptr 49 b 1) [(V.bool true,false)]).bind fun m9=>
 aE call 268 (bH (V.ptr 49 b 0) (bA (ae a)) (V.ptr 332 c 0)) m9 0 (fun w f=>
 cj f 332 c 2 fun m13=>
 cB m13 fun b14=>
 bif b14 then
 aq (bA (ae a)) f
 else
 cj f 49 b 1 fun m15=>
 cB m15 fun UQ=>
 bif UQ then
 aq (bA (ae a)) f
 else
 aE call 231 (aF (bA (ae a)) (aP 20000)) f 1 fun i j=>
 bb (V.cell (ae a) 0) fun i20=>
 bif (i20==3)then
 aE call 219 (aM (bA (ae a))) j 2 (fun d u=>
 bQ (ae d) 5<|
 cR ((kI call n n) b c (ae i) (aH d) 0 0 0 (ByteArray.mk #[]) [] []) (ae d) u)
 else
 cR ((kJ call n n) b c (ae i) [] 0) (ae a) 0 0 (ByteArray.mk #[]) [] [] j)
 else
 cj m6 332 c 3 fun m24=>
 bb m24 fun i25=>
 (aV m6 (V.ptr 49 b 1) [((V.bool (decide (i25>20000))),false)]).bind fun m26=>
 aE call 268 (bH (V.ptr 49 b 0) (bA (ae a)) (V.ptr 332 c 0)) m26 0 fun x g=>
 cj g 332 c 2 fun m30=>
 cB m30 fun b31=>
 bif b31 then
 aq (bA (ae a)) g
 else
 cj g 49 b 1 fun m32=>
 cB m32 fun b33=>
 bif b33 then
 aq (bA (ae a)) g
 else
 aE call 231 (aF (bA (ae a)) (aP 20000)) g 1 fun k o=>
 bb (V.cell (ae a) 0) fun i37=>
 bif (i37==3)then
 aE call 219 (aM (bA (ae a))) o 2 (fun e v=>
 bQ (ae e) 5<|
 cR ((kI call n n) b c (ae k) (aH e) 0 0 0 (ByteArray.mk #[]) [] []) (ae e) v)
 else
 cR ((kJ call n n) b c (ae k) [] 0) (ae a) 0 0 (ByteArray.mk #[]) [] [] o
theorem IJ (call:af) (n:Nat) (m:Nat):kI call n m=lq C xu call n 0 (pt 65364) [] Rs m:=bn (fun F x=>by kernel_rfl) m
theorem IK (call:af) (n:Nat) (m:Nat):kJ call n m=lq C xu call n 2 (pt 16372) [] Rt m:=bn (fun F x=>by kernel_rfl) m
theorem KV{n a b c e f g i b0 b1 b2}:bS 247 [(V.ptr 49 a 0,b0),((aC b c e f g),b1),(V.ptr 332 i 0,b2)] (BX (ah C) n a b c e f g i):=bV xu n (e:=by intro _;rw[BX,IJ,IK];kernel_rfl)
abbrev zy (α:Type):=eh (ke (az→α))
def tU:af→zy RO→zy RO:=fun call bh g b i j k o c p q r s t σ=>
 bif (decide (b<(c.length:Int)))then
 bo b c<|
 aE call 248 (aM (bJ c b)) σ 1 (fun d u=>
 jq (ae d) true 5<|
 iz g<|
 bh (g++[[V.cell (ae d) 0,V.cell (ae d) 1,V.cell (ae d) 2,V.cell (ae d) 3,V.cell (ae d) 4]]) (bp b) i j k o c p q r s t u)
 else
 aE call 271 (aF (aC i j k o c) (dk g)) σ 1 fun a h=>
 bQ (ae a) 5<|
 bb (V.cell (ae a) 0) fun i7=>
 bif (i7 != 4)then
 aq (bA (ae a)) h
 else
 cz (V.cell (ae a) 4) 5 53 fun l8=>
 bo 1 l8<|
 bb (ak l8 1 0) fun i9=>
 bif (i9 != 3)then
 aq (bA (ae a)) h
 else
 cz (V.cell (ae a) 4) 5 53 fun l10=>
 bo 1 l10<|
 cz (ak l10 1 4) 5 53 fun l11=>
 bo 1 l11<|
 cz (ak l10 1 4) 5 53 fun US=>
 bo 0 US<|
 aE call 272 (aF (bJ US 0) (aP 0)) h 1 fun v f=>
 bb (ak l11 1 0) fun i16=>
 bif (i16 != 0)then
 aq (bA (ae a)) f
 else
 bb (ak l11 1 1) fun i17=>
 bif (i17 != 0)then
 aq (bA (ae a)) f
 else
 cB (ae v) fun b18=>
 bif b18 then
 aq (bA (ae a)) f
 else
 cz (ak l10 1 4) 5 53 fun U9=>
 bo 0 U9<|
 aE call 229 (aM (aP 0)) f 1 fun w x=>
 aE call 273 (aF (bJ U9 0) (ae w)) x 1 fun e y=>
 bQ (ae e) 5<|
 aq (bA (ae e)) y
def tV (call:af) (n:Nat):=eR (tU call)
def Yk:zy St:=fun a b c d e f g h i j k o σ=>⟨[aU,cH 1,cH 2,zq a,bg b]++dd 65 [],[[],gW (aC c d e f g),[(V.int .i64 h,false),(V.int .i64 i,false),(V.str j,false),(V.slice 3 120 k,true),(V.slice 5 53 o,true)]]++nn 67 [],σ⟩
def short:af→Nat→cM RR:=fun call n a b c d e σ=>
 (tV call n n) [] 0 a b c d e 0 0 (ByteArray.mk #[]) [] [] σ
theorem NS (call:af) (n:Nat) (m:Nat):tV call n m=lq C Nx call n 0 (pt 116) [] Yk m:=bn (fun F x=>by kernel_rfl) m
theorem Ru{n a b c e f b0}:bS 248 [((aC a b c e f),b0)] (short (ah C) n a b c e f):=bV Nx n (e:=by intro _;rw[short,NS];kernel_rfl)
end Go.Ab.Mk
end
