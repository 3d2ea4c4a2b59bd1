/- The plain laws: substitution; a small number. -/
import Derived.Test.YtcjofhikcokhfaaGreatDoorAbMk0
import Derived.Test.YtcjofhikcokhfaaGreatDoorAbMk3
import Derived.Test.YtcjofhikcokhfaaGreatDoorAbMk6
import Derived.Test.YtcjofhikcokhfaaGreatDoorAbMk9
import Derived.Test.YtcjofhikcokhfaaGreatDoorAbMk13
import Derived.Test.YtcjofhikcokhfaaGreatDoorAbMk17
import Derived.Test.YtcjofhikcokhfaaGreatDoorAbMk20
import Derived.Test.YtcjofhikcokhfaaGreatDoorAbMp
set_option linter.unusedSimpArgs false
set_option linter.unusedVariables false
set_option linter.deprecated false
noncomputable section
set_option maxRecDepth 100000
namespace Go.Ab.Mk
open Go.Proofs Go.Ab
open List (getD)
open IntKind (wrap)
def part:af→Nat→Nat→cM (Int→Nat→RR):=fun call n e h i j k o c b σ=>
 aE call 231 (aF (aC h i j k o) (aP 20000)) σ 1 fun d p=>
 cj p 332 b 4 fun m4=>
 bb m4 fun i5=>
 bb (ae d) fun i6=>
 (aV p (V.ptr 332 b 4) [(V.int .i64 (wrap .i64 ((wrap .i64 (i5+c)) - i6)),false)]).bind fun m7=>
 aE call 247 (bH (V.ptr 49 e 0) (aC h i j k o) (V.ptr 332 b 0)) m7 1 fun a q=>
 bQ (ae a) 5<|
 cj q 332 b 4 fun m11=>
 bb m11 fun i12=>
 bb (ae d) fun i13=>
 (aV q (V.ptr 332 b 4) [(V.int .i64 (wrap .i64 ((wrap .i64 (i12 - c))+i13)),false)]).bind fun m14=>
 aE call 231 (aF (bA (ae a)) (aP 20000)) m14 1 fun g f=>
 cj f 49 e 1 fun m18=>
 cB m18 fun b19=>
 bif b19 then
 (aV f (V.ptr 49 e 1) [(V.bool true,false)]).bind fun m20=>
 bb (ae d) fun i21=>
 bb (ae g) fun i22=>
 cq (bA (ae a)) (aP (wrap .i64 ((wrap .i64 (c - i21))+i22))) m20
 else
 cj f 332 b 4 fun m23=>
 bb m23 fun i24=>
 bb (ae d) fun i25=>
 bb (ae g) fun i26=>
 (aV f (V.ptr 49 e 1) [((V.bool (decide ((wrap .i64 ((wrap .i64 ((wrap .i64 (i24+c)) - i25))+i26))>20000))),false)]).bind fun m27=>
 bb (ae d) fun i28=>
 bb (ae g) fun i29=>
 cq (bA (ae a)) (aP (wrap .i64 ((wrap .i64 (c - i28))+i29))) m27
theorem V5{n a b c e f g i j b0 b1 b2 b3}:bS 270 [(V.ptr 49 a 0,b0),((aC b c e f g),b1),(V.int .i64 i,b2),(V.ptr 332 j 0,b3)] (part (ah C) n a b c e f g i j):=bV ZC n
def acx:af→Nat→cM (LL→RR):=fun call n a b c d f e σ=>
 aq (aC a b c d e) σ
theorem Sa{n a b c e f g b0 b1}:bS 271 [((aC a b c e f),b0),(V.slice 5 53 g,b1)] (acx (ah C) n a b c e f g):=bV UN n
abbrev wB (α:Type):=iF (cM (az→α))
def D8:af→wB RO→wB RO:=fun call bh c a d e f g b σ=>
 bif (decide (a<(b.length:Int)))then
 aE call 274 (aF (aC d e f g b) (aP a)) σ 1 (fun k h=>
 cB (ae k) fun b4=>
 bif b4 then
 bo a b<|
 aE call 272 (aF (bJ b a) (aP (bp c))) h 1 (fun o i=>
 cB (ae o) fun b8=>
 bif b8 then
 aq (V.bool true) i
 else
 bh c (bp a) d e f g b i)
 else
 bo a b<|
 aE call 272 (aF (bJ b a) (aP c)) h 1 fun p j=>
 cB (ae p) fun b12=>
 bif b12 then
 aq (V.bool true) j
 else
 bh c (bp a) d e f g b j)
 else
 aq (V.bool false) σ
def xU (call:af) (n:Nat):=eR (D8 call)
def V6:wB St:=fun a b c d e f g σ=>⟨[aU,bg a,cH 2,aU,aU,bg b]++dd 30 [],[[],[],gW (aC c d e f g)]++nn 33 [],σ⟩
def Jh:af→Nat→cM (Int→RR):=fun call n a b d e f c σ=>
 bif (a==0)then
 aq (V.bool (b==c)) σ
 else
 (xU call n n) c 0 a b d e f σ
theorem Ly (call:af) (n:Nat) (m:Nat):xU call n m=lq C Iw call n 0 (pt 116) [] V6 m:=bn (fun F x=>by kernel_rfl) m
theorem D9{n a b c e f g b0 b1}:bS 272 [((aC a b c e f),b0),(V.int .i64 g,b1)] (Jh (ah C) n a b c e f g):=bV Iw n (e:=by intro _;rw[Jh,Ly];kernel_rfl)
def Qk:af→Nat→ke RR:=fun call n b c d e f g h i j k σ=>
 aE call 281 (bH (aC b c d e f) (aC g h i j k) (aP 0)) σ 1 fun a o=>
 bQ (ae a) 5<|
 aq (bA (ae a)) o
theorem Lz{n a b c e f g i j k o b0 b1}:bS 273 [((aC a b c e f),b0),((aC g i j k o),b1)] (Qk (ah C) n a b c e f g i j k o):=bV KE n
def binds:af→Nat→cM (Int→RR):=fun call n a d e f b c σ=>
 bif (decide (a≥4))then
 aq (V.bool (c==(wrap .i64 ((b.length:Int) - 1)))) σ
 else
 aq (V.bool false) σ
theorem Sb{n a b c e f g b0 b1}:bS 274 [((aC a b c e f),b0),(V.int .i64 g,b1)] (binds (ah C) n a b c e f g):=bV UO n
abbrev qt (α:Type):=iF (cM (az→α))
abbrev mr (α:Type):=iF (cM (az→α))
def wC:af→mr RO→mr RO:=fun call eU c a d e f g b σ=>
 bif (decide (a<(b.length:Int)))then
 bo a b<|
 aE call 275 (aM (bJ b a)) σ 1 (fun h i=>
 bb (ae h) fun i4=>
 eU (wrap .i64 (c+i4)) (bp a) d e f g b i)
 else
 aq (aP c) σ
def kN (call:af) (n:Nat):=eR (wC call)
def OV:mr St:=fun a b c d e f g σ=>⟨[aU,cH 1,aU,bg a,aU,aU,bg b]++dd 34 [],[[],gW (aC c d e f g)]++nn 39 [],σ⟩
def wD:af→mr RO→qt RO→qt RO:=fun call L1 bh c a d e f b g σ=>
 bif (decide (a<(b.length:Int)))then
 bo a b<|
 aE call 282 (aM (V.agg [(ak b a 0),(ak b a 1),(ak b a 2)])) σ 1 (fun h i=>
 bb (ae h) fun i4=>
 bh (wrap .i64 (c+i4)) (bp a) d e f b g i)
 else
 L1 c 0 d e f b g σ
def qu (call:af) (n:Nat):=eR fun r=>wD call (kN call n n) r
def OW:qt St:=fun a b c d e f g σ=>⟨[aU,cH 1,aU,bg a,bg b]++dd 36 [],[[],gW (aC c d e f g)]++nn 39 [],σ⟩
def LA:af→Nat→cM RR:=fun call n a b c d e σ=>
 (qu call n n) 0 0 a b c d e σ
theorem FI (call:af) (n:Nat) (m:Nat):kN call n m=lq C tO call n 2 (pt 244) [] OV m:=bn (fun F x=>by kernel_rfl) m
theorem FJ (call:af) (n:Nat) (m:Nat):qu call n m=lq C tO call n 0 (pt 116) [] OW m:=bn (fun F x=>by rw[FI];kernel_rfl) m
theorem Ji{n a b c e f b0}:bS 275 [((aC a b c e f),b0)] (LA (ah C) n a b c e f):=bV tO n (e:=by intro _;rw[LA,FJ];kernel_rfl)
abbrev sC (α:Type):=LL→eh (ke (cM (az→α)))
abbrev nR (α:Type):=LL→eh (ke (cM (az→α)))
def zW:af→nR RO→nR RO:=fun call eU e f a k o p q b r s t u v g h i j d σ=>
 bif (decide (a<(b.length:Int)))then
 bo a b<|
 aE call 276 (bH (bJ b a) (de e) (iP f)) σ 1 (fun c w=>
 jq (ae c) true 5<|
 iz d<|
 eU e f (bp a) k o p q b r s t u v g h i j (d++[[V.cell (ae c) 0,V.cell (ae c) 1,V.cell (ae c) 2,V.cell (ae c) 3,V.cell (ae c) 4]]) w)
 else
 aq (aC g h i j d) σ
def kO (call:af) (n:Nat):=eR (zW call)
def Sc:nR St:=fun a b c d e f g h i j k o p q r s t u σ=>⟨[aU,zr a,Ve b,cH 3,aU,aU,cH 6,cH 7,aU,bg c]++dd 48 [],[[],[],[],gW (aC d e f g h),[],[],[(V.int .i64 i,false),(V.int .i64 j,false),(V.str k,false),(V.slice 3 120 o,true),(V.slice 5 53 p,true)],[(V.int .i64 q,false),(V.int .i64 r,false),(V.str s,false),(V.slice 3 120 t,true),(V.slice 5 53 u,true)]]++nn 50 [],σ⟩
def zX:af→nR RO→sC RO→sC RO:=fun call L1 bh d e a g h i b j k o p q r s t u f v σ=>
 bif (decide (a<(b.length:Int)))then
 bo a b<|
 aE call 283 (bH (V.agg [(ak b a 0),(ak b a 1),(ak b a 2)]) (de d) (iP e)) σ 1 (fun c w=>
 jq (ae c) true 3<|
 iz f<|
 bh d e (bp a) g h i b j k o p q r s t u (f++[[V.cell (ae c) 0,V.cell (ae c) 1,V.cell (ae c) 2]]) v w)
 else
 L1 d e 0 g h i b j k o p q r s t u f v σ
def pf (call:af) (n:Nat):=eR fun r=>zX call (kO call n n) r
def Sd:sC St:=fun a b c d e f g h i j k o p q r s t u σ=>⟨[aU,zr a,Ve b,cH 3,aU,aU,cH 6,cH 7,bg c]++dd 49 [],[[],[],[],gW (aC d e f g h),[],[],[(V.int .i64 i,false),(V.int .i64 j,false),(V.str k,false),(V.slice 3 120 o,true),(V.slice 5 53 p,true)],[(V.int .i64 q,false),(V.int .i64 r,false),(V.str s,false),(V.slice 3 120 t,true),(V.slice 5 53 u,true)]]++nn 50 [],σ⟩
def B6:af→Nat→cM (LL→LL→RR):=fun call n a b c d e f g σ=>
 (pf call n n) f g 0 a b c d e 0 0 (ByteArray.mk #[]) [] [] a b c [] [] σ
theorem Jj (call:af) (n:Nat) (m:Nat):kO call n m=lq C xw call n 2 (pt 244) [] Sc m:=bn (fun F x=>by kernel_rfl) m
theorem Jk (call:af) (n:Nat) (m:Nat):pf call n m=lq C xw call n 0 (pt 116) [] Sd m:=bn (fun F x=>by rw[Jj];kernel_rfl) m
theorem A4{n a b c e f g i b0 b1 b2}:bS 276 [((aC a b c e f),b0),(V.slice 1 9 g,b1),(V.slice 3 120 i,b2)] (B6 (ah C) n a b c e f g i):=bV xw n (e:=by intro _;rw[B6,Jk];kernel_rfl)
def aa2:af→Nat→ke RR:=fun call n a b c d e h i j k o σ=>
 aE call 231 (aF (aC a b c d e) (aP 20000)) σ 1 fun f g=>
 bb (ae f) fun i4=>
 bif (decide (i4>20000))then
 aq (V.bool true) g
 else
 aE call 284 (aF (aC a b c d e) (aP 0)) g 1 fun p q=>
 aE call 231 (aF (aC h i j k o) (aP 20000)) q 1 fun r s=>
 bb (ae p) fun i11=>
 bb (ae r) fun i12=>
 bb (ae f) fun i13=>
 aq (V.bool (decide ((wrap .i64 (i13+(wrap .i64 (i11*i12))))>20000))) s
theorem LB{n a b c e f g i j k o b0 b1}:bS 277 [((aC a b c e f),b0),((aC g i j k o),b1)] (aa2 (ah C) n a b c e f g i j k o):=bV ZD n
end Go.Ab.Mk
end
noncomputable section
set_option maxRecDepth 100000
namespace Go.Ab.Mk
open Go.Proofs Go.Ab
open List (getD)
open IntKind (wrap)
def recursive:af→Nat→cM (ByteArray→RR):=fun call n a b c d e f σ=>
 aE call 250 (aF (aC a b c d e) (V.str f)) σ 1 fun g h=>
 aq (ae g) h
theorem FK{n a b c e f g b0 b1}:bS 279 [((aC a b c e f),b0),(V.str g,b1)] (recursive (ah C) n a b c e f g):=bV C7 n
end Go.Ab.Mk
end
noncomputable section
set_option maxRecDepth 100000
namespace Go.Ab.Mk
open Go.Proofs Go.Ab
open List (getD)
open IntKind (wrap)
abbrev Ea (α:Type):=Nat→eh (eh (cM (V→V→V→V→V→ke (az→α))))
abbrev xV (α:Type):=Nat→eh (V→eh (cM (V→V→V→V→V→ke (az→α))))
abbrev xW (α:Type):=eh (V→LL→V→Int→ke (V→V→V→V→V→az→α))
abbrev xX (α:Type):=V→LL→V→Int→ke (V→V→V→V→V→az→α)
abbrev xY (α:Type):=V→eh (cM (V→V→V→V→V→V→V→V→V→V→az→α))
abbrev xZ (α:Type):=eh (cM (V→V→V→V→V→az→α))
def OX:af→xZ RO→xZ RO:=fun call adG b a i j k o p d e f g h σ=>
 bif (decide (a≥0))then
 bo a b<|
 aE call 285 (aF (bJ b a) (bF d e f g h)) σ 1 (fun c q=>
 bQ (ae c) 5<|
 cR (adG b (wrap .i64 (a - 1)) i j k o p) (ae c) q)
 else
 aq (bF d e f g h) σ
def zY (call:af) (n:Nat):=eR (OX call)
def aa3:xZ St:=fun a b c d e f g h i j k o σ=>⟨dd 14 ([cH 14,aU,aU,zq a,aU,aU,aU,cH 21]++dd 4 ([bg b]++dd 103 [])),nn 14 ([[(V.int .i64 c,false),(V.int .i64 d,false),(V.str e,false),(V.slice 3 120 f,true),(V.slice 5 53 g,true)]]++nn 6 ([dn h i j k o]++nn 108 [])),σ⟩
def OY:af→xZ RO→xY RO→xY RO:=fun call L5 adH d e c f g h i j k o p q r s t u v w σ=>
 bif (decide (c≥0))then
 aE call 229 (aM (aP c)) σ 1 (fun x y=>
 aE call 228 (aF (bF s t u v w) (ae x)) y 1 fun a z=>
 bQ (ae a) 5<|
 cR (adH d e (wrap .i64 (c - 1)) f g h i j k o p q r) (ae a) z)
 else
 aE call 228 (aF (bF k o p q r) (bF s t u v w)) σ 1 fun b a0=>
 bQ (ae b) 5<|
 bb d fun i10=>
 cR (L5 e (wrap .i64 (i10 - 1)) f g h i j) (ae b) a0
def zZ (call:af) (n:Nat):=eR fun r=>OY call (zY call n n) r
def aa4:xY St:=fun a b c d e f g h i j k o p q r s t u σ=>⟨dd 14 ([cH 14,aU,gV a,zq b,aU,aU,aU,cH 21,aU,aU,cH 24,bg c]++dd 104 []),nn 14 ([[(V.int .i64 d,false),(V.int .i64 e,false),(V.str f,false),(V.slice 3 120 g,true),(V.slice 5 53 h,true)]]++nn 6 ([dn i j k o p,[],[],dn q r s t u]++nn 105 [])),σ⟩
def OZ:af→xY RO→xX RO→xX RO:=fun call L4 Vk d f e a g h i j k o p q r s t u v w x σ=>
 cz e 5 53 fun l1=>
 bif (decide (a<(l1.length:Int)))then
 cz e 5 53 fun l2=>
 bo a l2<|
 aE call 228 (aF (bF t u v w x) (bJ l2 a)) σ 1 (fun b y=>
 bQ (ae b) 5<|
 cR (Vk d f e (bp a) g h i j k o p q r s) (ae b) y)
 else
 aE call 256 (bH (aC g h i j k) d (aP 0)) σ 1 fun c z=>
 bQ (ae c) 5<|
 bb d fun i9=>
 cR (L4 d f (wrap .i64 (i9 - 1)) o p q r s t u v w x) (ae c) z
def Aa (call:af) (n:Nat):=eR fun r=>OZ call (zZ call n n) r
def aa5:xX St:=fun a b c d e f g h i j k o p q r s t u v σ=>⟨dd 13 ([cH 13,cH 14,aU,gV a,zq b,aU,aU,gV c,cH 21,aU,bg d]++dd 106 []),nn 13 ([gW (aC e f g h i),[(V.int .i64 j,false),(V.int .i64 k,false),(V.str o,false),(V.slice 3 120 p,true),(V.slice 5 53 q,true)]]++nn 6 ([dn r s t u v]++nn 108 [])),σ⟩
def O0:af→xX RO→xW RO→xW RO:=fun call L3 rq b e d f g a h i j k o p q r s t u v w x y σ=>
 bif (decide (a<(b.length:Int)))then
 bo a b<|
 aE call 256 (bH (bJ b a) d (aP 0)) σ 1 (fun z a0=>
 aE call 228 (aF (bF u v w x y) (ae z)) a0 1 fun c a1=>
 bQ (ae c) 5<|
 cR (rq b e d f g (bp a) h i j k o p q r s t) (ae c) a1)
 else
 L3 d f g e h i j k o p q r s t u v w x y σ
def Ac (call:af) (n:Nat):=eR fun r=>O0 call (Aa call n n) r
def aa6:xW St:=fun a b c d e f g h i j k o p q r s t u v w x σ=>⟨[aU,aU,IC a,bg b]++dd 9 ([cH 13,cH 14,aU,gV c,zq d,aU,aU,gV e,cH 21,bg f]++dd 107 []),nn 13 ([gW (aC g h i j k),[(V.int .i64 o,false),(V.int .i64 p,false),(V.str q,false),(V.slice 3 120 r,true),(V.slice 5 53 s,true)]]++nn 6 ([dn t u v w x]++nn 108 [])),σ⟩
def O1:af→xW RO→xV RO→xV RO:=fun call L2 eU f g h b d i j k o p q r s t u c v w x y z a0 a1 a2 a3 a4 σ=>
 bb b fun i1=>
 bif (decide (i<i1))then
 cz c 5 53 fun l2=>
 bo 0 l2<|
 iz d<|
 cz c 5 53 fun l3=>
 bo 1 l3<|
 gr (eU f g h b (d++[[(ak l2 0 0),(ak l2 0 1),(ak l2 0 2),(ak l2 0 3),(ak l2 0 4)]]) (bp i) j k o p q) l3 1 v w x y z a0 a1 a2 a3 a4 σ
 else
 aE call 219 (aM (bF r s t u c)) σ 2 fun a5 e=>
 bQ (ae a5) 5<|
 cj e 49 f 1 fun m7=>
 cB m7 fun b8=>
 bif b8 then
 aq (bF r s t u c) e
 else
 aE call 256 (bH (aC j k o p q) b (aP 0)) e 1 fun a a6=>
 bQ (ae a) 5<|
 cR (L2 g h b d (aH a5) 0 v w x y z a0 a1 a2 a3 a4) (ae a) a6
def Ad (call:af) (n:Nat):=eR fun r=>O1 call (Ac call n n) r
def aa7:xV St:=fun a b c d e f g h i j k o p q r s t u v w x y z a0 a1 a2 σ=>⟨[nD a,aU,IC b,bg c]++dd 4 ([cH 8,aU,aU,cH 11,aU,cH 13,cH 14,aU,gV d,zq e,bg f]++dd 111 []),nn 8 ([gW (aC g h i j k),[],[],dn o p q r s,[],gW (aC t u v w x),[(V.int .i64 y,false),(V.int .i64 z,false),(V.str a0,false),(V.slice 3 120 a1,true),(V.slice 5 53 a2,true)]]++nn 115 []),σ⟩
def O2:af→xV RO→Ea RO→Ea RO:=fun call L1 bh d j k b a o p q r s e f g h i t u v w x y z a0 a1 a2 σ=>
 bif (decide (a≥0))then
 bo a b<|
 aE call 256 (bH (bJ b a) (aP a) (aP 0)) σ 1 (fun a3 a4=>
 aE call 260 (bH (V.ptr 49 d 0) (bF e f g h i) (ae a3)) a4 1 fun c a5=>
 bQ (ae c) 5<|
 cR (bh d j k b (wrap .i64 (a - 1)) o p q r s) (ae c) t u v w x y z a0 a1 a2 a5)
 else
 aE call 171 (aM (bF e f g h i)) σ 1 fun a6 a7=>
 L1 d j k (ae a6) [] 0 o p q r s e f g h i t u v w x y z a0 a1 a2 a7
def Eb (call:af) (n:Nat):=eR fun r=>O2 call (Ad call n n) r
def aa8:Ea St:=fun a b c d e f g h i j k o p q r s t u v w x y z a0 a1 σ=>⟨[nD a,aU,IC b,bg c,aU,IC d,aU,aU,cH 8,aU,aU,cH 11,aU,cH 13,cH 14,bg e]++dd 114 [],nn 8 ([gW (aC f g h i j),[],[],dn k o p q r,[],gW (aC s t u v w),[(V.int .i64 x,false),(V.int .i64 y,false),(V.str z,false),(V.slice 3 120 a0,true),(V.slice 5 53 a1,true)]]++nn 115 []),σ⟩
def aa9:af→Nat→Nat→cM (eh (cM (LL→cM RR))):=fun call n b c d e f g h i j k o p q a r s t u v σ=>
 (Eb call n n) b h i a (wrap .i64 ((a.length:Int) - 1)) c d e f g (aP j) (aP k) (V.str o) (iP p) (dk q) r s t u v 0 0 (ByteArray.mk #[]) [] [] σ
theorem Se (call:af) (n:Nat) (m:Nat):zY call n m=lq C AW call n 10 (pt 262132) [] aa3 m:=bn (fun F x=>by kernel_rfl) m
theorem Sf (call:af) (n:Nat) (m:Nat):zZ call n m=lq C AW call n 8 (pt 65524) [] aa4 m:=bn (fun F x=>by rw[Se];kernel_rfl) m
theorem Sg (call:af) (n:Nat) (m:Nat):Aa call n m=lq C AW call n 6 (pt 16372) [] aa5 m:=bn (fun F x=>by rw[Sf];kernel_rfl) m
theorem Sh (call:af) (n:Nat) (m:Nat):Ac call n m=lq C AW call n 4 (pt 8180) [] aa6 m:=bn (fun F x=>by rw[Sg];kernel_rfl) m
theorem Si (call:af) (n:Nat) (m:Nat):Ad call n m=lq C AW call n 2 (pt 500) [] aa7 m:=bn (fun F x=>by rw[Sh];kernel_rfl) m
theorem Sj (call:af) (n:Nat) (m:Nat):Eb call n m=lq C AW call n 0 (pt 52) [] aa8 m:=bn (fun F x=>by rw[Si];kernel_rfl) m
theorem V7{n a b c e f g i j k o p q s t u v w x y b0 b1 b2 b3 b4 b5 b6}:bS 280 [(V.ptr 49 a 0,b0),((aC b c e f g),b1),(V.slice 5 53 i,b2),(V.int .i64 j,b3),((aC k o p q s),b4),(V.slice 5 53 t,b5),((aC u v w x y),b6)] (aa9 (ah C) n a b c e f g i j k o p q s t u v w x y):=bV AW n (e:=by intro _;rw[aa9,Sj];kernel_rfl)
end Go.Ab.Mk
end
noncomputable section
set_option maxRecDepth 100000
namespace Go.Ab.Mk
open Go.Proofs Go.Ab
open List (getD)
open IntKind (wrap)
abbrev sD (α:Type):=Int→eh (ke (cM (az→α)))
def Ae:af→sD RO→sD RO:=fun call bh g f a h i j k b o p q r s t u v w x σ=>
 bif (decide (a<(b.length:Int)))then
 aE call 274 (aF (aC h i j k b) (aP a)) σ 1 (fun z y=>
 cB (ae z) fun b4=>
 bif b4 then
 bo a b<|
 aE call 281 (bH (bJ b a) (aC o p q r s) (aP (bp g))) y 1 (fun c a0=>
 jq (ae c) true 5<|
 iz f<|
 bh g (f++[[V.cell (ae c) 0,V.cell (ae c) 1,V.cell (ae c) 2,V.cell (ae c) 3,V.cell (ae c) 4]]) (bp a) h i j k b o p q r s t u v w x a0)
 else
 bo a b<|
 aE call 281 (bH (bJ b a) (aC o p q r s) (aP g)) y 1 fun d a1=>
 jq (ae d) true 5<|
 iz f<|
 bh g (f++[[V.cell (ae d) 0,V.cell (ae d) 1,V.cell (ae d) 2,V.cell (ae d) 3,V.cell (ae d) 4]]) (bp a) h i j k b o p q r s t u v w x a1)
 else
 aE call 271 (aF (aC h i j k b) (dk f)) σ 1 fun e a2=>
 bQ (ae e) 5<|
 aq (bA (ae e)) a2
def pg (call:af) (n:Nat):=eR (Ae call)
def Sk:sD St:=fun a b c d e f g h i j k o p q r s t u σ=>⟨[aU,aU,bg a,cH 3,cH 4,aU,cH 6,zq b,bg c]++dd 47 [],[[],[],[],gW (aC d e f g h),gW (aC i j k o p),[],[(V.int .i64 q,false),(V.int .i64 r,false),(V.str s,false),(V.slice 3 120 t,true),(V.slice 5 53 u,true)]]++nn 49 [],σ⟩
def Jl:af→Nat→Ye RR:=fun call n d b e f g h i j k o c σ=>
 bif (d==0)then
 bif (b==c)then
 aE call 256 (bH (aC h i j k o) (aP c) (aP 0)) σ 1 (fun a p=>
 bQ (ae a) 5<|
 aq (bA (ae a)) p)
 else
 bif (decide (b>c))then
 aq (aC 0 (wrap .i64 (b - 1)) ⟨#[]⟩ [] []) σ
 else
 aq (aC d b e f g) σ
 else
 (pg call n n) c [] 0 d b e f g h i j k o 0 0 (ByteArray.mk #[]) [] [] σ
theorem Jm (call:af) (n:Nat) (m:Nat):pg call n m=lq C C8 call n 0 (pt 244) [] Sk m:=bn (fun F x=>by kernel_rfl) m
theorem LC{n a b c e f g i j k o p b0 b1 b2}:bS 281 [((aC a b c e f),b0),((aC g i j k o),b1),(V.int .i64 p,b2)] (Jl (ah C) n a b c e f g i j k o p):=bV C8 n (e:=by intro _;rw[Jl,Jm];kernel_rfl)
abbrev oD (α:Type):=Int→uC (az→α)
def sE:af→oD RO→oD RO:=fun call bh c a d e b σ=>
 bif (decide (a<(b.length:Int)))then
 bo a b<|
 aE call 282 (aM (V.agg [(ak b a 0),(ak b a 1),(ak b a 2)])) σ 1 (fun f g=>
 bb (ae f) fun i4=>
 bh (wrap .i64 (c+i4)) (bp a) d e b g)
 else
 aq (aP c) σ
def nS (call:af) (n:Nat):=eR (sE call)
def LD:oD St:=fun a b c d e σ=>⟨[aU,cH 1,aU,bg a,bg b]++dd 21 [],[[],gW (bU c d e)]++nn 24 [],σ⟩
def uj:af→Nat→kd RR:=fun call n a b c σ=>
 bif (a==4)then
 aq (aP 1) σ
 else
 (nS call n n) 0 0 a b c σ
theorem Ec (call:af) (n:Nat) (m:Nat):nS call n m=lq C vM call n 0 (pt 244) [] LD m:=bn (fun F x=>by kernel_rfl) m
theorem uR{n a b c b0}:bS 282 [((bU a b c),b0)] (uj (ah C) n a b c):=bV vM n (e:=by intro _;rw[uj,Ec];kernel_rfl)
abbrev wE (α:Type):=LL→LL→uC (kd (az→α))
abbrev wF (α:Type):=LL→LL→uC (kd (kd (az→α)))
def Ed:af→wE RO→wE RO:=fun call bh c b a e d f g h i σ=>
 bif (decide (a<(c.length:Int)))then
 bo a c<|
 dG (ak c a 0) fun s1=>
 bif (s1.toList==d.toList)then
 bo a b<|
 aq (V.agg [(ak b a 0),(ak b a 1),(ak b a 2)]) σ
 else
 bh c b (bp a) e d f g h i σ
 else
 aq (bU e d f) σ
def ya (call:af) (n:Nat):=eR (Ed call)
def V8:wE St:=fun a b c d e f g h i σ=>⟨[aU,zr a,Ve b,cH 3,aU,aU,cH 6,bg c]++dd 49 [],[[],[],[],gW (bU d e f),[],[],[(V.int .i64 g,false),(V.str h,false),(V.slice 3 120 i,true)]]++nn 50 [],σ⟩
def Ee:af→wF RO→wF RO:=fun call eU e f a i j b k o p g h d σ=>
 bif (decide (a<(b.length:Int)))then
 bo a b<|
 aE call 283 (bH (V.agg [(ak b a 0),(ak b a 1),(ak b a 2)]) (de e) (iP f)) σ 1 (fun c q=>
 jq (ae c) true 3<|
 iz d<|
 eU e f (bp a) i j b k o p g h (d++[[V.cell (ae c) 0,V.cell (ae c) 1,V.cell (ae c) 2]]) q)
 else
 aq (bU g h d) σ
def yb (call:af) (n:Nat):=eR (Ee call)
def V9:wF St:=fun a b c d e f g h i j k o σ=>⟨[aU,zr a,Ve b,cH 3,aU,aU,cH 6,aU,cH 8,bg c]++dd 47 [],[[],[],[],gW (bU d e f),[],[],[(V.int .i64 g,false),(V.str h,false),(V.slice 3 120 i,true)],[],[(V.int .i64 j,false),(V.str k,false),(V.slice 3 120 o,true)]]++nn 48 [],σ⟩
def Ef:af→Nat→kd (LL→LL→RR):=fun call n a b c d e σ=>
 bif (a==4)then
 (ya call n n) d e 0 a b c 0 (ByteArray.mk #[]) [] σ
 else
 (yb call n n) d e 0 a b c 0 (ByteArray.mk #[]) [] a b [] σ
theorem LG (call:af) (n:Nat) (m:Nat):ya call n m=lq C BW call n 0 (pt 420) [] V8 m:=bn (fun F x=>by kernel_rfl) m
theorem LH (call:af) (n:Nat) (m:Nat):yb call n m=lq C BW call n 2 (pt 244) [] V9 m:=bn (fun F x=>by kernel_rfl) m
theorem O3{n a b c e f b0 b1 b2}:bS 283 [((bU a b c),b0),(V.slice 1 9 e,b1),(V.slice 3 120 f,b2)] (Ef (ah C) n a b c e f):=bV BW n (e:=by intro _;rw[Ef,LG,LH];kernel_rfl)
abbrev Af (α:Type):=iF (Int→cM (az→α))
def Jn:af→Af RO→Af RO:=fun call bh c d a e f g h b σ=>
 bif (decide (a<(b.length:Int)))then
 aE call 274 (aF (aC e f g h b) (aP a)) σ 1 (fun j i=>
 cB (ae j) fun b4=>
 bif b4 then
 bo a b<|
 aE call 284 (aF (bJ b a) (aP (bp c))) i 1 (fun k o=>
 bb (ae k) fun i8=>
 bh c (wrap .i64 (d+i8)) (bp a) e f g h b o)
 else
 bo a b<|
 aE call 284 (aF (bJ b a) (aP c)) i 1 fun p q=>
 bb (ae p) fun i12=>
 bh c (wrap .i64 (d+i12)) (bp a) e f g h b q)
 else
 aq (aP d) σ
def uk (call:af) (n:Nat):=eR (Jn call)
def YP:Af St:=fun a b c d e f g h σ=>⟨[aU,bg a,cH 2,aU,aU,bg b,bg c]++dd 35 [],[[],[],gW (aC d e f g h)]++nn 39 [],σ⟩
def Ql:af→Nat→cM (Int→RR):=fun call n a b d e f c σ=>
 bif (a==0)then
 bif (b==c)then
 aq (aP 1) σ
 else
 (uk call n n) c 0 0 a b d e f σ
 else
 (uk call n n) c 0 0 a b d e f σ
theorem O4 (call:af) (n:Nat) (m:Nat):uk call n m=lq C Nz call n 0 (pt 244) [] YP m:=bn (fun F x=>by kernel_rfl) m
theorem Sl{n a b c e f g b0 b1}:bS 284 [((aC a b c e f),b0),(V.int .i64 g,b1)] (Ql (ah C) n a b c e f g):=bV Nz n (e:=by intro _;rw[Ql,O4];kernel_rfl)
def acy:af→Nat→ke RR:=fun call n a b c d e f g h i j σ=>
 aq (aC 4 0 ⟨#[]⟩ [] [[V.int .i64 a,V.int .i64 b,V.str c,V.slice 3 120 d,V.slice 5 53 e],[V.int .i64 f,V.int .i64 g,V.str h,V.slice 3 120 i,V.slice 5 53 j]]) σ
theorem Wa{n a b c e f g i j k o b0 b1}:bS 285 [((aC a b c e f),b0),((aC g i j k o),b1)] (acy (ah C) n a b c e f g i j k o):=bV ZE n
end Go.Ab.Mk
end
noncomputable section

end
noncomputable section
namespace Go.Ab.Mk
open Go.Proofs Go.Ab
def Wb (s:ByteArray):List ByteArray→List Int→Int
 |p::ps,n::ns=>if p.toList==s.toList then n else Wb s ps ns
 |_,_=>0
def ek (ps:List ByteArray) (ns:List Int):Lv→Int
 |.zero=>0
 |.succ l=>IntKind.wrap .i64 (ek ps ns l+1)
 |.max a b=>bif decide (ek ps ns b>ek ps ns a)then ek ps ns b else ek ps ns a
 |.imax a b=>bif ek ps ns b==0 then 0 else bif decide (ek ps ns b>ek ps ns a)then ek ps ns b else ek ps ns a
 |.param s=>Wb s ps ns
theorem A5 (call:af) (n:Nat) {ps:List ByteArray} {ns:List Int} (hl:ps.length=ns.length) (hb:ps.length<2^61) (k:Int) (nm:ByteArray) (xs:List (List V)) (σ:az):
  ∀(m i:Nat),i≤ps.length→ps.length - i<m→xN call n m (strs ps) (ints ns) i k nm xs σ=some (.ret [(.int .i64 (Wb nm (ps.drop i) (ns.drop i)),false)],σ)
 |0,i,_,hm=>by omega
 |m+1,i,hi,hm=>by
  show DP call (xN call n m) (strs ps) (ints ns) i k nm xs σ=_
  unfold DP bo dG ak aq bp aP
  rw[cw,Lu]
  by_cases aG:i<ps.length
  ·have FM:i<ns.length:=by omega
   rw[d0,eD aG,eD FM,Int.toNat_natCast,ib aG,VR FM]
   rw[List.drop_eq_getElem_cons aG,List.drop_eq_getElem_cons FM]
   simp only[cond_true,bz,Option.bind_some,List.getD_cons_zero,V.di,Wb]
   cases hc:ps[i].toList==nm.toList with
   |true=>simp
   |false=>
    simp only[cond_false,aw (show i<2^61 by omega),Bool.false_eq_true,if_false]
    exact A5 call n hl hb k nm xs σ m (i+1) (by omega) (by omega)
  ·rw[cQ aG,List.drop_eq_nil_of_le (by omega)]
   simp[Wb]
theorem jj {ps:List ByteArray} {ns:List Int} (hl:ps.length=ns.length) (hb:ps.length<2^61) (σ:az):∀(l:Lv) (b1 b2:Bool),
  ah C 118 [(.agg [.int .i64 l.kind,.str l.name,.slice 3 120 l.args],false),(.slice 1 9 (strs ps),b1),(.slice 1 3 (ints ns),b2)] σ=some (.ret [(.int .i64 (ek ps ns l),false)],σ)
 |.zero,b1,b2=>np (n:=0) rfl
 |.param s,b1,b2=>np (n:=ps.length+1) <| by
  simp only[zN,aq,aP,bo,aE,bH,ak,de,bb,ae,bp,Lv.kind]
  have:=A5 (ah C) (ps.length+1) hl hb 4 s [] σ (ps.length+1) 0 (by omega) (by omega)
  simpa[ek,Lv.name,Lv.args,Lv.kids]using this
 |.succ l,b1,b2=>np (n:=0) <| by
  have h1:=jj hl hb σ l false false
  simp only[zN,aq,aP,bo,aE,bH,ak,de,bb,ae,bp,Lv.kind,Lv.args,Lv.kids,List.map_cons,List.map_nil]
  have hc:V.agg [List.getD (List.getD [l.enc] (Int.toNat (0:Int)) []) 0 V.any,List.getD (List.getD [l.enc] (Int.toNat (0:Int)) []) 1 V.any,List.getD (List.getD [l.enc] (Int.toNat (0:Int)) []) 2 V.any]=V.agg [.int .i64 l.kind,.str l.name,.slice 3 120 l.args]:=l.cells
  rw[hc,ab h1]
  rfl
 |.max a b,b1,b2=>np (n:=0) <| by
  have h1:=jj hl hb σ a false false
  have h2:=jj hl hb σ b false false
  simp only[zN,aq,aP,bo,aE,bH,ak,de,bb,ae,bp,Lv.kind,Lv.args,Lv.kids,List.map_cons,List.map_nil]
  have hc:V.agg [List.getD (List.getD [a.enc,b.enc] (Int.toNat (0:Int)) []) 0 V.any,List.getD (List.getD [a.enc,b.enc] (Int.toNat (0:Int)) []) 1 V.any,List.getD (List.getD [a.enc,b.enc] (Int.toNat (0:Int)) []) 2 V.any]=V.agg [.int .i64 a.kind,.str a.name,.slice 3 120 a.args]:=a.cells
  have hd:V.agg [List.getD (List.getD [a.enc,b.enc] (Int.toNat (1:Int)) []) 0 V.any,List.getD (List.getD [a.enc,b.enc] (Int.toNat (1:Int)) []) 1 V.any,List.getD (List.getD [a.enc,b.enc] (Int.toNat (1:Int)) []) 2 V.any]=V.agg [.int .i64 b.kind,.str b.name,.slice 3 120 b.args]:=b.cells
  simp only[hc,hd,ek,ab h1,ab h2]
  cases hx:decide (ek ps ns b>ek ps ns a)<;>simp[bz,V.asInt,hx]
 |.imax a b,b1,b2=>np (n:=0) <| by
  have h1:=jj hl hb σ a false false
  have h2:=jj hl hb σ b false false
  simp only[zN,aq,aP,bo,aE,bH,ak,de,bb,ae,bp,Lv.kind,Lv.args,Lv.kids,List.map_cons,List.map_nil]
  have hc:V.agg [List.getD (List.getD [a.enc,b.enc] (Int.toNat (0:Int)) []) 0 V.any,List.getD (List.getD [a.enc,b.enc] (Int.toNat (0:Int)) []) 1 V.any,List.getD (List.getD [a.enc,b.enc] (Int.toNat (0:Int)) []) 2 V.any]=V.agg [.int .i64 a.kind,.str a.name,.slice 3 120 a.args]:=a.cells
  have hd:V.agg [List.getD (List.getD [a.enc,b.enc] (Int.toNat (1:Int)) []) 0 V.any,List.getD (List.getD [a.enc,b.enc] (Int.toNat (1:Int)) []) 1 V.any,List.getD (List.getD [a.enc,b.enc] (Int.toNat (1:Int)) []) 2 V.any]=V.agg [.int .i64 b.kind,.str b.name,.slice 3 120 b.args]:=b.cells
  simp only[hc,hd,ek,ab h1,ab h2]
  cases hy:ek ps ns b==0<;>cases hx:decide (ek ps ns b>ek ps ns a)<;>simp[bz,V.asInt,hx,hy]
def has (v:ByteArray) (ps:List ByteArray):Bool:=ps.any fun p=>p.toList==v.toList
theorem Eg (call:af) (n:Nat) {ps:List ByteArray} (hb:ps.length<2^61) (v:ByteArray) (σ:az):
  ∀(m i:Nat),i≤ps.length→ps.length - i<m→B2 call n m v (strs ps) i σ=some (.ret [(.bool (has v (ps.drop i)),false)],σ)
 |0,i,_,hm=>by omega
 |m+1,i,hi,hm=>by
  show I7 call (B2 call n m) v (strs ps) i σ=_
  unfold I7 bo dG ak aq bp
  rw[cw]
  by_cases aG:i<ps.length
  ·rw[d0,eD aG,Int.toNat_natCast,ib aG,List.drop_eq_getElem_cons aG]
   simp only[cond_true,Bool.and_self,bz,Option.bind_some,List.getD_cons_zero,V.di,has,List.any_cons]
   cases hc:ps[i].toList==v.toList with
   |true=>simp
   |false=>
    simp only[cond_false,aw (show i<2^61 by omega),Bool.false_or]
    exact Eg call n hb v σ m (i+1) (by omega) (by omega)
  ·rw[cQ aG,List.drop_eq_nil_of_le (by omega)]
   simp[has]
theorem ph {ps:List ByteArray} (hb:ps.length<2^61) (v:ByteArray) (σ:az):
  ah C 168 [(.str v,false),(.slice 1 9 (strs ps),false)] σ=some (.ret [(.bool (has v ps),false)],σ):=
 RU (n:=ps.length+1) <| by
  have:=Eg (ah C) (ps.length+1) hb v σ (ps.length+1) 0 (by omega) (by omega)
  simpa[VD]using this
theorem sF (call:af) (n:Nat) {ps:List ByteArray} (hb:ps.length<2^61) (σ:az):
  ∀(m i:Nat),i≤ps.length→ps.length - i<m→nK call n m (strs ps) (strs ps) i σ=some (.ret [(.bool true,false)],σ)
 |0,i,_,hm=>by omega
 |m+1,i,hi,hm=>by
  show sb call (nK call n m) (strs ps) (strs ps) i σ=_
  unfold sb bo dG ak aq bp
  rw[cw]
  by_cases aG:i<ps.length
  ·rw[d0,eD aG,Int.toNat_natCast,ib aG]
   simp only[cond_true,Bool.and_self,bz,Option.bind_some,List.getD_cons_zero,V.di,beq_self_eq_true,Bool.not_true,cond_false,aw (show i<2^61 by omega)]
   exact sF call n hb σ m (i+1) (by omega) (by omega)
  ·rw[cQ aG];rfl
theorem uN {ps:List ByteArray} (hb:ps.length<2^61) (σ:az):
  ah C 18 [(.slice 1 9 (strs ps),false),(.slice 1 9 (strs ps),false)] σ=some (.ret [(.bool true,false)],σ):=
 FB (n:=ps.length+1) <| by
  have:=sF (ah C) (ps.length+1) hb σ (ps.length+1) 0 (by omega) (by omega)
  simpa[zG,aq]using this
theorem sG (call:af) (n:Nat) {L:List Lv} (hb:L.length<2^61) (k:Int) (nm:ByteArray) (σ:az)
  (h:∀c∈L,call 46 [(.agg [.int .i64 c.kind,.str c.name,.slice 3 120 c.args],false),(.agg [.int .i64 c.kind,.str c.name,.slice 3 120 c.args],false)] σ=some (.ret [(.bool true,false)],σ)):
  ∀(m i:Nat),i≤L.length→L.length - i<m→jx call n m i k nm (L.map Lv.enc) k nm (L.map Lv.enc) σ=some (.ret [(.bool true,false)],σ)
 |0,i,_,hm=>by omega
 |m+1,i,hi,hm=>by
  show lA call (jx call n m) i k nm (L.map Lv.enc) k nm (L.map Lv.enc) σ=_
  unfold lA bo aE aF ak cB ae aq bp
  rw[List.length_map]
  by_cases aG:i<L.length
  ·have hc:=List.getElem?_eq_getElem aG
   rw[d0,eD aG,B4 hc,L[i].cells]
   simp only[cond_true,Bool.and_self,bz,Option.bind_some,ab (h _ (List.getElem_mem aG)),aw (show i<2^61 by omega),List.getD_cons_zero,V.asBool,Bool.not_true,cond_false]
   exact sG call n hb k nm σ h m (i+1) (by omega) (by omega)
  ·rw[cQ aG];rfl
theorem jV (l:Lv):l.kids.length≤2:=by cases l<;>simp[Lv.kids]
theorem FN (σ:az):∀(l:Lv),
  ah C 46 [(.agg [.int .i64 l.kind,.str l.name,.slice 3 120 l.args],false),(.agg [.int .i64 l.kind,.str l.name,.slice 3 120 l.args],false)] σ=some (.ret [(.bool true,false)],σ):=
 Lv.ind fun l ih=>iV (n:=4) <| by
  have hf:=jV l
  have:=sG (ah C) 4 (L:=l.kids) (by omega) l.kind l.name σ ih 4 0 (by omega) (by omega)
  simpa[kL,aq,Lv.args]using this
end Go.Ab.Mk
end
noncomputable section
namespace Go.Ab.Mk
open Go.Proofs Go.Ab
def bW:Lv→List ByteArray→List ByteArray
 |.param s,ps=>bif has s ps then ps else ps++[s]
 |.zero,ps=>ps
 |.succ l,ps=>bW l ps
 |.max a b,ps=>bW b (bW a ps)
 |.imax a b,ps=>bW b (bW a ps)
theorem fC:∀(l:Lv) (ps:List ByteArray),(bW l ps).length≤ps.length+l.size
 |.param s,ps=>by simp only[bW];cases has s ps<;>simp[Lv.size]
 |.zero,ps=>by simp[bW]
 |.succ l,ps=>by have:=fC l ps;simp only[bW,Lv.size];omega
 |.max a b,ps=>by have h1:=fC a ps;have h2:=fC b (bW a ps);simp only[bW,Lv.size];omega
 |.imax a b,ps=>by have h1:=fC a ps;have h2:=fC b (bW a ps);simp only[bW,Lv.size];omega
def Qm:List Lv→List ByteArray→List ByteArray
 |[],ps=>ps
 |c::L,ps=>Qm L (bW c ps)
def sizes:List Lv→Nat
 |[]=>0
 |c::L=>c.size+sizes L
theorem Wc:∀l:Lv,sizes l.kids<l.size
 |.param s=>by simp[Lv.kids,sizes,Lv.size]
 |.zero=>by simp[Lv.kids,sizes,Lv.size]
 |.succ l=>by simp[Lv.kids,sizes,Lv.size]
 |.max a b=>by simp[Lv.kids,sizes,Lv.size]<;>omega
 |.imax a b=>by simp[Lv.kids,sizes,Lv.size]<;>omega
theorem yc (call:af) (n:Nat) {L:List Lv} (hb:L.length<2^61) (k:Int) (nm:ByteArray) (σ:az)
  (h:∀c∈L,∀ps:List ByteArray,c.size+ps.length<2^33→call 116 [(.agg [.int .i64 c.kind,.str c.name,.slice 3 120 c.args],false),(.slice 1 9 (strs ps),true)] σ=some (.ret [(.slice 1 9 (strs (bW c ps)),true)],σ)):
  ∀(m i:Nat) (ps:List ByteArray),i≤L.length→L.length - i<m→sizes (L.drop i)+ps.length<2^33→ue call n m (.slice 1 9 (strs ps)) i k nm (L.map Lv.enc) σ=some (.ret [(.slice 1 9 (strs (Qm (L.drop i) ps)),true)],σ)
 |0,i,_,_,hm,_=>by omega
 |m+1,i,ps,hi,hm,hs=>by
  show zL call (ue call n m) (.slice 1 9 (strs ps)) i k nm (L.map Lv.enc) σ=_
  unfold zL bo aE ak AU ae bp
  rw[List.length_map]
  by_cases aG:i<L.length
  ·have hc:=List.getElem?_eq_getElem aG
   rw[drop_cons hc]at hs
   simp only[sizes]at hs
   have h1:=h _ (List.getElem_mem aG) ps (by omega)
   have hl:=fC L[i] ps
   rw[d0,eD aG,B4 hc,L[i].cells,drop_cons hc]
   simp only[cond_true,Bool.and_self,bz,Option.bind_some,ab h1,aw (show i<2^61 by omega),List.getD_cons_zero,Qm]
   exact yc call n hb k nm σ h m (i+1) _ (by omega) (by omega) (by omega)
  ·rw[cQ aG,List.drop_eq_nil_of_le (by omega)];rfl
theorem Wd:∀(l:Lv) (ps:List ByteArray),(∀s,l≠.param s)→Qm l.kids ps=bW l ps
 |.param s,_,h=>absurd rfl (h s)
 |.zero,_,_=>rfl
 |.succ _,_,_=>rfl
 |.max ..,_,_=>rfl
 |.imax ..,_,_=>rfl
theorem Qn {l:Lv} (h:∀s,l≠.param s):(l.kind==(4:Int))=false:=by cases l<;>first|rfl|exact absurd rfl (h _)
theorem sH (σ:az):∀(l:Lv) (ps:List ByteArray),l.size+ps.length<2^33→
  ah C 116 [(.agg [.int .i64 l.kind,.str l.name,.slice 3 120 l.args],false),(.slice 1 9 (strs ps),true)] σ=some (.ret [(.slice 1 9 (strs (bW l ps)),true)],σ):=
 Lv.ind fun l ih ps hb=>Li (n:=4) <| by
  by_cases hp:∃s,l=.param s
  ·obtain⟨s,rfl⟩:=hp
   simp only[Lv.size]at hb
   have h1:=ph (ps:=ps) (by omega) s σ
   simp only[BZ,aE,aF,de,cB,ae,iz,Lv.kind,Lv.name,Lv.args,Lv.kids,bW,ab h1]
   cases hx:has s ps with
   |true=>simp[V.asBool]
   |false=>
    have hr:room (ps.length+1)=true:=cF (by omega)
    simp[V.asBool,bz,hr,strs]
  ·have hp:∀s,l≠.param s:=fun s hs=>hp ⟨s,hs⟩
   have hf:=jV l
   have hs:=Wc l
   have:=yc (ah C) 4 (L:=l.kids) (by omega) l.kind l.name σ (fun c hc ps h=>ih c hc ps h) 4 0 ps (by omega) (by omega) (by simp only[List.drop_zero];omega)
   simp only[BZ,aE,aF,de,cB,ae,iz,Qn hp,cond_false]
   rw[List.drop_zero,Wd l ps hp]at this
   exact this
end Go.Ab.Mk
end
noncomputable section
namespace Go.Ab.Mk
open Go.Proofs Go.Ab
def ba (l:List UInt8):ByteArray:=⟨l.toArray⟩
theorem Z3 (s:ByteArray):ba s.data.toList=s:=by
 apply ByteArray.ext
 simp[ba]
theorem iI (l:List UInt8):(ba l).size=l.length:=by simp[ba,ByteArray.size]
def bX:Lv→List UInt8
 |.zero=>[48]
 |.succ l=>[40,115,32]++bX l++[41]
 |.max a b=>[40,109,97,120,32]++bX a++[32]++bX b++[41]
 |.imax a b=>[40,105,109,97,120,32]++bX a++[32]++bX b++[41]
 |.param s=>s.data.toList
theorem aW {call:af} {f:FuncId} {args:List Cell} {σ eM:az} {K:List Cell→az→Option aQ} {KP:V→az→Option aQ} {c d:Cell} (h:call f args σ=some (.ret [c,d],eM)):
  aA call f args σ 2 K KP=K [c,d] eM:=ui h rfl
end Go.Ab.Mk
end
noncomputable section
namespace Go.Ab.Mk
open Go.Proofs Go.Ab
def plv (s:ByteArray):List ByteArray→List Lv→Lv
 |p::ps,l::ls=>if p.toList==s.toList then l else plv s ps ls
 |_,_=>.param s
def dA (ps:List ByteArray) (ls:List Lv):Lv→Lv
 |.zero=>.zero
 |.succ l=>.succ (dA ps ls l)
 |.max a b=>.max (dA ps ls a) (dA ps ls b)
 |.imax a b=>.imax (dA ps ls a) (dA ps ls b)
 |.param s=>plv s ps ls
def oE (ls:List Lv):List (List V):=ls.map Lv.enc
theorem LI (ps:List ByteArray) (ls:List Lv):∀(l:Lv),(∀s,l≠.param s)→(dA ps ls l).kind=l.kind∧(dA ps ls l).name=l.name∧(dA ps ls l).kids=l.kids.map (dA ps ls)
 |.param s,h=>absurd rfl (h s)
 |.zero,_=>⟨rfl,rfl,rfl⟩
 |.succ _,_=>⟨rfl,rfl,rfl⟩
 |.max ..,_=>⟨rfl,rfl,rfl⟩
 |.imax ..,_=>⟨rfl,rfl,rfl⟩
theorem gC (l:Lv):V.fits (.agg [.int .i64 l.kind,.str l.name,.slice 3 120 l.args]) true 3=true:=rfl
theorem mw (l:Lv):[V.cell (.agg [.int .i64 l.kind,.str l.name,.slice 3 120 l.args]) 0,V.cell (.agg [.int .i64 l.kind,.str l.name,.slice 3 120 l.args]) 1,V.cell (.agg [.int .i64 l.kind,.str l.name,.slice 3 120 l.args]) 2]=l.enc:=by rw[l.aX];rfl
theorem yd (call:af) (n:Nat) {ps:List ByteArray} {ls:List Lv} (hl:ps.length=ls.length) (hb:ps.length<2^61) (k:Int) (nm:ByteArray) (xs:List (List V)) (k0:Int) (n0:ByteArray) (a0:List (List V)) (σ:az) (r:Lv) (hr:V.agg [.int .i64 k,.str nm,.slice 3 120 xs]=V.agg [.int .i64 (Lv.param nm).kind,.str (Lv.param nm).name,.slice 3 120 (Lv.param nm).args]):
  ∀(m i:Nat),i≤ps.length→ps.length - i<m→ya call n m (strs ps) (oE ls) i k nm xs k0 n0 a0 σ=
   some (.ret [(.agg [.int .i64 (plv nm (ps.drop i) (ls.drop i)).kind,.str (plv nm (ps.drop i) (ls.drop i)).name,.slice 3 120 (plv nm (ps.drop i) (ls.drop i)).args],false)],σ)
 |0,i,_,hm=>by omega
 |m+1,i,hi,hm=>by
  show Ed call (ya call n m) (strs ps) (oE ls) i k nm xs k0 n0 a0 σ=_
  unfold Ed bo dG ak aq bp bU
  rw[cw]
  by_cases aG:i<ps.length
  ·have FM:i<ls.length:=by omega
   have hc:=List.getElem?_eq_getElem FM
   rw[oE,B4 hc,d0,eD aG,List.length_map,eD FM,Int.toNat_natCast,ib aG,List.drop_eq_getElem_cons aG,drop_cons hc,ls[i].cells]
   simp only[cond_true,bz,Option.bind_some,List.getD_cons_zero,V.di,plv]
   cases hc:ps[i].toList==nm.toList with
   |true=>simp
   |false=>
    simp only[cond_false,aw (show i<2^61 by omega),Bool.false_eq_true,if_false,Bool.and_self,cond_true,Option.bind_some]
    exact yd call n hl hb k nm xs k0 n0 a0 σ r hr m (i+1) (by omega) (by omega)
  ·rw[cQ aG,List.drop_eq_nil_of_le (by omega),hr]
   rfl
theorem ye (call:af) (n:Nat) {L:List Lv} (hb:L.length<2^33) (ps:List ByteArray) (ls:List Lv) (k1:Int) (n1:ByteArray) (k0:Int) (n0:ByteArray) (a0:List (List V)) (k:Int) (nm:ByteArray) (σ:az)
  (h:∀c∈L,call 283 [(.agg [.int .i64 c.kind,.str c.name,.slice 3 120 c.args],false),(.slice 1 9 (strs ps),false),(.slice 3 120 (oE ls),false)] σ=
   some (.ret [(.agg [.int .i64 (dA ps ls c).kind,.str (dA ps ls c).name,.slice 3 120 (dA ps ls c).args],false)],σ)):
  ∀(m i:Nat),i≤L.length→L.length - i<m→yb call n m (strs ps) (oE ls) i k1 n1 (L.map Lv.enc) k0 n0 a0 k nm (((L.take i).map (dA ps ls)).map Lv.enc) σ=
   some (.ret [(.agg [.int .i64 k,.str nm,.slice 3 120 ((L.map (dA ps ls)).map Lv.enc)],false)],σ)
 |0,i,_,hm=>by omega
 |m+1,i,hi,hm=>by
  show Ee call (yb call n m) (strs ps) (oE ls) i k1 n1 (L.map Lv.enc) k0 n0 a0 k nm _ σ=_
  unfold Ee bo aE bH ak de iP jq ae iz bp aq bU
  rw[List.length_map]
  by_cases aG:i<L.length
  ·have hc:=List.getElem?_eq_getElem aG
   have h1:=h _ (List.getElem_mem aG)
   rw[d0,eD aG,B4 hc,L[i].cells]
   simp only[cond_true,Bool.and_self,bz,Option.bind_some,ab h1,aw (show i<2^61 by omega),List.getD_cons_zero]
   rw[gC,mw,cF (by simp;omega)]
   simp only[cond_true,Bool.and_self,Option.bind_some]
   have:=ye call n hb ps ls k1 n1 k0 n0 a0 k nm σ h m (i+1) (by omega) (by omega)
   rw[List.take_succ_eq_append_getElem aG,List.map_append,List.map_append]at this
   exact this
  ·rw[cQ aG,List.take_of_length_le (by omega)]
   rfl
theorem O5 {ps:List ByteArray} {ls:List Lv} (hl:ps.length=ls.length) (hb:ps.length<2^61) (σ:az)(l:Lv) (ih:∀c∈l.kids,ah C 283 [(.agg [.int .i64 c.kind,.str c.name,.slice 3 120 c.args],false),(.slice 1 9 (strs ps),false),(.slice 3 120 (oE ls),false)] σ=
   some (.ret [(.agg [.int .i64 (dA ps ls c).kind,.str (dA ps ls c).name,.slice 3 120 (dA ps ls c).args],false)],σ)):
  Ef (ah C) (ps.length+4) l.kind l.name l.args (strs ps) (oE ls) σ=some (.ret [(.agg [.int .i64 (dA ps ls l).kind,.str (dA ps ls l).name,.slice 3 120 (dA ps ls l).args],false)],σ):=by
 by_cases hp:∃s,l=.param s
 ·obtain⟨s,rfl⟩:=hp
  have:=yd (ah C) (ps.length+4) hl hb 4 s [] 0 (ByteArray.mk #[]) [] σ .zero rfl (ps.length+4) 0 (by omega) (by omega)
  simpa[Ef,Lv.kind,Lv.name,Lv.args,Lv.kids,dA]using this
 ·have hp:∀s,l≠.param s:=fun s hs=>hp ⟨s,hs⟩
  obtain⟨e1,e2,e3⟩:=LI ps ls l hp
  have:=ye (ah C) (ps.length+4) (L:=l.kids) (by have:=jV l;omega) ps ls l.kind l.name 0 (ByteArray.mk #[]) [] l.kind l.name σ ih (ps.length+4) 0 (by omega) (by have:=jV l;omega)
  simp only[Ef,Qn hp,cond_false,e1,e2]
  simp only[Lv.args,e3]
  exact this
theorem O6 {ps:List ByteArray} {ls:List Lv} (hl:ps.length=ls.length) (hb:ps.length<2^61) (σ:az):∀(l:Lv),
  ah C 283 [(.agg [.int .i64 l.kind,.str l.name,.slice 3 120 l.args],false),(.slice 1 9 (strs ps),false),(.slice 3 120 (oE ls),false)] σ=
   some (.ret [(.agg [.int .i64 (dA ps ls l).kind,.str (dA ps ls l).name,.slice 3 120 (dA ps ls l).args],false)],σ):=
 Lv.ind fun l ih=>O3 (O5 hl hb σ l ih)
end Go.Ab.Mk
end
