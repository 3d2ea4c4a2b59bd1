/- AbMk9: printed by program: functions of the program as plain Lean, and the equations. -/
import Derived.Test.YtcjofhikcokhfaaGreatDoorAbMk0
set_option linter.unusedSimpArgs false
set_option linter.unusedVariables false
set_option linter.deprecated false
noncomputable section
set_option maxRecDepth 100000
namespace Go.Ab.Mk
open Go.Proofs Go.Ab
open List (getD)
open IntKind (wrap)
abbrev wk (α:Type):=Nat→Int→LL→ln (cM (az→α))
abbrev qn (α:Type):=Nat→Int→LL→ln (cM (az→α))
abbrev qo (α:Type):=iF (Nat→ln (cM (V→V→V→az→α)))
abbrev qp (α:Type):=Rq (ln (cM (az→α)))
def DK:af→qp RO→qp RO:=fun call Vk d c e f g b h i j k o p q r s t u v x y z a0 a1 σ=>
 aE call 168 (aF (V.str c) (de b)) σ 1 fun a2 w=>
 cB (ae a2) fun b4=>
 bif b4 then
 aE call 178 (aM (aP (bp e))) w 1 (fun a3 a4=>
 dG (ae a3) fun s8=>
 dS (fm (ByteArray.mk #[114]) s8)<|
 Vk d ((ByteArray.mk #[114])++s8) (bp e) f g b h i j k o p q r s t u v x y z a0 a1 a4)
 else
 dS (room (1+List.length b))<|
 aE call 177 (bH (dZ f g b h i j k o p q r s t u v) (aP d) (bU 4 c [])) w 1 fun a a5=>
 bQ (ae a) 5<|
 dc (de ([[V.str c]]++b)) (bA (ae a)) (aP 0) a5
def o7 (call:af) (n:Nat):=eR (DK call)
def Vv:qp St:=fun a b c d e f g h i j k o p q r s t u v w x y z σ=>⟨dd 4 ([cH 4,aU,aU,cH 7]++dd 14 ([bg a,aU,aU,aU,KW b,bg c]++dd 206 [])),nn 4 ([gW (dZ d e f g h i j k o p q r s t u),[],[],[(V.int .i64 v,false),(V.int .i64 w,false),(V.str x,false),(V.slice 3 120 y,true),(V.slice 5 53 z,true)]]++nn 226 []),σ⟩
def DL:af→qp RO→qo RO→qo RO:=fun call L3 rq v u w b e f c g h i j k o p q r s t a a2 a3 a4 a5 a6 x y z σ=>
 bif (decide (b<(a.length:Int)))then
 bo b a<|
 aE call 175 (ab9 (V.ptr 49 w 0) (dZ e f c g h i j k o p q r s t a) (V.agg [(ak a b 0),(ak a b 1),(ak a b 2),(ak a b 3),(ak a b 4),(ak a b 5)]) (aP u) (V.agg [x,y,z]) (aP v)) σ 1 (fun a7 a8=>
 bb (ae a7) fun i4=>
 bif (i4 != 0)then
 some (.ret [(V.slice 1 9 [],true),((aC 0 0 ⟨#[]⟩ [] []),false),((ae a7),false)],a8)
 else
 rq v u w (bp b) e f c g h i j k o p q r s t a a2 a3 a4 a5 a6 x y z a8)
 else
 aE call 176 (ft (V.ptr 49 w 0) (dZ e f c g h i j k o p q r s t a) (V.agg [x,y,z]) (aP v)) σ 2 fun a0 a1=>
 bb (aH a0) fun i8=>
 bif (i8 != 0)then
 some (.ret [(V.slice 1 9 [],true),((aC 0 0 ⟨#[]⟩ [] []),false),((aH a0),false)],a1)
 else
 cB (ae a0) fun b9=>
 bif (!b9)then
 aE call 177 (bH (dZ e f c g h i j k o p q r s t a) (aP u) (bU 0 ⟨#[]⟩ [])) a1 1 (fun d a9=>
 bQ (ae d) 5<|
 dc (de c) (bA (ae d)) (aP 0) a9)
 else
 L3 u (ByteArray.mk #[114]) 0 e f c g h i j k o p q r s t a a2 a3 a4 a5 a6 a1
def nk (call:af) (n:Nat):=eR fun r=>DL call (o7 call n n) r
def Vw:qo St:=fun a b c d e f g h i j k o p q r s t u v w x y z a0 a1 a2 a3 σ=>⟨[aU,aU,bg a,aU,cH 4,aU,aU,cH 7]++dd 11 ([cH 19,aU,aU,bg b,nD c,bg d]++dd 209 []),nn 4 ([gW (dZ e f g h i j k o p q r s t u v),[],[],[(V.int .i64 w,false),(V.int .i64 x,false),(V.str y,false),(V.slice 3 120 z,true),(V.slice 5 53 a0,true)]]++nn 11 ([bH a1 a2 a3]++nn 214 [])),σ⟩
def DM:af→qo RO→qn RO→qn RO:=fun call L2 eU o p c b r i j d e f g h s t u v w k x y z a0 a1 a2 σ=>
 bif (decide (b<(c.length:Int)))then
 bo b c<|
 aE call 167 (aF (V.ptr 49 o 0) (ak c b 0)) σ 1 (fun a9 c0=>
 bo b c<|
 dS (decide (0≤(0:Int))&&decide (0≤b)&&decide (b≤c.length))<|
 aE call 168 (aF (ak c b 0) (de ((c.take b.toNat).drop (Int.toNat 0)))) c0 1 fun c1 a3=>
 cB (ae a9) fun b7=>
 bif b7 then
 some (.ret [(V.slice 1 9 [],true),((aC 0 0 ⟨#[]⟩ [] []),false),((aP 3),false)],a3)
 else
 cB (ae c1) fun b8=>
 bif b8 then
 some (.ret [(V.slice 1 9 [],true),((aC 0 0 ⟨#[]⟩ [] []),false),((aP 3),false)],a3)
 else
 eU o p c (bp b) r i j d e f g h s t u v w k x y z a0 a1 a2 a3)
 else
 aE call 169 (aM (de j)) σ 1 fun c2 a7=>
 cB (ae c2) fun b12=>
 bif b12 then
 some (.ret [(V.slice 1 9 [],true),((aC 0 0 ⟨#[]⟩ [] []),false),((aP 5),false)],a7)
 else
 aE call 170 [(V.ptr 49 o 0,false),(V.slice 1 9 j,false),(V.slice 5 53 [],true),((aC d e f g h),false),(V.int .i64 p,false)] a7 2 fun a4 a8=>
 bQ (ae a4) 3<|
 bb (aH a4) fun i16=>
 bif (i16 != 0)then
 some (.ret [(V.slice 1 9 [],true),((aC 0 0 ⟨#[]⟩ [] []),false),((aH a4),false)],a8)
 else
 aE call 171 (aM (aC d e f g h)) a8 1 fun q c3=>
 aE call 172 (aF (aC d e f g h) (ae q)) c3 1 fun a5 a6=>
 bQ (ae a5) 5<|
 bb (ae q) fun i23=>
 bif (decide (i23<k))then
 some (.ret [(V.slice 1 9 [],true),((aC 0 0 ⟨#[]⟩ [] []),false),((aP 11),false)],a6)
 else
 bb (V.cell (ae a5) 0) fun i24=>
 bif (i24 != 1)then
 some (.ret [(V.slice 1 9 [],true),((aC 0 0 ⟨#[]⟩ [] []),false),((aP 11),false)],a6)
 else
 cz (V.cell (ae a5) 3) 3 120 fun RI=>
 bo 0 RI<|
 aE call 173 (aM (V.agg [(ak RI 0 0),(ak RI 0 1),(ak RI 0 2)])) a6 1 fun c4 c5=>
 aE call 174 (aM (V.agg [(ak RI 0 0),(ak RI 0 1),(ak RI 0 2)])) c5 1 fun c6 a=>
 cB (ae c4) fun b32=>
 bif (!b32)then
 cB (ae c6) fun b33=>
 bif (!b33)then
 some (.ret [(V.slice 1 9 [],true),((aC 0 0 ⟨#[]⟩ [] []),false),((aP 11),false)],a)
 else
 bif (decide ((i.size:Int)>36))then
 some (.ret [(V.slice 1 9 [],true),((aC 0 0 ⟨#[]⟩ [] []),false),((aP 11),false)],a)
 else
 bb (ae q) fun i34=>
 cj (a++[[(V.slice 21 58 [],true),(V.bool false,false)]]) 49 o 0 fun m35=>
 (fk (a++[[(V.slice 21 58 [],true),(V.bool false,false)]]) (V.ptr 49 (List.length a) 0)).bind fun m36=>
 (V.kj m36.1 21 58).bind fun l37=>
 cz m35 21 58 fun l38=>
 dS ((!V.isFull m36.1||decide (0<List.length l38))&&room (List.length l37+List.length l38))<|
 (aV m36.2 (V.ptr 49 (List.length a) 0) [(V.slice 21 58 (l37++l38),true)]).bind fun m39=>
 (fk m39 (V.ptr 49 (List.length a) 0)).bind fun m40=>
 (V.kj m40.1 21 58).bind fun l41=>
 dS ((!V.isFull m40.1||decide (0<1))&&room (List.length l41+1))<|
 (aV m40.2 (V.ptr 49 (List.length a) 0) [((V.slice 21 58 (l41++[[(aP 1),V.str i,V.slice 1 9 j,V.int .i64 d,V.int .i64 e,V.str f,V.slice 3 120 g,V.slice 5 53 h,(aP 0),(aP 0),V.str ⟨#[]⟩,V.slice 3 120 [],V.slice 5 53 [],(aP 0),V.slice 6 60 [],V.slice 1 9 [],(aP 0),(aP 0),V.str ⟨#[]⟩,V.slice 3 120 [],V.slice 5 53 []]])),true)]).bind fun m42=>
 L2 p (wrap .i64 (i34 - k)) (List.length a) 0 r i j d e f g h s t u v w k x y z a0 a1 a2 (ak RI 0 0) (ak RI 0 1) (ak RI 0 2) m42
 else
 bif (decide ((i.size:Int)>36))then
 some (.ret [(V.slice 1 9 [],true),((aC 0 0 ⟨#[]⟩ [] []),false),((aP 11),false)],a)
 else
 bb (ae q) fun i43=>
 cj (a++[[(V.slice 21 58 [],true),(V.bool false,false)]]) 49 o 0 fun m44=>
 (fk (a++[[(V.slice 21 58 [],true),(V.bool false,false)]]) (V.ptr 49 (List.length a) 0)).bind fun m45=>
 (V.kj m45.1 21 58).bind fun l46=>
 cz m44 21 58 fun l47=>
 dS ((!V.isFull m45.1||decide (0<List.length l47))&&room (List.length l46+List.length l47))<|
 (aV m45.2 (V.ptr 49 (List.length a) 0) [(V.slice 21 58 (l46++l47),true)]).bind fun m48=>
 (fk m48 (V.ptr 49 (List.length a) 0)).bind fun m49=>
 (V.kj m49.1 21 58).bind fun l50=>
 dS ((!V.isFull m49.1||decide (0<1))&&room (List.length l50+1))<|
 (aV m49.2 (V.ptr 49 (List.length a) 0) [((V.slice 21 58 (l50++[[(aP 1),V.str i,V.slice 1 9 j,V.int .i64 d,V.int .i64 e,V.str f,V.slice 3 120 g,V.slice 5 53 h,(aP 0),(aP 0),V.str ⟨#[]⟩,V.slice 3 120 [],V.slice 5 53 [],(aP 0),V.slice 6 60 [],V.slice 1 9 [],(aP 0),(aP 0),V.str ⟨#[]⟩,V.slice 3 120 [],V.slice 5 53 []]])),true)]).bind fun m51=>
 L2 p (wrap .i64 (i43 - k)) (List.length a) 0 r i j d e f g h s t u v w k x y z a0 a1 a2 (ak RI 0 0) (ak RI 0 1) (ak RI 0 2) m51
def o8 (call:af) (n:Nat):=eR fun r=>DM call (nk call n n) r
def Vx:qn St:=fun a b c d e f g h i j k o p q r s t u v w x y z a0 σ=>⟨[nD a,aU,bg b,aU,cH 4,aU,aU,cH 7,aU,Yp c,aU,bg d]++dd 222 [],nn 4 ([gW (dZ e f g h i j k o p q r s t u v),[],[],[(V.int .i64 w,false),(V.int .i64 x,false),(V.str y,false),(V.slice 3 120 z,true),(V.slice 5 53 a0,true)]]++nn 226 []),σ⟩
def DN:af→qn RO→wk RO→wk RO:=fun call L1 bh e f c a g d h i j k o p q r s t u v b w x y z a0 σ=>
 bif (decide (a<(b.length:Int)))then
 bo a b<|
 jq (ak b a 0) false 1<|
 iz c<|
 bh e f (c++[[ak b a 0]]) (bp a) g d h i j k o p q r s t u v b w x y z a0 σ
 else
 dS (fm d (ByteArray.mk #[46,114,101,99]))<|
 iz c<|
 L1 e f (c++[[V.str (d++(ByteArray.mk #[46,114,101,99]))]]) 0 g d h i j k o p q r s t u v b w x y z a0 σ
def si (call:af) (n:Nat):=eR fun r=>DN call (o8 call n n) r
def Vy:wk St:=fun a b c d e f g h i j k o p q r s t u v w x y z a0 σ=>⟨[nD a,aU,bg b,aU,cH 4,aU,aU,cH 7,aU,Yp c,bg d]++dd 223 [],nn 4 ([gW (dZ e f g h i j k o p q r s t u v),[],[],[(V.int .i64 w,false),(V.int .i64 x,false),(V.str y,false),(V.slice 3 120 z,true),(V.slice 5 53 a0,true)]]++nn 226 []),σ⟩
def family:af→Nat→Nat→pT (Int→RR):=fun call n b c a d e f g h i j k o p q r s t σ=>
 (si call n n) b t [[V.str a]] 0 c a d e f g h i j k o p q r s 0 0 (ByteArray.mk #[]) [] [] σ
theorem Le (call:af) (n:Nat) (m:Nat):o7 call n m=lq C tN call n 6 (pt 1073741816) [] Vv m:=bn (fun F x=>by kernel_rfl) m
theorem Lf (call:af) (n:Nat) (m:Nat):nk call n m=lq C tN call n 4 (pt 33554420) [] Vw m:=bn (fun F x=>by rw[Le];kernel_rfl) m
theorem Lg (call:af) (n:Nat) (m:Nat):o8 call n m=lq C tN call n 2 (pt 500) [] Vx m:=bn (fun F x=>by rw[Lf];kernel_rfl) m
theorem Lh (call:af) (n:Nat) (m:Nat):si call n m=lq C tN call n 0 (pt 116) [] Vy m:=bn (fun F x=>by rw[Lg];kernel_rfl) m
theorem Ou{n a b c e f g i j k o p q s t u v w b0 b1 b2}:bS 114 [(V.ptr 49 a 0,b0),((dZ b c e f g i j k o p q s t u v),b1),(V.int .i64 w,b2)] (family (ah C) n a b c e f g i j k o p q s t u v w):=bV tN n (e:=by intro _;rw[family,Lh];kernel_rfl)
end Go.Ab.Mk
end
noncomputable section
set_option maxRecDepth 100000
namespace Go.Ab.Mk
open Go.Proofs Go.Ab
open List (getD)
open IntKind (wrap)
def plain:af→Nat→Nat→pT (Int→RR):=fun call n b r s d g h i j k t u v w x a2 a3 e σ=>
 aE call 167 (aF (V.ptr 49 b 0) (V.str s)) σ 1 fun y o=>
 cB (ae y) fun b4=>
 bif b4 then
 aq (aP 3) o
 else
 aE call 169 (aM (de d)) o 1 fun z p=>
 cB (ae z) fun b8=>
 bif b8 then
 aq (aP 5) p
 else
 aE call 170 [(V.ptr 49 b 0,false),(V.slice 1 9 d,false),(V.slice 5 53 [],true),((aC g h i j k),false),(V.int .i64 e,false)] p 2 fun c f=>
 bQ (ae c) 3<|
 bb (aH c) fun i12=>
 bif (i12 != 0)then
 aq (aH c) f
 else
 bif (r==1)then
 aq (aH c) f
 else
 aE call 179 [(V.ptr 49 b 0,false),(V.slice 1 9 d,false),(V.slice 5 53 [],true),((aC t u v w x),false),(V.int .i64 e,false)] f 2 fun a q=>
 bQ (ae a) 5<|
 bb (aH a) fun i16=>
 bif (i16 != 0)then
 aq (aH a) q
 else
 aE call 180 (ft (V.ptr 49 b 0) (bA (ae a)) (aC g h i j k) (aP e)) q 1 fun a0 a1=>
 aq (ae a0) a1
theorem RJ{n a b c e f g i j k o p q s t u v w b0 b1 b2}:bS 115 [(V.ptr 49 a 0,b0),((dZ b c e f g i j k o p q s t u v),b1),(V.int .i64 w,b2)] (plain (ah C) n a b c e f g i j k o p q s t u v w):=bV UA n
abbrev sj (α:Type):=V→uC (az→α)
def zL:af→sj RO→sj RO:=fun call bh c a e f b σ=>
 bif (decide (a<(b.length:Int)))then
 bo a b<|
 aE call 116 [(V.agg [(ak b a 0),(ak b a 1),(ak b a 2)],false),(c,true)] σ 1 (fun d g=>
 AU d<|
 bh (ae d) (bp a) e f b g)
 else
 some (.ret [(c,true)],σ)
def ue (call:af) (n:Nat):=eR (zL call)
def RK:sj St:=fun a b c d e σ=>⟨[aU,KG a,cH 2,aU,aU,aU,bg b]++dd 30 [],[[],[],gW (bU c d e)]++nn 34 [],σ⟩
def BZ:af→Nat→kd (LL→RR):=fun call n c b e a σ=>
 bif (c==4)then
 aE call 168 (aF (V.str b) (de a)) σ 1 (fun f d=>
 cB (ae f) fun b4=>
 bif (!b4)then
 iz a<|
 some (.ret [(V.slice 1 9 (a++[[V.str b]]),true)],d)
 else
 some (.ret [(V.slice 1 9 a,true)],d))
 else
 (ue call n n) (de a) 0 c b e σ
theorem I3 (call:af) (n:Nat) (m:Nat):ue call n m=lq C C4 call n 0 (pt 116) [] RK m:=bn (fun F x=>by kernel_rfl) m
theorem Li{n a b c e b0}:bS 116 [((bU a b c),b0),(V.slice 1 9 e,true)] (BZ (ah C) n a b c e):=bV C4 n (e:=by intro _;rw[BZ,I3];kernel_rfl)
abbrev zM (α:Type):=Int→uC (az→α)
def I4:af→zM RO→zM RO:=fun call bh c a d e b σ=>
 bif (decide (a<(b.length:Int)))then
 bo a b<|
 aE call 117 (aM (V.agg [(ak b a 0),(ak b a 1),(ak b a 2)])) σ 1 (fun f g=>
 bb (ae f) fun i4=>
 bh (wrap .i64 (c+i4)) (bp a) d e b g)
 else
 aq (aP c) σ
def xM (call:af) (n:Nat):=eR (I4 call)
def YA:zM St:=fun a b c d e σ=>⟨[aU,cH 1,aU,bg a,bg b]++dd 19 [],[[],gW (bU c d e)]++nn 22 [],σ⟩
def Qc:af→Nat→kd RR:=fun call n a b c σ=>
 bif (a==1)then
 (xM call n n) 1 0 a b c σ
 else
 (xM call n n) 0 0 a b c σ
theorem Ov (call:af) (n:Nat) (m:Nat):xM call n m=lq C Nt call n 0 (pt 244) [] YA m:=bn (fun F x=>by kernel_rfl) m
theorem Gv{n a b c b0}:bS 117 [((bU a b c),b0)] (Qc (ah C) n a b c):=bV Nt n (e:=by intro _;rw[Qc,Ov];kernel_rfl)
abbrev wm (α:Type):=LL→LL→uC (az→α)
def DP:af→wm RO→wm RO:=fun call bh b c a e d f σ=>
 bif (decide (a<(b.length:Int)))then
 bo a b<|
 dG (ak b a 0) fun s1=>
 bif (s1.toList==d.toList)then
 bo a c<|
 aq (ak c a 0) σ
 else
 bh b c (bp a) e d f σ
 else
 aq (aP 0) σ
def xN (call:af) (n:Nat):=eR (DP call)
def Vz:wm St:=fun a b c d e f σ=>⟨[aU,zr a,gV (V.slice 1 3 b),cH 3,aU,aU,aU,bg c]++dd 61 [],[[],[],[],gW (bU d e f)]++nn 65 [],σ⟩
def zN:af→Nat→kd (LL→LL→RR):=fun call n b h a e f σ=>
 bif (b==0)then
 aq (aP 0) σ
 else
 bif (b==1)then
 bo 0 a<|
 aE call 118 (bH (V.agg [(ak a 0 0),(ak a 0 1),(ak a 0 2)]) (de e) (V.slice 1 3 f)) σ 1 (fun i j=>
 bb (ae i) fun i4=>
 aq (aP (bp i4)) j)
 else
 bif (b==4)then
 (xN call n n) e f 0 b h a σ
 else
 bo 0 a<|
 aE call 118 (bH (V.agg [(ak a 0 0),(ak a 0 1),(ak a 0 2)]) (de e) (V.slice 1 3 f)) σ 1 fun g k=>
 bo 1 a<|
 aE call 118 (bH (V.agg [(ak a 1 0),(ak a 1 1),(ak a 1 2)]) (de e) (V.slice 1 3 f)) k 1 fun c d=>
 bif (b==3)then
 bb (ae c) fun i11=>
 bif (i11==0)then
 aq (aP 0) d
 else
 bb (ae c) fun i12=>
 bb (ae g) fun i13=>
 bif (decide (i12>i13))then
 aq (ae c) d
 else
 aq (ae g) d
 else
 bb (ae c) fun i14=>
 bb (ae g) fun i15=>
 bif (decide (i14>i15))then
 aq (ae c) d
 else
 aq (ae g) d
theorem Lj (call:af) (n:Nat) (m:Nat):xN call n m=lq C Ip call n 1 (pt 27620) [] Vz m:=bn (fun F x=>by kernel_rfl) m
theorem np{n a b c e f b0 b1 b2}:bS 118 [((bU a b c),b0),(V.slice 1 9 e,b1),(V.slice 1 3 f,b2)] (zN (ah C) n a b c e f):=bV Ip n (e:=by intro _;rw[zN,Lj];kernel_rfl)
def Lk:af→Nat→Int→Bool→RR:=fun call n a b σ=>
 bif (decide (a≥97))then
 bif (decide (a≤122))then
 aq (V.bool true) σ
 else
 bif (decide (a≥65))then
 bif (decide (a≤90))then
 aq (V.bool true) σ
 else
 bif (a==95)then
 aq (V.bool true) σ
 else
 bif (!b)then
 bif (decide (a≥48))then
 bif (decide (a≤57))then
 aq (V.bool true) σ
 else
 bif (a==46)then
 aq (V.bool true) σ
 else
 aq (V.bool (a==39)) σ
 else
 bif (a==46)then
 aq (V.bool true) σ
 else
 aq (V.bool (a==39)) σ
 else
 aq (V.bool false) σ
 else
 bif (a==95)then
 aq (V.bool true) σ
 else
 bif (!b)then
 bif (decide (a≥48))then
 bif (decide (a≤57))then
 aq (V.bool true) σ
 else
 bif (a==46)then
 aq (V.bool true) σ
 else
 aq (V.bool (a==39)) σ
 else
 bif (a==46)then
 aq (V.bool true) σ
 else
 aq (V.bool (a==39)) σ
 else
 aq (V.bool false) σ
 else
 bif (decide (a≥65))then
 bif (decide (a≤90))then
 aq (V.bool true) σ
 else
 bif (a==95)then
 aq (V.bool true) σ
 else
 bif (!b)then
 bif (decide (a≥48))then
 bif (decide (a≤57))then
 aq (V.bool true) σ
 else
 bif (a==46)then
 aq (V.bool true) σ
 else
 aq (V.bool (a==39)) σ
 else
 bif (a==46)then
 aq (V.bool true) σ
 else
 aq (V.bool (a==39)) σ
 else
 aq (V.bool false) σ
 else
 bif (a==95)then
 aq (V.bool true) σ
 else
 bif (!b)then
 bif (decide (a≥48))then
 bif (decide (a≤57))then
 aq (V.bool true) σ
 else
 bif (a==46)then
 aq (V.bool true) σ
 else
 aq (V.bool (a==39)) σ
 else
 bif (a==46)then
 aq (V.bool true) σ
 else
 aq (V.bool (a==39)) σ
 else
 aq (V.bool false) σ
theorem I5{n a b b0 b1}:bS 159 [(V.int .u8 a,b0),(V.bool b,b1)] (Lk (ah C) n a b):=bV Gl n
def ZN:af→Nat→AX RR:=fun call n b f σ=>
 aE call 112 (aM (V.ptr 202 b 0)) σ 3 fun a c=>
 (V.asBool (getD a 2 bZ).1).bind fun b4=>
 bif (!b4)then
 aE call 161 (aF (V.ptr 202 b 0) (aH a)) c 0 (fun g d=>
 cj d 202 b 2 fun m8=>
 bb m8 fun i9=>
 bif (i9==0)then
 dG (ae a) fun s10=>
 bb (aH a) fun i11=>
 (aV d (V.ptr 202 b 1) [((aP (wrap .i64 (i11+(s10.size:Int)))),false)]).bind fun m12=>
 some (.ret [],m12)
 else
 some (.ret [],d))
 else
 dG (ae a) fun ZM=>
 bif (!(ZM.toList==f.toList))then
 aE call 161 (aF (V.ptr 202 b 0) (aH a)) c 0 (fun h e=>
 cj e 202 b 2 fun m17=>
 bb m17 fun i18=>
 bif (i18==0)then
 dG (ae a) fun s19=>
 bb (aH a) fun i20=>
 (aV e (V.ptr 202 b 1) [((aP (wrap .i64 (i20+(s19.size:Int)))),false)]).bind fun m21=>
 some (.ret [],m21)
 else
 some (.ret [],e))
 else
 cj c 202 b 2 fun m22=>
 bb m22 fun i23=>
 bif (i23==0)then
 dG (ae a) fun ZG=>
 bb (aH a) fun i25=>
 (aV c (V.ptr 202 b 1) [((aP (wrap .i64 (i25+(ZG.size:Int)))),false)]).bind fun m26=>
 some (.ret [],m26)
 else
 some (.ret [],c)
theorem RL{n a b b0 b1}:bS 160 [(V.ptr 202 a 0,b0),(V.str b,b1)] (ZN (ah C) n a b):=bV UB n
def ZO:af→Nat→Nat→Int→RR:=fun call n a b σ=>
 cj σ 202 a 2 fun m1=>
 bb m1 fun i2=>
 bif (i2==0)then
 (aV σ (V.ptr 202 a 2) [((aP 1),false),(V.int .i64 b,false)]).bind fun m3=>
 some (.ret [],m3)
 else
 some (.ret [],σ)
theorem RM{n a b b0 b1}:bS 161 [(V.ptr 202 a 0,b0),(V.int .i64 b,b1)] (ZO (ah C) n a b):=bV UC n
def ZP:af→Nat→Nat→RR:=fun call n b σ=>
 aE call 112 (aM (V.ptr 202 b 0)) σ 3 fun a c=>
 (V.asBool (getD a 2 bZ).1).bind fun b4=>
 bif (!b4)then
 aE call 161 (aF (V.ptr 202 b 0) (aH a)) c 0 (fun f d=>
 cj d 202 b 2 fun m8=>
 bb m8 fun i9=>
 bif (i9 != 0)then
 aq (V.str ⟨#[]⟩) d
 else
 dG (ae a) fun s10=>
 bb (aH a) fun i11=>
 (aV d (V.ptr 202 b 1) [((aP (wrap .i64 (i11+(s10.size:Int)))),false)]).bind fun m12=>
 aq (ae a) m12)
 else
 dG (ae a) fun ZM=>
 bif (ZM.toList==(ByteArray.mk #[]).toList)then
 aE call 161 (aF (V.ptr 202 b 0) (aH a)) c 0 (fun g e=>
 cj e 202 b 2 fun m17=>
 bb m17 fun i18=>
 bif (i18 != 0)then
 aq (V.str ⟨#[]⟩) e
 else
 dG (ae a) fun s19=>
 bb (aH a) fun i20=>
 (aV e (V.ptr 202 b 1) [((aP (wrap .i64 (i20+(s19.size:Int)))),false)]).bind fun m21=>
 aq (ae a) m21)
 else
 cj c 202 b 2 fun m22=>
 bb m22 fun i23=>
 bif (i23 != 0)then
 aq (V.str ⟨#[]⟩) c
 else
 dG (ae a) fun ZG=>
 bb (aH a) fun i25=>
 (aV c (V.ptr 202 b 1) [((aP (wrap .i64 (i25+(ZG.size:Int)))),false)]).bind fun m26=>
 aq (ae a) m26
theorem RN{n a b0}:bS 162 [(V.ptr 202 a 0,b0)] (ZP (ah C) n a):=bV UD n
def ZQ:af→Nat→Nat→RR:=fun call n b σ=>
 aE call 112 (aM (V.ptr 202 b 0)) σ 3 fun a f=>
 aE call 212 (aM (ae a)) f 1 fun g c=>
 (V.asBool (getD a 2 bZ).1).bind fun b7=>
 bif (!b7)then
 aE call 161 (aF (V.ptr 202 b 0) (aH a)) c 0 (fun h d=>
 cj d 202 b 2 fun m11=>
 bb m11 fun i12=>
 bif (i12 != 0)then
 aq (V.str ⟨#[]⟩) d
 else
 dG (ae a) fun ZM=>
 bb (aH a) fun i14=>
 (aV d (V.ptr 202 b 1) [((aP (wrap .i64 (i14+(ZM.size:Int)))),false)]).bind fun m15=>
 aq (ae a) m15)
 else
 cB (ae g) fun UQ=>
 bif (!UQ)then
 aE call 161 (aF (V.ptr 202 b 0) (aH a)) c 0 (fun i e=>
 cj e 202 b 2 fun m20=>
 bb m20 fun i21=>
 bif (i21 != 0)then
 aq (V.str ⟨#[]⟩) e
 else
 dG (ae a) fun s22=>
 bb (aH a) fun i23=>
 (aV e (V.ptr 202 b 1) [((aP (wrap .i64 (i23+(s22.size:Int)))),false)]).bind fun m24=>
 aq (ae a) m24)
 else
 cj c 202 b 2 fun Yi=>
 bb Yi fun i26=>
 bif (i26 != 0)then
 aq (V.str ⟨#[]⟩) c
 else
 dG (ae a) fun s27=>
 bb (aH a) fun i28=>
 (aV c (V.ptr 202 b 1) [((aP (wrap .i64 (i28+(s27.size:Int)))),false)]).bind fun m29=>
 aq (ae a) m29
theorem RP{n a b0}:bS 163 [(V.ptr 202 a 0,b0)] (ZQ (ah C) n a):=bV UE n
def ZR:af→Nat→Nat→RR:=fun call n b σ=>
 aE call 112 (aM (V.ptr 202 b 0)) σ 3 fun c a=>
 (V.asBool (getD c 2 bZ).1).bind fun b4=>
 bif (!b4)then
 aq (V.str ⟨#[]⟩) a
 else
 cj a 202 b 2 fun m5=>
 bb m5 fun i6=>
 bif (i6 != 0)then
 aq (V.str ⟨#[]⟩) a
 else
 aq (ae c) a
theorem RQ{n a b0}:bS 164 [(V.ptr 202 a 0,b0)] (ZR (ah C) n a):=bV UF n
abbrev wo (α:Type):=ByteArray→iF (az→α)
def DQ:af→wo RO→wo RO:=fun call bh b c a σ=>
 bif (decide (a<(b.size:Int)))then
 dS (decide (0≤a)&&decide (a<b.size))<|
 bh b (wrap .i64 ((wrap .i64 (10*c))+(wrap .i64 (IntKind.wrap .u8 ((av b a.toNat) - 48))))) (bp a) σ
 else
 aq (aP c) σ
def xO (call:af) (n:Nat):=eR (DQ call)
def VA:wo St:=fun a b c σ=>⟨[KW a,aU,aU,bg b,bg c]++dd 15 [],nn 20 [],σ⟩
def number:af→Nat→ByteArray→RR:=fun call n a σ=>
 (xO call n n) a 0 0 σ
theorem Ll (call:af) (n:Nat) (m:Nat):xO call n m=lq C Iq call n 0 (pt 116) [] VA m:=bn (fun F x=>by kernel_rfl) m
theorem Ow{n a b0}:bS 165 [(V.str a,b0)] (number (ah C) n a):=bV Iq n (e:=by intro _;rw[number,Ll];kernel_rfl)
end Go.Ab.Mk
end
noncomputable section
set_option maxRecDepth 100000
namespace Go.Ab.Mk
open Go.Proofs Go.Ab
open List (getD)
open IntKind (wrap)
abbrev zO (α:Type):=Nat→V→V→iF (cM (az→α))
abbrev o9 (α:Type):=Nat→iF (cM (iF (V→LL→LL→az→α)))
abbrev uf (α:Type):=Nat→Int→cM (iF (V→LL→LL→az→α))
def xP:af→o9 RO→o9 RO:=fun call eU b d e j k o p q f g h i c σ=>
 bif (decide (e<d))then
 aE call 166 (aM (V.ptr 202 b 0)) σ 1 (fun a r=>
 jq (ae a) true 5<|
 iz c<|
 eU b d (bp e) j k o p q f g h i (c++[[V.cell (ae a) 0,V.cell (ae a) 1,V.cell (ae a) 2,V.cell (ae a) 3,V.cell (ae a) 4]]) r)
 else
 aE call 160 (aF (V.ptr 202 b 0) (V.str ⟨#[41]⟩)) σ 0 fun t s=>
 aq (V.agg [V.int .i64 f,V.int .i64 g,h,V.slice 3 120 i,V.slice 5 53 c]) s
def eP (call:af) (n:Nat):=eR (xP call)
def YB:o9 St:=fun a b c d e f g h i j k o p σ=>⟨[gV (V.ptr 202 a 0),aU,cH 2]++dd 8 ([cH 11,bg b,bg c]++dd 119 []),[[],[],[(V.int .i64 d,false),(V.int .i64 e,false),(V.str f,false),(V.slice 3 120 g,true),(V.slice 5 53 h,true)]]++nn 8 ([[(V.int .i64 i,false),(V.int .i64 j,false),(k,false),(V.slice 3 120 o,true),(V.slice 5 53 p,true)]]++nn 121 []),σ⟩
def I6:af→o9 RO→uf RO→uf RO:=fun call L1 rq a d e f g h i j k o b p σ=>
 cj σ 202 a 2 fun m1=>
 bb m1 fun i2=>
 bif (i2==0)then
 aE call 164 (aM (V.ptr 202 a 0)) σ 1 (fun r q=>
 dG (ae r) fun s6=>
 bif (!(s6.toList==(ByteArray.mk #[41]).toList))then
 aE call 213 (aM (V.ptr 202 a 0)) q 1 (fun c s=>
 jq (ae c) true 3<|
 iz b<|
 rq a d e f g h i j k o (b++[[V.cell (ae c) 0,V.cell (ae c) 1,V.cell (ae c) 2]]) p s)
 else
 L1 a d 0 e f g h i j k o b p q)
 else
 L1 a d 0 e f g h i j k o b p σ
def nM (call:af) (n:Nat):=eR fun r=>I6 call (eP call n n) r
def YC:uf St:=fun a b c d e f g h i j k o σ=>⟨[gV (V.ptr 202 a 0),aU,cH 2]++dd 8 ([cH 11,bg b]++dd 120 []),[[],[],[(V.int .i64 c,false),(V.int .i64 d,false),(V.str e,false),(V.slice 3 120 f,true),(V.slice 5 53 g,true)]]++nn 8 ([[(V.int .i64 h,false),(V.int .i64 i,false),(j,false),(V.slice 3 120 k,true),(V.slice 5 53 o,true)]]++nn 121 []),σ⟩
def ug:af→o9 RO→uf RO→zO RO→zO RO:=fun call L1 L2 bh a k o b c d e f g h σ=>
 cz (getD [de [[V.str ⟨#[]⟩],[V.str ⟨#[115,111,114,116]⟩],[V.str ⟨#[99,111,110,115,116]⟩],[V.str ⟨#[97,112,112]⟩],[V.str ⟨#[108,97,109]⟩],[V.str ⟨#[112,105]⟩],[V.str ⟨#[108,101,116]⟩]]] 0 V.any) 1 9 fun l1=>
 bif (decide (c<(l1.length:Int)))then
 cz (getD [de [[V.str ⟨#[]⟩],[V.str ⟨#[115,111,114,116]⟩],[V.str ⟨#[99,111,110,115,116]⟩],[V.str ⟨#[97,112,112]⟩],[V.str ⟨#[108,97,109]⟩],[V.str ⟨#[112,105]⟩],[V.str ⟨#[108,101,116]⟩]]] 0 V.any) 1 9 fun l2=>
 bo c l2<|
 dG (ak l2 c 0) fun s3=>
 dG k fun s4=>
 bif (s3.toList==s4.toList)then
 bh a k o c (bp c) d e f g h σ
 else
 bh a k o b (bp c) d e f g h σ
 else
 bif (b==0)then
 aE call 161 (aF (V.ptr 202 a 0) o) σ 0 (fun t q=>
 aq (aC 0 0 ⟨#[]⟩ [] []) q)
 else
 aE call 162 (aM (V.ptr 202 a 0)) σ 1 fun u i=>
 bif (b==1)then
 aE call 213 (aM (V.ptr 202 a 0)) i 1 (fun j r=>
 jq (ae j) true 3<|
 dS (room (0+1))<|
 L1 a 0 0 d e f g h b 0 (V.str ⟨#[]⟩) [[V.cell (ae j) 0,V.cell (ae j) 1,V.cell (ae j) 2]] [] r)
 else
 bif (b==2)then
 aE call 163 (aM (V.ptr 202 a 0)) i 1 (fun p s=>
 W2 (ae p) 1<|
 L2 a 0 d e f g h b 0 (ae p) [] [] s)
 else
 bif (b==6)then
 L1 a 3 0 d e f g h b 0 (V.str ⟨#[]⟩) [] [] i
 else
 L1 a 2 0 d e f g h b 0 (V.str ⟨#[]⟩) [] [] i
def iY (call:af) (n:Nat):=eR fun r=>ug call (eP call n n) (nM call n n) r
def YD:zO St:=fun a b c d e f g h i j σ=>⟨[gV (V.ptr 202 a 0),aU,cH 2,aU,aU,aU,gV b,gV c,aU,bg d,bg e]++dd 122 [],[[],[],[(V.int .i64 f,false),(V.int .i64 g,false),(V.str h,false),(V.slice 3 120 i,true),(V.slice 5 53 j,true)]]++nn 130 [],σ⟩
def VB:af→Nat→Nat→RR:=fun call n a σ=>
 aE call 112 (aM (V.ptr 202 a 0)) σ 3 fun b c=>
 cj c 202 a 2 fun m4=>
 bb m4 fun i5=>
 bif (i5 != 0)then
 aq (aC 0 0 ⟨#[]⟩ [] []) c
 else
 (V.asBool (getD b 2 bZ).1).bind fun b6=>
 bif (!b6)then
 aE call 161 (aF (V.ptr 202 a 0) (aH b)) c 0 (fun t j=>
 aq (aC 0 0 ⟨#[]⟩ [] []) j)
 else
 dG (ae b) fun s10=>
 bif (s10.toList==(ByteArray.mk #[]).toList)then
 aE call 161 (aF (V.ptr 202 a 0) (aH b)) c 0 (fun u k=>
 aq (aC 0 0 ⟨#[]⟩ [] []) k)
 else
 dG (ae b) fun s14=>
 dS (decide (0≤(0:Int))&&decide ((0:Int)<s14.size))<|
 bif ((av s14 (Int.toNat 0)) != 35)then
 dG (ae b) fun s15=>
 bif (!(s15.toList==(ByteArray.mk #[40]).toList))then
 aE call 161 (aF (V.ptr 202 a 0) (aH b)) c 0 (fun v o=>
 aq (aC 0 0 ⟨#[]⟩ [] []) o)
 else
 aE call 162 (aM (V.ptr 202 a 0)) c 1 (fun w d=>
 dG (ae b) fun s22=>
 bif (!(s22.toList==(ByteArray.mk #[40]).toList))then
 dG (ae b) fun ZL=>
 dS (decide (0≤(1:Int))&&decide (1≤(ZL.size:Int))&&decide ((ZL.size:Int)≤ZL.size))<|
 aE call 165 (aM (V.str (ZL.extract (Int.toNat 1) (Int.toNat (ZL.size:Int))))) d 1 (fun e p=>
 jq (ae e) false 1<|
 aq (V.agg [(aP 0),(ae e),V.str ⟨#[]⟩,V.slice 3 120 [],V.slice 5 53 []]) p)
 else
 aE call 112 (aM (V.ptr 202 a 0)) d 3 fun f q=>
 (iY call n n) a (ae f) (aH f) 0 1 0 0 (ByteArray.mk #[]) [] [] q)
 else
 aE call 162 (aM (V.ptr 202 a 0)) c 1 fun x g=>
 dG (ae b) fun s33=>
 bif (!(s33.toList==(ByteArray.mk #[40]).toList))then
 dG (ae b) fun Yg=>
 dS (decide (0≤(1:Int))&&decide (1≤(Yg.size:Int))&&decide ((Yg.size:Int)≤Yg.size))<|
 aE call 165 (aM (V.str (Yg.extract (Int.toNat 1) (Int.toNat (Yg.size:Int))))) g 1 (fun h r=>
 jq (ae h) false 1<|
 aq (V.agg [(aP 0),(ae h),V.str ⟨#[]⟩,V.slice 3 120 [],V.slice 5 53 []]) r)
 else
 aE call 112 (aM (V.ptr 202 a 0)) g 3 fun i s=>
 (iY call n n) a (ae i) (aH i) 0 1 0 0 (ByteArray.mk #[]) [] [] s
theorem DR (call:af) (n:Nat) (m:Nat):eP call n m=lq C C5 call n 5 (pt 524276) [] YB m:=bn (fun F x=>by kernel_rfl) m
theorem Ox (call:af) (n:Nat) (m:Nat):nM call n m=lq C C5 call n 3 (pt 33553132) [] YC m:=bn (fun F x=>by rw[DR];kernel_rfl) m
theorem Oy (call:af) (n:Nat) (m:Nat):iY call n m=lq C C5 call n 0 (pt 8180) [] YD m:=bn (fun F x=>by rw[DR,Ox];kernel_rfl) m
theorem RT{n a b0}:bS 166 [(V.ptr 202 a 0,b0)] (VB (ah C) n a):=bV C5 n (e:=by intro _;rw[VB,Oy];kernel_rfl)
def VC:af→Nat→AX RR:=fun call n b c σ=>
 aE call 28 (aF (V.ptr 49 b 0) (V.str c)) σ 3 fun a d=>
 bQ (aH a) 21<|
 bb (ae a) fun i4=>
 aq (V.bool (i4 != 0)) d
theorem Oz{n a b b0 b1}:bS 167 [(V.ptr 49 a 0,b0),(V.str b,b1)] (VC (ah C) n a b):=bV P1 n
abbrev zP (α:Type):=ByteArray→eh (az→α)
def I7:af→zP RO→zP RO:=fun call bh c b a σ=>
 bif (decide (a<(b.length:Int)))then
 bo a b<|
 dG (ak b a 0) fun s1=>
 bif (s1.toList==c.toList)then
 aq (V.bool true) σ
 else
 bh c b (bp a) σ
 else
 aq (V.bool false) σ
def B2 (call:af) (n:Nat):=eR (I7 call)
def YE:zP St:=fun a b c σ=>⟨[KW a,zr b,aU,aU,aU,bg c]++dd 12 [],nn 18 [],σ⟩
def VD:af→Nat→ByteArray→LL→RR:=fun call n a b σ=>
 (B2 call n n) a b 0 σ
theorem OA (call:af) (n:Nat) (m:Nat):B2 call n m=lq C Nu call n 0 (pt 52) [] YE m:=bn (fun F x=>by kernel_rfl) m
theorem RU{n a b b0 b1}:bS 168 [(V.str a,b0),(V.slice 1 9 b,b1)] (VD (ah C) n a b):=bV Nu n (e:=by intro _;rw[VD,OA];kernel_rfl)
abbrev zQ (α:Type):=eh (az→α)
def I8:af→zQ RO→zQ RO:=fun call bh b a σ=>
 bif (decide (a<(b.length:Int)))then
 bo a b<|
 dS (decide (0≤(0:Int))&&decide (0≤a)&&decide (a≤b.length))<|
 aE call 168 (aF (ak b a 0) (de ((b.take a.toNat).drop (Int.toNat 0)))) σ 1 (fun d c=>
 cB (ae d) fun b4=>
 bif b4 then
 aq (V.bool true) c
 else
 bh b (bp a) c)
 else
 aq (V.bool (decide ((b.length:Int)>6))) σ
def xQ (call:af) (n:Nat):=eR (I8 call)
def YF:zQ St:=fun a b σ=>⟨[zr a,aU,aU,bg b]++dd 19 [],nn 23 [],σ⟩
def ZS:af→Nat→LL→RR:=fun call n a σ=>
 (xQ call n n) a 0 σ
theorem OB (call:af) (n:Nat) (m:Nat):xQ call n m=lq C Nv call n 0 (pt 52) [] YF m:=bn (fun F x=>by kernel_rfl) m
theorem RW{n a b0}:bS 169 [(V.slice 1 9 a,b0)] (ZS (ah C) n a):=bV Nv n (e:=by intro _;rw[ZS,OB];kernel_rfl)
def OC:af→Nat→Nat→LL→LL→cM (Int→RR):=fun call n d g h i j k o p e σ=>
 aE call 179 (dn (V.ptr 49 d 0) (de g) (dk h) (aC i j k o p) (aP e)) σ 2 fun a f=>
 bQ (ae a) 5<|
 bb (aH a) fun i4=>
 bif (i4 != 0)then
 cq (bU 0 ⟨#[]⟩ []) (aH a) f
 else
 aE call 214 (bH (V.ptr 49 d 0) (bA (ae a)) (aP e)) f 3 fun b c=>
 bQ (ae b) 5<|
 (V.asInt (getD b 2 bZ).1 .i64).bind fun i8=>
 bif (i8 != 0)then
 cq (bU 0 ⟨#[]⟩ []) ((getD b 2 bZ).1) c
 else
 bb (V.cell (ae b) 0) fun i9=>
 bif (i9 != 1)then
 cq (bU 0 ⟨#[]⟩ []) (aP 10) c
 else
 cz (V.cell (ae b) 3) 3 120 fun l10=>
 bo 0 l10<|
 cq (V.agg [(ak l10 0 0),(ak l10 0 1),(ak l10 0 2)]) (aP 0) c
theorem OD{n a b c e f g i j k b0 b1 b2 b3 b4}:bS 170 [(V.ptr 49 a 0,b0),(V.slice 1 9 b,b1),(V.slice 5 53 c,b2),((aC e f g i j),b3),(V.int .i64 k,b4)] (OC (ah C) n a b c e f g i j k):=bV P2 n
abbrev I9 (α:Type):=Int→V→V→V→V→V→az→α
def VE:af→I9 RO→I9 RO:=fun call bh a b d e f c σ=>
 bb b fun i1=>
 bif (i1==5)then
 cz c 5 53 fun l2=>
 bo 1 l2<|
 gr (bh (bp a)) l2 1 σ
 else
 aq (aP a) σ
def Lm (call:af) (n:Nat):=eR (VE call)
def aca:I9 St:=fun a b c d e f σ=>⟨[aU,cH 1,aU,bg a]++dd 10 [],[[],dn b c d e f]++nn 12 [],σ⟩
def pis:af→Nat→cM RR:=fun call n a b c d e σ=>
 (Lm call n n) 0 (aP a) (aP b) (V.str c) (iP d) (dk e) σ
theorem VF (call:af) (n:Nat) (m:Nat):Lm call n m=lq C aaI call n 0 (pt 56) [] aca m:=bn (fun F x=>by kernel_rfl) m
theorem YG{n a b c e f b0}:bS 171 [((aC a b c e f),b0)] (pis (ah C) n a b c e f):=bV aaI n (e:=by intro _;rw[pis,VF];kernel_rfl)
abbrev DS (α:Type):=iF (V→V→V→V→V→cM (az→α))
def OE:af→DS RO→DS RO:=fun call bh a b d e f g c h i j k o σ=>
 bif (decide (b<a))then
 cz c 5 53 fun l1=>
 bo 1 l1<|
 gr (bh a (bp b)) l1 1 h i j k o σ
 else
 aq (bF d e f g c) σ
def DT (call:af) (n:Nat):=eR (OE call)
def aaW:DS St:=fun a b c d e f g h i j k o σ=>⟨[aU,bg a,cH 2,aU,cH 4,bg b]++dd 10 [],[[],[],dn c d e f g,[],[(V.int .i64 h,false),(V.int .i64 i,false),(V.str j,false),(V.slice 3 120 k,true),(V.slice 5 53 o,true)]]++nn 11 [],σ⟩
def acb:af→Nat→cM (Int→RR):=fun call n a b c d e f σ=>
 (DT call n n) f 0 (aP a) (aP b) (V.str c) (iP d) (dk e) 0 0 (ByteArray.mk #[]) [] [] σ
theorem RX (call:af) (n:Nat) (m:Nat):DT call n m=lq C UG call n 0 (pt 52) [] aaW m:=bn (fun F x=>by kernel_rfl) m
theorem VG{n a b c e f g b0 b1}:bS 172 [((aC a b c e f),b0),(V.int .i64 g,b1)] (acb (ah C) n a b c e f g):=bV UG n (e:=by intro _;rw[acb,RX];kernel_rfl)
def always:af→Nat→kd RR:=fun call n a b c σ=>
 aE call 74 (aF (bU a b c) (bU 0 ⟨#[]⟩ [])) σ 1 fun d e=>
 aq (ae d) e
theorem OG{n a b c b0}:bS 173 [((bU a b c),b0)] (always (ah C) n a b c):=bV P3 n
end Go.Ab.Mk
end
