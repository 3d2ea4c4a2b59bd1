/- AbMk3: printed by program: functions of the program as plain Lean, and the equations. -/
import Derived.Test.YtcjofhikcokhfaaGreatDoorAbMk0
set_option linter.unusedSimpArgs false
set_option linter.unusedVariables false
set_option linter.deprecated false
noncomputable section
set_option maxRecDepth 100000
namespace Go.Ab.Mk
open Go.Proofs Go.Ab
open List (getD)
open IntKind (wrap)
abbrev zF (α:Type):=V→Int→az→α
def Ic:af→zF RO→zF RO:=fun call bh b a σ=>
 cz b 8 34 fun l1=>
 bif (decide (a<(l1.length:Int)))then
 cz b 8 34 fun l2=>
 bo a l2<|
 aE call 7 (aM (V.agg [(ak l2 a 0),(ak l2 a 1),(ak l2 a 2),(ak l2 a 3),(ak l2 a 4),(ak l2 a 5),(ak l2 a 6),(ak l2 a 7)])) σ 1 (fun d c=>
 cB (ae d) fun b6=>
 bif (!b6)then
 aq (V.bool false) c
 else
 bh b (bp a) c)
 else
 aq (V.bool true) σ
def xq (call:af) (n:Nat):=eR (Ic call)
def Yn:zF St:=fun a b σ=>⟨[aU,aU,aU,gV a,bg b]++dd 18 [],nn 23 [],σ⟩
def T9:af→Nat→LL→RR:=fun call n b σ=>
 aE call 5 [] σ 1 fun c a=>
 cB (ae c) fun b4=>
 bif (!b4)then
 aq (V.bool false) a
 else
 aE call 6 (aF (V.slice 6 28 b) (aP 5)) a 1 fun d e=>
 (xq call n n) (ae d) 0 e
theorem N4 (call:af) (n:Nat) (m:Nat):xq call n m=lq C Ns call n 0 (pt 244) [] Yn m:=bn (fun F x=>by kernel_rfl) m
theorem Rd{n a b0}:bS 3 [(V.slice 6 28 a,b0)] (T9 (ah C) n a):=bV Ns n (e:=by intro _;rw[T9,N4];kernel_rfl)
def begun:af→Nat→RR:=fun call n σ=>
 aE call 12 [] σ 1 fun a b=>
 (V.mH (ae a)).bind fun b4=>
 aq (V.bool (!b4)) b
theorem Rc{n}:bS 5 [] (begun (ah C) n):=bV Uw n
abbrev wb (α:Type):=eh (eh (V→V→az→α))
def CO:af→wb RO→wb RO:=fun call bh b e c a f g σ=>
 bif (decide (a<(b.length:Int)))then
 bif (decide (a<1152921504606846976))then
 bo a b<|
 bb (ak b a 0) fun i1=>
 bif (i1==4)then
 bo a b<|
 aE call 13 (aM (ak b a 1)) σ 1 (fun d h=>
 bQ (ae d) 2<|
 bo a b<|
 bb (ak b a 0) fun i5=>
 bif (i5==e)then
 bo a b<|
 iz c<|
 bh b e (c++[[(ak b a 0),(ak b a 1),(ak b a 2),(ak b a 3),(ak b a 4),(ak b a 5),V.cell (ae d) 0,V.cell (ae d) 1]]) (bp a) (V.cell (ae d) 0) (V.cell (ae d) 1) h
 else
 bh b e c (bp a) (V.cell (ae d) 0) (V.cell (ae d) 1) h)
 else
 bo a b<|
 bb (ak b a 0) fun i6=>
 bif (i6==e)then
 bo a b<|
 iz c<|
 bh b e (c++[[(ak b a 0),(ak b a 1),(ak b a 2),(ak b a 3),(ak b a 4),(ak b a 5),f,g]]) (bp a) f g σ
 else
 bh b e c (bp a) f g σ
 else
 aq (V.slice 8 34 c) σ
 else
 aq (V.slice 8 34 c) σ
def rN (call:af) (n:Nat):=eR (CO call)
def Vi:wb St:=fun a b c d e f σ=>⟨[gV (V.slice 6 28 a),bg b,aU,aU,aU,KG (V.slice 8 34 c),cH 6,bg d]++dd 40 [],nn 6 ([aF e f]++nn 41 []),σ⟩
def M6:af→Nat→eh RR:=fun call n b c σ=>
 aE call 13 (aM (V.str ⟨#[]⟩)) σ 1 fun a d=>
 bQ (ae a) 2<|
 (rN call n n) b c [] 0 (V.cell (ae a) 0) (V.cell (ae a) 1) d
theorem K1 (call:af) (n:Nat) (m:Nat):rN call n m=lq C Ik call n 0 (pt 244) [] Vi m:=bn (fun F x=>by kernel_rfl) m
theorem M5{n a b b0 b1}:bS 6 [(V.slice 6 28 a,b0),(V.int .i64 b,b1)] (M6 (ah C) n a b):=bV Ik n (e:=by intro _;rw[M6,K1];kernel_rfl)
abbrev o5 (α:Type):=V→Vj (K2 (iF (V→V→az→α)))
abbrev tW (α:Type):=eh (Vj (K2 (iF (V→V→V→V→V→V→V→V→V→V→V→V→V→V→V→V→V→az→α))))
abbrev tX (α:Type):=V→Vj (K2 (iF (V→V→az→α)))
abbrev tY (α:Type):=V→Vj (K2 (iF (V→V→az→α)))
def H7:af→o5 RO→tW RO→tW RO:=fun call bh eU b d a e f g h i j k o p q r s t u v w x y z a0 a1 a2 c σ=>
 cz c 6 60 fun l1=>
 bif (decide (a<(l1.length:Int)))then
 cz c 6 60 fun l2=>
 bo a l2<|
 jq (ak l2 a 0) false 1<|
 iz b<|
 eU (b++[[ak l2 a 0]]) d (bp a) e f g h i j k o p q r s t u v w x y z a0 a1 a2 c σ
 else
 bh (de b) (bp d) e f g h i j k o σ
def tF (call:af) (n:Nat) (bh:o5 RO):=eR (H7 call bh)
def Yo:tW St:=fun a b c d e f g h i j k o p q r s t u v w x y z a0 a1 a2 σ=>⟨[aU,cH 1,aU,Yp a,bg b,cH 5,bg c]++dd 160 [],[[],[(V.int .i64 d,false),(V.str e,false),(V.str f,false),(V.str g,false),(V.int .i64 h,false),(V.int .i64 i,false),(j,false),(k,false)],[],[],[],[(o,false),(p,false),(q,false),(r,false),(s,false),(t,false),(u,false),(v,false),(w,false),(x,false),(y,false),(z,false),(a0,false),(a1,false),(a2,false)]]++nn 161 [],σ⟩
def H5:af→tY RO→tY RO:=fun call Vk b a e f g h i j k c σ=>
 cz b 15 56 fun l1=>
 bif (decide (a<(l1.length:Int)))then
 cz b 15 56 fun l2=>
 bo a l2<|
 (V.kv c).bind fun p3=>
 dS (V.oJ p3)<|
 (bu σ (V.mO p3 0) false 1).bind fun m4=>
 cz m4 21 58 fun l5=>
 bo a l5<|
 aE call 21 (aF (V.agg [(ak l2 a 0),(ak l2 a 1),(ak l2 a 2),(ak l2 a 3),(ak l2 a 4),(ak l2 a 5),(ak l2 a 6),(ak l2 a 7),(ak l2 a 8),(ak l2 a 9),(ak l2 a 10),(ak l2 a 11),(ak l2 a 12),(ak l2 a 13),(ak l2 a 14)]) (V.agg [(ak l5 a 0),(ak l5 a 1),(ak l5 a 2),(ak l5 a 3),(ak l5 a 4),(ak l5 a 5),(ak l5 a 6),(ak l5 a 7),(ak l5 a 8),(ak l5 a 9),(ak l5 a 10),(ak l5 a 11),(ak l5 a 12),(ak l5 a 13),(ak l5 a 14)])) σ 1 (fun o d=>
 cB (ae o) fun b9=>
 bif (!b9)then
 aq (V.bool false) d
 else
 Vk b (bp a) e f g h i j k c d)
 else
 aq (V.bool true) σ
def tD (call:af) (n:Nat):=eR (H5 call)
def Yq:tY St:=fun a b c d e f g h i j σ=>⟨[aU,cH 1]++dd 14 ([gV a,bg b]++dd 149 []),[[],[(V.int .i64 c,false),(V.str d,false),(V.str e,false),(V.str f,false),(V.int .i64 g,false),(V.int .i64 h,false),(i,false),(j,false)]]++nn 165 [],σ⟩
def H6:af→tY RO→tX RO→tX RO:=fun call L3 rq d a h i j k o p e f σ=>
 cz d 1 9 fun l1=>
 bif (decide (a<(l1.length:Int)))then
 cz d 1 9 fun l2=>
 bo a l2<|
 aE call 15 (aF e (ak l2 a 0)) σ 3 (fun c t=>
 bQ (aH c) 5<|
 cz d 1 9 fun l6=>
 bo a l6<|
 aE call 16 (aF f (ak l6 a 0)) t 3 fun b u=>
 bQ (aH b) 5<|
 cz d 1 9 fun l10=>
 bo a l10<|
 aE call 17 (aF e (ak l10 a 0)) u 1 fun v w=>
 aE call 18 (aF (ae c) (ae b)) w 1 fun x g=>
 (V.asBool (getD c 2 bZ).1).bind fun b17=>
 (V.asBool (getD b 2 bZ).1).bind fun b18=>
 bif (!(b17==b18))then
 aq (V.bool false) g
 else
 cB (ae v) fun b19=>
 (V.asBool (getD b 2 bZ).1).bind fun b20=>
 bif (!(b19==b20))then
 aq (V.bool false) g
 else
 cB (ae x) fun b21=>
 bif (!b21)then
 aq (V.bool false) g
 else
 (V.asBool (getD b 2 bZ).1).bind fun b22=>
 bif b22 then
 aE call 19 (aF (bA (aH c)) (bA (aH b))) g 1 (fun y r=>
 cB (ae y) fun b26=>
 bif (!b26)then
 aq (V.bool false) r
 else
 rq d (bp a) h i j k o p e f r)
 else
 rq d (bp a) h i j k o p e f g)
 else
 aE call 20 (aM e) σ 1 fun s q=>
 cz (ae s) 15 56 fun l30=>
 (V.kv f).bind fun p31=>
 dS (V.oJ p31)<|
 (bu q (V.mO p31 0) false 1).bind fun m32=>
 cz m32 21 58 fun l33=>
 bif ((l30.length:Int) != (l33.length:Int))then
 aq (V.bool false) q
 else
 L3 (ae s) 0 h i j k o p e f q
def tE (call:af) (n:Nat):=eR fun r=>H6 call (tD call n n) r
def Yr:tX St:=fun a b c d e f g h i j σ=>⟨[aU,cH 1,aU,KG a,aU,aU,aU,bg b]++dd 159 [],[[],[(V.int .i64 c,false),(V.str d,false),(V.str e,false),(V.str f,false),(V.int .i64 g,false),(V.int .i64 h,false),(i,false),(j,false)]]++nn 165 [],σ⟩
def H8:af→tW RO→tX RO→o5 RO→o5 RO:=fun call L1 L2 bh c a d e f g h i j b σ=>
 (V.kv b).bind fun p1=>
 dS (V.oJ p1)<|
 (bu σ (V.mO p1 0) false 1).bind fun m2=>
 cz m2 21 58 fun l3=>
 bif (decide (a<(l3.length:Int)))then
 (V.kv b).bind fun p4=>
 dS (V.oJ p4)<|
 (bu σ (V.mO p4 0) false 1).bind fun m5=>
 cz m5 21 58 fun l6=>
 bo a l6<|
 dG (ak l6 a 1) fun s7=>
 dS (fm s7 (ByteArray.mk #[46,114,101,99]))<|
 jq (ak l6 a 1) false 1<|
 (V.kj c 1 9).bind fun l8=>
 dS ((!V.isFull c||decide (0<2))&&room (List.length l8+2))<|
 gr (L1 (l8++[[ak l6 a 1],[V.str (s7++(ByteArray.mk #[46,114,101,99]))]]) a 0 d e f g h i j b) l6 a (ak l6 a 5) (ak l6 a 6) (ak l6 a 7) (ak l6 a 8) (ak l6 a 9) (ak l6 a 10) (ak l6 a 11) (ak l6 a 12) (ak l6 a 13) (ak l6 a 14) σ
 else
 L2 c 0 d e f g h i j b σ
def tG (call:af) (n:Nat):=eR fun r=>H8 call (tF call n r n) (tE call n n) r
def Qb:o5 St:=fun a b c d e f g h i j σ=>⟨[aU,cH 1,aU,KG a,bg b]++dd 162 [],[[],[(V.int .i64 c,false),(V.str d,false),(V.str e,false),(V.str f,false),(V.int .i64 g,false),(V.int .i64 h,false),(i,false),(j,false)]]++nn 165 [],σ⟩
def known:af→Nat→Rq (K2 (iF (V→V→RR))):=fun call n c a d e f g h i σ=>
 aE call 14 (aM (V.str a)) σ 1 fun b j=>
 AU b<|
 (tG call n n) (ae b) 0 c a d e f g h i j
theorem N5 (call:af) (n:Nat) (F0:St→RO) (m:Nat):tF call n (mX.c fun x=>F0 (mX.u Qb x)) m=lq C zh call n 2 (pt 29852) [(0,F0)] Yo m:=bn (fun F x=>by kernel_rfl) m
theorem N6 (call:af) (n:Nat) (m:Nat):tD call n m=lq C zh call n 6 (pt 2036) [] Yq m:=bn (fun F x=>by kernel_rfl) m
theorem N7 (call:af) (n:Nat) (m:Nat):tE call n m=lq C zh call n 4 (pt 244) [] Yr m:=bn (fun F x=>by rw[N6];kernel_rfl) m
theorem N8 (call:af) (n:Nat) (m:Nat):tG call n m=lq C zh call n 0 (pt 116) [] Qb m:=bn (fun F x=>by rw[N5 call n F,N7];kernel_rfl) m
theorem Ra{n a b c e f g i j b0}:bS 7 [(V.agg [V.int .i64 a,V.str b,V.str c,V.str e,V.int .i64 f,V.int .i64 g,i,j],b0)] (known (ah C) n a b c e f g i j):=bV zh n (e:=by intro _;rw[known,N8];kernel_rfl)
def world:af→Nat→ByteArray→RR:=fun call n e σ=>
 aE call 26 (aF (V.str e) (aP 3000)) σ 3 fun a b=>
 dS (V.fits (getD a 2 bZ).1 true 2)<|
 (V.mH (ae a)).bind fun b4=>
 bif b4 then
 aE call 27 (aM (V.ptr 49 (List.length b) 0)) (b++[[(V.slice 21 58 [],false),(V.bool false,false)]]) 1 (fun c f=>
 bQ (ae c) 2<|
 aq (yZ (ae c)) f)
 else
 aE call 27 (aM (ae a)) b 1 fun d g=>
 bQ (ae d) 2<|
 aq (yZ (ae d)) g
theorem Gf{n a b0}:bS 13 [(V.str a,b0)] (world (ah C) n a):=bV Ux n
abbrev sa (α:Type):=ByteArray→LL→ByteArray→Int→az→α
def ze:af→sa RO→sa RO:=fun call bh b c d a σ=>
 bif (decide (a≤(b.size:Int)))then
 bif (decide (a<(b.size:Int)))then
 dS (decide (0≤a)&&decide (a<b.size))<|
 bif ((av b a.toNat) != 32)then
 dS (decide (0≤a)&&decide (a≤(bp a))&&decide ((bp a)≤b.size))<|
 dS (fm d (b.extract a.toNat (Int.toNat (bp a))))<|
 bh b c (d++(b.extract a.toNat (Int.toNat (bp a)))) (bp a) σ
 else
 bif (!(d.toList==(ByteArray.mk #[]).toList))then
 iz c<|
 bh b (c++[[V.str d]]) (ByteArray.mk #[]) (bp a) σ
 else
 bh b c (ByteArray.mk #[]) (bp a) σ
 else
 bif (!(d.toList==(ByteArray.mk #[]).toList))then
 iz c<|
 bh b (c++[[V.str d]]) (ByteArray.mk #[]) (bp a) σ
 else
 bh b c (ByteArray.mk #[]) (bp a) σ
 else
 some (.ret [(V.slice 1 9 c,true)],σ)
def kD (call:af) (n:Nat):=eR (ze call)
def RB:sa St:=fun a b c d σ=>⟨[KW a,aU,aU,Yp b,KW c,bg d]++dd 30 [],nn 36 [],σ⟩
def lparams:af→Nat→ByteArray→RR:=fun call n a σ=>
 (kD call n n) a [] (ByteArray.mk #[]) 0 σ
theorem IW (call:af) (n:Nat) (m:Nat):kD call n m=lq C C1 call n 0 (pt 244) [] RB m:=bn (fun F x=>by kernel_rfl) m
theorem Kq{n a b0}:bS 14 [(V.str a,b0)] (lparams (ah C) n a):=bV C1 n (e:=by intro _;rw[lparams,IW];kernel_rfl)
end Go.Ab.Mk
end
noncomputable section
set_option maxRecDepth 100000
namespace Go.Ab.Mk
open Go.Proofs Go.Ab
open List (getD)
open IntKind (wrap)
def typeOf:af→Nat→AX RR:=fun call n c d σ=>
 aE call 28 (aF (V.ptr 49 c 0) (V.str d)) σ 3 fun a b=>
 bQ (aH a) 21<|
 bb (ae a) fun i4=>
 bif (i4==0)then
 some (.ret [(V.slice 1 9 [],true),((aC 0 0 ⟨#[]⟩ [] []),false),(V.bool false,false)],b)
 else
 bb (ae a) fun i5=>
 bif (i5==4)then
 cz (V.cell (aH a) 14) 6 60 fun l6=>
 (V.asInt (getD a 2 bZ).1 .i64).bind fun i7=>
 bo i7 l6<|
 dc (V.cell (aH a) 2) (xh l6 i7) (V.bool true) b
 else
 bb (ae a) fun i8=>
 bif (i8==5)then
 dc (V.cell (aH a) 15) (V.agg [V.cell (aH a) 16,V.cell (aH a) 17,V.cell (aH a) 18,V.cell (aH a) 19,V.cell (aH a) 20]) (V.bool true) b
 else
 dc (V.cell (aH a) 2) (V.agg [V.cell (aH a) 3,V.cell (aH a) 4,V.cell (aH a) 5,V.cell (aH a) 6,V.cell (aH a) 7]) (V.bool true) b
theorem N9{n a b b0 b1}:bS 16 [(V.ptr 49 a 0,b0),(V.str b,b1)] (typeOf (ah C) n a b):=bV P0 n
abbrev oq (α:Type):=LL→eh (az→α)
def sb:af→oq RO→oq RO:=fun call bh b c a σ=>
 bif (decide (a<(b.length:Int)))then
 bo a b<|
 bo a c<|
 dG (ak b a 0) fun s1=>
 dG (ak c a 0) fun s2=>
 bif (!(s1.toList==s2.toList))then
 aq (V.bool false) σ
 else
 bh b c (bp a) σ
 else
 aq (V.bool true) σ
def nK (call:af) (n:Nat):=eR (sb call)
def K3:oq St:=fun a b c σ=>⟨[zr a,zr b,aU,aU,aU,bg c]++dd 20 [],nn 26 [],σ⟩
def zG:af→Nat→LL→LL→RR:=fun call n a b σ=>
 bif ((a.length:Int) != (b.length:Int))then
 aq (V.bool false) σ
 else
 (nK call n n) a b 0 σ
theorem Dy (call:af) (n:Nat) (m:Nat):nK call n m=lq C vH call n 0 (pt 116) [] K3 m:=bn (fun F x=>by kernel_rfl) m
theorem FB{n a b b0 b1}:bS 18 [(V.slice 1 9 a,b0),(V.slice 1 9 b,b1)] (zG (ah C) n a b):=bV vH n (e:=by intro _;rw[zG,Dy];kernel_rfl)
def K4:af→Nat→ke RR:=fun call n a b c d e f g h i j σ=>
 aE call 29 (bH (aC a b c d e) (aC f g h i j) (V.bool false)) σ 1 fun k o=>
 aq (ae k) o
theorem IX{n a b c e f g i j k o b0 b1}:bS 19 [((aC a b c e f),b0),((aC g i j k o),b1)] (K4 (ah C) n a b c e f g i j k o):=bV Gj n
abbrev qg (α:Type):=ln (pT (az→α))
abbrev mg (α:Type):=ln (pT (az→α))
def vF:af→mg RO→mg RO:=fun call eU a a2 a3 a4 e f g h i j k o p q a5 b a6 a7 a8 r s t u v w x y z a0 a9 c σ=>
 bif (decide (a<(b.length:Int)))then
 bo a b<|
 bo a c<|
 aE call 19 (aF (xh b a) (xh c a)) σ 1 (fun c0 d=>
 cB (ae c0) fun b4=>
 bif (!b4)then
 aq (V.bool false) d
 else
 bo a b<|
 bo a c<|
 dG (ak b a 0) fun s5=>
 dG (ak c a 0) fun s6=>
 bif (!(s5.toList==s6.toList))then
 aq (V.bool false) d
 else
 eU (bp a) a2 a3 a4 e f g h i j k o p q a5 b a6 a7 a8 r s t u v w x y z a0 a9 c d)
 else
 aE call 19 (aF (aC e f g h i) (aC r s t u v)) σ 1 fun c1 c2=>
 aE call 19 (aF (aC j k o p q) (aC w x y z a0)) c2 1 fun c3 a1=>
 cB (ae c1) fun Yf=>
 bif Yf then
 aq (ae c3) a1
 else
 aq (V.bool false) a1
def kB (call:af) (n:Nat):=eR (vF call)
def Oa:mg St:=fun a b c d e f g h i j k o p q r s t u v w x y z a0 a1 a2 a3 a4 a5 a6 a7 σ=>⟨[aU,aU,cH 2,cH 3,aU,aU,bg a]++dd 109 [],[[],[],gW (dZ b c d e f g h i j k o p q r s),gW (dZ t u v w x y z a0 a1 a2 a3 a4 a5 a6 a7)]++nn 112 [],σ⟩
def vG:af→mg RO→qg RO→qg RO:=fun call L1 bh a d e b f g h i j k o p q r s t u v c w x y z a0 a1 a2 a3 a4 a5 a6 a7 σ=>
 bif (decide (a<(b.length:Int)))then
 bo a b<|
 bo a c<|
 dG (ak b a 0) fun s1=>
 dG (ak c a 0) fun s2=>
 bif (!(s1.toList==s2.toList))then
 aq (V.bool false) σ
 else
 bh (bp a) d e b f g h i j k o p q r s t u v c w x y z a0 a1 a2 a3 a4 a5 a6 a7 σ
 else
 L1 0 d e b f g h i j k o p q r s t u v c w x y z a0 a1 a2 a3 a4 a5 a6 a7 σ
def mS (call:af) (n:Nat):=eR fun r=>vG call (kB call n n) r
def Ob:qg St:=fun a b c d e f g h i j k o p q r s t u v w x y z a0 a1 a2 a3 a4 a5 a6 a7 σ=>⟨[aU,aU,cH 2,cH 3,aU,bg a]++dd 110 [],[[],[],gW (dZ b c d e f g h i j k o p q r s),gW (dZ t u v w x y z a0 a1 a2 a3 a4 a5 a6 a7)]++nn 112 [],σ⟩
def CH:af→Nat→pT (pT RR):=fun call n a b c k o p q r s t u v w d e f g h x y z a0 a1 a2 a3 a4 a5 a6 i j σ=>
 bif (a != f)then
 aq (V.bool false) σ
 else
 bif (!(b.toList==g.toList))then
 aq (V.bool false) σ
 else
 bif (d != i)then
 aq (V.bool false) σ
 else
 bif ((c.length:Int) != (h.length:Int))then
 aq (V.bool false) σ
 else
 bif ((e.length:Int) != (j.length:Int))then
 aq (V.bool false) σ
 else
 (mS call n n) 0 a b c k o p q r s t u v w d e f g h x y z a0 a1 a2 a3 a4 a5 a6 i j σ
theorem FC (call:af) (n:Nat) (m:Nat):kB call n m=lq C tM call n 2 (pt 244) [] Oa m:=bn (fun F x=>by kernel_rfl) m
theorem FD (call:af) (n:Nat) (m:Nat):mS call n m=lq C tM call n 0 (pt 116) [] Ob m:=bn (fun F x=>by rw[FC];kernel_rfl) m
theorem HW{n a b c e f g i j k o p q s t u v w x y z a0 a1 a2 a3 a4 a5 a6 a7 a8 a9 b0 b1}:bS 21 [((dZ a b c e f g i j k o p q s t u),b0),((dZ v w x y z a0 a1 a2 a3 a4 a5 a6 a7 a8 a9),b1)] (CH (ah C) n a b c e f g i j k o p q s t u v w x y z a0 a1 a2 a3 a4 a5 a6 a7 a8 a9):=bV tM n (e:=by intro _;rw[CH,FD];kernel_rfl)
def TW:af→Nat→ByteArray→Int→RR:=fun call n d e σ=>
 aE call 42 (aM (V.str d)) σ 2 fun a c=>
 bQ (aH a) 2<|
 bb (V.cell (aH a) 0) fun i4=>
 bif (i4 != 0)then
 dc V.kc (aP 0) (yZ (aH a)) c
 else
 aE call 43 (aF (ae a) (aP e)) c 3 fun b f=>
 dS (V.fits (getD b 2 bZ).1 true 2)<|
 dc (ae b) (aH b) (V.agg [V.cell (getD b 2 bZ).1 0,V.cell (getD b 2 bZ).1 1]) f
theorem Gb{n a b b0 b1}:bS 26 [(V.str a,b0),(V.int .i64 b,b1)] (TW (ah C) n a b):=bV Uy n
abbrev we (α:Type):=Nat→V→Int→az→α
def CL:af→we RO→we RO:=fun call bh b c a σ=>
 cj σ 49 b 0 fun m1=>
 cz m1 21 58 fun l2=>
 bif (decide (a<(l2.length:Int)))then
 cj σ 49 b 0 fun m3=>
 cz m3 21 58 fun l4=>
 bo a l4<|
 aE call 44 (aM (V.agg [(ak l4 a 0),(ak l4 a 1),(ak l4 a 2),(ak l4 a 3),(ak l4 a 4),(ak l4 a 5),(ak l4 a 6),(ak l4 a 7),(ak l4 a 8),(ak l4 a 9),(ak l4 a 10),(ak l4 a 11),(ak l4 a 12),(ak l4 a 13),(ak l4 a 14)])) σ 1 (fun f e=>
 cj e 49 b 0 fun m8=>
 cz m8 21 58 fun l9=>
 bo a l9<|
 aE call 45 (aM (bF (ak l9 a 16) (ak l9 a 17) (ak l9 a 18) (ak l9 a 19) (ak l9 a 20))) e 1 fun g d=>
 cB (ae f) fun Yf=>
 bif (!Yf)then
 cj d 49 b 0 fun m14=>
 cz m14 21 58 fun Kd=>
 dS (decide (0≤(0:Int))&&decide (0≤a)&&decide (a≤Kd.length))<|
 (aV d (V.ptr 49 b 0) [((V.slice 21 58 ((Kd.take a.toNat).drop (Int.toNat 0))),false)]).bind fun m16=>
 jq c false 1<|
 aq (V.agg [c,V.ptr 49 b 0]) m16
 else
 cB (ae g) fun b17=>
 bif (!b17)then
 cj d 49 b 0 fun m18=>
 cz m18 21 58 fun U9=>
 dS (decide (0≤(0:Int))&&decide (0≤a)&&decide (a≤U9.length))<|
 (aV d (V.ptr 49 b 0) [((V.slice 21 58 ((U9.take a.toNat).drop (Int.toNat 0))),false)]).bind fun m20=>
 jq c false 1<|
 aq (V.agg [c,V.ptr 49 b 0]) m20
 else
 cj d 49 b 0 fun m21=>
 cz m21 21 58 fun IV=>
 bo a IV<|
 cj d 49 b 0 fun m23=>
 cz m23 21 58 fun l24=>
 bo a l24<|
 cj d 49 b 0 fun Yi=>
 cz Yi 21 58 fun l26=>
 bo a l26<|
 aE call 36 (ft c (V.agg [(ak IV a 0),(ak IV a 1),(ak IV a 2),(ak IV a 3),(ak IV a 4),(ak IV a 5),(ak IV a 6),(ak IV a 7),(ak IV a 8),(ak IV a 9),(ak IV a 10),(ak IV a 11),(ak IV a 12),(ak IV a 13),(ak IV a 14)]) (ak l24 a 15) (bF (ak l26 a 16) (ak l26 a 17) (ak l26 a 18) (ak l26 a 19) (ak l26 a 20))) d 0 fun i h=>
 bh b c (bp a) h)
 else
 jq c false 1<|
 aq (V.agg [c,V.ptr 49 b 0]) σ
def rM (call:af) (n:Nat):=eR (CL call)
def Vl:we St:=fun a b c σ=>⟨[nD a,aU,cH 2,gV b,bg c]++dd 78 [],[[],[],aF V.kc V.kc]++nn 80 [],σ⟩
def filled:af→Nat→Nat→RR:=fun call n a σ=>
 aE call 12 [] σ 1 fun b c=>
 (V.mH (ae b)).bind fun b4=>
 bif b4 then
 aq (V.agg [V.kc,V.ptr 49 a 0]) c
 else
 (rM call n n) a (ae b) 0 c
theorem K5 (call:af) (n:Nat) (m:Nat):rM call n m=lq C Il call n 0 (pt 244) [] Vl m:=bn (fun F x=>by kernel_rfl) m
theorem MW{n a b0}:bS 27 [(V.ptr 49 a 0,b0)] (filled (ah C) n a):=bV Il n (e:=by intro _;rw[filled,K5];kernel_rfl)
end Go.Ab.Mk
end
noncomputable section
set_option maxRecDepth 100000
namespace Go.Ab.Mk
open Go.Proofs Go.Ab
open List (getD)
open IntKind (wrap)
abbrev sd (α:Type):=AX (ln (LL→cM (az→α)))
abbrev xG (α:Type):=AX (Int→ln (LL→cM (V→V→V→V→V→V→V→V→V→V→V→V→V→V→V→az→α)))
def Oc:af→sd RO→xG RO→xG RO:=fun call bh eU c d a b e f g h i j k o p q r s t u v w x y z a0 a1 a3 a4 a5 a6 a7 a8 a9 c0 c1 c2 c3 c4 c5 c6 a2 σ=>
 UR (fun A=>
 bh c d A e f g h i j k o p q r s t u v w x y z a0 a1 σ) fun R0=>
 cz a2 6 60 fun l1=>
 bif (decide (b<(l1.length:Int)))then
 cz a2 6 60 fun l2=>
 bo b l2<|
 dG (ak l2 b 0) fun s3=>
 bif (s3.toList==d.toList)then
 cj σ 49 c 0 fun m4=>
 cz m4 21 58 fun l5=>
 bo a l5<|
 dc (aP 4) (V.agg [(ak l5 a 0),(ak l5 a 1),(ak l5 a 2),(ak l5 a 3),(ak l5 a 4),(ak l5 a 5),(ak l5 a 6),(ak l5 a 7),(ak l5 a 8),(ak l5 a 9),(ak l5 a 10),(ak l5 a 11),(ak l5 a 12),(ak l5 a 13),(ak l5 a 14),(ak l5 a 15),(ak l5 a 16),(ak l5 a 17),(ak l5 a 18),(ak l5 a 19),(ak l5 a 20)]) (aP b) σ
 else
 eU c d a (bp b) e f g h i j k o p q r s t u v w x y z a0 a1 a3 a4 a5 a6 a7 a8 a9 c0 c1 c2 c3 c4 c5 c6 a2 σ
 else
 bb a3 fun i6=>
 bif (i6==3)then
 dG a4 fun s7=>
 dS (fm s7 (ByteArray.mk #[46,114,101,99]))<|
 bif ((s7++(ByteArray.mk #[46,114,101,99])).toList==d.toList)then
 cj σ 49 c 0 fun m8=>
 cz m8 21 58 fun l9=>
 bo a l9<|
 dc (aP 5) (V.agg [(ak l9 a 0),(ak l9 a 1),(ak l9 a 2),(ak l9 a 3),(ak l9 a 4),(ak l9 a 5),(ak l9 a 6),(ak l9 a 7),(ak l9 a 8),(ak l9 a 9),(ak l9 a 10),(ak l9 a 11),(ak l9 a 12),(ak l9 a 13),(ak l9 a 14),(ak l9 a 15),(ak l9 a 16),(ak l9 a 17),(ak l9 a 18),(ak l9 a 19),(ak l9 a 20)]) (aP 0) σ
 else
 R0 (bp a)
 else
 R0 (bp a)
def zH (call:af) (n:Nat) (bh:sd RO):=eR (Oc call bh)
def aaR:xG St:=fun a b c d e f g h i j k o p q r s t u v w x y z a0 a1 a2 a3 a4 a5 a6 a7 a8 a9 c0 c1 c2 c3 c4 c5 c6 σ=>⟨[nD a,KW b,aU,aU,aU,cH 5,aU,bg c,cH 8,bg d]++dd 71 [],nn 5 ([[(V.int .i64 e,false),(V.str f,false),(V.slice 1 9 g,true),(V.int .i64 h,false),(V.int .i64 i,false),(V.str j,false),(V.slice 3 120 k,true),(V.slice 5 53 o,true),(V.int .i64 p,false),(V.int .i64 q,false),(V.str r,false),(V.slice 3 120 s,true),(V.slice 5 53 t,true),(V.int .i64 u,false),(V.slice 6 60 v,true),(V.slice 1 9 w,true),(V.int .i64 x,false),(V.int .i64 y,false),(V.str z,false),(V.slice 3 120 a0,true),(V.slice 5 53 a1,true)],[],[],[(a2,false),(a3,false),(a4,false),(a5,false),(a6,false),(a7,false),(a8,false),(a9,false),(c0,false),(c1,false),(c2,false),(c3,false),(c4,false),(c5,false),(c6,false)]]++nn 72 []),σ⟩
def Od:af→xG RO→sd RO→sd RO:=fun call L1 bh b c a d e f g h i j k o p q r s t u v w x y z a0 σ=>
 cj σ 49 b 0 fun m1=>
 cz m1 21 58 fun l2=>
 bif (decide (a<(l2.length:Int)))then
 cj σ 49 b 0 fun m3=>
 cz m3 21 58 fun l4=>
 bo a l4<|
 dG (ak l4 a 1) fun s5=>
 bif (s5.toList==c.toList)then
 cj σ 49 b 0 fun m6=>
 cz m6 21 58 fun l7=>
 bo a l7<|
 dc (ak l4 a 0) (V.agg [(ak l7 a 0),(ak l7 a 1),(ak l7 a 2),(ak l7 a 3),(ak l7 a 4),(ak l7 a 5),(ak l7 a 6),(ak l7 a 7),(ak l7 a 8),(ak l7 a 9),(ak l7 a 10),(ak l7 a 11),(ak l7 a 12),(ak l7 a 13),(ak l7 a 14),(ak l7 a 15),(ak l7 a 16),(ak l7 a 17),(ak l7 a 18),(ak l7 a 19),(ak l7 a 20)]) (aP 0) σ
 else
 gr (L1 b c a 0 d e f g h i j k o p q r s t u v w x y z a0) l4 a (ak l4 a 5) (ak l4 a 6) (ak l4 a 7) (ak l4 a 8) (ak l4 a 9) (ak l4 a 10) (ak l4 a 11) (ak l4 a 12) (ak l4 a 13) (ak l4 a 14) σ
 else
 dc (aP 0) (aaQ 0 ⟨#[]⟩ [] 0 0 ⟨#[]⟩ [] [] 0 0 ⟨#[]⟩ [] [] 0 [] [] 0 0 ⟨#[]⟩ [] []) (aP 0) σ
def wg (call:af) (n:Nat):=eR fun r=>Od call (zH call n r n) r
def Vm:sd St:=fun a b c d e f g h i j k o p q r s t u v w x y z a0 σ=>⟨[nD a,KW b,aU,aU,aU,cH 5,aU,bg c]++dd 73 [],nn 5 ([[(V.int .i64 d,false),(V.str e,false),(V.slice 1 9 f,true),(V.int .i64 g,false),(V.int .i64 h,false),(V.str i,false),(V.slice 3 120 j,true),(V.slice 5 53 k,true),(V.int .i64 o,false),(V.int .i64 p,false),(V.str q,false),(V.slice 3 120 r,true),(V.slice 5 53 s,true),(V.int .i64 t,false),(V.slice 6 60 u,true),(V.slice 1 9 v,true),(V.int .i64 w,false),(V.int .i64 x,false),(V.str y,false),(V.slice 3 120 z,true),(V.slice 5 53 a0,true)]]++nn 75 []),σ⟩
def find:af→Nat→AX RR:=fun call n a b σ=>
 (wg call n n) a b 0 0 (ByteArray.mk #[]) [] 0 0 (ByteArray.mk #[]) [] [] 0 0 (ByteArray.mk #[]) [] [] 0 [] [] 0 0 (ByteArray.mk #[]) [] [] σ
theorem RC (call:af) (n:Nat) (F0:St→RO) (m:Nat):zH call n (mX.c fun x=>F0 (mX.u Vm x)) m=lq C findD call n 2 (pt 26932) [(0,F0)] aaR m:=bn (fun F x=>by kernel_rfl) m
theorem RD (call:af) (n:Nat) (m:Nat):wg call n m=lq C findD call n 0 (pt 52) [] Vm m:=bn (fun F x=>by rw[RC call n F];kernel_rfl) m
theorem Vn{n a b b0 b1}:bS 28 [(V.ptr 49 a 0,b0),(V.str b,b1)] (find (ah C) n a b):=bV findD n (e:=by intro _;rw[find,RD];kernel_rfl)
abbrev zI (α:Type):=Bool→Int→ke (az→α)
abbrev tZ (α:Type):=Bool→Int→ke (az→α)
def xH:af→tZ RO→tZ RO:=fun call eU d a f g h i b j k o p c σ=>
 bif (decide (a<(b.length:Int)))then
 bo a b<|
 bo a c<|
 aE call 29 (bH (bJ b a) (bJ c a) (V.bool d)) σ 1 (fun q e=>
 cB (ae q) fun b4=>
 bif (!b4)then
 aq (V.bool false) e
 else
 eU d (bp a) f g h i b j k o p c e)
 else
 aq (V.bool true) σ
def jT (call:af) (n:Nat):=eR (xH call)
def Ys:tZ St:=fun a b c d e f g h i j k o σ=>⟨[aU,aU,gV (V.bool a),cH 3,cH 4]++dd 4 ([bg b]++dd 95 []),[[],[],[],gW (aC c d e f g),gW (aC h i j k o)]++nn 100 [],σ⟩
def xI:af→tZ RO→zI RO→zI RO:=fun call L1 bh d a f g h b i j k o c p σ=>
 bif (decide (a<(b.length:Int)))then
 bo a b<|
 bo a c<|
 aE call 46 (aF (V.agg [(ak b a 0),(ak b a 1),(ak b a 2)]) (V.agg [(ak c a 0),(ak c a 1),(ak c a 2)])) σ 1 (fun q e=>
 cB (ae q) fun b4=>
 bif (!b4)then
 bif d then
 bo a b<|
 bo a c<|
 aE call 47 (aF (V.agg [(ak b a 0),(ak b a 1),(ak b a 2)]) (V.agg [(ak c a 0),(ak c a 1),(ak c a 2)])) e 1 (fun s r=>
 cB (ae s) fun b8=>
 bif (!b8)then
 aq (V.bool false) r
 else
 bh d (bp a) f g h b i j k o c p r)
 else
 cB (ae q) fun b9=>
 bif (!b9)then
 aq (V.bool false) e
 else
 bh d (bp a) f g h b i j k o c p e
 else
 cB (ae q) fun b10=>
 bif (!b10)then
 aq (V.bool false) e
 else
 bh d (bp a) f g h b i j k o c p e)
 else
 L1 d 0 f g h b i j k o c p σ
def qh (call:af) (n:Nat):=eR fun r=>xI call (jT call n n) r
def Yt:zI St:=fun a b c d e f g h i j k o σ=>⟨[aU,aU,gV (V.bool a),cH 3,cH 4,aU,aU,bg b]++dd 97 [],[[],[],[],gW (aC c d e f g),gW (aC h i j k o)]++nn 100 [],σ⟩
def alike:af→Nat→ke (Bool→RR):=fun call n a b c d e f g h i j k σ=>
 bif (a != f)then
 aq (V.bool false) σ
 else
 bif (b != g)then
 aq (V.bool false) σ
 else
 bif (!(c.toList==h.toList))then
 aq (V.bool false) σ
 else
 bif ((d.length:Int) != (i.length:Int))then
 aq (V.bool false) σ
 else
 bif ((e.length:Int) != (j.length:Int))then
 aq (V.bool false) σ
 else
 (qh call n n) k 0 a b c d e f g h i j σ
theorem Oe (call:af) (n:Nat) (m:Nat):jT call n m=lq C Im call n 2 (pt 244) [] Ys m:=bn (fun F x=>by kernel_rfl) m
theorem Of (call:af) (n:Nat) (m:Nat):qh call n m=lq C Im call n 0 (pt 116) [] Yt m:=bn (fun F x=>by rw[Oe];kernel_rfl) m
theorem kK{n a b c e f g i j k o p b0 b1 b2}:bS 29 [((aC a b c e f),b0),((aC g i j k o),b1),(V.bool p,b2)] (alike (ah C) n a b c e f g i j k o p):=bV Im n (e:=by intro _;rw[alike,Of];kernel_rfl)
def y7:af→Nat→ByteArray→RR:=fun call n b σ=>
 bif (decide ((b.size:Int)>200000))then
 some (.ret [(V.slice 15 56 [],true),((Fk 2 0),false)],σ)
 else
 aE call 71 (aM (V.str b)) σ 2 fun a c=>
 bQ (aH a) 2<|
 cq (ae a) (yZ (aH a)) c
theorem uK{n a b0}:bS 42 [(V.str a,b0)] (y7 (ah C) n a):=bV C2 n
abbrev wh (α:Type):=eh (Nat→iF (Int→az→α))
def Dz:af→wh RO→wh RO:=fun call bh b e c a g h σ=>
 bif (decide (a<(b.length:Int)))then
 bo a b<|
 aE call 72 (bH (V.ptr 49 c 0) (V.agg [(ak b a 0),(ak b a 1),(ak b a 2),(ak b a 3),(ak b a 4),(ak b a 5),(ak b a 6),(ak b a 7),(ak b a 8),(ak b a 9),(ak b a 10),(ak b a 11),(ak b a 12),(ak b a 13),(ak b a 14)]) (aP e)) σ 1 (fun d f=>
 bb (ae d) fun i4=>
 bif (i4 != 0)then
 jq (ae d) false 1<|
 dc (V.ptr 49 c 0) (aP a) (V.agg [(ae d),V.int .i64 a]) f
 else
 bh b e c (bp a) g h f)
 else
 dc (V.ptr 49 c 0) (aP (b.length:Int)) (Fk 0 0) σ
def se (call:af) (n:Nat):=eR (Dz call)
def Vo:wh St:=fun a b c d e f σ=>⟨[gV (V.slice 15 56 a),bg b]++dd 4 ([cH 6,nD c,bg d]++dd 27 []),nn 6 ([gW (Fk e f)]++nn 29 []),σ⟩
def fileOf:af→Nat→eh RR:=fun call n a b σ=>
 (se call n n) a b (List.length σ) 0 0 0 (σ++[[(V.slice 21 58 [],true),(V.bool false,false)]])
theorem K6 (call:af) (n:Nat) (m:Nat):se call n m=lq C Io call n 0 (pt 116) [] Vo m:=bn (fun F x=>by kernel_rfl) m
theorem Og{n a b b0 b1}:bS 43 [(V.slice 15 56 a,b0),(V.int .i64 b,b1)] (fileOf (ah C) n a b):=bV Io n (e:=by intro _;rw[fileOf,K6];kernel_rfl)
end Go.Ab.Mk
end
