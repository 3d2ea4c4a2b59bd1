/- AbMk13: printed by program: functions of the program as plain Lean, and the equations. -/
import Derived.Test.YtcjofhikcokhfaaGreatDoorAbMk0
set_option linter.unusedSimpArgs false
set_option linter.unusedVariables false
set_option linter.deprecated false
noncomputable section
set_option maxRecDepth 100000
namespace Go.Ab.Mk
open Go.Proofs Go.Ab
open List (getD)
open IntKind (wrap)
def never:af→Nat→kd RR:=fun call n a b c σ=>
 aE call 74 (aF (bU 1 ⟨#[]⟩ [[(aP 0),V.str ⟨#[]⟩,V.slice 3 120 []]]) (bU a b c)) σ 1 fun d e=>
 aq (ae d) e
theorem Rm{n a b c b0}:bS 174 [((bU a b c),b0)] (never (ah C) n a b c):=bV UH n
abbrev zo (α:Type):=Nat→iF (V→ln (ByteArray→cM (kd (V→V→V→V→V→V→V→V→V→V→az→α))))
abbrev tP (α:Type):=Nat→iF (V→V→ln (kd (V→V→V→V→V→az→α)))
def Ix:af→tP RO→tP RO:=fun call eU c d e f g a h i j k o p q r s t u v w b x y z a0 a8 a9 c0 c1 a1 σ=>
 bb f fun i1=>
 bif (decide (a<i1))then
 cz a1 5 53 fun l2=>
 bo 0 l2<|
 bif (decide (a≥b))then
 aE call 217 (Yb (V.ptr 49 c 0) (dZ h i j k o p q r s t u v w b x) (bJ l2 0) g (aP d) (bU y z a0) (aP e)) σ 1 (fun a2 a3=>
 bb (ae a2) fun i6=>
 bif (i6 != 0)then
 aq (ae a2) a3
 else
 aE call 218 (aF g (bJ l2 0)) a3 1 fun a4 a6=>
 AU a4<|
 cz a1 5 53 fun l10=>
 bo 1 l10<|
 gr (eU c d e f (ae a4) (bp a) h i j k o p q r s t u v w b x y z a0) l10 1 a6)
 else
 aE call 218 (aF g (bJ l2 0)) σ 1 (fun a5 a7=>
 AU a5<|
 cz a1 5 53 fun ZF=>
 bo 1 ZF<|
 gr (eU c d e f (ae a5) (bp a) h i j k o p q r s t u v w b x y z a0) ZF 1 a7)
 else
 aq (aP 0) σ
def tQ (call:af) (n:Nat):=eR (Ix call)
def Yc:tP St:=fun a b c d e f g h i j k o p q r s t u v w x y z a0 a1 a2 a3 a4 a5 σ=>⟨[nD a,aU,aU,bg b,aU,bg c,aU,cH 7,aU,aU,cH 10]++dd 4 ([gV d,cH 16]++dd 5 ([KG e,bg f]++dd 101 [])),nn 7 ([gW (dZ g h i j k o p q r s t u v w x),[],[],gW (bU y z a0)]++nn 5 ([dn a1 a2 a3 a4 a5]++nn 108 [])),σ⟩
def Iy:af→tP RO→zo RO→zo RO:=fun call L1 bh c d e a a3 f g h i j k o p q r s t u b v c0 w x y z a0 a4 a5 a6 c4 c5 c6 c7 a7 c8 c9 d0 d1 a8 σ=>
 bif (decide (a3<b))then
 cz a7 5 53 fun l1=>
 bo 0 l1<|
 cz a8 5 53 fun l2=>
 bo 0 l2<|
 aE call 215 (ft (V.ptr 49 c 0) (bJ l1 0) (bJ l2 0) (aP e)) σ 2 (fun a1 a2=>
 bb (aH a1) fun i6=>
 bif (i6 != 0)then
 aq (aH a1) a2
 else
 cB (ae a1) fun b7=>
 bif (!b7)then
 aq (aP 11) a2
 else
 cz a7 5 53 fun l8=>
 bo 1 l8<|
 cz a8 5 53 fun l9=>
 bo 1 l9<|
 gr (gr (bh c d e a (bp a3) f g h i j k o p q r s t u b v c0 w x y z a0 a4 a5 a6) l8 1) l9 1 a2)
 else
 aE call 172 (aF (aC w x y z a0) a) σ 1 fun c1 c2=>
 aE call 216 (ft (ae c1) (dZ f g h i j k o p q r s t u b v) (aP d) a) c2 1 fun c3 a9=>
 cB (ae c3) fun UQ=>
 bif (!UQ)then
 aq (aP 11) a9
 else
 L1 c d e a (dk []) 0 f g h i j k o p q r s t u b v a4 a5 a6 (aP w) (aP x) (V.str y) (iP z) (dk a0) a9
def xx (call:af) (n:Nat):=eR fun r=>Iy call (tQ call n n) r
def Yd:zo St:=fun a b c d e f g h i j k o p q r s t u v w x y z a0 a1 a2 a3 a4 a5 a6 a7 a8 a9 c0 c1 c2 c3 c4 c5 σ=>⟨[nD a,aU,aU,bg b,aU,bg c,aU,cH 7,cH 8,aU,cH 10]++dd 4 ([gV d,cH 16,cH 17,bg e]++dd 106 []),nn 7 ([gW (dZ f g h i j k o p q r s t u v w),gW (NA x y z a0 a1 a2),[],gW (bU a3 a4 a5)]++nn 5 ([dn a6 a7 a8 a9 c0,dn c1 c2 c3 c4 c5]++nn 107 [])),σ⟩
def P8:af→Nat→Nat→pT (ByteArray→cM (uC (Int→RR))):=fun call n g v w h i j k o p x y z a0 a1 q a2 a3 a b c d e a4 a5 a6 a7 r σ=>
 aE call 170 [(V.ptr 49 g 0,false),(V.slice 1 9 h,false),(V.slice 5 53 [],true),((aC a b c d e),false),(V.int .i64 r,false)] σ 2 fun f s=>
 bQ (ae f) 3<|
 bb (aH f) fun i4=>
 bif (i4 != 0)then
 aq (aH f) s
 else
 aE call 171 (aM (aC a b c d e)) s 1 fun t u=>
 bb (ae t) fun i8=>
 bif (decide (i8<q))then
 aq (aP 11) u
 else
 (xx call n n) g a4 r (ae t) 0 v w h i j k o p x y z a0 a1 q a2 a3 a b c d e a5 a6 a7 (aP a) (aP b) (V.str c) (iP d) (dk e) (aP i) (aP j) (V.str k) (iP o) (dk p) u
theorem NB (call:af) (n:Nat) (m:Nat):tQ call n m=lq C Ir call n 2 (pt 131060) [] Yc m:=bn (fun F x=>by kernel_rfl) m
theorem NC (call:af) (n:Nat) (m:Nat):xx call n m=lq C Ir call n 0 (pt 4084) [] Yd m:=bn (fun F x=>by rw[NB];kernel_rfl) m
theorem Rn{n a b c e f g i j k o p q s t u v w x y z a0 a1 a2 a3 a4 a5 a6 b0 b1 b2 b3 b4 b5}:bS 175 [(V.ptr 49 a 0,b0),((dZ b c e f g i j k o p q s t u v),b1),((NA w x y z a0 a1),b2),(V.int .i64 a2,b3),((bU a3 a4 a5),b4),(V.int .i64 a6,b5)] (P8 (ah C) n a b c e f g i j k o p q s t u v w x y z a0 a1 a2 a3 a4 a5 a6):=bV Ir n (e:=by intro _;rw[P8,NC];kernel_rfl)
end Go.Ab.Mk
end
noncomputable section
set_option maxRecDepth 100000
namespace Go.Ab.Mk
open Go.Proofs Go.Ab
open List (getD)
open IntKind (wrap)
abbrev mW (α:Type):=Nat→Int→V→V→V→ln (V→V→V→V→V→az→α)
abbrev pU (α:Type):=Nat→Int→V→V→V→Int→V→ln (V→V→V→V→V→V→V→V→V→V→az→α)
def Da:af→mW RO→pU RO→pU RO:=fun call bh eU e f c b g d a9 a h i j k o p q r s t u v w x y a5 a6 a7 a8 z a0 a1 a2 a3 a4 σ=>
 UR (fun A B=>
 eU e f c b g d A B h i j k o p q r s t u v w x y a5 a6 a7 a8 z a0 a1 a2 a3 a4 σ) fun R1=>
 cz b 5 53 fun l1=>
 bif (decide (a<(l1.length:Int)))then
 cB a9 fun b2=>
 bif b2 then
 R1 (V.bool true) (bp a)
 else
 cz b 5 53 fun l3=>
 bo a l3<|
 bb (ak l3 a 0) fun i4=>
 bif (i4==0)then
 cz b 5 53 fun l5=>
 bo a l5<|
 bb c fun i6=>
 bb (ak l5 a 1) fun i7=>
 R1 (V.bool (i7==(wrap .i64 ((wrap .i64 (i6 - 1)) - d)))) (bp a)
 else
 R1 (V.bool false) (bp a)
 else
 cB a9 fun b8=>
 bif (!b8)then
 cq (V.bool false) (aP 0) σ
 else
 aE call 218 (aF g (bF a0 a1 a2 a3 a4)) σ 1 fun c0 c1=>
 AU c0<|
 cz z 5 53 fun US=>
 bo 1 US<|
 gr (bh e f c b (ae c0) (bp d) h i j k o p q r s t u v w x y) US 1 c1
def oW (call:af) (n:Nat) (bh:mW RO):=eR (Da call bh)
def UT:pU St:=fun a b c d e f g h i j k o p q r s t u v w x y z a0 a1 a2 a3 a4 a5 a6 a7 a8 a9 σ=>⟨[nD a,aU,aU,bg b,aU,cH 5]++dd 5 ([cH 11,gV c,aU,gV d,KG e,bg f,cH 17,aU,aU,gV g,bg h]++dd 93 []),nn 5 ([gW (dZ i j k o p q r s t u v w x y z)]++nn 5 ([dn a0 a1 a2 a3 a4]++nn 5 ([dn a5 a6 a7 a8 a9]++nn 97 []))),σ⟩
def Db:af→pU RO→mW RO→mW RO:=fun call L1 bh d e f j g b k o h p q r s t u v w x y c z a2 a3 a4 a5 i σ=>
 bb f fun i1=>
 bif (decide (b<i1))then
 cz i 5 53 fun l2=>
 bo 0 l2<|
 bif (decide (b≥c))then
 aE call 170 (dn (V.ptr 49 d 0) (de h) g (bJ l2 0) (aP e)) σ 2 (fun a a0=>
 bQ (ae a) 3<|
 bb (aH a) fun i6=>
 bif (i6 != 0)then
 cq (V.bool false) (aH a) a0
 else
 aE call 173 (aM (Ro (ae a))) a0 1 fun a6 a7=>
 gr (L1 d e f j g b (ae a6) c k o h p q r s t u v w x y c z a2 a3 a4 a5 i) l2 0 a7)
 else
 aE call 218 (aF g (bJ l2 0)) σ 1 (fun a1 a8=>
 AU a1<|
 cz i 5 53 fun UU=>
 bo 1 UU<|
 gr (bh d e f j (ae a1) (bp b) k o h p q r s t u v w x y c z) UU 1 a8)
 else
 cq (V.bool true) (aP 0) σ
def oX (call:af) (n:Nat):=eR fun r=>Db call (oW call n r n) r
def KH:mW St:=fun a b c d e f g h i j k o p q r s t u v w x y z a0 a1 a2 σ=>⟨[nD a,aU,aU,bg b,aU,cH 5]++dd 5 ([cH 11,gV c,aU,gV d,KG e,bg f]++dd 98 []),nn 5 ([gW (dZ g h i j k o p q r s t u v w x)]++nn 5 ([dn y z a0 a1 a2]++nn 103 [])),σ⟩
def Iz:af→Nat→Nat→pT (kd (Int→RR)):=fun call n e f g h i j k o p q r s t u v a w x y z σ=>
 aE call 174 (aM (bU w x y)) σ 1 fun a0 b=>
 cB (ae a0) fun b4=>
 bif b4 then
 cq (V.bool true) (aP 0) b
 else
 bif ((a.length:Int)==0)then
 cq (V.bool true) (aP 0) b
 else
 bif (decide ((a.length:Int)>1))then
 cq (V.bool false) (aP 0) b
 else
 bo 0 a<|
 aE call 171 (aM (xh a 0)) b 1 fun c a1=>
 aE call 172 (aF (xh a 0) (ae c)) a1 1 fun a2 a3=>
 aE call 219 (aM (ae a2)) a3 2 fun d a4=>
 bQ (ae d) 5<|
 ab6 ((oX call n n) e z (ae c) (aH d) (dk []) 0 f g h i j k o p q r s t u v a) a 0 a4
theorem KI (call:af) (n:Nat) (F0:St→RO) (m:Nat):oW call n (mX.c fun x=>F0 (mX.u KH x)) m=lq C BT call n 2 (pt 134030708) [(0,F0)] UT m:=bn (fun F x=>by kernel_rfl) m
theorem KJ (call:af) (n:Nat) (m:Nat):oX call n m=lq C BT call n 0 (pt 8180) [] KH m:=bn (fun F x=>by rw[KI call n F];kernel_rfl) m
theorem ND{n a b c e f g i j k o p q s t u v w x y z b0 b1 b2 b3}:bS 176 [(V.ptr 49 a 0,b0),((dZ b c e f g i j k o p q s t u v),b1),((bU w x y),b2),(V.int .i64 z,b3)] (Iz (ah C) n a b c e f g i j k o p q s t u v w x y z):=bV BT n (e:=by intro _;rw[Iz,KJ];kernel_rfl)
end Go.Ab.Mk
end
noncomputable section
set_option maxRecDepth 100000
namespace Go.Ab.Mk
open Go.Proofs Go.Ab
open List (getD)
open IntKind (wrap)
abbrev pV (α:Type):=Int→Nat→V→ln (cM (V→V→V→V→V→az→α))
def vN:af→pV RO→pV RO:=fun call bh i a j b v k w x y z a0 a1 a2 a3 a4 a5 a6 h c a7 a8 a9 c0 c1 o p q r s σ=>
 bif (decide (b<(c.length:Int)))then
 bo b c<|
 aE call 226 (aF (V.ptr 305 a 0) (V.agg [(ak c b 0),(ak c b 1),(ak c b 2),(ak c b 3),(ak c b 4),(ak c b 5)])) σ 1 (fun d c2=>
 bQ (ae d) 5<|
 aE call 223 (aF (V.ptr 305 a 0) (bA (ae d))) c2 0 fun d6 c3=>
 bh i a j (bp b) v k w x y z a0 a1 a2 a3 a4 a5 a6 h c a7 a8 a9 c0 c1 o p q r s c3)
 else
 aE call 220 (ft (V.ptr 305 a 0) (bF o p q r s) j (aP i)) σ 2 fun t c4=>
 aE call 222 (aF (V.ptr 305 a 0) (V.str k)) c4 1 fun c5 c6=>
 aE call 221 (bH (V.ptr 305 a 0) (ae c5) (aH t)) c6 1 fun c7 c8=>
 aE call 223 (aF (V.ptr 305 a 0) (ae c7)) c8 0 fun d7 u=>
 cj u 305 a 17 fun m19=>
 cz (aH t) 1 3 fun UW=>
 dS (decide (0≤h)&&decide (h≤(UW.length:Int))&&decide ((UW.length:Int)≤UW.length))<|
 aE call 227 (aF (V.ptr 305 a 0) m19) u 1 fun c9 d0=>
 aE call 221 (bH (V.ptr 305 a 0) (ae c9) (V.slice 1 3 ((UW.take (Int.toNat (UW.length:Int))).drop h.toNat))) d0 1 fun e d1=>
 bQ (ae e) 5<|
 aE call 229 (aM (aP 0)) d1 1 fun d2 d3=>
 aE call 228 (aF (bA (ae e)) (ae d2)) d3 1 fun f d4=>
 bQ (ae f) 5<|
 aE call 224 (bH (V.ptr 305 a 0) (bA (ae f)) (aP 0)) d4 1 fun g d5=>
 bQ (ae g) 5<|
 aq (bA (ae g)) d5
def mY (call:af) (n:Nat):=eR (vN call)
def NF:pV St:=fun a b c d e f g h i j k o p q r s t u v w x y z a0 a1 a2 a3 a4 a5 σ=>⟨[aU,bg a,aU,cH 3,aU,aU,cH 6,gV (V.ptr 305 b 0),cH 8,gV c]++dd 4 ([bg d]++dd 102 []),[[],[],[],gW (dZ e f g h i j k o p q r s t u v),[],[],[(V.int .i64 w,false),(V.int .i64 x,false),(V.str y,false),(V.slice 3 120 z,true),(V.slice 5 53 a0,true)],[],dn a1 a2 a3 a4 a5]++nn 108 [],σ⟩
def recursor:af→Nat→pT (uC RR):=fun call n o e p f g h i j q r s t u d v k y z a0 σ=>
 aE call 220 [(V.ptr 305 (List.length σ) 0,false),((aC f g h i j),false),(V.slice 1 3 [],true),(V.int .i64 d,false)] (σ++[[(V.int .i64 o,false),(V.str e,false),(V.slice 1 9 p,false),(V.int .i64 f,false),(V.int .i64 g,false),(V.str h,false),(V.slice 3 120 i,false),(V.slice 5 53 j,false),(V.int .i64 q,false),(V.int .i64 r,false),(V.str s,false),(V.slice 3 120 t,false),(V.slice 5 53 u,false),(V.int .i64 d,false),(V.slice 6 60 v,false),(V.int .i64 k,false),(V.lit (.slice none 0 0),false),((aP 0),false)]]) 2 fun a a1=>
 bQ (ae a) 5<|
 aE call 220 (ft (V.ptr 305 (List.length σ) 0) (bA (ae a)) (aH a) (aP k)) a1 2 fun w a2=>
 bQ (ae w) 5<|
 aE call 222 (aF (V.ptr 305 (List.length σ) 0) (V.str e)) a2 1 fun a3 a4=>
 aE call 221 (bH (V.ptr 305 (List.length σ) 0) (ae a3) (aH w)) a4 1 fun b a5=>
 bQ (ae b) 5<|
 aE call 223 (aF (V.ptr 305 (List.length σ) 0) (bA (ae b))) a5 0 fun c0 a6=>
 aE call 225 (aM (bU y z a0)) a6 1 fun a7 a8=>
 aE call 224 (bH (V.ptr 305 (List.length σ) 0) (ae a7) (aP d)) a8 1 fun c x=>
 bQ (ae c) 5<|
 cj x 305 (List.length σ) 16 fun m22=>
 (V.rowLen m22).bind fun n23=>
 (aV x (V.ptr 305 (List.length σ) 17) [((aP (n23:Int)),false)]).bind fun m24=>
 aE call 223 (aF (V.ptr 305 (List.length σ) 0) (bA (ae c))) m24 0 fun c1 a9=>
 cR ((mY call n n) k (List.length σ) (aH a) 0 o e p f g h i j q r s t u d v 0 0 (ByteArray.mk #[]) [] []) (ae a) a9
theorem Fp (call:af) (n:Nat) (m:Nat):mY call n m=lq C zk call n 0 (pt 16372) [] NF m:=bn (fun F x=>by kernel_rfl) m
theorem IA{n a b c e f g i j k o p q s t u v w x y b0 b1 b2}:bS 177 [((dZ a b c e f g i j k o p q s t u),b0),(V.int .i64 v,b1),((bU w x y),b2)] (recursor (ah C) n a b c e f g i j k o p q s t u v w x y):=bV zk n (e:=by intro _;rw[recursor,Fp];kernel_rfl)
def IB:af→Nat→Nat→LL→LL→cM (Int→RR):=fun call n b d e f g h i j k σ=>
 aE call 230 (dn (V.ptr 49 b 0) (de d) (dk e) (aC f g h i j) (aP k)) σ 2 fun a o=>
 bQ (ae a) 5<|
 aE call 231 (aF (bA (ae a)) (aP 20000)) o 1 fun p c=>
 cj c 49 b 1 fun m7=>
 cB m7 fun b8=>
 bif b8 then
 (aV c (V.ptr 49 b 1) [(V.bool true,false)]).bind fun m9=>
 cj m9 49 b 1 fun m10=>
 cB m10 fun b11=>
 bif b11 then
 cq (aC 0 0 ⟨#[]⟩ [] []) (aP 14) m9
 else
 cq (bA (ae a)) (aH a) m9
 else
 bb (ae p) fun i12=>
 (aV c (V.ptr 49 b 1) [((V.bool (decide (i12>20000))),false)]).bind fun m13=>
 cj m13 49 b 1 fun m14=>
 cB m14 fun b15=>
 bif b15 then
 cq (aC 0 0 ⟨#[]⟩ [] []) (aP 14) m13
 else
 cq (bA (ae a)) (aH a) m13
theorem vO{n a b c e f g i j k b0 b1 b2 b3 b4}:bS 179 [(V.ptr 49 a 0,b0),(V.slice 1 9 b,b1),(V.slice 5 53 c,b2),((aC e f g i j),b3),(V.int .i64 k,b4)] (IB (ah C) n a b c e f g i j k):=bV P4 n
def must:af→Nat→Nat→Ye RR:=fun call n c d e f g h i j k o p q σ=>
 aE call 215 (ft (V.ptr 49 c 0) (aC d e f g h) (aC i j k o p) (aP q)) σ 2 fun a b=>
 bb (aH a) fun i4=>
 bif (i4 != 0)then
 aq (aH a) b
 else
 cB (ae a) fun b5=>
 bif (!b5)then
 aq (aP 9) b
 else
 aq (aP 0) b
theorem KK{n a b c e f g i j k o p q b0 b1 b2 b3}:bS 180 [(V.ptr 49 a 0,b0),((aC b c e f g),b1),((aC i j k o p),b2),(V.int .i64 q,b3)] (must (ah C) n a b c e f g i j k o p q):=bV Zz n
def isName:af→Nat→ByteArray→RR:=fun call n a σ=>
 bif (!(a.toList==(ByteArray.mk #[]).toList))then
 dS (decide (0≤(0:Int))&&decide ((0:Int)<a.size))<|
 aE call 159 (aF (V.int .u8 (av a (Int.toNat 0))) (V.bool true)) σ 1 (fun b c=>
 aq (ae b) c)
 else
 aq (V.bool false) σ
theorem NG{n a b0}:bS 212 [(V.str a,b0)] (isName (ah C) n a):=bV P5 n
def UX:af→Nat→Nat→RR:=fun call n a σ=>
 aE call 112 (aM (V.ptr 202 a 0)) σ 3 fun b k=>
 aE call 212 (aM (ae b)) k 1 fun o c=>
 cj c 202 a 2 fun m7=>
 bb m7 fun i8=>
 bif (i8 != 0)then
 aq (bU 0 ⟨#[]⟩ []) c
 else
 dG (ae b) fun s9=>
 bif (s9.toList==(ByteArray.mk #[48]).toList)then
 aE call 162 (aM (V.ptr 202 a 0)) c 1 (fun a5 p=>
 aq (bU 0 ⟨#[]⟩ []) p)
 else
 cB (ae o) fun Yf=>
 bif Yf then
 aE call 162 (aM (V.ptr 202 a 0)) c 1 (fun a6 q=>
 jq (ae b) false 1<|
 aq (V.agg [(aP 4),(ae b),V.slice 3 120 []]) q)
 else
 dG (ae b) fun s17=>
 bif (s17.toList==(ByteArray.mk #[40]).toList)then
 aE call 162 (aM (V.ptr 202 a 0)) c 1 (fun a7 r=>
 aE call 112 (aM (V.ptr 202 a 0)) r 3 fun d e=>
 dG (ae d) fun ZG=>
 bif (ZG.toList==(ByteArray.mk #[115]).toList)then
 aE call 162 (aM (V.ptr 202 a 0)) e 1 (fun a8 s=>
 aE call 213 (aM (V.ptr 202 a 0)) s 1 fun f t=>
 jq (ae f) true 3<|
 dS (room (0+1))<|
 aE call 160 (aF (V.ptr 202 a 0) (V.str ⟨#[41]⟩)) t 0 fun a9 u=>
 aq (bU 1 ⟨#[]⟩ [[V.cell (ae f) 0,V.cell (ae f) 1,V.cell (ae f) 2]]) u)
 else
 dG (ae d) fun Yg=>
 bif (Yg.toList==(ByteArray.mk #[109,97,120]).toList)then
 aE call 162 (aM (V.ptr 202 a 0)) e 1 (fun c0 v=>
 aE call 213 (aM (V.ptr 202 a 0)) v 1 fun g w=>
 jq (ae g) true 3<|
 dS (room (0+1))<|
 aE call 213 (aM (V.ptr 202 a 0)) w 1 fun h x=>
 jq (ae h) true 3<|
 dS (room (1+1))<|
 aE call 160 (aF (V.ptr 202 a 0) (V.str ⟨#[41]⟩)) x 0 fun c1 y=>
 aq (bU 2 ⟨#[]⟩ [[V.cell (ae g) 0,V.cell (ae g) 1,V.cell (ae g) 2],[V.cell (ae h) 0,V.cell (ae h) 1,V.cell (ae h) 2]]) y)
 else
 dG (ae d) fun s47=>
 bif (s47.toList==(ByteArray.mk #[105,109,97,120]).toList)then
 aE call 162 (aM (V.ptr 202 a 0)) e 1 (fun c2 z=>
 aE call 213 (aM (V.ptr 202 a 0)) z 1 fun i a0=>
 jq (ae i) true 3<|
 dS (room (0+1))<|
 aE call 213 (aM (V.ptr 202 a 0)) a0 1 fun j a1=>
 jq (ae j) true 3<|
 dS (room (1+1))<|
 aE call 160 (aF (V.ptr 202 a 0) (V.str ⟨#[41]⟩)) a1 0 fun c3 a2=>
 aq (bU 3 ⟨#[]⟩ [[V.cell (ae i) 0,V.cell (ae i) 1,V.cell (ae i) 2],[V.cell (ae j) 0,V.cell (ae j) 1,V.cell (ae j) 2]]) a2)
 else
 aE call 161 (aF (V.ptr 202 a 0) (aH d)) e 0 fun c4 a3=>
 aq (bU 0 ⟨#[]⟩ []) a3)
 else
 aE call 161 (aF (V.ptr 202 a 0) (aH b)) c 0 fun c5 a4=>
 aq (bU 0 ⟨#[]⟩ []) a4
theorem NH{n a b0}:bS 213 [(V.ptr 202 a 0,b0)] (UX (ah C) n a):=bV P6 n
def P9:af→Nat→Nat→cM (Int→RR):=fun call n c d e f g h i σ=>
 aE call 246 (bH (V.ptr 49 c 0) (aC d e f g h) (V.ptr 332 (List.length σ) 0)) (σ++[[((aP 0),false),(V.int .i64 i,false),(V.bool false,false),((aP 0),false),((aP 0),false)]]) 1 fun a b=>
 bQ (ae a) 5<|
 cj b 332 (List.length σ) 2 fun m4=>
 cB m4 fun b5=>
 bif b5 then
 dc (aC 0 0 ⟨#[]⟩ [] []) (aP 0) (aP 14) b
 else
 cj b 49 c 1 fun m6=>
 cB m6 fun b7=>
 bif b7 then
 dc (aC 0 0 ⟨#[]⟩ [] []) (aP 0) (aP 14) b
 else
 cj b 332 (List.length σ) 0 fun m8=>
 dc (bA (ae a)) m8 (aP 0) b
theorem zp{n a b c e f g i b0 b1 b2}:bS 214 [(V.ptr 49 a 0,b0),((aC b c e f g),b1),(V.int .i64 i,b2)] (P9 (ah C) n a b c e f g i):=bV UI n
def equalR:af→Nat→Nat→Ye RR:=fun call n f g h i j k o p q r s t σ=>
 aE call 247 (bH (V.ptr 49 f 0) (aC g h i j k) (V.ptr 332 (List.length σ) 0)) (σ++[[((aP 0),false),(V.int .i64 t,false),(V.bool false,false),((aP 0),false),((aP 0),false)]]) 1 fun a u=>
 bQ (ae a) 5<|
 aE call 247 (bH (V.ptr 49 f 0) (aC o p q r s) (V.ptr 332 (List.length σ) 0)) u 1 fun b e=>
 bQ (ae b) 5<|
 cj e 332 (List.length σ) 2 fun m7=>
 cB m7 fun b8=>
 bif b8 then
 cq (V.bool false) (aP 14) e
 else
 cj e 49 f 1 fun m9=>
 cB m9 fun b10=>
 bif b10 then
 cq (V.bool false) (aP 14) e
 else
 aE call 248 (aM (bA (ae a))) e 1 fun c v=>
 bQ (ae c) 5<|
 aE call 248 (aM (bA (ae b))) v 1 fun d w=>
 bQ (ae d) 5<|
 aE call 249 (aF (bA (ae c)) (bA (ae d))) w 1 fun x y=>
 cq (ae x) (aP 0) y
theorem vP{n a b c e f g i j k o p q b0 b1 b2 b3}:bS 215 [(V.ptr 49 a 0,b0),((aC b c e f g),b1),((aC i j k o p),b2),(V.int .i64 q,b3)] (equalR (ah C) n a b c e f g i j k o p q):=bV P7 n
end Go.Ab.Mk
end
noncomputable section
set_option maxRecDepth 100000
namespace Go.Ab.Mk
open Go.Proofs Go.Ab
open List (getD)
open IntKind (wrap)
abbrev vQ (α:Type):=Int→V→ln (V→V→V→V→V→az→α)
abbrev pW (α:Type):=Int→V→ln (az→α)
def results1:af→pW RO→pW RO:=fun call eU e b a f d g h i j k o p q r s t c u σ=>
 UR (fun A=>
 eU e b A f d g h i j k o p q r s t c u) fun R1=>
 cz b 5 53 fun l1=>
 bif (decide (a<(l1.length:Int)))then
 bif (decide (a<c))then
 cz b 5 53 fun l2=>
 bo a l2<|
 bb (ak l2 a 0) fun i3=>
 bif (i3 != 0)then
 aq (V.bool false) σ
 else
 cz b 5 53 fun l4=>
 bo a l4<|
 bb (ak l4 a 1) fun i5=>
 bif (i5 != (wrap .i64 ((wrap .i64 (e - 1)) - a)))then
 aq (V.bool false) σ
 else
 cz b 5 53 fun l6=>
 bo a l6<|
 aE call 250 (aF (bJ l6 a) (V.str d)) σ 1 (fun x v=>
 bif (decide (a≥c))then
 cB (ae x) fun b10=>
 bif b10 then
 aq (V.bool false) v
 else
 R1 (bp a) v
 else
 R1 (bp a) v)
 else
 cz b 5 53 fun l11=>
 bo a l11<|
 aE call 250 (aF (bJ l11 a) (V.str d)) σ 1 (fun y w=>
 bif (decide (a≥c))then
 cB (ae y) fun b15=>
 bif b15 then
 aq (V.bool false) w
 else
 R1 (bp a) w
 else
 R1 (bp a) w)
 else
 aq (V.bool true) σ
def oY (call:af) (n:Nat):=eR (results1 call)
def UY:pW St:=fun a b c d e f g h i j k o p q r s t u σ=>⟨[aU,aU,aU,bg a,aU,cH 5]++dd 4 ([gV b,aU,bg c]++dd 106 []),nn 5 ([gW (dZ d e f g h i j k o p q r s t u)]++nn 113 []),σ⟩
def results0:af→pW RO→vQ RO→vQ RO:=fun call L1 bh d e a f g b h i j k o p q r s t u v w x y c z σ=>
 cz c 3 120 fun l1=>
 bif (decide (a<(l1.length:Int)))then
 cz c 3 120 fun l2=>
 bo a l2<|
 bb (ak l2 a 0) fun i3=>
 bif (i3 != 4)then
 aq (V.bool false) σ
 else
 cz c 3 120 fun l4=>
 bo a l4<|
 bo a b<|
 dG (ak l4 a 1) fun s5=>
 dG (ak b a 0) fun s6=>
 bif (!(s5.toList==s6.toList))then
 aq (V.bool false) σ
 else
 bh d e (bp a) f g b h i j k o p q r s t u v w x y c z σ
 else
 L1 d e 0 f g b h i j k o p q r s t u v σ
def rS (call:af) (n:Nat):=eR fun r=>results0 call (oY call n n) r
def UZ:vQ St:=fun a b c d e f g h i j k o p q r s t u v w x y z σ=>⟨[aU,aU,aU,bg a,aU,cH 5,aU,aU,aU,cH 9,gV b,bg c]++dd 107 [],nn 5 ([gW (dZ d e f g h i j k o p q r s t u),[],[],[],dn v w x y z]++nn 109 []),σ⟩
def result:af→Nat→cM (pT (iF RR)):=fun call n f g h i j k c d o p q r s t u v w x e y z a0 σ=>
 aE call 219 (aM (aC f g h i j)) σ 2 fun a b=>
 bQ (ae a) 5<|
 bb (V.cell (ae a) 0) fun i4=>
 bif (i4 != 2)then
 aq (V.bool false) b
 else
 dG (V.cell (ae a) 2) fun s5=>
 bif (!(s5.toList==c.toList))then
 aq (V.bool false) b
 else
 cz (aH a) 5 53 fun l6=>
 bif ((l6.length:Int) != (wrap .i64 (e+z)))then
 aq (V.bool false) b
 else
 cz (V.cell (ae a) 3) 3 120 fun l7=>
 bif ((l7.length:Int) != (d.length:Int))then
 aq (V.bool false) b
 else
 cR ((rS call n n) a0 (aH a) 0 k c d o p q r s t u v w x e y) (ae a) b
theorem KL (call:af) (n:Nat) (m:Nat):oY call n m=lq C resultD call n 2 (pt 500) [] UY m:=bn (fun F x=>by kernel_rfl) m
theorem KM (call:af) (n:Nat) (m:Nat):rS call n m=lq C resultD call n 0 (pt 244) [] UZ m:=bn (fun F x=>by rw[KL];kernel_rfl) m
theorem NI{n a b c e f g i j k o p q s t u v w x y z a0 a1 b0 b1 b2 b3}:bS 216 [((aC a b c e f),b0),((dZ g i j k o p q s t u v w x y z),b1),(V.int .i64 a0,b2),(V.int .i64 a1,b3)] (result (ah C) n a b c e f g i j k o p q s t u v w x y z a0 a1):=bV resultD n (e:=by intro _;rw[result,KM];kernel_rfl)
abbrev om (α:Type):=Nat→LL→iF (V→ln (cM (kd (V→V→V→V→V→az→α))))
def rT:af→om RO→om RO:=fun call bh j b k o c p q d e r s t u v w x y z a0 a1 a2 a3 a4 a5 a6 a7 f g h c3 c4 c5 c6 i σ=>
 bb c fun i1=>
 bif (decide (p<i1))then
 cz i 5 53 fun l2=>
 bo 0 l2<|
 aE call 250 (aF (bJ l2 0) (V.str d)) σ 1 (fun c7 a8=>
 cB (ae c7) fun b6=>
 bif b6 then
 aq (aP 12) a8
 else
 cz i 5 53 fun l7=>
 bo 1 l7<|
 gr (bh j b k o c (bp p) q d e r s t u v w x y z a0 a1 a2 a3 a4 a5 a6 a7 f g h) l7 1 a8)
 else
 bb c fun i8=>
 aE call 216 (ft (bF c3 c4 c5 c6 i) (dZ q d e r s t u v w x y z a0 a1 a2) (aP k) (aP (wrap .i64 ((b.length:Int)+i8)))) σ 1 fun c8 a9=>
 cB (ae c8) fun b12=>
 bif (!b12)then
 aq (aP 12) a9
 else
 aE call 173 (aM (bU f g h)) a9 1 fun c9 c0=>
 cB (ae c9) fun UQ=>
 bif UQ then
 aq (aP 0) c0
 else
 aE call 170 (dn (V.ptr 49 j 0) (de e) (dk b) (aC a3 a4 a5 a6 a7) (aP o)) c0 2 fun a c1=>
 bQ (ae a) 3<|
 bb (aH a) fun i20=>
 bif (i20 != 0)then
 aq (aH a) c1
 else
 aE call 74 (aF (Ro (ae a)) (bU f g h)) c1 1 fun d0 c2=>
 cB (ae d0) fun b24=>
 bif (!b24)then
 aq (aP 13) c2
 else
 aq (aP 0) c2
def lu (call:af) (n:Nat):=eR (rT call)
def KN:om St:=fun a b c d e f g h i j k o p q r s t u v w x y z a0 a1 a2 a3 a4 a5 a6 a7 a8 a9 c0 σ=>⟨[nD a,aU,aU,IC b,bg c,aU,bg d,aU,cH 8,cH 9,aU,aU,cH 12,aU,aU,aU,gV e,cH 17,bg f]++dd 62 [],nn 8 ([gW (dZ g h i j k o p q r s t u v w x),gW (aC y z a0 a1 a2),[],[],gW (bU a3 a4 a5)]++nn 4 ([dn a6 a7 a8 a9 c0]++nn 63 [])),σ⟩
def tR:af→Nat→Nat→pT (cM (LL→uC (Int→RR))):=fun call n j v k o w x y z a0 a1 a2 a3 a4 a5 a6 a7 b c d e f p a8 g h i q σ=>
 aE call 250 (aF (aC b c d e f) (V.str k)) σ 1 fun a9 r=>
 cB (ae a9) fun b4=>
 bif b4 then
 aE call 171 (aM (aC b c d e f)) r 1 (fun c0 c1=>
 (lu call n n) j p a8 q (ae c0) 0 v k o w x y z a0 a1 a2 a3 a4 a5 a6 a7 b c d e f g h i (aP b) (aP c) (V.str d) (iP e) (dk f) c1)
 else
 aE call 173 (aM (bU g h i)) r 1 fun c2 s=>
 cB (ae c2) fun b11=>
 bif b11 then
 aq (aP 0) s
 else
 aE call 170 (dn (V.ptr 49 j 0) (de o) (dk p) (aC b c d e f) (aP q)) s 2 fun a t=>
 bQ (ae a) 3<|
 bb (aH a) fun i15=>
 bif (i15 != 0)then
 aq (aH a) t
 else
 aE call 74 (aF (Ro (ae a)) (bU g h i)) t 1 fun c3 u=>
 cB (ae c3) fun b19=>
 bif (!b19)then
 aq (aP 13) u
 else
 aq (aP 0) u
theorem Dd (call:af) (n:Nat) (m:Nat):lu call n m=lq C vK call n 0 (pt 3764) [] KN m:=bn (fun F x=>by kernel_rfl) m
theorem Fq{n a b c e f g i j k o p q s t u v w x y z a0 a1 a2 a3 a4 a5 a6 b0 b1 b2 b3 b4 b5 b6}:bS 217 [(V.ptr 49 a 0,b0),((dZ b c e f g i j k o p q s t u v),b1),((aC w x y z a0),b2),(V.slice 5 53 a1,b3),(V.int .i64 a2,b4),((bU a3 a4 a5),b5),(V.int .i64 a6,b6)] (tR (ah C) n a b c e f g i j k o p q s t u v w x y z a0 a1 a2 a3 a4 a5 a6):=bV vK n (e:=by intro _;rw[tR,Dd];kernel_rfl)
def extended:af→Nat→LL→cM RR:=fun call n a b c d e f σ=>
 dS (room (0+List.length a))<|
 iz a<|
 some (.ret [(V.slice 5 53 (a++[[V.int .i64 b,V.int .i64 c,V.str d,V.slice 3 120 e,V.slice 5 53 f]]),true)],σ)
theorem ID{n a b c e f g b0 b1}:bS 218 [(V.slice 5 53 a,b0),((aC b c e f g),b1)] (extended (ah C) n a b c e f g):=bV Gm n
end Go.Ab.Mk
end
