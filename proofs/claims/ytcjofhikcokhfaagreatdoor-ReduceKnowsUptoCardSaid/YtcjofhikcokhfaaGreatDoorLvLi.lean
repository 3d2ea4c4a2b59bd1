/- Family. -/
import Derived.Test.YtcjofhikcokhfaaGreatDoorLvKz
set_option linter.unusedSimpArgs false
set_option linter.unusedVariables false
set_option linter.deprecated false
section
namespace Go.Ab.Mk
open Go.Proofs Go.Ab Go.Proofs.Mk
def kg (E:List bO) (σ:az) (b:Nat) (r:Option aQ):Prop:=
 ∃(x:Bool) (k:Int) (w':Bool) (τ:az),r=some (.ret [(.bool x,false),(.int .i64 k,false)],σ.set b (aD E w')++τ)∧(k=0→w'=false)
theorem kg.bad {E:List bO} {σ τ:az} {b:Nat} {w' x:Bool} {k:Int} (hk:k≠0):kg E σ b (some (.ret [(.bool x,false),(.int .i64 k,false)],σ.set b (aD E w')++τ)):=⟨x,k,w',τ,rfl,fun h=>absurd h hk⟩
theorem kg.yp {E:List bO} {σ:az} {b:Nat} {x:Bool} (hb:σ[b]?=some (aD E false)):kg E σ b (some (.ret [(.bool x,false),(.int .i64 0,false)],σ)):=⟨x,0,false,[],by rw[dD hb,List.append_nil],fun _=>rfl⟩
theorem kg.bif {E:List bO} {σ:az} {b:Nat} {c:Bool} {x y:Option aQ} (ha:kg E σ b x) (hb:kg E σ b y):kg E σ b (bif c then x else y):=by cases c<;>assumption
theorem kg.after {E:List bO} {σ τ1:az} {b:Nat} {w1:Bool} {r:Option aQ} (hb:b<σ.length) (h:kg E (σ.set b (aD E w1)++τ1) b r):kg E σ b r:=by
 obtain⟨x,k,w',τ,h1,h2⟩:=h
 exact⟨x,k,w',τ1++τ,by rw[h1,eF hb],h2⟩
section
variable {E:List bO} {b fu:Nat} {N:Nat} {d:Dc} {l:Lv}
theorem Bd {sp:List Tm} (jP:sp.length<2^40) {σ:az} (hb:σ[b]?=some (aD E false)) {all i:Nat} {ctx:List Tm} {A B:Tm} (hc:ctx.length<2^32) {R}
  (hR:kg E σ b (R b fu (.int .i64 all) (.slice 5 53 (sp.map Tm.enc)) (.slice 5 53 ((ctx++[A]).map Tm.enc)) (IntKind.wrap .i64 ((i:Int)+1)) d.kind d.name d.ch d.type.kind d.type.num d.type.name (d.type.bK.map Lv.enc) d.type.args d.value.kind d.value.num d.value.name (d.value.bK.map Lv.enc) d.value.args d.arity d.aY (.int .i64 B.kind) (.int .i64 B.num) (.str B.name) (.slice 3 120 (B.bK.map Lv.enc)) (.slice 5 53 B.args) σ)):
  ∀(mm j:Nat) (Wz:Bool),sp.length - j<mm→j<2^60→
   kg E σ b (oW (ah C) N R mm b fu (.int .i64 all) (.slice 5 53 (sp.map Tm.enc)) (.slice 5 53 (ctx.map Tm.enc)) i (.bool Wz) j d.kind d.name d.ch d.type.kind d.type.num d.type.name (d.type.bK.map Lv.enc) d.type.args d.value.kind d.value.num d.value.name (d.value.bK.map Lv.enc) d.value.args d.arity d.aY (.int .i64 5) (.int .i64 0) (.str (ByteArray.mk #[])) (.slice 3 120 []) (.slice 5 53 [A.enc,B.enc]) (A.enc.getD 0 V.any) (A.enc.getD 1 V.any) (A.enc.getD 2 V.any) (A.enc.getD 3 V.any) (A.enc.getD 4 V.any) σ)
 |0,j,Wz,hm,_=>by omega
 |mm+1,j,Wz,hm,hj=>by
  rw[show oW (ah C) N R (mm+1)=Da (ah C) R (oW (ah C) N R mm)from rfl]
  unfold Da UR cz cB bp bo bb ak cq aP aE aF bF AU gr ae
  simp only[BH,iD,Option.bind_some,List.length_map]
  by_cases aG:j<sp.length
  ·have ih:=fun Wz=>Bd jP hb (all:=all) (i:=i) hc hR mm (j+1) Wz (by omega) (by omega)
   simp only[eD aG,cond_true,d0,Bool.and_self,bz,Option.bind_some,dB aG,gf,gI,fT,aw (show j<2^61 by omega)]
   simp only[gf,gI]at ih
   refine kg.bif (ih true) (kg.bif ?_ (ih false))
   exact ih _
  ·have e2:∀(K:List Cell→az→Option aQ) KP,aA (ah C) 218 [(.slice 5 53 (ctx.map Tm.enc),false),(A.val,false)] σ 1 K KP=K [(.slice 5 53 ((ctx++[A]).map Tm.enc),true)] σ:=fun K KP=>ab (jZ ctx A hc σ)
   simp only[cQ aG,cond_false,bf,e2,List.getD_cons_zero,Bool.and_self,bz,cond_true,Option.bind_some,nE,rr,nF]
   simp only[gf,gI,jz,jA,jC]
   exact kg.bif (kg.yp hb) hR
theorem Be (hE:dj E) (hf:fu<2^50) (iE:d.aT.length<2^32) {sp:List Tm} (jP:sp.length<2^40) {all:Nat} (ha:all<2^32) (hN:2^41≤N) (xp:d.arity<2^40):
  ∀(mm:Nat) (ctx:List Tm) (t:Tm) (σ:az),σ[b]?=some (aD E false)→ctx.length≤all→all - ctx.length<mm→cP t=all - ctx.length→ru E ctx→nJ ctx.length t→br (QE E) t ctx.length→
   kg E σ b (oX (ah C) N mm b fu (.int .i64 all) (.slice 5 53 (sp.map Tm.enc)) (.slice 5 53 (ctx.map Tm.enc)) (ctx.length:Nat) d.kind d.name d.ch d.type.kind d.type.num d.type.name (d.type.bK.map Lv.enc) d.type.args d.value.kind d.value.num d.value.name (d.value.bK.map Lv.enc) d.value.args d.arity d.aY (.int .i64 t.kind) (.int .i64 t.num) (.str t.name) (.slice 3 120 (t.bK.map Lv.enc)) (.slice 5 53 t.args) σ)
 |0,ctx,t,σ,_,_,hm,_,_,_,_=>by omega
 |mm+1,ctx,t,σ,hb,hc,hm,hp,hC,hA,eY=>by
  rw[show oX (ah C) N (mm+1)=Db (ah C) (oW (ah C) N (oX (ah C) N mm) N) (oX (ah C) N mm)from rfl]
  unfold Db bb cz bo aE dn de bJ aP bQ ae aH cq aM Ro gr aF AU bp
  have eN:=cO hb
  simp only[fT,Option.bind_some]
  by_cases aG:ctx.length<all
  ·obtain⟨A,B,rfl⟩:∃A B,t=.pi A B:=by cases t<;>simp only[cP]at hp<;>first|omega|exact⟨_,_,rfl⟩
   obtain⟨iA,iB⟩:=hA.pi
   simp only[cP]at hp
   have l1:(ctx++[A]).length=ctx.length+1:=Pf ctx A
   have ih:=fun eM jI=>Be hE hf iE jP ha hN xp mm (ctx++[A]) B eM jI (by omega) (by omega) (by omega) (hC.add eY.1 iA.parts) (by rw[l1];exact iB) (by rw[l1];exact eY.2)
   rw[l1]at ih
   have e2:∀(σ:az) (K:List Cell→az→Option aQ) KP,aA (ah C) 218 [(.slice 5 53 (ctx.map Tm.enc),false),(A.val,false)] σ 1 K KP=K [(.slice 5 53 ((ctx++[A]).map Tm.enc),true)] σ:=fun σ K KP=>ab (jZ ctx A (by omega) σ)
   obtain⟨l2,k,w1,τ1,h1,h2,h3,h4⟩:=kQ hE hf iE (show ctx.length<2^40 by omega) hb hC (t:=A) (fun _=>iA) false
   have e1:∀(K:List Cell→az→Option aQ) KP,aA (ah C) 170 [(.ptr 49 b 0,false),(.slice 1 9 d.ch,false),(.slice 5 53 (ctx.map Tm.enc),false),(A.val,false),(.int .i64 fu,false)] σ 2 K KP=K [(.agg [.int .i64 l2.kind,.str l2.name,.slice 3 120 l2.args],false),(.int .i64 k,false)] (σ.set b (aD E w1)++τ1):=fun K KP=>aW h1
   obtain⟨y,hy⟩:=nU (σ.set b (aD E w1)++τ1) l2 (by omega)
   have e3:∀(K:List Cell→az→Option aQ) KP,aA (ah C) 173 [(.agg l2.enc,false)] (σ.set b (aD E w1)++τ1) 1 K KP=K [(.bool y,false)] (σ.set b (aD E w1)++τ1):=fun K KP=>by rw[l2.aX];exact ab hy
   simp only[eD aG,cond_true,kY,BH,nE,uD,rr,bz,oG,nF,bf,Option.bind_some,e1,e2,e3,List.getD_cons_zero,List.getD_cons_succ,fT,Bool.and_self,gC,mw,aw (show ctx.length<2^61 by omega)]
   refine kg.bif ?_ ?_
   ·by_cases hk:k=0
    case neg=>
     rw[show(k != (0:Int))=true by rw[bne_iff_ne];exact hk,cond_true]
     exact kg.bad hk
    subst hk
    rw[bne_self_eq_false,cond_false]
    obtain⟨rfl,_⟩:=h4 rfl
    have jc:(σ.set b (aD E false)++τ1)[b]?=some (aD E false):=cT (aS hb)
    refine kg.after eN (Bd (i:=ctx.length) (ctx:=ctx) (A:=A) (B:=B) jP jc (by omega) ?_ N d.arity y (by omega) (by omega))
    rw[aw (show ctx.length<2^61 by omega)]
    exact ih _ jc
   ·simp only[gf,gI,jz,jA,jC]
    exact ih σ hb
  ·rw[cQ aG,cond_false]
   exact kg.yp hb
theorem SG (hE:dj E) (hf:fu<2^50) (iE:d.aT.length<2^32) (hl:l.size<2^31) (Wx:∀c∈d.ctors,nJ 0 c.2∧br (QE E) c.2 0) (xp:d.arity<2^40) (gE:d.ctors.length<2^40) {σ:az} (hb:σ[b]?=some (aD E false)):
  kg E σ b (ah C 176 [(.ptr 49 b 0,false),(d.val,false),(.agg [.int .i64 l.kind,.str l.name,.slice 3 120 l.args],false),(.int .i64 fu,false)] σ):=by
 suffices hs:kg E σ b (Iz (ah C) (2^41) b d.kind d.name d.ch d.type.kind d.type.num d.type.name (d.type.bK.map Lv.enc) d.type.args d.value.kind d.value.num d.value.name (d.value.bK.map Lv.enc) d.value.args d.arity d.aY l.kind l.name l.args fu σ) by
  obtain⟨x,k,w',τ,h1,h2⟩:=hs
  refine⟨x,k,w',τ,?_,h2⟩
  have:=ND (b0:=false) (b1:=false) (b2:=false) (b3:=false) h1
  unfold dZ bU at this
  rw[lY]at this
  exact this
 obtain⟨y,hy⟩:=Er σ l hl
 have e1:∀(K:List Cell→az→Option aQ) KP,aA (ah C) 174 [(.agg [.int .i64 l.kind,.str l.name,.slice 3 120 l.args],false)] σ 1 K KP=K [(.bool y,false)] σ:=fun K KP=>ab hy
 have M1:d.aY.length=d.ctors.length:=by simp[Dc.aY]
 simp only[Iz,aE,aM,bU,cB,ae,cq,aP,bo,xh,aF,bQ,ab6,aH,dk,e1,List.getD_cons_zero,iD,Option.bind_some,M1]
 refine kg.bif (kg.yp hb) ?_
 cases hcs:d.ctors with
 |nil=>exact kg.yp hb
 |cons c cs=>
  cases cs with
  |cons c2 cs=>
   have h1:(((c::c2::cs).length:Nat):Int)=(((c::c2::cs).length:Nat):Int):=rfl
   rw[show((((c::c2::cs).length:Nat):Int)==0)=false by rw[beq_eq_false_iff_ne];simp;omega,cond_false,show decide ((((c::c2::cs).length:Nat):Int)>1)=true by simp;omega,cond_true]
   exact kg.yp hb
  |nil=>
   obtain⟨iA,oc⟩:=Wx c (by rw[hcs];exact List.mem_cons_self ..)
   have hcd:=iA.jd.depth
   have Jp:=iA.parts
   have hcn:=eW c.2
   have hV:d.aY=[.str c.1::c.2.enc]:=by simp[Dc.aY,hcs]
   have jP:(eC c.2 (cP c.2)).spine.length<2^32:=by
    have h1:Sm c.2.depth c.2:=⟨by have:=cU c.2;omega,Nat.le_refl _⟩
    have:=(wK (cP c.2) c.2 h1).spine.1
    omega
   have e2:∀(K:List Cell→az→Option aQ) KP,aA (ah C) 171 [(c.2.val,false)] σ 1 K KP=K [(.int .i64 (cP c.2:Nat),false)] σ:=fun K KP=>ab (j5 c.2 (by omega) _)
   have e3:∀(K:List Cell→az→Option aQ) KP,aA (ah C) 172 [(c.2.val,false),(.int .i64 (cP c.2:Nat),false)] σ 1 K KP=K [((eC c.2 (cP c.2)).val,false)] σ:=fun K KP=>ab (B9 c.2 _ (Nat.le_refl _) (by omega) σ)
   have e4:∀(K:List Cell→az→Option aQ) KP,aA (ah C) 219 [((eC c.2 (cP c.2)).val,false)] σ 2 K KP=K [((eC c.2 (cP c.2)).head.val,false),(.slice 5 53 ((eC c.2 (cP c.2)).spine.map Tm.enc),false)] σ:=fun K KP=>aW (ik _ jP σ)
   have hg:∀i,([V.str c.1::c.2.enc].getD (Int.toNat 0) []).getD (i+1) V.any=c.2.enc.getD i V.any:=fun i=>rfl
   have By:=hg 0
   have S9:=hg 1
   have hg3:=hg 2
   have hg4:=hg 3
   have Th:=hg 4
   simp only[Nat.zero_add,Nat.reduceAdd]at By S9 hg3 hg4 Th
   have hlen:(([c].length:Nat):Int)=1:=rfl
   have aeG:(decide ((0:Int)≤0)&&decide ((0:Int)<((d.aY.length:Nat):Int)))=true:=by rw[hV];rfl
   simp only[hlen,show((1:Int)==0)=false from rfl,cond_false,show decide ((1:Int)>1)=false from rfl,hV,List.length_singleton,show(decide ((0:Int)≤0)&&decide ((0:Int)<((1:Nat):Int)))=true from rfl,bz,cond_true,Option.bind_some,By,S9,hg3,hg4,Th,bf,e2,e3,e4,List.getD_cons_zero,List.getD_cons_succ,aL]
   have:=Be hE hf iE (sp:=(eC c.2 (cP c.2)).spine) (by omega) (all:=cP c.2) (by omega) (Nat.le_refl _) xp (2^41) [] c.2 σ hb (Nat.zero_le _) (by simp;omega) rfl (uo E) iA oc
   rw[hV]at this
   simp only[gf,gI,jz,jA,jC]
   exact this
end
end Go.Ab.Mk
end
section
namespace Go.Ab.Mk
open Go.Proofs Go.Ab Go.Proofs.Mk
def recC (d:Dc) (m:Int) (c:Cell) (mo:Nat):List Cell:=
  [(.int .i64 d.kind,false),(.str d.name,false),(.slice 1 9 d.ch,false),(.int .i64 d.type.kind,false),(.int .i64 d.type.num,false),(.str d.type.name,false),(.slice 3 120 (d.type.bK.map Lv.enc),false),(.slice 5 53 d.type.args,false),
   (.int .i64 d.value.kind,false),(.int .i64 d.value.num,false),(.str d.value.name,false),(.slice 3 120 (d.value.bK.map Lv.enc),false),(.slice 5 53 d.value.args,false),(.int .i64 d.arity,false),(.slice 6 60 d.aY,false),(.int .i64 m,false),c,(.int .i64 mo,false)]
def kh (c:Cell) (bs:List Tm):Prop:=c=(.row 5 53 (bs.map Tm.enc),true)∨bs=[]∧c=(.lit (.slice none 0 0),false)
theorem kh.len {c:Cell} {bs:List Tm} (h:kh c bs):V.rowLen c.1=some bs.length:=by
 rcases h with rfl|⟨rfl,rfl⟩
 ·simp[V.rowLen]
 ·rfl
theorem kh.of {c:Cell} {bs:List Tm} (h:kh c bs) (hl:bs.length<100000000):Mk.rowOf 5 53 c=some (bs.map Tm.enc):=by
 rcases h with rfl|⟨rfl,rfl⟩
 ·simp[Mk.rowOf,hl]
 ·rfl
theorem kh.mk (bs:List Tm):kh (.row 5 53 (bs.map Tm.enc),true) bs:=.inl rfl
section
variable {σ:az} {r mo:Nat} {d:Dc} {m:Int} {c:Cell} {bs:List Tm} {N:Nat}
theorem rc1 (h:σ[r]?=some (recC d m c mo)) (t:TypeId):bu σ (.ptr t r 1) false 1=some (.str d.name):=by simp[bu,h,dX,recC]
theorem rc2 (h:σ[r]?=some (recC d m c mo)) (t:TypeId):bu σ (.ptr t r 2) false 1=some (.slice 1 9 d.ch):=by simp[bu,h,dX,recC]
theorem Y4 (h:σ[r]?=some (recC d m c mo)) (t:TypeId):bu σ (.ptr t r 13) false 1=some (.int .i64 d.arity):=by simp[bu,h,dX,recC]
theorem WA (h:σ[r]?=some (recC d m c mo)) (t:TypeId):bu σ (.ptr t r 16) false 1=some c.1:=by simp[bu,h,dX,recC]
theorem abt (h:σ[r]?=some (recC d m c mo)) (t:TypeId):bu σ (.ptr t r 17) false 1=some (.int .i64 mo):=by simp[bu,h,dX,recC]
theorem acS (h:σ[r]?=some (recC d m c mo)) (t:TypeId) (x:Nat):aV σ (.ptr t r 17) [(.int .i64 x,false)]=some (σ.set r (recC d m c x)):=by simp[aV,h,recC,setCells]
theorem Ha (h:σ[r]?=some (recC d m c mo)) (hc:kh c bs) (hl:bs.length<100000000):Mk.rO r σ=some (recC d m c mo,bs.map Tm.enc):=by
 have hlen:(recC d m c mo).length=18:=rfl
 have h16:(recC d m c mo)[16]?=some c:=rfl
 simp only[Mk.rO,h,Option.bind_some,hlen,if_true,h16,hc.of hl]
theorem ur (h:σ[r]?=some (recC d m c mo)) (hc:kh c bs) (hl:bs.length<100000000) (t:Tm):ah C 223 [(.ptr 305 r 0,false),(t.val,false)] σ=some (.ret [],σ.set r (recC d m (.row 5 53 ((bs++[t]).map Tm.enc),true) mo)):=by
 refine ma (s:=Mk.tL) (by kernel_rfl) ?_
 simp only[Mk.tL,and_self,if_true,Ha h hc hl,Option.bind_some,zc,List.map_append,List.map_cons,List.map_nil]
 rfl
theorem qz (h:σ[r]?=some (recC d m c mo)) (hc:kh c bs) (hl:bs.length<100000000) (t:Tm) {n:Nat} (hn:n≤bs.length):ah C 224 [(.ptr 305 r 0,false),(t.val,false),(.int .i64 n,false)] σ=
  some (.ret [((sO (bs.drop n) t).val,false)],σ.set r (recC d m (.row 5 53 ((bs.take n).map Tm.enc),true) mo)):=by
 refine ma (s:=Mk.kF) (by kernel_rfl) ?_
 have h1:(0:Int)≤(n:Int):=by omega
 have h2:(((bs.map Tm.enc).drop n).all Mk.AV)=true:=by
  rw[←List.map_drop,List.all_map,List.all_eq_true]
  intro x _
  show Mk.AV x.enc=true
  rw[x.aX];rfl
 simp only[Mk.kF,and_self,true_and,h1,if_true,Ha h hc hl,Option.bind_some,zc,Int.toNat_natCast,List.length_map,hn,h2,and_self,if_true]
 rw[←List.map_drop,←List.map_take,LX,Y3]
 rfl
theorem Ap (h:σ[r]?=some (recC d m c mo)) (hc:kh c bs) (hl:bs.length<100000000) {i:Nat} (hi:i<bs.length):ah C 227 [(.ptr 305 r 0,false),(.int .i64 i,false)] σ=some (.ret [((Tm.var (bs.length - 1 - i)).val,false)],σ):=by
 refine Rr (n:=0) ?_
 have w1:IntKind.wrap .i64 ((bs.length:Int) - 1)=((bs.length - 1:Nat):Int):=by rw[cG (by omega) (by omega)];omega
 have w2:IntKind.wrap .i64 (((bs.length - 1:Nat):Int) - i)=((bs.length - 1 - i:Nat):Int):=by rw[cG (by omega) (by omega)];omega
 have e1:∀(K:List Cell→az→Option aQ) KP,aA (ah C) 229 [(.int .i64 (bs.length - 1 - i:Nat),false)] σ 1 K KP=K [((Tm.var (bs.length - 1 - i)).val,false)] σ:=fun K KP=>ab (yh _ σ)
 simp only[recAt,cj,aE,aM,aP,bQ,ae,aq,bA,WA h,hc.len,Option.bind_some,w1,w2,e1,List.getD_cons_zero,aL,bz,cond_true,cY]
theorem Aq (h:σ[r]?=some (recC d m c mo)) (hp:d.aT.length<2^32) (s:ByteArray):ah C 222 [(.ptr 305 r 0,false),(.str s,false)] σ=some (.ret [((Tm.const s (d.aT.map Lv.param)).val,false)],σ):=by
 refine IG (n:=0) ?_
 have e1:∀(K:List Cell→az→Option aQ) KP,aA (ah C) 253 [(.slice 1 9 d.ch,false)] σ 1 K KP=K [(.slice 3 120 ((d.aT.map Lv.param).map Lv.enc),false)] σ:=fun K KP=>ab (YU d.aT hp σ)
 simp only[KR,cj,aE,aM,jq,ae,aq,aP,rc2 h,Option.bind_some,e1,List.getD_cons_zero]
 rfl
theorem Jx {ps:List Nat} {i:Nat} (h:i<ps.length):(cd ps).getD (Int.toNat (i:Int)) []=[.int .i64 ps[i]]:=by rw[Int.toNat_natCast];simp[cd,h]
theorem my (ps:List Nat):(cd ps).length=ps.length:=by simp[cd]
theorem EJ (h:σ[r]?=some (recC d m c mo)) (hc:kh c bs) (hl:bs.length<100000000) {Q:ByteArray→Nat→Prop} {ps:List Nat} (hp:∀p∈ps,p<bs.length) (yM:ps.length<2^32):
  ∀(mm i:Nat) (t:Tm),i≤ps.length→i<mm→br Q t (i+bs.length)→t.depth<2^40→∀{t0 t1:Int} {t2:ByteArray} {t3 t4:List (List V)},
   nf (ah C) N mm r (cd ps) ((i:Int) - 1) (.int .i64 t.kind) (.int .i64 t.num) (.str t.name) (.slice 3 120 (t.bK.map Lv.enc)) (.slice 5 53 t.args) t0 t1 t2 t3 t4 σ=some (.ret [((kR bs.length ps i t).val,false)],σ)
 |0,i,t,_,hm,_,_=>by omega
 |mm+1,i,t,hi,hm,ok,hd=>by
  rename_i t0 t1 t2 t3 t4
  rw[show nf (ah C) N (mm+1)=vZ (ah C) (nf (ah C) N mm)from rfl]
  unfold vZ bo aE aF ak bH ae aP bF bQ cR aq
  rw[dge]
  match i,hi,hm,ok with
  |0,_,_,_=>
   simp only[show decide (0<0)=false from rfl,cond_false,cK]
   rfl
  |i+1,hi,hm,ok=>
   have aG:i<ps.length:=by omega
   have YV:=hp _ (List.getElem_mem aG)
   have hg:ps.getD i 0=ps[i]:=by rw[List.getD_eq_getElem?_getD,List.getElem?_eq_getElem aG];rfl
   have acD:=iQ t _ ok
   have e1:∀(K:List Cell→az→Option aQ) KP,aA (ah C) 227 [(.ptr 305 r 0,false),(.int .i64 ps[i],false)] σ 1 K KP=K [((Tm.var (bs.length - 1 - ps[i])).val,false)] σ:=fun K KP=>ab (Ap h hc hl YV)
   have e2:∀(K:List Cell→az→Option aQ) KP,aA (ah C) 256 [((Tm.var (bs.length - 1 - ps[i])).val,false),(.int .i64 (i:Nat),false),(.int .i64 0,false)] σ 1 K KP=K [((Tm.var (bs.length - 1 - ps[i]+i)).val,false)] σ:=fun K KP=>by
    have:=Am (n:=i) (by omega) σ (.var (bs.length - 1 - ps[i])) 0 (by simp only[Tm.top];omega) (by simp only[Tm.depth];omega)
    rw[show db i (.var (bs.length - 1 - ps[i])) 0=.var (bs.length - 1 - ps[i]+i) by simp[db]]at this
    exact ab this
   have e3:∀(K:List Cell→az→Option aQ) KP,aA (ah C) 273 [(t.val,false),((Tm.var (bs.length - 1 - ps[i]+i)).val,false)] σ 1 K KP=K [((aZ (.var (bs.length - 1 - ps[i]+i)) t 0).val,false)] σ:=fun K KP=>
    ab (sI t (.var (bs.length - 1 - ps[i]+i)) (by omega) (by omega) (by simp only[Tm.top];omega) (by simp[Tm.depth]) σ)
   have okn:br Q (aZ (.var (bs.length - 1 - ps[i]+i)) t 0) (i+bs.length):=by
    refine eB (n:=i+bs.length) (v:=.var _) ?_ t 0 ?_
    ·simp only[br];omega
    ·rw[show i+bs.length+0+1=i+1+bs.length by omega];exact ok
   have hdn:(aZ (.var (bs.length - 1 - ps[i]+i)) t 0).depth<2^40:=by
    have:=(eV (.var (bs.length - 1 - ps[i]+i)) t 0).2.1
    simp only[Tm.depth]at this
    omega
   have ih:=EJ h hc hl hp yM mm i _ (by omega) (by omega) okn hdn (t0:=t0) (t1:=t1) (t2:=t2) (t3:=t3) (t4:=t4)
   simp only[show decide (0<i+1)=true by simp,cond_true,ny (show 0<i+1 by omega),Nat.add_sub_cancel,d0,my,eD aG,Bool.and_self,bz,Option.bind_some,Jx aG,List.getD_cons_zero,e1,e2,cK,e3,aL,cV,dJ,dK,dw,dh]
   rw[show IntKind.wrap .i64 ((i:Int) - 1)=(i:Int) - 1 by rw[cG (by omega) (by omega)]]
   rw[kR,hg]
   exact ih
theorem Ar (h:σ[r]?=some (recC d m c mo)) (hc:kh c bs) (hl:bs.length<100000000) {Q:ByteArray→Nat→Prop} {ps:List Nat} (hp:∀p∈ps,p<bs.length) (yM:ps.length<2^32) {t:Tm} (ok:br Q t ps.length) (hd:t.depth<2^40) (q:Bool):
  ah C 251 [(.ptr 305 r 0,false),(t.val,false),(.slice 1 3 (cd ps),q)] σ=some (.ret [((kR bs.length ps ps.length t).val,false)],σ):=by
 refine IL (n:=2^33) ?_
 simp only[Dn,aP,iP,dk,my]
 rw[show IntKind.wrap .i64 ((ps.length:Int) - 1)=(ps.length:Int) - 1 by rw[cG (by omega) (by omega)]]
 exact EJ h hc hl hp yM (2^33) ps.length t (Nat.le_refl _) (by omega) (dy (fun _ _ h=>h) t _ _ (Nat.le_add_right _ _) ok) hd
theorem yq (h:σ[r]?=some (recC d m c mo)) (hc:kh c bs) (hl:bs.length<100000000) {ps:List Nat} (hp:∀p∈ps,p<bs.length) (yM:ps.length<2^32):
  ∀(mm i:Nat) (t:Tm),i≤ps.length→ps.length - i<mm→∀{t0 t1:Int} {t2:ByteArray} {t3 t4:List (List V)},
   jS (ah C) N mm r (cd ps) i (.int .i64 t.kind) (.int .i64 t.num) (.str t.name) (.slice 3 120 (t.bK.map Lv.enc)) (.slice 5 53 t.args) t0 t1 t2 t3 t4 σ=some (.ret [((eA t ((ps.drop i).map fun p=>.var (bs.length - 1 - p))).val,false)],σ)
 |0,i,t,_,hm=>by omega
 |mm+1,i,t,hi,hm=>by
  rename_i t0 t1 t2 t3 t4
  rw[show jS (ah C) N (mm+1)=pZ (ah C) (jS (ah C) N mm)from rfl]
  unfold pZ bo aE aF ak bF ae bQ cR bp aq
  simp only[my]
  by_cases aG:i<ps.length
  ·have YV:=hp _ (List.getElem_mem aG)
   have e1:∀(K:List Cell→az→Option aQ) KP,aA (ah C) 227 [(.ptr 305 r 0,false),(.int .i64 ps[i],false)] σ 1 K KP=K [((Tm.var (bs.length - 1 - ps[i])).val,false)] σ:=fun K KP=>ab (Ap h hc hl YV)
   have e2:∀(K:List Cell→az→Option aQ) KP,aA (ah C) 228 [(t.val,false),((Tm.var (bs.length - 1 - ps[i])).val,false)] σ 1 K KP=K [((Tm.app t (.var (bs.length - 1 - ps[i]))).val,false)] σ:=fun K KP=>ab (fg _ _ σ)
   have ih:=yq h hc hl hp yM mm (i+1) (.app t (.var (bs.length - 1 - ps[i]))) (by omega) (by omega) (t0:=t0) (t1:=t1) (t2:=t2) (t3:=t3) (t4:=t4)
   simp only[eD aG,cond_true,d0,Bool.and_self,bz,Option.bind_some,Jx aG,List.getD_cons_zero,e1,cK,e2,aL,cV,dJ,dK,dw,dh,aw (show i<2^61 by omega)]
   rw[List.drop_eq_getElem_cons aG,List.map_cons]
   exact ih
  ·rw[cQ aG,cond_false,List.drop_eq_nil_of_le (by omega)]
   rfl
theorem lF (h:σ[r]?=some (recC d m c mo)) (hc:kh c bs) (hl:bs.length<100000000) {ps:List Nat} (hp:∀p∈ps,p<bs.length) (yM:ps.length<2^32) (t:Tm) (q:Bool):
  ah C 221 [(.ptr 305 r 0,false),(t.val,false),(.slice 1 3 (cd ps),q)] σ=some (.ret [((eA t (ps.map fun p=>.var (bs.length - 1 - p))).val,false)],σ):=by
 refine Dg (n:=2^33) ?_
 simp only[vT,aP,iP,dk]
 exact yq h hc hl hp yM (2^33) 0 t (Nat.zero_le _) (by omega)
end
end Go.Ab.Mk
end
section
namespace Go.Ab.Mk
open Go.Proofs Go.Ab Go.Proofs.Mk
def Fb (Q:ByteArray→Nat→Prop) (bs:List Tm):Prop:=∀i (h:i<bs.length),br Q bs[i] i
theorem Fb.add {Q:ByteArray→Nat→Prop} {bs:List Tm} {t:Tm} (h:Fb Q bs) (ht:br Q t bs.length):Fb Q (bs++[t]):=fun i hi=>by
 by_cases aG:i<bs.length
 ·rw[List.getElem_append_left aG];exact h i aG
 ·have:i=bs.length:=by simp only[List.length_append,List.length_singleton]at hi;omega
  subst this
  simp only[List.getElem_concat_length]
  exact ht
theorem Fb.left {Q:ByteArray→Nat→Prop} {bs nw:List Tm} (h:Fb Q (bs++nw)):Fb Q bs:=fun i hi=>by
 have:=h i (by rw[List.length_append];omega)
 rw[List.getElem_append_left hi]at this
 exact this
theorem Fb.sO {Q:ByteArray→Nat→Prop} {bs nw:List Tm} (h:Fb Q (bs++nw)) {t:Tm} (ht:br Q t (bs.length+nw.length)):br Q (Mk.sO nw t) bs.length:=
 Ju nw bs.length (fun i hi=>by
  have:=h (bs.length+i) (by rw[List.length_append];omega)
  rw[List.getElem_append_right (by omega)]at this
  simp only[Nat.add_sub_cancel_left]at this
  exact this) ht
def WB (Q:ByteArray→Nat→Prop) (D:Nat) (σ:az) (r:Nat) (d:Dc) (m:Int) (mo:Nat) (bs:List Tm) (k:Nat) (u:Tm) (a:Nat) (x:Option aQ):Prop:=
 ∃(nw:List Tm) (all:List Nat) (c':Cell),x=some (.ret [(u.val,false),(.slice 1 3 (cd all),false)],σ.set r (recC d m c' mo))∧kh c' (bs++nw)∧nw.length=k∧(∀b∈nw,Sm D b)∧Fb Q (bs++nw)∧all.length=a+k∧(∀p∈all,p<bs.length+k)∧br Q u (a+k)
section
variable {Q:ByteArray→Nat→Prop} {D r mo n:Nat} {d:Dc} {m:Int} {N:Nat}
theorem EK (hD:D<2^40) (hn:n<2^60):∀(mm i:Nat) (t:Tm) (ps:List Nat) (bs:List Tm) (c:Cell) (σ:az),σ[r]?=some (recC d m c mo)→kh c bs→bs.length+(n - i)<100000000→i≤n→n - i<mm→n - i≤cP t→br Q t ps.length→Sm D t→(∀p∈ps,p<bs.length)→ps.length+(n - i)<2^31→Fb Q bs→
    ∀{t0 t1:Int} {t2:ByteArray} {t3 t4:List (List V)},WB Q D σ r d m mo bs (n - i) (eC t (n - i)) ps.length (mZ (ah C) N mm r (.slice 1 3 (cd ps)) n i (.int .i64 t.kind) (.int .i64 t.num) (.str t.name) (.slice 3 120 (t.bK.map Lv.enc)) (.slice 5 53 t.args) t0 t1 t2 t3 t4 σ)
  |0,i,t,ps,bs,c,σ,_,_,_,_,hm,_,_,_,_,_,_=>by omega
  |mm+1,i,t,ps,bs,c,σ,h,hc,hl,hi,hm,hp,ok,sm,iE,yM,hB=>by
   rename_i t0 t1 t2 t3 t4
   rw[show mZ (ah C) N (mm+1)=vS (ah C) (mZ (ah C) N mm)from rfl]
   unfold vS cz bo aE bH bJ bQ ae cj aF aP bA gr bp cq bF
   by_cases aG:i<n
   · obtain⟨A,B,rfl⟩:∃A B,t=.pi A B:=by cases t<;>simp only[cP]at hp<;>first|omega|exact⟨_,_,rfl⟩
     simp only[cP]at hp
     obtain⟨sA,sB⟩:=sm.abq
     have eN:bs.length<100000000:=by omega
     have e1:∀(K:List Cell→az→Option aQ) KP,aA (ah C) 251 [(.ptr 305 r 0,false),(A.val,false),(.slice 1 3 (cd ps),false)] σ 1 K KP=K [((kR bs.length ps ps.length A).val,false)] σ:=fun K KP=>
       ab (Ar h hc eN iE (by omega) ok.1 (by have:=sA.depth;omega) false)
     have e2:∀(K:List Cell→az→Option aQ) KP,aA (ah C) 252 [(.slice 1 3 (cd ps),false),(.int .i64 bs.length,false)] σ 1 K KP=K [(.slice 1 3 (cd (ps++[bs.length])),true)] σ:=fun K KP=>ab (LQ ps bs.length (by omega) σ)
     have e3:∀(K:List Cell→az→Option aQ) KP,aA (ah C) 223 [(.ptr 305 r 0,false),((kR bs.length ps ps.length A).val,false)] σ 0 K KP=K [] (σ.set r (recC d m (.row 5 53 ((bs++[kR bs.length ps ps.length A]).map Tm.enc),true) mo)):=fun K KP=>bm (ur h hc eN _)
     have okA:br Q (kR bs.length ps ps.length A) bs.length:=Jt iE ps.length A (Nat.le_refl _) (dy (fun _ _ h=>h) A _ _ (Nat.le_add_right _ _) ok.1)
     have smA:Sm D (kR bs.length ps ps.length A):=Js _ _ sA
     have l1:(bs++[kR bs.length ps ps.length A]).length=bs.length+1:=by simp
     have l2:(ps++[bs.length]).length=ps.length+1:=by simp
     obtain⟨nw,all,c',k1,k2,k3,k4,k5,k6,k7,k8⟩:=EK hD hn mm (i+1) B (ps++[bs.length]) (bs++[kR bs.length ps ps.length A]) _ (σ.set r (recC d m (.row 5 53 ((bs++[kR bs.length ps ps.length A]).map Tm.enc),true) mo)) (aS h) (.mk _) (by omega) (by omega) (by omega) (by omega) (by rw[l2];exact ok.2) sB
       (fun p hp=>by rw[l1];rcases List.mem_append.1 hp with hp|hp
                     · have:=iE p hp;omega
                     · rw[List.mem_singleton]at hp;omega) (by omega) (hB.add okA) (t0:=t0) (t1:=t1) (t2:=t2) (t3:=t3) (t4:=t4)
     have hni:n - i=n - (i+1)+1:=by omega
     refine⟨kR bs.length ps ps.length A::nw,all,c',?_,?_,by rw[List.length_cons];omega,?_,?_,by omega,fun p hp=>by have:=k7 p hp;omega,?_⟩
     · simp only[eD aG,cond_true,kY,BH,nE,uD,rr,bz,oG,nF,bf,Option.bind_some,e1,List.getD_cons_zero,aL,WA h,hc.len,e2,cY,e3,aw (show i<2^61 by omega)]
       simp only[gf,gI,jz,jA,jC]
       refine k1.trans ?_
       rw[List.set_set,hni]
       rfl
     · rw[List.append_cons];exact k2
     · intro b hb
       rcases List.mem_cons.1 hb with rfl|hb
       · exact smA
       · exact k4 b hb
     · rw[List.append_cons];exact k5
     · rw[hni]
       show br Q (eC B (n - (i+1))) _
       rw[l2]at k8
       rw[show ps.length+(n - (i+1)+1)=ps.length+1+(n - (i+1)) by omega]
       exact k8
   · have h0:n - i=0:=by omega
     refine⟨[],ps,c,?_,by rw[List.append_nil];exact hc,by rw[h0];rfl,by simp,by rw[List.append_nil];exact hB,by omega,fun p hp=>by have:=iE p hp;omega,?_⟩
     · rw[cQ aG,cond_false,h0,kP,dD h]
       rfl
     · rw[h0,kP];exact ok
theorem pq (hD:D<2^40) {t:Tm} {ps:List Nat} {bs:List Tm} {c:Cell} {σ:az} (h:σ[r]?=some (recC d m c mo)) (hc:kh c bs) (hl:bs.length+n<100000000) (hp:n≤cP t) (ok:br Q t ps.length) (sm:Sm D t) (iE:∀p∈ps,p<bs.length) (yM:ps.length+n<2^31) (hB:Fb Q bs) (q:Bool):
  WB Q D σ r d m mo bs n (eC t n) ps.length (ah C 220 [(.ptr 305 r 0,false),(t.val,false),(.slice 1 3 (cd ps),q),(.int .i64 n,false)] σ):=by
 obtain⟨nw,all,c',k1,k2⟩:=EK (N:=2^33) hD (show n<2^60 by omega) (2^33) 0 t ps bs c σ h hc (by omega) (Nat.zero_le _) (by omega) (by omega) ok sm iE (by omega) hB (t0:=0) (t1:=0) (t2:=ByteArray.mk #[]) (t3:=[]) (t4:=[])
 exact⟨nw,all,c',IE (n:=2^33) (by simp only[Df,aP,iP,dk];exact k1),k2⟩
def lG (Q:ByteArray→Nat→Prop) (D:Nat) (σ:az) (r:Nat) (d:Dc) (m:Int) (mo:Nat) (bs:List Tm) (x:Option aQ):Prop:=
 ∃(u:Tm) (c':Cell),x=some (.ret [(u.val,false)],σ.set r (recC d m c' mo))∧kh c' bs∧br Q u bs.length∧Sm D u
theorem As {D:Nat} {f:Tm}:∀(L:List Tm) {k:Nat},Sm (D+k) f→(∀a∈L,Sm D a)→Sm (D+k+L.length) (eA f L)
 |[],k,h,_=>h
 |a::L,k,h,hL=>by
  have h1:=(h.app ((hL a (List.mem_cons_self ..)).mono (Nat.le_add_right D k)))
  have h2:Sm (D+(k+1)) (.app f a):=by rw[←Nat.add_assoc];exact h1
  have:=As (f:=.app f a) L h2 fun x hx=>hL x (List.mem_cons_of_mem _ hx)
  rw[List.length_cons]
  rw[show D+k+(L.length+1)=D+(k+1)+L.length by omega]
  exact this
theorem yr {D:Nat} {f:Nat→Nat} {ps:List Nat}:∀a∈ps.map (fun p=>Tm.var (f p)),Sm D a:=fun a ha=>by
 obtain⟨p,_,rfl⟩:=List.mem_map.1 ha
 exact Sm.var
theorem yt {L:Nat} {ps:List Nat} (h:∀p∈ps,p<L):∀a∈ps.map (fun p=>Tm.var (L - 1 - p)),br Q a L:=fun a ha=>by
 obtain⟨p,hp,rfl⟩:=List.mem_map.1 ha
 have:=h p hp
 simp only[br];omega
theorem sP (hD:D<2^40) {sp:List Tm} {all:List Nat} {bs:List Tm} {nw:List Tm} {c:Cell} {σ:az} (h:σ[r]?=some (recC d m c mo)) (hc:kh c (bs++nw)) (hl:(bs++nw).length<100000000) (jP:∀a∈sp,br Q a all.length∧Sm D a) (abu:sp.length<2^40) (iE:∀p∈all,p<(bs++nw).length) (yM:all.length<2^31)
  (hB:Fb Q (bs++nw)) {at_:Nat} (CJ:at_<(bs++nw).length) {ps:List Nat} (hpa:ps.length≤all.length) {t0 t1:Int} {t2:ByteArray} {t3 t4:List (List V)} {X:Nat} (Y5:∀b∈nw,Sm (D+X) b) (hX:D+(sp.length+all.length+2)≤D+X):
  ∀(mm i:Nat) (f:Tm) (k:Nat),sp.length - i<mm→i<2^40→br Q f (bs++nw).length→Sm (D+k) f→k+(sp.length - i)≤sp.length→
   lG Q (D+X+nw.length) σ r d m mo bs (rZ (ah C) N mm r (cd ps) at_ bs.length (.slice 1 3 (cd all)) (.slice 5 53 (sp.map Tm.enc)) (.int .i64 i) t0 t1 t2 t3 t4 (.int .i64 f.kind) (.int .i64 f.num) (.str f.name) (.slice 3 120 (f.bK.map Lv.enc)) (.slice 5 53 f.args) σ)
 |0,i,f,k,hm,_,_,_,_=>by omega
 |mm+1,i,f,k,hm,hi,ok,sm,hk=>by
  rw[show rZ (ah C) N (mm+1)=Dr (ah C) (rZ (ah C) N mm)from rfl]
  unfold Dr cz bb bo aE bH bJ aF bF ae bQ cR aP bp dS bA aq
  simp only[BH,fT,Option.bind_some,List.length_map]
  by_cases aG:i<sp.length
  ·obtain⟨o1,s1⟩:=jP _ (List.getElem_mem aG)
   have e1:∀(K:List Cell→az→Option aQ) KP,aA (ah C) 251 [(.ptr 305 r 0,false),(sp[i].val,false),(.slice 1 3 (cd all),false)] σ 1 K KP=K [((kR (bs++nw).length all all.length sp[i]).val,false)] σ:=fun K KP=>
    ab (Ar h hc hl iE (by omega) o1 (by have:=s1.depth;omega) false)
   have e2:∀(K:List Cell→az→Option aQ) KP,aA (ah C) 228 [(f.val,false),((kR (bs++nw).length all all.length sp[i]).val,false)] σ 1 K KP=K [((Tm.app f (kR (bs++nw).length all all.length sp[i])).val,false)] σ:=fun K KP=>ab (fg _ _ σ)
   have okA:br Q (kR (bs++nw).length all all.length sp[i]) (bs++nw).length:=Jt iE all.length _ (Nat.le_refl _) (dy (fun _ _ h=>h) _ _ _ (Nat.le_add_right _ _) o1)
   have smA:Sm D (kR (bs++nw).length all all.length sp[i]):=Js _ _ s1
   have ih:=sP hD h hc hl jP abu iE yM hB CJ hpa (t0:=t0) (t1:=t1) (t2:=t2) (t3:=t3) (t4:=t4) Y5 hX mm (i+1) (.app f (kR (bs++nw).length all all.length sp[i])) (k+1) (by omega) (by omega) ⟨ok,okA⟩ (sm.app (smA.mono (Nat.le_add_right D k))) (by omega)
   simp only[eD aG,cond_true,d0,Bool.and_self,bz,Option.bind_some,dB aG,bf,e1,List.getD_cons_zero,cK,e2,aL,cV,dJ,dK,dw,dh,aw (show i<2^61 by omega)]
   exact ih
  ·have hd:((cd all).take (Int.toNat ((all.length:Nat):Int))).drop (Int.toNat ((ps.length:Nat):Int))=cd (all.drop ps.length):=by
    rw[Int.toNat_natCast,Int.toNat_natCast,List.take_of_length_le (by rw[my];exact Nat.le_refl _)]
    simp[cd]
   have Rj:decide (((ps.length:Nat):Int)≤((all.length:Nat):Int))=true:=by simp;omega
   have abv:decide (((all.length:Nat):Int)≤((all.length:Nat):Int))=true:=by simp
   have LZ:∀p∈all.drop ps.length,p<(bs++nw).length:=fun p hp=>iE p (List.mem_of_mem_drop hp)
   have e1:∀(K:List Cell→az→Option aQ) KP,aA (ah C) 227 [(.ptr 305 r 0,false),(.int .i64 at_,false)] σ 1 K KP=K [((Tm.var ((bs++nw).length - 1 - at_)).val,false)] σ:=fun K KP=>ab (Ap h hc hl CJ)
   let g:Tm:=eA (.var ((bs++nw).length - 1 - at_)) ((all.drop ps.length).map fun p=>.var ((bs++nw).length - 1 - p))
   have e2:∀(K:List Cell→az→Option aQ) KP,aA (ah C) 221 [(.ptr 305 r 0,false),((Tm.var ((bs++nw).length - 1 - at_)).val,false),(.slice 1 3 (cd (all.drop ps.length)),false)] σ 1 K KP=K [(g.val,false)] σ:=fun K KP=>
    ab (lF h hc hl LZ (by rw[List.length_drop];omega) _ false)
   have e3:∀(K:List Cell→az→Option aQ) KP,aA (ah C) 228 [(f.val,false),(g.val,false)] σ 1 K KP=K [((Tm.app f g).val,false)] σ:=fun K KP=>ab (fg _ _ σ)
   have e4:∀(K:List Cell→az→Option aQ) KP,aA (ah C) 224 [(.ptr 305 r 0,false),((Tm.app f g).val,false),(.int .i64 bs.length,false)] σ 1 K KP=K [((sO nw (.app f g)).val,false)] (σ.set r (recC d m (.row 5 53 (bs.map Tm.enc),true) mo)):=fun K KP=>by
    have:=qz h hc hl (.app f g) (n:=bs.length) (by rw[List.length_append];omega)
    rw[List.drop_left,List.take_left]at this
    exact ab this
   have okg:br Q g (bs++nw).length:=jX _ _ (by simp only[br];omega) (yt LZ)
   have smg:Sm (D+(all.length+1)) g:=(As (D:=D) (f:=.var ((bs++nw).length - 1 - at_)) (k:=0) ((all.drop ps.length).map fun p=>Tm.var ((bs++nw).length - 1 - p)) Sm.var yr).mono (by simp;omega)
   simp only[cQ aG,cond_false,show V.asSlice (.slice 1 3 (cd all)) 1 3=some (cd all) by simp[V.asSlice],Option.bind_some,hd,my,d0,Rj,abv,Bool.and_self,bz,cond_true,e1,List.getD_cons_zero,e2,cK]
   simp only[e3,List.getD_cons_zero,aL,bz,cond_true,Option.bind_some,cY,e4]
   refine⟨_,_,rfl,.mk bs,?_,?_⟩
   ·refine hB.sO ?_
    rw[←List.length_append]
    exact⟨ok,okg⟩
   ·refine(uq (D:=D+X) ?_ nw Y5)
    exact((sm.mono (show D+k≤D+(sp.length+all.length+1) by omega)).app (smg.mono (by omega))).mono (by omega)
end
end Go.Ab.Mk
end
section
namespace Go.Ab.Mk
open Go.Proofs Go.Ab Go.Proofs.Mk
theorem lG.after {Q:ByteArray→Nat→Prop} {D:Nat} {σ:az} {r:Nat} {d:Dc} {m:Int} {mo:Nat} {bs:List Tm} {x:Option aQ} {y:List Cell} (h:lG Q D (σ.set r y) r d m mo bs x):lG Q D σ r d m mo bs x:=by
 obtain⟨u,c',h1,h2⟩:=h
 exact⟨u,c',by rw[h1,List.set_set],h2⟩
theorem lG.mono {Q:ByteArray→Nat→Prop} {D D':Nat} {σ:az} {r:Nat} {d:Dc} {m:Int} {mo:Nat} {bs:List Tm} {x:Option aQ} (h:lG Q D σ r d m mo bs x) (hD:D≤D'):lG Q D' σ r d m mo bs x:=by
 obtain⟨u,c',h1,h2,h3,h4⟩:=h
 exact⟨u,c',h1,h2,h3,h4.mono hD⟩
section
variable {Q:ByteArray→Nat→Prop} {r mo:Nat} {d:Dc} {m:Int} {N:Nat}
theorem FT {D:Nat} (hD:D≤2^20) {a:Tm} {ps:List Nat} {bs:List Tm} {c:Cell} {σ:az} (h:σ[r]?=some (recC d m c mo)) (hc:kh c bs) (hl:bs.length<50000000) (ok:br Q a ps.length) (sm:Sm D a) (iE:∀p∈ps,p<bs.length) (yM:ps.length≤2^21) (hB:Fb Q bs)
  {at_:Nat} (CJ:at_<bs.length) (Z9:mo<bs.length) (xp:d.arity<2^40) (q:Bool):lG Q (2^23) σ r d m mo bs (ah C 255 [(.ptr 305 r 0,false),(a.val,false),(.slice 1 3 (cd ps),q),(.int .i64 at_,false)] σ):=by
 have hn:=eW a
 have hnD:=sm.depth
 obtain⟨nw,all,c',k1,k2,k3,k4,k5,k6,k7,k8⟩:=pq (n:=cP a) (by omega) h hc (by omega) (Nat.le_refl _) ok sm iE (by omega) hB false
 suffices hs:lG Q (2^23) σ r d m mo bs (IM (ah C) (2^41) r a.kind a.num a.name (a.bK.map Lv.enc) a.args (cd ps) at_ σ) by
  obtain⟨u,c1,h1,h2⟩:=hs
  exact⟨u,c1,NW (n:=2^41) h1,h2⟩
 have Au:(σ.set r (recC d m c' mo))[r]?=some (recC d m c' mo):=aS h
 have lnw:(bs++nw).length=bs.length+cP a:=by rw[List.length_append,k3]
 have e1:∀(K:List Cell→az→Option aQ) KP,aA (ah C) 171 [(a.val,false)] σ 1 K KP=K [(.int .i64 (cP a:Nat),false)] σ:=fun K KP=>ab (j5 a (by omega) _)
 have e2:∀(K:List Cell→az→Option aQ) KP,aA (ah C) 220 [(.ptr 305 r 0,false),(a.val,false),(.slice 1 3 (cd ps),false),(.int .i64 (cP a:Nat),false)] σ 2 K KP=K [((eC a (cP a)).val,false),(.slice 1 3 (cd all),false)] (σ.set r (recC d m c' mo)):=fun K KP=>aW k1
 obtain⟨MD,QS⟩:=(wK (cP a) a sm).spine
 have e3:∀(K:List Cell→az→Option aQ) KP,aA (ah C) 219 [((eC a (cP a)).val,false)] (σ.set r (recC d m c' mo)) 2 K KP=K [((eC a (cP a)).head.val,false),(.slice 5 53 ((eC a (cP a)).spine.map Tm.enc),false)] (σ.set r (recC d m c' mo)):=fun K KP=>aW (ik _ (by omega) _)
 have e4:∀(K:List Cell→az→Option aQ) KP,aA (ah C) 227 [(.ptr 305 r 0,false),(.int .i64 mo,false)] (σ.set r (recC d m c' mo)) 1 K KP=K [((Tm.var ((bs++nw).length - 1 - mo)).val,false)] (σ.set r (recC d m c' mo)):=fun K KP=>ab (Ap Au k2 (by omega) (by omega))
 simp only[IM,cj,aE,aM,aC,ft,ae,bQ,bA,aF,cR,aH,cK,WA h,hc.len,Option.bind_some,e1,e2,e3,e4,List.getD_cons_zero,List.getD_cons_succ,aL,bz,cond_true,cY,abt Au,Y4 Au,cV,dJ,dK,dw,dh]
 refine lG.after (y:=recC d m c' mo) ?_
 have jP:∀x∈(eC a (cP a)).spine,br Q x all.length∧Sm D x:=fun x hx=>⟨by rw[k6];exact(nu _ _ k8).2 x hx,QS x hx⟩
 have:=sP (N:=2^41) (D:=D) (by omega) Au k2 (by omega) jP (by omega) (fun p hp=>by have:=k7 p hp;omega) (by omega) k5 (at_:=at_) (by omega) (ps:=ps) (by omega) (t0:=0) (t1:=0) (t2:=ByteArray.mk #[]) (t3:=[]) (t4:=[]) (X:=(eC a (cP a)).spine.length+all.length+2)
  (fun b hb=>(k4 b hb).mono (Nat.le_add_right _ _)) (Nat.le_refl _) (2^41) d.arity (.var ((bs++nw).length - 1 - mo)) 0 (by omega) (by omega) (by simp only[br];omega) Sm.var (by omega)
 exact this.mono (by omega)
theorem Bf {D:Nat} (hD:D≤2^20) {ct:ByteArray×Tm} (hQ:Q ct.1 d.aT.length) (JQ:d.aT.length<2^31) {sp:List Tm} {all:List Nat} {bs:List Tm} {nw:List Tm} {c:Cell} {σ:az} (h:σ[r]?=some (recC d m c mo)) (hc:kh c (bs++nw)) (hl:(bs++nw).length<100000000) (jP:∀a∈sp,br Q a all.length∧Sm D a) (abu:sp.length≤2^20) (iE:∀p∈all,p<(bs++nw).length) (yM:all.length≤2^21)
  (hB:Fb Q (bs++nw)) (Y5:∀b∈nw,Sm (2^23) b) (Ky:nw.length≤2^22) {t0 t1:Int} {t2:ByteArray} {t3 t4:List (List V)}:
  ∀(mm i:Nat) (f:Tm) (k:Nat),sp.length - i<mm→i<2^40→br Q f (bs++nw).length→Sm (D+k) f→k+(sp.length - i)≤sp.length→
   lG Q (2^24) σ r d m mo bs (kG (ah C) N mm r bs.length (.slice 1 3 (cd all)) (.slice 5 53 (sp.map Tm.enc)) (.int .i64 i) ct.1 ct.2.kind ct.2.num ct.2.name (ct.2.bK.map Lv.enc) ct.2.args t0 t1 t2 t3 t4 (.int .i64 f.kind) (.int .i64 f.num) (.str f.name) (.slice 3 120 (f.bK.map Lv.enc)) (.slice 5 53 f.args) σ)
 |0,i,f,k,hm,_,_,_,_=>by omega
 |mm+1,i,f,k,hm,hi,ok,sm,hk=>by
  rw[show kG (ah C) N (mm+1)=vU (ah C) (kG (ah C) N mm)from rfl]
  unfold vU cz bb bo aE bH bJ aF bF ae bQ cR aP bp bA aq
  simp only[BH,fT,Option.bind_some,List.length_map]
  by_cases aG:i<sp.length
  ·obtain⟨o1,s1⟩:=jP _ (List.getElem_mem aG)
   have e1:∀(K:List Cell→az→Option aQ) KP,aA (ah C) 251 [(.ptr 305 r 0,false),(sp[i].val,false),(.slice 1 3 (cd all),false)] σ 1 K KP=K [((kR (bs++nw).length all all.length sp[i]).val,false)] σ:=fun K KP=>
    ab (Ar h hc hl iE (by omega) o1 (by have:=s1.depth;omega) false)
   have e2:∀(K:List Cell→az→Option aQ) KP,aA (ah C) 228 [(f.val,false),((kR (bs++nw).length all all.length sp[i]).val,false)] σ 1 K KP=K [((Tm.app f (kR (bs++nw).length all all.length sp[i])).val,false)] σ:=fun K KP=>ab (fg _ _ σ)
   have okA:br Q (kR (bs++nw).length all all.length sp[i]) (bs++nw).length:=Jt iE all.length _ (Nat.le_refl _) (dy (fun _ _ h=>h) _ _ _ (Nat.le_add_right _ _) o1)
   have smA:Sm D (kR (bs++nw).length all all.length sp[i]):=Js _ _ s1
   have ih:=Bf hD hQ JQ h hc hl jP abu iE yM hB Y5 Ky (t0:=t0) (t1:=t1) (t2:=t2) (t3:=t3) (t4:=t4) mm (i+1) (.app f (kR (bs++nw).length all all.length sp[i])) (k+1) (by omega) (by omega) ⟨ok,okA⟩ (sm.app (smA.mono (Nat.le_add_right D k))) (by omega)
   simp only[eD aG,cond_true,d0,Bool.and_self,bz,Option.bind_some,dB aG,bf,e1,List.getD_cons_zero,cK,e2,aL,cV,dJ,dK,dw,dh,aw (show i<2^61 by omega)]
   exact ih
  ·let k0:Tm:=.const ct.1 (d.aT.map Lv.param)
   let g:Tm:=eA k0 (all.map fun p=>.var ((bs++nw).length - 1 - p))
   have e1:∀(K:List Cell→az→Option aQ) KP,aA (ah C) 222 [(.ptr 305 r 0,false),(.str ct.1,false)] σ 1 K KP=K [(k0.val,false)] σ:=fun K KP=>ab (Aq h (by omega) ct.1)
   have e2:∀(K:List Cell→az→Option aQ) KP,aA (ah C) 221 [(.ptr 305 r 0,false),(k0.val,false),(.slice 1 3 (cd all),false)] σ 1 K KP=K [(g.val,false)] σ:=fun K KP=>
    ab (lF h hc hl iE (by omega) _ false)
   have e3:∀(K:List Cell→az→Option aQ) KP,aA (ah C) 228 [(f.val,false),(g.val,false)] σ 1 K KP=K [((Tm.app f g).val,false)] σ:=fun K KP=>ab (fg _ _ σ)
   have e4:∀(K:List Cell→az→Option aQ) KP,aA (ah C) 224 [(.ptr 305 r 0,false),((Tm.app f g).val,false),(.int .i64 bs.length,false)] σ 1 K KP=K [((sO nw (.app f g)).val,false)] (σ.set r (recC d m (.row 5 53 (bs.map Tm.enc),true) mo)):=fun K KP=>by
    have:=qz h hc hl (.app f g) (n:=bs.length) (by rw[List.length_append];omega)
    rw[List.drop_left,List.take_left]at this
    exact ab this
   have okk:br Q k0 (bs++nw).length:=by simp only[k0,br,List.length_map];exact hQ
   have smk:Sm (0+0) k0:=⟨by simp only[k0,Tm.wide,List.length_map];exact JQ,by simp[k0,Tm.depth]⟩
   have okg:br Q g (bs++nw).length:=jX _ _ okk (yt iE)
   have smg:Sm (2^21) g:=(As (D:=0) (f:=k0) (k:=0) (all.map fun p=>Tm.var ((bs++nw).length - 1 - p)) smk yr).mono (by simp;omega)
   simp only[cQ aG,cond_false,Option.bind_some,e1,List.getD_cons_zero,e2,cK]
   simp only[e3,List.getD_cons_zero,aL,bz,cond_true,Option.bind_some,cY,e4]
   refine⟨_,_,rfl,.mk bs,?_,?_⟩
   ·refine hB.sO ?_
    rw[←List.length_append]
    exact⟨ok,okg⟩
   ·refine(uq (D:=2^23) ?_ nw Y5).mono (by omega)
    exact((sm.mono (show D+k≤2^22 by omega)).app (smg.mono (by omega))).mono (by omega)
theorem sQ {D:Nat} (hD:D≤2^20) {ct:ByteArray×Tm} (hQ:Q ct.1 d.aT.length) (JQ:d.aT.length<2^31) (xp:d.arity≤2^20) {n:Nat} (hn:n≤2^20) {all:List Nat} (PI:all.length=d.arity+n) {u:Tm} (ou:br Q u all.length) (su:Sm D u) {bs:List Tm} (eN:bs.length<40000000) (iE:∀p∈all,p<bs.length+n) (hN:2^41≤N) (Z9:mo<bs.length) {t0 t1:Int} {t2:ByteArray} {t3 t4:List (List V)}:
  ∀(mm j:Nat) (t:Tm) (nw:List Tm) (c:Cell) (σ:az),σ[r]?=some (recC d m c mo)→kh c (bs++nw)→n≤nw.length→nw.length≤n+j→j≤n→n - j<mm→n - j≤cP t→br Q t (d.arity+j)→Sm D t→Fb Q (bs++nw)→(∀b∈nw,Sm (2^23) b)→
   lG Q (2^24) σ r d m mo bs (kH (ah C) N mm r bs.length (.int .i64 n) (.slice 1 3 (cd all)) j ct.1 ct.2.kind ct.2.num ct.2.name (ct.2.bK.map Lv.enc) ct.2.args t0 t1 t2 t3 t4 (.int .i64 t.kind) (.int .i64 t.num) (.str t.name) (.slice 3 120 (t.bK.map Lv.enc)) (.slice 5 53 t.args) (.int .i64 u.kind) (.int .i64 u.num) (.str u.name) (.slice 3 120 (u.bK.map Lv.enc)) (.slice 5 53 u.args) σ)
 |0,j,t,nw,c,σ,_,_,_,_,_,hm,_,_,_,_,_=>by omega
 |mm+1,j,t,nw,c,σ,h,hc,tC,FQ,hj,hm,hp,ok,sm,hB,Y5=>by
  rw[show kH (ah C) N (mm+1)=vV (ah C) (kG (ah C) N N) (kH (ah C) N mm)from rfl]
  unfold vV bb cz bo cj aE aF bJ cB ae dS ft ak gr bp aM bF bQ cR aH
  simp only[fT,Option.bind_some]
  have ll:(bs++nw).length=bs.length+nw.length:=List.length_append
  by_cases aG:j<n
  ·obtain⟨A,B,rfl⟩:∃A B,t=.pi A B:=by cases t<;>simp only[cP]at hp<;>first|omega|exact⟨_,_,rfl⟩
   simp only[cP]at hp
   obtain⟨sA,sB⟩:=sm.abq
   have e1:∀(K:List Cell→az→Option aQ) KP,aA (ah C) 250 [(A.val,false),(.str d.name,false)] σ 1 K KP=K [(.bool (lV (Eu d.name) A 0),false)] σ:=fun K KP=>ab (sK σ A 0)
   have hw:IntKind.wrap .i64 ((d.arity:Int)+(j:Int))=((d.arity+j:Nat):Int):=wrap_add (by omega)
   have FM:d.arity+j<all.length:=by omega
   have hle:decide (((d.arity+j:Nat):Int)≤((all.length:Nat):Int))=true:=by simp;omega
   have Zp:((cd all).take (Int.toNat ((d.arity+j:Nat):Int))).drop (Int.toNat (0:Int))=cd (all.take (d.arity+j)):=by
    rw[Int.toNat_natCast,show Int.toNat (0:Int)=0 from rfl,List.drop_zero]
    simp[cd,List.map_take]
   have CJ:all[d.arity+j]<(bs++nw).length:=by have:=iE _ (List.getElem_mem FM);omega
   have htl:(all.take (d.arity+j)).length=d.arity+j:=by rw[List.length_take];omega
   obtain⟨v,c1,k1,k2,k3,k4⟩:=FT (Q:=Q) hD (a:=A) (ps:=all.take (d.arity+j)) h hc (by omega) (by rw[htl];exact ok.1) sA (fun p hp=>by have:=iE p (List.mem_of_mem_take hp);omega) (by rw[htl];omega) hB CJ (by omega) (by omega) false
   have e2:∀(K:List Cell→az→Option aQ) KP,aA (ah C) 255 [(.ptr 305 r 0,false),(A.val,false),(.slice 1 3 (cd (all.take (d.arity+j))),false),(.int .i64 all[d.arity+j],false)] σ 1 K KP=K [(v.val,false)] (σ.set r (recC d m c1 mo)):=fun K KP=>ab k1
   have h1:(σ.set r (recC d m c1 mo))[r]?=some (recC d m c1 mo):=aS h
   have e3:∀(K:List Cell→az→Option aQ) KP,aA (ah C) 223 [(.ptr 305 r 0,false),(v.val,false)] (σ.set r (recC d m c1 mo)) 0 K KP=K [] (σ.set r (recC d m (.row 5 53 ((bs++(nw++[v])).map Tm.enc),true) mo)):=fun K KP=>by
    have:=ur h1 k2 (by omega) v
    rw[List.set_set,List.append_assoc]at this
    exact bm this
   have Xx:=fun c' eM (h':eM[r]?=some (recC d m c' mo)) tb=>sQ hD hQ JQ xp hn PI ou su eN iE hN Z9 (t0:=t0) (t1:=t1) (t2:=t2) (t3:=t3) (t4:=t4) mm (j+1) B (nw++[v]) c' eM h' tb (by rw[List.length_append];omega) (by rw[List.length_append,List.length_singleton];omega) (by omega) (by omega) (by omega) ok.2 sB
    (by rw[←List.append_assoc];exact hB.add k3) (fun b hb=>by
     rcases List.mem_append.1 hb with hb|hb
     ·exact Y5 b hb
     ·rw[List.mem_singleton]at hb;subst hb;exact k4)
   have Xy:=sQ hD hQ JQ xp hn PI ou su eN iE hN Z9 (t0:=t0) (t1:=t1) (t2:=t2) (t3:=t3) (t4:=t4) mm (j+1) B nw c σ h hc tC (by omega) (by omega) (by omega) (by omega) ok.2 sB hB Y5
   simp only[eD aG,cond_true,kY,BH,nE,uD,rr,bz,oG,nF,bf,Option.bind_some,rc1 h,e1,List.getD_cons_zero,iD]
   cases lV (Eu d.name) A 0 with
   |true=>
    simp only[cond_true,Y4 h,fT,Option.bind_some,show V.asSlice (.slice 1 3 (cd all)) 1 3=some (cd all) by simp[V.asSlice],hw,show decide ((0:Int)≤0)=true from rfl,d0,hle,my,Bool.and_self,eD FM,Zp,Jx FM,List.getD_cons_zero,e2,e3,aw (show j<2^61 by omega)]
    simp only[gf,gI,jz,jA,jC]
    exact lG.after (Xx _ _ (aS h) (.mk _))
   |false=>
    simp only[cond_false,cond_true,Option.bind_some,aw (show j<2^61 by omega)]
    simp only[gf,gI,jz,jA,jC]
    exact Xy
  ·obtain⟨MD,QS⟩:=su.spine
   have e3:∀(K:List Cell→az→Option aQ) KP,aA (ah C) 219 [(u.val,false)] σ 2 K KP=K [(u.head.val,false),(.slice 5 53 (u.spine.map Tm.enc),false)] σ:=fun K KP=>aW (ik _ (by omega) _)
   have e4:∀(K:List Cell→az→Option aQ) KP,aA (ah C) 227 [(.ptr 305 r 0,false),(.int .i64 mo,false)] σ 1 K KP=K [((Tm.var ((bs++nw).length - 1 - mo)).val,false)] σ:=fun K KP=>ab (Ap h hc (by omega) (by omega))
   simp only[cQ aG,cond_false,cK,e3,List.getD_cons_zero,List.getD_cons_succ,aL,bz,cond_true,Option.bind_some,abt h,e4,Y4 h,cV,dJ,dK,dw,dh]
   exact Bf hD hQ JQ h hc (by omega) (fun x hx=>⟨(nu _ _ ou).2 x hx,QS x hx⟩) (by omega) (fun p hp=>by have:=iE p hp;omega) (by omega) hB Y5 (by omega) N d.arity (.var ((bs++nw).length - 1 - mo)) 0 (by omega) (by omega) (by simp only[br];omega) Sm.var (by omega)
end
end Go.Ab.Mk
end
section
namespace Go.Ab.Mk
open Go.Proofs Go.Ab Go.Proofs.Mk
section
variable {Q:ByteArray→Nat→Prop} {r mo:Nat} {d:Dc} {m:Int} {N:Nat}
theorem L0 (i:Nat):cd (List.range i)++[[V.int .i64 (i:Int)]]=cd (List.range (i+1)):=by simp[cd,List.range_succ]
theorem Bg {D:Nat} (hD:D≤2^20) {ct:ByteArray×Tm} (hQ:Q ct.1 d.aT.length) (JQ:d.aT.length<2^31) (oc:br Q ct.2 0) (sc:Sm D ct.2) (xp:d.arity≤cP ct.2) {bs:List Tm} (eN:bs.length<40000000) (Y6:d.arity≤bs.length) (hN:2^41≤N) (Z9:mo<bs.length) {c:Cell} {σ:az} (h:σ[r]?=some (recC d m c mo)) (hc:kh c bs) (hB:Fb Q bs) (Jp:ct.2.parts<2^59)
  {t0 t1:Int} {t2:ByteArray} {t3 t4:List (List V)}:∀(mm i:Nat),i≤d.arity→d.arity - i<mm→
   lG Q (2^24) σ r d m mo bs (nd (ah C) N mm r bs.length (cd (List.range i)) i ct.1 ct.2.kind ct.2.num ct.2.name (ct.2.bK.map Lv.enc) ct.2.args t0 t1 t2 t3 t4 σ)
 |0,i,_,hm=>by omega
 |mm+1,i,hi,hm=>by
  rw[show nd (ah C) N (mm+1)=vW (ah C) (kH (ah C) N N) (nd (ah C) N mm)from rfl]
  unfold vW cj bb iz aP bp aE aF aC bQ ae aM bA ft cR aH
  have hnd:=eW ct.2
  have hcd:=sc.depth
  simp only[Y4 h,fT,Option.bind_some]
  by_cases aG:i<d.arity
  ·have cC:room ((cd (List.range i)).length+1)=true:=cF (by rw[my,List.length_range];omega)
   have ih:=Bg hD hQ JQ oc sc xp eN Y6 hN Z9 h hc hB Jp (t0:=t0) (t1:=t1) (t2:=t2) (t3:=t3) (t4:=t4) mm (i+1) (by omega) (by omega)
   simp only[eD aG,cond_true,cC,bz,Option.bind_some,L0,aw (show i<2^61 by omega)]
   exact ih
  ·obtain rfl:i=d.arity:=by omega
   have hn:=Jv d.arity ct.2 xp
   have st:=wK (D:=D) d.arity ct.2 sc
   have ot:=Ww d.arity ct.2 0 xp oc
   rw[Nat.zero_add]at ot
   have lr:(List.range d.arity).length=d.arity:=List.length_range
   obtain⟨nw,all,c',k1,k2,k3,k4,k5,k6,k7,k8⟩:=pq (Q:=Q) (D:=D) (n:=cP ct.2 - d.arity) (t:=eC ct.2 d.arity) (ps:=List.range d.arity) (by omega) h hc (by omega) (by omega) (by rw[lr];exact ot) st (fun p hp=>by rw[List.mem_range]at hp;omega) (by omega) hB false
   rw[lr]at k6 k8
   have aeH:=st.depth
   have e1:∀(K:List Cell→az→Option aQ) KP,aA (ah C) 172 [(ct.2.val,false),(.int .i64 d.arity,false)] σ 1 K KP=K [((eC ct.2 d.arity).val,false)] σ:=fun K KP=>ab (B9 ct.2 _ xp Jp σ)
   have e2:∀(K:List Cell→az→Option aQ) KP,aA (ah C) 171 [((eC ct.2 d.arity).val,false)] σ 1 K KP=K [(.int .i64 (cP ct.2 - d.arity:Nat),false)] σ:=fun K KP=>by
    have:=j5 (eC ct.2 d.arity) (by omega) σ
    rw[hn]at this
    exact ab this
   have e3:∀(K:List Cell→az→Option aQ) KP,aA (ah C) 220 [(.ptr 305 r 0,false),((eC ct.2 d.arity).val,false),(.slice 1 3 (cd (List.range d.arity)),false),(.int .i64 (cP ct.2 - d.arity:Nat),false)] σ 2 K KP=K [((eC (eC ct.2 d.arity) (cP ct.2 - d.arity)).val,false),(.slice 1 3 (cd all),false)] (σ.set r (recC d m c' mo)):=fun K KP=>aW k1
   simp only[cQ aG,cond_false,cK,e1,List.getD_cons_zero,List.getD_cons_succ,aL,bz,cond_true,Option.bind_some,cY,e2,e3,cV,dJ,dK,dw,dh]
   refine lG.after (y:=recC d m c' mo) ?_
   exact sQ hD hQ JQ (by omega) (n:=cP ct.2 - d.arity) (by omega) k6 (u:=eC (eC ct.2 d.arity) (cP ct.2 - d.arity)) (by rw[k6];exact k8) (wK _ _ st) eN k7 hN Z9 N 0 (eC ct.2 d.arity) nw c' _ (aS h) k2 (by omega) (by omega) (Nat.zero_le _) (by omega) (by omega) (by rw[Nat.add_zero];exact ot) st k5 (fun b hb=>(k4 b hb).mono (by omega))
theorem SH {D:Nat} (hD:D≤2^20) {ct:ByteArray×Tm} (hQ:Q ct.1 d.aT.length) (JQ:d.aT.length<2^31) (oc:br Q ct.2 0) (sc:Sm D ct.2) (xp:d.arity≤cP ct.2) {bs:List Tm} (eN:bs.length<40000000) (Y6:d.arity≤bs.length) (Z9:mo<bs.length) {c:Cell} {σ:az} (h:σ[r]?=some (recC d m c mo)) (hc:kh c bs) (hB:Fb Q bs) (Jp:ct.2.parts<2^59):
  lG Q (2^24) σ r d m mo bs (ah C 226 [(.ptr 305 r 0,false),(ctV ct,false)] σ):=by
 suffices hs:lG Q (2^24) σ r d m mo bs (xy (ah C) (2^41) r ct.1 ct.2.kind ct.2.num ct.2.name (ct.2.bK.map Lv.enc) ct.2.args σ) by
  obtain⟨u,c1,h1,h2⟩:=hs
  exact⟨u,c1,IH (n:=2^41) h1,h2⟩
 have hnd:=eW ct.2
 have hcd:=sc.depth
 simp only[xy,cj,WA h,hc.len,Option.bind_some]
 exact Bg hD hQ JQ oc sc xp eN Y6 (Nat.le_refl _) Z9 h hc hB Jp (2^41) 0 (Nat.zero_le _) (by omega)
def SI (Q:ByteArray→Nat→Prop) (σ:az) (d:Dc) (m:Int) (x:Option aQ):Prop:=
 ∃(u:Tm) (c':Cell) (mo':Nat),x=some (.ret [(u.val,false)],σ++[recC d m c' mo'])∧br Q u 0∧Sm (2^25) u
theorem fh {α:Type} (σ:List α) (x y:α):(σ++[x]).set σ.length y=σ++[y]:=by rw[List.set_append_right _ _ (Nat.le_refl _),Nat.sub_self];rfl
theorem fH {α:Type} (σ:List α) (x:α):(σ++[x])[σ.length]?=some x:=by rw[List.getElem?_append_right (Nat.le_refl _),Nat.sub_self];rfl
theorem vh {D mN:Nat} (hD:D≤2^20) (hQ:Q d.name d.aT.length) (JQ:d.aT.length<2^31) (hcs:∀ct∈d.ctors,Q ct.1 d.aT.length∧br Q ct.2 0∧Sm D ct.2∧d.arity≤cP ct.2∧ct.2.parts<2^59) (gE:d.ctors.length≤2^20) (xp:d.arity≤2^20) (hmN:mN≤2^20) {t:Tm} (ot:br Q t d.arity) (st:Sm D t) (VN:mN≤cP t)
  {ps:List Nat} (yM:ps.length=d.arity) (iE:∀p∈ps,p<d.arity) {σ:az} {t0 t1:Int} {t2:ByteArray} {t3 t4:List (List V)}:∀(mm i:Nat) (bs:List Tm) (c:Cell),i≤d.ctors.length→d.ctors.length - i<mm→kh c bs→bs.length=d.arity+1+i→Fb Q bs→(∀b∈bs,Sm (2^24) b)→
   SI Q σ d mN (mY (ah C) N mm mN σ.length (.slice 1 3 (cd ps)) i d.kind d.name d.ch d.type.kind d.type.num d.type.name (d.type.bK.map Lv.enc) d.type.args d.value.kind d.value.num d.value.name (d.value.bK.map Lv.enc) d.value.args d.arity d.aY t0 t1 t2 t3 t4 (.int .i64 t.kind) (.int .i64 t.num) (.str t.name) (.slice 3 120 (t.bK.map Lv.enc)) (.slice 5 53 t.args) (σ++[recC d mN c d.arity]))
 |0,i,_,_,_,hm,_,_,_,_=>by omega
 |mm+1,i,bs,c,hi,hm,hc,hl,hB,hsm=>by
  rw[show mY (ah C) N (mm+1)=vN (ah C) (mY (ah C) N mm)from rfl]
  unfold vN bo aE aF ak bQ ae bA bp ft bF aP bH aH cj cz dS aM aq
  have M1:d.aY.length=d.ctors.length:=by simp[Dc.aY]
  have hr:=fH σ (recC d mN c d.arity)
  rw[M1]
  by_cases aG:i<d.ctors.length
  ·obtain⟨q1,q2,q3,q4,q5⟩:=hcs _ (List.getElem_mem aG)
   obtain⟨u,c1,k1,k2,k3,k4⟩:=SH (mo:=d.arity) hD q1 JQ q2 q3 q4 (bs:=bs) (by omega) (by omega) (by omega) hr hc hB q5
   rw[fh]at k1
   have hg:d.aY.getD (Int.toNat (i:Int)) []=.str (d.ctors[i]).1::(d.ctors[i]).2.enc:=by rw[Int.toNat_natCast];simp[Dc.aY,aG]
   have hgv:V.agg [V.str (d.ctors[i]).1,(d.ctors[i]).2.enc.getD 0 V.any,(d.ctors[i]).2.enc.getD 1 V.any,(d.ctors[i]).2.enc.getD 2 V.any,(d.ctors[i]).2.enc.getD 3 V.any,(d.ctors[i]).2.enc.getD 4 V.any]=ctV d.ctors[i]:=by rw[gf,gI,jz,jA,jC];rfl
   have e1:∀(K:List Cell→az→Option aQ) KP,aA (ah C) 226 [(.ptr 305 σ.length 0,false),(ctV d.ctors[i],false)] (σ++[recC d mN c d.arity]) 1 K KP=K [(u.val,false)] (σ++[recC d mN c1 d.arity]):=fun K KP=>ab k1
   have BN:=fH σ (recC d mN c1 d.arity)
   have e2:∀(K:List Cell→az→Option aQ) KP,aA (ah C) 223 [(.ptr 305 σ.length 0,false),(u.val,false)] (σ++[recC d mN c1 d.arity]) 0 K KP=K [] (σ++[recC d mN (.row 5 53 ((bs++[u]).map Tm.enc),true) d.arity]):=fun K KP=>by
    have:=ur BN k2 (by omega) u
    rw[fh]at this
    exact bm this
   simp only[eD aG,cond_true,d0,Bool.and_self,bz,Option.bind_some,hg,List.getD_cons_zero,List.getD_cons_succ,hgv,e1,aL,cY,e2,aw (show i<2^61 by omega)]
   exact vh hD hQ JQ hcs gE xp hmN ot st VN yM iE mm (i+1) (bs++[u]) _ (by omega) (by omega) (.mk _) (by rw[List.length_append,List.length_singleton];omega) (hB.add k3) (fun b hb=>by
    rcases List.mem_append.1 hb with hb|hb
    ·exact hsm b hb
    ·rw[List.mem_singleton]at hb;subst hb;exact k4)
  ·have eN:bs.length=d.arity+1+d.ctors.length:=by omega
   obtain⟨nw,all,c',k1,k2,k3,k4,k5,k6,k7,k8⟩:=pq (Q:=Q) (D:=D) (n:=mN) (t:=t) (ps:=ps) (by omega) hr hc (by omega) VN (by rw[yM];exact ot) st (fun p hp=>by have:=iE p hp;omega) (by omega) hB false
   rw[fh]at k1
   have BN:=fH σ (recC d mN c' d.arity)
   have ll:(bs++nw).length=bs.length+mN:=by rw[List.length_append,k3]
   let k0:Tm:=.const d.name (d.aT.map Lv.param)
   let g:Tm:=eA k0 (all.map fun p=>.var ((bs++nw).length - 1 - p))
   have LZ:∀p∈all,p<(bs++nw).length:=fun p hp=>by have:=k7 p hp;omega
   have e1:∀(K:List Cell→az→Option aQ) KP,aA (ah C) 220 [(.ptr 305 σ.length 0,false),(t.val,false),(.slice 1 3 (cd ps),false),(.int .i64 mN,false)] (σ++[recC d mN c d.arity]) 2 K KP=K [((eC t mN).val,false),(.slice 1 3 (cd all),false)] (σ++[recC d mN c' d.arity]):=fun K KP=>aW k1
   have e2:∀(K:List Cell→az→Option aQ) KP,aA (ah C) 222 [(.ptr 305 σ.length 0,false),(.str d.name,false)] (σ++[recC d mN c' d.arity]) 1 K KP=K [(k0.val,false)] (σ++[recC d mN c' d.arity]):=fun K KP=>ab (Aq BN (by omega) d.name)
   have e3:∀(K:List Cell→az→Option aQ) KP,aA (ah C) 221 [(.ptr 305 σ.length 0,false),(k0.val,false),(.slice 1 3 (cd all),false)] (σ++[recC d mN c' d.arity]) 1 K KP=K [(g.val,false)] (σ++[recC d mN c' d.arity]):=fun K KP=>ab (lF BN k2 (by omega) LZ (by omega) _ false)
   have e4:∀(K:List Cell→az→Option aQ) KP,aA (ah C) 223 [(.ptr 305 σ.length 0,false),(g.val,false)] (σ++[recC d mN c' d.arity]) 0 K KP=K [] (σ++[recC d mN (.row 5 53 ((bs++nw++[g]).map Tm.enc),true) d.arity]):=fun K KP=>by
    have:=ur BN k2 (by omega) g
    rw[fh]at this
    exact bm this
   have Xg:=fH σ (recC d mN (.row 5 53 ((bs++nw++[g]).map Tm.enc),true) d.arity)
   have pD:=kh.mk (bs++nw++[g])
   have l2:(bs++nw++[g]).length=bs.length+mN+1:=by rw[List.length_append,ll];rfl
   have okk:br Q k0 (bs++nw).length:=by simp only[k0,br,List.length_map];exact hQ
   have smk:Sm (0+0) k0:=⟨by simp only[k0,Tm.wide,List.length_map];exact JQ,by simp[k0,Tm.depth]⟩
   have okg:br Q g (bs++nw).length:=jX _ _ okk (yt LZ)
   have smg:Sm (2^22) g:=(As (D:=0) (f:=k0) (k:=0) (all.map fun p=>Tm.var ((bs++nw).length - 1 - p)) smk yr).mono (by simp;omega)
   have hB2:Fb Q (bs++nw++[g]):=k5.add okg
   let x:Tm:=.var ((bs++nw++[g]).length - 1 - d.arity)
   have acT:∀p∈all.drop d.arity,p<(bs++nw++[g]).length:=fun p hp=>by have:=k7 p (List.mem_of_mem_drop hp);omega
   let y:Tm:=eA x ((all.drop d.arity).map fun p=>.var ((bs++nw++[g]).length - 1 - p))
   have hd:((cd all).take (Int.toNat ((all.length:Nat):Int))).drop (Int.toNat ((d.arity:Nat):Int))=cd (all.drop d.arity):=by
    rw[Int.toNat_natCast,Int.toNat_natCast,List.take_of_length_le (by rw[my];exact Nat.le_refl _)]
    simp[cd]
   have Rj:decide (((d.arity:Nat):Int)≤((all.length:Nat):Int))=true:=by simp;omega
   have abv:decide (((all.length:Nat):Int)≤((all.length:Nat):Int))=true:=by simp
   have e5:∀(K:List Cell→az→Option aQ) KP,aA (ah C) 227 [(.ptr 305 σ.length 0,false),(.int .i64 d.arity,false)] (σ++[recC d mN (.row 5 53 ((bs++nw++[g]).map Tm.enc),true) d.arity]) 1 K KP=K [(x.val,false)] (σ++[recC d mN (.row 5 53 ((bs++nw++[g]).map Tm.enc),true) d.arity]):=fun K KP=>ab (Ap Xg pD (by omega) (by omega))
   have e6:∀(K:List Cell→az→Option aQ) KP,aA (ah C) 221 [(.ptr 305 σ.length 0,false),(x.val,false),(.slice 1 3 (cd (all.drop d.arity)),false)] (σ++[recC d mN (.row 5 53 ((bs++nw++[g]).map Tm.enc),true) d.arity]) 1 K KP=K [(y.val,false)] (σ++[recC d mN (.row 5 53 ((bs++nw++[g]).map Tm.enc),true) d.arity]):=fun K KP=>ab (lF Xg pD (by omega) acT (by rw[List.length_drop];omega) _ false)
   have e7:∀(σ:az) (K:List Cell→az→Option aQ) KP,aA (ah C) 229 [(.int .i64 0,false)] σ 1 K KP=K [((Tm.var 0).val,false)] σ:=fun σ K KP=>ab (yh 0 σ)
   have e8:∀(σ:az) (K:List Cell→az→Option aQ) KP,aA (ah C) 228 [(y.val,false),((Tm.var 0).val,false)] σ 1 K KP=K [((Tm.app y (.var 0)).val,false)] σ:=fun σ K KP=>ab (fg _ _ σ)
   have e9:∀(K:List Cell→az→Option aQ) KP,aA (ah C) 224 [(.ptr 305 σ.length 0,false),((Tm.app y (.var 0)).val,false),(.int .i64 0,false)] (σ++[recC d mN (.row 5 53 ((bs++nw++[g]).map Tm.enc),true) d.arity]) 1 K KP=K [((sO (bs++nw++[g]) (.app y (.var 0))).val,false)] (σ++[recC d mN (.row 5 53 (([]:List Tm).map Tm.enc),true) d.arity]):=fun K KP=>by
    have:=qz Xg pD (by omega) (.app y (.var 0)) (n:=0) (Nat.zero_le _)
    rw[fh,List.drop_zero,List.take_zero]at this
    exact ab this
   have oky:br Q y (bs++nw++[g]).length:=jX _ _ (by simp only[x,br];omega) (yt acT)
   have smy:Sm (2^22) y:=(As (D:=0) (f:=x) (k:=0) ((all.drop d.arity).map fun p=>Tm.var ((bs++nw++[g]).length - 1 - p)) Sm.var yr).mono (by simp;omega)
   simp only[cQ aG,cond_false,cK,e1,List.getD_cons_zero,List.getD_cons_succ,e2,e3,e4,abt Xg,Option.bind_some,show V.asSlice (.slice 1 3 (cd all)) 1 3=some (cd all) by simp[V.asSlice],my,d0,Rj,abv,Bool.and_self,bz,cond_true,hd,e5,e6,aL,e7,cY,e8,e9]
   refine⟨_,_,_,rfl,?_,?_⟩
   ·have h0:Fb Q ([]++(bs++nw++[g])):=hB2
    exact h0.sO (t:=.app y (.var 0)) (by rw[List.length_nil,Nat.zero_add];exact⟨oky,by simp only[br];omega⟩)
   ·refine(uq (D:=2^24) ?_ (bs++nw++[g]) ?_).mono (by omega)
    ·exact(smy.app (Sm.var (n:=0))).mono (by omega)
    ·intro b hb
     rcases List.mem_append.1 hb with hb|hb
     ·rcases List.mem_append.1 hb with hb|hb
      ·exact hsm b hb
      ·exact(k4 b hb).mono (by omega)
     ·rw[List.mem_singleton]at hb;subst hb;exact smg.mono (by omega)
end
end Go.Ab.Mk
end
section
namespace Go.Ab.Mk
open Go.Proofs Go.Ab Go.Proofs.Mk
section
variable {Q:ByteArray→Nat→Prop} {d:Dc}
theorem Jy {D mN:Nat} (hD:D≤2^20) (hQ:Q d.name d.aT.length) (JQ:d.aT.length<2^31) (hcs:∀ct∈d.ctors,Q ct.1 d.aT.length∧br Q ct.2 0∧Sm D ct.2∧d.arity≤cP ct.2∧ct.2.parts<2^59) (gE:d.ctors.length≤2^20) (oT:br Q d.type 0) (sT:Sm D d.type) (hmN:cP d.type=d.arity+mN) (l:Lv) (σ:az):
    SI Q σ d mN (ah C 177 [(d.val,false),(.int .i64 mN,false),(.agg [.int .i64 l.kind,.str l.name,.slice 3 120 l.args],false)] σ):=by
  suffices hs:SI Q σ d mN (recursor (ah C) (2^41) d.kind d.name d.ch d.type.kind d.type.num d.type.name (d.type.bK.map Lv.enc) d.type.args d.value.kind d.value.num d.value.name (d.value.bK.map Lv.enc) d.value.args d.arity d.aY mN l.kind l.name l.args σ) by
    obtain⟨u,c',mo',h1,h2⟩:=hs
    refine⟨u,c',mo',?_,h2⟩
    have:=IA (b0:=false) (b1:=false) (b2:=false) h1
    unfold dZ bU at this
    rw[lY]at this
    exact this
  have hnd:=eW d.type
  have htd:=sT.depth
  have ad4:[((.int .i64 (d.kind:Int),false):Cell),(.str d.name,false),(.slice 1 9 d.ch,false),(.int .i64 d.type.kind,false),(.int .i64 d.type.num,false),(.str d.type.name,false),(.slice 3 120 (d.type.bK.map Lv.enc),false),(.slice 5 53 d.type.args,false),
   (.int .i64 d.value.kind,false),(.int .i64 d.value.num,false),(.str d.value.name,false),(.slice 3 120 (d.value.bK.map Lv.enc),false),(.slice 5 53 d.value.args,false),(.int .i64 d.arity,false),(.slice 6 60 d.aY,false),(.int .i64 mN,false),(.lit (.slice none 0 0),false),(.int .i64 0,false)]=recC d mN (.lit (.slice none 0 0),false) 0:=rfl
  have hr0:=fH σ (recC d mN (.lit (.slice none 0 0),false) 0)
  obtain⟨nw,ps,c1,k1,k2,k3,k4,k5,k6,k7,k8⟩:=pq (Q:=Q) (D:=D) (n:=d.arity) (t:=d.type) (ps:=[]) (bs:=[]) (by omega) hr0 (.inr ⟨rfl,rfl⟩) (by simp;omega) (by omega) oT sT (by simp) (by simp;omega) (fun i h=>absurd h (Nat.not_lt_zero i)) true
  rw[fh]at k1
  simp only[List.length_nil,Nat.zero_add,List.nil_append]at k2 k5 k6 k7 k8
  have BN:=fH σ (recC d mN c1 0)
  have st:=wK (D:=D) d.arity d.type sT
  have VN:cP (eC d.type d.arity)=mN:=by rw[Jv _ _ (by omega)];omega
  obtain⟨JR,all,c2,q1,q2,q3,q4,q5,q6,q7,q8⟩:=pq (Q:=Q) (D:=D) (n:=mN) (t:=eC d.type d.arity) (ps:=ps) (bs:=nw) (by omega) BN k2 (by omega) (by omega) (by rw[k6];exact k8) st (fun p hp=>by have:=k7 p hp;omega) (by omega) k5 false
  rw[fh]at q1
  have Xg:=fH σ (recC d mN c2 0)
  have l2:(nw++JR).length=d.arity+mN:=by rw[List.length_append,k3,q3]
  let k0:Tm:=.const d.name (d.aT.map Lv.param)
  let g:Tm:=eA k0 (all.map fun p=>.var ((nw++JR).length - 1 - p))
  have LZ:∀p∈all,p<(nw++JR).length:=fun p hp=>by have:=q7 p hp;omega
  have e1:∀(K:List Cell→az→Option aQ) KP,aA (ah C) 220 [(.ptr 305 σ.length 0,false),(d.type.val,false),(.slice 1 3 [],true),(.int .i64 d.arity,false)] (σ++[recC d mN (.lit (.slice none 0 0),false) 0]) 2 K KP=K [((eC d.type d.arity).val,false),(.slice 1 3 (cd ps),false)] (σ++[recC d mN c1 0]):=fun K KP=>aW k1
  have Up:∀(K:List Cell→az→Option aQ) KP,aA (ah C) 220 [(.ptr 305 σ.length 0,false),((eC d.type d.arity).val,false),(.slice 1 3 (cd ps),false),(.int .i64 mN,false)] (σ++[recC d mN c1 0]) 2 K KP=K [((eC (eC d.type d.arity) mN).val,false),(.slice 1 3 (cd all),false)] (σ++[recC d mN c2 0]):=fun K KP=>aW q1
  have e2:∀(K:List Cell→az→Option aQ) KP,aA (ah C) 222 [(.ptr 305 σ.length 0,false),(.str d.name,false)] (σ++[recC d mN c2 0]) 1 K KP=K [(k0.val,false)] (σ++[recC d mN c2 0]):=fun K KP=>ab (Aq Xg (by omega) d.name)
  have e3:∀(K:List Cell→az→Option aQ) KP,aA (ah C) 221 [(.ptr 305 σ.length 0,false),(k0.val,false),(.slice 1 3 (cd all),false)] (σ++[recC d mN c2 0]) 1 K KP=K [(g.val,false)] (σ++[recC d mN c2 0]):=fun K KP=>ab (lF Xg q2 (by omega) LZ (by omega) _ false)
  have e4:∀(K:List Cell→az→Option aQ) KP,aA (ah C) 223 [(.ptr 305 σ.length 0,false),(g.val,false)] (σ++[recC d mN c2 0]) 0 K KP=K [] (σ++[recC d mN (.row 5 53 ((nw++JR++[g]).map Tm.enc),true) 0]):=fun K KP=>by
    have:=ur Xg q2 (by omega) g
    rw[fh]at this
    exact bm this
  have hr3:=fH σ (recC d mN (.row 5 53 ((nw++JR++[g]).map Tm.enc),true) 0)
  have Ib:=kh.mk (nw++JR++[g])
  have l3:(nw++JR++[g]).length=d.arity+mN+1:=by rw[List.length_append,l2];rfl
  have okk:br Q k0 (nw++JR).length:=by simp only[k0,br,List.length_map];exact hQ
  have smk:Sm (0+0) k0:=⟨by simp only[k0,Tm.wide,List.length_map];exact JQ,by simp[k0,Tm.depth]⟩
  have okg:br Q g (nw++JR).length:=jX _ _ okk (yt LZ)
  have smg:Sm (2^22) g:=(As (D:=0) (f:=k0) (k:=0) (all.map fun p=>Tm.var ((nw++JR).length - 1 - p)) smk yr).mono (by simp;omega)
  have hB3:Fb Q (nw++JR++[g]):=q5.add okg
  have e5:∀(σ:az) (K:List Cell→az→Option aQ) KP,aA (ah C) 225 [(.agg [.int .i64 l.kind,.str l.name,.slice 3 120 l.args],false)] σ 1 K KP=K [((Tm.sort l).val,false)] σ:=fun σ K KP=>ab (Ak l σ)
  have hdr:(nw++JR++[g]).drop d.arity=JR++[g]:=by rw[List.append_assoc,←k3,List.drop_left]
  have Zp:(nw++JR++[g]).take d.arity=nw:=by rw[List.append_assoc,←k3,List.take_left]
  let mt:Tm:=sO (JR++[g]) (.sort l)
  have e6:∀(K:List Cell→az→Option aQ) KP,aA (ah C) 224 [(.ptr 305 σ.length 0,false),((Tm.sort l).val,false),(.int .i64 d.arity,false)] (σ++[recC d mN (.row 5 53 ((nw++JR++[g]).map Tm.enc),true) 0]) 1 K KP=K [(mt.val,false)] (σ++[recC d mN (.row 5 53 (nw.map Tm.enc),true) 0]):=fun K KP=>by
    have:=qz hr3 Ib (by omega) (.sort l) (n:=d.arity) (by omega)
    rw[fh,hdr,Zp]at this
    exact ab this
  have hr4:=fH σ (recC d mN (.row 5 53 (nw.map Tm.enc),true) 0)
  have hr5:=fH σ (recC d mN (.row 5 53 (nw.map Tm.enc),true) d.arity)
  have e7:∀t:TypeId,aV (σ++[recC d mN (.row 5 53 (nw.map Tm.enc),true) 0]) (.ptr t σ.length 17) [(.int .i64 (nw.length:Nat),false)]=some (σ++[recC d mN (.row 5 53 (nw.map Tm.enc),true) d.arity]):=fun t=>by
    rw[acS hr4 t nw.length,fh,k3]
  have e8:∀(K:List Cell→az→Option aQ) KP,aA (ah C) 223 [(.ptr 305 σ.length 0,false),(mt.val,false)] (σ++[recC d mN (.row 5 53 (nw.map Tm.enc),true) d.arity]) 0 K KP=K [] (σ++[recC d mN (.row 5 53 ((nw++[mt]).map Tm.enc),true) d.arity]):=fun K KP=>by
    have:=ur hr5 (.mk nw) (by omega) mt
    rw[fh]at this
    exact bm this
  have h0:Fb Q (nw++(JR++[g])):=by rw[←List.append_assoc];exact hB3
  have okm:br Q mt nw.length:=h0.sO (t:=.sort l) trivial
  have smm:Sm (2^24) mt:=(uq (D:=2^22) (t:=.sort l) ⟨by simp[Tm.wide],by simp[Tm.depth]⟩ (JR++[g]) (fun b hb=>by
    rcases List.mem_append.1 hb with hb|hb
    · exact(q4 b hb).mono (by omega)
    · rw[List.mem_singleton]at hb;subst hb;exact smg)).mono (by rw[List.length_append,List.length_singleton];omega)
  simp only[recursor,aE,aC,aP,bQ,ae,ft,bA,aH,aF,bH,aM,bU,cj,cR,cK,ad4,e1,List.getD_cons_zero,List.getD_cons_succ,aL,bz,cond_true,Option.bind_some,cY,Up,e2,e3,e4,e5,e6,WA hr4,(kh.mk nw).len,e7,e8,cV,dJ,dK,dw,dh]
  exact vh hD hQ JQ hcs gE (by omega) (by omega) k8 st (by omega) k6 k7 (2^41) 0 (nw++[mt]) _ (Nat.zero_le _) (by omega) (.mk _) (by rw[List.length_append,List.length_singleton];omega) (k5.add okm) (fun b hb=>by
    rcases List.mem_append.1 hb with hb|hb
    · exact(k4 b hb).mono (by omega)
    · rw[List.mem_singleton]at hb;subst hb;exact smm)
end
end Go.Ab.Mk
end
section
namespace Go.Ab.Mk
open Go.Proofs Go.Ab Go.Proofs.Mk
theorem gq (s:ByteArray) (e:bO):∀E:List bO,da s (E++[e])=(match da s E with|some x=>some x|none=>(ie s e).map fun p=>(p.1,e,p.2))
 |[]=>by
  simp only[List.nil_append,da]
  cases ie s e with
  |none=>rfl
  |some p=>rfl
 |a::E=>by
  simp only[List.cons_append,da]
  cases ie s a with
  |none=>exact gq s e E
  |some p=>rfl
theorem Pj {s:ByteArray} {e:bO} {E:List bO} (he:e∈E) (h:da s E=none):ie s e=none:=by
 induction E with
 |nil=>simp at he
 |cons a E ih=>
  rw[da]at h
  split at h
  ·simp at h
  ·rename_i ha
   rcases List.mem_cons.1 he with rfl|he
   ·exact ha
   ·exact ih he h
theorem Pk {s:ByteArray} {e:bO} (h:ie s e=none):e.d.name≠s∧eO s e.d.ctors 0=none∧¬(e.d.kind=3∧e.d.name++fp=s):=by
 unfold ie at h
 split at h
 ·simp at h
 ·rename_i h1
  split at h
  ·simp at h
  ·rename_i h2
   split at h
   ·simp at h
   ·rename_i h3
    exact⟨h1,h2,h3⟩
theorem EL {s:ByteArray}:∀{cs:List (ByteArray×Tm)} {i:Nat} {c:ByteArray×Tm},c∈cs→c.1=s→∃k,eO s cs i=some k
 |[],_,_,h,_=>by simp at h
 |a::cs,i,c,h,hs=>by
  rw[eO]
  by_cases ha:a.1=s
  ·exact⟨i,if_pos ha⟩
  ·rw[if_neg ha]
   rcases List.mem_cons.1 h with rfl|h
   ·exact absurd hs ha
   ·exact EL h hs
theorem pP {s:ByteArray} {e:bO} {E:List bO} {x:Nat×bO×Nat} (h:da s E=some x):dV s (E++[e])=dV s E:=by
 unfold dV
 rw[gq,h]
theorem qA {E:List bO} {e:bO} {s:ByteArray} {k:Nat} (h:QE E s k):QE (E++[e]) s k:=by
 obtain⟨ps,t,h1,h2⟩:=h
 refine⟨ps,t,?_,h2⟩
 cases hf:da s E with
 |none=>unfold dV at h1;rw[hf]at h1;simp at h1
 |some x=>rw[pP hf];exact h1
theorem Ba.mono {E:List bO} {e e':bO} (h:Ba E e'):Ba (E++[e]) e':=by
 have m:∀{t:Tm},br (QE E) t 0→br (QE (E++[e])) t 0:=fun h=>dy (fun _ _=>qA) _ _ _ (Nat.le_refl _) h
 exact⟨h.kind,h.name,h.XN,h.aT,h.zb,⟨m h.type.1,h.type.2⟩,h.value.imp (fun h=>⟨m h.1,h.2⟩) id,fun c hc=>⟨m (h.ctors c hc).1,(h.ctors c hc).2⟩,h.rt.imp (fun h=>⟨m h.1,h.2⟩) id,h.arity⟩
theorem dj.snoc {E:List bO} {e:bO} (h:dj E) (hl:E.length+1<2^20) (he:Ba (E++[e]) e) (hn:da e.d.name E=none):dj (E++[e]):=by
 have ne:∀a∈E,a.d.name≠e.d.name:=fun a ha=>(Pk (Pj ha hn)).1
 have hc:∀x∈E++[e],x∈E∨x=e:=fun x hx=>by simpa using hx
 refine⟨by rw[List.length_append,List.length_singleton];exact hl,fun a ha=>?_,fun a ha b hb Y6=>?_⟩
 ·rcases hc a ha with h1|h1
  ·exact(h.MY a h1).mono
  ·rw[h1];exact he
 ·rcases hc a ha with h1|h1
  ·rcases hc b hb with h2|h2
   ·exact h.uniq a h1 b h2 Y6
   ·rw[h2]at Y6;exact absurd Y6 (ne a h1)
  ·rcases hc b hb with h2|h2
   ·rw[h1]at Y6;exact absurd Y6.symm (ne b h2)
   ·rw[h1,h2]
def qB (d:Dc):bO:=⟨⟨1,d.name,d.aT,d.type,.var 0,0,[]⟩,[],.var 0⟩
def QF (E:List bO) (d:Dc) (s:ByteArray) (k:Nat):Prop:=∀ps rt,QE (E++[⟨d,ps,rt⟩]) s k
theorem WC {E:List bO} {d:Dc} {s:ByteArray} {k:Nat} (hk:d.kind=3) (h:QE (E++[qB d]) s k):QF E d s k:=by
 intro qs rt
 obtain⟨ps,t,h1,h2⟩:=h
 cases hf:da s E with
 |some x=>
  rw[pP hf]at h1
  exact⟨ps,t,by rw[pP hf];exact h1,h2⟩
 |none=>
  unfold dV at h1
  rw[gq,hf]at h1
  simp only[ie,qB,eO]at h1
  by_cases hn:d.name=s
  ·rw[if_pos hn]at h1
   simp at h1
   refine⟨d.aT,d.type,?_,by rw[h1.1];exact h2⟩
   unfold dV
   rw[gq,hf]
   simp only[ie,if_pos hn,Option.map_some,hk]
   rfl
  ·rw[if_neg hn]at h1
   simp at h1
theorem Y7 {E:List bO} {d:Dc} (hk:d.kind=3) (hf:da d.name E=none):QF E d d.name d.aT.length:=by
 intro qs rt
 refine⟨d.aT,d.type,?_,rfl⟩
 unfold dV
 rw[gq,hf]
 simp only[ie,if_pos,Option.map_some,hk]
 rfl
theorem Y8 {E:List bO} {d:Dc} (hk:d.kind=3) {c:ByteArray×Tm} (hc:c∈d.ctors) (hf:da c.1 E=none):QF E d c.1 d.aT.length:=by
 intro qs rt
 obtain⟨k,W5⟩:=EL (s:=c.1) (i:=0) hc rfl
 by_cases hn:d.name=c.1
 ·refine⟨d.aT,d.type,?_,rfl⟩
  unfold dV
  rw[gq,hf]
  simp only[ie,if_pos hn,Option.map_some,hk]
  rfl
 ·refine⟨d.aT,(d.ctors.getD k default).2,?_,rfl⟩
  unfold dV
  rw[gq,hf]
  simp only[ie,if_neg hn,W5,Option.map_some]
  rfl
structure TT (d:Dc):Prop where
 kind:1≤d.kind∧d.kind≤3
 name:d.name.size≤40
 aT:d.aT.length≤2^24
 arity:d.arity≤99
 W3:d.ctors.length≤1020000
 type:nJ 0 d.type
 value:nJ 0 d.value
 ctors:∀c∈d.ctors,nJ 0 c.2
theorem abw {E:List bO} {d:Dc} (hA:TT d) (hp:d.aT.length≤6) (hT:br (QE E) d.type 0):Ba (E++[qB d]) (qB d):=
 ⟨⟨Nat.le_refl _,by simp[qB]⟩,by have:=hA.name;simp only[qB];omega,by simp[qB],by simp only[qB];omega,by simp[qB],⟨dy (fun _ _=>qA) _ _ _ (Nat.le_refl _) hT,hA.type.jd⟩,.inr (by simp[qB]),by simp[qB],.inr (by simp[qB]),by simp[qB]⟩
theorem WD {E:List bO} {d:Dc} (hA:TT d) (hk:d.kind≠3) (hp:d.aT.length≤6) (hT:br (QE E) d.type 0) (hV:d.kind≠1→br (QE E) d.value 0) (hc:d.ctors=[]):Ba (E++[⟨d,[],.var 0⟩]) ⟨d,[],.var 0⟩:=by
 have h1:=hA.kind
 refine⟨h1,by have:=hA.name;show d.name.size<1000;omega,by show d.ctors.length<_;rw[hc];simp,by show d.aT.length<_;omega,by simp,⟨dy (fun _ _=>qA) _ _ _ (Nat.le_refl _) hT,hA.type.jd⟩,?_,by show ∀c∈d.ctors,_;rw[hc];simp,.inr hk,fun h=>absurd h hk⟩
 by_cases h2:d.kind=2
 ·exact .inl ⟨dy (fun _ _=>qA) _ _ _ (Nat.le_refl _) (hV (by omega)),hA.value.jd⟩
 ·exact .inr h2
structure aaa (E:List bO) (d:Dc) (ps:List ByteArray) (t:Tm):Prop where
 names:∀s∈d.name::d.ctors.map (·.1)++[d.name++fp],da s E=none
 nodup:(d.name::d.ctors.map (·.1)++[d.name++fp]).Nodup
 aT:d.aT.length≤6
 zb:ps.length≤7
 type:br (QE E) d.type 0
 arity:d.arity≤cP d.type
 ctors:∀c∈d.ctors,br (QE (E++[qB d])) c.2 0
 rt:br (QF E d) t 0
 sm:Sm (2^25) t
theorem abx {E:List bO} {d:Dc} {ps:List ByteArray} {t:Tm} (hA:TT d) (hk:d.kind=3) (h:aaa E d ps t):Ba (E++[⟨d,ps,t⟩]) ⟨d,ps,t⟩:=by
 have hf:∀{s k},QF E d s k→QE (E++[⟨d,ps,t⟩]) s k:=fun h=>h ps t
 have hJ:Jd t:=by
  have h1:=h.sm.wide
  have h2:=h.sm.depth
  have h3:=iQ t 0 h.rt
  exact⟨by omega,by omega,by omega⟩
 have h1:=hA.name
 have h2:=hA.W3
 have h3:=h.aT
 have h4:=h.zb
 exact⟨hA.kind,by show d.name.size<1000;omega,by show d.ctors.length<_;omega,by show d.aT.length<_;omega,by show ps.length<_;omega,⟨dy (fun _ _=>qA) _ _ _ (Nat.le_refl _) h.type,hA.type.jd⟩,.inr (by show d.kind≠2;omega),
  fun c hc=>⟨dy (fun _ _ q=>hf (WC hk q)) _ _ _ (Nat.le_refl _) (h.ctors c hc),(hA.ctors c hc).jd⟩,.inl ⟨dy (fun _ _ q=>hf q) _ _ _ (Nat.le_refl _) h.rt,hJ⟩,fun _=>h.arity⟩
end Go.Ab.Mk
end
section
namespace Go.Ab.Mk
open Go.Proofs Go.Ab Go.Proofs.Mk
theorem L6 (n:Nat) (h:n<2^60) (σ:az):ah C 178 [(.int .i64 n,false)] σ=some (.ret [(.str (ba (Go.Lib.decDigits n)),false)],σ):=
 ma (C:=C) (f:=178) (s:=Mk.C0) (by kernel_rfl) (Mk.Us (by omega) false σ)
def SJ:Nat→ByteArray
 |0=>ByteArray.mk #[114]
 |k+1=>ByteArray.mk #[114]++ba (Go.Lib.decDigits (k+1))
theorem SK:((List.range 7).map SJ).Nodup:=by
 have e:(List.range 7).map SJ=[ByteArray.mk #[114],ByteArray.mk #[114,49],ByteArray.mk #[114,50],ByteArray.mk #[114,51],ByteArray.mk #[114,52],ByteArray.mk #[114,53],ByteArray.mk #[114,54]]:=by
  have h:∀k,k<9→SJ (k+1)=ByteArray.mk #[114]++ba [UInt8.ofNat (48+(k+1))]:=fun k hk=>by rw[SJ,Go.Lib.decDigits_one (by omega)]
  simp only[show List.range 7=[0,0+1,1+1,2+1,3+1,4+1,5+1]from rfl,List.map_cons,List.map_nil,h 0 (by decide),h 1 (by decide),h 2 (by decide),h 3 (by decide),h 4 (by decide),h 5 (by decide)]
  rfl
 rw[e]
 decide
theorem EM {α:Type} [DecidableEq α]:∀{l m:List α},l.Nodup→(∀x∈l,x∈m)→l.length≤m.length
 |[],m,_,_=>Nat.zero_le _
 |x::l,m,h,hs=>by
  rw[List.nodup_cons]at h
  have hx:=hs x (List.mem_cons_self ..)
  have:=EM (l:=l) (m:=m.erase x) h.2 (fun y hy=>by
   have eJ:y≠x:=by rintro rfl;exact h.1 hy
   exact(List.mem_erase_of_ne eJ).2 (hs y (List.mem_cons_of_mem _ hy)))
  rw[List.length_erase_of_mem hx]at this
  have hp:=List.length_pos_of_mem hx
  rw[List.length_cons];omega
theorem L7 {s:ByteArray} {ps:List ByteArray}:has s ps=true↔s∈ps:=by
 unfold has
 rw[List.any_eq_true]
 constructor
 ·rintro⟨p,hp,h⟩
  have:p=s:=by
   rw[beq_iff_eq,ByteArray.toList_eq,ByteArray.toList_eq]at h
   apply ByteArray.ext
   exact Array.toList_inj.1 h
  rw[←this];exact hp
 ·intro h
  exact⟨s,h,by simp⟩
section
variable {E:List bO} {d:Dc} {N:Nat}
theorem Hb {mN:Nat} (L8:∀(l:Lv) (σ:az),SI (QF E d) σ d mN (ah C 177 [(d.val,false),(.int .i64 mN,false),(.agg [.int .i64 l.kind,.str l.name,.slice 3 120 l.args],false)] σ)) (hp:d.aT.length≤6) {σ:az} {t0 t1:Int} {t2:ByteArray} {t3 t4:List (List V)}:
  ∀(mm k:Nat),7 - k<mm→k≤7→(∀j<k,SJ j∈d.aT)→∃(ps:List ByteArray) (u:Tm) (y:List Cell),o7 (ah C) N mm mN (SJ k) k d.kind d.name d.ch d.type.kind d.type.num d.type.name (d.type.bK.map Lv.enc) d.type.args d.value.kind d.value.num d.value.name (d.value.bK.map Lv.enc) d.value.args d.arity d.aY t0 t1 t2 t3 t4 σ=
   some (.ret [(.slice 1 9 (strs ps),false),(u.val,false),(.int .i64 0,false)],σ++[y])∧ps.length≤7∧br (QF E d) u 0∧Sm (2^25) u
 |0,k,hm,_,_=>by omega
 |mm+1,k,hm,hk,hj=>by
  have h7:k≤6:=by
   by_cases h:k=7
   ·subst h
    have:=EM SK (m:=d.aT) fun x hx=>by
     obtain⟨j,W0,rfl⟩:=List.mem_map.1 hx
     exact hj j (List.mem_range.1 W0)
    simp at this
    omega
   ·omega
  rw[show o7 (ah C) N (mm+1)=DK (ah C) (o7 (ah C) N mm)from rfl]
  unfold DK aE aF de cB ae aM aP bp dG dS bH dZ bU bQ dc bA
  have e1:∀(K:List Cell→az→Option aQ) KP,aA (ah C) 168 [(.str (SJ k),false),(.slice 1 9 d.ch,false)] σ 1 K KP=K [(.bool (has (SJ k) d.aT),false)] σ:=fun K KP=>ab (ph (by omega) (SJ k) σ)
  have hw:IntKind.wrap .i64 ((k:Int)+1)=((k+1:Nat):Int):=aw (by omega)
  have e2:∀(K:List Cell→az→Option aQ) KP,aA (ah C) 178 [(.int .i64 (k+1:Nat),false)] σ 1 K KP=K [(.str (ba (Go.Lib.decDigits (k+1))),false)] σ:=fun K KP=>ab (L6 (k+1) (by omega) σ)
  have hsr:fm (ByteArray.mk #[114]) (ba (Go.Lib.decDigits (k+1)))=true:=by
   rw[Go.Lib.decDigits_one (by omega)]
   unfold fm
   rw[show(ByteArray.mk #[114]).size+(ba [UInt8.ofNat (48+(k+1))]).size=2 from rfl]
   rfl
  simp only[e1,List.getD_cons_zero,iD,Option.bind_some,hw,e2,asS,hsr,bz,cond_true]
  cases hh:has (SJ k) d.aT with
  |true=>
   simp only[cond_true]
   exact Hb L8 hp mm (k+1) (by omega) (by omega) fun j W0=>by
    by_cases h:j=k
    ·subst h;exact L7.1 hh
    ·exact hj j (by omega)
  |false=>
   have cC:room (1+d.ch.length)=true:=by rw[Nat.add_comm];exact cF (by simp[Dc.ch];omega)
   obtain⟨u,c',mo',r1,r2,r3⟩:=L8 (.param (SJ k)) σ
   have e3:∀(K:List Cell→az→Option aQ) KP,aA (ah C) 177 [(d.val,false),(.int .i64 mN,false),(.agg [.int .i64 4,.str (SJ k),.slice 3 120 []],false)] σ 1 K KP=K [(u.val,false)] (σ++[recC d mN c' mo']):=fun K KP=>ab r1
   simp only[cond_false,cC,cond_true,Option.bind_some,lY,e3,List.getD_cons_zero,aL,cY]
   exact⟨SJ k::d.aT,u,_,rfl,by simp;omega,r2,r3⟩
def SL (E:List bO) (d:Dc) (σ:az) (b:Nat) (x:Option aQ):Prop:=
 ∃(ps:List ByteArray) (t:Tm) (k:Int) (q w':Bool) (τ:az),x=some (.ret [(.slice 1 9 (strs ps),q),(t.val,false),(.int .i64 k,false)],σ.set b (aD (E++[qB d]) w')++τ)∧
  (k=0→(∀c∈d.ctors,br (QE (E++[qB d])) c.2 0∧d.arity≤cP c.2)∧ps.length≤7∧br (QF E d) t 0∧Sm (2^25) t)
theorem SL.after {σ τ1:az} {b:Nat} {w1:Bool} {r:Option aQ} (hb:b<σ.length) (h:SL E d (σ.set b (aD (E++[qB d]) w1)++τ1) b r):SL E d σ b r:=by
 obtain⟨ps,t,k,q,w',τ,h1,h2⟩:=h
 exact⟨ps,t,k,q,w',τ1++τ,by rw[h1,eF hb],h2⟩
theorem Qv {σ τ:az} {b:Nat} {w':Bool} {k:Int} (hk:k≠0):SL E d σ b (some (.ret [(.slice 1 9 [],true),(.agg [.int .i64 0,.int .i64 0,.str (ByteArray.mk #[]),.slice 3 120 [],.slice 5 53 []],false),(.int .i64 k,false)],σ.set b (aD (E++[qB d]) w')++τ)):=
 ⟨[],.var 0,k,true,w',τ,rfl,fun h=>absurd h hk⟩
theorem Hc (hA:TT d) {b fu mN:Nat} {l:Lv} (hE:dj (E++[qB d])) (hf:fu<2^50) (hp:d.aT.length≤6) (hl:l.size<2^31) (hT:br (QE (E++[qB d])) d.type 0) (xp:d.arity≤cP d.type) (hN:10≤N)
  (L8:(∀c∈d.ctors,br (QE (E++[qB d])) c.2 0∧d.arity≤cP c.2)→∀(l:Lv) (σ:az),SI (QF E d) σ d mN (ah C 177 [(d.val,false),(.int .i64 mN,false),(.agg [.int .i64 l.kind,.str l.name,.slice 3 120 l.args],false)] σ))
  {t0 t1:Int} {t2:ByteArray} {t3 t4:List (List V)}:
  ∀(mm i:Nat) (σ:az),σ[b]?=some (aD (E++[qB d]) false)→i≤d.ctors.length→d.ctors.length - i<mm→(∀c∈d.ctors.take i,br (QE (E++[qB d])) c.2 0∧d.arity≤cP c.2)→
   SL E d σ b (nk (ah C) N mm fu mN b i d.kind d.name d.ch d.type.kind d.type.num d.type.name (d.type.bK.map Lv.enc) d.type.args d.value.kind d.value.num d.value.name (d.value.bK.map Lv.enc) d.value.args d.arity d.aY t0 t1 t2 t3 t4 (.int .i64 l.kind) (.str l.name) (.slice 3 120 l.args) σ)
 |0,i,σ,_,_,hm,_=>by omega
 |mm+1,i,σ,hb,hi,hm,hcs=>by
  rw[show nk (ah C) N (mm+1)=DL (ah C) (o7 (ah C) N N) (nk (ah C) N mm)from rfl]
  unfold DL bo aE ab9 dZ ak aP bb ae aC bp ft aH cB bH bU bQ dc de bA
  have eN:=cO hb
  have M1:d.aY.length=d.ctors.length:=by simp[Dc.aY]
  rw[M1]
  by_cases aG:i<d.ctors.length
  ·have hg:d.aY.getD (Int.toNat (i:Int)) []=.str (d.ctors[i]).1::(d.ctors[i]).2.enc:=by rw[Int.toNat_natCast];simp[Dc.aY,aG]
   have hgv:V.agg [V.str (d.ctors[i]).1,(d.ctors[i]).2.enc.getD 0 V.any,(d.ctors[i]).2.enc.getD 1 V.any,(d.ctors[i]).2.enc.getD 2 V.any,(d.ctors[i]).2.enc.getD 3 V.any,(d.ctors[i]).2.enc.getD 4 V.any]=ctV d.ctors[i]:=by rw[gf,gI,jz,jA,jC];rfl
   obtain⟨k,w1,τ1,h1,h2⟩:=Wy (m:=mN) (l:=l) hE hf (show d.aT.length<2^32 by omega) hl (hA.ctors _ (List.getElem_mem aG)) hb hT hA.type.parts xp
   have e1:∀(K:List Cell→az→Option aQ) KP,aA (ah C) 175 [(.ptr 49 b 0,false),(d.val,false),(ctV d.ctors[i],false),(.int .i64 mN,false),(.agg [.int .i64 l.kind,.str l.name,.slice 3 120 l.args],false),(.int .i64 fu,false)] σ 1 K KP=K [(.int .i64 k,false)] (σ.set b (aD (E++[qB d]) w1)++τ1):=fun K KP=>ab h1
   simp only[eD aG,cond_true,d0,Bool.and_self,bz,Option.bind_some,hg,List.getD_cons_zero,List.getD_cons_succ,hgv,lY,e1,fT,aw (show i<2^61 by have:=hA.W3;omega)]
   by_cases hk:k=0
   case neg=>
    rw[show(k != (0:Int))=true by rw[bne_iff_ne];exact hk,cond_true]
    exact Qv hk
   subst hk
   rw[bne_self_eq_false,cond_false]
   obtain⟨rfl,eY⟩:=h2 rfl
   refine SL.after eN (Hc hA hE hf hp hl hT xp hN L8 mm (i+1) _ (cT (aS hb)) (by omega) (by omega) fun c hc=>?_)
   rw[List.take_succ_eq_append_getElem aG]at hc
   rcases List.mem_append.1 hc with hc|hc
   ·exact hcs c hc
   ·rw[List.mem_singleton]at hc;subst hc;exact eY
  ·have gZ:∀c∈d.ctors,br (QE (E++[qB d])) c.2 0∧d.arity≤cP c.2:=fun c hc=>hcs c (by rw[List.take_of_length_le (by omega)];exact hc)
   obtain⟨x,k,w1,τ1,h1,h2⟩:=SG (l:=l) hE hf (show d.aT.length<2^32 by omega) hl (fun c hc=>⟨hA.ctors c hc,(gZ c hc).1⟩) (by have:=hA.arity;omega) (by have:=hA.W3;omega) hb
   have e1:∀(K:List Cell→az→Option aQ) KP,aA (ah C) 176 [(.ptr 49 b 0,false),(d.val,false),(.agg [.int .i64 l.kind,.str l.name,.slice 3 120 l.args],false),(.int .i64 fu,false)] σ 2 K KP=K [(.bool x,false),(.int .i64 k,false)] (σ.set b (aD (E++[qB d]) w1)++τ1):=fun K KP=>aW h1
   obtain⟨u,c',mo',r1,r2,r3⟩:=L8 gZ .zero (σ.set b (aD (E++[qB d]) w1)++τ1)
   have e2:∀(K:List Cell→az→Option aQ) KP,aA (ah C) 177 [(d.val,false),(.int .i64 mN,false),(.agg [.int .i64 0,.str (ByteArray.mk #[]),.slice 3 120 []],false)] (σ.set b (aD (E++[qB d]) w1)++τ1) 1 K KP=K [(u.val,false)] (σ.set b (aD (E++[qB d]) w1)++τ1++[recC d mN c' mo']):=fun K KP=>ab r1
   simp only[cQ aG,cond_false,lY,e1,List.getD_cons_zero,List.getD_cons_succ,fT,iD,Option.bind_some]
   by_cases hk:k=0
   case neg=>
    rw[show(k != (0:Int))=true by rw[bne_iff_ne];exact hk,cond_true]
    exact Qv hk
   subst hk
   rw[bne_self_eq_false,cond_false]
   cases x with
   |false=>
    simp only[Bool.not_false,cond_true,e2,List.getD_cons_zero,aL,bz,Option.bind_some,cY]
    exact⟨d.aT,u,0,false,w1,τ1++[recC d mN c' mo'],by rw[List.append_assoc];rfl,fun _=>⟨gZ,by omega,r2,r3⟩⟩
   |true=>
    simp only[Bool.not_true,cond_false]
    obtain⟨ps,u3,y,s1,s2,s3,s4⟩:=Hb (N:=N) (L8 gZ) hp (σ:=σ.set b (aD (E++[qB d]) w1)++τ1) (t0:=t0) (t1:=t1) (t2:=t2) (t3:=t3) (t4:=t4) N 0 (by omega) (by omega) (fun j hj=>absurd hj (Nat.not_lt_zero j))
    exact⟨ps,u3,0,false,w1,τ1++[y],by rw[←List.append_assoc];exact s1,fun _=>⟨gZ,s2,s3,s4⟩⟩
end
end Go.Ab.Mk
end
section
namespace Go.Ab.Mk
open Go.Proofs Go.Ab Go.Proofs.Mk
theorem SM (σ:az) (v:V) (rest:List Cell) (t:TypeId):fk (σ++[(v,true)::rest]) (.ptr t σ.length 0)=some (v,σ++[(v,false)::rest]):=by
 simp[fk,fh]
theorem WE (σ:az) (c x:Cell) (rest:List Cell) (t:TypeId):aV (σ++[c::rest]) (.ptr t σ.length 0) [x]=some (σ++[x::rest]):=by
 simp[aV,fh,setCells]
theorem Pl (l:List (List V)):V.kj (.slice 21 58 l) 21 58=some l:=by simp[V.kj]
theorem asE (l:List (List V)):V.asSlice (.slice 21 58 l) 21 58=some l:=by simp[V.asSlice]
theorem Y9 (d:Dc):(qB d).enc=[.int .i64 1,.str d.name,.slice 1 9 d.ch,.int .i64 d.type.kind,.int .i64 d.type.num,.str d.type.name,.slice 3 120 (d.type.bK.map Lv.enc),.slice 5 53 d.type.args,.int .i64 0,.int .i64 0,.str (ByteArray.mk #[]),.slice 3 120 [],.slice 5 53 [],.int .i64 0,.slice 6 60 [],.slice 1 9 [],.int .i64 0,.int .i64 0,.str (ByteArray.mk #[]),.slice 3 120 [],.slice 5 53 []]:=by
 rw[bO.aX];rfl
theorem SN {l:List ByteArray} (h:∀i (hi:i<l.length),l[i]∉l.take i):l.Nodup:=by
 have key:∀k,k≤l.length→(l.take k).Nodup:=by
  intro k
  induction k with
  |zero=>intro _;simp
  |succ k ih=>
   intro hk
   rw[List.take_succ_eq_append_getElem (by omega),List.nodup_append]
   refine⟨ih (by omega),by simp,fun a ha c hc=>?_⟩
   rw[List.mem_singleton]at hc
   subst hc
   rintro rfl
   exact h k (by omega) ha
 have:=key l.length (Nat.le_refl _)
 rwa [List.take_length]at this
theorem room_le {n:Nat} (h:n<2^34):room n=true:=by
 unfold room
 refine decide_eq_true ?_
 rcases Nat.eq_zero_or_pos n with h0|h0
 ·subst h0;decide
 ·have:=(Nat.log2_lt (by omega)).2 h
  omega
def SP (E:List bO) (d:Dc) (σ:az) (b:Nat) (x:Option aQ):Prop:=
 ∃(ps:List ByteArray) (t:Tm) (k:Int) (q w':Bool) (τ:az),x=some (.ret [(.slice 1 9 (strs ps),q),(t.val,false),(.int .i64 k,false)],σ.set b (aD E w')++τ)∧(k=0→w'=false∧aaa E d ps t)
section
variable {E:List bO} {d:Dc} {N b:Nat} {σ:az}
theorem yu {τ:az} {w':Bool} {k:Int} (hk:k≠0):SP E d σ b (some (.ret [(.slice 1 9 [],true),(.agg [.int .i64 0,.int .i64 0,.str (ByteArray.mk #[]),.slice 3 120 [],.slice 5 53 []],false),(.int .i64 k,false)],σ.set b (aD E w')++τ)):=
 ⟨[],.var 0,k,true,w',τ,rfl,fun h=>absurd h hk⟩
theorem Av {w:Bool} (hb:σ[b]?=some (aD E w)) {k:Int} (hk:k≠0):SP E d σ b (some (.ret [(.slice 1 9 [],true),(.agg [.int .i64 0,.int .i64 0,.str (ByteArray.mk #[]),.slice 3 120 [],.slice 5 53 []],false),(.int .i64 k,false)],σ)):=
 ⟨[],.var 0,k,true,w,[],by rw[dD hb,List.append_nil];rfl,fun h=>absurd h hk⟩
def gm (d:Dc):List ByteArray:=d.name::d.ctors.map (·.1)++[d.name++fp]
theorem Hd (hA:TT d) (lL:d.kind=3) {fu:Nat} (hE:dj E) (hl:E.length+1<2^20) (hf:fu<2^50) (hN:2^20≤N) (hb:σ[b]?=some (aD E false)) {t0 t1:Int} {t2:ByteArray} {t3 t4:List (List V)}:
  ∀(mm i:Nat),i≤(gm d).length→(gm d).length - i<mm→(∀j (hj:j<(gm d).length),j<i→da (gm d)[j] E=none∧(gm d)[j]∉(gm d).take j)→
   SP E d σ b (o8 (ah C) N mm b fu (strs (gm d)) i d.kind d.name d.ch d.type.kind d.type.num d.type.name (d.type.bK.map Lv.enc) d.type.args d.value.kind d.value.num d.value.name (d.value.bK.map Lv.enc) d.value.args d.arity d.aY t0 t1 t2 t3 t4 σ)
 |0,i,_,hm,_=>by omega
 |mm+1,i,hi,hm,hj=>by
  rw[show o8 (ah C) N (mm+1)=DM (ah C) (nk (ah C) N N) (o8 (ah C) N mm)from rfl]
  unfold DM bo aE aF ak dS de cB ae aC aP bp aM bQ bb aH cz cj
  have eN:=cO hb
  have rj:(gm d).length=d.ctors.length+2:=by simp[gm]
  have gE:=hA.W3
  rw[cw]
  by_cases aG:i<(gm d).length
  ·have e1:∀(K:List Cell→az→Option aQ) KP,aA (ah C) 167 [(.ptr 49 b 0,false),(.str (gm d)[i],false)] σ 1 K KP=K [(.bool (da (gm d)[i] E).isSome,false)] σ:=fun K KP=>ab (GR hb hE.n (fun e he=>(hE.MY e he).kind) _)
   have ht:((strs (gm d)).take (Int.toNat (i:Int))).drop (Int.toNat 0)=strs ((gm d).take i):=by simp[strs]
   have hle:decide ((i:Int)≤((gm d).length:Int))=true:=by simp;omega
   have e2:∀(K:List Cell→az→Option aQ) KP,aA (ah C) 168 [(.str (gm d)[i],false),(.slice 1 9 (strs ((gm d).take i)),false)] σ 1 K KP=K [(.bool (has (gm d)[i] ((gm d).take i)),false)] σ:=fun K KP=>ab (ph (by rw[List.length_take];omega) _ σ)
   have hg:(strs (gm d)).getD (Int.toNat (i:Int)) []=[.str (gm d)[i]]:=by rw[Int.toNat_natCast];exact ib aG
   simp only[eD aG,cond_true,d0,Bool.and_self,bz,Option.bind_some,hg,List.getD_cons_zero,e1,show decide ((0:Int)≤0)=true from rfl,hle,ht,e2,iD,aw (show i<2^61 by omega)]
   cases WW:da (gm d)[i] E with
   |some x=>
    simp only[Option.isSome_some,cond_true]
    exact Av hb (by decide)
   |none=>
    simp only[Option.isSome_none,cond_false]
    cases hh:has (gm d)[i] ((gm d).take i)with
    |true=>
     simp only[cond_true]
     exact Av hb (by decide)
    |false=>
     simp only[cond_false]
     refine Hd hA lL hE hl hf hN hb mm (i+1) (by omega) (by omega) fun j W0 hji=>?_
     by_cases h:j=i
     ·subst h
      exact⟨WW,fun hm=>by rw[L7.2 hm]at hh;simp at hh⟩
     ·exact hj j W0 (by omega)
  ·have rL:∀s∈gm d,da s E=none:=fun s hs=>by
    obtain⟨j,W0,rfl⟩:=List.getElem_of_mem hs
    exact(hj j W0 (by omega)).1
   have aar:(gm d).Nodup:=SN fun j W0=>(hj j W0 (by omega)).2
   obtain⟨x,hx,W6⟩:=Ez d.aT (by have:=hA.aT;omega) σ
   have e1:∀(K:List Cell→az→Option aQ) KP,aA (ah C) 169 [(.slice 1 9 d.ch,false)] σ 1 K KP=K [(.bool x,false)] σ:=fun K KP=>ab hx
   obtain⟨l2,k,w1,τ1,h1,h2,h3,h4⟩:=kQ hE hf (show d.aT.length<2^32 by have:=hA.aT;omega) (ctx:=[]) (by decide) hb (uo E) (t:=d.type) (fun _=>hA.type) true
   have e2:∀(K:List Cell→az→Option aQ) KP,aA (ah C) 170 [(.ptr 49 b 0,false),(.slice 1 9 d.ch,false),(.slice 5 53 [],true),(d.type.val,false),(.int .i64 fu,false)] σ 2 K KP=K [(.agg [.int .i64 l2.kind,.str l2.name,.slice 3 120 l2.args],false),(.int .i64 k,false)] (σ.set b (aD E w1)++τ1):=fun K KP=>aW h1
   have hdp:=hA.type.parts
   have S6:=hA.type.jd.depth
   have hnd:=eW d.type
   have hdq:=cJ d.type
   have e3:∀(σ:az) (K:List Cell→az→Option aQ) KP,aA (ah C) 171 [(d.type.val,false)] σ 1 K KP=K [(.int .i64 (cP d.type:Nat),false)] σ:=fun σ K KP=>ab (j5 d.type (by omega) σ)
   have e4:∀(σ:az) (K:List Cell→az→Option aQ) KP,aA (ah C) 172 [(d.type.val,false),(.int .i64 (cP d.type:Nat),false)] σ 1 K KP=K [((eC d.type (cP d.type)).val,false)] σ:=fun σ K KP=>ab (B9 d.type _ (Nat.le_refl _) (by omega) σ)
   simp only[cQ aG,cond_false,e1,List.getD_cons_zero,List.getD_cons_succ,iD,fT,Option.bind_some,cK,e2,gC,bz,cond_true,e3,e4,aL,cV,dw]
   cases x with
   |true=>
    simp only[cond_true]
    exact Av hb (by decide)
   |false=>
   have hp6:=W6 rfl
   simp only[cond_false]
   by_cases hk:k=0
   case neg=>
    rw[show(k != (0:Int))=true by rw[bne_iff_ne];exact hk,cond_true]
    exact yu hk
   subst hk
   rw[bne_self_eq_false,cond_false]
   obtain⟨rfl,oT⟩:=h4 rfl
   have oT:br (QE E) d.type 0:=oT
   by_cases xp:cP d.type<d.arity
   ·rw[show decide (((cP d.type:Nat):Int)<((d.arity:Nat):Int))=true by simp;omega,cond_true]
    exact yu (by decide)
   rw[show decide (((cP d.type:Nat):Int)<((d.arity:Nat):Int))=false by simp;omega,cond_false]
   by_cases hv:(eC d.type (cP d.type)).kind=1
   case neg=>
    rw[show((eC d.type (cP d.type)).kind != (1:Int))=true by rw[bne_iff_ne];exact hv,cond_true]
    exact yu (by decide)
   obtain⟨l,hle⟩:∃l,eC d.type (cP d.type)=.sort l:=by
    cases h:eC d.type (cP d.type)<;>rw[h]at hv<;>simp[Tm.kind]at hv
    exact⟨_,rfl⟩
   have Z7:l.size<2^31:=by
    have key:∀(n:Nat) (t:Tm),(eC t n).lz≤t.lz:=by
     intro n
     induction n with
     |zero=>intro t;rw[kP];exact Nat.le_refl _
     |succ n ih=>
      intro t
      cases t with
      |pi a b=>have:=ih b;simp only[eC,Tm.lz];omega
      |_=>exact Nat.le_refl _
    have h1:=key (cP d.type) d.type
    rw[hle]at h1
    simp only[Tm.lz]at h1
    have:=fe d.type
    omega
   rw[hle]
   rw[show((Tm.sort l).kind != (1:Int))=false from rfl,cond_false]
   have Au:(σ.set b (aD E false)++τ1)[b]?=some (aD E false):=cT (aS hb)
   generalize acU:σ.set b (aD E false)++τ1=jH at Au ⊢
   obtain⟨y,hy⟩:=nU jH l Z7
   have e5:∀(K:List Cell→az→Option aQ) KP,aA (ah C) 173 [(.agg l.enc,false)] jH 1 K KP=K [(.bool y,false)] jH:=fun K KP=>by rw[l.aX];exact ab hy
   obtain⟨z,hz⟩:=Er jH l Z7
   have e6:∀(K:List Cell→az→Option aQ) KP,aA (ah C) 174 [(.agg l.enc,false)] jH 1 K KP=K [(.bool z,false)] jH:=fun K KP=>by rw[l.aX];exact ab hz
   have BA:∀(t:TypeId) (cs:List Cell),bu (jH++[cs]) (.ptr t b 0) false 1=some (.slice 21 58 (E.map bO.enc)):=fun t cs=>abj (cT Au) t
   have aby:room (([]:List (List V)).length+(E.map bO.enc).length)=true:=by
    rw[List.length_nil,Nat.zero_add,List.length_map]
    exact room_le (by omega)
   have TD:room ((E.map bO.enc).length+1)=true:=cF (by rw[List.length_map];omega)
   have hw:IntKind.wrap .i64 (((cP d.type:Nat):Int) - ((d.arity:Nat):Int))=((cP d.type - d.arity:Nat):Int):=by rw[cG (by omega) (by omega)];omega
   have hEx:dj (E++[qB d]):=hE.snoc hl (abw hA hp6 oT) (rL d.name (by simp[gm]))
   have oTx:br (QE (E++[qB d])) d.type 0:=dy (fun _ _=>qA) _ _ _ (Nat.le_refl _) oT
   have sT:Sm (2^20) d.type:=⟨by have:=cU d.type;omega,by omega⟩
   have L8:(∀c∈d.ctors,br (QE (E++[qB d])) c.2 0∧d.arity≤cP c.2)→∀(l:Lv) (σ:az),SI (QF E d) σ d (cP d.type - d.arity:Nat) (ah C 177 [(d.val,false),(.int .i64 (cP d.type - d.arity:Nat),false),(.agg [.int .i64 l.kind,.str l.name,.slice 3 120 l.args],false)] σ):=fun gZ l σ=>
    Jy (D:=2^20) (Nat.le_refl _) (Y7 lL (rL d.name (by simp[gm]))) (by omega) (fun ct Gd=>⟨Y8 lL Gd (rL ct.1 (by simp only[gm,List.mem_append,List.mem_cons,List.mem_map];exact .inl (.inr ⟨ct,Gd,rfl⟩))),dy (fun _ _ q=>WC lL q) _ _ _ (Nat.le_refl _) (gZ ct Gd).1,⟨by have:=cU ct.2;have:=(hA.ctors ct Gd).parts;omega,by have:=cJ ct.2;have:=(hA.ctors ct Gd).parts;omega⟩,(gZ ct Gd).2,by have:=(hA.ctors ct Gd).parts;omega⟩) (by omega)
     (dy (fun _ _ q=>WC lL (qA q)) _ _ _ (Nat.le_refl _) oT) sT (by omega) l σ
   have fin:SP E d σ b (nk (ah C) N N fu ((cP d.type - d.arity:Nat):Int) jH.length 0 d.kind d.name d.ch d.type.kind d.type.num d.type.name (d.type.bK.map Lv.enc) d.type.args d.value.kind d.value.num d.value.name (d.value.bK.map Lv.enc) d.value.args d.arity d.aY t0 t1 t2 t3 t4 (l.enc.getD 0 V.any) (l.enc.getD 1 V.any) (l.enc.getD 2 V.any) (jH++[aD (E++[qB d]) false])):=by
    have h:=Hc (N:=N) (b:=jH.length) (mN:=cP d.type - d.arity) (l:=l) hA hEx hf hp6 Z7 oTx (by omega) (by omega) L8 (t0:=t0) (t1:=t1) (t2:=t2) (t3:=t3) (t4:=t4) N 0 (jH++[aD (E++[qB d]) false]) (fH _ _) (Nat.zero_le _) (by omega) (by simp)
    obtain⟨ps,t,k,q,w',τ,g1,g2⟩:=h
    refine⟨ps,t,k,q,false,τ1++([aD (E++[qB d]) w']++τ),?_,fun hk=>?_⟩
    ·rw[fh]at g1
     rw[l.aX]
     refine g1.trans ?_
     rw[←acU,List.append_assoc,List.append_assoc]
    ·obtain⟨a1,a2,a3,a4⟩:=g2 hk
     exact⟨rfl,rL,aar,hp6,a2,oT,by omega,fun c hc=>(a1 c hc).1,a3,a4⟩
   have aab:(jH++[[((.slice 21 58 (E.map bO.enc++[(qB d).enc]),true):Cell),(.bool false,false)]])=jH++[aD (E++[qB d]) false]:=by simp[aD]
   rw[Y9]at aab
   simp only[show(Tm.sort l).bK.map Lv.enc=[l.enc]from rfl,asL,Option.bind_some,List.length_singleton,show(decide ((0:Int)≤0)&&decide ((0:Int)<((1:Nat):Int)))=true from rfl,cond_true,oG,Qu,e5,e6,List.getD_cons_zero,iD,BA,SM,Pl,asE,show ∀l,V.isFull (.slice 21 58 l)=false from fun _=>rfl,Bool.not_false,Bool.true_or,Bool.true_and,aby,WE,List.nil_append,TD,hw,aab]
   cases y<;>cases z<;>cases decide ((d.name.size:Int)>36)<;>simp only[Bool.not_true,Bool.not_false,cond_true,cond_false]<;>first|(rw[←acU];exact yu (by decide))|exact fin
end
end Go.Ab.Mk
end
