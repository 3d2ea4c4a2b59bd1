/- Family, Add, FileOf. -/
import Derived.Test.YtcjofhikcokhfaaGreatDoorLvLi
set_option linter.unusedSimpArgs false
set_option linter.unusedVariables false
set_option linter.deprecated false
namespace Go.Ab.Mk
open Go.Proofs Go.Ab Go.Proofs.Mk
section
variable {E:List bO} {d:Dc} {N b:Nat} {σ:az}
theorem He (hA:TT d) (lL:d.kind=3) {fu:Nat} (hE:dj E) (hl:E.length+1<2^20) (hf:fu<2^50) (hN:2^20≤N) (hb:σ[b]?=some (aD E false)) {t0 t1:Int} {t2:ByteArray} {t3 t4:List (List V)}:
  ∀(mm i:Nat),i≤d.ctors.length→d.ctors.length - i<mm→
   SP E d σ b (si (ah C) N mm b fu (strs (d.name::(d.ctors.take i).map (·.1))) i d.kind d.name d.ch d.type.kind d.type.num d.type.name (d.type.bK.map Lv.enc) d.type.args d.value.kind d.value.num d.value.name (d.value.bK.map Lv.enc) d.value.args d.arity d.aY t0 t1 t2 t3 t4 σ)
 |0,i,_,hm=>by omega
 |mm+1,i,hi,hm=>by
  rw[show si (ah C) N (mm+1)=DN (ah C) (o8 (ah C) N N) (si (ah C) N mm)from rfl]
  unfold DN bo jq ak iz bp dS
  have M1:d.aY.length=d.ctors.length:=by simp[Dc.aY]
  have gE:=hA.W3
  have Ky:(strs (d.name::(d.ctors.take i).map (·.1))).length=i+1:=by rw[cw,List.length_cons,List.length_map,List.length_take];omega
  have cC:room (i+1+1)=true:=room_le (by omega)
  rw[M1]
  by_cases aG:i<d.ctors.length
  ·have hg:d.aY.getD (Int.toNat (i:Int)) []=.str (d.ctors[i]).1::(d.ctors[i]).2.enc:=by rw[Int.toNat_natCast];simp[Dc.aY,aG]
   have hs:strs (d.name::(d.ctors.take i).map (·.1))++[[V.str (d.ctors[i]).1]]=strs (d.name::(d.ctors.take (i+1)).map (·.1)):=by
    rw[List.take_succ_eq_append_getElem aG,List.map_append,←List.cons_append,lj]
    rfl
   simp only[eD aG,cond_true,d0,Bool.and_self,bz,Option.bind_some,hg,List.getD_cons_zero,show V.fits (.str (d.ctors[i]).1) false 1=true from rfl,Ky,cC,hs,aw (show i<2^61 by omega)]
   exact He hA lL hE hl hf hN hb mm (i+1) (by omega) (by omega)
  ·have hsr:fm d.name (ByteArray.mk #[46,114,101,99])=true:=by
    unfold fm
    have h4:(ByteArray.mk #[46,114,101,99]).size=4:=rfl
    have:=hA.name
    refine decide_eq_true ?_
    have:=(Nat.log2_lt (n:=d.name.size+(ByteArray.mk #[46,114,101,99]).size) (k:=62) (by omega)).2 (by omega)
    omega
   have hs:strs (d.name::(d.ctors.take i).map (·.1))++[[V.str (d.name++ByteArray.mk #[46,114,101,99])]]=strs (gm d):=by
    rw[List.take_of_length_le (by omega),gm,lj]
    rfl
   simp only[cQ aG,cond_false,hsr,Ky,cC,bz,cond_true,Option.bind_some,hs]
   exact Hd hA lL hE hl hf hN hb N 0 (Nat.zero_le _) (by simp[gm];omega) (fun j _ h=>absurd h (Nat.not_lt_zero j))
theorem Pm (hA:TT d) (lL:d.kind=3) {fu:Nat} (hE:dj E) (hl:E.length+1<2^20) (hf:fu<2^50) (hb:σ[b]?=some (aD E false)):
  SP E d σ b (ah C 114 [(.ptr 49 b 0,false),(d.val,false),(.int .i64 fu,false)] σ):=by
 have gE:=hA.W3
 obtain⟨ps,t,k,q,w',τ,h1,h2⟩:=He (N:=2^20) hA lL hE hl hf (Nat.le_refl _) hb (t0:=0) (t1:=0) (t2:=ByteArray.mk #[]) (t3:=[]) (t4:=[]) (2^20) 0 (Nat.zero_le _) (by omega)
 refine⟨ps,t,k,q,w',τ,?_,h2⟩
 have:=Ou (n:=2^20) (b0:=false) (b1:=false) (b2:=false) (show family (ah C) (2^20) b d.kind d.name d.ch d.type.kind d.type.num d.type.name (d.type.bK.map Lv.enc) d.type.args d.value.kind d.value.num d.value.name (d.value.bK.map Lv.enc) d.value.args d.arity d.aY fu σ=_ by simp only[family];exact h1)
 unfold dZ at this
 rw[lY]at this
 exact this
end
def za (e:bO):List ByteArray:=if e.d.kind=3 then gm e.d else[e.d.name]
inductive Grown:List bO→Prop
 |nil:Grown []
 |snoc (E:List bO) (e:bO):Grown E→(∀s∈za e,da s E=none)→(za e).Nodup→(e.d.kind≠3→e.d.ctors=[])→Grown (E++[e])
theorem L9 {σ:az} {b:Nat} {E:List bO} {w:Bool} (h:σ[b]?=some (aD E w)) (t:TypeId):fk σ (.ptr t b 0)=some (.slice 21 58 (E.map bO.enc),σ.set b [(.slice 21 58 (E.map bO.enc),false),(.bool w,false)]):=by
 simp[fk,h,aD]
theorem Qw {σ:az} {b:Nat} {x y:Cell} (h:b<σ.length) (t:TypeId) (z:Cell):aV (σ.set b [x,y]) (.ptr t b 0) [z]=some (σ.set b [z,y]):=by
 simp[aV,h,setCells]
def acV (E:List bO) (d:Dc) (σ:az) (b:Nat) (x:Option aQ):Prop:=
 ∃(k:Int) (E':List bO) (w':Bool) (τ:az),x=some (.ret [(.int .i64 k,false)],σ.set b (aD E' w')++τ)∧dj E'∧Grown E'∧E'.length≤E.length+1∧(k≠0∧E'=E∨k=0∧w'=false∧∃e,E'=E++[e]∧e.d=d∧e.rt.wide<2^31)
section
variable {E:List bO} {d:Dc} {N b:Nat} {σ:az}
theorem Za (d:Dc) (ps:List ByteArray) (t:Tm):[V.int .i64 d.kind,.str d.name,.slice 1 9 d.ch,.int .i64 d.type.kind,.int .i64 d.type.num,.str d.type.name,.slice 3 120 (d.type.bK.map Lv.enc),.slice 5 53 d.type.args,
  .int .i64 d.value.kind,.int .i64 d.value.num,.str d.value.name,.slice 3 120 (d.value.bK.map Lv.enc),.slice 5 53 d.value.args,.int .i64 d.arity,.slice 6 60 d.aY,.slice 1 9 (strs ps),V.cell t.val 0,V.cell t.val 1,V.cell t.val 2,V.cell t.val 3,V.cell t.val 4]=(bO.mk d ps t).enc:=by
 rw[bO.aX,cV,dJ,dK,dw,dh]
theorem WG (d:Dc):[V.int .i64 d.kind,.str d.name,.slice 1 9 d.ch,.int .i64 d.type.kind,.int .i64 d.type.num,.str d.type.name,.slice 3 120 (d.type.bK.map Lv.enc),.slice 5 53 d.type.args,
  .int .i64 d.value.kind,.int .i64 d.value.num,.str d.value.name,.slice 3 120 (d.value.bK.map Lv.enc),.slice 5 53 d.value.args,.int .i64 d.arity,.slice 6 60 d.aY,.slice 1 9 [],.int .i64 0,.int .i64 0,.str (ByteArray.mk #[]),.slice 3 120 [],.slice 5 53 []]=(bO.mk d [] (.var 0)).enc:=by
 rw[bO.aX];rfl
theorem Qx {σ τ:az} {x y:List Cell} (h:b<σ.length):(σ.set b x++τ).set b y=σ.set b y++τ:=by
 have:=eF (τ1:=τ) (τ2:=[]) (x:=x) (y:=y) h
 rw[List.append_nil,List.append_nil]at this
 exact this
theorem Zb (hA:TT d) (Ib:d.kind≠3→d.ctors=[]) {fu:Nat} (hE:dj E) (hG:Grown E) (hl:E.length+1<2^20) (hf:fu<2^50) (hb:σ[b]?=some (aD E false)):
  acV E d σ b (ah C 72 [(.ptr 49 b 0,false),(d.val,false),(.int .i64 fu,false)] σ):=by
 have eN:=cO hb
 suffices hs:acV E d σ b (Yu (ah C) 0 b d.kind d.name d.ch d.type.kind d.type.num d.type.name (d.type.bK.map Lv.enc) d.type.args d.value.kind d.value.num d.value.name (d.value.bK.map Lv.enc) d.value.args d.arity d.aY fu σ) by
  obtain⟨k,E',w',τ,h1,h2⟩:=hs
  refine⟨k,E',w',τ,?_,h2⟩
  have:=Vp (b0:=false) (b1:=false) (b2:=false) h1
  unfold dZ at this
  rw[lY]at this
  exact this
 have cC:room ((E.map bO.enc).length+1)=true:=room_le (by rw[List.length_map];omega)
 by_cases lL:d.kind=3
 ·obtain⟨ps,t,k,q,w',τ,h1,h2⟩:=Pm hA lL hE hl hf hb
  have e1:∀(K:List Cell→az→Option aQ) KP,aA (ah C) 114 [(.ptr 49 b 0,false),(d.val,false),(.int .i64 fu,false)] σ 3 K KP=K [(.slice 1 9 (strs ps),q),(t.val,false),(.int .i64 k,false)] (σ.set b (aD E w')++τ):=fun K KP=>bM h1 rfl
  simp only[Yu,aE,bH,dZ,aP,bQ,aH,jq,ae,dS,aq,bb,show((d.kind:Int)==3)=true by rw[lL];rfl,cond_true,lY,e1,List.getD_cons_zero,List.getD_cons_succ,aL,bz,Option.bind_some,fT]
  by_cases hk:k=0
  ·subst hk
   obtain⟨rfl,hF⟩:=h2 rfl
   have Au:(σ.set b (aD E false)++τ)[b]?=some (aD E false):=cT (aS hb)
   have xa:dj (E++[⟨d,ps,t⟩]):=hE.snoc hl (abx hA lL hF) (hF.names d.name (by simp))
   have hgr:Grown (E++[⟨d,ps,t⟩]):=.snoc E _ hG (by rw[za,if_pos lL];exact hF.names) (by rw[za,if_pos lL];exact hF.nodup) (fun h=>absurd lL h)
   simp only[beq_self_eq_true,cond_true,L9 Au,Option.bind_some,show V.fits (.slice 1 9 (strs ps)) false 1=true from rfl,Bool.and_self,Pl,show ∀l,V.isFull (.slice 21 58 l)=false from fun _=>rfl,Bool.not_false,Bool.true_or,cC,Za,Qw (cO Au)]
   refine⟨0,E++[⟨d,ps,t⟩],false,τ,?_,xa,hgr,by simp,.inr ⟨rfl,rfl,_,rfl,rfl,hF.sm.wide⟩⟩
   rw[Qx eN]
   simp[aD]
  ·rw[show(k==(0:Int))=false by rw[beq_eq_false_iff_ne];exact hk,cond_false]
   exact⟨k,E,w',τ,rfl,hE,hG,by omega,.inl ⟨hk,rfl⟩⟩
 ·obtain⟨k,w',τ,h1,_,h2⟩:=SE hE hf hb (d:=d) (by have:=hA.aT;omega) hA.type hA.value
  have e1:∀(K:List Cell→az→Option aQ) KP,aA (ah C) 115 [(.ptr 49 b 0,false),(d.val,false),(.int .i64 fu,false)] σ 1 K KP=K [(.int .i64 k,false)] (σ.set b (aD E w')++τ):=fun K KP=>ab h1
  simp only[Yu,aE,bH,dZ,aP,bQ,aH,jq,ae,dS,aq,bb,show((d.kind:Int)==3)=false by rw[beq_eq_false_iff_ne];omega,cond_false,lY,e1,List.getD_cons_zero,fT,Option.bind_some]
  by_cases hk:k=0
  ·subst hk
   obtain⟨rfl,hn,hp6,oT,oV⟩:=h2 rfl
   have Au:(σ.set b (aD E false)++τ)[b]?=some (aD E false):=cT (aS hb)
   have xa:dj (E++[⟨d,[],.var 0⟩]):=hE.snoc hl (WD hA lL hp6 oT oV (Ib lL)) hn
   have hgr:Grown (E++[⟨d,[],.var 0⟩]):=.snoc E _ hG (by rw[za,if_neg lL];intro s hs;rw[List.mem_singleton]at hs;subst hs;exact hn) (by rw[za,if_neg lL];simp) Ib
   simp only[beq_self_eq_true,cond_true,L9 Au,Option.bind_some,Pl,show ∀l,V.isFull (.slice 21 58 l)=false from fun _=>rfl,Bool.not_false,Bool.true_or,Bool.true_and,bz,cC,WG,Qw (cO Au)]
   refine⟨0,E++[⟨d,[],.var 0⟩],false,τ,?_,xa,hgr,by simp,.inr ⟨rfl,rfl,_,rfl,rfl,by simp[Tm.wide]⟩⟩
   rw[Qx eN]
   simp[aD]
  ·rw[show(k==(0:Int))=false by rw[beq_eq_false_iff_ne];exact hk,cond_false]
   exact⟨k,E,w',τ,rfl,hE,hG,by omega,.inl ⟨hk,rfl⟩⟩
def acW (ds:List Dc) (σ:az) (b:Nat) (x:Option aQ):Prop:=
 ∃(n a1 a2:Int) (E:List bO) (w:Bool) (τ:az),x=some (.ret [(.ptr 49 b 0,false),(.int .i64 n,false),(.agg [.int .i64 a1,.int .i64 a2],false)],σ.set b (aD E w)++τ)∧dj E∧Grown E∧E.map (·.d)=ds.take E.length∧∀e∈E,e.rt.wide<2^31
theorem Bh {ds:List Dc} (hd:∀d∈ds,TT d∧(d.kind≠3→d.ctors=[])) (hdl:ds.length<2^19) {fu:Nat} (hf:fu<2^50) {t0 t1:Int}:∀(mm i:Nat) (E:List bO) (σ:az),σ[b]?=some (aD E false)→i≤ds.length→ds.length - i<mm→E.length=i→dj E→Grown E→E.map (·.d)=ds.take E.length∧(∀e∈E,e.rt.wide<2^31)→
  acW ds σ b (se (ah C) N mm (ds.map Dc.enc) fu b i t0 t1 σ)
 |0,i,_,_,_,_,hm,_,_,_,_=>by omega
 |mm+1,i,E,σ,hb,hi,hm,hl,hE,hG,hW=>by
  rw[show se (ah C) N (mm+1)=Dz (ah C) (se (ah C) N mm)from rfl]
  unfold Dz bo aE bH ak aP bb ae jq dc bp Fk
  have eN:=cO hb
  rw[List.length_map]
  by_cases aG:i<ds.length
  ·obtain⟨hA,Ib⟩:=hd _ (List.getElem_mem aG)
   obtain⟨k,E',w',τ,h1,h2,h3,h4,h6⟩:=Zb hA Ib hE hG (by omega) hf hb
   have hW':E'.map (·.d)=ds.take E'.length∧(∀e∈E',e.rt.wide<2^31):=by
    rcases h6 with⟨_,rfl⟩|⟨_,_,e,rfl,he,hew⟩
    ·exact hW
    ·refine⟨?_,fun x hx=>?_⟩
     ·rw[List.map_append,List.map_singleton,hW.1,he,List.length_append,List.length_singleton,hl,List.take_succ_eq_append_getElem aG]
     ·rcases List.mem_append.1 hx with hx|hx
      ·exact hW.2 x hx
      ·rw[List.mem_singleton]at hx;rw[hx];exact hew
   have hg:(ds.map Dc.enc).getD (Int.toNat (i:Int)) []=(ds[i]).enc:=by rw[Int.toNat_natCast];simp[aG]
   have hv:V.agg [(ds[i]).enc.getD 0 V.any,(ds[i]).enc.getD 1 V.any,(ds[i]).enc.getD 2 V.any,(ds[i]).enc.getD 3 V.any,(ds[i]).enc.getD 4 V.any,(ds[i]).enc.getD 5 V.any,(ds[i]).enc.getD 6 V.any,(ds[i]).enc.getD 7 V.any,(ds[i]).enc.getD 8 V.any,(ds[i]).enc.getD 9 V.any,(ds[i]).enc.getD 10 V.any,(ds[i]).enc.getD 11 V.any,(ds[i]).enc.getD 12 V.any,(ds[i]).enc.getD 13 V.any,(ds[i]).enc.getD 14 V.any]=(ds[i]).val:=by
    simp only[Dc.val,Dc.enc,Tm.aX];rfl
   have e1:∀(K:List Cell→az→Option aQ) KP,aA (ah C) 72 [(.ptr 49 b 0,false),((ds[i]).val,false),(.int .i64 fu,false)] σ 1 K KP=K [(.int .i64 k,false)] (σ.set b (aD E' w')++τ):=fun K KP=>ab h1
   simp only[eD aG,cond_true,d0,Bool.and_self,bz,Option.bind_some,hg,hv,e1,List.getD_cons_zero,fT,aw (show i<2^61 by omega)]
   by_cases hk:k=0
   ·subst hk
    have h7:w'=false∧E'.length=i+1:=by
     rcases h6 with⟨h,_⟩|⟨_,hw,e,rfl,_⟩
     ·exact absurd rfl h
     ·exact⟨hw,by rw[List.length_append,List.length_singleton,hl]⟩
    obtain⟨rfl,hl'⟩:=h7
    rw[bne_self_eq_false,cond_false]
    obtain⟨n,a1,a2,E2,w2,τ2,g1,g2⟩:=Bh hd hdl hf (t0:=t0) (t1:=t1) mm (i+1) E' (σ.set b (aD E' false)++τ) (cT (aS hb)) (by omega) (by omega) hl' h2 h3 hW'
    exact⟨n,a1,a2,E2,w2,τ++τ2,by rw[g1,eF eN],g2⟩
   ·rw[show(k != (0:Int))=true by rw[bne_iff_ne];exact hk,cond_true]
    exact⟨i,k,i,E',w',τ,rfl,h2,h3,hW'⟩
  ·rw[cQ aG,cond_false]
   exact⟨ds.length,0,0,E,false,[],by rw[dD hb,List.append_nil],hE,hG,hW⟩
theorem SQ:dj []:=⟨by simp,by simp,by simp⟩
theorem MU {ds:List Dc} (hd:∀d∈ds,TT d∧(d.kind≠3→d.ctors=[])) (hdl:ds.length<2^19) {fu:Nat} (hf:fu<2^50) (σ:az) (q:Bool):
  ∃(n a1 a2:Int) (E:List bO) (w:Bool) (τ:az),ah C 43 [(.slice 15 56 (ds.map Dc.enc),q),(.int .i64 fu,false)] σ=some (.ret [(.ptr 49 σ.length 0,false),(.int .i64 n,false),(.agg [.int .i64 a1,.int .i64 a2],false)],σ++(aD E w::τ))∧dj E∧Grown E∧E.map (·.d)=ds.take E.length∧∀e∈E,e.rt.wide<2^31:=by
 obtain⟨n,a1,a2,E,w,τ,h1,h2⟩:=Bh (N:=2^20) (b:=σ.length) hd hdl hf (t0:=0) (t1:=0) (2^20) 0 [] (σ++[aD [] false]) (fH _ _) (Nat.zero_le _) (by omega) rfl SQ .nil (by simp)
 refine⟨n,a1,a2,E,w,τ,Og (n:=2^20) ?_,h2⟩
 simp only[fileOf]
 rw[fh,List.append_assoc]at h1
 exact h1
end
end Go.Ab.Mk
