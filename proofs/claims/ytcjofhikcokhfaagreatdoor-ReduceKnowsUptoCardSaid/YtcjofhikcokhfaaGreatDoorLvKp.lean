/- Normal forms: the loops over parts. -/
import Derived.Test.YtcjofhikcokhfaaGreatDoorLvKg
set_option linter.unusedSimpArgs false
set_option linter.unusedVariables false
set_option linter.deprecated false
section
namespace Go.Ab.Mk
open Go.Proofs Go.Ab Go.Proofs.Mk
theorem jZ (ctx:List Tm) (a:Tm) (h:ctx.length<2^32) (σ:az):ah C 218 [(.slice 5 53 (ctx.map Tm.enc),false),(a.val,false)] σ=some (.ret [(.slice 5 53 ((ctx++[a]).map Tm.enc),true)],σ):=
 ID (n:=0) <| by
  simp only[extended,dS,iz]
  rw[cF (show 0+(ctx.map Tm.enc).length<2^34 by simp;omega),cF (show(ctx.map Tm.enc).length+1<2^34 by simp;omega)]
  simp only[bz,cond_true,Option.bind_some,List.map_append,List.map_cons,List.map_nil,←Tm.aX]
def cd (l:List Nat):List (List V):=l.map fun(n:Nat)=>[V.int .i64 (n:Int)]
theorem LQ (l:List Nat) (n:Nat) (h:l.length<2^32) (σ:az):ah C 252 [(.slice 1 3 (cd l),false),(.int .i64 n,false)] σ=some (.ret [(.slice 1 3 (cd (l++[n])),true)],σ):=
 KX (n:=0) <| by
  simp only[Qa,dS,iz,aP]
  rw[cF (show 0+(cd l).length<2^34 by simp[cd];omega),cF (show(cd l).length+1<2^34 by simp[cd];omega)]
  simp only[bz,cond_true,Option.bind_some,cd,List.map_append,List.map_cons,List.map_nil]
theorem LR {N:Nat} {σ:az} {ps:List ByteArray} (hp:ps.length<2^32):∀(m i:Nat),i≤ps.length→ps.length - i<m→
  Dq (ah C) N m (strs ps) (((ps.take i).map Lv.param).map Lv.enc) i σ=some (.ret [(.slice 3 120 ((ps.map Lv.param).map Lv.enc),false)],σ)
 |0,i,_,hm=>by omega
 |m+1,i,hi,hm=>by
  rw[show Dq (ah C) N (m+1)=NV (ah C) (Dq (ah C) N m)from rfl]
  unfold NV bo jq ak iz aP bp aq iP
  rw[cw]
  by_cases aG:i<ps.length
  ·have ih:=LR (N:=N) (σ:=σ) hp m (i+1) (by omega) (by omega)
   rw[List.take_succ_eq_append_getElem aG,List.map_append,List.map_append]at ih
   rw[eD aG,cond_true,d0,Int.toNat_natCast,ib aG]
   simp only[Bool.and_self,bz,cond_true,Option.bind_some,List.getD_cons_zero,show V.fits (V.str ps[i]) false 1=true from rfl]
   rw[cF (by simp;omega),cond_true,Option.bind_some,aw (show i<2^61 by omega)]
   exact ih
  ·rw[cQ aG,cond_false,List.take_of_length_le (by omega)]
theorem YU (ps:List ByteArray) (hp:ps.length<2^32) (σ:az):ah C 253 [(.slice 1 9 (strs ps),false)] σ=some (.ret [(.slice 3 120 ((ps.map Lv.param).map Lv.enc),false)],σ):=
 Vb (n:=ps.length+1) (LR hp (ps.length+1) 0 (Nat.zero_le _) (by omega))
theorem uZ {N:Nat} {σ:az} {qs ps:List ByteArray} (hq:qs.length<2^60) (hp:ps.length<2^60):∀(m i:Nat),i≤qs.length→qs.length - i<m→
  ∃x:Bool,ng (ah C) N m (strs ps) (.slice 1 9 (strs qs)) i σ=some (.ret [(.bool x,false)],σ)
 |0,i,_,hm=>by omega
 |m+1,i,hi,hm=>by
  rw[show ng (ah C) N (m+1)=v8 (ah C) (ng (ah C) N m)from rfl]
  unfold v8 cz bo aE aF ak de cB ae aq bp
  simp only[asN,Option.bind_some,cw]
  by_cases aG:i<qs.length
  ·obtain⟨x,hx⟩:=uZ (N:=N) (σ:=σ) hq hp m (i+1) (by omega) (by omega)
   refine⟨bif has qs[i] ps then x else false,?_⟩
   rw[eD aG,cond_true,d0,Int.toNat_natCast,ib aG]
   simp only[Bool.and_self,bz,cond_true,Option.bind_some,List.getD_cons_zero]
   refine(ab (ph (by omega) qs[i] σ)).trans ?_
   simp only[List.getD_cons_zero,iD,Option.bind_some,aw (show i<2^61 by omega)]
   cases has qs[i] ps
   ·rfl
   ·exact hx
  ·rw[cQ aG];exact⟨true,rfl⟩
theorem ve (l:Lv) (hl:l.size<2^31) (ps:List ByteArray) (hp:ps.length<2^60) (σ:az):∃x:Bool,ah C 257 [(.agg [.int .i64 l.kind,.str l.name,.slice 3 120 l.args],false),(.slice 1 9 (strs ps),false)] σ=some (.ret [(.bool x,false)],σ):=by
 have h1:=sH σ l [] (by simp;omega)
 have l1:=gi l []
 simp only[List.length_nil]at l1
 obtain⟨x,hx⟩:=uZ (N:=(bW l []).length+1) (σ:=σ) (qs:=bW l []) (ps:=ps) (by omega) hp ((bW l []).length+1) 0 (Nat.zero_le _) (by omega)
 refine⟨x,IQ (n:=(bW l []).length+1) ?_⟩
 simp only[declared,aE,bU,AU,ae]
 refine(ab h1).trans ?_
 simp only[List.getD_cons_zero,Bool.and_self,bz,cond_true,Option.bind_some]
 exact hx
theorem Ey {N:Nat} {σ:az} {ps:List ByteArray} (hp:ps.length<2^60):∀(m i:Nat),i≤ps.length→ps.length - i<m→
  ∃x:Bool,xQ (ah C) N m (strs ps) i σ=some (.ret [(.bool x,false)],σ)∧(x=false→ps.length≤6)
 |0,i,_,hm=>by omega
 |m+1,i,hi,hm=>by
  rw[show xQ (ah C) N (m+1)=I8 (ah C) (xQ (ah C) N m)from rfl]
  unfold I8 bo dS aE aF ak de cB ae aq bp
  rw[cw]
  by_cases aG:i<ps.length
  ·obtain⟨x,hx,W6⟩:=Ey (N:=N) (σ:=σ) hp m (i+1) (by omega) (by omega)
   have ht:((strs ps).take (Int.toNat (i:Int))).drop (Int.toNat 0)=strs (ps.take i):=by simp[strs]
   have hle:decide ((i:Int)≤(ps.length:Int))=true:=by simp;omega
   refine⟨bif has ps[i] (ps.take i)then true else x,?_,?_⟩
   ·rw[eD aG,cond_true,d0,ht,hle,Int.toNat_natCast,ib aG]
    simp only[Bool.and_self,bz,cond_true,Option.bind_some,List.getD_cons_zero,show decide ((0:Int)≤0)=true from rfl]
    refine(ab (ph (by simp;omega) ps[i] σ)).trans ?_
    simp only[List.getD_cons_zero,iD,Option.bind_some,aw (show i<2^61 by omega)]
    cases has ps[i] (ps.take i)
    ·exact hx
    ·rfl
   ·cases has ps[i] (ps.take i)
    ·exact W6
    ·intro h;simp at h
  ·refine⟨decide ((ps.length:Int)>6),?_,fun h=>by have:=of_decide_eq_false h;omega⟩
   rw[cQ aG];rfl
theorem Ez (ps:List ByteArray) (hp:ps.length<2^60) (σ:az):∃x:Bool,ah C 169 [(.slice 1 9 (strs ps),false)] σ=some (.ret [(.bool x,false)],σ)∧(x=false→ps.length≤6):=by
 obtain⟨x,hx,h2⟩:=Ey (N:=ps.length+1) (σ:=σ) hp (ps.length+1) 0 (Nat.zero_le _) (by omega)
 exact⟨x,RW (n:=ps.length+1) hx,h2⟩
def dV (s:ByteArray) (E:List bO):Option (List ByteArray×Tm):=match da s E with
 |none=>none
 |some (k,e,i)=>if k=4 then some (e.d.aT,(e.d.ctors.getD i default).2)else if k=5 then some (e.zb,e.rt)else some (e.d.aT,e.d.type)
def typed:Option (List ByteArray×Tm)→List Cell
 |none=>[(.slice 1 9 [],true),((Tm.var 0).val,false),(.bool false,false)]
 |some (ps,t)=>[(.slice 1 9 (strs ps),false),(t.val,false),(.bool true,false)]
theorem jh {s:ByteArray}:∀{E:List bO} {k:Nat} {e:bO} {i:Nat},da s E=some (k,e,i)→e∈E∧ie s e=some (k,i)
 |[],_,_,_,h=>by simp[da]at h
 |e::E,k,e',i,h=>by
  rw[da]at h
  split at h
  ·rename_i k' i' he
   simp only[Option.some.injEq,Prod.mk.injEq]at h
   obtain⟨rfl,rfl,rfl⟩:=h
   exact⟨List.mem_cons_self ..,he⟩
  ·obtain⟨h1,h2⟩:=jh h
   exact⟨List.mem_cons_of_mem _ h1,h2⟩
theorem pQ {s:ByteArray} {e:bO} {i:Nat} (hk:e.d.kind≤3) (h:ie s e=some (4,i)):i<e.d.ctors.length∧∃c,e.d.ctors[i]?=some c∧c.1=s:=by
 unfold ie at h
 split at h
 ·simp only[Option.some.injEq,Prod.mk.injEq]at h;omega
 ·split at h
  ·rename_i k W5
   simp only[Option.some.injEq,Prod.mk.injEq]at h
   obtain⟨_,rfl⟩:=h
   obtain⟨_,h2,c,h3,h4⟩:=kC W5
   exact⟨by omega,c,by simpa using h3,h4⟩
  ·split at h
   ·simp at h
   ·simp at h
theorem dq (e:bO) (j:Nat) (h:j<21):V.cell e.val j=e.enc.getD j V.any:=by unfold bO.val;rw[e.aX];rfl
theorem AQ {σ:az} {b:Nat} {E:List bO} (hb:∀t:TypeId,bu σ (.ptr t b 0) false 1=some (.slice 21 58 (E.map bO.enc))) (hE:MV E) (hK:∀e∈E,1≤e.d.kind∧e.d.kind≤3) (s:ByteArray):
  ah C 16 [(.ptr 49 b 0,false),(.str s,false)] σ=some (.ret (typed (dV s E)),σ):=
 N9 (n:=0) <| by
  have h:=GM hb hE s
  simp only[typeOf,aE,aF,bQ,aH,bb,ae,aC,cz,bo,dc,xh]
  cases hf:da s E with
  |none=>
   rw[hf]at h
   refine(bM h rfl).trans ?_
   simp only[found,List.getD_cons_zero,List.getD_cons_succ,lE,bz,cond_true,Option.bind_some,fT,show(((0:Int))==0)=true from rfl]
   simp only[dV,hf];rfl
  |some p=>
   obtain⟨k,e,i⟩:=p
   rw[hf]at h
   obtain⟨h1,h2⟩:=jh hf
   obtain⟨k1,k3⟩:=hK e h1
   have hk0:1≤k:=by
    unfold ie at h2
    split at h2
    ·simp only[Option.some.injEq,Prod.mk.injEq]at h2;omega
    ·split at h2
     ·simp only[Option.some.injEq,Prod.mk.injEq]at h2;omega
     ·split at h2
      ·simp only[Option.some.injEq,Prod.mk.injEq]at h2;omega
      ·simp at h2
   refine(bM h rfl).trans ?_
   have e0:((k:Int)==0)=false:=by rw[beq_eq_false_iff_ne];omega
   simp only[found,List.getD_cons_zero,List.getD_cons_succ,lE,bz,cond_true,Option.bind_some,fT,e0,cond_false]
   simp only[dV,hf]
   by_cases h4:k=4
   ·subst h4
    obtain⟨aG,c,hc,_⟩:=pQ k3 h2
    have hd:e.d.ctors.getD i default=c:=by rw[List.getD_eq_getElem?_getD,hc];rfl
    rw[if_pos rfl,show(((4:Nat):Int)==4)=true from rfl,cond_true]
    have e14:V.cell e.val 14=.slice 6 60 e.d.aY:=by rw[dq e 14 (by omega),bO.aX];rfl
    have e2:V.cell e.val 2=.slice 1 9 (strs e.d.aT):=by rw[dq e 2 (by omega),bO.aX];rfl
    have hl:e.d.aY.length=e.d.ctors.length:=by simp[Dc.aY]
    have hg:e.d.aY.getD (Int.toNat (i:Int)) []=.str c.1::c.2.enc:=by simp[Dc.aY,hc]
    simp only[e14,e2,V.asSlice,and_self,if_true,Option.bind_some,hl,d0,eD aG,Bool.and_self,cond_true,hg,hd]
    rw[typed]
    have:=bf c.2
    simp only[List.getD_cons_succ,this]
   ·rw[if_neg h4,show((k:Int)==4)=false by rw[beq_eq_false_iff_ne];omega,cond_false]
    by_cases h5:k=5
    ·subst h5
     rw[if_pos rfl,show(((5:Nat):Int)==5)=true from rfl,cond_true]
     rw[dq e 15 (by omega),dq e 16 (by omega),dq e 17 (by omega),dq e 18 (by omega),dq e 19 (by omega),dq e 20 (by omega),bO.aX]
     rfl
    ·rw[if_neg h5,show((k:Int)==5)=false by rw[beq_eq_false_iff_ne];omega,cond_false]
     rw[dq e 2 (by omega),dq e 3 (by omega),dq e 4 (by omega),dq e 5 (by omega),dq e 6 (by omega),dq e 7 (by omega),bO.aX]
     rfl
theorem Pb {σ:az} {b:Nat} {E:List bO} {w:Bool} (hb:σ[b]?=some (aD E w)) (hE:MV E) (hK:∀e∈E,1≤e.d.kind∧e.d.kind≤3) (s:ByteArray):
  ah C 16 [(.ptr 49 b 0,false),(.str s,false)] σ=some (.ret (typed (dV s E)),σ):=AQ (abj hb) hE hK s
theorem GR {σ:az} {b:Nat} {E:List bO} {w:Bool} (hb:σ[b]?=some (aD E w)) (hE:MV E) (hK:∀e∈E,1≤e.d.kind∧e.d.kind≤3) (s:ByteArray):
  ah C 167 [(.ptr 49 b 0,false),(.str s,false)] σ=some (.ret [(.bool (da s E).isSome,false)],σ):=
 Oz (n:=0) <| by
  have h:=El hb hE s
  simp only[VC,aE,aF,bQ,aH,bb,ae,aq]
  refine(bM h (by cases da s E<;>rfl)).trans ?_
  cases hf:da s E with
  |none=>simp only[found,List.getD_cons_zero,List.getD_cons_succ,lE,bz,cond_true,Option.bind_some,fT];rfl
  |some p=>
   obtain⟨k,e,i⟩:=p
   obtain⟨h1,h2⟩:=jh hf
   obtain⟨k1,k3⟩:=hK e h1
   have hk0:1≤k:=by
    unfold ie at h2
    split at h2
    ·simp only[Option.some.injEq,Prod.mk.injEq]at h2;omega
    ·split at h2
     ·simp only[Option.some.injEq,Prod.mk.injEq]at h2;omega
     ·split at h2
      ·simp only[Option.some.injEq,Prod.mk.injEq]at h2;omega
      ·simp at h2
   have e0:((k:Int) != 0)=true:=by rw[bne_iff_ne];omega
   simp only[found,List.getD_cons_zero,List.getD_cons_succ,lE,bz,cond_true,Option.bind_some,fT,e0];rfl
theorem sN {N:Nat} {σ:az} {b:Nat} {E:List bO} {w:Bool} (hb:σ[b]?=some (aD E w)) {t:Tm} (Jq:t.wide<2^32) {ps:List ByteArray} {ls:List Lv} (hl:ps.length=ls.length) (hp:ps.length<2^32) {n:Nat} (hn:n<2^41):
  ∀(m i:Nat) (k:Int),i≤ls.length→ls.length - i<m→∀{t0 t1:Int} {t2:ByteArray} {t3 t4:List (List V)},
   ∃(u:Tm) (w':Bool),ly (ah C) N m b (strs ps) (oE ls) (.int .i64 n) k i t.kind t.num t.name (t.bK.map Lv.enc) t.args t0 t1 t2 t3 t4 σ=some (.ret [(u.val,false)],σ.set b (aD E w'))∧
    (w'=true∧u=Tm.Te∨w=false∧w'=false∧u=gO ps ls t)
 |0,i,_,_,hm=>by omega
 |m+1,i,k,hi,hm=>by
  rename_i t0 t1 t2 t3 t4
  rw[show ly (ah C) N (m+1)=r8 (ah C) (ly (ah C) N m)from rfl]
  unfold r8 bo aE aF ak aP bb ae bp aM aC cj cB aq bH de iP bQ bA
  rw[show(oE ls).length=ls.length by simp[oE]]
  by_cases aG:i<ls.length
  ·obtain⟨x,_,hx⟩:=qR σ ls[i] 20000 (by omega)
   obtain⟨u,w',h1,h2⟩:=sN (N:=N) hb Jq hl hp hn m (i+1) (if k<(x:Int)then(x:Int)else k) (by omega) (by omega) (t0:=t0) (t1:=t1) (t2:=t2) (t3:=t3) (t4:=t4)
   refine⟨u,w',?_,h2⟩
   rw[eD aG,cond_true,d0,show(oE ls).getD (Int.toNat (i:Int)) []=ls[i].enc from jk aG,fU]
   simp only[Bool.and_self,bz,cond_true,Option.bind_some]
   refine(ab hx).trans ?_
   simp only[List.getD_cons_zero,fT,Option.bind_some,aw (show i<2^61 by omega)]
   exact h1
  ·have YQ:=Jo (σ:=σ) hl (by omega) t Jq false false
   rw[cQ aG,cond_false]
   cases w with
   |true=>
    refine⟨Tm.Te,true,?_,.inl ⟨rfl,rfl⟩⟩
    by_cases hle:n≤20000
    ·obtain⟨x,hx⟩:=uX σ t (by omega)
     simp only[fT,Option.bind_some,show decide ((n:Int)≤20000)=true by simp;omega,cond_true]
     refine(ab hx).trans ?_
     simp only[gH hb,iD,Option.bind_some,cond_true,wI hb]
     rfl
    ·simp only[fT,Option.bind_some,show decide ((n:Int)≤20000)=false by simp;omega,cond_false,gH hb,iD,cond_true,wI hb]
     rfl
   |false=>
    by_cases hle:n≤20000
    ·obtain⟨x,hx⟩:=uX σ t (by omega)
     by_cases hg:IntKind.wrap .i64 ((n:Int)+IntKind.wrap .i64 (x*k))>20000
     ·refine⟨Tm.Te,true,?_,.inl ⟨rfl,rfl⟩⟩
      simp only[fT,Option.bind_some,show decide ((n:Int)≤20000)=true by simp;omega,cond_true]
      refine(ab hx).trans ?_
      simp only[gH hb,iD,fT,Option.bind_some,cond_false,List.getD_cons_zero,decide_eq_true hg,cond_true,wI hb]
      rfl
     ·refine⟨gO ps ls t,false,?_,.inr ⟨rfl,rfl,rfl⟩⟩
      simp only[fT,Option.bind_some,show decide ((n:Int)≤20000)=true by simp;omega,cond_true]
      refine(ab hx).trans ?_
      simp only[gH hb,iD,fT,Option.bind_some,cond_false,List.getD_cons_zero,decide_eq_false hg]
      refine(ab YQ).trans ?_
      simp only[List.getD_cons_zero,aL,bz,cond_true,Option.bind_some,cY,dD hb]
    ·by_cases hg:IntKind.wrap .i64 ((n:Int)+IntKind.wrap .i64 ((0:Int)*k))>20000
     ·refine⟨Tm.Te,true,?_,.inl ⟨rfl,rfl⟩⟩
      simp only[fT,Option.bind_some,show decide ((n:Int)≤20000)=false by simp;omega,cond_false,gH hb,iD,decide_eq_true hg,cond_true,wI hb]
      rfl
     ·refine⟨gO ps ls t,false,?_,.inr ⟨rfl,rfl,rfl⟩⟩
      simp only[fT,Option.bind_some,show decide ((n:Int)≤20000)=false by simp;omega,cond_false,gH hb,iD,decide_eq_false hg]
      refine(ab YQ).trans ?_
      simp only[List.getD_cons_zero,aL,bz,cond_true,Option.bind_some,cY,dD hb]
theorem nx {σ:az} {b:Nat} {E:List bO} {w:Bool} (hb:σ[b]?=some (aD E w)) (t:Tm) (Jq:t.wide<2^32) {ps:List ByteArray} {ls:List Lv} (hl:ps.length=ls.length) (hp:ps.length<2^32):
  ∃(u:Tm) (w':Bool),ah C 258 [(.ptr 49 b 0,false),(t.val,false),(.slice 1 9 (strs ps),false),(.slice 3 120 (ls.map Lv.enc),false)] σ=some (.ret [(u.val,false)],σ.set b (aD E w'))∧
   (w'=true∧u=Tm.Te∨w=false∧w'=false∧u=gO ps ls t):=by
 obtain⟨n,c1,h1⟩:=ez σ t Jq 20000 (by omega)
 have:=c1.cap
 obtain⟨u,w',h2,h3⟩:=sN (N:=ls.length+1) hb Jq hl hp (n:=n) (by omega) (ls.length+1) 0 0 (Nat.zero_le _) (by omega) (t0:=0) (t1:=0) (t2:=ByteArray.mk #[]) (t3:=[]) (t4:=[])
 refine⟨u,w',FA (n:=ls.length+1) ?_,h3⟩
 simp only[zC,aE,aF,aC,aP,ae]
 refine(ab h1).trans ?_
 exact h2
end Go.Ab.Mk
end
section
namespace Go.Ab.Mk
open Go.Proofs Go.Ab Go.Proofs.Mk
theorem dge {j:Nat}:decide (((j:Int) - 1)≥0)=decide (0<j):=by
 by_cases h:0<j
 ·rw[decide_eq_true h];exact decide_eq_true (by omega)
 ·rw[decide_eq_false h];exact decide_eq_false (by omega)
theorem Al {j:Nat} (h:0<j) (h2:j<2^60):IntKind.wrap .i64 (((j:Int) - 1) - 1)=(((j - 1:Nat):Int)) - 1:=by
 rw[cG (by omega) (by omega)];omega
theorem ny {j:Nat} (h:0<j):(j:Int) - 1=((j - 1:Nat):Int):=by omega
theorem jD:∀t:Tm,t.spine.length≤t.depth
 |.app a b=>by have:=jD a;simp only[Tm.spine,List.length_append,List.length_singleton,Tm.depth];omega
 |.var _=>Nat.le_refl _
 |.sort _=>Nat.le_refl _
 |.const _ _=>Nat.le_refl _
 |.lam _ _=>Nat.zero_le _
 |.pi _ _=>Nat.zero_le _
 |.bE _ _ _=>Nat.zero_le _
theorem eW:∀t:Tm,cP t≤t.depth
 |.pi a b=>by have:=eW b;simp only[cP,Tm.depth];omega
 |.var _=>Nat.le_refl _
 |.sort _=>Nat.le_refl _
 |.const _ _=>Nat.le_refl _
 |.app _ _=>Nat.zero_le _
 |.lam _ _=>Nat.zero_le _
 |.bE _ _ _=>Nat.zero_le _
theorem j5 (t:Tm) (h:t.depth<2^59) (σ:az):ah C 171 [(t.val,false)] σ=some (.ret [(.int .i64 (cP t:Nat),false)],σ):=
 YG (n:=cP t+1) <| by
  have hp:=eW t
  have:=LM (N:=cP t+1) (σ:=σ) (cP t+1) t 0 (by omega) (by omega)
  rw[Nat.zero_add]at this
  exact this
structure Jd (t:Tm):Prop where
 wide:t.wide<2^32
 depth:t.depth<2^31
 top:t.top<2^48
theorem Jd.Te:Jd Tm.Te:=⟨by decide,by decide,by decide⟩
theorem Jd.of {Q:ByteArray→Nat→Prop} {t:Tm} {n:Nat} (h:br Q t n) (hn:n<2^42) (hp:t.parts≤20000):Jd t:=by
 have:=cU t
 have:=cJ t
 have:=iQ t n h
 exact⟨by omega,by omega,by omega⟩
theorem Jd.lift {t:Tm} (h:Jd t) {k:Nat} (hk:k<2^32) (σ:az):ah C 256 [(t.val,false),(.int .i64 k,false),(.int .i64 (0:Int),false)] σ=some (.ret [((db k t 0).val,false)],σ):=by
 have:=h.top
 have:=h.depth
 have:=Am (n:=k) (by omega) σ t 0 (by omega) (by omega)
 exact this
section
variable {Q:ByteArray→Nat→Prop} {σ:az} {N:Nat} {t0 t1:Int} {t2:ByteArray} {t3 t4:List (List V)} {n:Nat}
theorem GU {xs:List Tm} (hl:xs.length<2^40) (hx:∀(i:Nat) (h:i<xs.length),br Q xs[i] (n+i)) (JP:∀x∈xs,x.wide<2^32):∀(m j:Nat) (h:Tm),j≤xs.length→j<m→h.wide<2^32→br Q h (n+j)→
  ∃u:Tm,zY (ah C) N m (xs.map Tm.enc) ((j:Int) - 1) t0 t1 t2 t3 t4 (.int .i64 h.kind) (.int .i64 h.num) (.str h.name) (.slice 3 120 (h.bK.map Lv.enc)) (.slice 5 53 h.args) σ=some (.ret [(u.val,false)],σ)∧u.wide<2^32∧br Q u n
 |0,j,h,_,hm,_,_=>by omega
 |m+1,j,h,hj,hm,hw,eY=>by
  rw[show zY (ah C) N (m+1)=OX (ah C) (zY (ah C) N m)from rfl]
  unfold OX bo aE aF bJ bF bQ ae cR aq
  rw[dge]
  by_cases h0:0<j
  ·have aG:j - 1<xs.length:=by omega
   obtain⟨u,h1,h2⟩:=GU hl hx JP m (j - 1) (.lam xs[j - 1] h) (by omega) (by omega) (by have:=JP _ (List.getElem_mem aG);simp only[Tm.wide];omega) ⟨hx _ aG,by rw[show n+(j - 1)+1=n+j by omega];exact eY⟩
   refine⟨u,?_,h2⟩
   simp only[decide_eq_true h0,cond_true,ny h0,d0,dB aG,bf,List.length_map,eD aG,Bool.and_self,bz,Option.bind_some]
   refine(ab (Wi xs[j - 1] h σ)).trans ?_
   simp only[List.getD_cons_zero,aL,cond_true,Option.bind_some,cV,dJ,dK,dw,dh]
   rw[←ny h0,Al h0 (by omega)]
   exact h1
  ·obtain rfl:j=0:=by omega
   exact⟨h,rfl,hw,eY⟩
theorem GV {xs:List Tm} (hl:xs.length<2^40) (hx:∀(i:Nat) (h:i<xs.length),br Q xs[i] (n+i)) (JP:∀x∈xs,x.wide<2^32) (hN:xs.length<N) {h:Tm} (hw:h.wide<2^32) (eY:br Q h (n+xs.length)):∀(m j:Nat) (b:Tm),j≤xs.length→j<m→b.wide<2^32→br Q b (n+xs.length)→
  ∃u:Tm,zZ (ah C) N m (.int .i64 (xs.length:Nat)) (xs.map Tm.enc) ((j:Int) - 1) t0 t1 t2 t3 t4 (.int .i64 h.kind) (.int .i64 h.num) (.str h.name) (.slice 3 120 (h.bK.map Lv.enc)) (.slice 5 53 h.args) (.int .i64 b.kind) (.int .i64 b.num) (.str b.name) (.slice 3 120 (b.bK.map Lv.enc)) (.slice 5 53 b.args) σ=some (.ret [(u.val,false)],σ)∧u.wide<2^32∧br Q u n
 |0,j,b,_,hm,_,_=>by omega
 |m+1,j,b,hj,hm,hbw,acE=>by
  rw[show zZ (ah C) N (m+1)=OY (ah C) (zY (ah C) N N) (zZ (ah C) N m)from rfl]
  unfold OY aE aM aP aF bF ae bQ cR bb
  rw[dge]
  by_cases h0:0<j
  ·obtain⟨u,h1,h2⟩:=GV hl hx JP hN hw eY m (j - 1) (.app b (.var (j - 1))) (by omega) (by omega) (by simp only[Tm.wide];omega) ⟨acE,by simp only[br];omega⟩
   refine⟨u,?_,h2⟩
   rw[decide_eq_true h0,cond_true,ny h0]
   refine(ab (yh (j - 1) σ)).trans ?_
   simp only[List.getD_cons_zero]
   refine(ab (fg b (.var (j - 1)) σ)).trans ?_
   simp only[List.getD_cons_zero,aL,bz,cond_true,Option.bind_some,cV,dJ,dK,dw,dh]
   rw[←ny h0,Al h0 (by omega)]
   exact h1
  ·obtain rfl:j=0:=by omega
   obtain⟨u,h1,h2⟩:=GU (N:=N) (σ:=σ) (t0:=t0) (t1:=t1) (t2:=t2) (t3:=t3) (t4:=t4) hl hx JP N xs.length (.app h b) (Nat.le_refl _) hN (by simp only[Tm.wide];omega) ⟨eY,acE⟩
   refine⟨u,?_,h2⟩
   rw[show decide (0<0)=false from rfl,cond_false]
   refine(ab (fg h b σ)).trans ?_
   simp only[List.getD_cons_zero,aL,bz,cond_true,Option.bind_some,cV,dJ,dK,dw,dh,fT]
   rw[show IntKind.wrap .i64 (((xs.length:Nat):Int) - 1)=((xs.length:Nat):Int) - 1 from cG (by omega) (by omega)]
   exact h1
theorem GX {xs sp:List Tm} {a:Tm} (hl:xs.length<2^31) (hx:∀(i:Nat) (h:i<xs.length),br Q xs[i] (n+i)) (JP:∀x∈xs,x.wide<2^32) (hN:xs.length<N) (ha:br Q a n) (Qr:Jd a) (has:∀x∈sp,br Q x (n+xs.length)∧x.wide<2^32) (PI:sp.length<2^60):∀(m i:Nat) (h:Tm),sp.length - i<m→i<2^60→h.wide<2^32→br Q h (n+xs.length)→
  ∃u:Tm,Aa (ah C) N m (.int .i64 (xs.length:Nat)) (xs.map Tm.enc) (.slice 5 53 (sp.map Tm.enc)) i a.kind a.num a.name (a.bK.map Lv.enc) a.args t0 t1 t2 t3 t4 (.int .i64 h.kind) (.int .i64 h.num) (.str h.name) (.slice 3 120 (h.bK.map Lv.enc)) (.slice 5 53 h.args) σ=some (.ret [(u.val,false)],σ)∧u.wide<2^32∧br Q u n
 |0,i,h,hm,_,_,_=>by omega
 |m+1,i,h,hm,hi,hw,eY=>by
  rw[show Aa (ah C) N (m+1)=OZ (ah C) (zZ (ah C) N N) (Aa (ah C) N m)from rfl]
  unfold OZ cz bo aE aF bF bJ bQ ae cR bp bH aC aP bb
  simp only[BH,Option.bind_some,List.length_map]
  by_cases aG:i<sp.length
  ·obtain⟨q1,q2⟩:=has _ (List.getElem_mem aG)
   obtain⟨u,h1,h2⟩:=GX hl hx JP hN ha Qr has PI m (i+1) (.app h sp[i]) (by omega) (by omega) (by simp only[Tm.wide];omega) ⟨eY,q1⟩
   refine⟨u,?_,h2⟩
   rw[eD aG,cond_true,d0,dB aG,bf]
   simp only[Bool.and_self,bz,cond_true,Option.bind_some]
   refine(ab (fg h sp[i] σ)).trans ?_
   simp only[List.getD_cons_zero,aL,cond_true,Option.bind_some,cV,dJ,dK,dw,dh,aw (show i<2^61 by omega)]
   exact h1
  ·obtain⟨u,h1,h2⟩:=GV (N:=N) (σ:=σ) (t0:=t0) (t1:=t1) (t2:=t2) (t3:=t3) (t4:=t4) (by omega) hx JP hN hw eY N xs.length (db xs.length a 0) (Nat.le_refl _) hN (by rw[(ff _ a 0).1];exact Qr.wide) (gD _ a 0 n ha)
   refine⟨u,?_,h2⟩
   rw[cQ aG,cond_false]
   refine(ab (Qr.lift (by omega) σ)).trans ?_
   simp only[List.getD_cons_zero,aL,bz,cond_true,Option.bind_some,cV,dJ,dK,dw,dh,fT]
   rw[show IntKind.wrap .i64 (((xs.length:Nat):Int) - 1)=((xs.length:Nat):Int) - 1 from cG (by omega) (by omega)]
   exact h1
theorem GY {xs sp fs:List Tm} {a:Tm} {p:Nat} (hl:xs.length<2^31) (hx:∀(i:Nat) (h:i<xs.length),br Q xs[i] (n+i)) (JP:∀x∈xs,x.wide<2^32) (hN:xs.length<N) (hN2:sp.length<N) (hp:p<2^60) (ha:br Q a n) (Qr:Jd a) (has:∀x∈sp,br Q x (n+xs.length)∧x.wide<2^32) (PI:sp.length<2^60) (JW:∀x∈fs,br Q x n∧Jd x) (rj:fs.length<2^60):∀(m i:Nat) (h:Tm),i≤fs.length→fs.length - i<m→h.wide<2^32→br Q h (n+xs.length)→
  ∃u:Tm,Ac (ah C) N m (fs.map Tm.enc) p (.int .i64 (xs.length:Nat)) (xs.map Tm.enc) (.slice 5 53 (sp.map Tm.enc)) i a.kind a.num a.name (a.bK.map Lv.enc) a.args t0 t1 t2 t3 t4 (.int .i64 h.kind) (.int .i64 h.num) (.str h.name) (.slice 3 120 (h.bK.map Lv.enc)) (.slice 5 53 h.args) σ=some (.ret [(u.val,false)],σ)∧u.wide<2^32∧br Q u n
 |0,i,h,_,hm,_,_=>by omega
 |m+1,i,h,hi,hm,hw,eY=>by
  rw[show Ac (ah C) N (m+1)=O0 (ah C) (Aa (ah C) N N) (Ac (ah C) N m)from rfl]
  unfold O0 bo aE bH bJ aP aF bF ae bQ cR bp
  rw[List.length_map]
  by_cases aG:i<fs.length
  ·obtain⟨q1,q2⟩:=JW _ (List.getElem_mem aG)
   obtain⟨u,h1,h2⟩:=GY hl hx JP hN hN2 hp ha Qr has PI JW rj m (i+1) (.app h (db xs.length fs[i] 0)) (by omega) (by omega) (by have:=q2.wide;simp only[Tm.wide,(ff xs.length fs[i] 0).1];omega) ⟨eY,gD _ _ 0 n q1⟩
   refine⟨u,?_,h2⟩
   rw[eD aG,cond_true,d0,dB aG,bf]
   simp only[Bool.and_self,bz,cond_true,Option.bind_some]
   refine(ab (q2.lift (by omega) σ)).trans ?_
   simp only[List.getD_cons_zero]
   refine(ab (fg h (db xs.length fs[i] 0) σ)).trans ?_
   simp only[List.getD_cons_zero,aL,cond_true,Option.bind_some,cV,dJ,dK,dw,dh,aw (show i<2^61 by omega)]
   exact h1
  ·rw[cQ aG,cond_false]
   exact GX hl hx JP hN ha Qr has PI N p h (by omega) hp hw eY
end
def Pc (Q:ByteArray→Nat→Prop) (σ:az) (b:Nat) (E:List bO) (w:Bool) (n:Nat) (r:Option aQ):Prop:=
 ∃(u:Tm) (w':Bool),r=some (.ret [(u.val,false)],σ.set b (aD E w'))∧u.wide<2^32∧(w=true→w'=true)∧(w'=false→br Q u n)
section
variable {Q:ByteArray→Nat→Prop} {σ:az} {b:Nat} {E:List bO} {w:Bool} {N:Nat} {t0 t1:Int} {t2:ByteArray} {t3 t4:List (List V)} {n:Nat} {rec a:Tm} {fs:List Tm} {p:Nat}
theorem GZ (hb:σ[b]?=some (aD E w)) (hr:br Q rec n) (Z5:Jd rec) (hp:p<2^60) (ha:br Q a n) (Qr:Jd a) (JW:∀x∈fs,br Q x n∧Jd x) (rj:fs.length<2^32) (hN:2^33≤N) {q:Nat} (hq:q<2^31):
  ∀(m i:Nat) (xs:List Tm) (t:Tm),xs.length=i→i+cP t=q→cP t<m→Jd t→(w=false→br Q t (n+i)∧∀(k:Nat) (h:k<xs.length),br Q xs[k] (n+k))→(∀x∈xs,x.wide<2^32)→
   Pc Q σ b E w n (Ad (ah C) N m b (fs.map Tm.enc) p (.int .i64 q) (xs.map Tm.enc) i rec.kind rec.num rec.name (rec.bK.map Lv.enc) rec.args (.int .i64 t.kind) (.int .i64 t.num) (.str t.name) (.slice 3 120 (t.bK.map Lv.enc)) (.slice 5 53 t.args) a.kind a.num a.name (a.bK.map Lv.enc) a.args t0 t1 t2 t3 t4 σ)
 |0,i,xs,t,_,_,hm,_,_,_=>by omega
 |m+1,i,xs,t,hi,hiq,hm,hJ,eY,JP=>by
  rw[show Ad (ah C) N (m+1)=O1 (ah C) (Ac (ah C) N N) (Ad (ah C) N m)from rfl]
  unfold O1 bb cz bo iz gr ak bp aE aM bF bQ ae cj cB aq bH aC aP cR aH
  simp only[fT,Option.bind_some]
  by_cases aG:i<q
  ·obtain⟨A,B,rfl⟩:∃A B,t=.pi A B:=by cases t<;>simp only[cP]at hiq<;>first|omega|exact⟨_,_,rfl⟩
   have hw:=hJ.wide
   have hd:=hJ.depth
   have ht:=hJ.top
   simp only[Tm.wide]at hw
   simp only[Tm.depth]at hd
   simp only[Tm.top]at ht
   simp only[cP]at hiq hm
   have ih:=GZ hb hr Z5 hp ha Qr JW rj hN hq m (i+1) (xs++[A]) B (by simp[hi]) (by omega) (by omega) ⟨by omega,by omega,by omega⟩ (fun h0=>by
    obtain⟨k1,k2⟩:=eY h0
    refine⟨k1.2,fun k hk=>?_⟩
    by_cases lK:k<xs.length
    ·rw[List.getElem_append_left lK];exact k2 k lK
    ·simp only[List.length_append,List.length_singleton]at hk
     have:k=xs.length:=by omega
     subst this
     rw[List.getElem_append_right (Nat.le_refl _)]
     simp only[Nat.sub_self,List.getElem_cons_zero]
     rw[hi];exact k1.1) (fun x hx=>by
    rcases List.mem_append.1 hx with hx|hx
    ·exact JP x hx
    ·rw[List.mem_singleton]at hx;subst hx;omega)
   rw[eD aG,cond_true]
   simp only[BH,Option.bind_some,kY,nE,uD,rr,oG,nF,bz,cond_true,Jr,cF (show(xs.map Tm.enc).length+1<2^34 by simp;omega),aw (show i<2^61 by omega),gf,gI,jz,jA,jC]
   rw[List.map_append,List.map_cons,List.map_nil,A.aX]at ih
   exact ih
  ·have hq':i=q:=by omega
   have jP:=jD t
   have hJd:=hJ.depth
   have hs:=ik t (by omega) σ
   rw[cQ aG,cond_false]
   cases w with
   |true=>
    refine⟨t,true,?_,hJ.wide,fun _=>rfl,fun h=>by simp at h⟩
    refine(aW hs).trans ?_
    simp only[List.getD_cons_zero,aL,bz,cond_true,Option.bind_some,gH hb,iD,dD hb]
    rfl
   |false=>
    obtain⟨k1,k2⟩:=eY rfl
    obtain⟨s1,s2⟩:=nu t _ k1
    obtain⟨w1,w2⟩:=Eh t
    have hwt:=hJ.wide
    obtain⟨u,h1,h2,h3⟩:=GY (Q:=Q) (σ:=σ) (N:=N) (t0:=t0) (t1:=t1) (t2:=t2) (t3:=t3) (t4:=t4) (n:=n) (xs:=xs) (sp:=t.spine) (fs:=fs) (a:=a) (p:=p) (by omega) k2 JP (by omega) (by omega) hp ha Qr (fun x hx=>⟨by rw[hi];exact s2 x hx,by have:=w2 x hx;omega⟩) (by omega) JW (by omega) N 0 (db q rec 0) (Nat.zero_le _) (by omega) (by rw[(ff q rec 0).1];exact Z5.wide) (by rw[hi,hq'];exact gD q rec 0 n hr)
    refine⟨u,false,?_,h2,fun h=>by simp at h,fun _=>h3⟩
    refine(aW hs).trans ?_
    simp only[List.getD_cons_zero,List.getD_cons_succ,aL,bz,cond_true,Option.bind_some,gH hb,iD,cond_false]
    refine(ab (Z5.lift (k:=q) (by omega) σ)).trans ?_
    simp only[List.getD_cons_zero,aL,bz,cond_true,Option.bind_some,cV,dJ,dK,dw,dh,dD hb]
    rw[hi,hq']at h1
    exact h1
end
end Go.Ab.Mk
end
section
namespace Go.Ab.Mk
open Go.Proofs Go.Ab Go.Proofs.Mk
theorem Pc.after {Q:ByteArray→Nat→Prop} {σ:az} {b:Nat} {E:List bO} {w w1:Bool} {n:Nat} {r:Option aQ} (h:Pc Q (σ.set b (aD E w1)) b E w1 n r) (hw:w=true→w1=true):Pc Q σ b E w n r:=by
 obtain⟨u,w',h1,h2,h3,h4⟩:=h
 exact⟨u,w',by rw[h1,List.set_set],h2,fun h=>h3 (hw h),h4⟩
section
variable {Q:ByteArray→Nat→Prop} {b:Nat} {E:List bO} {N:Nat} {t0 t1:Int} {t2:ByteArray} {t3 t4:List (List V)} {n:Nat} {rec a:Tm} {fs gs:List Tm} {p:Nat}
theorem G3 (hn:n<2^40) (hr:br Q rec n) (Z5:Jd rec) (hp:p<2^60) (ha:br Q a n) (Qr:Jd a) (JW:∀x∈fs,br Q x n∧Jd x) (rj:fs.length<2^32) (Tb:∀x∈gs,br Q x n∧Jd x) (yN:gs.length<2^32) (hN:2^33≤N):
    ∀(m j:Nat) (t:Tm) (w:Bool) (σ:az),σ[b]?=some (aD E w)→j≤gs.length→j<m→Jd t→(w=false→br Q t (n+j))→
     Pc Q σ b E w n (Eb (ah C) N m b (fs.map Tm.enc) p (gs.map Tm.enc) ((j:Int) - 1) rec.kind rec.num rec.name (rec.bK.map Lv.enc) rec.args (.int .i64 t.kind) (.int .i64 t.num) (.str t.name) (.slice 3 120 (t.bK.map Lv.enc)) (.slice 5 53 t.args) a.kind a.num a.name (a.bK.map Lv.enc) a.args t0 t1 t2 t3 t4 σ)
  |0,j,t,w,σ,_,_,hm,_,_=>by omega
  |m+1,j,t,w,σ,hb,hj,hm,hJ,eY=>by
   rw[show Eb (ah C) N (m+1)=O2 (ah C) (Ad (ah C) N N) (Eb (ah C) N m)from rfl]
   unfold O2 bo aE bH bJ aP bF ae bQ cR aM
   rw[dge]
   by_cases h0:0<j
   · have aG:j - 1<gs.length:=by omega
     obtain⟨g1,g2⟩:=Tb _ (List.getElem_mem aG)
     obtain⟨lw,ld,_⟩:=ff (j - 1) gs[j - 1] 0
     have hv:=gD (Q:=Q) (j - 1) gs[j - 1] 0 n g1
     have hvt:=iQ _ _ hv
     have gw:=g2.wide
     have gd:=g2.depth
     have tw:=hJ.wide
     have tt:=hJ.top
     obtain⟨u,w1,h1,h2⟩:=iX hb t (db (j - 1) gs[j - 1] 0) tw (by omega) (by omega) (by omega) (by omega)
     have jc:(σ.set b (aD E w1))[b]?=some (aD E w1):=aS hb
     have ih:=G3 hn hr Z5 hp ha Qr JW rj Tb yN hN m (j - 1) u w1 _ jc (by omega) (by omega)
       (by rcases h2 with⟨_,rfl⟩|⟨e1,_,rfl,_,e5⟩
           · exact Jd.Te
           · refine Jd.of (eB (Q:=Q) (n:=n+(j - 1)) hv t 0 (by rw[show n+(j - 1)+0+1=n+j by omega];exact eY e1)) (by omega) e5)
       (fun hw=>by
         rcases h2 with⟨e,_⟩|⟨e1,_,rfl,_,_⟩
         · rw[e]at hw;simp at hw
         · exact eB (Q:=Q) (n:=n+(j - 1)) hv t 0 (by rw[show n+(j - 1)+0+1=n+j by omega];exact eY e1))
     refine Pc.after (w1:=w1) ?_ (fun hw=>by rcases h2 with⟨e,_⟩|⟨e,_⟩;· exact e
                                             · rw[e]at hw;simp at hw)
     have hlf:=g2.lift (k:=j - 1) (by omega) σ
     have e:∀(K:List Cell→az→Option aQ) KP,aA (ah C) 256 [(gs[j - 1].val,false),(.int .i64 ((j - 1:Nat):Int),false),(.int .i64 (0:Int),false)] σ 1 K KP=K [((db (j - 1) gs[j - 1] 0).val,false)] σ:=fun K KP=>ab hlf
     simp only[decide_eq_true h0,cond_true,ny h0,d0,dB aG,bf,List.length_map,eD aG,Bool.and_self,bz,Option.bind_some,e,List.getD_cons_zero]
     have e2:∀(K:List Cell→az→Option aQ) KP,aA (ah C) 260 [(.ptr 49 b 0,false),(t.val,false),((db (j - 1) gs[j - 1] 0).val,false)] σ 1 K KP=K [(u.val,false)] (σ.set b (aD E w1)):=fun K KP=>ab h1
     simp only[cK,e2,List.getD_cons_zero,aL,cond_true,Option.bind_some,cV,dJ,dK,dw,dh]
     rw[←ny h0,Al h0 (by omega)]
     exact ih
   · obtain rfl:j=0:=by omega
     have hd:=hJ.depth
     have hpd:=eW t
     have YV:=j5 t (by omega) σ
     have h1:=GZ (Q:=Q) (N:=N) (t0:=t0) (t1:=t1) (t2:=t2) (t3:=t3) (t4:=t4) hb hr Z5 hp ha Qr JW rj hN (q:=cP t) (by omega) N 0 [] t rfl (by omega) (by omega) hJ (fun hw=>⟨eY hw,fun k h=>by simp at h⟩) (by simp)
     have e:∀(K:List Cell→az→Option aQ) KP,aA (ah C) 171 [(t.val,false)] σ 1 K KP=K [(.int .i64 (cP t:Nat),false)] σ:=fun K KP=>ab YV
     rw[show decide (0<0)=false from rfl,cond_false]
     simp only[cK,e,List.getD_cons_zero]
     exact h1
theorem Wm (hn:n<2^40) (hr:br Q rec n) (Z5:Jd rec) (hp:p<2^60) (ha:br Q a n) (Qr:Jd a) (JW:∀x∈fs,br Q x n∧Jd x) (rj:fs.length<2^32) (Tb:∀x∈gs,br Q x n∧Jd x) (yN:gs.length<2^32) {t:Tm} {w:Bool} {σ:az} (hb:σ[b]?=some (aD E w)) (hJ:Jd t) (eY:w=false→br Q t (n+gs.length)):
  Pc Q σ b E w n (ah C 280 [(.ptr 49 b 0,false),(rec.val,false),(.slice 5 53 (fs.map Tm.enc),false),(.int .i64 p,false),(t.val,false),(.slice 5 53 (gs.map Tm.enc),false),(a.val,false)] σ):=by
 have h:=G3 (N:=2^33) (t0:=0) (t1:=0) (t2:=ByteArray.mk #[]) (t3:=[]) (t4:=[]) hn hr Z5 hp ha Qr JW rj Tb yN (Nat.le_refl _) (2^33) gs.length t w σ hb (Nat.le_refl _) (by omega) hJ eY
 obtain⟨u,w',h1,h2⟩:=h
 refine⟨u,w',V7 (n:=2^33) ?_,h2⟩
 simp only[aa9,aP,iP,dk,List.length_map]
 rw[cG (x:=((gs.length:Nat):Int) - 1) (by omega) (by omega)]
 exact h1
end
end Go.Ab.Mk
end
section
namespace Go.Ab.Mk
open Go.Proofs Go.Ab Go.Proofs.Mk
def Sr (Q:ByteArray→Nat→Prop) (σ:az) (b:Nat) (E:List bO) (w:Bool) (n:Nat) (r:Option aQ):Prop:=
 ∃(u:Tm) (w':Bool),r=some (.ret [(u.val,false),(.bool true,false)],σ.set b (aD E w'))∧u.wide<2^32∧(w=true→w'=true)∧(w'=false→br Q u n∧u.parts≤20000)
theorem Sr.after {Q:ByteArray→Nat→Prop} {σ:az} {b:Nat} {E:List bO} {w w1:Bool} {n:Nat} {r:Option aQ} (h:Sr Q (σ.set b (aD E w1)) b E w1 n r) (hw:w=true→w1=true):Sr Q σ b E w n r:=by
 obtain⟨u,w',h1,h2,h3,h4⟩:=h
 exact⟨u,w',by rw[h1,List.set_set],h2,fun h=>h3 (hw h),h4⟩
section
variable {Q:ByteArray→Nat→Prop} {σ:az} {b:Nat} {E:List bO} {w:Bool} {N:Nat} {t0 t1:Int} {t2:ByteArray} {t3 t4:List (List V)} {n:Nat} {sp:List Tm}
theorem EA (hb:σ[b]?=some (aD E w)) (jP:∀x∈sp,br Q x n∧Jd x) (hl:sp.length<2^32):∀(m j:Nat) (out:Tm),sp.length - j<m→j<2^40→out.wide<2^32→(w=false→br Q out n)→
  Sr Q σ b E w n (zD (ah C) N m b (sp.map Tm.enc) j t0 t1 t2 t3 t4 (.int .i64 out.kind) (.int .i64 out.num) (.str out.name) (.slice 3 120 (out.bK.map Lv.enc)) (.slice 5 53 out.args) σ)
 |0,j,out,hm,_,_,_=>by omega
 |m+1,j,out,hm,hj,hw,eY=>by
  rw[show zD (ah C) N (m+1)=N1 (ah C) (zD (ah C) N m)from rfl]
  unfold N1 bo aE aF bF bJ bQ ae cR bp aP cj cB cq bb
  rw[List.length_map]
  by_cases aG:j<sp.length
  ·obtain⟨q1,q2⟩:=jP _ (List.getElem_mem aG)
   have q3:=q2.wide
   have ih:=EA hb jP hl m (j+1) (.app out sp[j]) (by omega) (by omega) (by simp only[Tm.wide];omega) (fun h=>⟨eY h,q1⟩)
   have e:∀(K:List Cell→az→Option aQ) KP,aA (ah C) 228 [(out.val,false),(sp[j].val,false)] σ 1 K KP=K [((Tm.app out sp[j]).val,false)] σ:=fun K KP=>ab (fg out sp[j] σ)
   simp only[eD aG,cond_true,d0,dB aG,bf,Bool.and_self,bz,Option.bind_some,cK,e,List.getD_cons_zero,aL,cV,dJ,dK,dw,dh,aw (show j<2^61 by omega)]
   exact ih
  ·obtain⟨x,c1,hx⟩:=ez σ out hw 20000 (by omega)
   have e:∀(K:List Cell→az→Option aQ) KP,aA (ah C) 231 [(out.val,false),(.int .i64 ((20000:Nat):Int),false)] σ 1 K KP=K [(.int .i64 x,false)] σ:=fun K KP=>ab hx
   have e':((20000:Nat):Int)=20000:=rfl
   rw[e']at e
   rw[cQ aG,cond_false]
   simp only[cK,e,List.getD_cons_zero,fT,Option.bind_some,gH hb,iD]
   cases w with
   |true=>
    refine⟨out,true,?_,hw,fun _=>rfl,fun h=>by simp at h⟩
    simp only[cond_true,wI hb,Option.bind_some]
   |false=>
    refine⟨out,decide ((x:Int)>20000),?_,hw,fun h=>by simp at h,fun h=>⟨eY rfl,?_⟩⟩
    ·simp only[cond_false,wI hb,Option.bind_some]
    ·have h:=of_decide_eq_false h
     by_cases hp:out.parts≤20000
     ·exact hp
     ·have:=c1.more (by omega);omega
end
section
variable {Q:ByteArray→Nat→Prop} {b:Nat} {E:List bO} {N:Nat} {t0 t1:Int} {t2:ByteArray} {t3 t4:List (List V)} {n:Nat} {sp cs:List Tm} {h:Tm} {p k vat:Nat}
 {c0:Int} {nm:ByteArray} {c2:List (List V)} {c3 c4:Int} {c5:ByteArray} {c6 c7:List (List V)} {c8 c9:Int} {c10:ByteArray} {c11 c12:List (List V)} {c13:Int} {c14:List (List V)}
theorem qy (hn:n<2^40) (hh:br Q h n) (Xf:Jd h) (jP:∀x∈sp,br Q x n∧Jd x) (hl:sp.length<2^32) (hcs:∀x∈cs,br Q x n∧Jd x) (gE:cs.length<2^32) (JO:p+1+k≤sp.length) (hv:vat<2^34) (hN:2^33≤N):
  ∀(m j:Nat) (gs:List Tm) (t out:Tm) (w:Bool) (σ:az),σ[b]?=some (aD E w)→j≤cs.length→cs.length - j<m→gs.length=max p j→(∀x∈gs,br Q x n∧Jd x)→cP t=cs.length - j→Jd t→br Q t (n+j)→out.wide<2^32→(w=false→br Q out n)→
   Sr Q σ b E w n (zE (ah C) N m b (sp.map Tm.enc) p k vat (.slice 5 53 (cs.map Tm.enc)) (gs.map Tm.enc) j h.kind h.num h.name (h.bK.map Lv.enc) h.args t0 t1 t2 t3 t4 c0 nm c2 c3 c4 c5 c6 c7 c8 c9 c10 c11 c12 c13 c14
    (.int .i64 out.kind) (.int .i64 out.num) (.str out.name) (.slice 3 120 (out.bK.map Lv.enc)) (.slice 5 53 out.args) (.int .i64 t.kind) (.int .i64 t.num) (.str t.name) (.slice 3 120 (t.bK.map Lv.enc)) (.slice 5 53 t.args) σ)
 |0,j,gs,t,out,w,σ,_,_,hm,_,_,_,_,_,_,_=>by omega
 |m+1,j,gs,t,out,w,σ,hb,hj,hm,yN,Tb,YV,hJ,eY,how,YO=>by
  rw[show zE (ah C) N (m+1)=N2 (ah C) (zD (ah C) N N) (zE (ah C) N m)from rfl]
  unfold N2 UR cz bo aE aF bJ cB ae dS bp Yb aC dk aP bF bQ iz gr cR ak
  simp only[BH,Option.bind_some,List.length_map]
  by_cases aG:j<cs.length
  ·obtain⟨A,B,rfl⟩:∃A B,t=.pi A B:=by cases t<;>simp only[cP]at YV<;>first|omega|exact⟨_,_,rfl⟩
   have tw:=hJ.wide
   have td:=hJ.depth
   have tt:=hJ.top
   simp only[Tm.wide]at tw
   simp only[Tm.depth]at td
   simp only[Tm.top]at tt
   simp only[cP]at YV
   have JA:Jd A:=⟨by omega,by omega,by omega⟩
   have JB:Jd B:=⟨by omega,by omega,by omega⟩
   obtain⟨oA,oB⟩:=eY
   have oB:br Q B (n+(j+1)):=oB
   obtain⟨cj1,cj2⟩:=hcs _ (List.getElem_mem aG)
   have hrc:∀(K:List Cell→az→Option aQ) KP,aA (ah C) 279 [(A.val,false),(.str nm,false)] σ 1 K KP=K [(.bool (lV (Eu nm) A 0),false)] σ:=fun K KP=>ab (FP A nm σ)
   have cC:room ((gs.map Tm.enc).length+1)=true:=cF (by rw[List.length_map];omega)
   rw[List.length_map]at cC
   have tC:IntKind.wrap .i64 ((p:Int)+1)=((p+1:Nat):Int):=aw (by omega)
   have FQ:IntKind.wrap .i64 (((p+1:Nat):Int)+(k:Int))=((p+1+k:Nat):Int):=wrap_add (by omega)
   have rj:(((sp.map Tm.enc).take (Int.toNat ((p+1+k:Nat):Int))).drop (Int.toNat (0:Int)))=(sp.take (p+1+k)).map Tm.enc:=by rw[Int.toNat_natCast,show Int.toNat (0:Int)=0 from rfl,List.drop_zero,List.map_take]
   have hle:decide (((p+1+k:Nat):Int)≤((sp.length:Nat):Int))=true:=by simp;omega
   have abk:decide ((0:Int)≤0)=true:=rfl
   simp only[eD aG,cond_true,kY,nE,uD,bz,Option.bind_some,oG,bf,hrc,List.getD_cons_zero]
   by_cases hp:p≤j
   ·have hpj:decide ((j:Int)≥(p:Int))=true:=by simp;omega
    have By:gs.length=j:=by omega
    have acF:∀x∈gs++[cs[j]],br Q x n∧Jd x:=fun x hx=>by
     rcases List.mem_append.1 hx with hx|hx
     ·exact Tb x hx
     ·rw[List.mem_singleton]at hx;subst hx;exact⟨cj1,cj2⟩
    have Zv:(gs++[cs[j]]).map Tm.enc=gs.map Tm.enc++[[.int .i64 (cs[j]).kind,.int .i64 (cs[j]).num,.str (cs[j]).name,.slice 3 120 ((cs[j]).bK.map Lv.enc),.slice 5 53 (cs[j]).args]]:=by
     rw[List.map_append,List.map_cons,List.map_nil,(cs[j]).aX]
    cases hx:lV (Eu nm) A 0 with
    |true=>
     have hH:=Wm (Q:=Q) (b:=b) (E:=E) (n:=n) (rec:=h) (a:=cs[j]) (fs:=sp.take (p+1+k)) (gs:=gs) (p:=p) hn hh Xf (by omega) cj1 cj2 (fun x hx=>jP x (List.mem_of_mem_take hx)) (by simp;omega) Tb (by omega) (t:=A) (w:=w) hb JA (fun _=>by rw[By];exact oA)
     obtain⟨u1,w1,h1,h2,h3,h4⟩:=hH
     have jc:(σ.set b (aD E w1))[b]?=some (aD E w1):=aS hb
     have adP:w1=false→w=false:=fun hw=>by
      cases w with
      |false=>rfl
      |true=>rw[h3 rfl]at hw;simp at hw
     have ih:=qy hn hh Xf jP hl hcs gE JO hv hN m (j+1) (gs++[cs[j]]) B (.app out u1) w1 _ jc (by omega) (by omega) (by rw[List.length_append,List.length_singleton];omega) acF (by omega) JB oB (by simp only[Tm.wide];omega) (fun hw=>⟨YO (adP hw),h4 hw⟩)
     refine Sr.after (w1:=w1) ?_ h3
     rw[Zv]at ih
     have e1:∀(K:List Cell→az→Option aQ) KP,aA (ah C) 280 [(.ptr 49 b 0,false),(h.val,false),(.slice 5 53 ((sp.take (p+1+k)).map Tm.enc),false),(.int .i64 p,false),(A.val,false),(.slice 5 53 (gs.map Tm.enc),false),((cs[j]).val,false)] σ 1 K KP=K [(u1.val,false)] (σ.set b (aD E w1)):=fun K KP=>ab h1
     have e2:∀(K:List Cell→az→Option aQ) KP,aA (ah C) 228 [(out.val,false),(u1.val,false)] (σ.set b (aD E w1)) 1 K KP=K [((Tm.app out u1).val,false)] (σ.set b (aD E w1)):=fun K KP=>ab (fg out u1 _)
     simp only[hpj,iD,Option.bind_some,cond_true,tC,FQ,rj,hle,d0,abk,Bool.and_self,kY,nE,uD,rr,oG,nF,eD aG,dB aG,bf,cK,e1,e2,List.getD_cons_zero,aL,cC,cV,dJ,dK,dw,dh,gf,gI,jz,jA,jC,aw (show j<2^61 by omega)]
     exact ih
    |false=>
     have ih:=qy hn hh Xf jP hl hcs gE JO hv hN m (j+1) (gs++[cs[j]]) B out w σ hb (by omega) (by omega) (by rw[List.length_append,List.length_singleton];omega) acF (by omega) JB oB how YO
     rw[Zv]at ih
     simp only[hpj,iD,Option.bind_some,cond_true,cond_false,d0,Bool.and_self,nE,rr,nF,eD aG,dB aG,cC,gf,gI,jz,jA,jC,aw (show j<2^61 by omega)]
     exact ih
   ·have hpj:decide ((j:Int)≥(p:Int))=false:=by simp;omega
    have ih:=qy hn hh Xf jP hl hcs gE JO hv hN m (j+1) gs B out w σ hb (by omega) (by omega) (by omega) Tb (by omega) JB oB how YO
    simp only[hpj,cond_false,nE,rr,nF,cond_true,Option.bind_some,gf,gI,jz,jA,jC,aw (show j<2^61 by omega)]
    exact ih
  ·rw[cQ aG,cond_false,aw (show vat<2^61 by omega)]
   exact EA hb jP hl N (vat+1) out (by omega) (by omega) how YO
end
end Go.Ab.Mk
end
section
namespace Go.Ab.Mk
open Go.Proofs Go.Ab Go.Proofs.Mk
def QE (E:List bO) (s:ByteArray) (k:Nat):Prop:=∃ps t,dV s E=some (ps,t)∧ps.length=k
structure Ba (E:List bO) (e:bO):Prop where
 kind:1≤e.d.kind∧e.d.kind≤3
 name:e.d.name.size<1000
 XN:e.d.ctors.length<2^20
 aT:e.d.aT.length<2^20
 zb:e.zb.length<2^20
 type:br (QE E) e.d.type 0∧Jd e.d.type
 value:br (QE E) e.d.value 0∧Jd e.d.value∨e.d.kind≠2
 ctors:∀c∈e.d.ctors,br (QE E) c.2 0∧Jd c.2
 rt:br (QE E) e.rt 0∧Jd e.rt∨e.d.kind≠3
 arity:e.d.kind=3→e.d.arity≤cP e.d.type
structure dj (E:List bO):Prop where
 len:E.length<2^20
 MY:∀e∈E,Ba E e
 uniq:∀e∈E,∀e'∈E,e.d.name=e'.d.name→e=e'
theorem dj.n {E:List bO} (h:dj E):MV E:=⟨by have:=h.len;omega,fun e he=>⟨(h.MY e he).name,by have:=(h.MY e he).XN;omega⟩⟩
theorem Jd.lev {t:Tm} (h:Jd t) (ps:List ByteArray) (ls:List Lv):Jd (gO ps ls t):=by
 obtain⟨a1,a2,a3,_⟩:=lU ps ls t
 exact⟨by rw[a1];exact h.wide,by rw[a2];exact h.depth,by rw[a3];exact h.top⟩
theorem Jd.spine {t:Tm} (h:Jd t):Jd t.head∧∀a∈t.spine,Jd a:=by
 have key:∀t:Tm,t.head.wide≤t.wide∧t.head.depth≤t.depth∧t.head.top≤t.top∧∀a∈t.spine,a.wide≤t.wide∧a.depth≤t.depth∧a.top≤t.top:=by
  intro t
  induction t with
  |app a b iha _=>
   obtain⟨h1,h2,h3,h4⟩:=iha
   refine⟨by simp only[Tm.head,Tm.wide];omega,by simp only[Tm.head,Tm.depth];omega,by simp only[Tm.head,Tm.top];omega,fun c hc=>?_⟩
   rcases List.mem_append.1 hc with hc|hc
   ·obtain⟨k1,k2,k3⟩:=h4 c hc
    exact⟨by simp only[Tm.wide];omega,by simp only[Tm.depth];omega,by simp only[Tm.top];omega⟩
   ·rw[List.mem_singleton]at hc;subst hc
    exact⟨by simp only[Tm.wide];omega,by simp only[Tm.depth];omega,by simp only[Tm.top];omega⟩
  |_=>exact⟨Nat.le_refl _,Nat.le_refl _,Nat.le_refl _,by simp[Tm.spine]⟩
 obtain⟨h1,h2,h3,h4⟩:=key t
 have a1:=h.wide
 have a2:=h.depth
 have a3:=h.top
 exact⟨⟨by omega,by omega,by omega⟩,fun a ha=>by obtain⟨k1,k2,k3⟩:=h4 a ha;exact⟨by omega,by omega,by omega⟩⟩
theorem Jd.parts {Q:ByteArray→Nat→Prop} {t:Tm} {n:Nat} (h:br Q t n) (hn:n<2^42) (hp:t.parts≤1000000):Jd t:=by
 have:=cU t
 have:=cJ t
 have:=iQ t n h
 exact⟨by omega,by omega,by omega⟩
def adQ (Q:ByteArray→Nat→Prop) (σ:az) (b:Nat) (E:List bO) (w:Bool) (n:Nat) (r:Option aQ):Prop:=
 ∃(u:Tm) (ok w':Bool),r=some (.ret [(u.val,false),(.bool ok,false)],σ.set b (aD E w'))∧u.wide<2^32∧(w=true→w'=true)∧(ok=true→w'=false→br Q u n∧u.parts≤20000)
section
variable {b:Nat} {E:List bO} {N:Nat} {t0 t1:Int} {t2:ByteArray} {t3 t4:List (List V)} {n:Nat} {sp cs:List Tm} {h:Tm} {k vat:Nat}
theorem EB {d:Dc} {c:Tm} {i:Nat} (hi:i<d.ctors.length) (Gd:br (QE E) d.ctors[i].2 0∧Jd d.ctors[i].2) (YQ:d.aT.length=c.bK.length) (yM:d.aT.length<2^20) (acG:cP d.ctors[i].2=cs.length) (hn:n<2^40) (hh:br (QE E) h n) (Xf:Jd h) (jP:∀x∈sp,br (QE E) x n∧Jd x) (hl:sp.length<2^32) (hcs:∀x∈cs,br (QE E) x n∧Jd x) (gE:cs.length<2^32) (JO:d.arity+1+k≤sp.length) (hv:vat<2^34) (hN:2^33≤N) {w:Bool} {σ:az} (hb:σ[b]?=some (aD E w)) (hcJ:c.wide<2^32):
  ∀(m j:Nat) (out:Tm),d.arity≤j→cs.length - j<m→j<2^40→out.wide<2^32→br (QE E) out n→
   adQ (QE E) σ b E w n (Dx (ah C) N m b (sp.map Tm.enc) d.arity k vat (.slice 5 53 (cs.map Tm.enc)) (.int .i64 i) j h.kind h.num h.name (h.bK.map Lv.enc) h.args t0 t1 t2 t3 t4 d.kind d.name d.ch d.type.kind d.type.num d.type.name (d.type.bK.map Lv.enc) d.type.args d.value.kind d.value.num d.value.name (d.value.bK.map Lv.enc) d.value.args d.arity d.aY
    (.int .i64 c.kind) (.int .i64 c.num) (.str c.name) (.slice 3 120 (c.bK.map Lv.enc)) (.slice 5 53 c.args) (.int .i64 out.kind) (.int .i64 out.num) (.str out.name) (.slice 3 120 (out.bK.map Lv.enc)) (.slice 5 53 out.args) σ)
 |0,j,out,_,hm,_,_,_=>by omega
 |m+1,j,out,hjp,hm,hj,how,YO=>by
  rw[show Dx (ah C) N (m+1)=N3 (ah C) (zE (ah C) N N) (Dx (ah C) N m)from rfl]
  unfold N3 cz bo aE aF bF bJ bQ ae cR bp dS bb ft xh de cj cB cq aC
  simp only[BH,Option.bind_some,List.length_map]
  by_cases aG:j<cs.length
  ·obtain⟨q1,q2⟩:=hcs _ (List.getElem_mem aG)
   have q3:=q2.wide
   have ih:=EB hi Gd YQ yM acG hn hh Xf jP hl hcs gE JO hv hN hb hcJ m (j+1) (.app out cs[j]) (by omega) (by omega) (by omega) (by simp only[Tm.wide];omega) ⟨YO,q1⟩
   have e:∀(K:List Cell→az→Option aQ) KP,aA (ah C) 228 [(out.val,false),((cs[j]).val,false)] σ 1 K KP=K [((Tm.app out cs[j]).val,false)] σ:=fun K KP=>ab (fg out cs[j] σ)
   simp only[eD aG,cond_true,d0,dB aG,bf,Bool.and_self,bz,Option.bind_some,cK,e,List.getD_cons_zero,aL,cV,dJ,dK,dw,dh,aw (show j<2^61 by omega)]
   exact ih
  ·have M1:d.aY.length=d.ctors.length:=by simp[Dc.aY]
   have hg:d.aY.getD (Int.toNat (i:Int)) []=.str d.ctors[i].1::d.ctors[i].2.enc:=by simp[Dc.aY,hi]
   have hw:=Gd.2.wide
   obtain⟨T,w1,h1,h2⟩:=nx hb d.ctors[i].2 (by omega) (ps:=d.aT) (ls:=c.bK) YQ (by omega)
   have jc:(σ.set b (aD E w1))[b]?=some (aD E w1):=aS hb
   have e1:∀(K:List Cell→az→Option aQ) KP,aA (ah C) 258 [(.ptr 49 b 0,false),((d.ctors[i].2).val,false),(.slice 1 9 d.ch,false),(.slice 3 120 (c.bK.map Lv.enc),false)] σ 1 K KP=K [(T.val,false)] (σ.set b (aD E w1)):=fun K KP=>ab h1
   have hle:decide (((d.arity:Nat):Int)≤((sp.length:Nat):Int))=true:=by simp;omega
   have Zp:((sp.map Tm.enc).take (Int.toNat ((d.arity:Nat):Int))).drop (Int.toNat (0:Int))=(sp.take d.arity).map Tm.enc:=by rw[Int.toNat_natCast,show Int.toNat (0:Int)=0 from rfl,List.drop_zero,List.map_take]
   have hr:room (0+((sp.take d.arity).map Tm.enc).length)=true:=cF (by simp;omega)
   have abk:decide ((0:Int)≤0)=true:=rfl
   rw[cQ aG,cond_false,hle,abk,d0,Zp,hr]
   simp only[Bool.and_self,bz,cond_true,Option.bind_some,fT,d0,M1,eD hi,hg,List.getD_cons_succ,bf,e1,List.getD_cons_zero,aL,gH jc,iD]
   cases w1 with
   |true=>
    refine⟨.var 0,false,true,rfl,by decide,fun _=>rfl,fun h=>by simp at h⟩
   |false=>
    obtain⟨e3,_,rfl⟩:w=false∧false=false∧T=gO d.aT c.bK d.ctors[i].2:=by
     rcases h2 with⟨h,_⟩|h
     ·simp at h
     ·exact h
    have hpT:=(lU d.aT c.bK d.ctors[i].2).2.2.2
    have l1:=qy (Q:=QE E) (b:=b) (E:=E) (N:=N) (t0:=t0) (t1:=t1) (t2:=t2) (t3:=t3) (t4:=t4) (n:=n) (sp:=sp) (cs:=cs) (h:=h) (p:=d.arity) (k:=k) (vat:=vat)
     (c0:=d.kind) (nm:=d.name) (c2:=d.ch) (c3:=d.type.kind) (c4:=d.type.num) (c5:=d.type.name) (c6:=d.type.bK.map Lv.enc) (c7:=d.type.args) (c8:=d.value.kind) (c9:=d.value.num) (c10:=d.value.name) (c11:=d.value.bK.map Lv.enc) (c12:=d.value.args) (c13:=d.arity) (c14:=d.aY)
     hn hh Xf jP hl hcs gE JO hv hN N 0 (sp.take d.arity) (gO d.aT c.bK d.ctors[i].2) out false _ jc (Nat.zero_le _) (by omega) (by simp;omega) (fun x hx=>jP x (List.mem_of_mem_take hx)) (by rw[hpT];simpa using acG) (Gd.2.lev _ _) (lS _ _ (dy (fun _ _ h=>h) _ 0 _ (Nat.zero_le _) Gd.1)) how (fun _=>YO)
    obtain⟨u,w',k1,k2,k3,k4⟩:=l1
    refine⟨u,true,w',?_,k2,fun h=>by rw[e3]at h;simp at h,fun _=>k4⟩
    rw[List.set_set]at k1
    simp only[cond_false,cV,dJ,dK,dw,dh]
    exact k1
end
end Go.Ab.Mk
end
section
namespace Go.Ab.Mk
open Go.Proofs Go.Ab Go.Proofs.Mk
structure FR (f f':Fu):Prop where
 most:f'.most=f.most
 aR:f'.aR=f.aR
 parts:f'.parts=f.parts
 done:f.done≤f'.done
 bL:f.bL=true→f'.bL=true
 cap:f.done≤f.most→f'.done≤f.most
theorem FR.refl (f:Fu):FR f f:=⟨rfl,rfl,rfl,Nat.le_refl _,id,id⟩
theorem FR.trans {f g h:Fu} (a:FR f g) (b:FR g h):FR f h:=⟨b.most.trans a.most,b.aR.trans a.aR,b.parts.trans a.parts,Nat.le_trans a.done b.done,fun x=>b.bL (a.bL x),fun x=>by have:=b.cap (by rw[a.most];exact a.cap x);rw[a.most]at this;exact this⟩
def Qs (E:List bO) (σ:az) (b c:Nat) (w:Bool) (f:Fu) (n:Nat) (t:Tm) (r:Option aQ):Prop:=
 ∃(u:Tm) (w':Bool) (f':Fu),r=some (.ret [(u.val,false)],dF σ b c E w' f')∧u.wide<2^32∧FR f f'∧(w=true→w'=true)∧(w'=false→f'.bL=false→br (QE E) u n∧u.parts≤1000000∧(f'.done=f.done→u=t))
def Wn (E:List bO) (σ:az) (b c:Nat) (f:Fu) (n:Nat) (r:Option aQ):Prop:=
 ∃(u:Tm) (ok w':Bool) (f':Fu),r=some (.ret [(u.val,false),(.bool ok,false)],dF σ b c E w' f')∧u.wide<2^32∧FR f f'∧(ok=true→f.done<f'.done)∧(ok=true→w'=false→f'.bL=false→br (QE E) u n∧u.parts≤20000)
theorem G4 (e:bO):V.agg [V.cell e.val 0,V.cell e.val 1,V.cell e.val 2,V.cell e.val 3,V.cell e.val 4,V.cell e.val 5,V.cell e.val 6,V.cell e.val 7,V.cell e.val 8,V.cell e.val 9,V.cell e.val 10,V.cell e.val 11,V.cell e.val 12,V.cell e.val 13,V.cell e.val 14,V.cell e.val 15,V.cell e.val 16,V.cell e.val 17,V.cell e.val 18,V.cell e.val 19,V.cell e.val 20]=e.val:=by
 unfold bO.val;rw[e.aX];rfl
theorem abl (e:bO):V.cell e.val 1=.str e.d.name:=by rw[dq e 1 (by omega),bO.aX];rfl
theorem Wo (e:bO):V.cell e.val 2=.slice 1 9 e.d.ch:=by rw[dq e 2 (by omega),bO.aX];rfl
theorem Qt (e:bO):V.cell e.val 15=.slice 1 9 (strs e.zb):=by rw[dq e 15 (by omega),bO.aX];rfl
theorem abm (e:bO):V.agg [V.cell e.val 8,V.cell e.val 9,V.cell e.val 10,V.cell e.val 11,V.cell e.val 12]=e.d.value.val:=by
 rw[dq e 8 (by omega),dq e 9 (by omega),dq e 10 (by omega),dq e 11 (by omega),dq e 12 (by omega),bO.aX];rfl
theorem YW:V.agg [.int .i64 0,.int .i64 0,.str (ByteArray.mk #[]),.slice 3 120 [],.slice 5 53 []]=(Tm.var 0).val:=rfl
theorem Pd {E:List bO} (hE:dj E) {e o:bO} (he:e∈E) {s:ByteArray} {i:Nat} (hf:da s E=some (4,o,i)) (hn:o.d.name=e.d.name):o=e∧∃hi:i<e.d.ctors.length,e.d.ctors[i].1=s∧dV s E=some (e.d.aT,e.d.ctors[i].2):=by
 obtain⟨h1,h2⟩:=jh hf
 obtain rfl:=hE.uniq o h1 e he hn
 obtain⟨hi,c,hc,hcn⟩:=pQ (hE.MY o h1).kind.2 h2
 have Uq:o.d.ctors[i]=c:=(List.getElem?_eq_some_iff.1 hc).2
 refine⟨rfl,hi,by rw[Uq];exact hcn,?_⟩
 simp only[dV,hf,if_true]
 rw[List.getD_eq_getElem?_getD,hc,Uq];rfl
theorem Ss {E:List bO} (hE:dj E) {e:bO} (he:e∈E) (lL:e.d.kind=3) {σ:az} {b c:Nat} {f:Fu} (hb:σ[b]?=some (aD E false)) (hc:σ[c]?=some f.cells) (gg:b≠c) (hft:f.bL=false) (EC:f.most<2^50) (ha0:0≤f.aR) (ha1:f.aR≤2^40) {n:Nat} (hn:n<2^40) {h:Tm} {sp:List Tm} (hh:br (QE E) h n) (Xf:Jd h) (jP:∀x∈sp,br (QE E) x n∧Jd x) (hl:sp.length<2^31)
  (hW:∀(i:Nat) (hi:i<sp.length) (f1:Fu) (jH:az),jH[b]?=some (aD E false)→jH[c]?=some f1.cells→f1.most=f.most→f1.done=f.done→f1.bL=false→0≤f1.aR→f1.aR≤f.aR+20001→Qs E jH b c false f1 n sp[i] (ah C 246 [(.ptr 49 b 0,false),((sp[i]).val,false),(.ptr 332 c 0,false)] jH)):
  Wn E σ b c f n (ah C 269 [(.ptr 49 b 0,false),(h.val,false),(.slice 5 53 (sp.map Tm.enc),false),(e.val,false),(.ptr 332 c 0,false)] σ):=by
 have eo:=hE.MY e he
 have eN:=cO hb
 have gE:=cO hc
 have YV:=eo.arity lL
 have hpd:=eW e.d.type
 have htd:=eo.type.2.depth
 have aeh:=eo.XN
 -- no answer
 have stop:∀(w':Bool) (f':Fu),FR f f'→Wn E σ b c f n (some (.ret [((Tm.var 0).val,false),(.bool false,false)],dF σ b c E w' f')):=fun w' f' hf=>⟨.var 0,false,w',f',rfl,by decide,hf,fun h=>by simp at h,fun h=>by simp at h⟩
 suffices hs:Wn E σ b c f n (iota (ah C) (2^34) b h.kind h.num h.name (h.bK.map Lv.enc) h.args (sp.map Tm.enc) e.d.kind e.d.name e.d.ch e.d.type.kind e.d.type.num e.d.type.name (e.d.type.bK.map Lv.enc) e.d.type.args e.d.value.kind e.d.value.num e.d.value.name (e.d.value.bK.map Lv.enc) e.d.value.args e.d.arity e.d.aY (strs e.zb) e.rt.kind e.rt.num e.rt.name (e.rt.bK.map Lv.enc) e.rt.args c σ) by
  obtain⟨u,ok,w',f',h1,h2⟩:=hs
  refine⟨u,ok,w',f',?_,h2⟩
  have:=Vh (b0:=false) (b1:=false) (b2:=false) (b3:=false) (b4:=false) h1
  unfold bO.val
  rw[e.aX]
  exact this
 simp only[iota,aE,aM,aC,bb,ae,bp,cq,bo,aF,dk,aP,bJ,cj,bH,bQ,cB,bA,aH,dG,cz,xh,gr,cR]
 have M1:e.d.aY.length=e.d.ctors.length:=by simp[Dc.aY]
 have e1:∀(K:List Cell→az→Option aQ) KP,aA (ah C) 171 [(e.d.type.val,false)] σ 1 K KP=K [(.int .i64 (cP e.d.type:Nat),false)] σ:=fun K KP=>ab (j5 _ (by omega) σ)
 have tC:IntKind.wrap .i64 ((e.d.arity:Int)+1)=((e.d.arity+1:Nat):Int):=aw (by omega)
 have FQ:IntKind.wrap .i64 (((e.d.arity+1:Nat):Int)+((e.d.ctors.length:Nat):Int))=((e.d.arity+1+e.d.ctors.length:Nat):Int):=wrap_add (by omega)
 have hw3:IntKind.wrap .i64 (((cP e.d.type:Nat):Int) - (e.d.arity:Int))=((cP e.d.type - e.d.arity:Nat):Int):=by rw[cG (by omega) (by omega)];omega
 have hw4:IntKind.wrap .i64 (((e.d.arity+1+e.d.ctors.length:Nat):Int)+((cP e.d.type - e.d.arity:Nat):Int))=((e.d.arity+1+e.d.ctors.length+(cP e.d.type - e.d.arity):Nat):Int):=wrap_add (by omega)
 simp only[cK,e1,List.getD_cons_zero,fT,Option.bind_some,M1,tC,FQ,hw3,hw4,List.length_map,YW]
 generalize CJ:e.d.arity+1+e.d.ctors.length+(cP e.d.type - e.d.arity)=at_
 by_cases aG:at_<sp.length
 case neg=>
  rw[show decide (((sp.length:Nat):Int)≤(at_:Int))=true by simp;omega,cond_true]
  have:=stop false f (FR.refl f)
  rw[←Aj hb hc]at this
  exact this
 rw[show decide (((sp.length:Nat):Int)≤(at_:Int))=false by simp;omega,cond_false]
 have acH:(eA h sp).wide<2^32:=Nat.lt_of_le_of_lt (nv (W:=2^32 - 1) sp h (by have:=Xf.wide;omega) fun a ha=>by have:=(jP a ha).2.wide;omega) (by omega)
 obtain⟨q1,q2⟩:=jP _ (List.getElem_mem aG)
 obtain⟨x1,c1,PS⟩:=ez σ (eA h sp) acH 20000 (by omega)
 obtain⟨x2,c2,W6⟩:=ez σ sp[at_] q2.wide 20000 (by omega)
 have e2:∀(K:List Cell→az→Option aQ) KP,aA (ah C) 267 [(h.val,false),(.slice 5 53 (sp.map Tm.enc),false)] σ 1 K KP=K [((eA h sp).val,false)] σ:=fun K KP=>ab (ED h sp (by omega) σ)
 have e3:∀(K:List Cell→az→Option aQ) KP,aA (ah C) 231 [((eA h sp).val,false),(.int .i64 (20000:Int),false)] σ 1 K KP=K [(.int .i64 x1,false)] σ:=fun K KP=>ab PS
 have e4:∀(K:List Cell→az→Option aQ) KP,aA (ah C) 231 [((sp[at_]).val,false),(.int .i64 (20000:Int),false)] σ 1 K KP=K [(.int .i64 x2,false)] σ:=fun K KP=>ab W6
 have aeC:(sp[at_]).parts≤(eA h sp).parts:=by
  rw[A8];have:=GJ (List.getElem_mem aG);omega
 have h12:x2≤x1:=by
  have d1:=c2.cap
  have d2:=c2.le
  by_cases g:(eA h sp).parts≤20000
  ·have:=c1.ok g;omega
  ·have:=c1.more (by omega);omega
 have mK:=c1.cap
 have hw5:IntKind.wrap .i64 ((x1:Int) - (x2:Int))=((x1 - x2:Nat):Int):=by rw[cG (by omega) (by omega)];omega
 have hw6:IntKind.wrap .i64 (f.aR+((x1 - x2:Nat):Int))=f.aR+((x1 - x2:Nat):Int):=cG (by omega) (by omega)
 let f1:Fu:={f with aR:=f.aR+((x1 - x2:Nat):Int)}
 have jc:(σ.set c f1.cells)[b]?=some (aD E false):=GL hb (Ne.symm gg)
 have kt:(σ.set c f1.cells)[c]?=some f1.cells:=aS hc
 obtain⟨u1,w1,f2,k1,k2,k3,k4,k5⟩:=hW at_ aG f1 (σ.set c f1.cells) jc kt rfl rfl hft (by show 0≤f.aR+_;omega) (by show f.aR+_≤_;omega)
 rw[oF hb f1,dU gg]at k1
 have e5:∀(K:List Cell→az→Option aQ) KP,aA (ah C) 246 [(.ptr 49 b 0,false),((sp[at_]).val,false),(.ptr 332 c 0,false)] (dF σ b c E false f1) 1 K KP=K [(u1.val,false)] (dF σ b c E w1 f2):=fun K KP=>ab k1
 let f3:Fu:={f2 with aR:=f.aR}
 have hw7:IntKind.wrap .i64 (f2.aR - ((x1 - x2:Nat):Int))=f.aR:=by
  rw[k3.aR]
  show IntKind.wrap .i64 (f.aR+((x1 - x2:Nat):Int) - ((x1 - x2:Nat):Int))=f.aR
  rw[cG (by omega) (by omega)];omega
 have Wp:FR f f3:=⟨k3.most,rfl,k3.parts,k3.done,k3.bL,k3.cap⟩
 have vu:(dF σ b c E w1 f2)[b]?=some (aD E w1):=fo eN gg _ _
 have pD:(dF σ b c E w1 f2)[c]?=some f2.cells:=gP gE _ _
 have acI:(dF σ b c E w1 f2).set c f3.cells=dF σ b c E w1 f3:=by rw[oF vu f3,dU gg]
 have Tf:(dF σ b c E w1 f3)[b]?=some (aD E w1):=fo eN gg _ _
 have Ib:(dF σ b c E w1 f3)[c]?=some f3.cells:=gP gE _ _
 have hS4:=YR hc (332) (f.aR+((x1 - x2:Nat):Int))
 have adR:aV σ (.ptr 332 c 4) [(.int .i64 (f.aR+((x1 - x2:Nat):Int)),false)]=some (dF σ b c E false f1):=by rw[hS4,←oF hb f1]
 have hS5:=YR pD (332) f.aR
 have adS:aV (dF σ b c E w1 f2) (.ptr 332 c 4) [(.int .i64 f.aR,false)]=some (dF σ b c E w1 f3):=by rw[hS5,←acI]
 simp only[d0,eD aG,Bool.and_self,bz,cond_true,Option.bind_some,e2,List.getD_cons_zero,dB aG,bf,e3,e4,fT,fu4 hc,hw5,hw6,adR,e5,aL,fu4 pD,hw7,adS,Xe Ib,iD,gH Tf]
 cases W7:f3.bL with
 |true=>simp only[cond_true];exact stop w1 f3 Wp
 |false=>
  cases w1 with
  |true=>simp only[cond_true,cond_false];exact stop true f3 Wp
  |false=>
   obtain⟨o1,o2,_⟩:=k5 rfl W7
   have J1:=Jd.parts o1 (by omega) o2
   obtain⟨s1,s2⟩:=nu u1 n o1
   obtain⟨j1,j2⟩:=J1.spine
   have hsd:=jD u1
   have mJ:=J1.depth
   have e6:∀(K:List Cell→az→Option aQ) KP,aA (ah C) 219 [(u1.val,false)] (dF σ b c E false f3) 2 K KP=K [(u1.head.val,false),(.slice 5 53 (u1.spine.map Tm.enc),false)] (dF σ b c E false f3):=fun K KP=>aW (ik u1 (by omega) _)
   simp only[cond_false,cV,dJ,dK,dw,dh,cK,e6,List.getD_cons_zero,List.getD_cons_succ,aL,cond_true,Option.bind_some,fT]
   by_cases lK:u1.head.kind=2
   case neg=>
    rw[show(u1.head.kind != (2:Int))=true by rw[bne_iff_ne];exact lK,cond_true]
    exact stop false f3 Wp
   rw[show(u1.head.kind != (2:Int))=false by rw[lK];rfl,cond_false]
   obtain⟨s,ls,hcs⟩:∃s ls,u1.head=.const s ls:=by
    generalize u1.head=q at lK
    cases q<;>simp[Tm.kind]at lK
    exact⟨_,_,rfl⟩
   have Mq:=El Tf hE.n u1.head.name
   have e7:∀(K:List Cell→az→Option aQ) KP,aA (ah C) 28 [(.ptr 49 b 0,false),(.str u1.head.name,false)] (dF σ b c E false f3) 3 K KP=K (found (da u1.head.name E)) (dF σ b c E false f3):=fun K KP=>bM Mq (by cases da u1.head.name E<;>rfl)
   simp only[e7]
   cases hff:da u1.head.name E with
   |none=>
    simp only[found,List.getD_cons_zero,List.getD_cons_succ,lE,cond_true,Option.bind_some,fT,show(((0:Int)) != 4)=true from rfl]
    exact stop false f3 Wp
   |some pr=>
    obtain⟨kk,o,i⟩:=pr
    simp only[found,List.getD_cons_zero,List.getD_cons_succ,lE,cond_true,Option.bind_some,fT,abl,asS,bEq]
    by_cases Xa:kk=4
    case neg=>
     rw[show((kk:Int) != 4)=true by rw[bne_iff_ne];omega,cond_true]
     exact stop false f3 Wp
    subst Xa
    rw[show(((4:Nat):Int) != 4)=false from rfl,cond_false]
    by_cases hnm:o.d.name=e.d.name
    case neg=>
     rw[decide_eq_false hnm,show(!false)=true from rfl,cond_true]
     exact stop false f3 Wp
    obtain⟨rfl,hi,hin,Ie⟩:=Pd hE he hff hnm
    rw[decide_eq_true rfl,show(!true)=false from rfl,cond_false]
    have Wq:=eo.ctors _ (List.getElem_mem hi)
    have hcd:=Wq.2.depth
    have hgc:o.d.aY.getD (Int.toNat (i:Int)) []=.str o.d.ctors[i].1::o.d.ctors[i].2.enc:=by simp[Dc.aY,hi]
    have e8:∀(K:List Cell→az→Option aQ) KP,aA (ah C) 171 [((o.d.ctors[i].2).val,false)] (dF σ b c E false f3) 1 K KP=K [(.int .i64 (cP o.d.ctors[i].2:Nat),false)] (dF σ b c E false f3):=fun K KP=>ab (j5 _ (by omega) _)
    simp only[BH,Option.bind_some,d0,eD hi,Bool.and_self,cond_true,hgc,List.getD_cons_succ,bf,e8,List.getD_cons_zero,fT,List.length_map]
    by_cases hnp:u1.spine.length=cP o.d.ctors[i].2
    case neg=>
     rw[show(((u1.spine.length:Nat):Int) != ((cP o.d.ctors[i].2:Nat):Int))=true by rw[bne_iff_ne];omega,cond_true]
     exact stop false f3 Wp
    rw[hnp,bne_self_eq_false,cond_false]
    have BQ:=uY Ib (show f3.most<2^50 by rw[Wp.most];exact EC)
    by_cases hmd:f3.most≤f3.done
    ·rw[if_pos hmd]at BQ
     let f4:Fu:={f3 with bL:=true}
     have e9:∀(K:List Cell→az→Option aQ) KP,aA (ah C) 266 [(.ptr 332 c 0,false)] (dF σ b c E false f3) 1 K KP=K [(.bool false,false)] ((dF σ b c E false f3).set c f4.cells):=fun K KP=>ab BQ
     simp only[e9,List.getD_cons_zero,iD,Option.bind_some,Bool.not_false,cond_true]
     rw[oF Tf f4,dU gg]
     exact stop false f4 (Wp.trans ⟨rfl,rfl,rfl,Nat.le_refl _,fun _=>rfl,id⟩)
    ·rw[if_neg hmd]at BQ
     let f4:Fu:={f3 with done:=f3.done+1}
     have hF4:FR f f4:=Wp.trans ⟨rfl,rfl,rfl,Nat.le_succ _,id,fun _=>by show f3.done+1≤f3.most;omega⟩
     have acJ:(dF σ b c E false f3).set c f4.cells=dF σ b c E false f4:=by rw[oF Tf f4,dU gg]
     have e9:∀(K:List Cell→az→Option aQ) KP,aA (ah C) 266 [(.ptr 332 c 0,false)] (dF σ b c E false f3) 1 K KP=K [(.bool true,false)] ((dF σ b c E false f3).set c f4.cells):=fun K KP=>ab BQ
     have Tg:(dF σ b c E false f4)[b]?=some (aD E false):=fo eN gg _ _
     have Zr:(dF σ b c E false f4)[c]?=some f4.cells:=gP gE _ _
     have QJ:o.d.arity+1+i<sp.length:=by omega
     have hw8:IntKind.wrap .i64 (((o.d.arity+1:Nat):Int)+(i:Int))=((o.d.arity+1+i:Nat):Int):=wrap_add (by omega)
     simp only[e9,acJ,List.getD_cons_zero,iD,Option.bind_some,Bool.not_true,cond_false,hw8,d0,eD QJ,Bool.and_self,cond_true,dB QJ,gf,gI,jz,jA,jC]
     obtain⟨y1,y2⟩:=jP _ (List.getElem_mem QJ)
     have YQ:o.d.aT.length=u1.head.bK.length:=by
      rw[hcs]at s1 Ie
      obtain⟨ps,t,z1,z2⟩:=s1
      have z1:dV s E=some (ps,t):=z1
      rw[show(Tm.const s ls).name=s from rfl,z1]at Ie
      simp only[Option.some.injEq,Prod.mk.injEq]at Ie
      obtain⟨rfl,rfl⟩:=Ie
      rw[hcs];exact z2
     have L:=EB (E:=E) (b:=b) (N:=2^34) (t0:=0) (t1:=0) (t2:=ByteArray.mk #[]) (t3:=[]) (t4:=[]) (n:=n) (sp:=sp) (cs:=u1.spine) (h:=h) (k:=o.d.ctors.length) (vat:=at_) (d:=o.d) (c:=u1.head) (i:=i) hi Wq YQ eo.aT hnp.symm hn hh Xf jP (by omega) (fun x hx=>⟨s2 x hx,j2 x hx⟩) (by omega) (by omega) (by omega) (by omega) Tg j1.wide (2^34) o.d.arity sp[o.d.arity+1+i] (Nat.le_refl _) (by omega) (by omega) y2.wide y1
     obtain⟨u,ok,w',m1,m2,m3,m4⟩:=L
     rw[jY Zr gg,dU gg]at m1
     refine⟨u,ok,w',f4,?_,m2,hF4,fun _=>Nat.lt_of_le_of_lt Wp.done (Nat.lt_succ_self _),fun h1 h2 _=>m4 h1 h2⟩
     exact m1
end Go.Ab.Mk
end
section
namespace Go.Ab.Mk
open Go.Proofs Go.Ab Go.Proofs.Mk
theorem Pe (e:bO):V.agg [V.cell e.val 0,V.cell e.val 1,.slice 1 9 e.d.ch,V.cell e.val 3,V.cell e.val 4,V.cell e.val 5,V.cell e.val 6,V.cell e.val 7,V.cell e.val 8,V.cell e.val 9,V.cell e.val 10,V.cell e.val 11,V.cell e.val 12,V.cell e.val 13,V.cell e.val 14,.slice 1 9 (strs e.zb),V.cell e.val 16,V.cell e.val 17,V.cell e.val 18,V.cell e.val 19,V.cell e.val 20]=e.val:=by
 rw[←Wo,←Qt];exact G4 e
theorem Su (t:Tm):t.head.kind≠3:=by
 induction t with
 |app a b iha _=>exact iha
 |_=>simp[Tm.head,Tm.kind]
theorem nV {t a:Tm} (h:a∈t.spine):a.parts<t.parts:=by
 have:=(nT t).1
 have:=GJ h
 have:=gK t.head
 omega
theorem Qs.after {E:List bO} {σ:az} {b c:Nat} {w1:Bool} {f f1:Fu} {n:Nat} {t t1:Tm} {r:Option aQ} (h:Qs E (dF σ b c E w1 f1) b c w1 f1 n t1 r) (gg:b≠c) (hf:FR f f1) (hd:f.done<f1.done):Qs E σ b c false f n t r:=by
 obtain⟨u,w',f',h1,h2,h3,h4,h5⟩:=h
 refine⟨u,w',f',by rw[h1,dU gg],h2,hf.trans h3,fun h=>by simp at h,fun a a'=>⟨(h5 a a').1,(h5 a a').2.1,fun e=>?_⟩⟩
 have:=h3.done
 omega
structure WhG (E:List bO) (f:Fu) (n:Nat) (t:Tm) (s:Nat):Prop where
 ok:br (QE E) t n
 parts:t.parts≤1000000
 a0:0≤f.aR
 a1:f.aR+20001*t.parts≤2^40
 small:t.parts≤s
theorem Sv {E:List bO} (hE:dj E) {b c:Nat} (gg:b≠c) {n:Nat} (hn:n<2^40):∀(k s m N:Nat) (t:Tm) (w:Bool) (f:Fu) (σ:az),σ[b]?=some (aD E w)→σ[c]?=some f.cells→f.most<2^50→f.done≤f.most→f.most - f.done≤k→k<m→t.wide<2^32→(w=false→f.bL=false→WhG E f n t s)→
  ∀{t0 t1:Int} {t2:ByteArray} {t3 t4:List (List V)},Qs E σ b c w f n t (tT (ah C) N m b c (.int .i64 t.kind) (.int .i64 t.num) (.str t.name) (.slice 3 120 (t.bK.map Lv.enc)) (.slice 5 53 t.args) t0 t1 t2 t3 t4 σ):=by
 intro k
 induction k using Nat.strongRecOn with
 |_ k ihk=>
 intro s
 induction s using Nat.strongRecOn with
 |_ s ihs=>
 intro m N t w f σ hb hc EC Z6 hk hm Jq hG t0 t1 t2 t3 t4
 obtain⟨m,rfl⟩:∃m',m=m'+1:=⟨m - 1,by omega⟩
 rw[show tT (ah C) N (m+1)=II (ah C) (tT (ah C) N m)from rfl]
 unfold II cj cB aE aM bF bQ ae bb cz aH aq bo dS bH bJ aF dk bA cR ft dn
 have eN:=cO hb
 have gE:=cO hc
 simp only[Xe hc,iD,Option.bind_some,gH hb,cK]
 cases W7:f.bL with
 |true=>
  refine⟨t,w,f,?_,Jq,FR.refl f,id,fun _ h=>by rw[W7]at h;simp at h⟩
  rw[←Aj hb hc];rfl
 |false=>
 cases w with
 |true=>
  refine⟨t,true,f,?_,Jq,FR.refl f,id,fun h=>by simp at h⟩
  rw[←Aj hb hc];rfl
 |false=>
 have g:=hG rfl W7
 have J:=Jd.parts g.ok (by omega) g.parts
 obtain⟨s1,s2⟩:=nu t n g.ok
 obtain⟨j1,j2⟩:=J.spine
 have hsd:=jD t
 have hJd:=J.depth
 -- it stops
 have stop:∀(w':Bool) (f':Fu),FR f f'→Qs E σ b c false f n t (some (.ret [(t.val,false)],dF σ b c E w' f')):=fun w' f' hf=>⟨t,w',f',rfl,Jq,hf,fun h=>by simp at h,fun _ _=>⟨g.ok,g.parts,fun _=>rfl⟩⟩
 have Bb:Qs E σ b c false f n t (some (.ret [(t.val,false)],σ)):=by
  have:=stop false f (FR.refl f)
  rw[←Aj hb hc]at this
  exact this
 have e1:∀(K:List Cell→az→Option aQ) KP,aA (ah C) 219 [(t.val,false)] σ 2 K KP=K [(t.head.val,false),(.slice 5 53 (t.spine.map Tm.enc),false)] σ:=fun K KP=>aW (ik t (by omega) σ)
 -- it goes on with another term
 have YX:∀(t':Tm) (w1:Bool) (f1:Fu),FR f f1→f.done<f1.done→t'.wide<2^32→(w1=false→f1.bL=false→br (QE E) t' n)→f1.bL=false→
   ∀(KP:V→az→Option aQ),Qs E σ b c false f n t (aA (ah C) 268 [(.ptr 49 b 0,false),(t'.val,false),(.ptr 332 c 0,false)] (dF σ b c E w1 f1) 0
    (fun _ eM=>tT (ah C) N m b c (.int .i64 t'.kind) (.int .i64 t'.num) (.str t'.name) (.slice 3 120 (t'.bK.map Lv.enc)) (.slice 5 53 t'.args) t0 t1 t2 t3 t4 eM) KP):=by
  intro t' w1 f1 hF hd acK YY hft KP
  have jc:(dF σ b c E w1 f1)[b]?=some (aD E w1):=fo eN gg _ _
  have kt:(dF σ b c E w1 f1)[c]?=some f1.cells:=gP gE _ _
  obtain⟨w2,h1,h2,h3⟩:=qx jc kt t' acK
  rw[jY kt gg,dU gg]at h1
  refine(show Qs E σ b c false f n t _ from ?_)
  rw[bm h1]
  have mK:=hF.cap Z6
  have vu:(dF σ b c E w2 f1)[b]?=some (aD E w2):=fo eN gg _ _
  have pD:(dF σ b c E w2 f1)[c]?=some f1.cells:=gP gE _ _
  have jG:k - 1<k:=by omega
  refine Qs.after (t1:=t') (w1:=w2) (f1:=f1) ?_ gg hF hd
  refine ihk (k - 1) jG t'.parts m N t' w2 f1 _ vu pD (by rw[hF.most];exact EC) (by rw[hF.most];exact mK) (by rw[hF.most];omega) (by omega) acK (fun hw ht=>?_)
  have tC:w1=false:=by
   cases w1 with
   |false=>rfl
   |true=>rw[h2 rfl]at hw;simp at hw
  have hm3:=h3 hw (by rw[hF.aR];exact g.a0) (by rw[hF.aR];have:=g.a1;have:=gK t;omega)
  rw[hF.aR]at hm3
  have ha:=g.a0
  exact⟨YY tC hft,by omega,by rw[hF.aR];exact ha,by rw[hF.aR];omega,Nat.le_refl _⟩
 have BQ:=uY hc EC
 -- a step, and behind it what is handed in
 let f1:Fu:={f with done:=f.done+1}
 have jc:(dF σ b c E false f1)[b]?=some (aD E false):=fo eN gg _ _
 have kt:(dF σ b c E false f1)[c]?=some f1.cells:=gP gE _ _
 have step:∀(K:az→Option aQ) (KP:V→az→Option aQ),(f.done<f.most→FR f f1→Qs E σ b c false f n t (K (dF σ b c E false f1)))→
   Qs E σ b c false f n t (aA (ah C) 266 [(.ptr 332 c 0,false)] σ 1 (fun vs eM=>(V.asBool (List.getD vs 0 bZ).1).bind fun Yf=>bif (!Yf)then some (.ret [(t.val,false)],eM)else K eM) KP):=by
  intro K KP hK
  by_cases hmd:f.most≤f.done
  ·rw[if_pos hmd]at BQ
   let f2:Fu:={f with bL:=true}
   rw[ab BQ]
   have:=stop false f2 ⟨rfl,rfl,rfl,Nat.le_refl _,fun _=>rfl,id⟩
   rw[←oF hb f2]at this
   exact this
  ·rw[if_neg hmd]at BQ
   rw[ab BQ]
   have:=hK (by omega) ⟨rfl,rfl,rfl,Nat.le_succ _,id,fun _=>by show f.done+1≤f.most;omega⟩
   rw[←oF hb f1]at this
   exact this
 simp only[Bool.not_false,cond_true,e1,List.getD_cons_zero,List.getD_cons_succ,aL,bz,Option.bind_some,cV,dJ,dK,dw,dh,fT,BH,List.length_map,cK]
 have abn:∀(u:Tm) (L:List Tm),L.length<2^33→∀(σ:az) (K:List Cell→az→Option aQ) KP,aA (ah C) 267 [(u.val,false),(.slice 5 53 (L.map Tm.enc),false)] σ 1 K KP=K [((eA u L).val,false)] σ:=fun u L hL σ K KP=>ab (ED u L hL σ)
 have hsw:∀a∈t.spine,a.wide≤2^32 - 1:=fun a ha=>by have:=(j2 a ha).wide;omega
 generalize hhd:t.head=hd at*
 cases hd with
 |app A B=>exact absurd (congrArg Tm.kind hhd) (Su t)
 |var i=>exact Bb
 |sort l=>exact Bb
 |pi A B=>exact Bb
 |lam A B=>
  rw[sL,show((4:Int)==4)=true from rfl,cond_true]
  cases jP:t.spine with
  |nil=>exact Bb
  |cons a rest=>
   rw[jP]at s2 j2 hsd hsw
   rw[show((((a::rest:List Tm).length:Nat):Int)==0)=false by rw[beq_eq_false_iff_ne];simp;omega,cond_false]
   refine step _ _ fun aG hF1=>?_
   obtain⟨aok,bok⟩:=s1
   obtain⟨z1,z2⟩:=s2 a (List.mem_cons_self ..),j2 a (List.mem_cons_self ..)
   have hBw:=j1.wide
   have hBt:=j1.top
   have hwa:=z2.wide
   have hta:=z2.top
   have hda:=z2.depth
   simp only[Tm.wide]at hBw
   simp only[Tm.top]at hBt
   obtain⟨u,w1,h1,h2⟩:=iX jc B a (by omega) hwa (by omega) (by omega) (by omega)
   rw[jY kt gg,dU gg]at h1
   have e2:∀(K:List Cell→az→Option aQ) KP,aA (ah C) 260 [(.ptr 49 b 0,false),(B.val,false),(a.val,false)] (dF σ b c E false f1) 1 K KP=K [(u.val,false)] (dF σ b c E w1 f1):=fun K KP=>ab h1
   have huw:u.wide<2^32:=by
    rcases h2 with⟨_,rfl⟩|⟨_,_,rfl,_,_⟩
    ·decide
    ·have:=(eV a B 0).1;omega
   have hrl:rest.length<2^31:=by simp only[List.length_cons]at hsd;omega
   have acL:((((a::rest).map Tm.enc).take (Int.toNat (((a::rest:List Tm).length:Nat):Int))).drop (Int.toNat 1))=rest.map Tm.enc:=by
    rw[Int.toNat_natCast,←List.length_map (f:=Tm.enc),List.take_length];rfl
   have adT:decide ((0:Int)<(((a::rest:List Tm).length:Nat):Int))=true:=decide_eq_true (by simp only[List.length_cons];omega)
   have adU:decide ((1:Int)≤(((a::rest:List Tm).length:Nat):Int))=true:=decide_eq_true (by simp only[List.length_cons];omega)
   have adV:decide ((((a::rest:List Tm).length:Nat):Int)≤(((a::rest:List Tm).length:Nat):Int))=true:=decide_eq_true (Int.le_refl _)
   have S8:((a::rest).map Tm.enc).getD (Int.toNat 0) []=a.enc:=rfl
   simp only[sM,nE,Int.reduceLE,Int.reduceLT,decide_true,Bool.and_self,nF,cond_true,Option.bind_some,adT,adU,adV,S8,bf,acL,e2,List.getD_cons_zero,abn u rest (by omega),aL,cV,dJ,dK,dw,dh,cK]
   exact YX (eA u rest) w1 f1 hF1 (Nat.lt_succ_self _) (Nat.lt_of_le_of_lt (nv (W:=2^32 - 1) rest u (by omega) fun x hx=>hsw x (List.mem_cons_of_mem _ hx)) (by omega)) (fun hw _=>by
    rcases h2 with⟨h,_⟩|⟨_,_,rfl,_,_⟩
    ·rw[h]at hw;simp at hw
    ·exact jX rest _ (eB (n:=n) z1 B 0 bok) fun x hx=>s2 x (List.mem_cons_of_mem _ hx)) W7 _
 |bE A v B=>
  rw[Wj,show((6:Int)==4)=false from rfl,cond_false,show((6:Int)==6)=true from rfl,cond_true]
  refine step _ _ fun aG hF1=>?_
  obtain⟨aok,vok,bok⟩:=s1
  have hBw:=j1.wide
  have hBt:=j1.top
  have hBd:=j1.depth
  simp only[Tm.wide]at hBw
  simp only[Tm.top]at hBt
  simp only[Tm.depth]at hBd
  obtain⟨u,w1,h1,h2⟩:=iX jc B v (by omega) (by omega) (by omega) (by omega) (by omega)
  rw[jY kt gg,dU gg]at h1
  have e2:∀(K:List Cell→az→Option aQ) KP,aA (ah C) 260 [(.ptr 49 b 0,false),(B.val,false),(v.val,false)] (dF σ b c E false f1) 1 K KP=K [(u.val,false)] (dF σ b c E w1 f1):=fun K KP=>ab h1
  have huw:u.wide<2^32:=by
   rcases h2 with⟨_,rfl⟩|⟨_,_,rfl,_,_⟩
   ·decide
   ·have:=(eV v B 0).1;omega
  simp only[Wk,acB,Int.reduceLE,Int.reduceLT,decide_true,Bool.and_self,nF,acC,cond_true,Option.bind_some,bf,e2,List.getD_cons_zero,abn u t.spine (by omega),aL,cV,dJ,dK,dw,dh,cK]
  exact YX (eA u t.spine) w1 f1 hF1 (Nat.lt_succ_self _) (Nat.lt_of_le_of_lt (nv (W:=2^32 - 1) t.spine u (by omega) hsw) (by omega)) (fun hw _=>by
   rcases h2 with⟨h,_⟩|⟨_,_,rfl,_,_⟩
   ·rw[h]at hw;simp at hw
   ·exact jX t.spine _ (eB (n:=n) vok B 0 bok) s2) W7 _
 |const q ls=>
  rw[show(Tm.const q ls).kind=2 from rfl,show((2:Int)==4)=false from rfl,cond_false,show((2:Int)==6)=false from rfl,cond_false,show((2:Int)==2)=true from rfl,cond_true]
  have Mq:=El hb hE.n q
  have e7:∀(K:List Cell→az→Option aQ) KP,aA (ah C) 28 [(.ptr 49 b 0,false),(.str (Tm.const q ls).name,false)] σ 3 K KP=K (found (da q E)) σ:=fun K KP=>bM Mq (by cases da q E<;>rfl)
  simp only[e7]
  cases hff:da q E with
  |none=>
   simp only[found,List.getD_cons_zero,List.getD_cons_succ,lE,cond_true,cond_false,Option.bind_some,fT,show(((0:Int))==2)=false from rfl,show(((0:Int))==5)=false from rfl]
   exact Bb
  |some pr=>
   obtain⟨kk,e,i⟩:=pr
   obtain⟨he,w9⟩:=jh hff
   have eo:=hE.MY e he
   have yM:=eo.aT
   simp only[found,List.getD_cons_zero,List.getD_cons_succ,lE,cond_true,Option.bind_some,fT,Wo,Qt,asN,asL,G4,abm,List.length_map,cw,show(Tm.const q ls).bK=ls from rfl,show e.d.ch.length=e.d.aT.length by simp[Dc.ch]]
   by_cases h2:kk=2
   ·subst h2
    rw[show(((2:Nat):Int)==2)=true from rfl,cond_true,show(((2:Nat):Int)==5)=false from rfl,cond_false]
    have hkd:e.d.kind=2:=by
     unfold ie at w9
     split at w9
     ·simp only[Option.some.injEq,Prod.mk.injEq]at w9;exact w9.1
     ·split at w9
      ·simp only[Option.some.injEq,Prod.mk.injEq]at w9;omega
      ·split at w9
       ·simp only[Option.some.injEq,Prod.mk.injEq]at w9;omega
       ·simp at w9
    by_cases hlen:e.d.aT.length=ls.length
    ·rw[hlen,show(((ls.length:Nat):Int)==((ls.length:Nat):Int))=true from beq_self_eq_true _,cond_true]
     refine step _ _ fun aG hF1=>?_
     obtain⟨vok,vJ⟩:=eo.value.resolve_right fun h=>h hkd
     obtain⟨u,w1,h1,h2⟩:=nx jc e.d.value vJ.wide (ps:=e.d.aT) (ls:=ls) hlen (by omega)
     rw[jY kt gg,dU gg]at h1
     have e2:∀(K:List Cell→az→Option aQ) KP,aA (ah C) 258 [(.ptr 49 b 0,false),(e.d.value.val,false),(.slice 1 9 e.d.ch,false),(.slice 3 120 (ls.map Lv.enc),false)] (dF σ b c E false f1) 1 K KP=K [(u.val,false)] (dF σ b c E w1 f1):=fun K KP=>ab h1
     have huw:u.wide<2^32:=by
      rcases h2 with⟨_,rfl⟩|⟨_,_,rfl⟩
      ·decide
      ·exact(vJ.lev _ _).wide
     simp only[e2,List.getD_cons_zero,abn u t.spine (by omega),aL,cond_true,Option.bind_some,cV,dJ,dK,dw,dh,cK]
     exact YX (eA u t.spine) w1 f1 hF1 (Nat.lt_succ_self _) (Nat.lt_of_le_of_lt (nv (W:=2^32 - 1) t.spine u (by omega) hsw) (by omega)) (fun hw _=>by
      rcases h2 with⟨h,_⟩|⟨_,_,rfl⟩
      ·rw[h]at hw;simp at hw
      ·exact jX t.spine _ (lS _ _ (dy (fun _ _ h=>h) _ 0 n (Nat.zero_le _) vok)) s2) W7 _
    ·rw[show(((e.d.aT.length:Nat):Int)==((ls.length:Nat):Int))=false by rw[beq_eq_false_iff_ne];omega,cond_false]
     exact Bb
   ·rw[show((kk:Int)==2)=false by rw[beq_eq_false_iff_ne];omega,cond_false]
    by_cases h5:kk=5
    ·subst h5
     rw[show(((5:Nat):Int)==5)=true from rfl,cond_true]
     have hkd:e.d.kind=3:=by
      have lL:=eo.kind
      unfold ie at w9
      split at w9
      ·simp only[Option.some.injEq,Prod.mk.injEq]at w9;omega
      ·split at w9
       ·simp only[Option.some.injEq,Prod.mk.injEq]at w9;omega
       ·split at w9
        ·rename_i hh;exact hh.1
        ·simp at w9
     by_cases hlen:e.zb.length=ls.length
     ·rw[hlen,show(((ls.length:Nat):Int)==((ls.length:Nat):Int))=true from beq_self_eq_true _,cond_true]
      have hga:=g.a1
      have hgp:=gK t
      have I:=Ss hE he hkd hb hc gg W7 EC g.a0 (by omega) hn (h:=.const q ls) (sp:=t.spine) s1 j1 (fun x hx=>⟨s2 x hx,j2 x hx⟩) (by omega) (fun i hi f2 jH jI tb Tu D5 YY ha' aeD=>by
       have hsm:=nV (List.getElem_mem hi)
       have Tb:=g.small
       have hgp:=g.parts
       obtain⟨u,w',f',r1,r2⟩:=ihs (t.spine[i]).parts (by omega) (k+1) (k+1) t.spine[i] false f2 jH jI tb (by rw[Tu];exact EC) (by rw[Tu,D5];exact Z6) (by rw[Tu,D5];exact hk) (Nat.lt_succ_self _) (j2 _ (List.getElem_mem hi)).wide (fun _ _=>⟨s2 _ (List.getElem_mem hi),by omega,ha',by omega,Nat.le_refl _⟩) (t0:=0) (t1:=0) (t2:=ByteArray.mk #[]) (t3:=[]) (t4:=[])
       exact⟨u,w',f',Gs (n:=k+1) r1,r2⟩)
      obtain⟨u,ok,w',f',i1,i2,i3,i4,i5⟩:=I
      have e3:∀(K:List Cell→az→Option aQ) KP,aA (ah C) 269 [(.ptr 49 b 0,false),((Tm.const q ls).val,false),(.slice 5 53 (t.spine.map Tm.enc),false),(e.val,false),(.ptr 332 c 0,false)] σ 2 K KP=K [(u.val,false),(.bool ok,false)] (dF σ b c E w' f'):=fun K KP=>aW i1
      simp only[Pe,e3,List.getD_cons_zero,List.getD_cons_succ,aL,cond_true,Option.bind_some,iD,cV,dJ,dK,dw,dh,cK]
      cases ok with
      |false=>exact stop w' f' i3
      |true=>
       cases htf:f'.bL with
       |true=>
        -- the measure is taken, then the loop ends
        have adW:(dF σ b c E w' f')[b]?=some (aD E w'):=fo eN gg _ _
        have acM:(dF σ b c E w' f')[c]?=some f'.cells:=gP gE _ _
        obtain⟨w2,h1,_,_⟩:=qx adW acM u i2
        rw[jY acM gg,dU gg]at h1
        simp only[cond_true]
        rw[bm h1]
        have vu:(dF σ b c E w2 f')[b]?=some (aD E w2):=fo eN gg _ _
        have pD:(dF σ b c E w2 f')[c]?=some f'.cells:=gP gE _ _
        have mK:=i3.cap Z6
        have hdl:=i4 rfl
        exact Qs.after (t1:=u) (ihk (k - 1) (by omega) 0 m N u w2 f' _ vu pD (by rw[i3.most];exact EC) (by rw[i3.most];exact mK) (by rw[i3.most];omega) (by omega) i2 (fun _ h=>by rw[htf]at h;simp at h)) gg i3 hdl
       |false=>
        rw[cond_true]
        exact YX u w' f' i3 (i4 rfl) i2 (fun hw ht=>(i5 rfl hw ht).1) htf _
     ·rw[show(((e.zb.length:Nat):Int)==((ls.length:Nat):Int))=false by rw[beq_eq_false_iff_ne];omega,cond_false]
      exact Bb
    ·rw[show((kk:Int)==5)=false by rw[beq_eq_false_iff_ne];omega,cond_false]
     exact Bb
theorem G5 {E:List bO} (hE:dj E) {b c:Nat} (gg:b≠c) {n:Nat} (hn:n<2^40) {t:Tm} {w:Bool} {f:Fu} {σ:az} (hb:σ[b]?=some (aD E w)) (hc:σ[c]?=some f.cells) (EC:f.most<2^50) (Z6:f.done≤f.most) (Jq:t.wide<2^32) (hG:w=false→f.bL=false→WhG E f n t t.parts):
  Qs E σ b c w f n t (ah C 246 [(.ptr 49 b 0,false),(t.val,false),(.ptr 332 c 0,false)] σ):=by
 obtain⟨u,w',f',h1,h2⟩:=Sv hE gg hn (f.most - f.done) t.parts (f.most - f.done+1) (f.most - f.done+1) t w f σ hb hc EC Z6 (Nat.le_refl _) (Nat.lt_succ_self _) Jq hG (t0:=0) (t1:=0) (t2:=ByteArray.mk #[]) (t3:=[]) (t4:=[])
 exact⟨u,w',f',Gs (n:=f.most - f.done+1) h1,h2⟩
end Go.Ab.Mk
end
section
namespace Go.Ab.Mk
open Go.Proofs Go.Ab Go.Proofs.Mk
structure LS (f f':Fu):Prop where
 most:f'.most=f.most
 done:f.done≤f'.done
 bL:f.bL=true→f'.bL=true
 cap:f.done≤f.most→f'.done≤f.most
theorem LS.refl (f:Fu):LS f f:=⟨rfl,Nat.le_refl _,id,id⟩
theorem LS.trans {f g h:Fu} (a:LS f g) (b:LS g h):LS f h:=⟨b.most.trans a.most,Nat.le_trans a.done b.done,fun x=>b.bL (a.bL x),fun x=>by have:=b.cap (by rw[a.most];exact a.cap x);rw[a.most]at this;exact this⟩
theorem FR.nle {f g:Fu} (a:FR f g):LS f g:=⟨a.most,a.done,a.bL,a.cap⟩
structure NrG (E:List bO) (f f':Fu) (n:Nat) (u:Tm):Prop where
 ok:br (QE E) u n
 aR:f'.aR=f.aR
 lz:u.lz≤20000
 calls:f.parts+1≤f'.parts
 most:f'.parts≤20000
 depth:(u.depth:Int)≤40000*(f'.parts - f.parts)
def NrR (E:List bO) (σ:az) (b c:Nat) (w:Bool) (f:Fu) (n:Nat) (r:Option aQ):Prop:=
 ∃(u:Tm) (w':Bool) (f':Fu),r=some (.ret [(u.val,false)],dF σ b c E w' f')∧u.wide<2^32∧LS f f'∧(w=true→w'=true)∧(w'=false→f'.bL=false→NrG E f f' n u)
structure NrA (E:List bO) (f:Fu) (n:Nat) (t:Tm):Prop where
 ok:br (QE E) t n
 parts:t.parts≤1000000
 a0:0≤f.aR
 a1:f.aR≤20000
 p0:0≤f.parts
 p1:f.parts≤20000
 nb:(n:Int) - f.parts≤2^38
theorem G6 {E:List bO} {σ:az} {b c:Nat} {w:Bool} {f:Fu} (hb:σ[b]?=some (aD E w)) (hc:σ[c]?=some f.cells) (gg:b≠c) {n:Nat} {t:Tm} (Jq:t.wide<2^32) {all:Int}
  (hG:w=false→f.bL=false→(t.parts:Int)≤all∧f.aR+all≤20000∧0≤f.aR)
  (hN:∀(f1:Fu) (jH:az),jH[b]?=some (aD E w)→jH[c]?=some f1.cells→f1.most=f.most→f1.done=f.done→f1.bL=f.bL→f1.parts=f.parts→(w=false→f.bL=false→0≤f1.aR∧f1.aR≤20000)→NrR E jH b c w f1 n (ah C 247 [(.ptr 49 b 0,false),(t.val,false),(.ptr 332 c 0,false)] jH)):
  ∃(u:Tm) (w':Bool) (f':Fu) (Sw:Int),ah C 270 [(.ptr 49 b 0,false),(t.val,false),(.int .i64 all,false),(.ptr 332 c 0,false)] σ=some (.ret [(u.val,false),(.int .i64 Sw,false)],dF σ b c E w' f')∧u.wide<2^32∧(w=true→w'=true)∧
   LS f f'∧
   (w'=false→f'.bL=false→w=false∧f.bL=false∧NrG E f f' n u∧Sw=all - t.parts+u.parts∧f.aR+Sw≤20000):=by
 have eN:=cO hb
 have gE:=cO hc
 obtain⟨x1,c1,PS⟩:=ez σ t Jq 20000 (by omega)
 have e1:∀(K:List Cell→az→Option aQ) KP,aA (ah C) 231 [(t.val,false),(.int .i64 (20000:Int),false)] σ 1 K KP=K [(.int .i64 x1,false)] σ:=fun K KP=>ab PS
 let a1:Int:=IntKind.wrap .i64 (IntKind.wrap .i64 (f.aR+all) - x1)
 let f1:Fu:={f with aR:=a1}
 have hS1:aV σ (.ptr 332 c 4) [(.int .i64 a1,false)]=some (dF σ b c E w f1):=by rw[YR hc,←oF hb f1]
 have jc:(dF σ b c E w f1)[b]?=some (aD E w):=fo eN gg _ _
 have kt:(dF σ b c E w f1)[c]?=some f1.cells:=gP gE _ _
 have acN:w=false→f.bL=false→(x1:Int)=t.parts∧a1=f.aR+all - t.parts:=fun h1 h2=>by
  obtain⟨g1,g2,g0⟩:=hG h1 h2
  have hq:(x1:Int)=t.parts:=by rw[c1.ok (by omega)]
  refine⟨hq,?_⟩
  show IntKind.wrap .i64 (IntKind.wrap .i64 (f.aR+all) - x1)=_
  rw[hq,cG (x:=f.aR+all) (by omega) (by omega),cG (by omega) (by omega)]
 obtain⟨u,w2,f2,k1,k2,k3,k4,k5⟩:=hN f1 _ jc kt rfl rfl rfl rfl (fun h1 h2=>by
  obtain⟨g1,g2,g0⟩:=hG h1 h2
  show 0≤a1∧a1≤20000
  rw[(acN h1 h2).2];omega)
 rw[dU gg]at k1
 have e2:∀(K:List Cell→az→Option aQ) KP,aA (ah C) 247 [(.ptr 49 b 0,false),(t.val,false),(.ptr 332 c 0,false)] (dF σ b c E w f1) 1 K KP=K [(u.val,false)] (dF σ b c E w2 f2):=fun K KP=>ab k1
 have vu:(dF σ b c E w2 f2)[b]?=some (aD E w2):=fo eN gg _ _
 have pD:(dF σ b c E w2 f2)[c]?=some f2.cells:=gP gE _ _
 let a2:Int:=IntKind.wrap .i64 (IntKind.wrap .i64 (f2.aR - all)+x1)
 let f3:Fu:={f2 with aR:=a2}
 have hS2:aV (dF σ b c E w2 f2) (.ptr 332 c 4) [(.int .i64 a2,false)]=some (dF σ b c E w2 f3):=by rw[YR pD,oF vu f3,dU gg]
 have Tf:(dF σ b c E w2 f3)[b]?=some (aD E w2):=fo eN gg _ _
 have Ib:(dF σ b c E w2 f3)[c]?=some f3.cells:=gP gE _ _
 obtain⟨x2,c2,W6⟩:=ez (dF σ b c E w2 f3) u k2 20000 (by omega)
 have e3:∀(K:List Cell→az→Option aQ) KP,aA (ah C) 231 [(u.val,false),(.int .i64 (20000:Int),false)] (dF σ b c E w2 f3) 1 K KP=K [(.int .i64 x2,false)] (dF σ b c E w2 f3):=fun K KP=>ab W6
 let Sw:Int:=IntKind.wrap .i64 (IntKind.wrap .i64 (all - x1)+x2)
 let q:Int:=IntKind.wrap .i64 (IntKind.wrap .i64 (IntKind.wrap .i64 (a2+all) - x1)+x2)
 let w3:Bool:=bif w2 then true else decide (q>20000)
 refine⟨u,w3,f3,Sw,V5 (n:=0) ?_,k2,fun h=>?_,⟨k3.most,k3.done,k3.bL,k3.cap⟩,fun h1 h2=>?_⟩
 ·simp only[part,aE,aF,aC,aP,cj,bb,ae,bH,bQ,bA,cB,cq,cK,e1,fu4 hc,Option.bind_some,fT,List.getD_cons_zero]
  rw[show aV σ (.ptr 332 c 4) [(.int .i64 (IntKind.wrap .i64 (IntKind.wrap .i64 (f.aR+all) - x1)),false)]=some (dF σ b c E w f1)from hS1]
  simp only[Option.bind_some,e2,List.getD_cons_zero,aL,bz,cond_true,fu4 pD,fT]
  rw[show aV (dF σ b c E w2 f2) (.ptr 332 c 4) [(.int .i64 (IntKind.wrap .i64 (IntKind.wrap .i64 (f2.aR - all)+x1)),false)]=some (dF σ b c E w2 f3)from hS2]
  simp only[Option.bind_some,cY,e3,List.getD_cons_zero,gH Tf,iD,fT,fu4 Ib]
  cases w2 with
  |true=>
   simp only[cond_true,wI Tf,Option.bind_some]
   rw[jY Ib gg,dU gg];rfl
  |false=>
   simp only[cond_false,wI Tf,Option.bind_some]
   rw[jY Ib gg,dU gg];rfl
 ·show(bif w2 then true else _)=true
  rw[k4 h];rfl
 ·have FQ:w2=false:=by
   cases hh:w2 with
   |false=>rfl
   |true=>
    have h1':(bif w2 then true else decide (q>20000))=false:=h1
    rw[hh]at h1';simp at h1'
  have hq:¬q>20000:=by
   have h1':(bif w2 then true else decide (q>20000))=false:=h1
   rw[FQ]at h1'
   exact of_decide_eq_false h1'
  have hw:w=false:=by
   cases hh:w with
   |false=>rfl
   |true=>rw[k4 hh]at FQ;simp at FQ
  have ht:f.bL=false:=by
   cases hh:f.bL with
   |false=>rfl
   |true=>have:=k3.bL hh;rw[show f2.bL=false from h2]at this;simp at this
  obtain⟨g1,g2,g0⟩:=hG hw ht
  obtain⟨y1,y2⟩:=acN hw ht
  have gN:=k5 FQ h2
  have ha2:a2=f.aR:=by
   show IntKind.wrap .i64 (IntKind.wrap .i64 (f2.aR - all)+x1)=f.aR
   rw[gN.aR]
   show IntKind.wrap .i64 (IntKind.wrap .i64 (a1 - all)+x1)=f.aR
   rw[y2,y1,cG (x:=f.aR+all - t.parts - all) (by omega) (by omega),cG (by omega) (by omega)];omega
  have mK:=c2.cap
  have hqv:q=f.aR+all - t.parts+x2:=by
   show IntKind.wrap .i64 (IntKind.wrap .i64 (IntKind.wrap .i64 (a2+all) - x1)+x2)=_
   rw[ha2,y1,cG (x:=f.aR+all) (by omega) (by omega),cG (x:=f.aR+all - t.parts) (by omega) (by omega),cG (by omega) (by omega)]
  have hup:x2=u.parts:=by
   by_cases hp:u.parts≤20000
   ·exact c2.ok hp
   ·have:=c2.more (by omega);omega
  have PI:Sw=all - t.parts+u.parts:=by
   show IntKind.wrap .i64 (IntKind.wrap .i64 (all - x1)+x2)=_
   rw[y1,hup,cG (x:=all - t.parts) (by omega) (by omega),cG (by omega) (by omega)]
  refine⟨hw,ht,⟨gN.ok,ha2,gN.lz,gN.calls,gN.most,gN.depth⟩,PI,?_⟩
  rw[PI];omega
end Go.Ab.Mk
end
section
namespace Go.Ab.Mk
open Go.Proofs Go.Ab Go.Proofs.Mk
def Wr (E:List bO) (b c:Nat) (f0:Fu) (n:Nat) (x:Tm):Prop:=∀(w:Bool) (f:Fu) (σ:az),σ[b]?=some (aD E w)→σ[c]?=some f.cells→f.most=f0.most→f.done≤f0.most→f0.done≤f.done→(w=false→f.bL=false→NrA E f n x)→
 NrR E σ b c w f n (ah C 247 [(.ptr 49 b 0,false),(x.val,false),(.ptr 332 c 0,false)] σ)
structure LpG (f:Fu) (all:Int) (rest:List Tm) (n:Nat):Prop where
 a0:0≤f.aR
 a1:f.aR+all≤20000
 left:(dI rest:Int)≤all
 p0:0≤f.parts
 p1:f.parts≤20000
 nb:(n:Int)+1 - f.parts≤2^38
def YZ (E:List bO) (σ:az) (b c:Nat) (w:Bool) (f:Fu) (n:Nat) (D:Int) (r:Option aQ):Prop:=
 ∃(u:Tm) (w':Bool) (f':Fu),r=some (.ret [(u.val,false)],dF σ b c E w' f')∧u.wide<2^32∧LS f f'∧(w=true→w'=true)∧(w'=false→f'.bL=false→br (QE E) u n∧f'.aR=f.aR∧u.lz≤20000∧f.parts≤f'.parts∧f'.parts≤20000∧(u.depth:Int)≤40000*(f'.parts - f.parts)+D)
theorem YZ.after {E:List bO} {σ:az} {b c:Nat} {w w1:Bool} {f f1:Fu} {n:Nat} {D D1:Int} {r:Option aQ} (h:YZ E (dF σ b c E w1 f1) b c w1 f1 n D1 r) (gg:b≠c) (hf:LS f f1) (hw:w=true→w1=true) (hG:w1=false→f1.bL=false→f1.aR=f.aR∧f.parts≤f1.parts∧D1≤40000*(f1.parts - f.parts)+D):YZ E σ b c w f n D r:=by
 obtain⟨u,w',f',h1,h2,h3,h4,h5⟩:=h
 refine⟨u,w',f',by rw[h1,dU gg],h2,hf.trans h3,fun h=>h4 (hw h),fun a a'=>?_⟩
 have tC:w1=false:=by
  cases hh:w1 with
  |false=>rfl
  |true=>rw[h4 hh]at a;simp at a
 have JN:f1.bL=false:=by
  cases hh:f1.bL with
  |false=>rfl
  |true=>rw[h3.bL hh]at a';simp at a'
 obtain⟨g1,g2,g3⟩:=hG tC JN
 obtain⟨k1,k2,k3,k4,k5,k6⟩:=h5 a a'
 exact⟨k1,by rw[k2,g1],k3,by omega,k5,by omega⟩
section
variable {E:List bO} {b c:Nat} {n:Nat} {N:Nat} {t0 t1:Int} {t2:ByteArray} {t3 t4:List (List V)} {f0:Fu} {sp:List Tm}
theorem yl (gg:b≠c) (ZY:sp.length<2^32) (jP:∀x∈sp,br (QE E) x n∧x.wide<2^32) (hN:∀x∈sp,Wr E b c f0 n x):∀(m i:Nat) (h:Tm) (all:Int) (w:Bool) (f:Fu) (σ:az) (D:Int),σ[b]?=some (aD E w)→σ[c]?=some f.cells→f.most=f0.most→f.done≤f0.most→f0.done≤f.done→i≤sp.length→sp.length - i<m→h.wide<2^32→(0≤D)→
  (w=false→f.bL=false→LpG f all (sp.drop i) n∧br (QE E) h n∧h.lz≤20000∧(h.depth:Int)≤D)→
  YZ E σ b c w f n (D+(sp.length - i:Nat)) (kI (ah C) N m b c (.int .i64 all) (.slice 5 53 (sp.map Tm.enc)) i t0 t1 t2 t3 t4 (.int .i64 h.kind) (.int .i64 h.num) (.str h.name) (.slice 3 120 (h.bK.map Lv.enc)) (.slice 5 53 h.args) σ)
 |0,i,h,all,w,f,σ,D,_,_,_,_,_,_,hm,_,_,_=>by omega
 |m+1,i,h,all,w,f,σ,D,hb,hc,EC,Mq,Ws,hi,hm,hw,hD,hG=>by
  rw[show kI (ah C) N (m+1)=zu (ah C) (kI (ah C) N m)from rfl]
  unfold zu cz bo aE ft bJ bQ ae aF bF bA cR aH bp aq
  simp only[BH,Option.bind_some,List.length_map]
  have eN:=cO hb
  have gE:=cO hc
  by_cases aG:i<sp.length
  ·obtain⟨x1,x2⟩:=jP _ (List.getElem_mem aG)
   have hx:sp.drop i=sp[i]::sp.drop (i+1):=List.drop_eq_getElem_cons aG
   have hpx:dI (sp.drop i)=(sp[i]).parts+dI (sp.drop (i+1)):=by rw[hx,dI,List.map_cons,List.sum_cons];rfl
   obtain⟨u,w1,f1,Wt,p1,p2,p3,p4,p5⟩:=G6 hb hc gg (n:=n) x2 (all:=all) (fun h1 h2=>by
    obtain⟨g1,_⟩:=hG h1 h2
    have:=g1.left
    exact⟨by omega,g1.a1,g1.a0⟩) (fun f1 jH jc kt PV mJ JN E9 ha1=>hN _ (List.getElem_mem aG) w f1 jH jc kt (by rw[PV];exact EC) (by rw[mJ];exact Mq) (by rw[mJ];exact Ws) (fun h1 h2=>by
     rw[JN]at h2
     obtain⟨g1,_⟩:=hG h1 h2
     have:=g1.left
     have:=g1.a1
     have:=g1.a0
     obtain⟨q1,q2⟩:=ha1 h1 h2
     exact⟨x1,by omega,q1,q2,by rw[E9];exact g1.p0,by rw[E9];exact g1.p1,by rw[E9];have:=g1.nb;omega⟩))
   have jc:(dF σ b c E w1 f1)[b]?=some (aD E w1):=fo eN gg _ _
   have kt:(dF σ b c E w1 f1)[c]?=some f1.cells:=gP gE _ _
   have e1:∀(K:List Cell→az→Option aQ) KP,aA (ah C) 270 [(.ptr 49 b 0,false),((sp[i]).val,false),(.int .i64 all,false),(.ptr 332 c 0,false)] σ 2 K KP=K [(u.val,false),(.int .i64 Wt,false)] (dF σ b c E w1 f1):=fun K KP=>aW p1
   have e2:∀(K:List Cell→az→Option aQ) KP,aA (ah C) 228 [(h.val,false),(u.val,false)] (dF σ b c E w1 f1) 1 K KP=K [((Tm.app h u).val,false)] (dF σ b c E w1 f1):=fun K KP=>ab (fg h u _)
   let D1:Int:=max D (40000*(f1.parts - f.parts)+D)+1
   have ih:=yl gg ZY jP hN m (i+1) (.app h u) Wt w1 f1 _ D1 jc kt (p4.most.trans EC) (by have:=p4.cap (by rw[EC];exact Mq);rw[EC]at this;exact this) (Nat.le_trans Ws p4.done) (by omega) (by omega) (by simp only[Tm.wide];omega) (by show 0≤max D _+1;omega) (fun h1 h2=>by
    obtain⟨v1,v2,v3,v4,v5⟩:=p5 h1 h2
    obtain⟨g1,g2,g3,g4⟩:=hG v1 v2
    have l:=g1.left
    refine⟨⟨by rw[v3.aR];exact g1.a0,by rw[v3.aR];exact v5,by omega,by have:=v3.calls;have:=g1.p0;omega,v3.most,by have:=v3.calls;have:=g1.nb;omega⟩,⟨g2,v3.ok⟩,by have:=v3.lz;simp only[Tm.lz];omega,?_⟩
    have vd:=v3.depth
    show(((max h.depth u.depth+1:Nat)):Int)≤max D (40000*(f1.parts - f.parts)+D)+1
    omega)
   refine YZ.after ?_ gg p4 p3 (fun h1 h2=>?_) (D1:=D1+(sp.length - (i+1):Nat))
   ·simp only[eD aG,cond_true,d0,Bool.and_self,bz,Option.bind_some,dB aG,bf,e1,List.getD_cons_zero,List.getD_cons_succ,aL,cY,cK,e2,cV,dJ,dK,dw,dh,aw (show i<2^61 by omega)]
    exact ih
   ·obtain⟨v1,v2,v3,v4,v5⟩:=p5 h1 h2
    refine⟨v3.aR,by have:=v3.calls;omega,?_⟩
    have vc:=v3.calls
    show max D (40000*(f1.parts - f.parts)+D)+1+((sp.length - (i+1):Nat):Int)≤_
    omega
  ·refine⟨h,w,f,?_,hw,LS.refl f,id,fun h1 h2=>?_⟩
   ·rw[cQ aG,cond_false,←Aj hb hc];rfl
   ·obtain⟨g1,g2,g3,g4⟩:=hG h1 h2
    exact⟨g2,rfl,g3,Int.le_refl _,g1.p1,by omega⟩
end
theorem acO {Q:ByteArray→Nat→Prop} (t:Tm) (L:List Tm) (n:Nat) (h:L.length=t.kids.length) (hL:∀(j:Nat) (hj:j<L.length),br Q L[j] (j9 t j n)) (ht:br Q t n):br Q (t.re L) n:=by
 cases t<;>simp only[Tm.kids,List.length_cons,List.length_nil]at h
 case var=>obtain rfl:=List.length_eq_zero_iff.1 h;exact ht
 case sort=>obtain rfl:=List.length_eq_zero_iff.1 h;exact ht
 case const=>obtain rfl:=List.length_eq_zero_iff.1 h;exact ht
 case app=>
  match L,h with
  |[a,b],_=>exact⟨by simpa[j9,Tm.kind,Tm.kids]using hL 0 (by simp),by simpa[j9,Tm.kind,Tm.kids]using hL 1 (by simp)⟩
 case lam=>
  match L,h with
  |[a,b],_=>exact⟨by simpa[j9,Tm.kind,Tm.kids]using hL 0 (by simp),by simpa[j9,Tm.kind,Tm.kids]using hL 1 (by simp)⟩
 case pi=>
  match L,h with
  |[a,b],_=>exact⟨by simpa[j9,Tm.kind,Tm.kids]using hL 0 (by simp),by simpa[j9,Tm.kind,Tm.kids]using hL 1 (by simp)⟩
 case bE=>
  match L,h with
  |[a,b,c],_=>exact⟨by simpa[j9,Tm.kind,Tm.kids]using hL 0 (by simp),by simpa[j9,Tm.kind,Tm.kids]using hL 1 (by simp),by simpa[j9,Tm.kind,Tm.kids]using hL 2 (by simp)⟩
theorem acP (t:Tm) (L:List Tm) (h:L.length=t.kids.length):(∀W,t.wide≤W→(∀c∈L,c.wide≤W)→(t.re L).wide≤W)∧(∀W,t.lz≤W→(∀c∈L,c.lz≤W)→(t.re L).lz≤W)∧∀W,t.depth≤W→(∀c∈L,c.depth+1≤W)→(t.re L).depth≤W:=by
 cases t<;>simp only[Tm.kids,List.length_cons,List.length_nil]at h
 case var=>obtain rfl:=List.length_eq_zero_iff.1 h;exact⟨fun W h _=>h,fun W h _=>h,fun W h _=>h⟩
 case sort=>obtain rfl:=List.length_eq_zero_iff.1 h;exact⟨fun W h _=>h,fun W h _=>h,fun W h _=>h⟩
 case const=>obtain rfl:=List.length_eq_zero_iff.1 h;exact⟨fun W h _=>h,fun W h _=>h,fun W h _=>h⟩
 case bE=>
  match L,h with
  |[a,b,c],_=>
   refine⟨fun W _ hL=>?_,fun W _ hL=>?_,fun W _ hL=>?_⟩<;>
    (have h1:=hL a (by simp);have h2:=hL b (by simp);have h3:=hL c (by simp);simp only[Tm.re,Tm.wide,Tm.lz,Tm.depth];omega)
 all_goals
  match L,h with
  |[a,b],_=>
   refine⟨fun W _ hL=>?_,fun W _ hL=>?_,fun W _ hL=>?_⟩<;>
    (have h1:=hL a (by simp);have h2:=hL b (by simp);simp only[Tm.re,Tm.wide,Tm.lz,Tm.depth];omega)
section
variable {E:List bO} {b c:Nat} {n:Nat} {N:Nat} {t0 t1:Int} {t2:ByteArray} {t3 t4:List (List V)} {f0:Fu} {t:Tm}
theorem ym (gg:b≠c) (Jq:t.wide<2^32) (ht:br (QE E) t n) (hlz:t.lz≤20000) (hk:∀(i:Nat) (hi:i<t.kids.length),br (QE E) t.kids[i] (j9 t i n)) (hN:∀(i:Nat) (hi:i<t.kids.length),Wr E b c f0 (j9 t i n) t.kids[i]):∀(m i:Nat) (L:List Tm) (all:Int) (w:Bool) (f:Fu) (σ:az) (D:Int),σ[b]?=some (aD E w)→σ[c]?=some f.cells→f.most=f0.most→f.done≤f0.most→f0.done≤f.done→i≤t.kids.length→t.kids.length - i<m→L.length=i→(∀c∈L,c.wide<2^32)→(t.depth:Int)≤D→1≤D→
  (w=false→f.bL=false→LpG f all (t.kids.drop i) n∧(∀(j:Nat) (hj:j<L.length),br (QE E) L[j] (j9 t j n))∧(∀c∈L,c.lz≤20000)∧∀c∈L,(c.depth:Int)+1≤D)→
  YZ E σ b c w f n D (kJ (ah C) N m b c (.int .i64 all) (L.map Tm.enc) i (.int .i64 t.kind) (.int .i64 t.num) (.str t.name) (.slice 3 120 (t.bK.map Lv.enc)) (.slice 5 53 t.args) t0 t1 t2 t3 t4 σ)
 |0,i,L,all,w,f,σ,D,_,_,_,_,_,_,hm,_,_,_,_,_=>by omega
 |m+1,i,L,all,w,f,σ,D,hb,hc,EC,Mq,Ws,hi,hm,hL,hLw,hDt,hD,hG=>by
  rw[show kJ (ah C) N (m+1)=zx (ah C) (kJ (ah C) N m)from rfl]
  unfold zx cz bo aE ft bJ bQ ae iz aH bp aF bF dk aq bA
  have PI:t.args.length=t.kids.length:=by simp[Tm.args]
  simp only[BH,Option.bind_some,PI]
  have eN:=cO hb
  have gE:=cO hc
  have h3:=lC t
  by_cases aG:i<t.kids.length
  ·have x1:=hk i aG
   have x2:(t.kids[i]).wide<2^32:=by have:=jW (List.getElem_mem aG);omega
   have hx:t.kids.drop i=t.kids[i]::t.kids.drop (i+1):=List.drop_eq_getElem_cons aG
   have hpx:dI (t.kids.drop i)=(t.kids[i]).parts+dI (t.kids.drop (i+1)):=by rw[hx,dI,List.map_cons,List.sum_cons];rfl
   obtain⟨u,w1,f1,Wt,p1,p2,p3,p4,p5⟩:=G6 hb hc gg (n:=j9 t i n) x2 (all:=all) (fun h1 h2=>by
    obtain⟨g1,_⟩:=hG h1 h2
    have:=g1.left
    exact⟨by omega,g1.a1,g1.a0⟩) (fun f1 jH jc kt PV mJ JN E9 ha1=>hN i aG w f1 jH jc kt (by rw[PV];exact EC) (by rw[mJ];exact Mq) (by rw[mJ];exact Ws) (fun h1 h2=>by
     rw[JN]at h2
     obtain⟨g1,_⟩:=hG h1 h2
     have:=g1.left
     have:=g1.a1
     have:=g1.a0
     obtain⟨q1,q2⟩:=ha1 h1 h2
     exact⟨x1,by omega,q1,q2,by rw[E9];exact g1.p0,by rw[E9];exact g1.p1,by rw[E9];have:=g1.nb;have:=qw t i n;omega⟩))
   have jc:(dF σ b c E w1 f1)[b]?=some (aD E w1):=fo eN gg _ _
   have kt:(dF σ b c E w1 f1)[c]?=some f1.cells:=gP gE _ _
   have e1:∀(K:List Cell→az→Option aQ) KP,aA (ah C) 270 [(.ptr 49 b 0,false),((t.kids[i]).val,false),(.int .i64 all,false),(.ptr 332 c 0,false)] σ 2 K KP=K [(u.val,false),(.int .i64 Wt,false)] (dF σ b c E w1 f1):=fun K KP=>aW p1
   let D1:Int:=max D (40000*(f1.parts - f.parts)+1)
   have ih:=ym gg Jq ht hlz hk hN m (i+1) (L++[u]) Wt w1 f1 _ D1 jc kt (p4.most.trans EC) (by have:=p4.cap (by rw[EC];exact Mq);rw[EC]at this;exact this) (Nat.le_trans Ws p4.done) (by omega) (by omega) (by simp[hL]) (fun c hc=>by
    rcases List.mem_append.1 hc with hc|hc
    ·exact hLw c hc
    ·rw[List.mem_singleton]at hc;subst hc;exact p2) (by show(t.depth:Int)≤max D _;omega) (by show 1≤max D _;omega) (fun h1 h2=>by
    obtain⟨v1,v2,v3,v4,v5⟩:=p5 h1 h2
    obtain⟨g1,g2,g3,g4⟩:=hG v1 v2
    have l:=g1.left
    refine⟨⟨by rw[v3.aR];exact g1.a0,by rw[v3.aR];exact v5,by omega,by have:=v3.calls;have:=g1.p0;omega,v3.most,by have:=v3.calls;have:=g1.nb;omega⟩,fun j hj=>?_,fun c hc=>?_,fun c hc=>?_⟩
    ·by_cases hj2:j<L.length
     ·rw[List.getElem_append_left hj2];exact g2 j hj2
     ·simp only[List.length_append,List.length_singleton]at hj
      have:j=L.length:=by omega
      subst this
      rw[List.getElem_append_right (Nat.le_refl _)]
      simp only[Nat.sub_self,List.getElem_cons_zero]
      rw[hL];exact v3.ok
    ·rcases List.mem_append.1 hc with hc|hc
     ·exact g3 c hc
     ·rw[List.mem_singleton]at hc;subst hc;exact v3.lz
    ·show(c.depth:Int)+1≤max D _
     rcases List.mem_append.1 hc with hc|hc
     ·have:=g4 c hc;omega
     ·rw[List.mem_singleton]at hc;subst hc
      have:=v3.depth
      omega)
   refine YZ.after ?_ gg p4 p3 (fun h1 h2=>?_) (D1:=D1)
   ·simp only[eD aG,cond_true,d0,Bool.and_self,bz,Option.bind_some,show t.args.getD (Int.toNat (i:Int)) []=(t.kids[i]).enc from dB aG,bf,e1,List.getD_cons_zero,List.getD_cons_succ,aL,nt,cF (show(L.map Tm.enc).length+1<2^34 by rw[List.length_map];omega),aw (show i<2^61 by omega)]
    rw[List.map_append]at ih
    exact ih
   ·obtain⟨v1,v2,v3,v4,v5⟩:=p5 h1 h2
    have vc:=v3.calls
    refine⟨v3.aR,by omega,?_⟩
    show max D (40000*(f1.parts - f.parts)+1)≤_
    omega
  ·have hLk:L.length=t.kids.length:=by omega
   obtain⟨r1,_⟩:=Wl t L hLk
   obtain⟨z1,z2,z3⟩:=acP t L hLk
   have hw:=yk t (L.map Tm.enc) σ
   rw[show V.agg [.int .i64 t.kind,.int .i64 t.num,.str t.name,.slice 3 120 (t.bK.map Lv.enc),.slice 5 53 (L.map Tm.enc)]=(t.re L).val from r1.symm]at hw
   have e1:∀(K:List Cell→az→Option aQ) KP,aA (ah C) 271 [(t.val,false),(.slice 5 53 (L.map Tm.enc),false)] σ 1 K KP=K [((t.re L).val,false)] σ:=fun K KP=>ab hw
   have hzw:=z1 (2^32 - 1) (by omega) fun c hc=>by have:=hLw c hc;omega
   refine⟨t.re L,w,f,?_,by omega,LS.refl f,id,fun h1 h2=>?_⟩
   ·rw[cQ aG,cond_false,←Aj hb hc]
    simp only[cK,e1,List.getD_cons_zero,aL,bz,cond_true,Option.bind_some,cY]
   ·obtain⟨g1,g2,g3,g4⟩:=hG h1 h2
    refine⟨acO t L n hLk g2 ht,rfl,z2 20000 hlz g3,Int.le_refl _,g1.p1,?_⟩
    have:=z3 D.toNat (by omega) fun c hc=>by have:=g4 c hc;omega
    omega
end
end Go.Ab.Mk
end
