/- A family's declaration is looked at: ctor. -/
import Derived.Test.YtcjofhikcokhfaaGreatDoorLvKp
set_option linter.unusedSimpArgs false
set_option linter.unusedVariables false
set_option linter.deprecated false
section
namespace Go.Ab.Mk
open Go.Proofs Go.Ab Go.Proofs.Mk
theorem Y0 {Q:ByteArray→Nat→Prop} {t:Tm} {n:Nat} (h:br Q t n):∀(i:Nat) (hi:i<t.kids.length),br Q t.kids[i] (j9 t i n):=by
 intro i hi
 cases t<;>simp only[Tm.kids,List.length_cons,List.length_nil]at hi
 case var=>omega
 case sort=>omega
 case const=>omega
 case app a b=>
  match i,hi with
  |0,_=>simpa[j9,Tm.kind,Tm.kids]using h.1
  |1,_=>simpa[j9,Tm.kind,Tm.kids]using h.2
 case lam a b=>
  match i,hi with
  |0,_=>simpa[j9,Tm.kind,Tm.kids]using h.1
  |1,_=>simpa[j9,Tm.kind,Tm.kids]using h.2
 case pi a b=>
  match i,hi with
  |0,_=>simpa[j9,Tm.kind,Tm.kids]using h.1
  |1,_=>simpa[j9,Tm.kind,Tm.kids]using h.2
 case bE a b c=>
  match i,hi with
  |0,_=>simpa[j9,Tm.kind,Tm.kids]using h.1
  |1,_=>simpa[j9,Tm.kind,Tm.kids]using h.2.1
  |2,_=>simpa[j9,Tm.kind,Tm.kids]using h.2.2
theorem LU (t:Tm):dI t.kids<t.parts:=by have:=wG t;omega
theorem EE {E:List bO} (hE:dj E) {b c:Nat} (gg:b≠c):∀(k s n:Nat) (t:Tm) (w:Bool) (f:Fu) (σ:az),n<2^39→σ[b]?=some (aD E w)→σ[c]?=some f.cells→f.most<2^50→f.done≤f.most→f.most - f.done≤k→t.wide<2^32→(w=false→f.bL=false→NrA E f n t∧t.parts≤s)→
  NrR E σ b c w f n (ah C 247 [(.ptr 49 b 0,false),(t.val,false),(.ptr 332 c 0,false)] σ):=by
 intro k
 induction k using Nat.strongRecOn with
 |_ k ihk=>
 intro s
 induction s using Nat.strongRecOn with
 |_ s ihs=>
 intro n t w f σ hn hb hc EC Z6 hk Jq hG
 have eN:=cO hb
 have gE:=cO hc
 obtain⟨t1,w1,f1,k1,k2,k3,k4,k5⟩:=G5 hE gg (show n<2^40 by omega) hb hc EC Z6 Jq (fun h1 h2=>by
  obtain⟨g,_⟩:=hG h1 h2
  have:=g.a1
  have:=g.parts
  exact⟨g.ok,g.parts,g.a0,by omega,Nat.le_refl _⟩)
 have jc:(dF σ b c E w1 f1)[b]?=some (aD E w1):=fo eN gg _ _
 have kt:(dF σ b c E w1 f1)[c]?=some f1.cells:=gP gE _ _
 let p2:Int:=IntKind.wrap .i64 (f1.parts+1)
 let f2:Fu:={f1 with parts:=p2}
 let w2:Bool:=bif w1 then true else decide (p2>20000)
 have vu:(dF σ b c E w1 f2)[b]?=some (aD E w1):=fo eN gg _ _
 have pD:(dF σ b c E w1 f2)[c]?=some f2.cells:=gP gE _ _
 have Tf:(dF σ b c E w2 f2)[b]?=some (aD E w2):=fo eN gg _ _
 have Ib:(dF σ b c E w2 f2)[c]?=some f2.cells:=gP gE _ _
 obtain⟨w3,m1,m2,m3⟩:=qx Tf Ib t1 k2
 rw[jY Ib gg,dU gg]at m1
 have Tg:(dF σ b c E w3 f2)[b]?=some (aD E w3):=fo eN gg _ _
 have Zr:(dF σ b c E w3 f2)[c]?=some f2.cells:=gP gE _ _
 have hF2:LS f f2:=⟨k3.most,k3.done,k3.bL,k3.cap⟩
 have Y1:w1=true→w3=true:=fun h=>m2 (by show(bif w1 then true else _)=true;rw[h];rfl)
 -- what is known where all is well so far
 have Bz:w3=false→f2.bL=false→w=false∧f.bL=false∧br (QE E) t1 n∧t1.parts≤20000∧f.aR+t1.parts≤20000∧f2.parts=f.parts+1∧f2.parts≤20000∧(f2.done=f.done→t1=t):=by
  intro h1 h2
  have FQ:w2=false:=by
   cases hh:w2 with
   |false=>rfl
   |true=>rw[m2 hh]at h1;simp at h1
  have tC:w1=false:=by
   cases hh:w1 with
   |false=>rfl
   |true=>rw[Y1 hh]at h1;simp at h1
  have hw:w=false:=by
   cases hh:w with
   |false=>rfl
   |true=>rw[k4 hh]at tC;simp at tC
  have ht:f.bL=false:=by
   cases hh:f.bL with
   |false=>rfl
   |true=>have:=k3.bL hh;rw[show f1.bL=false from h2]at this;simp at this
  obtain⟨g,_⟩:=hG hw ht
  have gp0:=g.p0
  have gp1:=g.p1
  have ga0:=g.a0
  have ga1:=g.a1
  have TM:p2=f.parts+1:=by
   show IntKind.wrap .i64 (f1.parts+1)=_
   rw[k3.parts,cG (by omega) (by omega)]
  have hle:¬p2>20000:=by
   have:(bif w1 then true else decide (p2>20000))=false:=FQ
   rw[tC]at this
   exact of_decide_eq_false this
  have hm:=m3 h1 (by show 0≤f1.aR;rw[k3.aR];exact ga0) (by show f1.aR<_;rw[k3.aR];omega)
  have hm:f1.aR+t1.parts≤20000:=hm
  rw[k3.aR]at hm
  obtain⟨o1,o2,o3⟩:=k5 tC h2
  exact⟨hw,ht,o1,by omega,hm,TM,by show p2≤20000;omega,o3⟩
 have e1:∀(K:List Cell→az→Option aQ) KP,aA (ah C) 246 [(.ptr 49 b 0,false),(t.val,false),(.ptr 332 c 0,false)] σ 1 K KP=K [(t1.val,false)] (dF σ b c E w1 f1):=fun K KP=>ab k1
 have hS1:aV (dF σ b c E w1 f1) (.ptr 332 c 3) [(.int .i64 (IntKind.wrap .i64 (f1.parts+1)),false)]=some (dF σ b c E w1 f2):=by
  rw[adK kt,oF jc ({f1 with parts:=IntKind.wrap .i64 (f1.parts+1)}:Fu),dU gg]
 have e2:∀(K:List Cell→az→Option aQ) KP,aA (ah C) 268 [(.ptr 49 b 0,false),(t1.val,false),(.ptr 332 c 0,false)] (dF σ b c E w2 f2) 0 K KP=K [] (dF σ b c E w3 f2):=fun K KP=>bm m1
 -- what comes behind the measure
 have tail:∀KP:Nat,True:=fun _=>trivial
 have rest:w3=false→f2.bL=false→∀(N:Nat),2^33≤N→∃(x:Nat),(∀(K:List Cell→az→Option aQ) KP,aA (ah C) 231 [(t1.val,false),(.int .i64 (20000:Int),false)] (dF σ b c E w3 f2) 1 K KP=K [(.int .i64 x,false)] (dF σ b c E w3 f2))∧x=t1.parts:=by
  intro h1 h2 N _
  obtain⟨_,_,_,hp,_⟩:=Bz h1 h2
  obtain⟨x,c1,hx⟩:=ez (dF σ b c E w3 f2) t1 k2 20000 (by omega)
  exact⟨x,fun K KP=>ab hx,c1.ok hp⟩
 have body:∃(u:Tm) (w':Bool) (f':Fu),BX (ah C) (2^34) b t.kind t.num t.name (t.bK.map Lv.enc) t.args c σ=some (.ret [(u.val,false)],dF σ b c E w' f')∧u.wide<2^32∧LS f f'∧(w=true→w'=true)∧(w'=false→f'.bL=false→NrG E f f' n u):=by
  have bad:(w3=true∨f2.bL=true)→∃(u:Tm) (w':Bool) (f':Fu),some (.ret [(t1.val,false)],dF σ b c E w3 f2)=some (End.ret [(u.val,false)],dF σ b c E w' f')∧u.wide<2^32∧LS f f'∧(w=true→w'=true)∧(w'=false→f'.bL=false→NrG E f f' n u):=fun hx=>
   ⟨t1,w3,f2,rfl,k2,hF2,fun h=>Y1 (k4 h),fun h1 h2=>by
    rcases hx with h|h
    ·rw[h]at h1;simp at h1
    ·rw[h]at h2;simp at h2⟩
  -- where all is well
  have adX:w3=false→f2.bL=false→∀x:Nat,x=t1.parts→YZ E (dF σ b c E w3 f2) b c w3 f2 n 39999 (bif (t1.kind==(3:Int))then kI (ah C) (2^34) (2^34) b c (.int .i64 x) (.slice 5 53 (t1.spine.map Tm.enc)) 0 0 0 (ByteArray.mk #[]) [] [] (.int .i64 t1.head.kind) (.int .i64 t1.head.num) (.str t1.head.name) (.slice 3 120 (t1.head.bK.map Lv.enc)) (.slice 5 53 t1.head.args) (dF σ b c E w3 f2)
    else kJ (ah C) (2^34) (2^34) b c (.int .i64 x) [] 0 (.int .i64 t1.kind) (.int .i64 t1.num) (.str t1.name) (.slice 3 120 (t1.bK.map Lv.enc)) (.slice 5 53 t1.args) 0 0 (ByteArray.mk #[]) [] [] (dF σ b c E w3 f2)):=by
   intro h1 h2 x hx
   obtain⟨q1,q2,q3,q4,q5,q6,q7,q8⟩:=Bz h1 h2
   obtain⟨g,gs⟩:=hG q1 q2
   have gp0:=g.p0
   have ga0:=g.a0
   have gnb:=g.nb
   have G7:f2.most=f.most:=k3.most
   have aei:f.done≤f2.done:=k3.done
   have mK:f2.done≤f.most:=k3.cap Z6
   have Y2:f2.aR=f.aR:=k3.aR
   have aeE:=cJ t1
   have hlz:=fe t1
   -- the parts' normal forms
   have hNp:∀(y:Tm) (n':Nat),n'≤n+1→y.wide<2^32→y.parts<t1.parts→Wr E b c f2 n' y:=by
    intro y n' hn' hyw hyp w' f' eM jI tb Tu D5 wS hA
    by_cases xa:f'.done=f.done
    ·have JN:t1=t:=q8 (by omega)
     subst JN
     have gs':=gs
     exact ihs y.parts (by omega) n' y w' f' eM (by omega) jI tb (by rw[Tu,G7];exact EC) (by rw[Tu];exact D5) (by rw[Tu,G7];omega) hyw (fun a a'=>⟨hA a a',Nat.le_refl _⟩)
    ·exact ihk (f'.most - f'.done) (by rw[Tu,G7];omega) y.parts n' y w' f' eM (by omega) jI tb (by rw[Tu,G7];exact EC) (by rw[Tu];exact D5) (Nat.le_refl _) hyw (fun a a'=>⟨hA a a',Nat.le_refl _⟩)
   have hwd:∀y:Tm,y.parts≤t1.parts→y.wide<2^32:=fun y hy=>by have:=cU y;omega
   by_cases lL:t1.kind=3
   ·rw[show(t1.kind==(3:Int))=true by rw[lL];rfl,cond_true]
    obtain⟨s1,s2⟩:=nu t1 n q3
    obtain⟨p1,p2'⟩:=nT t1
    have hsd:t1.head.depth<t1.head.parts:=cJ t1.head
    have hhl:=fe t1.head
    have hlen:t1.spine.length<t1.parts:=p2'
    have L:=yl (E:=E) (b:=b) (c:=c) (n:=n) (N:=2^34) (t0:=0) (t1:=0) (t2:=ByteArray.mk #[]) (t3:=[]) (t4:=[]) (f0:=f2) (sp:=t1.spine) gg (by omega) (fun y hy=>⟨s2 y hy,hwd y (Nat.le_of_lt (nV hy))⟩) (fun y hy=>hNp y n (by omega) (hwd y (Nat.le_of_lt (nV hy))) (nV hy)) (2^34) 0 t1.head x w3 f2 _ 19999 Tg Zr rfl (by rw[G7];exact mK) (Nat.le_refl _) (Nat.zero_le _) (by omega) (hwd t1.head (by omega)) (by omega) (fun _ _=>⟨⟨by rw[Y2];exact ga0,by rw[Y2,hx];exact q5,by rw[List.drop_zero,hx];omega,by omega,q7,by omega⟩,s1,by omega,by omega⟩)
    obtain⟨u,w',f',z1,z2,z3,z4,z5⟩:=L
    refine⟨u,w',f',z1,z2,z3,z4,fun a a'=>?_⟩
    obtain⟨y1,y2,y3,y4,y5,y6⟩:=z5 a a'
    exact⟨y1,y2,y3,y4,y5,by omega⟩
   ·rw[show(t1.kind==(3:Int))=false by rw[beq_eq_false_iff_ne];exact lL,cond_false]
    have hkp:∀(i:Nat) (hi:i<t1.kids.length),(t1.kids[i]).parts<t1.parts:=fun i hi=>GI (List.getElem_mem hi)
    have L:=ym (E:=E) (b:=b) (c:=c) (n:=n) (N:=2^34) (t0:=0) (t1:=0) (t2:=ByteArray.mk #[]) (t3:=[]) (t4:=[]) (f0:=f2) (t:=t1) gg k2 q3 (by omega) (Y0 q3) (fun i hi=>hNp _ _ (by have:=qw t1 i n;omega) (hwd _ (Nat.le_of_lt (hkp i hi))) (hkp i hi)) (2^34) 0 [] x w3 f2 _ 39999 Tg Zr rfl (by rw[G7];exact mK) (Nat.le_refl _) (Nat.zero_le _) (by have:=lC t1;omega) rfl (by simp) (by omega) (by omega) (fun _ _=>⟨⟨by rw[Y2];exact ga0,by rw[Y2,hx];exact q5,by rw[List.drop_zero,hx];have:=LU t1;omega,by omega,q7,by omega⟩,fun j hj=>by simp at hj,by simp,by simp⟩)
    exact L
  have fin:w3=false→f2.bL=false→∀r,YZ E (dF σ b c E w3 f2) b c w3 f2 n 39999 r→∃(u:Tm) (w':Bool) (f':Fu),r=some (End.ret [(u.val,false)],dF σ b c E w' f')∧u.wide<2^32∧LS f f'∧(w=true→w'=true)∧(w'=false→f'.bL=false→NrG E f f' n u):=by
   intro h1 h2 r hr
   obtain⟨q1,q2,q3,q4,q5,q6,q7,q8⟩:=Bz h1 h2
   obtain⟨u,w',f',z1,z2,z3,z4,z5⟩:=hr
   rw[dU gg]at z1
   refine⟨u,w',f',z1,z2,hF2.trans z3,fun h=>by rw[q1]at h;simp at h,fun a a'=>?_⟩
   obtain⟨y1,y2,y3,y4,y5,y6⟩:=z5 a a'
   exact⟨y1,by rw[y2];exact k3.aR,y3,by omega,y5,by omega⟩
  have acQ:w1=true→aV (dF σ b c E w1 f2) (.ptr 49 b 1) [(.bool true,false)]=some (dF σ b c E w2 f2):=fun h=>by
   rw[wI vu,jY pD gg,dU gg]
   have:w2=true:=by show(bif w1 then true else _)=true;rw[h];rfl
   rw[this]
  have acR:w1=false→aV (dF σ b c E w1 f2) (.ptr 49 b 1) [(.bool (decide (p2>20000)),false)]=some (dF σ b c E w2 f2):=fun h=>by
   rw[wI vu,jY pD gg,dU gg]
   have:w2=decide (p2>20000):=by show(bif w1 then true else _)=_;rw[h];rfl
   rw[this]
  have jP:w3=false→f2.bL=false→∀(K:List Cell→az→Option aQ) KP,aA (ah C) 219 [(t1.val,false)] (dF σ b c E w3 f2) 2 K KP=K [(t1.head.val,false),(.slice 5 53 (t1.spine.map Tm.enc),false)] (dF σ b c E w3 f2):=fun h1 h2 K KP=>by
   obtain⟨_,_,_,q4,_⟩:=Bz h1 h2
   have:=(nT t1).2
   exact aW (ik t1 (by omega) _)
  simp only[BX,aE,bH,aC,bQ,ae,cj,bb,aP,bp,cB,bA,aq,aF,aM,cR,aH,cK,e1,List.getD_cons_zero,aL,bz,cond_true,Option.bind_some,fu3 kt,fT,hS1,gH vu,iD,cY,fu3 pD]
  rw[Bool.cond_eq_ite]
  by_cases tC:w1=true
  ·rw[if_pos tC,acQ tC]
   simp only[Option.bind_some,e2,Xe Zr,iD,gH Tg]
   rw[Bool.cond_eq_ite]
   by_cases ht:f2.bL=true
   ·rw[if_pos ht];exact bad (.inr ht)
   ·rw[if_neg ht,Bool.cond_eq_ite,if_pos (Y1 tC)]
    exact bad (.inl (Y1 tC))
  ·have adY:w1=false:=by simpa using tC
   rw[if_neg tC,show aV (dF σ b c E w1 f2) (.ptr 49 b 1) [(.bool (decide (f2.parts>20000)),false)]=some (dF σ b c E w2 f2)from acR adY]
   simp only[Option.bind_some,e2,Xe Zr,iD,gH Tg]
   rw[Bool.cond_eq_ite]
   by_cases ht:f2.bL=true
   ·rw[if_pos ht];exact bad (.inr ht)
   ·have YY:f2.bL=false:=by simpa using ht
    rw[if_neg ht,Bool.cond_eq_ite]
    by_cases h3:w3=true
    ·rw[if_pos h3];exact bad (.inl h3)
    ·have WY:w3=false:=by simpa using h3
     obtain⟨x,e3,hx⟩:=rest WY YY (2^33) (Nat.le_refl _)
     rw[if_neg h3]
     simp only[e3,jP WY YY,List.getD_cons_zero,List.getD_cons_succ,cV,dJ,dK,dw,dh,fT,Option.bind_some,aL,cond_true]
     exact fin WY YY _ (adX WY YY x hx)
 obtain⟨u,w',f',r1,r2⟩:=body
 exact⟨u,w',f',KV (n:=2^34) r1,r2⟩
end Go.Ab.Mk
end
section
namespace Go.Ab.Mk
open Go.Proofs Go.Ab Go.Proofs.Mk
theorem cT {σ τ:az} {b:Nat} {x:List Cell} (h:σ[b]?=some x):(σ++τ)[b]?=some x:=by rw[List.getElem?_append_left (cO h)];exact h
theorem Ca (σ:az) (x:List Cell):(σ++[x])[σ.length]?=some x:=by simp
theorem Cb {σ:az} {b:Nat} {E:List bO} {x:List Cell} (hb:b<σ.length) (w:Bool) (f:Fu):dF (σ++[x]) b σ.length E w f=σ.set b (aD E w)++[f.cells]:=by
 unfold dF
 rw[List.set_append_left _ _ hb,List.set_append_right _ _ (by simp)]
 simp
section
variable {E:List bO} {b n:Nat} {w:Bool} {σ:az} {fuel:Nat}
theorem G8 (hE:dj E) (hn:n<2^40) (hb:σ[b]?=some (aD E w)) (hf:fuel<2^50) {t:Tm} (Jq:t.wide<2^32) (hG:w=false→br (QE E) t n∧t.parts≤1000000):
  ∃(u:Tm) (s k:Int) (w':Bool) (τ:az),ah C 214 [(.ptr 49 b 0,false),(t.val,false),(.int .i64 fuel,false)] σ=some (.ret [(u.val,false),(.int .i64 s,false),(.int .i64 k,false)],σ.set b (aD E w')++τ)∧u.wide<2^32∧(w=true→w'=true)∧(k=0→w'=false∧br (QE E) u n∧u.parts≤1000000):=by
 have eN:=cO hb
 let f0:Fu:=⟨0,fuel,false,0,0⟩
 have gg:b≠σ.length:=Nat.ne_of_lt eN
 obtain⟨u,w',f',h1,h2,h3,h4,h5⟩:=G5 hE gg hn (w:=w) (f:=f0) (σ:=σ++[f0.cells]) (t:=t) (cT hb) (Ca _ _) hf (Nat.zero_le _) Jq (fun h1 _=>by
  obtain⟨g1,g2⟩:=hG h1
  exact⟨g1,g2,Int.le_refl _,by show(0:Int)+20001*t.parts≤2^40;omega,Nat.le_refl _⟩)
 rw[Cb eN]at h1
 have jc:(σ.set b (aD E w')++[f'.cells])[b]?=some (aD E w'):=cT (aS hb)
 have kt:(σ.set b (aD E w')++[f'.cells])[σ.length]?=some f'.cells:=by
  have:=Ca (σ.set b (aD E w')) f'.cells
  rwa [List.length_set]at this
 have e1:∀(K:List Cell→az→Option aQ) KP,aA (ah C) 246 [(.ptr 49 b 0,false),(t.val,false),(.ptr 332 σ.length 0,false)] (σ++[[(.int .i64 0,false),(.int .i64 fuel,false),(.bool false,false),(.int .i64 0,false),(.int .i64 0,false)]]) 1 K KP=K [(u.val,false)] (σ.set b (aD E w')++[f'.cells]):=fun K KP=>ab h1
 cases ht:f'.bL with
 |true=>
  refine⟨.var 0,0,14,w',[f'.cells],zp (n:=0) ?_,by decide,h4,fun h=>by simp at h⟩
  simp only[P9,aE,bH,aC,aP,bQ,ae,cj,cB,dc,bA,cK,e1,List.getD_cons_zero,aL,bz,cond_true,Option.bind_some,Xe kt,iD,ht]
  rfl
 |false=>
  cases w' with
  |true=>
   refine⟨.var 0,0,14,true,[f'.cells],zp (n:=0) ?_,by decide,fun _=>rfl,fun h=>by simp at h⟩
   simp only[P9,aE,bH,aC,aP,bQ,ae,cj,cB,dc,bA,cK,e1,List.getD_cons_zero,aL,bz,cond_true,cond_false,Option.bind_some,Xe kt,iD,ht,gH jc]
   rfl
  |false=>
   obtain⟨g1,g2,_⟩:=h5 rfl ht
   refine⟨u,f'.done,0,false,[f'.cells],zp (n:=0) ?_,h2,h4,fun _=>⟨rfl,g1,g2⟩⟩
   simp only[P9,aE,bH,aC,aP,bQ,ae,cj,cB,dc,bA,cK,e1,List.getD_cons_zero,aL,bz,cond_true,cond_false,Option.bind_some,Xe kt,iD,ht,gH jc,fu0 kt,cY]
theorem G9 (hE:dj E) (hn:n<2^38) (hb:σ[b]?=some (aD E w)) (hf:fuel<2^50) {x y:Tm} (JP:x.wide<2^32) (hyw:y.wide<2^32) (hG:w=false→(br (QE E) x n∧x.parts≤1000000)∧br (QE E) y n∧y.parts≤1000000):
  ∃(r:Bool) (k:Int) (w':Bool) (τ:az),ah C 215 [(.ptr 49 b 0,false),(x.val,false),(y.val,false),(.int .i64 fuel,false)] σ=some (.ret [(.bool r,false),(.int .i64 k,false)],σ.set b (aD E w')++τ)∧(w=true→w'=true)∧(k=0→w'=false):=by
 have eN:=cO hb
 let f0:Fu:=⟨0,fuel,false,0,0⟩
 have gg:b≠σ.length:=Nat.ne_of_lt eN
 have JM:(σ++[f0.cells])[b]?=some (aD E w):=cT hb
 have lQ:(σ++[f0.cells])[σ.length]?=some f0.cells:=Ca _ _
 have adZ:=cO JM
 have ad0:=cO lQ
 obtain⟨u,w1,f1,h1,h2,h3,h4,h5⟩:=EE hE gg (f0.most - f0.done) x.parts n x w f0 (σ++[f0.cells]) (by omega) JM lQ hf (Nat.zero_le _) (Nat.le_refl _) JP (fun a _=>by
  obtain⟨g1,_⟩:=hG a
  exact⟨⟨g1.1,g1.2,Int.le_refl _,by show(0:Int)≤20000;decide,Int.le_refl _,by show(0:Int)≤20000;decide,by show(n:Int) - 0≤2^38;omega⟩,Nat.le_refl _⟩)
 have jc:(dF (σ++[f0.cells]) b σ.length E w1 f1)[b]?=some (aD E w1):=fo adZ gg _ _
 have kt:(dF (σ++[f0.cells]) b σ.length E w1 f1)[σ.length]?=some f1.cells:=gP ad0 _ _
 have PV:f1.most=fuel:=h3.most
 have mJ:f1.done≤fuel:=h3.cap (Nat.zero_le _)
 obtain⟨v,w2,f2,k1,k2,k3,k4,k5⟩:=EE hE gg (f1.most - f1.done) y.parts n y w1 f1 _ (by omega) jc kt (by rw[PV];exact hf) (by rw[PV];exact mJ) (Nat.le_refl _) hyw (fun a a'=>by
  have hw:w=false:=by
   cases hh:w with
   |false=>rfl
   |true=>rw[h4 hh]at a;simp at a
  obtain⟨_,g2⟩:=hG hw
  have gn:=h5 a a'
  have c1:f1.aR=0:=gn.aR
  have c2:(0:Int)+1≤f1.parts:=gn.calls
  exact⟨⟨g2.1,g2.2,by omega,by omega,by omega,gn.most,by omega⟩,Nat.le_refl _⟩)
 rw[dU gg,Cb eN]at k1
 rw[Cb eN]at h1
 rw[Cb eN]at k1
 have vu:(σ.set b (aD E w2)++[f2.cells])[b]?=some (aD E w2):=cT (aS hb)
 have pD:(σ.set b (aD E w2)++[f2.cells])[σ.length]?=some f2.cells:=by
  have:=Ca (σ.set b (aD E w2)) f2.cells
  rwa [List.length_set]at this
 have e1:∀(K:List Cell→az→Option aQ) KP,aA (ah C) 247 [(.ptr 49 b 0,false),(x.val,false),(.ptr 332 σ.length 0,false)] (σ++[[(.int .i64 0,false),(.int .i64 fuel,false),(.bool false,false),(.int .i64 0,false),(.int .i64 0,false)]]) 1 K KP=K [(u.val,false)] (σ.set b (aD E w1)++[f1.cells]):=fun K KP=>ab h1
 have e2:∀(K:List Cell→az→Option aQ) KP,aA (ah C) 247 [(.ptr 49 b 0,false),(y.val,false),(.ptr 332 σ.length 0,false)] (σ.set b (aD E w1)++[f1.cells]) 1 K KP=K [(v.val,false)] (σ.set b (aD E w2)++[f2.cells]):=fun K KP=>ab k1
 cases ht:f2.bL with
 |true=>
  refine⟨false,14,w2,[f2.cells],vP (n:=0) ?_,fun h=>k4 (h4 h),fun h=>by simp at h⟩
  simp only[equalR,aE,bH,aC,aP,bQ,ae,cj,cB,cq,aM,bA,aF,cK,e1,e2,List.getD_cons_zero,aL,bz,cond_true,Option.bind_some,Xe pD,iD,ht]
 |false=>
  cases w2 with
  |true=>
   refine⟨false,14,true,[f2.cells],vP (n:=0) ?_,fun _=>rfl,fun h=>by simp at h⟩
   simp only[equalR,aE,bH,aC,aP,bQ,ae,cj,cB,cq,aM,bA,aF,cK,e1,e2,List.getD_cons_zero,aL,bz,cond_true,cond_false,Option.bind_some,Xe pD,iD,ht,gH vu]
  |false=>
   have tC:w1=false:=by
    cases hh:w1 with
    |false=>rfl
    |true=>exact absurd (k4 hh) (by simp)
   have JN:f1.bL=false:=by
    cases hh:f1.bL with
    |false=>rfl
    |true=>have:=k3.bL hh;rw[ht]at this;simp at this
   have gu:=h5 tC JN
   have gv:=k5 rfl ht
   have du:=gu.depth
   have dv:=gv.depth
   have mu:=gu.most
   have mv:=gv.most
   have cu:(0:Int)+1≤f1.parts:=gu.calls
   have du:(u.depth:Int)≤40000*(f1.parts - 0):=gu.depth
   have tu:=iQ u n gu.ok
   have tv:=iQ v n gv.ok
   obtain⟨u',s1,l1⟩:=Ew (σ.set b (aD E false)++[f2.cells]) u (by omega) (by omega)
   obtain⟨v',s2,l2⟩:=Ew (σ.set b (aD E false)++[f2.cells]) v (by omega) (by omega)
   have hlu:=gu.lz
   have YQ:=gv.lz
   have hl1:=l1.lz
   have hl2:=l2.lz
   have FQ:=l2.wide
   obtain⟨r,s3⟩:=Et (σ.set b (aD E false)++[f2.cells]) u' v' (by omega) (by omega) (by omega)
   have e3:∀(K:List Cell→az→Option aQ) KP,aA (ah C) 248 [(u.val,false)] (σ.set b (aD E false)++[f2.cells]) 1 K KP=K [(u'.val,false)] (σ.set b (aD E false)++[f2.cells]):=fun K KP=>ab s1
   have e4:∀(K:List Cell→az→Option aQ) KP,aA (ah C) 248 [(v.val,false)] (σ.set b (aD E false)++[f2.cells]) 1 K KP=K [(v'.val,false)] (σ.set b (aD E false)++[f2.cells]):=fun K KP=>ab s2
   have e5:∀(K:List Cell→az→Option aQ) KP,aA (ah C) 249 [(u'.val,false),(v'.val,false)] (σ.set b (aD E false)++[f2.cells]) 1 K KP=K [(.bool r,false)] (σ.set b (aD E false)++[f2.cells]):=fun K KP=>ab s3
   refine⟨r,0,false,[f2.cells],vP (n:=0) ?_,fun h=>k4 (h4 h),fun _=>rfl⟩
   simp only[equalR,aE,bH,aC,aP,bQ,ae,cj,cB,cq,aM,bA,aF,cK,e1,e2,List.getD_cons_zero,aL,bz,cond_true,cond_false,Option.bind_some,Xe pD,iD,ht,gH vu,cY,e3,e4,e5]
theorem EF (hE:dj E) (hn:n<2^38) (hb:σ[b]?=some (aD E w)) (hf:fuel<2^50) {x y:Tm} (JP:x.wide<2^32) (hyw:y.wide<2^32) (hG:w=false→(br (QE E) x n∧x.parts≤1000000)∧br (QE E) y n∧y.parts≤1000000):
  ∃(k:Int) (w':Bool) (τ:az),ah C 180 [(.ptr 49 b 0,false),(x.val,false),(y.val,false),(.int .i64 fuel,false)] σ=some (.ret [(.int .i64 k,false)],σ.set b (aD E w')++τ)∧(w=true→w'=true)∧(k=0→w'=false):=by
 obtain⟨r,k,w',τ,h1,h2,h3⟩:=G9 hE hn hb hf JP hyw hG
 have e1:∀(K:List Cell→az→Option aQ) KP,aA (ah C) 215 [(.ptr 49 b 0,false),(x.val,false),(y.val,false),(.int .i64 fuel,false)] σ 2 K KP=K [(.bool r,false),(.int .i64 k,false)] (σ.set b (aD E w')++τ):=fun K KP=>aW h1
 by_cases hk:k=0
 ·refine⟨bif r then 0 else 9,w',τ,KK (n:=0) ?_,h2,fun _=>h3 hk⟩
  simp only[must,aE,ft,aC,aP,bb,aH,aq,cB,ae,cK,e1,List.getD_cons_zero,List.getD_cons_succ,fT,iD,Option.bind_some,hk,bne_self_eq_false,cond_false]
  cases r<;>rfl
 ·refine⟨k,w',τ,KK (n:=0) ?_,h2,h3⟩
  have:(k != (0:Int))=true:=by rw[bne_iff_ne];exact hk
  simp only[must,aE,ft,aC,aP,bb,aH,aq,cB,ae,cK,e1,List.getD_cons_zero,List.getD_cons_succ,fT,Option.bind_some,this,cond_true]
end
end Go.Ab.Mk
end
section
namespace Go.Ab.Mk
open Go.Proofs Go.Ab Go.Proofs.Mk
theorem eF {σ τ1 τ2:az} {b:Nat} {x y:List Cell} (hb:b<σ.length):(σ.set b x++τ1).set b y++τ2=σ.set b y++(τ1++τ2):=by
 rw[List.set_append_left _ _ (by simpa using hb),List.set_set,List.append_assoc]
def mG (E:List bO) (σ:az) (b:Nat) (w:Bool) (P:Tm→Prop) (r:Option aQ):Prop:=
 ∃(u:Tm) (k:Int) (w':Bool) (τ:az),r=some (.ret [(u.val,false),(.int .i64 k,false)],σ.set b (aD E w')++τ)∧u.wide<2^32∧(w=true→w'=true)∧(k=0→w'=false∧P u)
theorem mG.after {E:List bO} {σ τ1:az} {b:Nat} {w w1:Bool} {P P':Tm→Prop} {r:Option aQ} (hb:b<σ.length) (h:mG E (σ.set b (aD E w1)++τ1) b w1 P' r) (hw:w=true→w1=true) (hP:∀u,w1=false→P' u→P u):mG E σ b w P r:=by
 obtain⟨u,k,w',τ,h1,h2,h3,h4⟩:=h
 refine⟨u,k,w',τ1++τ,by rw[h1,eF hb],h2,fun h=>h3 (hw h),fun hk=>?_⟩
 obtain⟨a,p⟩:=h4 hk
 have tC:w1=false:=by
  cases hh:w1 with
  |false=>rfl
  |true=>rw[h3 hh]at a;simp at a
 exact⟨a,hP u tC p⟩
theorem mG.bad {E:List bO} {σ τ:az} {b:Nat} {w w':Bool} {P:Tm→Prop} {k:Int} (hk:k≠0) (hw:w=true→w'=true):mG E σ b w P (some (.ret [((Tm.var 0).val,false),(.int .i64 k,false)],σ.set b (aD E w')++τ)):=
 ⟨.var 0,k,w',τ,rfl,by decide,hw,fun h=>absurd h hk⟩
section
variable {E:List bO} {b:Nat} {w:Bool} {σ:az} {ps ctx:List (List V)} {t:Tm} {fuel:Int} {P:Tm→Prop} {q:Bool}
theorem An (hb:σ[b]?=some (aD E w)) (h:mG E σ b w P (ah C 230 [(.ptr 49 b 0,false),(.slice 1 9 ps,false),(.slice 5 53 ctx,false),(t.val,false),(.int .i64 fuel,false)] σ)):
  mG E σ b w (fun u=>P u∧u.parts≤20000) (ah C 179 [(.ptr 49 b 0,false),(.slice 1 9 ps,false),(.slice 5 53 ctx,q),(t.val,false),(.int .i64 fuel,false)] σ):=by
 obtain⟨u,k,w',τ,h1,h2,h3,h4⟩:=h
 have eN:=cO hb
 have e1:∀(K:List Cell→az→Option aQ) KP,aA (ah C) 230 [(.ptr 49 b 0,false),(.slice 1 9 ps,false),(.slice 5 53 ctx,false),(t.val,false),(.int .i64 fuel,false)] σ 2 K KP=K [(u.val,false),(.int .i64 k,false)] (σ.set b (aD E w')++τ):=fun K KP=>aW h1
 have jc:(σ.set b (aD E w')++τ)[b]?=some (aD E w'):=cT (aS hb)
 obtain⟨x,c1,hx⟩:=ez (σ.set b (aD E w')++τ) u h2 20000 (by omega)
 have e2:∀(K:List Cell→az→Option aQ) KP,aA (ah C) 231 [(u.val,false),(.int .i64 (20000:Int),false)] (σ.set b (aD E w')++τ) 1 K KP=K [(.int .i64 x,false)] (σ.set b (aD E w')++τ):=fun K KP=>ab hx
 have hS:∀v:Bool,aV (σ.set b (aD E w')++τ) (.ptr 49 b 1) [(.bool v,false)]=some (σ.set b (aD E v)++τ):=fun v=>by
  rw[wI jc,←List.append_nil (List.set _ _ _),eF eN,List.append_nil]
 have hG:∀v:Bool,bu (σ.set b (aD E v)++τ) (.ptr 49 b 1) false 1=some (.bool v):=fun v=>gH (cT (aS hb)) _
 cases w' with
 |true=>
  refine⟨.var 0,14,true,τ,vO (n:=0) ?_,by decide,fun _=>rfl,fun h=>by simp at h⟩
  simp only[IB,aE,dn,de,dk,aC,aP,bQ,ae,aF,bA,cj,cB,cq,aH,bb,cK,e1,List.getD_cons_zero,aL,bz,cond_true,Option.bind_some,cY,e2,gH jc,iD,hS,hG]
  rfl
 |false=>
  by_cases hp:(x:Int)>20000
  ·refine⟨.var 0,14,true,τ,vO (n:=0) ?_,by decide,fun _=>rfl,fun h=>by simp at h⟩
   simp only[IB,aE,dn,de,dk,aC,aP,bQ,ae,aF,bA,cj,cB,cq,aH,bb,cK,e1,List.getD_cons_zero,aL,bz,cond_true,cond_false,Option.bind_some,cY,e2,gH jc,iD,fT,decide_eq_true hp,hS,hG]
   rfl
  ·refine⟨u,k,false,τ,vO (n:=0) ?_,h2,h3,fun hk=>⟨rfl,(h4 hk).2,?_⟩⟩
   ·simp only[IB,aE,dn,de,dk,aC,aP,bQ,ae,aF,bA,cj,cB,cq,aH,bb,cK,e1,List.getD_cons_zero,List.getD_cons_succ,aL,bz,cond_true,cond_false,Option.bind_some,cY,e2,gH jc,iD,fT,decide_eq_false hp,hS,hG]
   ·by_cases hq:u.parts≤20000
    ·exact hq
    ·have:=c1.more (by omega);omega
def SoR (E:List bO) (σ:az) (b:Nat) (w:Bool) (P:Prop) (r:Option aQ):Prop:=
 ∃(l:Lv) (k:Int) (w':Bool) (τ:az),r=some (.ret [(.agg [.int .i64 l.kind,.str l.name,.slice 3 120 l.args],false),(.int .i64 k,false)],σ.set b (aD E w')++τ)∧l.size≤1000000∧(w=true→w'=true)∧(k=0→w'=false∧P)
theorem Sx (hE:dj E) (hb:σ[b]?=some (aD E w)) {n fu:Nat} (hn:n<2^40) (hf:fu<2^50) {P:Prop} (h:mG E σ b w (fun u=>(P∧br (QE E) u n)∧u.parts≤20000) (ah C 179 [(.ptr 49 b 0,false),(.slice 1 9 ps,false),(.slice 5 53 ctx,false),(t.val,false),(.int .i64 fu,false)] σ)):
    SoR E σ b w P (ah C 170 [(.ptr 49 b 0,false),(.slice 1 9 ps,false),(.slice 5 53 ctx,q),(t.val,false),(.int .i64 fu,false)] σ):=by
  obtain⟨u,k,w1,τ1,h1,h2,h3,h4⟩:=h
  have eN:=cO hb
  have e1:∀(K:List Cell→az→Option aQ) KP,aA (ah C) 179 [(.ptr 49 b 0,false),(.slice 1 9 ps,false),(.slice 5 53 ctx,false),(t.val,false),(.int .i64 fu,false)] σ 2 K KP=K [(u.val,false),(.int .i64 k,false)] (σ.set b (aD E w1)++τ1):=fun K KP=>aW h1
  have bad:∀(k':Int) (w':Bool) (τ:az),k'≠0→(w=true→w'=true)→SoR E σ b w P (some (.ret [(.agg [.int .i64 0,.str (ByteArray.mk #[]),.slice 3 120 []],false),(.int .i64 k',false)],σ.set b (aD E w')++τ)):=fun k' w' τ hk hw=>⟨.zero,k',w',τ,rfl,by simp[Lv.size],hw,fun h=>absurd h hk⟩
  suffices hs:SoR E σ b w P (OC (ah C) 0 b ps ctx t.kind t.num t.name (t.bK.map Lv.enc) t.args fu σ) by
    obtain⟨l,k',w',τ,r1,r2⟩:=hs
    exact⟨l,k',w',τ,OD (n:=0) r1,r2⟩
  simp only[OC,aE,dn,de,dk,aC,aP,bQ,ae,bb,aH,cq,bU,bH,bA,cz,bo,ak,cK,e1,List.getD_cons_zero,List.getD_cons_succ,aL,bz,cond_true,Option.bind_some,fT,cY]
  by_cases hk:k=0
  case neg=>
    rw[show(k != (0:Int))=true by rw[bne_iff_ne];exact hk,cond_true]
    exact bad k w1 τ1 hk h3
  subst hk
  obtain⟨tC,⟨hP,Zt⟩,hup⟩:=h4 rfl
  have jc:(σ.set b (aD E w1)++τ1)[b]?=some (aD E w1):=cT (aS hb)
  obtain⟨v,s,k2,w2,τ2,r1,r2,r3,r4⟩:=G8 hE hn jc hf (t:=u) h2 (fun _=>⟨Zt,by omega⟩)
  rw[eF eN]at r1
  have e2:∀(K:List Cell→az→Option aQ) KP,aA (ah C) 214 [(.ptr 49 b 0,false),(u.val,false),(.int .i64 fu,false)] (σ.set b (aD E w1)++τ1) 3 K KP=K [(v.val,false),(.int .i64 s,false),(.int .i64 k2,false)] (σ.set b (aD E w2)++(τ1++τ2)):=fun K KP=>bM r1 rfl
  simp only[bne_self_eq_false,cond_false,e2,List.getD_cons_zero,List.getD_cons_succ,aL,cond_true,Option.bind_some,fT,cV,dw]
  by_cases lK:k2=0
  case neg=>
    rw[show(k2 != (0:Int))=true by rw[bne_iff_ne];exact lK,cond_true]
    exact bad k2 w2 _ lK fun h=>r3 (h3 h)
  subst lK
  obtain⟨FQ,ov,vp⟩:=r4 rfl
  simp only[bne_self_eq_false,cond_false]
  by_cases hv:v.kind=1
  case neg=>
    rw[show(v.kind != (1:Int))=true by rw[bne_iff_ne];exact hv,cond_true]
    exact bad 10 w2 _ (by decide) fun h=>r3 (h3 h)
  obtain⟨l,rfl⟩:∃l,v=.sort l:=by cases v<;>simp[Tm.kind]at hv;exact⟨_,rfl⟩
  rw[show((Tm.sort l).kind != (1:Int))=false from rfl,cond_false]
  have hl:=fe (.sort l)
  simp only[Tm.lz]at hl
  refine⟨l,0,w2,τ1++τ2,?_,by omega,fun h=>r3 (h3 h),fun _=>⟨FQ,hP⟩⟩
  simp only[show(Tm.sort l).bK.map Lv.enc=[l.enc]from rfl,asL,Option.bind_some,List.length_singleton,show(decide ((0:Int)≤0)&&decide ((0:Int)<((1:Nat):Int)))=true from rfl,cond_true,oG,fU]
end
end Go.Ab.Mk
end
section
namespace Go.Ab.Mk
open Go.Proofs Go.Ab Go.Proofs.Mk
theorem Wu {E:List bO} (hE:dj E) {s:ByteArray} {qs:List ByteArray} {u:Tm} (h:dV s E=some (qs,u)):br (QE E) u 0∧Jd u∧qs.length<2^20:=by
 unfold dV at h
 split at h
 ·simp at h
 ·rename_i k e i hf
  obtain⟨he,w9⟩:=jh hf
  have eo:=hE.MY e he
  split at h
  ·rename_i hk
   subst hk
   obtain⟨hi,c,hc,_⟩:=pQ eo.kind.2 w9
   simp only[Option.some.injEq,Prod.mk.injEq]at h
   obtain⟨rfl,rfl⟩:=h
   rw[List.getD_eq_getElem?_getD,hc]
   have:=eo.ctors c (List.mem_of_getElem? hc)
   exact⟨this.1,this.2,eo.aT⟩
  ·split at h
   ·rename_i _ hk
    subst hk
    simp only[Option.some.injEq,Prod.mk.injEq]at h
    obtain⟨rfl,rfl⟩:=h
    have lL:e.d.kind=3:=by
     have:=eo.kind
     unfold ie at w9
     split at w9
     ·simp only[Option.some.injEq,Prod.mk.injEq]at w9;omega
     ·split at w9
      ·simp only[Option.some.injEq,Prod.mk.injEq]at w9;omega
      ·split at w9
       ·rename_i hh;exact hh.1
       ·simp at w9
    have:=eo.rt.resolve_right fun h=>h lL
    exact⟨this.1,this.2,eo.zb⟩
   ·simp only[Option.some.injEq,Prod.mk.injEq]at h
    obtain⟨rfl,rfl⟩:=h
    exact⟨eo.type.1,eo.type.2,eo.aT⟩
section
variable {E:List bO} {b:Nat} {w:Bool} {σ:az} {N:Nat} {t0 t1:Int} {t2:ByteArray} {t3 t4:List (List V)}
theorem Bc {n:Nat} (hb:σ[b]?=some (aD E w)) {qs ps:List ByteArray} {ls:List Lv} {u:Tm} {k m:Int} {s:ByteArray} {as_:List (List V)} (hl:qs.length=ls.length) (hql:qs.length<2^20) (iE:ps.length<2^60) (Z7:∀l∈ls,l.size<2^31) (huw:u.wide<2^32) (hu:br (QE E) u 0):∀(m' i:Nat),i≤ls.length→ls.length - i<m'→
  mG E σ b w (fun v=>br (QE E) v n) (rW (ah C) N m' b (strs ps) (.slice 1 9 (strs qs)) i k m s (ls.map Lv.enc) as_ t0 t1 t2 t3 t4 (.int .i64 u.kind) (.int .i64 u.num) (.str u.name) (.slice 3 120 (u.bK.map Lv.enc)) (.slice 5 53 u.args) σ)
 |0,i,_,hm=>by omega
 |m'+1,i,hi,hm=>by
  rw[show rW (ah C) N (m'+1)=Dh (ah C) (rW (ah C) N m')from rfl]
  unfold Dh bo aE aF ak de cB ae cq aC aP bp ft bF iP bQ cj bA
  rw[List.length_map]
  have eN:=cO hb
  have wR:σ=σ.set b (aD E w)++[]:=by rw[dD hb,List.append_nil]
  by_cases aG:i<ls.length
  ·obtain⟨x,hx⟩:=ve ls[i] (Z7 _ (List.getElem_mem aG)) ps iE σ
   have e1:∀(K:List Cell→az→Option aQ) KP,aA (ah C) 257 [(.agg [.int .i64 ls[i].kind,.str ls[i].name,.slice 3 120 ls[i].args],false),(.slice 1 9 (strs ps),false)] σ 1 K KP=K [(.bool x,false)] σ:=fun K KP=>ab hx
   have ih:=Bc (k:=k) (m:=m) (s:=s) (as_:=as_) (n:=n) hb hl hql iE Z7 huw hu m' (i+1) (by omega) (by omega)
   simp only[eD aG,cond_true,d0,Bool.and_self,bz,Option.bind_some,jk aG,fU,e1,List.getD_cons_zero,iD,aw (show i<2^61 by omega)]
   cases x with
   |false=>
    have:=mG.bad (E:=E) (σ:=σ) (τ:=[]) (b:=b) (w:=w) (w':=w) (P:=fun v=>br (QE E) v n) (k:=5) (by decide) id
    rw[←wR]at this
    exact this
   |true=>exact ih
  ·obtain⟨v,w1,h1,h2⟩:=nx hb u huw (ps:=qs) (ls:=ls) hl (by omega)
   have e1:∀(K:List Cell→az→Option aQ) KP,aA (ah C) 258 [(.ptr 49 b 0,false),(u.val,false),(.slice 1 9 (strs qs),false),(.slice 3 120 (ls.map Lv.enc),false)] σ 1 K KP=K [(v.val,false)] (σ.set b (aD E w1)):=fun K KP=>ab h1
   have jc:(σ.set b (aD E w1))[b]?=some (aD E w1):=aS hb
   rw[cQ aG,cond_false]
   simp only[cK,e1,List.getD_cons_zero,aL,bz,cond_true,Option.bind_some,gH jc,iD,cY]
   cases w1 with
   |true=>
    have:=mG.bad (E:=E) (σ:=σ) (τ:=[]) (b:=b) (w:=w) (w':=true) (P:=fun v=>br (QE E) v n) (k:=14) (by decide) (fun _=>rfl)
    rw[List.append_nil]at this
    exact this
   |false=>
    rcases h2 with⟨h,_⟩|⟨hw,_,rfl⟩
    ·simp at h
    ·refine⟨gO qs ls u,0,false,[],?_,by rw[(lU qs ls u).1];exact huw,fun h=>by rw[hw]at h;simp at h,fun _=>⟨rfl,lS _ _ (dy (fun _ _ h=>h) _ 0 n (Nat.zero_le _) hu)⟩⟩
     rw[List.append_nil];rfl
theorem LV (hE:dj E) (hb:σ[b]?=some (aD E w)) {n fu:Nat} (hn:n<2^38) (hf:fu<2^50) {A B:Tm} (hBp:B.parts≤1000000) {ps ctx:List (List V)}
  (hA:mG E σ b w (fun u=>(br (QE E) A n∧br (QE E) u n)∧u.parts≤20000) (ah C 179 [(.ptr 49 b 0,false),(.slice 1 9 ps,false),(.slice 5 53 ctx,false),(A.val,false),(.int .i64 fu,false)] σ))
  (hB:∀(w1:Bool) (jH:az),jH[b]?=some (aD E w1)→mG E jH b w1 (fun u=>(br (QE E) B n∧br (QE E) u n)∧u.parts≤20000) (ah C 179 [(.ptr 49 b 0,false),(.slice 1 9 ps,false),(.slice 5 53 ctx,false),(B.val,false),(.int .i64 fu,false)] jH)):
  mG E σ b w (fun u=>br (QE E) (.app A B) n∧br (QE E) u n) (ah C 259 [(.ptr 49 b 0,false),(.slice 1 9 ps,false),(.slice 5 53 ctx,false),((Tm.app A B).val,false),(.int .i64 fu,false)] σ):=by
 have eN:=cO hb
 suffices hs:mG E σ b w (fun u=>br (QE E) (.app A B) n∧br (QE E) u n) (Dt (ah C) 0 b ps ctx 3 0 (ByteArray.mk #[]) [] [A.enc,B.enc] fu σ) by
  obtain⟨u,k,w',τ,r1,r2⟩:=hs
  exact⟨u,k,w',τ,IU (n:=0) r1,r2⟩
 obtain⟨u,k,w1,τ1,h1,h2,h3,h4⟩:=hA
 have e1:∀(K:List Cell→az→Option aQ) KP,aA (ah C) 179 [(.ptr 49 b 0,false),(.slice 1 9 ps,false),(.slice 5 53 ctx,false),(A.val,false),(.int .i64 fu,false)] σ 2 K KP=K [(u.val,false),(.int .i64 k,false)] (σ.set b (aD E w1)++τ1):=fun K KP=>aW h1
 simp only[Dt,bo,aE,dn,de,dk,bJ,aP,bQ,ae,bb,aH,cq,aC,bH,bA,cz,ft,cj,cB,nE,uD,rr,oG,nF,bf,e1,List.getD_cons_zero,List.getD_cons_succ,aL,bz,cond_true,Option.bind_some,fT,cY]
 by_cases hk:k=0
 case neg=>
  rw[show(k != (0:Int))=true by rw[bne_iff_ne];exact hk,cond_true]
  exact mG.bad hk h3
 subst hk
 obtain⟨tC,⟨oA,ou⟩,up⟩:=h4 rfl
 have jc:(σ.set b (aD E w1)++τ1)[b]?=some (aD E w1):=cT (aS hb)
 obtain⟨g,s,k2,w2,τ2,r1,r2,r3,r4⟩:=G8 hE (show n<2^40 by omega) jc hf (t:=u) h2 (fun _=>⟨ou,by omega⟩)
 rw[eF eN]at r1
 have e2:∀(K:List Cell→az→Option aQ) KP,aA (ah C) 214 [(.ptr 49 b 0,false),(u.val,false),(.int .i64 fu,false)] (σ.set b (aD E w1)++τ1) 3 K KP=K [(g.val,false),(.int .i64 s,false),(.int .i64 k2,false)] (σ.set b (aD E w2)++(τ1++τ2)):=fun K KP=>bM r1 rfl
 simp only[bne_self_eq_false,cond_false,e2,List.getD_cons_zero,List.getD_cons_succ,aL,cond_true,Option.bind_some,fT,cV,dh]
 by_cases lK:k2=0
 case neg=>
  rw[show(k2 != (0:Int))=true by rw[bne_iff_ne];exact lK,cond_true]
  exact mG.bad lK fun h=>r3 (h3 h)
 subst lK
 obtain⟨FQ,og,gp⟩:=r4 rfl
 simp only[bne_self_eq_false,cond_false]
 by_cases hv:g.kind=5
 case neg=>
  rw[show(g.kind != (5:Int))=true by rw[bne_iff_ne];exact hv,cond_true]
  exact mG.bad (by decide) fun h=>r3 (h3 h)
 obtain⟨D,R,rfl⟩:∃D R,g=.pi D R:=by cases g<;>simp[Tm.kind]at hv;exact⟨_,_,rfl⟩
 have vu:(σ.set b (aD E w2)++(τ1++τ2))[b]?=some (aD E w2):=cT (aS hb)
 obtain⟨a,k3,w3,Z8,a1,a2,a3,a4⟩:=hB w2 _ vu
 rw[eF eN]at a1
 have e3:∀(K:List Cell→az→Option aQ) KP,aA (ah C) 179 [(.ptr 49 b 0,false),(.slice 1 9 ps,false),(.slice 5 53 ctx,false),(B.val,false),(.int .i64 fu,false)] (σ.set b (aD E w2)++(τ1++τ2)) 2 K KP=K [(a.val,false),(.int .i64 k3,false)] (σ.set b (aD E w3)++(τ1++τ2++Z8)):=fun K KP=>aW a1
 rw[show((Tm.pi D R).kind != (5:Int))=false from rfl,cond_false]
 simp only[e3,List.getD_cons_zero,List.getD_cons_succ,aL,cond_true,Option.bind_some,fT,cY]
 by_cases lL:k3=0
 case neg=>
  rw[show(k3 != (0:Int))=true by rw[bne_iff_ne];exact lL,cond_true]
  exact mG.bad lL fun h=>a3 (r3 (h3 h))
 subst lL
 obtain⟨hw3,⟨oB,oa⟩,ap⟩:=a4 rfl
 have Tf:(σ.set b (aD E w3)++(τ1++τ2++Z8))[b]?=some (aD E w3):=cT (aS hb)
 have JG:=Jd.parts og (by omega) gp
 have jw:=JG.wide
 have jt:=JG.top
 simp only[Tm.wide]at jw
 simp only[Tm.top]at jt
 simp only[Tm.parts]at gp
 obtain⟨k4,w4,LW,m1,m2,m3⟩:=EF hE hn Tf hf (x:=a) (y:=D) a2 (by omega) (fun _=>⟨⟨oa,by omega⟩,og.1,by omega⟩)
 rw[eF eN]at m1
 have e4:∀(K:List Cell→az→Option aQ) KP,aA (ah C) 180 [(.ptr 49 b 0,false),(a.val,false),(D.val,false),(.int .i64 fu,false)] (σ.set b (aD E w3)++(τ1++τ2++Z8)) 1 K KP=K [(.int .i64 k4,false)] (σ.set b (aD E w4)++(τ1++τ2++Z8++LW)):=fun K KP=>ab m1
 simp only[bne_self_eq_false,cond_false,BH,Option.bind_some,kY,nE,Int.reduceLE,Int.reduceLT,decide_true,Bool.and_self,cond_true,oG,nF,bf,e4,List.getD_cons_zero,fT]
 by_cases Xa:k4=0
 case neg=>
  rw[show(k4 != (0:Int))=true by rw[bne_iff_ne];exact Xa,cond_true]
  exact mG.bad Xa fun h=>m2 (a3 (r3 (h3 h)))
 subst Xa
 have Tg:(σ.set b (aD E w4)++(τ1++τ2++Z8++LW))[b]?=some (aD E w4):=cT (aS hb)
 have JB:=Jd.parts oB (by omega) hBp
 have bw:=JB.wide
 have bt:=JB.top
 have bd:=JB.depth
 obtain⟨v,w5,s1,s2⟩:=iX Tg R B (by omega) (by omega) (by omega) (by omega) (by omega)
 have ad1:=cO Tg
 rw[←List.append_nil (List.set (σ.set b (aD E w4)++_) b _),eF eN,List.append_nil]at s1
 have e5:∀(K:List Cell→az→Option aQ) KP,aA (ah C) 260 [(.ptr 49 b 0,false),(R.val,false),(B.val,false)] (σ.set b (aD E w4)++(τ1++τ2++Z8++LW)) 1 K KP=K [(v.val,false)] (σ.set b (aD E w5)++(τ1++τ2++Z8++LW)):=fun K KP=>ab s1
 have hb5:(σ.set b (aD E w5)++(τ1++τ2++Z8++LW))[b]?=some (aD E w5):=cT (aS hb)
 simp only[bne_self_eq_false,cond_false,e5,List.getD_cons_zero,aL,cond_true,Option.bind_some,gH hb5,iD,cY]
 have ad2:w=true→w4=true:=fun h=>m2 (a3 (r3 (h3 h)))
 cases w5 with
 |true=>exact mG.bad (by decide) fun _=>rfl
 |false=>
  rcases s2 with⟨h,_⟩|⟨hw4,_,rfl,_,sp⟩
  ·simp at h
  ·refine⟨_,0,false,_,rfl,?_,fun h=>by rw[ad2 h]at hw4;simp at hw4,fun _=>⟨rfl,⟨oA,oB⟩,eB (n:=n) oB R 0 og.2⟩⟩
   have:=cU (aZ B R 0)
   omega
end
end Go.Ab.Mk
end
section
namespace Go.Ab.Mk
open Go.Proofs Go.Ab Go.Proofs.Mk
structure nJ (n:Nat) (t:Tm):Prop where
 raw:br (fun _ _=>True) t (n+2^38)
 parts:t.parts≤1000000
 under:n+t.zd≤2^30
def ru (E:List bO) (ctx:List Tm):Prop:=∀i (h:i<ctx.length),br (QE E) ctx[i] i∧ctx[i].parts≤1000000
theorem ru.add {E:List bO} {ctx:List Tm} {a:Tm} (h:ru E ctx) (ha:br (QE E) a ctx.length) (hp:a.parts≤1000000):ru E (ctx++[a]):=fun i hi=>by
 by_cases aG:i<ctx.length
 ·rw[List.getElem_append_left aG];exact h i aG
 ·have:i=ctx.length:=by simp only[List.length_append,List.length_singleton]at hi;omega
  subst this
  simp only[List.getElem_concat_length]
  exact⟨ha,hp⟩
theorem Pf (ctx:List Tm) (a:Tm):(ctx++[a]).length=ctx.length+1:=by simp
theorem nJ.jd {n:Nat} {t:Tm} (h:nJ n t):Jd t:=Jd.parts h.raw (by have:=h.under;omega) h.parts
theorem nJ.app {n:Nat} {a b:Tm} (h:nJ n (.app a b)):nJ n a∧nJ n b:=by
 have p:=h.parts
 have u:=h.under
 simp only[Tm.parts]at p
 rw[abf]at u
 exact⟨⟨h.raw.1,by omega,by omega⟩,⟨h.raw.2,by omega,by omega⟩⟩
theorem nJ.lam {n:Nat} {a b:Tm} (h:nJ n (.lam a b)):nJ n a∧nJ (n+1) b:=by
 have p:=h.parts
 have u:=h.under
 simp only[Tm.parts]at p
 rw[abg]at u
 exact⟨⟨h.raw.1,by omega,by omega⟩,⟨by rw[show n+1+2^38=n+2^38+1 by omega];exact h.raw.2,by omega,by omega⟩⟩
theorem nJ.pi {n:Nat} {a b:Tm} (h:nJ n (.pi a b)):nJ n a∧nJ (n+1) b:=by
 have p:=h.parts
 have u:=h.under
 simp only[Tm.parts]at p
 rw[acA]at u
 exact⟨⟨h.raw.1,by omega,by omega⟩,⟨by rw[show n+1+2^38=n+2^38+1 by omega];exact h.raw.2,by omega,by omega⟩⟩
theorem nJ.bE {n:Nat} {a v b:Tm} (h:nJ n (.bE a v b)):nJ n a∧nJ n v∧(Jd b)∧((aZ v b 0).parts≤1000000→nJ n (aZ v b 0)):=by
 have p:=h.parts
 have u:=h.under
 simp only[Tm.parts]at p
 rw[abh]at u
 refine⟨⟨h.raw.1,by omega,by omega⟩,⟨h.raw.2.1,by omega,by omega⟩,Jd.parts h.raw.2.2 (by omega) (by omega),fun hp=>⟨?_,hp,by omega⟩⟩
 have:=eB (n:=n+2^38) h.raw.2.1 b 0 h.raw.2.2
 exact this
theorem Qu (l:Lv):[l.enc.getD 0 V.any,l.enc.getD 1 V.any,l.enc.getD 2 V.any]=l.enc:=by rw[l.aX];rfl
theorem ad3:(decide ((0:Int)≤0)&&decide ((0:Int)<1))=true:=rfl
theorem ln1 (a:List V):(([a]:List (List V)).length:Int)=1:=rfl
def Inf (E:List bO) (ps:List ByteArray) (fu m b:Nat):Prop:=∀t:Tm,t.zw≤m→∀(ctx:List Tm) (w:Bool) (σ:az),σ[b]?=some (aD E w)→ru E ctx→nJ ctx.length t→
 mG E σ b w (fun u=>br (QE E) t ctx.length∧br (QE E) u ctx.length) (ah C 230 [(.ptr 49 b 0,false),(.slice 1 9 (strs ps),false),(.slice 5 53 (ctx.map Tm.enc),false),(t.val,false),(.int .i64 fu,false)] σ)
section
variable {E:List bO} {b fu m:Nat} {w:Bool} {σ:az} {ps:List ByteArray} {ctx:List Tm}
theorem wJ (hb:σ[b]?=some (aD E true)) {P:Tm→Prop} (t:Tm):mG E σ b true P (ah C 230 [(.ptr 49 b 0,false),(.slice 1 9 (strs ps),false),(.slice 5 53 (ctx.map Tm.enc),false),(t.val,false),(.int .i64 fu,false)] σ):=by
 suffices hs:mG E σ b true P (gA (ah C) 0 b (strs ps) (ctx.map Tm.enc) t.kind t.num t.name (t.bK.map Lv.enc) t.args fu σ) by
  obtain⟨u,k,w',τ,r1,r2⟩:=hs
  exact⟨u,k,w',τ,Di (n:=0) r1,r2⟩
 simp only[gA,cj,cB,cq,aC,aP,bo,aE,bH,bJ,bp,bQ,ae,bA,aF,ak,de,aM,bU,aH,cz,cR,dn,dk,bb,AU,ft,gH hb,iD,Option.bind_some,cond_true]
 have:=mG.bad (E:=E) (σ:=σ) (τ:=[]) (b:=b) (w:=true) (w':=true) (P:=P) (k:=14) (by decide) id
 rw[dD hb,List.append_nil]at this
 exact this
theorem Sy (hb:σ[b]?=some (aD E false)) (hC:ru E ctx) {v:Nat} (hA:nJ ctx.length (.var v)):
  mG E σ b false (fun u=>br (QE E) (.var v) ctx.length∧br (QE E) u ctx.length) (gA (ah C) 0 b (strs ps) (ctx.map Tm.enc) 0 v (ByteArray.mk #[]) [] [] fu σ):=by
 have hn:=hA.under
 have wR:σ=σ.set b (aD E false)++[]:=by rw[dD hb,List.append_nil]
 simp only[gA,cj,cB,cq,aC,aP,bo,aE,bH,bJ,bp,bQ,ae,bA,aF,ak,de,aM,bU,aH,cz,cR,dn,dk,bb,AU,ft,gH hb,iD,Option.bind_some,cond_false,cond_true,beq_self_eq_true,List.length_map]
 by_cases hv:v<ctx.length
 case neg=>
  rw[decide_eq_true (show(v:Int)≥(ctx.length:Int) by omega),cond_true]
  have:=mG.bad (E:=E) (σ:=σ) (τ:=[]) (b:=b) (w:=false) (w':=false) (P:=fun u=>br (QE E) (.var v) ctx.length∧br (QE E) u ctx.length) (k:=7) (by decide) id
  rw[←wR]at this
  exact this
 obtain⟨o,p⟩:=hC (ctx.length - 1 - v) (by omega)
 have hi:IntKind.wrap .i64 (IntKind.wrap .i64 ((ctx.length:Int) - 1) - (v:Int))=((ctx.length - 1 - v:Nat):Int):=by
  rw[cG (x:=(ctx.length:Int) - 1) (by omega) (by omega),cG (by omega) (by omega)];omega
 have J:=Jd.parts o (by omega) p
 have e1:∀(K:List Cell→az→Option aQ) KP,aA (ah C) 256 [((ctx[ctx.length - 1 - v]'(by omega)).val,false),(.int .i64 ((v+1:Nat):Int),false),(.int .i64 (0:Int),false)] σ 1 K KP=K [((db (v+1) (ctx[ctx.length - 1 - v]'(by omega)) 0).val,false)] σ:=fun K KP=>ab (J.lift (by omega) σ)
 rw[decide_eq_false (show ¬(v:Int)≥(ctx.length:Int) by omega),cond_false]
 simp only[hi,d0,eD (show ctx.length - 1 - v<ctx.length by omega),Bool.and_self,bz,cond_true,Option.bind_some,dB (show ctx.length - 1 - v<ctx.length by omega),bf,aw (show v<2^61 by omega),e1,List.getD_cons_zero,aL,cY]
 refine⟨db (v+1) (ctx[ctx.length - 1 - v]'(by omega)) 0,0,false,[],by rw[←wR],?_,id,fun _=>⟨rfl,hv,?_⟩⟩
 ·rw[(ff _ _ _).1];exact J.wide
 ·have:=gD (v+1) _ 0 _ o
  rwa [show ctx.length - 1 - v+(v+1)=ctx.length by omega]at this
theorem Pg (iE:ps.length<2^32) (hb:σ[b]?=some (aD E false)) {l:Lv} (hA:nJ ctx.length (.sort l)):
  mG E σ b false (fun u=>br (QE E) (.sort l) ctx.length∧br (QE E) u ctx.length) (gA (ah C) 0 b (strs ps) (ctx.map Tm.enc) 1 0 (ByteArray.mk #[]) [l.enc] [] fu σ):=by
 have wR:σ=σ.set b (aD E false)++[]:=by rw[dD hb,List.append_nil]
 have hl:l.size<2^31:=by have:=hA.parts;have:=fe (.sort l);simp only[Tm.lz]at this;omega
 obtain⟨x,hx⟩:=ve l hl ps (by omega) σ
 have e1:∀(K:List Cell→az→Option aQ) KP,aA (ah C) 257 [(.agg l.enc,false),(.slice 1 9 (strs ps),false)] σ 1 K KP=K [(.bool x,false)] σ:=fun K KP=>ab (by rw[l.aX];exact hx)
 have e2:∀(K:List Cell→az→Option aQ) KP,aA (ah C) 225 [(.agg [.int .i64 (1:Int),.str (ByteArray.mk #[]),.slice 3 120 [l.enc]],false)] σ 1 K KP=K [((Tm.sort (.succ l)).val,false)] σ:=fun K KP=>ab (Ak (.succ l) σ)
 simp only[gA,cj,cB,cq,aC,aP,bo,aE,bH,bJ,bp,bQ,ae,bA,aF,ak,de,aM,bU,aH,cz,cR,dn,dk,bb,AU,ft,gH hb,iD,Option.bind_some,cond_false,cond_true,Int.reduceBEq,beq_self_eq_true,ln1,ad3,bz,oG,Qu,e1,List.getD_cons_zero]
 cases x with
 |false=>
  have:=mG.bad (E:=E) (σ:=σ) (τ:=[]) (b:=b) (w:=false) (w':=false) (P:=fun u=>br (QE E) (.sort l) ctx.length∧br (QE E) u ctx.length) (k:=5) (by decide) id
  rw[←wR]at this
  exact this
 |true=>
  simp only[Bool.not_true,cond_false,e2,List.getD_cons_zero,aL,cond_true,Option.bind_some,cY]
  exact⟨.sort (.succ l),0,false,[],by rw[←wR],by simp[Tm.wide],id,fun _=>⟨rfl,trivial,trivial⟩⟩
theorem Sz (hE:dj E) (iE:ps.length<2^32) (hb:σ[b]?=some (aD E false)) {s:ByteArray} {ls:List Lv} (hA:nJ ctx.length (.const s ls)):
  mG E σ b false (fun u=>br (QE E) (.const s ls) ctx.length∧br (QE E) u ctx.length) (gA (ah C) (ls.length+1) b (strs ps) (ctx.map Tm.enc) 2 0 s (ls.map Lv.enc) [] fu σ):=by
 have wR:σ=σ.set b (aD E false)++[]:=by rw[dD hb,List.append_nil]
 have Z7:∀l∈ls,l.size<2^31:=fun l hl=>by
  have:=Qo hl
  have:=hA.parts
  have:=fe (.const s ls)
  simp only[Tm.lz]at this
  omega
 have bad:∀k:Int,k≠0→mG E σ b false (fun u=>br (QE E) (.const s ls) ctx.length∧br (QE E) u ctx.length) (some (.ret [((Tm.var 0).val,false),(.int .i64 k,false)],σ)):=fun k hk=>by
  have:=mG.bad (E:=E) (σ:=σ) (τ:=[]) (b:=b) (w:=false) (w':=false) (P:=fun u=>br (QE E) (.const s ls) ctx.length∧br (QE E) u ctx.length) (k:=k) hk id
  rwa [←wR]at this
 have ht:=Pb hb hE.n (fun e he=>(hE.MY e he).kind) s
 simp only[gA,cj,cB,cq,aC,aP,bo,aE,bH,bJ,bp,bQ,ae,bA,aF,ak,de,aM,bU,aH,cz,cR,dn,dk,bb,AU,ft,gH hb,iD,Option.bind_some,cond_false,cond_true,Int.reduceBEq,beq_self_eq_true]
 cases hv:dV s E with
 |none=>
  rw[hv]at ht
  simp only[typed]at ht
  have e1:∀(K:List Cell→az→Option aQ) KP,aA (ah C) 16 [(.ptr 49 b 0,false),(.str s,false)] σ 3 K KP=K [(.slice 1 9 [],true),((Tm.var 0).val,false),(.bool false,false)] σ:=fun K KP=>bM ht rfl
  simp only[e1,List.getD_cons_zero,List.getD_cons_succ,aL,bz,cond_true,Option.bind_some,iD,Bool.not_false]
  exact bad 4 (by decide)
 |some q=>
  obtain⟨qs,u⟩:=q
  obtain⟨ou,ju,ql⟩:=Wu hE hv
  rw[hv]at ht
  simp only[typed]at ht
  have e1:∀(K:List Cell→az→Option aQ) KP,aA (ah C) 16 [(.ptr 49 b 0,false),(.str s,false)] σ 3 K KP=K [(.slice 1 9 (strs qs),false),(u.val,false),(.bool true,false)] σ:=fun K KP=>bM ht rfl
  have hql:(strs qs).length=qs.length:=by simp[strs]
  simp only[e1,List.getD_cons_zero,List.getD_cons_succ,aL,bz,cond_true,cond_false,Option.bind_some,iD,asN,Bool.not_true,hql,List.length_map]
  by_cases hl:qs.length=ls.length
  case neg=>
   rw[show((qs.length:Int) != (ls.length:Int))=true by rw[bne_iff_ne];omega,cond_true]
   exact bad 6 (by decide)
  rw[show((qs.length:Int) != (ls.length:Int))=false by rw[hl,bne_self_eq_false],cond_false]
  simp only[cV,dJ,dK,dw,dh]
  have hQ:QE E s ls.length:=⟨qs,u,hv,hl⟩
  obtain⟨v,k,w',τ,r1,r2,r3,r4⟩:=Bc (N:=ls.length+1) (n:=ctx.length) (k:=2) (m:=0) (s:=s) (as_:=[]) (t0:=0) (t1:=0) (t2:=ByteArray.mk #[]) (t3:=[]) (t4:=[]) hb hl ql (ps:=ps) (by omega) Z7 ju.wide ou (ls.length+1) 0 (Nat.zero_le _) (by omega)
  exact⟨v,k,w',τ,r1,r2,r3,fun h=>⟨(r4 h).1,hQ,(r4 h).2⟩⟩
end
end Go.Ab.Mk
end
section
namespace Go.Ab.Mk
open Go.Proofs Go.Ab Go.Proofs.Mk
section
variable {E:List bO} {b fu m:Nat} {σ:az} {ps:List ByteArray} {ctx:List Tm}
theorem Inf.t (hI:Inf E ps fu m b) {t:Tm} (h:t.zw≤m) {w:Bool} (hb:σ[b]?=some (aD E w)) (hC:ru E ctx) (hA:w=false→nJ ctx.length t) {q:Bool}:
  mG E σ b w (fun u=>(br (QE E) t ctx.length∧br (QE E) u ctx.length)∧u.parts≤20000) (ah C 179 [(.ptr 49 b 0,false),(.slice 1 9 (strs ps),false),(.slice 5 53 (ctx.map Tm.enc),q),(t.val,false),(.int .i64 fu,false)] σ):=by
 cases w with
 |false=>exact An hb (hI t h ctx false σ hb hC (hA rfl))
 |true=>exact An hb (wJ hb t)
theorem Inf.s (hE:dj E) (hf:fu<2^50) (hn:ctx.length<2^40) (hI:Inf E ps fu m b) {t:Tm} (h:t.zw≤m) {w:Bool} (hb:σ[b]?=some (aD E w)) (hC:ru E ctx) (hA:w=false→nJ ctx.length t) {q:Bool}:
  SoR E σ b w (br (QE E) t ctx.length) (ah C 170 [(.ptr 49 b 0,false),(.slice 1 9 (strs ps),false),(.slice 5 53 (ctx.map Tm.enc),q),(t.val,false),(.int .i64 fu,false)] σ):=
 Sx hE hb hn hf (hI.t h hb hC hA)
theorem SA (hE:dj E) (hf:fu<2^50) (hI:Inf E ps fu m b) (hb:σ[b]?=some (aD E false)) (hC:ru E ctx) {A B:Tm} (hz:(Tm.lam A B).zw≤m+1) (hA:nJ ctx.length (.lam A B)):
  mG E σ b false (fun u=>br (QE E) (.lam A B) ctx.length∧br (QE E) u ctx.length) (gA (ah C) 0 b (strs ps) (ctx.map Tm.enc) 4 0 (ByteArray.mk #[]) [] [A.enc,B.enc] fu σ):=by
 have eN:=cO hb
 have hn:=hA.under
 rw[abd]at hz
 obtain⟨iA,iB⟩:=hA.lam
 obtain⟨l,k,w1,τ1,h1,h2,h3,h4⟩:=hI.s hE hf (by omega) (t:=A) (by omega) hb hC (fun _=>iA) (q:=false)
 have e1:∀(K:List Cell→az→Option aQ) KP,aA (ah C) 170 [(.ptr 49 b 0,false),(.slice 1 9 (strs ps),false),(.slice 5 53 (ctx.map Tm.enc),false),(A.val,false),(.int .i64 fu,false)] σ 2 K KP=K [(.agg [.int .i64 l.kind,.str l.name,.slice 3 120 l.args],false),(.int .i64 k,false)] (σ.set b (aD E w1)++τ1):=fun K KP=>aW h1
 simp only[gA,cj,cB,cq,aC,aP,bo,aE,bH,bJ,bp,bQ,ae,bA,aF,ak,de,aM,bU,aH,cz,cR,dn,dk,bb,AU,ft,gH hb,iD,fT,Option.bind_some,cond_false,cond_true,Int.reduceBEq,beq_self_eq_true,nE,uD,rr,bz,oG,nF,bf,e1,List.getD_cons_zero,List.getD_cons_succ,gC]
 by_cases hk:k=0
 case neg=>
  rw[show(k != (0:Int))=true by rw[bne_iff_ne];exact hk,cond_true]
  exact mG.bad hk h3
 subst hk
 obtain⟨tC,oA⟩:=h4 rfl
 have jc:(σ.set b (aD E w1)++τ1)[b]?=some (aD E w1):=cT (aS hb)
 have e2:∀(K:List Cell→az→Option aQ) KP,aA (ah C) 218 [(.slice 5 53 (ctx.map Tm.enc),false),(A.val,false)] (σ.set b (aD E w1)++τ1) 1 K KP=K [(.slice 5 53 ((ctx++[A]).map Tm.enc),true)] (σ.set b (aD E w1)++τ1):=fun K KP=>ab (jZ ctx A (by omega) _)
 obtain⟨u,k2,w2,τ2,r1,r2,r3,r4⟩:=hI.t (t:=B) (by omega) jc (hC.add oA iA.parts) (fun _=>by rw[Pf];exact iB) (q:=true)
 rw[eF eN]at r1
 have e3:∀(K:List Cell→az→Option aQ) KP,aA (ah C) 179 [(.ptr 49 b 0,false),(.slice 1 9 (strs ps),false),(.slice 5 53 ((ctx++[A]).map Tm.enc),true),(B.val,false),(.int .i64 fu,false)] (σ.set b (aD E w1)++τ1) 2 K KP=K [(u.val,false),(.int .i64 k2,false)] (σ.set b (aD E w2)++(τ1++τ2)):=fun K KP=>aW r1
 simp only[bne_self_eq_false,cond_false,e2,List.getD_cons_zero,List.getD_cons_succ,Bool.and_self,cond_true,Option.bind_some,e3,aL,fT,cY]
 by_cases lK:k2=0
 case neg=>
  rw[show(k2 != (0:Int))=true by rw[bne_iff_ne];exact lK,cond_true]
  exact mG.bad lK fun h=>by simp at h
 subst lK
 obtain⟨FQ,⟨oB,ou⟩,up⟩:=r4 rfl
 rw[Pf]at oB ou
 have e4:∀(K:List Cell→az→Option aQ) KP,aA (ah C) 254 [(A.val,false),(u.val,false)] (σ.set b (aD E w2)++(τ1++τ2)) 1 K KP=K [((Tm.pi A u).val,false)] (σ.set b (aD E w2)++(τ1++τ2)):=fun K KP=>ab (YT A u _)
 simp only[bne_self_eq_false,cond_false,e4,List.getD_cons_zero,aL,cond_true,Option.bind_some,cY]
 refine⟨.pi A u,0,w2,τ1++τ2,rfl,?_,fun h=>by simp at h,fun _=>⟨FQ,⟨oA,oB⟩,oA,ou⟩⟩
 have:=iA.jd.wide
 simp only[Tm.wide]
 omega
theorem Wv (hE:dj E) (hf:fu<2^50) (hI:Inf E ps fu m b) (hb:σ[b]?=some (aD E false)) (hC:ru E ctx) {A B:Tm} (hz:(Tm.pi A B).zw≤m+1) (hA:nJ ctx.length (.pi A B)):
  mG E σ b false (fun u=>br (QE E) (.pi A B) ctx.length∧br (QE E) u ctx.length) (gA (ah C) 0 b (strs ps) (ctx.map Tm.enc) 5 0 (ByteArray.mk #[]) [] [A.enc,B.enc] fu σ):=by
 have eN:=cO hb
 have hn:=hA.under
 rw[acz]at hz
 obtain⟨iA,iB⟩:=hA.pi
 obtain⟨l,k,w1,τ1,h1,h2,h3,h4⟩:=hI.s hE hf (by omega) (t:=A) (by omega) hb hC (fun _=>iA) (q:=false)
 have e1:∀(K:List Cell→az→Option aQ) KP,aA (ah C) 170 [(.ptr 49 b 0,false),(.slice 1 9 (strs ps),false),(.slice 5 53 (ctx.map Tm.enc),false),(A.val,false),(.int .i64 fu,false)] σ 2 K KP=K [(.agg [.int .i64 l.kind,.str l.name,.slice 3 120 l.args],false),(.int .i64 k,false)] (σ.set b (aD E w1)++τ1):=fun K KP=>aW h1
 simp only[gA,cj,cB,cq,aC,aP,bo,aE,bH,bJ,bp,bQ,ae,bA,aF,ak,de,aM,bU,aH,cz,cR,dn,dk,bb,AU,ft,gH hb,iD,fT,Option.bind_some,cond_false,cond_true,Int.reduceBEq,beq_self_eq_true,nE,uD,rr,bz,oG,nF,bf,e1,List.getD_cons_zero,List.getD_cons_succ,gC]
 by_cases hk:k=0
 case neg=>
  rw[show(k != (0:Int))=true by rw[bne_iff_ne];exact hk,cond_true]
  exact mG.bad hk h3
 subst hk
 obtain⟨tC,oA⟩:=h4 rfl
 have jc:(σ.set b (aD E w1)++τ1)[b]?=some (aD E w1):=cT (aS hb)
 have e2:∀(K:List Cell→az→Option aQ) KP,aA (ah C) 218 [(.slice 5 53 (ctx.map Tm.enc),false),(A.val,false)] (σ.set b (aD E w1)++τ1) 1 K KP=K [(.slice 5 53 ((ctx++[A]).map Tm.enc),true)] (σ.set b (aD E w1)++τ1):=fun K KP=>ab (jZ ctx A (by omega) _)
 obtain⟨v,k2,w2,τ2,r1,r2,r3,r4⟩:=hI.s hE hf (ctx:=ctx++[A]) (by rw[Pf];omega) (t:=B) (by omega) jc (hC.add oA iA.parts) (fun _=>by rw[Pf];exact iB) (q:=true)
 rw[eF eN]at r1
 have e3:∀(K:List Cell→az→Option aQ) KP,aA (ah C) 170 [(.ptr 49 b 0,false),(.slice 1 9 (strs ps),false),(.slice 5 53 ((ctx++[A]).map Tm.enc),true),(B.val,false),(.int .i64 fu,false)] (σ.set b (aD E w1)++τ1) 2 K KP=K [(.agg [.int .i64 v.kind,.str v.name,.slice 3 120 v.args],false),(.int .i64 k2,false)] (σ.set b (aD E w2)++(τ1++τ2)):=fun K KP=>aW r1
 simp only[bne_self_eq_false,cond_false,e2,List.getD_cons_zero,List.getD_cons_succ,Bool.and_self,cond_true,Option.bind_some,e3,gC,fT]
 by_cases lK:k2=0
 case neg=>
  rw[show(k2 != (0:Int))=true by rw[bne_iff_ne];exact lK,cond_true]
  exact mG.bad lK fun h=>by simp at h
 subst lK
 obtain⟨FQ,oB⟩:=r4 rfl
 rw[Pf]at oB
 have e4:∀(K:List Cell→az→Option aQ) KP,aA (ah C) 225 [(.agg [.int .i64 (3:Int),.str (ByteArray.mk #[]),.slice 3 120 [l.enc,v.enc]],false)] (σ.set b (aD E w2)++(τ1++τ2)) 1 K KP=K [((Tm.sort (.imax l v)).val,false)] (σ.set b (aD E w2)++(τ1++τ2)):=fun K KP=>ab (Ak (.imax l v) _)
 simp only[bne_self_eq_false,cond_false,mw,e4,List.getD_cons_zero,aL,cond_true,Option.bind_some,cY]
 exact⟨.sort (.imax l v),0,w2,τ1++τ2,rfl,by simp[Tm.wide],fun h=>by simp at h,fun _=>⟨FQ,⟨oA,oB⟩,trivial⟩⟩
theorem SB (hE:dj E) (hf:fu<2^50) (hI:Inf E ps fu m b) (hb:σ[b]?=some (aD E false)) (hC:ru E ctx) {A v B:Tm} (hz:(Tm.bE A v B).zw≤m+1) (hA:nJ ctx.length (.bE A v B)):
  mG E σ b false (fun u=>br (QE E) (.bE A v B) ctx.length∧br (QE E) u ctx.length) (gA (ah C) 0 b (strs ps) (ctx.map Tm.enc) 6 0 (ByteArray.mk #[]) [] [A.enc,v.enc,B.enc] fu σ):=by
 have eN:=cO hb
 have hn:=hA.under
 rw[abe]at hz
 obtain⟨iA,iv,jB,iB⟩:=hA.bE
 obtain⟨l,k,w1,τ1,h1,h2,h3,h4⟩:=hI.s hE hf (by omega) (t:=A) (by omega) hb hC (fun _=>iA) (q:=false)
 have e1:∀(K:List Cell→az→Option aQ) KP,aA (ah C) 170 [(.ptr 49 b 0,false),(.slice 1 9 (strs ps),false),(.slice 5 53 (ctx.map Tm.enc),false),(A.val,false),(.int .i64 fu,false)] σ 2 K KP=K [(.agg [.int .i64 l.kind,.str l.name,.slice 3 120 l.args],false),(.int .i64 k,false)] (σ.set b (aD E w1)++τ1):=fun K KP=>aW h1
 simp only[gA,cj,cB,cq,aC,aP,bo,aE,bH,bJ,bp,bQ,ae,bA,aF,ak,de,aM,bU,aH,cz,cR,dn,dk,bb,AU,ft,gH hb,iD,fT,Option.bind_some,cond_false,cond_true,Int.reduceBEq,acB,adO,adN,adM,bz,oG,nF,acC,bf,e1,List.getD_cons_zero,List.getD_cons_succ,gC]
 by_cases hk:k=0
 case neg=>
  rw[show(k != (0:Int))=true by rw[bne_iff_ne];exact hk,cond_true]
  exact mG.bad hk h3
 subst hk
 obtain⟨tC,oA⟩:=h4 rfl
 have jc:(σ.set b (aD E w1)++τ1)[b]?=some (aD E w1):=cT (aS hb)
 obtain⟨u,k2,w2,τ2,r1,r2,r3,r4⟩:=hI.t (t:=v) (by omega) jc hC (fun _=>iv) (q:=false)
 rw[eF eN]at r1
 have e2:∀(K:List Cell→az→Option aQ) KP,aA (ah C) 179 [(.ptr 49 b 0,false),(.slice 1 9 (strs ps),false),(.slice 5 53 (ctx.map Tm.enc),false),(v.val,false),(.int .i64 fu,false)] (σ.set b (aD E w1)++τ1) 2 K KP=K [(u.val,false),(.int .i64 k2,false)] (σ.set b (aD E w2)++(τ1++τ2)):=fun K KP=>aW r1
 simp only[bne_self_eq_false,cond_false,e2,List.getD_cons_zero,List.getD_cons_succ,cond_true,Option.bind_some,aL,fT,cY]
 by_cases lK:k2=0
 case neg=>
  rw[show(k2 != (0:Int))=true by rw[bne_iff_ne];exact lK,cond_true]
  exact mG.bad lK fun h=>by simp at h
 subst lK
 obtain⟨FQ,⟨ov,ou⟩,up⟩:=r4 rfl
 have vu:(σ.set b (aD E w2)++(τ1++τ2))[b]?=some (aD E w2):=cT (aS hb)
 obtain⟨k4,w4,LW,m1,m2,m3⟩:=EF hE (n:=ctx.length) (by omega) vu hf (x:=u) (y:=A) r2 iA.jd.wide (fun _=>⟨⟨ou,by omega⟩,oA,iA.parts⟩)
 rw[eF eN]at m1
 have e4:∀(K:List Cell→az→Option aQ) KP,aA (ah C) 180 [(.ptr 49 b 0,false),(u.val,false),(A.val,false),(.int .i64 fu,false)] (σ.set b (aD E w2)++(τ1++τ2)) 1 K KP=K [(.int .i64 k4,false)] (σ.set b (aD E w4)++(τ1++τ2++LW)):=fun K KP=>ab m1
 simp only[bne_self_eq_false,cond_false,e4,List.getD_cons_zero,fT,Option.bind_some]
 by_cases Xa:k4=0
 case neg=>
  rw[show(k4 != (0:Int))=true by rw[bne_iff_ne];exact Xa,cond_true]
  exact mG.bad Xa fun h=>by simp at h
 subst Xa
 have Tg:(σ.set b (aD E w4)++(τ1++τ2++LW))[b]?=some (aD E w4):=cT (aS hb)
 have ad1:=cO Tg
 have jv:=iv.jd
 obtain⟨x,w5,s1,s2⟩:=iX Tg B v jB.wide jv.wide (by have:=jB.top;omega) (by have:=jv.top;omega) (by have:=jv.depth;omega)
 rw[←List.append_nil (List.set (σ.set b (aD E w4)++_) b _),eF eN,List.append_nil]at s1
 have e5:∀(K:List Cell→az→Option aQ) KP,aA (ah C) 260 [(.ptr 49 b 0,false),(B.val,false),(v.val,false)] (σ.set b (aD E w4)++(τ1++τ2++LW)) 1 K KP=K [(x.val,false)] (σ.set b (aD E w5)++(τ1++τ2++LW)):=fun K KP=>ab s1
 have hb5:(σ.set b (aD E w5)++(τ1++τ2++LW))[b]?=some (aD E w5):=cT (aS hb)
 have hx:mG E (σ.set b (aD E w5)++(τ1++τ2++LW)) b w5 (fun u=>(w5=false→br (QE E) B (ctx.length+1)∧br (QE E) u ctx.length)) (ah C 179 [(.ptr 49 b 0,false),(.slice 1 9 (strs ps),false),(.slice 5 53 (ctx.map Tm.enc),false),(x.val,false),(.int .i64 fu,false)] (σ.set b (aD E w5)++(τ1++τ2++LW))):=by
  cases w5 with
  |true=>
   obtain⟨y,k,w',τ,a1,a2,a3,a4⟩:=An (q:=false) hb5 (wJ (ps:=ps) (ctx:=ctx) (fu:=fu) (P:=fun _=>True) hb5 x)
   exact⟨y,k,w',τ,a1,a2,a3,fun h=>⟨(a4 h).1,fun h=>by simp at h⟩⟩
  |false=>
   rcases s2 with⟨h,_⟩|⟨hw4,_,rfl,_,sp⟩
   ·simp at h
   ·obtain⟨y,k,w',τ,a1,a2,a3,a4⟩:=hI.t (t:=aZ v B 0) (by omega) hb5 hC (fun _=>iB (by omega)) (q:=false)
    exact⟨y,k,w',τ,a1,a2,a3,fun h=>⟨(a4 h).1,fun _=>⟨fP B 0 ctx.length (Nat.zero_le _) (a4 h).2.1.1,(a4 h).2.1.2⟩⟩⟩
 obtain⟨y,k6,w6,τ6,a1,a2,a3,a4⟩:=hx
 rw[eF eN]at a1
 have e6:∀(K:List Cell→az→Option aQ) KP,aA (ah C) 179 [(.ptr 49 b 0,false),(.slice 1 9 (strs ps),false),(.slice 5 53 (ctx.map Tm.enc),false),(x.val,false),(.int .i64 fu,false)] (σ.set b (aD E w5)++(τ1++τ2++LW)) 2 K KP=K [(y.val,false),(.int .i64 k6,false)] (σ.set b (aD E w6)++(τ1++τ2++LW++τ6)):=fun K KP=>aW a1
 simp only[bne_self_eq_false,cond_false,cond_true,e5,e6,List.getD_cons_zero,List.getD_cons_succ,aL,Option.bind_some,cY]
 refine⟨y,k6,w6,_,rfl,a2,fun h=>by simp at h,fun h=>?_⟩
 obtain⟨hw6,p⟩:=a4 h
 have hw5:w5=false:=by
  cases w5 with
  |false=>rfl
  |true=>rw[a3 rfl]at hw6;simp at hw6
 exact⟨hw6,⟨oA,ov,(p hw5).1⟩,(p hw5).2⟩
theorem SD (hE:dj E) (hf:fu<2^50) (hI:Inf E ps fu m b) (hb:σ[b]?=some (aD E false)) (hC:ru E ctx) {A B:Tm} (hz:(Tm.app A B).zw≤m+1) (hA:nJ ctx.length (.app A B)):
  mG E σ b false (fun u=>br (QE E) (.app A B) ctx.length∧br (QE E) u ctx.length) (gA (ah C) 0 b (strs ps) (ctx.map Tm.enc) 3 0 (ByteArray.mk #[]) [] [A.enc,B.enc] fu σ):=by
 have hn:=hA.under
 rw[abb]at hz
 obtain⟨iA,iB⟩:=hA.app
 obtain⟨u,k,w',τ,r1,r2⟩:=LV hE hb (n:=ctx.length) (by omega) hf iB.parts (hI.t (t:=A) (by omega) hb hC (fun _=>iA) (q:=false)) (fun w1 jH jc=>hI.t (t:=B) (by omega) jc hC (fun _=>iB) (q:=false))
 have e1:∀(K:List Cell→az→Option aQ) KP,aA (ah C) 259 [(.ptr 49 b 0,false),(.slice 1 9 (strs ps),false),(.slice 5 53 (ctx.map Tm.enc),false),(.agg [.int .i64 (3:Int),.int .i64 (0:Int),.str (ByteArray.mk #[]),.slice 3 120 [],.slice 5 53 [A.enc,B.enc]],false),(.int .i64 fu,false)] σ 2 K KP=K [(u.val,false),(.int .i64 k,false)] (σ.set b (aD E w')++τ):=fun K KP=>aW r1
 simp only[gA,cj,cB,cq,aC,aP,bo,aE,bH,bJ,bp,bQ,ae,bA,aF,ak,de,aM,bU,aH,cz,cR,dn,dk,bb,AU,ft,gH hb,iD,Option.bind_some,cond_false,cond_true,Int.reduceBEq,beq_self_eq_true,bz,e1,List.getD_cons_zero,List.getD_cons_succ,aL,cY]
 exact⟨u,k,w',τ,rfl,r2⟩
theorem abo:∀(t:Tm) (ρ:Nat→Nat),(∀i,1≤ρ i)→1≤zf 1 1 (fun a b=>1+a+b) (fun a b=>1+a+b) (fun a v b=>1+a+v+b) t ρ
 |.var v,ρ,h=>h v
 |.sort _,_,_=>Nat.le_refl _
 |.const _ _,_,_=>Nat.le_refl _
 |.app _ _,_,_=>by simp only[zf];omega
 |.lam _ _,_,_=>by simp only[zf];omega
 |.pi _ _,_,_=>by simp only[zf];omega
 |.bE _ _ _,_,_=>by simp only[zf];omega
theorem abp (t:Tm):1≤t.zw:=abo t _ fun _=>Nat.le_refl _
theorem Ao (hE:dj E) (hf:fu<2^50) (iE:ps.length<2^32):∀m,Inf E ps fu m b
 |0,t,h=>by
  have:=abp t
  omega
 |m+1,t,h=>by
  intro ctx w σ hb hC hA
  cases w with
  |true=>exact wJ hb t
  |false=>
   have hI:=Ao hE hf iE m
   have fin:∀n,mG E σ b false (fun u=>br (QE E) t ctx.length∧br (QE E) u ctx.length) (gA (ah C) n b (strs ps) (ctx.map Tm.enc) t.kind t.num t.name (t.bK.map Lv.enc) t.args fu σ)→mG E σ b false (fun u=>br (QE E) t ctx.length∧br (QE E) u ctx.length) (ah C 230 [(.ptr 49 b 0,false),(.slice 1 9 (strs ps),false),(.slice 5 53 (ctx.map Tm.enc),false),(t.val,false),(.int .i64 fu,false)] σ):=fun n ⟨u,k,w',τ,r1,r2⟩=>⟨u,k,w',τ,Di (n:=n) r1,r2⟩
   cases t with
   |var v=>exact fin 0 (Sy hb hC hA)
   |sort l=>exact fin 0 (Pg iE hb hA)
   |const s ls=>exact fin _ (Sz hE iE hb hA)
   |app A B=>exact fin 0 (SD hE hf hI hb hC h hA)
   |lam A B=>exact fin 0 (SA hE hf hI hb hC h hA)
   |pi A B=>exact fin 0 (Wv hE hf hI hb hC h hA)
   |bE A v B=>exact fin 0 (SB hE hf hI hb hC h hA)
end
end Go.Ab.Mk
end
section
namespace Go.Ab.Mk
open Go.Proofs Go.Ab Go.Proofs.Mk
section
variable {E:List bO} {b fu:Nat} {σ:az} {w:Bool}
theorem Ph (hE:dj E) (hf:fu<2^50) {ps:List ByteArray} (iE:ps.length<2^32) {ctx:List Tm} (hb:σ[b]?=some (aD E w)) (hC:ru E ctx) {t:Tm} (hA:w=false→nJ ctx.length t) (q:Bool):
  mG E σ b w (fun u=>(br (QE E) t ctx.length∧br (QE E) u ctx.length)∧u.parts≤20000) (ah C 179 [(.ptr 49 b 0,false),(.slice 1 9 (strs ps),false),(.slice 5 53 (ctx.map Tm.enc),q),(t.val,false),(.int .i64 fu,false)] σ):=
 (Ao (b:=b) hE hf iE t.zw).t (σ:=σ) (Nat.le_refl _) hb hC hA (q:=q)
theorem kQ (hE:dj E) (hf:fu<2^50) {ps:List ByteArray} (iE:ps.length<2^32) {ctx:List Tm} (hn:ctx.length<2^40) (hb:σ[b]?=some (aD E w)) (hC:ru E ctx) {t:Tm} (hA:w=false→nJ ctx.length t) (q:Bool):
  SoR E σ b w (br (QE E) t ctx.length) (ah C 170 [(.ptr 49 b 0,false),(.slice 1 9 (strs ps),false),(.slice 5 53 (ctx.map Tm.enc),q),(t.val,false),(.int .i64 fu,false)] σ):=
 (Ao (b:=b) hE hf iE t.zw).s hE hf hn (σ:=σ) (Nat.le_refl _) hb hC hA (q:=q)
theorem uo (E:List bO):ru E []:=fun i h=>absurd h (Nat.not_lt_zero i)
theorem SE (hE:dj E) (hf:fu<2^50) (hb:σ[b]?=some (aD E w)) {d:Dc} (iE:d.aT.length<2^32) (hT:nJ 0 d.type) (hV:nJ 0 d.value):
  ∃(k:Int) (w':Bool) (τ:az),ah C 115 [(.ptr 49 b 0,false),(d.val,false),(.int .i64 fu,false)] σ=some (.ret [(.int .i64 k,false)],σ.set b (aD E w')++τ)∧(w=true→w'=true)∧
   (k=0→w'=false∧da d.name E=none∧d.aT.length≤6∧br (QE E) d.type 0∧(d.kind≠1→br (QE E) d.value 0)):=by
 have eN:=cO hb
 have wR:σ=σ.set b (aD E w)++[]:=by rw[dD hb,List.append_nil]
 have hp:d.ch=strs d.aT:=rfl
 suffices hs:∃(k:Int) (w':Bool) (τ:az),plain (ah C) 0 b d.kind d.name (strs d.aT) d.type.kind d.type.num d.type.name (d.type.bK.map Lv.enc) d.type.args d.value.kind d.value.num d.value.name (d.value.bK.map Lv.enc) d.value.args d.arity d.aY fu σ=some (.ret [(.int .i64 k,false)],σ.set b (aD E w')++τ)∧(w=true→w'=true)∧
   (k=0→w'=false∧da d.name E=none∧d.aT.length≤6∧br (QE E) d.type 0∧(d.kind≠1→br (QE E) d.value 0)) by
  obtain⟨k,w',τ,h1,h2⟩:=hs
  have:=RJ (n:=0) (b0:=false) (b1:=false) (b2:=false) h1
  refine⟨k,w',τ,?_,h2⟩
  rw[←this]
  simp only[Dc.val,Dc.enc,Tm.aX,hp]
  rfl
 have e1:∀(K:List Cell→az→Option aQ) KP,aA (ah C) 167 [(.ptr 49 b 0,false),(.str d.name,false)] σ 1 K KP=K [(.bool (da d.name E).isSome,false)] σ:=fun K KP=>ab (GR hb hE.n (fun e he=>(hE.MY e he).kind) d.name)
 simp only[plain,aE,aF,cB,ae,aq,aP,aM,de,aC,bQ,bb,aH,ft,bA,e1,List.getD_cons_zero,iD,Option.bind_some]
 cases WW:da d.name E with
 |some r=>
  rw[Option.isSome_some,cond_true]
  exact⟨3,w,[],by rw[←wR],id,fun h=>by simp at h⟩
 |none=>
  obtain⟨x,hx,W6⟩:=Ez d.aT (by omega) σ
  have e2:∀(K:List Cell→az→Option aQ) KP,aA (ah C) 169 [(.slice 1 9 (strs d.aT),false)] σ 1 K KP=K [(.bool x,false)] σ:=fun K KP=>ab hx
  simp only[Option.isSome_none,cond_false,e2,List.getD_cons_zero,iD,Option.bind_some]
  cases x with
  |true=>exact⟨5,w,[],by rw[cond_true,←wR],id,fun h=>by simp at h⟩
  |false=>
   have hl:=W6 rfl
   obtain⟨l,k,w1,τ1,h1,h2,h3,h4⟩:=kQ hE hf iE (ctx:=[]) (by decide) hb (uo E) (t:=d.type) (fun _=>hT) true
   have e3:∀(K:List Cell→az→Option aQ) KP,aA (ah C) 170 [(.ptr 49 b 0,false),(.slice 1 9 (strs d.aT),false),(.slice 5 53 [],true),(d.type.val,false),(.int .i64 fu,false)] σ 2 K KP=K [(.agg [.int .i64 l.kind,.str l.name,.slice 3 120 l.args],false),(.int .i64 k,false)] (σ.set b (aD E w1)++τ1):=fun K KP=>aW h1
   simp only[cond_false,cK,e3,List.getD_cons_zero,List.getD_cons_succ,gC,bz,cond_true,Option.bind_some,fT]
   by_cases hk:k=0
   case neg=>
    rw[show(k != (0:Int))=true by rw[bne_iff_ne];exact hk,cond_true]
    exact⟨k,w1,τ1,rfl,h3,fun h=>absurd h hk⟩
   subst hk
   obtain⟨tC,oT⟩:=h4 rfl
   rw[bne_self_eq_false,cond_false]
   by_cases h1k:d.kind=1
   ·rw[show((d.kind:Int)==1)=true by rw[h1k];rfl,cond_true]
    exact⟨0,w1,τ1,rfl,h3,fun _=>⟨tC,trivial,hl,oT,fun h=>absurd h1k h⟩⟩
   ·rw[show((d.kind:Int)==1)=false by rw[beq_eq_false_iff_ne];omega,cond_false]
    have jc:(σ.set b (aD E w1)++τ1)[b]?=some (aD E w1):=cT (aS hb)
    obtain⟨u,k2,w2,τ2,r1,r2,r3,r4⟩:=Ph hE hf iE (ctx:=[]) jc (uo E) (t:=d.value) (fun _=>hV) true
    rw[eF eN]at r1
    have e4:∀(K:List Cell→az→Option aQ) KP,aA (ah C) 179 [(.ptr 49 b 0,false),(.slice 1 9 (strs d.aT),false),(.slice 5 53 [],true),(d.value.val,false),(.int .i64 fu,false)] (σ.set b (aD E w1)++τ1) 2 K KP=K [(u.val,false),(.int .i64 k2,false)] (σ.set b (aD E w2)++(τ1++τ2)):=fun K KP=>aW r1
    simp only[e4,List.getD_cons_zero,List.getD_cons_succ,aL,cond_true,Option.bind_some,fT,cY]
    by_cases lK:k2=0
    case neg=>
     rw[show(k2 != (0:Int))=true by rw[bne_iff_ne];exact lK,cond_true]
     exact⟨k2,w2,_,rfl,fun h=>r3 (h3 h),fun h=>absurd h lK⟩
    subst lK
    obtain⟨FQ,⟨oV,ou⟩,up⟩:=r4 rfl
    have vu:(σ.set b (aD E w2)++(τ1++τ2))[b]?=some (aD E w2):=cT (aS hb)
    obtain⟨k4,w4,LW,m1,m2,m3⟩:=EF hE (n:=0) (by decide) vu hf (x:=u) (y:=d.type) r2 hT.jd.wide (fun _=>⟨⟨ou,by omega⟩,oT,hT.parts⟩)
    rw[eF eN]at m1
    have e5:∀(K:List Cell→az→Option aQ) KP,aA (ah C) 180 [(.ptr 49 b 0,false),(u.val,false),(d.type.val,false),(.int .i64 fu,false)] (σ.set b (aD E w2)++(τ1++τ2)) 1 K KP=K [(.int .i64 k4,false)] (σ.set b (aD E w4)++(τ1++τ2++LW)):=fun K KP=>ab m1
    simp only[bne_self_eq_false,cond_false,e5,List.getD_cons_zero]
    exact⟨k4,w4,_,rfl,fun h=>m2 (r3 (h3 h)),fun h=>⟨m3 h,trivial,hl,oT,fun _=>oV⟩⟩
end
end Go.Ab.Mk
end
section
namespace Go.Ab.Mk
open Go.Proofs Go.Ab Go.Proofs.Mk
def kR (L:Nat) (ps:List Nat):Nat→Tm→Tm
 |0,t=>t
 |i+1,t=>kR L ps i (aZ (.var (L - 1 - ps.getD i 0+i)) t 0)
structure Sm (D:Nat) (t:Tm):Prop where
 wide:t.wide<2^31
 depth:t.depth≤D
theorem Sm.mono {D D':Nat} {t:Tm} (h:Sm D t) (hD:D≤D'):Sm D' t:=⟨h.wide,Nat.le_trans h.depth hD⟩
theorem Sm.var {D n:Nat}:Sm D (.var n):=⟨by simp[Tm.wide],by simp[Tm.depth]⟩
theorem Sm.pi {D:Nat} {a b:Tm} (ha:Sm D a) (hb:Sm D b):Sm (D+1) (.pi a b):=⟨by have:=ha.wide;have:=hb.wide;simp only[Tm.wide];omega,by have:=ha.depth;have:=hb.depth;simp only[Tm.depth];omega⟩
theorem Sm.app {D:Nat} {a b:Tm} (ha:Sm D a) (hb:Sm D b):Sm (D+1) (.app a b):=⟨by have:=ha.wide;have:=hb.wide;simp only[Tm.wide];omega,by have:=ha.depth;have:=hb.depth;simp only[Tm.depth];omega⟩
theorem Sm.abq {D:Nat} {a b:Tm} (h:Sm D (.pi a b)):Sm D a∧Sm D b:=by
 have h1:=h.wide
 have h2:=h.depth
 simp only[Tm.wide]at h1
 simp only[Tm.depth]at h2
 exact⟨⟨by omega,by omega⟩,⟨by omega,by omega⟩⟩
theorem Sm.subst {D n:Nat} {t:Tm} (h:Sm D t) (k:Nat):Sm D (aZ (.var n) t k):=by
 obtain⟨h1,h2,_⟩:=eV (.var n) t k
 have:=h.wide
 have:=h.depth
 simp only[Tm.wide]at h1
 simp only[Tm.depth]at h2
 exact⟨by omega,by omega⟩
theorem Sm.spine {D:Nat} {t:Tm} (h:Sm D t):t.spine.length≤D∧∀a∈t.spine,Sm D a:=by
 have key:∀t:Tm,∀a∈t.spine,a.wide≤t.wide∧a.depth≤t.depth:=by
  intro t
  induction t with
  |app a b iha _=>
   intro c hc
   rcases List.mem_append.1 hc with hc|hc
   ·obtain⟨k1,k2⟩:=iha c hc
    exact⟨by simp only[Tm.wide];omega,by simp only[Tm.depth];omega⟩
   ·rw[List.mem_singleton]at hc;subst hc
    exact⟨by simp only[Tm.wide];omega,by simp only[Tm.depth];omega⟩
  |_=>simp[Tm.spine]
 exact⟨Nat.le_trans (jD t) h.depth,fun a ha=>⟨Nat.lt_of_le_of_lt (key t a ha).1 h.wide,Nat.le_trans (key t a ha).2 h.depth⟩⟩
theorem Js {D L:Nat} {ps:List Nat}:∀(i:Nat) (t:Tm),Sm D t→Sm D (kR L ps i t)
 |0,_,h=>h
 |i+1,_,h=>Js i _ (h.subst 0)
theorem Jt {Q:ByteArray→Nat→Prop} {L:Nat} {ps:List Nat} (hp:∀p∈ps,p<L):∀(i:Nat) (t:Tm),i≤ps.length→br Q t (i+L)→br Q (kR L ps i t) L
 |0,t,_,h=>by rw[Nat.zero_add]at h;exact h
 |i+1,t,hi,h=>by
  have aG:i<ps.length:=by omega
  have hg:ps.getD i 0=ps[i]:=by rw[List.getD_eq_getElem?_getD,List.getElem?_eq_getElem aG];rfl
  have:=hp _ (List.getElem_mem aG)
  refine Jt hp i _ (by omega) ?_
  refine eB (n:=i+L) (v:=.var _) ?_ t 0 ?_
  ·simp only[br];rw[hg];omega
  ·rw[show i+L+0+1=i+1+L by omega];exact h
def sO (bs:List Tm) (t:Tm):Tm:=bs.foldr .pi t
theorem Ju {Q:ByteArray→Nat→Prop} {t:Tm}:∀(bs:List Tm) (n:Nat),(∀i (h:i<bs.length),br Q bs[i] (n+i))→br Q t (n+bs.length)→br Q (sO bs t) n
 |[],n,_,h=>h
 |a::bs,n,hb,h=>⟨hb 0 (by simp),Ju bs (n+1) (fun i hi=>by have:=hb (i+1) (by simp;omega);rw[show n+1+i=n+(i+1) by omega];exact this) (by rw[List.length_cons]at h;rw[show n+1+bs.length=n+(bs.length+1) by omega];exact h)⟩
theorem uq {D:Nat} {t:Tm} (ht:Sm D t):∀bs:List Tm,(∀b∈bs,Sm D b)→Sm (D+bs.length) (sO bs t)
 |[],_=>ht
 |a::bs,hb=>by
  have h1:=uq ht bs fun b h=>hb b (List.mem_cons_of_mem _ h)
  have h2:=(hb a (List.mem_cons_self ..)).mono (show D≤D+bs.length by omega)
  rw[List.length_cons,←Nat.add_assoc]
  exact h2.pi h1
theorem LX (t:Tm):∀bs:List Tm,(bs.map Tm.enc).foldr Mk.Rg t.enc=(sO bs t).enc
 |[]=>rfl
 |a::bs=>by rw[List.map_cons,List.foldr_cons,LX t bs];rfl
theorem zc (t:Tm):Mk.uO t.val=some t.enc:=by rw[t.aX];rfl
theorem Y3 (t:Tm):V.agg t.enc=t.val:=by rw[t.aX];rfl
structure SF (Q:ByteArray→Nat→Prop) (D:Nat) (bs:List Tm):Prop where
 ok:∀i (h:i<bs.length),br Q bs[i] i
 sm:∀b∈bs,Sm D b
theorem SF.nil (Q:ByteArray→Nat→Prop) (D:Nat):SF Q D []:=⟨fun i h=>absurd h (Nat.not_lt_zero i),fun b h=>absurd h List.not_mem_nil⟩
theorem SF.mono {Q:ByteArray→Nat→Prop} {D D':Nat} {bs:List Tm} (h:SF Q D bs) (hD:D≤D'):SF Q D' bs:=⟨h.ok,fun b hb=>(h.sm b hb).mono hD⟩
theorem SF.add {Q:ByteArray→Nat→Prop} {D:Nat} {bs:List Tm} {t:Tm} (h:SF Q D bs) (ht:br Q t bs.length) (hs:Sm D t):SF Q D (bs++[t]):=by
 refine⟨fun i hi=>?_,fun b hb=>?_⟩
 ·by_cases aG:i<bs.length
  ·rw[List.getElem_append_left aG];exact h.ok i aG
  ·have:i=bs.length:=by simp only[List.length_append,List.length_singleton]at hi;omega
   subst this
   simp only[List.getElem_concat_length]
   exact ht
 ·rcases List.mem_append.1 hb with hb|hb
  ·exact h.sm b hb
  ·rw[List.mem_singleton]at hb;subst hb;exact hs
theorem SF.take {Q:ByteArray→Nat→Prop} {D:Nat} {bs:List Tm} (h:SF Q D bs) (n:Nat):SF Q D (bs.take n):=by
 refine⟨fun i hi=>?_,fun b hb=>h.sm b (List.mem_of_mem_take hb)⟩
 rw[List.getElem_take]
 exact h.ok i _
theorem SF.sO {Q:ByteArray→Nat→Prop} {D:Nat} {bs:List Tm} (h:SF Q D bs) {n:Nat} (hn:n≤bs.length) {t:Tm} (ht:br Q t bs.length) (hs:Sm D t):br Q (Mk.sO (bs.drop n) t) n∧Sm (D+(bs.length - n)) (Mk.sO (bs.drop n) t):=by
 refine⟨Ju _ n (fun i hi=>?_) (by rw[List.length_drop,show n+(bs.length - n)=bs.length by omega];exact ht),?_⟩
 ·rw[List.getElem_drop];exact h.ok (n+i) _
 ·rw[←List.length_drop]
  exact uq hs _ fun b hb=>h.sm b (List.mem_of_mem_drop hb)
theorem wK {D:Nat}:∀(n:Nat) (t:Tm),Sm D t→Sm D (eC t n)
 |0,t,h=>by rw[kP];exact h
 |n+1,.pi a b,h=>wK n b h.abq.2
 |_+1,.var _,h=>h
 |_+1,.sort _,h=>h
 |_+1,.const _ _,h=>h
 |_+1,.app _ _,h=>h
 |_+1,.lam _ _,h=>h
 |_+1,.bE _ _ _,h=>h
theorem Ww {Q:ByteArray→Nat→Prop}:∀(n:Nat) (t:Tm) (k:Nat),n≤cP t→br Q t k→br Q (eC t n) (k+n)
 |0,t,k,_,h=>by rw[kP];exact h
 |n+1,.pi a b,k,hn,h=>by
  have:=Ww n b (k+1) (by simp only[cP]at hn;omega) h.2
  rw[show k+(n+1)=k+1+n by omega]
  exact this
 |_+1,.var _,_,hn,_=>by simp[cP]at hn
 |_+1,.sort _,_,hn,_=>by simp[cP]at hn
 |_+1,.const _ _,_,hn,_=>by simp[cP]at hn
 |_+1,.app _ _,_,hn,_=>by simp[cP]at hn
 |_+1,.lam _ _,_,hn,_=>by simp[cP]at hn
 |_+1,.bE _ _ _,_,hn,_=>by simp[cP]at hn
theorem Jv:∀(n:Nat) (t:Tm),n≤cP t→cP (eC t n)=cP t - n
 |0,t,_=>by rw[kP];omega
 |n+1,.pi a b,hn=>by
  have:=Jv n b (by simp only[cP]at hn;omega)
  simp only[cP,eC]at this ⊢
  omega
 |_+1,.var _,hn=>by simp[cP]at hn
 |_+1,.sort _,hn=>by simp[cP]at hn
 |_+1,.const _ _,hn=>by simp[cP]at hn
 |_+1,.app _ _,hn=>by simp[cP]at hn
 |_+1,.lam _ _,hn=>by simp[cP]at hn
 |_+1,.bE _ _ _,hn=>by simp[cP]at hn
end Go.Ab.Mk
end
section
namespace Go.Ab.Mk
open Go.Proofs Go.Ab Go.Proofs.Mk
theorem lY (d:Dc):V.agg [.int .i64 d.kind,.str d.name,.slice 1 9 d.ch,.int .i64 d.type.kind,.int .i64 d.type.num,.str d.type.name,.slice 3 120 (d.type.bK.map Lv.enc),.slice 5 53 d.type.args,.int .i64 d.value.kind,.int .i64 d.value.num,.str d.value.name,.slice 3 120 (d.value.bK.map Lv.enc),.slice 5 53 d.value.args,.int .i64 d.arity,.slice 6 60 d.aY]=d.val:=by
 simp only[Dc.val,Dc.enc,Tm.aX];rfl
def Fa (σ:az) (r:Option aQ):Prop:=∃x:Bool,r=some (.ret [(.bool x,false)],σ)
theorem Fa.bif {σ:az} {c:Bool} {a b:Option aQ} (ha:Fa σ a) (hb:Fa σ b):Fa σ (bif c then a else b):=by cases c<;>assumption
theorem Fa.no {σ:az} (b:Bool):Fa σ (some (.ret [(.bool b,false)],σ)):=⟨b,rfl⟩
section
variable {σ:az} {N:Nat} {d:Dc} {t0 t1:Int} {t2:ByteArray} {t3 t4:List (List V)}
theorem yn {sp:List Tm} (hb:sp.length<2^60) {away:Int}:∀(m i:Nat),i≤sp.length→sp.length - i<m→
  Fa σ (oY (ah C) N m away (.slice 5 53 (sp.map Tm.enc)) i d.kind d.name d.ch d.type.kind d.type.num d.type.name (d.type.bK.map Lv.enc) d.type.args d.value.kind d.value.num d.value.name (d.value.bK.map Lv.enc) d.value.args d.arity d.aY σ)
 |0,i,_,hm=>by omega
 |m+1,i,hi,hm=>by
  rw[show oY (ah C) N (m+1)=results1 (ah C) (oY (ah C) N m)from rfl]
  unfold results1 UR cz bo bb ak aq aE aF bJ cB ae bp
  simp only[BH,Option.bind_some,List.length_map]
  by_cases aG:i<sp.length
  ·have ih:=yn hb (away:=away) m (i+1) (by omega) (by omega)
   have e1:∀(K:List Cell→az→Option aQ) KP,aA (ah C) 250 [(sp[i].val,false),(.str d.name,false)] σ 1 K KP=K [(.bool (lV (Eu d.name) sp[i] 0),false)] σ:=fun K KP=>ab (sK σ sp[i] 0)
   simp only[eD aG,cond_true,d0,Bool.and_self,bz,Option.bind_some,dB aG,bf,e1,List.getD_cons_zero,iD,aw (show i<2^61 by omega)]
   simp only[gf,gI,fT,Option.bind_some]
   repeat (first|exact ih|exact Fa.no _|apply Fa.bif)
  ·rw[cQ aG,cond_false]
   exact Fa.no _
theorem yo {sp:List Tm} (hb:sp.length<2^60) {away:Int} {h:Tm} (hl:h.bK.length=d.aT.length) (hp:d.aT.length<2^60) (hN:sp.length<N):∀(m i:Nat),i≤h.bK.length→h.bK.length - i<m→
  Fa σ (rS (ah C) N m away (.slice 5 53 (sp.map Tm.enc)) i d.kind d.name d.ch d.type.kind d.type.num d.type.name (d.type.bK.map Lv.enc) d.type.args d.value.kind d.value.num d.value.name (d.value.bK.map Lv.enc) d.value.args d.arity d.aY (.int .i64 h.kind) (.int .i64 h.num) (.str h.name) (.slice 3 120 (h.bK.map Lv.enc)) (.slice 5 53 h.args) σ)
 |0,i,_,hm=>by omega
 |m+1,i,hi,hm=>by
  rw[show rS (ah C) N (m+1)=results0 (ah C) (oY (ah C) N N) (rS (ah C) N m)from rfl]
  unfold results0 cz bo bb ak aq dG bp
  simp only[asL,Option.bind_some,List.length_map]
  by_cases aG:i<h.bK.length
  ·have ih:=yo hb hl hp hN (away:=away) m (i+1) (by omega) (by omega)
   have rB:i<d.aT.length:=by omega
   have yM:d.ch.length=d.aT.length:=by simp[Dc.ch]
   have hpg:d.ch.getD (Int.toNat (i:Int)) []=[.str d.aT[i]]:=by rw[Int.toNat_natCast];simp[Dc.ch,rB]
   have hle:(h.bK[i]).enc=[.int .i64 (h.bK[i]).kind,.str (h.bK[i]).name,.slice 3 120 (h.bK[i]).args]:=(h.bK[i]).aX
   simp only[eD aG,yM,eD rB,cond_true,d0,Bool.and_self,bz,Option.bind_some,jk aG,hpg,List.getD_cons_zero,asS,aw (show i<2^61 by omega),hle,List.getD_cons_succ,fT]
   repeat (first|exact ih|exact Fa.no _|apply Fa.bif)
  ·rw[cQ aG,cond_false]
   exact yn hb N 0 (Nat.zero_le _) (by omega)
theorem EG (t:Tm) (ht:t.spine.length<2^32) (hp:d.aT.length<2^32) (m away:Int):Fa σ (ah C 216 [(t.val,false),(d.val,false),(.int .i64 m,false),(.int .i64 away,false)] σ):=by
 suffices hs:Fa σ (result (ah C) (2^33) t.kind t.num t.name (t.bK.map Lv.enc) t.args d.kind d.name d.ch d.type.kind d.type.num d.type.name (d.type.bK.map Lv.enc) d.type.args d.value.kind d.value.num d.value.name (d.value.bK.map Lv.enc) d.value.args d.arity d.aY m away σ) by
  obtain⟨x,hx⟩:=hs
  refine⟨x,?_⟩
  have:=NI (b0:=false) (b1:=false) (b2:=false) (b3:=false) hx
  unfold aC dZ at this
  rw[cK,lY]at this
  exact this
 have e1:∀(K:List Cell→az→Option aQ) KP,aA (ah C) 219 [(t.val,false)] σ 2 K KP=K [(t.head.val,false),(.slice 5 53 (t.spine.map Tm.enc),false)] σ:=fun K KP=>aW (ik t ht σ)
 have yM:d.ch.length=d.aT.length:=by simp[Dc.ch]
 simp only[result,aE,aM,aC,bQ,ae,bb,aq,dG,cz,aH,cR,cK,e1,List.getD_cons_zero,List.getD_cons_succ,aL,bz,cond_true,Option.bind_some,cV,dJ,dK,dw,dh,fT,asS,BH,asL,List.length_map,yM]
 refine Fa.bif (Fa.no _) (Fa.bif (Fa.no _) (Fa.bif (Fa.no _) ?_))
 by_cases hl:t.head.bK.length=d.aT.length
 ·rw[hl,bne_self_eq_false,cond_false]
  exact yo (h:=t.head) (by omega) hl (by omega) (by omega) _ 0 (Nat.zero_le _) (by omega)
 ·rw[show(((t.head.bK.length:Nat):Int) != ((d.aT.length:Nat):Int))=true by rw[bne_iff_ne];omega,cond_true]
  exact Fa.no _
end
def eX (E:List bO) (σ:az) (b:Nat) (P:Prop) (r:Option aQ):Prop:=
 ∃(k:Int) (w':Bool) (τ:az),r=some (.ret [(.int .i64 k,false)],σ.set b (aD E w')++τ)∧(k=0→w'=false∧P)
theorem eX.bad {E:List bO} {σ τ:az} {b:Nat} {w':Bool} {P:Prop} {k:Int} (hk:k≠0):eX E σ b P (some (.ret [(.int .i64 k,false)],σ.set b (aD E w')++τ)):=⟨k,w',τ,rfl,fun h=>absurd h hk⟩
theorem eX.abr {E:List bO} {σ:az} {b:Nat} {w:Bool} {P:Prop} {k:Int} (hb:σ[b]?=some (aD E w)) (hk:k≠0):eX E σ b P (some (.ret [(.int .i64 k,false)],σ)):=⟨k,w,[],by rw[dD hb,List.append_nil],fun h=>absurd h hk⟩
theorem eX.yp {E:List bO} {σ:az} {b:Nat} {P:Prop} (hb:σ[b]?=some (aD E false)) (hP:P):eX E σ b P (some (.ret [(.int .i64 0,false)],σ)):=⟨0,false,[],by rw[dD hb,List.append_nil],fun _=>⟨rfl,hP⟩⟩
theorem eX.bif {E:List bO} {σ:az} {b:Nat} {P:Prop} {c:Bool} {x y:Option aQ} (ha:eX E σ b P x) (hb:eX E σ b P y):eX E σ b P (bif c then x else y):=by cases c<;>assumption
theorem eX.after {E:List bO} {σ τ1:az} {b:Nat} {w1:Bool} {P:Prop} {r:Option aQ} (hb:b<σ.length) (h:eX E (σ.set b (aD E w1)++τ1) b P r):eX E σ b P r:=by
 obtain⟨k,w',τ,h1,h2⟩:=h
 exact⟨k,w',τ1++τ,by rw[h1,eF hb],h2⟩
section
variable {E:List bO} {b fu:Nat} {σ:az} {N:Nat} {d:Dc} {ctx:List Tm} {a:Tm} {l:Lv} {m:Int}
theorem LY (hE:dj E) (hf:fu<2^50) (hb:σ[b]?=some (aD E false)) (iE:d.aT.length<2^32) (hn:ctx.length<2^40) (hC:ru E ctx) (hA:nJ ctx.length a) (hl:l.size<2^31) {n:Nat} (pR:n<2^40):
  ∀(mm i:Nat) (t:Tm),i≤n→n - i<mm→n - i≤cP t→t.depth<2^32→
   eX E σ b True (lu (ah C) N mm b (ctx.map Tm.enc) m fu (.int .i64 n) i d.kind d.name d.ch d.type.kind d.type.num d.type.name (d.type.bK.map Lv.enc) d.type.args d.value.kind d.value.num d.value.name (d.value.bK.map Lv.enc) d.value.args d.arity d.aY a.kind a.num a.name (a.bK.map Lv.enc) a.args l.kind l.name l.args (.int .i64 t.kind) (.int .i64 t.num) (.str t.name) (.slice 3 120 (t.bK.map Lv.enc)) (.slice 5 53 t.args) σ)
 |0,i,t,_,hm,_,_=>by omega
 |mm+1,i,t,hi,hm,hp,hd=>by
  rw[show lu (ah C) N (mm+1)=rT (ah C) (lu (ah C) N mm)from rfl]
  unfold rT bb cz bo aE aF bJ cB ae aq aP gr bp ft bF dZ aM bU dn de dk aC bQ aH Ro
  simp only[fT,Option.bind_some]
  by_cases aG:i<n
  ·obtain⟨A,B,rfl⟩:∃A B,t=.pi A B:=by cases t<;>simp only[cP]at hp<;>first|omega|exact⟨_,_,rfl⟩
   simp only[Tm.depth]at hd
   have ih:=LY hE hf hb iE hn hC hA hl pR mm (i+1) B (by omega) (by omega) (by simp only[cP]at hp;omega) (by omega)
   have e1:∀(K:List Cell→az→Option aQ) KP,aA (ah C) 250 [(A.val,false),(.str d.name,false)] σ 1 K KP=K [(.bool (lV (Eu d.name) A 0),false)] σ:=fun K KP=>ab (sK σ A 0)
   simp only[eD aG,cond_true,kY,BH,nE,uD,rr,bz,oG,nF,bf,Option.bind_some,e1,List.getD_cons_zero,iD,aw (show i<2^61 by omega)]
   simp only[gf,gI,jz,jA,jC]
   exact eX.bif (eX.abr hb (k:=12) (by decide)) ih
  ·obtain⟨x,hx⟩:=EG (σ:=σ) (d:=d) t (Nat.lt_of_le_of_lt (jD t) hd) iE m (IntKind.wrap .i64 ((ctx.length:Int)+n))
   have e1:∀(K:List Cell→az→Option aQ) KP,aA (ah C) 216 [(t.val,false),(d.val,false),(.int .i64 m,false),(.int .i64 (IntKind.wrap .i64 ((ctx.length:Int)+n)),false)] σ 1 K KP=K [(.bool x,false)] σ:=fun K KP=>ab hx
   obtain⟨y,hy⟩:=nU σ l hl
   have e2:∀(K:List Cell→az→Option aQ) KP,aA (ah C) 173 [(.agg [.int .i64 l.kind,.str l.name,.slice 3 120 l.args],false)] σ 1 K KP=K [(.bool y,false)] σ:=fun K KP=>ab hy
   obtain⟨l2,k,w1,τ1,h1,h2,h3,h4⟩:=kQ hE hf iE hn hb hC (t:=a) (fun _=>hA) false
   have e3:∀(K:List Cell→az→Option aQ) KP,aA (ah C) 170 [(.ptr 49 b 0,false),(.slice 1 9 d.ch,false),(.slice 5 53 (ctx.map Tm.enc),false),(a.val,false),(.int .i64 fu,false)] σ 2 K KP=K [(.agg [.int .i64 l2.kind,.str l2.name,.slice 3 120 l2.args],false),(.int .i64 k,false)] (σ.set b (aD E w1)++τ1):=fun K KP=>aW h1
   obtain⟨z,hz⟩:=pn (σ.set b (aD E w1)++τ1) l2 l (by omega) hl
   have e4:∀(K:List Cell→az→Option aQ) KP,aA (ah C) 74 [(.agg l2.enc,false),(.agg [.int .i64 l.kind,.str l.name,.slice 3 120 l.args],false)] (σ.set b (aD E w1)++τ1) 1 K KP=K [(.bool z,false)] (σ.set b (aD E w1)++τ1):=fun K KP=>by rw[l2.aX];exact ab hz
   simp only[cQ aG,cond_false,cK,lY,List.length_map,e1,e2,e3,List.getD_cons_zero,List.getD_cons_succ,iD,fT,Option.bind_some,gC,bz,cond_true,mw,e4]
   refine eX.bif (eX.abr hb (k:=12) (by decide)) (eX.bif (eX.yp hb trivial) ?_)
   by_cases hk:k=0
   case neg=>
    rw[show(k != (0:Int))=true by rw[bne_iff_ne];exact hk,cond_true]
    exact eX.bad hk
   subst hk
   rw[bne_self_eq_false,cond_false]
   exact eX.bif (eX.bad (k:=13) (by decide)) ⟨0,w1,τ1,rfl,fun _=>⟨(h4 rfl).1,trivial⟩⟩
theorem Jw (hE:dj E) (hf:fu<2^50) (hb:σ[b]?=some (aD E false)) (iE:d.aT.length<2^32) (hn:ctx.length<2^40) (hC:ru E ctx) (hA:nJ ctx.length a) (hl:l.size<2^31):
  eX E σ b True (ah C 217 [(.ptr 49 b 0,false),(d.val,false),(a.val,false),(.slice 5 53 (ctx.map Tm.enc),false),(.int .i64 m,false),(.agg [.int .i64 l.kind,.str l.name,.slice 3 120 l.args],false),(.int .i64 fu,false)] σ):=by
 have hd:=hA.jd.depth
 have hnp:=eW a
 suffices hs:eX E σ b True (tR (ah C) (2^33) b d.kind d.name d.ch d.type.kind d.type.num d.type.name (d.type.bK.map Lv.enc) d.type.args d.value.kind d.value.num d.value.name (d.value.bK.map Lv.enc) d.value.args d.arity d.aY a.kind a.num a.name (a.bK.map Lv.enc) a.args (ctx.map Tm.enc) m l.kind l.name l.args fu σ) by
  obtain⟨k,w',τ,h1,h2⟩:=hs
  refine⟨k,w',τ,?_,h2⟩
  have:=Fq (b0:=false) (b1:=false) (b2:=false) (b3:=false) (b4:=false) (b5:=false) (b6:=false) h1
  unfold dZ aC bU at this
  rw[cK,lY]at this
  exact this
 have e1:∀(K:List Cell→az→Option aQ) KP,aA (ah C) 250 [(a.val,false),(.str d.name,false)] σ 1 K KP=K [(.bool (lV (Eu d.name) a 0),false)] σ:=fun K KP=>ab (sK σ a 0)
 have e0:∀(K:List Cell→az→Option aQ) KP,aA (ah C) 171 [(a.val,false)] σ 1 K KP=K [(.int .i64 (cP a:Nat),false)] σ:=fun K KP=>ab (j5 a (by omega) σ)
 obtain⟨y,hy⟩:=nU σ l hl
 have e2:∀(K:List Cell→az→Option aQ) KP,aA (ah C) 173 [(.agg [.int .i64 l.kind,.str l.name,.slice 3 120 l.args],false)] σ 1 K KP=K [(.bool y,false)] σ:=fun K KP=>ab hy
 obtain⟨l2,k,w1,τ1,h1,h2,h3,h4⟩:=kQ hE hf iE hn hb hC (t:=a) (fun _=>hA) false
 have e3:∀(K:List Cell→az→Option aQ) KP,aA (ah C) 170 [(.ptr 49 b 0,false),(.slice 1 9 d.ch,false),(.slice 5 53 (ctx.map Tm.enc),false),(a.val,false),(.int .i64 fu,false)] σ 2 K KP=K [(.agg [.int .i64 l2.kind,.str l2.name,.slice 3 120 l2.args],false),(.int .i64 k,false)] (σ.set b (aD E w1)++τ1):=fun K KP=>aW h1
 obtain⟨z,hz⟩:=pn (σ.set b (aD E w1)++τ1) l2 l (by omega) hl
 have e4:∀(K:List Cell→az→Option aQ) KP,aA (ah C) 74 [(.agg l2.enc,false),(.agg [.int .i64 l.kind,.str l.name,.slice 3 120 l.args],false)] (σ.set b (aD E w1)++τ1) 1 K KP=K [(.bool z,false)] (σ.set b (aD E w1)++τ1):=fun K KP=>by rw[l2.aX];exact ab hz
 simp only[tR,aE,aF,aC,cB,ae,aM,aP,iP,dk,bU,aq,dn,de,bQ,bb,aH,Ro,cK,e0,e1,e2,e3,List.getD_cons_zero,List.getD_cons_succ,iD,fT,Option.bind_some,gC,bz,cond_true,mw,e4]
 refine eX.bif ?_ (eX.bif (eX.yp hb trivial) ?_)
 ·exact LY hE hf hb iE hn hC hA hl (by omega) (2^33) 0 a (Nat.zero_le _) (by omega) (by omega) (by omega)
 ·by_cases hk:k=0
  case neg=>
   rw[show(k != (0:Int))=true by rw[bne_iff_ne];exact hk,cond_true]
   exact eX.bad hk
  subst hk
  rw[bne_self_eq_false,cond_false]
  exact eX.bif (eX.bad (k:=13) (by decide)) ⟨0,w1,τ1,rfl,fun _=>⟨(h4 rfl).1,trivial⟩⟩
end
end Go.Ab.Mk
end
section
namespace Go.Ab.Mk
open Go.Proofs Go.Ab Go.Proofs.Mk
section
variable {E:List bO} {b fu:Nat} {N:Nat} {d:Dc} {l:Lv} {m:Int}
theorem EH (hE:dj E) (hf:fu<2^50) (iE:d.aT.length<2^32) (hl:l.size<2^31) {all:Nat} (ha:all<2^32) {P:Prop} (hP:P):
  ∀(mm:Nat) (ctx:List Tm) (t:Tm) (σ:az),σ[b]?=some (aD E false)→ctx.length≤all→all - ctx.length<mm→cP t=all - ctx.length→ru E ctx→nJ ctx.length t→br (QE E) t ctx.length→
   eX E σ b P (tQ (ah C) N mm b m fu (.int .i64 all) (.slice 5 53 (ctx.map Tm.enc)) (ctx.length:Nat) d.kind d.name d.ch d.type.kind d.type.num d.type.name (d.type.bK.map Lv.enc) d.type.args d.value.kind d.value.num d.value.name (d.value.bK.map Lv.enc) d.value.args d.arity d.aY l.kind l.name l.args (.int .i64 t.kind) (.int .i64 t.num) (.str t.name) (.slice 3 120 (t.bK.map Lv.enc)) (.slice 5 53 t.args) σ)
 |0,ctx,t,σ,_,_,hm,_,_,_,_=>by omega
 |mm+1,ctx,t,σ,hb,hc,hm,hp,hC,hA,eY=>by
  rw[show tQ (ah C) N (mm+1)=Ix (ah C) (tQ (ah C) N mm)from rfl]
  unfold Ix bb cz bo aE Yb dZ bJ aP bU ae aq aF AU gr bp
  have eN:=cO hb
  simp only[fT,Option.bind_some]
  by_cases aG:ctx.length<all
  ·obtain⟨A,B,rfl⟩:∃A B,t=.pi A B:=by cases t<;>simp only[cP]at hp<;>first|omega|exact⟨_,_,rfl⟩
   obtain⟨iA,iB⟩:=hA.pi
   simp only[cP]at hp
   have l1:(ctx++[A]).length=ctx.length+1:=Pf ctx A
   have ih:=fun eM jI=>EH hE hf iE hl ha hP mm (ctx++[A]) B eM jI (by omega) (by omega) (by omega) (hC.add eY.1 iA.parts) (by rw[l1];exact iB) (by rw[l1];exact eY.2)
   rw[l1]at ih
   have e2:∀(σ:az) (K:List Cell→az→Option aQ) KP,aA (ah C) 218 [(.slice 5 53 (ctx.map Tm.enc),false),(A.val,false)] σ 1 K KP=K [(.slice 5 53 ((ctx++[A]).map Tm.enc),true)] σ:=fun σ K KP=>ab (jZ ctx A (by omega) σ)
   obtain⟨k,w1,τ1,h1,h2⟩:=Jw hE hf hb iE (show ctx.length<2^40 by omega) hC iA hl (m:=m)
   have e1:∀(K:List Cell→az→Option aQ) KP,aA (ah C) 217 [(.ptr 49 b 0,false),(d.val,false),(A.val,false),(.slice 5 53 (ctx.map Tm.enc),false),(.int .i64 m,false),(.agg [.int .i64 l.kind,.str l.name,.slice 3 120 l.args],false),(.int .i64 fu,false)] σ 1 K KP=K [(.int .i64 k,false)] (σ.set b (aD E w1)++τ1):=fun K KP=>ab h1
   simp only[eD aG,cond_true,kY,BH,nE,uD,rr,bz,oG,nF,bf,Option.bind_some,lY,e1,e2,List.getD_cons_zero,fT,Bool.and_self,aw (show ctx.length<2^61 by omega)]
   simp only[gf,gI,jz,jA,jC]
   refine eX.bif ?_ (ih σ hb)
   by_cases hk:k=0
   case neg=>
    rw[show(k != (0:Int))=true by rw[bne_iff_ne];exact hk,cond_true]
    exact eX.bad hk
   subst hk
   rw[bne_self_eq_false,cond_false]
   obtain⟨rfl,_⟩:=h2 rfl
   exact eX.after eN (ih _ (cT (aS hb)))
  ·rw[cQ aG,cond_false]
   exact eX.yp hb hP
theorem EI (hE:dj E) (hf:fu<2^50) (iE:d.aT.length<2^32) (hl:l.size<2^31) {c:ByteArray×Tm} (Wx:nJ 0 c.2) (Wq:br (QE E) c.2 0) {P:Prop} (hP:P) (hN:2^33≤N) (xp:d.arity<2^32):
  ∀(mm i:Nat) (t u:Tm) (σ:az),σ[b]?=some (aD E false)→i≤d.arity→d.arity - i<mm→d.arity - i≤cP t→d.arity - i≤cP u→br (QE E) t i→br (QE E) u i→t.parts≤1000000→u.parts≤1000000→
   eX E σ b P (xx (ah C) N mm b m fu (.int .i64 (cP c.2:Nat)) i d.kind d.name d.ch d.type.kind d.type.num d.type.name (d.type.bK.map Lv.enc) d.type.args d.value.kind d.value.num d.value.name (d.value.bK.map Lv.enc) d.value.args d.arity d.aY c.1 c.2.kind c.2.num c.2.name (c.2.bK.map Lv.enc) c.2.args l.kind l.name l.args (.int .i64 t.kind) (.int .i64 t.num) (.str t.name) (.slice 3 120 (t.bK.map Lv.enc)) (.slice 5 53 t.args) (.int .i64 u.kind) (.int .i64 u.num) (.str u.name) (.slice 3 120 (u.bK.map Lv.enc)) (.slice 5 53 u.args) σ)
 |0,i,t,u,σ,_,_,hm,_,_,_,_,_,_=>by omega
 |mm+1,i,t,u,σ,hb,hi,hm,VN,Zx,ot,ou,pt,pu=>by
  rw[show xx (ah C) N (mm+1)=Iy (ah C) (tQ (ah C) N N) (xx (ah C) N mm)from rfl]
  unfold Iy cz bo aE ft bJ aP bb aH aq cB ae gr bp aF aC dZ dk iP
  have eN:=cO hb
  have hcd:=Wx.jd.depth
  have Jp:=Wx.parts
  have hcn:=eW c.2
  by_cases aG:i<d.arity
  ·obtain⟨A,B,rfl⟩:∃A B,t=.pi A B:=by cases t<;>simp only[cP]at VN<;>first|omega|exact⟨_,_,rfl⟩
   obtain⟨A',B',rfl⟩:∃A B,u=.pi A B:=by cases u<;>simp only[cP]at Zx<;>first|omega|exact⟨_,_,rfl⟩
   simp only[cP]at VN Zx
   simp only[Tm.parts]at pt pu
   have hwA:=cU A
   have aeF:=cU A'
   obtain⟨r,k,w1,τ1,h1,h2,h3⟩:=G9 hE (n:=i) (by omega) hb hf (x:=A) (y:=A') (by omega) (by omega) (fun _=>⟨⟨ot.1,by omega⟩,ou.1,by omega⟩)
   have e1:∀(K:List Cell→az→Option aQ) KP,aA (ah C) 215 [(.ptr 49 b 0,false),(A.val,false),(A'.val,false),(.int .i64 fu,false)] σ 2 K KP=K [(.bool r,false),(.int .i64 k,false)] (σ.set b (aD E w1)++τ1):=fun K KP=>aW h1
   simp only[eD aG,cond_true,kY,BH,nE,uD,rr,bz,oG,nF,bf,Option.bind_some,e1,List.getD_cons_zero,List.getD_cons_succ,fT,iD,aw (show i<2^61 by omega)]
   simp only[gf,gI,jz,jA,jC]
   by_cases hk:k=0
   case neg=>
    rw[show(k != (0:Int))=true by rw[bne_iff_ne];exact hk,cond_true]
    exact eX.bad hk
   subst hk
   rw[bne_self_eq_false,cond_false]
   obtain rfl:=h3 rfl
   refine eX.bif (eX.bad (k:=11) (by decide)) ?_
   exact eX.after eN (EI hE hf iE hl Wx Wq hP hN xp mm (i+1) B B' _ (cT (aS hb)) (by omega) (by omega) (by omega) (by omega) ot.2 ou.2 (by omega) (by omega))
  ·have e1:∀(K:List Cell→az→Option aQ) KP,aA (ah C) 172 [(c.2.val,false),(.int .i64 (cP c.2:Nat),false)] σ 1 K KP=K [((eC c.2 (cP c.2)).val,false)] σ:=fun K KP=>ab (B9 c.2 _ (Nat.le_refl _) (by omega) σ)
   have jP:(eC c.2 (cP c.2)).spine.length<2^32:=by
    have h1:Sm c.2.depth c.2:=⟨by have:=cU c.2;omega,Nat.le_refl _⟩
    have:=(wK (cP c.2) c.2 h1).spine.1
    omega
   obtain⟨x,hx⟩:=EG (σ:=σ) (d:=d) (eC c.2 (cP c.2)) jP iE m (cP c.2:Nat)
   have e2:∀(K:List Cell→az→Option aQ) KP,aA (ah C) 216 [((eC c.2 (cP c.2)).val,false),(d.val,false),(.int .i64 m,false),(.int .i64 (cP c.2:Nat),false)] σ 1 K KP=K [(.bool x,false)] σ:=fun K KP=>ab hx
   simp only[cQ aG,cond_false,cK,lY,e1,e2,List.getD_cons_zero,iD,Option.bind_some]
   refine eX.bif (eX.abr hb (k:=11) (by decide)) ?_
   exact EH hE hf iE hl (by omega) hP N [] c.2 σ hb (Nat.zero_le _) (by simp;omega) rfl (uo E) Wx Wq
def ctV (c:ByteArray×Tm):V:=.agg [.str c.1,.int .i64 c.2.kind,.int .i64 c.2.num,.str c.2.name,.slice 3 120 (c.2.bK.map Lv.enc),.slice 5 53 c.2.args]
theorem Wy (hE:dj E) (hf:fu<2^50) (iE:d.aT.length<2^32) (hl:l.size<2^31) {c:ByteArray×Tm} (Wx:nJ 0 c.2) {w:Bool} {σ:az} (hb:σ[b]?=some (aD E w)) (hT:br (QE E) d.type 0) (hTp:d.type.parts≤1000000) (xp:d.arity≤cP d.type):
  eX E σ b (br (QE E) c.2 0∧d.arity≤cP c.2) (ah C 175 [(.ptr 49 b 0,false),(d.val,false),(ctV c,false),(.int .i64 m,false),(.agg [.int .i64 l.kind,.str l.name,.slice 3 120 l.args],false),(.int .i64 fu,false)] σ):=by
 have eN:=cO hb
 have Jp:=Wx.parts
 have hcd:=Wx.jd.depth
 have hnt:=eW d.type
 have hdp:=cJ d.type
 suffices hs:eX E σ b (br (QE E) c.2 0∧d.arity≤cP c.2) (P8 (ah C) (2^33) b d.kind d.name d.ch d.type.kind d.type.num d.type.name (d.type.bK.map Lv.enc) d.type.args d.value.kind d.value.num d.value.name (d.value.bK.map Lv.enc) d.value.args d.arity d.aY c.1 c.2.kind c.2.num c.2.name (c.2.bK.map Lv.enc) c.2.args m l.kind l.name l.args fu σ) by
  obtain⟨k,w',τ,h1,h2⟩:=hs
  refine⟨k,w',τ,?_,h2⟩
  have:=Rn (b0:=false) (b1:=false) (b2:=false) (b3:=false) (b4:=false) (b5:=false) h1
  unfold dZ NA bU at this
  rw[lY]at this
  exact this
 obtain⟨l2,k,w1,τ1,h1,h2,h3,h4⟩:=kQ hE hf iE (ctx:=[]) (by decide) hb (uo E) (t:=c.2) (fun _=>Wx) true
 have e1:∀(K:List Cell→az→Option aQ) KP,aA (ah C) 170 [(.ptr 49 b 0,false),(.slice 1 9 d.ch,false),(.slice 5 53 [],true),(c.2.val,false),(.int .i64 fu,false)] σ 2 K KP=K [(.agg [.int .i64 l2.kind,.str l2.name,.slice 3 120 l2.args],false),(.int .i64 k,false)] (σ.set b (aD E w1)++τ1):=fun K KP=>aW h1
 have e2:∀(K:List Cell→az→Option aQ) KP,aA (ah C) 171 [(c.2.val,false)] (σ.set b (aD E w1)++τ1) 1 K KP=K [(.int .i64 (cP c.2:Nat),false)] (σ.set b (aD E w1)++τ1):=fun K KP=>ab (j5 c.2 (by omega) _)
 simp only[P8,aE,aC,bQ,ae,bb,aH,aq,aM,aP,iP,dk,cK,e1,e2,List.getD_cons_zero,List.getD_cons_succ,gC,bz,cond_true,Option.bind_some,fT]
 by_cases hk:k=0
 case neg=>
  rw[show(k != (0:Int))=true by rw[bne_iff_ne];exact hk,cond_true]
  exact eX.bad hk
 subst hk
 obtain⟨rfl,oc⟩:=h4 rfl
 have oc:br (QE E) c.2 0:=oc
 rw[bne_self_eq_false,cond_false]
 by_cases aG:cP c.2<d.arity
 ·rw[show decide (((cP c.2:Nat):Int)<((d.arity:Nat):Int))=true by simp;omega,cond_true]
  exact eX.bad (by decide)
 ·rw[show decide (((cP c.2:Nat):Int)<((d.arity:Nat):Int))=false by simp;omega,cond_false]
  exact eX.after eN (EI hE hf iE hl Wx oc ⟨oc,by omega⟩ (Nat.le_refl _) (by omega) (2^33) 0 c.2 d.type _ (cT (aS hb)) (Nat.zero_le _) (by omega) (by omega) (by omega) oc hT Jp hTp)
end
end Go.Ab.Mk
end
