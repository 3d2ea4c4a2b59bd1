/- The program's environments, walked: Type. -/
import Derived.Test.YtcjofhikcokhfaaGreatDoorLvM8
import Derived.Test.YtcjofhikcokhfaaGreatDoorLvLj
import Derived.Test.YtcjofhikcokhfaaGreatDoorAbMp
import Derived.ChangeShapes
import Derived.ChangeArms
import Derived.Carry
import Derived.ProofKit
import Derived.Lib.LaidTab
import Derived.Test.YtcjofhikcokhfaaGreatDoorProg
import Derived.Test.YtcjofhikcokhfaaGreatDoorAbMk0
import Derived.WalkKit
import Derived.Laws.Pointers
import Derived.Test.YtcjofhikcokhfaaGreatDoorAbBl
import Derived.Deep.RegionHeld3
import Derived.OwnWalk
set_option linter.unusedSimpArgs false
set_option linter.unusedVariables false
set_option linter.deprecated false
section
namespace Go.Ab.Mk
open Go.Proofs Go.Ab
open Go.Lib (decDigits)
theorem Q1 {s:ByteArray} (hs:s.size≤200000) {st:RS} {σ:az} {r:Nat} (h:σ[r]?=some (st.cells s)) (hp:st.p≤s.size):
  ∃cs:List V,cs.length=15∧ah C 113 [(.ptr 202 r 0,false)] σ=some (.ret [(.agg cs,false)],σ.set r ((dQ s st).2.cells s))∧((dQ s st).2.c=0→V.agg cs=(dQ s st).1.val):=by
 have n8:s.size<2^61:=by omega
 have key:(∃cs:List V,cs.length=15∧PR (ah C) (s.size+10) r σ=some (.ret [(.agg cs,false)],σ.set r ((dQ s st).2.cells s))∧((dQ s st).2.c=0→V.agg cs=(dQ s st).1.val))→∃cs:List V,cs.length=15∧ah C 113 [(.ptr 202 r 0,false)] σ=some (.ret [(.agg cs,false)],σ.set r ((dQ s st).2.cells s))∧((dQ s st).2.c=0→V.agg cs=(dQ s st).1.val):=fun⟨cs,h1,h2,h3⟩=>⟨cs,h1,Q2 (n:=s.size+10) h2,h3⟩
 refine key ?_
 clear key
 have Ka:ByteArray.mk #[40]=ba [40]:=rfl
 have ea:∀t:ByteArray,(t.toList==(ByteArray.mk #[97,120,105,111,109]).toList)=aJ t yY:=fun _=>rfl
 have ed:∀t:ByteArray,(t.toList==(ByteArray.mk #[100,101,102]).toList)=aJ t Q3:=fun _=>rfl
 have ei:∀t:ByteArray,(t.toList==(ByteArray.mk #[105,110,100,117,99,116,105,118,101]).toList)=aJ t tj:=fun _=>rfl
 have g1:=bk hp (ba [40])
 have x1:=dY h n8 hp (ba [40])
 have y1:=aS (y:=(bG s st (ba [40])).cells s) h
 unfold PR aE aF aM dG ae W2 aH aq dZ dQ
 simp only[Ka,bm x1]
 generalize bG s st (ba [40])=s1 at*
 have ht:=fZ y1 n8 g1.le
 have x2:=mB y1 n8 g1.le
 rw[List.set_set]at x2
 have q2:=eg g1.le
 have y2:=aS (y:=(aI s s1).2.cells s) h
 have hf:=iy y1 (aB s s1.p).at_
 rw[List.set_set]at hf
 simp only[bM ht rfl,Cz,Fj,V.di,Option.bind_some,ea,ed,ei]
 unfold Kb
 have hz:oh (aB s s1.p).t=(bif aJ (aB s s1.p).t yY then 1 else bif aJ (aB s s1.p).t Q3 then 2 else bif aJ (aB s s1.p).t tj then 3 else 0):=rfl
 rw[hz]
 -- what stands behind the word
 have go:∀k:Nat,(k=1∨k=2∨k=3)→∃cs:List V,cs.length=15∧aA (ah C) 162 [(.ptr 202 r 0,false)] (σ.set r (s1.cells s)) 1 (fun _ σ9=>aA (ah C) 163 [(.ptr 202 r 0,false)] σ9 1 (fun abN aan=>(bz (V.fits (List.getD abN 0 bZ).1 false 1)).bind fun _=>
   aA (ah C) 160 [(.ptr 202 r 0,false),(.str (ba [40]),false)] aan 0 (fun _ aao=>pM (ah C) (s.size+10) (s.size+10) r (0:Int) (ByteArray.mk #[]) [] (0:Int) (0:Int) (ByteArray.mk #[]) [] [] (0:Int) (0:Int) (ByteArray.mk #[]) [] [] (0:Int) [] (k:Int) (List.getD abN 0 bZ).1 [] (0:Int) (0:Int) (ByteArray.mk #[]) [] [] (0:Int) (0:Int) (ByteArray.mk #[]) [] [] (0:Int) [] aao) (fun p16 aao=>some (.fB p16,aao))) (fun p13 aan=>some (.fB p13,aan))) (fun p10 σ9=>some (.fB p10,σ9))=
    some (.ret [(.agg cs,false)],σ.set r ((CA k s (aI s s1).2).2.cells s))∧((CA k s (aI s s1).2).2.c=0→V.agg cs=(CA k s (aI s s1).2).1.val):=by
  intro k hk
  clear hz ea ed ei ht hf
  generalize aI s s1=n2 at*
  have q3:=dO (s:=s) q2.le
  have x3:=tn y2 n8 q2.le
  rw[List.set_set]at x3
  have y3:=aS (y:=(df s n2.2).2.cells s) h
  unfold CA
  generalize df s n2.2=n3 at*
  have q4:=bk q3.le (ba [40])
  have x4:=dY y3 n8 q3.le (ba [40])
  rw[List.set_set]at x4
  have y4:=aS (y:=(bG s n3.2 (ba [40])).cells s) h
  generalize bG s n3.2 (ba [40])=s4 at*
  simp only[ab x2,ab x3,List.getD_cons_zero,CB,bz,cond_true,Option.bind_some,bm x4]
  have hn:=CC (N:=s.size+10) (t0:=0) (t1:=ByteArray.mk #[]) (t2:=[]) (t3:=0) (t4:=0) (t5:=ByteArray.mk #[]) (t6:=[]) (t7:=[]) (t8:=0) (t9:=0) (t10:=ByteArray.mk #[]) (t11:=[]) (t12:=[]) (t13:=0) (t14:=[]) hs (nm:=n3.1) hk rfl (s.size+10) [] s4 _ y4 q4.le (.inr ⟨by simp;omega,by omega⟩)
  rw[List.set_set]at hn
  exact hn
 cases h1:aJ (aB s s1.p).t yY
 case true=>
  simp only[cond_true,show((1:Nat)==0)=false from rfl,cond_false]
  exact go 1 (.inl rfl)
 cases h2:aJ (aB s s1.p).t Q3
 case true=>
  simp only[cond_true,cond_false,show((2:Nat)==0)=false from rfl]
  exact go 2 (.inr (.inl rfl))
 cases h3:aJ (aB s s1.p).t tj
 case true=>
  simp only[cond_true,cond_false,show((3:Nat)==0)=false from rfl]
  exact go 3 (.inr (.inr rfl))
 simp only[cond_false,beq_self_eq_true,cond_true]
 refine⟨TQ.enc,Dc.pN _,?_,fun _=>rfl⟩
 rw[bm hf,HK]
 rfl
theorem CD {cs:List V} (h:cs.length=15):V.fits (.agg cs) true 15=true:=by simp[V.fits,h]
theorem AK {cs:List V} (h:cs.length=15):[V.cell (.agg cs) 0,V.cell (.agg cs) 1,V.cell (.agg cs) 2,V.cell (.agg cs) 3,V.cell (.agg cs) 4,V.cell (.agg cs) 5,V.cell (.agg cs) 6,V.cell (.agg cs) 7,V.cell (.agg cs) 8,V.cell (.agg cs) 9,V.cell (.agg cs) 10,V.cell (.agg cs) 11,V.cell (.agg cs) 12,V.cell (.agg cs) 13,V.cell (.agg cs) 14]=cs:=by
 match cs,h with
 |[_,_,_,_,_,_,_,_,_,_,_,_,_,_,_],_=>rfl
theorem adk {σ:az} {r:Nat} {s:ByteArray} {p:Nat} {c a:Int} (h:σ[r]?=some (MS s p c a)) (t:TypeId):bu σ (.ptr t r 2) true 2=some (.agg [.int .i64 c,.int .i64 a]):=by
 simp[bu,h,dX,MS]
 rfl
theorem uJ {s:ByteArray} (hs:s.size≤200000) {N r:Nat} {z0 z1:Int}:∀(m:Nat) (ds:List Dc) (st:RS) (σ:az),σ[r]?=some (st.cells s)→st.p≤s.size→st.c=0→ds.length≤st.p→s.size - st.p+1<m→
  ∃(x:List Cell) (o:Bool),kz (ah C) N m r (ds.map Dc.enc) z0 z1 σ=some (.ret [(.slice 15 56 (if (cS m s st).2.c=0 then(ds++(cS m s st).1).map Dc.enc else[]),o),(.agg [.int .i64 (cS m s st).2.c,.int .i64 (if (cS m s st).2.c=0 then 0 else(cS m s st).2.a)],false)],σ.set r x)
 |0,_,_,_,_,_,_,_,hm=>by omega
 |m+1,ds,st,σ,h,hp,hc,hd,hm=>by
  have n8:s.size<2^61:=by omega
  show ∃(x:List Cell) (o:Bool),mQ (ah C) (kz (ah C) N m) r (ds.map Dc.enc) z0 z1 σ=_
  unfold mQ cj bb aE aM dG ae cq Fk bQ iz yZ
  have h1:(st.c==0)=true:=by simpa using hc
  have h2:(st.c != 0)=false:=by simp[hc]
  have ht:=fZ h n8 hp
  have eno:∀t:ByteArray,(t.toList==(ByteArray.mk #[]).toList)=gh t:=fun _=>rfl
  simp only[F8 h,Option.bind_some,V.asInt,if_true,h1,cond_true,bM ht rfl,Cz,Kc,V.asBool,V.di,eno,cS,h2,cond_false]
  have HL:(aB s st.p).ok=true→gh (aB s st.p).t=true→∃(x:List Cell) (o:Bool),some ((End.ret [(V.slice 15 56 (ds.map Dc.enc),false),(V.agg [V.int .i64 0,V.int .i64 0],false)],σ):aQ)=some (.ret [(.slice 15 56 (if st.c=0 then(ds++[]).map Dc.enc else[]),o),(.agg [.int .i64 st.c,.int .i64 (if st.c=0 then 0 else st.a)],false)],σ.set r x):=fun _ _=>⟨st.cells s,false,by rw[kA h,if_pos hc,if_pos hc,hc,List.append_nil]⟩
  have cC:room (List.length (ds.map Dc.enc)+1)=true:=cF (by simp;omega)
  obtain⟨cs,Kd,x1,uy⟩:=Q1 hs h hp
  have q1:=CE (s:=s) hp
  have y1:=aS (y:=(dQ s st).2.cells s) h
  have round:(∃(x:List Cell) (o:Bool),kz (ah C) N m r (ds.map Dc.enc++[cs]) z0 z1 (σ.set r ((dQ s st).2.cells s))=some (.ret [(.slice 15 56 (if (cS m s (dQ s st).2).2.c=0 then(ds++((dQ s st).1::(cS m s (dQ s st).2).1)).map Dc.enc else[]),o),(.agg [.int .i64 (cS m s (dQ s st).2).2.c,.int .i64 (if (cS m s (dQ s st).2).2.c=0 then 0 else(cS m s (dQ s st).2).2.a)],false)],σ.set r x)):=by
   by_cases hz:(dQ s st).2.c=0
   ·have hcs:cs=(dQ s st).1.enc:=by
     have:=uy hz
     unfold Dc.val at this
     injection this
    have em:ds.map Dc.enc++[cs]=(ds++[(dQ s st).1]).map Dc.enc:=by simp[hcs]
    rw[em]
    have aG:=(q1.ok hz).2
    have hle:=q1.le
    obtain⟨x,o,ih⟩:=uJ hs (N:=N) (z0:=z0) (z1:=z1) m (ds++[(dQ s st).1]) (dQ s st).2 _ y1 q1.le hz (by simp;omega) (by omega)
    rw[List.append_assoc,List.set_set]at ih
    exact⟨x,o,ih⟩
   ·have BQ:cS m s (dQ s st).2=([],(dQ s st).2):=by
     cases m with
     |zero=>rfl
     |succ m=>
      have h2:((dQ s st).2.c != 0)=true:=by simpa using hz
      rw[cS,h2];rfl
    rw[BQ]
    obtain⟨m',rfl⟩:∃m',m=m'+1:=⟨m - 1,by omega⟩
    refine⟨(dQ s st).2.cells s,true,?_⟩
    show mQ (ah C) (kz (ah C) N m') r _ z0 z1 _=_
    unfold mQ cj bb aE aM dG ae cq Fk bQ iz yZ
    have TR:((dQ s st).2.c==0)=false:=by simpa using hz
    have f2:∀x y:Int,V.fits (.agg [.int .i64 x,.int .i64 y]) true 2=true:=fun _ _=>rfl
    simp only[F8 y1,Option.bind_some,V.asInt,if_true,TR,cond_false,adk y1,f2,bz,cond_true]
    rw[if_neg hz,if_neg hz]
    rfl
  cases eY:(aB s st.p).ok
  case false=>
   simp only[cond_false,ab x1,List.getD_cons_zero,CD Kd,AK Kd,bz,cond_true,Option.bind_some,cC,Bool.false_and]
   exact round
  cases wQ:gh (aB s st.p).t
  case false=>
   simp only[cond_true,cond_false,ab x1,List.getD_cons_zero,CD Kd,AK Kd,bz,Option.bind_some,cC,Bool.and_false]
   exact round
  simp only[cond_true,Bool.and_self]
  exact HL eY wQ
theorem Fl (s:ByteArray) (hs:s.size<2^61) (σ:az):∃(τ:az) (o:Bool),ah C 42 [(.str s,false)] σ=some (.ret [(.slice 15 56 ((dx s).1.map Dc.enc),o),(.agg [.int .i64 (dx s).2.1,.int .i64 (dx s).2.2],false)],σ++τ):=by
 by_cases hb:(s.size:Int)>200000
 ·have hv:dx s=([],2,0):=by unfold dx;rw[decide_eq_true hb];rfl
  rw[hv]
  refine⟨[],true,uK (n:=0) ?_⟩
  unfold y7 Fk aE aM bQ aH cq ae yZ
  rw[decide_eq_true hb,List.append_nil]
  rfl
 ·have jI:s.size≤200000:=by omega
  obtain⟨x,o,hl⟩:=uJ jI (N:=s.size+2) (r:=σ.length) (z0:=0) (z1:=0) (s.size+2) [] ⟨0,0,0⟩ (σ++[RS.cells s ⟨0,0,0⟩]) (by simp) (Nat.zero_le _) rfl (Nat.zero_le _) (by simp)
  have aap:(σ++[RS.cells s ⟨0,0,0⟩]).set σ.length x=σ++[x]:=by rw[List.set_append_right _ _ (Nat.le_refl _)];simp
  rw[aap]at hl
  have ha:ah C 71 [(.str s,false)] σ=_:=HR (n:=s.size+2) hl
  have hv:dx s=(bif (cS (s.size+2) s ⟨0,0,0⟩).2.c != 0 then([],(cS (s.size+2) s ⟨0,0,0⟩).2.c,(cS (s.size+2) s ⟨0,0,0⟩).2.a)else((cS (s.size+2) s ⟨0,0,0⟩).1,0,0)):=by unfold dx;rw[decide_eq_false hb];rfl
  refine⟨[x],false,uK (n:=0) ?_⟩
  have f2:∀x y:Int,V.fits (.agg [.int .i64 x,.int .i64 y]) true 2=true:=fun _ _=>rfl
  have hg:∀{c:Cell} {cs:List Cell},(c::cs).getD 0 bZ=c:=fun {_ _}=>rfl
  have By:∀{c d:Cell} {cs:List Cell},(c::d::cs).getD 1 bZ=d:=fun {_ _ _}=>rfl
  unfold y7 Fk aE aM bQ aH cq ae yZ
  rw[decide_eq_false hb,cond_false,aW ha]
  simp only[hg,By,f2,bz,cond_true,Option.bind_some,List.nil_append]
  rw[hv]
  by_cases hc:(cS (s.size+2) s ⟨0,0,0⟩).2.c=0
  ·have h1:((cS (s.size+2) s ⟨0,0,0⟩).2.c != 0)=false:=by simp[hc]
   rw[h1,if_pos hc,if_pos hc,hc]
   rfl
  ·have h1:((cS (s.size+2) s ⟨0,0,0⟩).2.c != 0)=true:=by simpa using hc
   rw[h1,if_neg hc,if_neg hc]
   rfl
theorem uL {cs:List (ByteArray×Tm)} (hcs:∀c∈cs,qM c.2) (hn:cs.length<2^40) {N:Nat} {a0:Int} {a1:ByteArray} {a2:List (List V)} {a3 a4:Int} {a5:ByteArray} {a6 a7:List (List V)} {a8 a9:Int} {a10:ByteArray} {a11 a12:List (List V)} {a13:Int} {σ:az}:
  ∀(m i:Nat) (b:Bool),i≤cs.length→cs.length - i<m→∃b':Bool,mR (ah C) N m (.bool b) i a0 a1 a2 a3 a4 a5 a6 a7 a8 a9 a10 a11 a12 a13 (cs.map fun c:ByteArray×Tm=>V.str c.1::c.2.enc) σ=some (.ret [(.bool b',false)],σ)
 |0,i,b,hi,hm=>by omega
 |m+1,i,b,hi,hm=>by
  show ∃b':Bool,vE (ah C) (mR (ah C) N m) _ _ _ _ _ _ _ _ _ _ _ _ _ _ _ _ _ σ=_
  unfold vE cB bo aE aM xh ae bp aq
  rw[List.length_map]
  by_cases aG:i<cs.length
  ·rw[eD aG,cond_true]
   cases b
   ·exact⟨false,rfl⟩
   ·have hf:=hcs cs[i] (List.getElem_mem aG)
    have hw:=hf.wide
    obtain⟨b2,h2⟩:=kU σ cs[i].2 (by omega)
    obtain⟨b3,h3⟩:=uL hcs hn (N:=N) (a0:=a0) (a1:=a1) (a2:=a2) (a3:=a3) (a4:=a4) (a5:=a5) (a6:=a6) (a7:=a7) (a8:=a8) (a9:=a9) (a10:=a10) (a11:=a11) (a12:=a12) (a13:=a13) (σ:=σ) m (i+1) b2 (by omega) (by omega)
    refine⟨b3,?_⟩
    rw[CF aG,F9,d0]
    simp only[V.asBool,Option.bind_some,cond_true,Bool.and_self,bz,ab h2,List.getD_cons_zero,aw (show i<2^61 by omega)]
    exact h3
  ·rw[cQ aG];exact⟨b,rfl⟩
theorem tp:∀cs:List (ByteArray×Tm),11*cs.length≤(ia cs).length
 |[]=>Nat.zero_le _
 |c::cs=>by
  have ih:=tp cs
  have hp:2≤(cX c.2).length:=by
   by_cases h:c.2.kind=0
   ·obtain⟨m,hm⟩:∃m,c.2=.var m:=by cases hc:c.2<;>rw[hc]at h<;>simp[Tm.kind]at h;exact⟨_,rfl⟩
    rw[hm,cX,List.length_cons,Go.Lib.decDigits_length]
    have:=Go.Lib.decDigits_length m
    have h0:0<(Go.Lib.decDigits m).length:=by
     rw[Go.Lib.decDigits];split<;>simp
    omega
   ·rw[CG c.2 h]
    simp only[List.length_append,List.length_cons]
    have h1:(Ke (c.2.kids.map cX)).length≥1:=by
     cases c.2.kids<;>simp[Ke]
    omega
  simp only[ia,List.flatMap_cons,List.length_append,List.length_cons,Kf]at ih ⊢
  simp only[show jQ.length=4 from rfl,List.length_nil]
  omega
theorem Kg (xs:List ByteArray):xs.length≤(xi xs).length+1:=by
 cases xs with
 |nil=>simp
 |cons x xs=>
  simp only[xi,List.length_append,List.length_cons]
  have:xs.length≤(xs.flatMap fun y:ByteArray=>32::y.data.toList).length:=by
   induction xs with
   |nil=>simp
   |cons y ys ih=>simp only[List.flatMap_cons,List.length_append,List.length_cons];omega
  omega
theorem y9 {d:Dc} (hb:(Kh d).length<2^32):d.ctors.length<2^40∧d.aT.length<2^40:=by
 have hp:Kh d=40::(kwL d.kind++32::(d.name.data.toList++32::40::(xi d.aT++41::(arL d++32::(cX d.type++(MT d++(ia d.ctors++[41]))))))):=rfl
 have h1:=tp d.ctors
 have h2:=Kg d.aT
 rw[hp]at hb
 simp only[List.length_cons,List.length_append]at hb
 exact⟨by omega,by omega⟩
theorem HT {d:Dc} (ok:S7 d) (hb:(Kh d).length<2^32) (σ:az):∃b:Bool,ah C 44 [(d.val,false)] σ=some (.ret [(.bool b,false)],σ):=by
 have e:d.val=_:=HU d.kind d.name d.aT d.type d.value d.arity d.ctors
 have w1:=ok.type.wide
 have w2:=ok.value.wide
 obtain⟨b1,h1⟩:=kU σ d.type (by omega)
 obtain⟨b2,h2⟩:=kU σ d.value (by omega)
 have lp:=fun b=>uL (fun c hc=>(ok.ctors c hc).2) (y9 hb).1 (N:=d.ctors.length+1) (a0:=d.kind) (a1:=d.name) (a2:=strs d.aT) (a3:=d.type.kind) (a4:=d.type.num) (a5:=d.type.name) (a6:=d.type.bK.map Lv.enc) (a7:=d.type.args) (a8:=d.value.kind) (a9:=d.value.num) (a10:=d.value.name) (a11:=d.value.bK.map Lv.enc) (a12:=d.value.args) (a13:=d.arity) (σ:=σ) (d.ctors.length+1) 0 b (Nat.zero_le _) (by omega)
 have hkv:V.agg [(V.int .i64 d.type.kind),(V.int .i64 d.type.num),(V.str d.type.name),(V.slice 3 120 (d.type.bK.map Lv.enc)),(V.slice 5 53 d.type.args)]=d.type.val:=rfl
 have XC:V.agg [(V.int .i64 d.value.kind),(V.int .i64 d.value.num),(V.str d.value.name),(V.slice 3 120 (d.value.bK.map Lv.enc)),(V.slice 5 53 d.value.args)]=d.value.val:=rfl
 rw[e]
 cases b1
 ·obtain⟨b,hb⟩:=lp false
  refine⟨b,xj (n:=d.ctors.length+1) ?_⟩
  simp only[xk,aE,aM,aC,cB,ae,hkv,XC,ab h1,ab h2,List.getD_cons_zero,V.asBool,Option.bind_some,cond_false]
  exact hb
 ·obtain⟨b,hb⟩:=lp b2
  refine⟨b,xj (n:=d.ctors.length+1) ?_⟩
  simp only[xk,aE,aM,aC,cB,ae,hkv,XC,ab h1,ab h2,List.getD_cons_zero,V.asBool,Option.bind_some,cond_true]
  exact hb
theorem XD {ds:List Dc} {d:Dc} (h:d∈ds):(Kh d).length≤(Ki ds).length:=by
 induction ds with
 |nil=>simp at h
 |cons x xs ih=>
  simp only[Ki,List.flatMap_cons,List.length_append]at ih ⊢
  rcases List.mem_cons.1 h with rfl|h
  ·omega
  ·have:=ih h;omega
theorem rI {d:Dc} (ok:S7 d) (hn:d.ctors.length<2^40) {N:Nat} {σ:az}:∀(m i:Nat),i≤d.ctors.length→d.ctors.length - i<m→
  kB (ah C) N m i d.kind d.name (strs d.aT) d.type.kind d.type.num d.type.name (d.type.bK.map Lv.enc) d.type.args d.value.kind d.value.num d.value.name (d.value.bK.map Lv.enc) d.value.args d.arity (d.ctors.map fun c=>.str c.1::c.2.enc)
   d.kind d.name (strs d.aT) d.type.kind d.type.num d.type.name (d.type.bK.map Lv.enc) d.type.args d.value.kind d.value.num d.value.name (d.value.bK.map Lv.enc) d.value.args d.arity (d.ctors.map fun c=>.str c.1::c.2.enc) σ=some (.ret [(.bool true,false)],σ)
 |0,i,hi,hm=>by omega
 |m+1,i,hi,hm=>by
  rw[show kB (ah C) N (m+1)=vF (ah C) (kB (ah C) N m)from rfl]
  unfold vF bo aE aF xh cB ae aq dG ak bp aC
  rw[List.length_map]
  have w1:=ok.type.wide
  have w2:=ok.value.wide
  by_cases aG:i<d.ctors.length
  ·have hf:=(ok.ctors d.ctors[i] (List.getElem_mem aG)).2
   have w3:=hf.wide
   have h1:=l0 σ d.ctors[i].2 (by omega)
   have ih:=rI ok hn (N:=N) (σ:=σ) m (i+1) (by omega) (by omega)
   rw[eD aG,cond_true,CF aG,F9,d0]
   simp only[Bool.and_self,bz,cond_true,Option.bind_some,ab h1,List.getD_cons_zero,V.asBool,Bool.not_true,cond_false,V.di,beq_self_eq_true,aw (show i<2^61 by omega)]
   exact ih
  ·have h1:=l0 σ d.type (by omega)
   have h2:=l0 σ d.value (by omega)
   rw[cQ aG,cond_false]
   have hkv:V.agg [(V.int .i64 d.type.kind),(V.int .i64 d.type.num),(V.str d.type.name),(V.slice 3 120 (d.type.bK.map Lv.enc)),(V.slice 5 53 d.type.args)]=d.type.val:=rfl
   have XC:V.agg [(V.int .i64 d.value.kind),(V.int .i64 d.value.num),(V.str d.value.name),(V.slice 3 120 (d.value.bK.map Lv.enc)),(V.slice 5 53 d.value.args)]=d.value.val:=rfl
   rw[hkv,XC]
   simp only[ab h1,ab h2,List.getD_cons_zero,V.asBool,Option.bind_some,cond_true]
theorem rJ {d:Dc} (ok:S7 d) (hn:d.ctors.length<2^40) (hpn:d.aT.length<2^40) {N:Nat} (hN:d.ctors.length<N) {σ:az}:∀(m i:Nat),i≤d.aT.length→d.aT.length - i<m→
  mS (ah C) N m i d.kind d.name (strs d.aT) d.type.kind d.type.num d.type.name (d.type.bK.map Lv.enc) d.type.args d.value.kind d.value.num d.value.name (d.value.bK.map Lv.enc) d.value.args d.arity (d.ctors.map fun c=>.str c.1::c.2.enc)
   d.kind d.name (strs d.aT) d.type.kind d.type.num d.type.name (d.type.bK.map Lv.enc) d.type.args d.value.kind d.value.num d.value.name (d.value.bK.map Lv.enc) d.value.args d.arity (d.ctors.map fun c=>.str c.1::c.2.enc) σ=some (.ret [(.bool true,false)],σ)
 |0,i,hi,hm=>by omega
 |m+1,i,hi,hm=>by
  rw[show mS (ah C) N (m+1)=vG (ah C) (kB (ah C) N N) (mS (ah C) N m)from rfl]
  unfold vG bo dG ak aq bp
  by_cases aG:i<d.aT.length
  ·have ih:=rJ ok hn hpn hN (σ:=σ) m (i+1) (by omega) (by omega)
   have hg:(strs d.aT).getD (Int.toNat (i:Int)) []=[V.str d.aT[i]]:=by rw[Int.toNat_natCast];exact ib aG
   rw[cw,eD aG,cond_true,hg,d0]
   simp only[Bool.and_self,bz,cond_true,Option.bind_some,List.getD_cons_zero,V.di,beq_self_eq_true,Bool.not_true,cond_false,aw (show i<2^61 by omega)]
   exact ih
  ·rw[cw,cQ aG,cond_false]
   exact rI ok hn N 0 (Nat.zero_le _) (by omega)
theorem HV {d:Dc} (ok:S7 d) (hb:(Kh d).length<2^32) (σ:az):ah C 21 [(d.val,false),(d.val,false)] σ=some (.ret [(.bool true,false)],σ):=by
 have e:d.val=_:=HU d.kind d.name d.aT d.type d.value d.arity d.ctors
 have h:=rJ ok (y9 hb).1 (y9 hb).2 (N:=d.ctors.length+d.aT.length+1) (by omega) (σ:=σ) (d.ctors.length+d.aT.length+1) 0 (Nat.zero_le _) (by omega)
 rw[e]
 refine HW (n:=d.ctors.length+d.aT.length+1) ?_
 simp only[CH,aq,bne_self_eq_false,beq_self_eq_true,Bool.not_true,cond_false]
 exact h
end Go.Ab.Mk
end
section
namespace Go.Ab.Mk
open Go.Proofs Go.Ab Go.Proofs.Mk
theorem gJ:∀(t:Tm) (n:Nat),t.top<n→br (fun _ _=>True) t n
 |.var m,n,h=>h
 |.sort _,_,_=>trivial
 |.const _ _,_,_=>trivial
 |.app a b,n,h=>by simp only[Tm.top]at h;exact⟨gJ a n (by omega),gJ b n (by omega)⟩
 |.lam a b,n,h=>by simp only[Tm.top]at h;exact⟨gJ a n (by omega),gJ b (n+1) (by omega)⟩
 |.pi a b,n,h=>by simp only[Tm.top]at h;exact⟨gJ a n (by omega),gJ b (n+1) (by omega)⟩
 |.bE a b c,n,h=>by simp only[Tm.top]at h;exact⟨gJ a n (by omega),gJ b n (by omega),gJ c (n+1) (by omega)⟩
theorem CI:∀ls:List Lv,gU ls≤kn ls
 |[]=>Nat.zero_le _
 |l::ls=>by have:=CI ls;simp only[gU,kn,List.map_cons,List.sum_cons,Lv.dM]at*;omega
theorem fN:∀t:Tm,t.parts≤t.dM
 |.var _=>Nat.le_refl _
 |.sort l=>by simp only[Tm.parts,Tm.dM,Lv.dM];omega
 |.const s ls=>by have:=CI ls;simp only[Tm.parts,Tm.dM];omega
 |.app a b=>by have:=fN a;have:=fN b;simp only[Tm.parts,Tm.dM];omega
 |.lam a b=>by have:=fN a;have:=fN b;simp only[Tm.parts,Tm.dM];omega
 |.pi a b=>by have:=fN a;have:=fN b;simp only[Tm.parts,Tm.dM];omega
 |.bE a b c=>by have:=fN a;have:=fN b;have:=fN c;simp only[Tm.parts,Tm.dM];omega
theorem qM.inA {t:Tm} (h:qM t):nJ 0 t:=by
 have h1:=h.ok.top
 have h2:=fN t
 have h3:=h.dM
 have h4:=TS t
 exact⟨gJ t _ (by omega),by omega,by omega⟩
theorem AL:∀cs:List (ByteArray×Tm),(∀c∈cs,ew c.1)→12*cs.length≤(ia cs).length
 |[],_=>Nat.zero_le _
 |c::cs,h=>by
  have ih:=AL cs fun x hx=>h x (List.mem_cons_of_mem _ hx)
  have h1:=tp [c]
  have hn:=(h c (List.mem_cons_self ..)).pos
  have e:(c.1.data.toList).length=c.1.size:=rfl
  have hp:2≤(cX c.2).length:=by
   simp only[ia,List.flatMap_cons,List.flatMap_nil,List.length_append,List.length_cons,Kf,List.length_nil,show jQ.length=4 from rfl]at h1
   by_cases hk:c.2.kind=0
   ·obtain⟨m,hm⟩:∃m,c.2=.var m:=by cases hc:c.2<;>rw[hc]at hk<;>simp[Tm.kind]at hk;exact⟨_,rfl⟩
    rw[hm,cX,List.length_cons]
    have h0:0<(Go.Lib.decDigits m).length:=by
     rw[Go.Lib.decDigits];split<;>simp
    omega
   ·rw[CG c.2 hk]
    simp only[List.length_append,List.length_cons]
    have h1:(Ke (c.2.kids.map cX)).length≥1:=by
     cases c.2.kids<;>simp[Ke]
    omega
  simp only[ia,List.flatMap_cons,List.length_append,List.length_cons,Kf]at ih ⊢
  simp only[show jQ.length=4 from rfl,List.length_nil]
  omega
theorem S7.dcA {d:Dc} (ok:S7 d) (hb:(Kh d).length≤12200000):TT d:=by
 have hp:Kh d=40::(kwL d.kind++32::(d.name.data.toList++32::40::(xi d.aT++41::(arL d++32::(cX d.type++(MT d++(ia d.ctors++[41]))))))):=rfl
 have h1:=AL d.ctors fun c hc=>(ok.ctors c hc).1
 have h2:=Kg d.aT
 rw[hp]at hb
 simp only[List.length_cons,List.length_append]at hb
 have h3:=ok.arity
 refine⟨?_,ok.name.few,by omega,by omega,by omega,ok.type.inA,ok.value.inA,fun c hc=>(ok.ctors c hc).2.inA⟩
 rcases ok.kind with h|h|h<;>omega
theorem Ga:∀ds:List Dc,(ds.map fun d=>d.ctors.length).sum≤(Ki ds).length
 |[]=>Nat.zero_le _
 |d::ds=>by
  have ih:=Ga ds
  have hp:Kh d=40::(kwL d.kind++32::(d.name.data.toList++32::40::(xi d.aT++41::(arL d++32::(cX d.type++(MT d++(ia d.ctors++[41]))))))):=rfl
  have h1:=tp d.ctors
  have h2:(Kh d).length≥(ia d.ctors).length:=by
   rw[hp];simp only[List.length_cons,List.length_append];omega
  simp only[List.map_cons,List.sum_cons,Ki,List.flatMap_cons,List.length_append]at ih ⊢
  omega
theorem TU (ds:List Dc) (n:Nat):(Ki (ds.take n)).length≤(Ki ds).length:=by
 have:Ki ds=Ki (ds.take n)++Ki (ds.drop n):=by rw[Ki,Ki,Ki,←List.flatMap_append,List.take_append_drop]
 rw[this,List.length_append];omega
theorem Q4 (s:ByteArray) (hs:s.size<2^61) {fu:Nat} (hf:fu<2^50) (σ:az):
  ∃(p:V) (n a1 a2:Int) (τ:az),ah C 26 [(.str s,false),(.int .i64 fu,false)] σ=some (.ret [(p,false),(.int .i64 n,false),(.agg [.int .i64 a1,.int .i64 a2],false)],σ++τ)∧
   (p=.kc∨∃(E:List bO) (w:Bool) (b:Nat),p=.ptr 49 b 0∧σ.length≤b∧(σ++τ)[b]?=some (aD E w)∧dj E∧Grown E∧(∀e∈E,S7 e.d∧(Kh e.d).length≤12200000∧e.rt.wide<2^31)∧(E.map fun e=>e.d.ctors.length).sum≤12200000):=by
 obtain⟨τ,o,h1⟩:=Fl s hs σ
 have e1:∀(K:List Cell→az→Option aQ) KP,aA (ah C) 42 [(.str s,false)] σ 2 K KP=K [(.slice 15 56 ((dx s).1.map Dc.enc),o),(.agg [.int .i64 (dx s).2.1,.int .i64 (dx s).2.2],false)] (σ++τ):=fun K KP=>aW h1
 have hcell:∀x y:V,V.cell (.agg [x,y]) 0=x:=fun _ _=>rfl
 have pO:∀x y:V,V.cell (.agg [x,y]) 1=y:=fun _ _=>rfl
 have HY:∀x y:V,V.fits (.agg [x,y]) true 2=true:=fun _ _=>rfl
 by_cases hc:(dx s).2.1=0
 ·obtain⟨r1,r2,r3,r4⟩:=Kj hc
  have hd:∀d∈(dx s).1,S7 d∧(Kh d).length≤12200000:=fun d hd=>⟨r2 d hd,by have:=XD hd;omega⟩
  obtain⟨n,a1,a2,E,w,τ2,g1,g2,g3,g4⟩:=MU (ds:=(dx s).1) (fun d h=>⟨(hd d h).1.dcA (hd d h).2,fun hk=>((hd d h).1.abO hk).2⟩) (by omega) hf (σ++τ) false
  have TV:∀e∈E,e.d∈(dx s).1:=fun e he=>by
   have:e.d∈E.map (·.d):=List.mem_map.2 ⟨e,he,rfl⟩
   rw[g4.1]at this
   exact List.mem_of_mem_take this
  have adl:(E.map fun e=>e.d.ctors.length).sum≤12200000:=by
   have h1:(E.map fun e=>e.d.ctors.length)=((dx s).1.take E.length).map fun d=>d.ctors.length:=by rw[←g4.1,List.map_map];rfl
   rw[h1]
   have:=Ga ((dx s).1.take E.length)
   have h3:=TU (dx s).1 E.length
   omega
  have e2':∀(K:List Cell→az→Option aQ) KP,aA (ah C) 43 [(.slice 15 56 ((dx s).1.map Dc.enc),false),(.int .i64 fu,false)] (σ++τ) 3 K KP=K [(.ptr 49 (σ++τ).length 0,false),(.int .i64 n,false),(.agg [.int .i64 a1,.int .i64 a2],false)] (σ++τ++(aD E w::τ2)):=fun K KP=>bM g1 rfl
  refine⟨.ptr 49 (σ++τ).length 0,n,a1,a2,τ++(aD E w::τ2),Gb (n:=0) ?_,.inr ⟨E,w,_,rfl,by simp,?_,g2,g3,fun e he=>⟨(hd _ (TV e he)).1,(hd _ (TV e he)).2,g4.2 e he⟩,?_⟩⟩
  ·simp only[TW,aE,aM,bQ,aH,bb,dc,aP,yZ,aF,ae,dS,e1,List.getD_cons_zero,List.getD_cons_succ,HY,hcell,pO,bz,cond_true,Option.bind_some,fT,hc,bne_self_eq_false,cond_false,e2',List.append_assoc]
  ·rw[←List.append_assoc,List.getElem?_append_right (Nat.le_refl _),Nat.sub_self];rfl
  ·exact adl
 ·refine⟨.kc,0,(dx s).2.1,(dx s).2.2,τ,Gb (n:=0) ?_,.inl rfl⟩
  simp only[TW,aE,aM,bQ,aH,bb,dc,aP,yZ,aF,ae,dS,e1,List.getD_cons_zero,List.getD_cons_succ,HY,hcell,pO,bz,cond_true,Option.bind_some,fT,show((dx s).2.1 != (0:Int))=true by rw[bne_iff_ne];exact hc]
end Go.Ab.Mk
end
section
namespace Go.Ab.Mk
open Go.Proofs Go.Ab Go.Proofs.Mk
abbrev PM:=List ByteArray×List (List V)
theorem TX {ks:List ByteArray} {s q:ByteArray} (h:ks.idxOf? s=none):(ks++[s]).idxOf? q=if q=s then some ks.length else ks.idxOf? q:=by
 induction ks with
 |nil=>
  simp only[List.nil_append,List.idxOf?_cons,List.idxOf?_nil,List.length_nil]
  by_cases hq:q=s
  ·subst hq;simp
  ·rw[if_neg hq]
   have:(s==q)=false:=by rw[beq_eq_false_iff_ne];exact fun h=>hq h.symm
   simp[this]
 |cons a ks ih=>
  rw[List.idxOf?_cons]at h
  have ha:(a==s)=false:=by
   cases hh:a==s with
   |false=>rfl
   |true=>rw[hh]at h;simp at h
  rw[ha]at h
  have h':ks.idxOf? s=none:=by simpa using h
  rw[List.cons_append,List.idxOf?_cons,List.idxOf?_cons,ih h']
  by_cases hq:q=s
  ·subst hq
   rw[ha]
   simp
  ·rw[if_neg hq,if_neg hq]
theorem HZ {ks:List ByteArray} {s:ByteArray} {i:Nat} (h:ks.idxOf? s=some i):i<ks.length∧ks[i]?=some s:=by
 obtain⟨aG,hh⟩:=List.findIdx?_eq_some_iff_getElem.1 h
 have h1:ks[i]=s:=by simpa using hh.1
 exact⟨aG,by rw[List.getElem?_eq_getElem aG,h1]⟩
theorem XE {ks:List ByteArray} {s q:ByteArray} {i:Nat} (h:ks.idxOf? s=some i) (k:ks.idxOf? q=some i):s=q:=by
 have h1:=(HZ h).2
 have h2:=(HZ k).2
 rw[h1]at h2
 exact Option.some.inj h2
theorem xl {m:PM} {s:ByteArray} {x:List V} (h:m.2.length=m.1.length):(Mk.iC m s x).2.length=(Mk.iC m s x).1.length:=by
 unfold Mk.iC
 split<;>simp[h]
theorem mT {m:PM} {s q:ByteArray} {x:List V} (h:m.2.length=m.1.length):Mk.nC (Mk.iC m s x) q=if q=s then some x else Mk.nC m q:=by
 unfold Mk.iC
 cases hi:m.1.idxOf? s with
 |none=>
  simp only[Mk.nC,TX hi]
  by_cases hq:q=s
  ·rw[if_pos hq,if_pos hq]
   simp[←h]
  ·rw[if_neg hq,if_neg hq]
   cases hj:m.1.idxOf? q with
   |none=>rfl
   |some j=>
    have:=(HZ hj).1
    simp only[Option.bind_some]
    rw[List.getElem?_append_left (by omega)]
 |some i=>
  simp only[Mk.nC]
  by_cases hq:q=s
  ·subst hq
   rw[if_pos rfl,hi]
   have:=(HZ hi).1
   simp only[Option.bind_some]
   rw[List.getElem?_set_self (by omega)]
  ·rw[if_neg hq]
   cases hj:m.1.idxOf? q with
   |none=>rfl
   |some j=>
    have eJ:i≠j:=by rintro rfl;exact hq (XE hj hi)
    simp only[Option.bind_some]
    rw[List.getElem?_set_ne eJ]
def aaq (x:List V) (ps:List ByteArray) (t:Tm):Prop:=∃(w n:Int),x=Mk.bR w (.slice 1 9 (strs ps)) t.enc n
theorem xm (ps:List ByteArray):∀(cs:List (ByteArray×Tm)) (i:Nat) (m:PM),m.2.length=m.1.length→(cs.map (·.1)).Nodup→
  ∃m':PM,Mk.ic (.slice 1 9 (strs ps)) i (cs.map fun c=>.str c.1::c.2.enc) m=some m'∧m'.2.length=m'.1.length∧
   ∀q,match eO q cs i with
    |some k=>∃x,Mk.nC m' q=some x∧aaq x ps (cs.getD (k - i) default).2
    |none=>Mk.nC m' q=Mk.nC m q
 |[],i,m,hl,_=>⟨m,rfl,hl,fun q=>rfl⟩
 |c::cs,i,m,hl,hn=>by
  rw[List.map_cons,List.nodup_cons]at hn
  obtain⟨m',h1,h2,h3⟩:=xm ps cs (i+1) (Mk.iC m c.1 (Mk.bR 3 (.slice 1 9 (strs ps)) c.2.enc i)) (xl hl) hn.2
  refine⟨m',?_,h2,fun q=>?_⟩
  ·rw[List.map_cons]
   rw[c.2.aX]at h1 ⊢
   exact h1
  ·have hq:=h3 q
   rw[eO]
   by_cases hc:c.1=q
   ·rw[if_pos hc]
    have wQ:eO q cs (i+1)=none:=by
     cases hh:eO q cs (i+1)with
     |none=>rfl
     |some k=>
      obtain⟨_,_,c',h4,h5⟩:=kC hh
      exact absurd (List.mem_map.2 ⟨c',List.mem_of_getElem? h4,h5.trans hc.symm⟩) hn.1
    rw[wQ]at hq
    simp only at hq ⊢
    refine⟨_,hq.trans (by rw[mT hl,if_pos hc.symm]),3,i,?_⟩
    simp
   ·rw[if_neg hc]
    cases hh:eO q cs (i+1)with
    |none=>
     rw[hh]at hq
     simp only at hq ⊢
     rw[hq,mT hl,if_neg (fun h=>hc h.symm)]
    |some k=>
     rw[hh]at hq
     simp only at hq ⊢
     have:=(kC hh).1
     obtain⟨x,h4,h5⟩:=hq
     refine⟨x,h4,?_⟩
     rw[show k - i=(k - (i+1))+1 by omega,List.getD_cons_succ]
     exact h5
structure Knw (E:List bO) (m:PM):Prop where
 len:m.2.length=m.1.length
 get:∀q,match dV q E with
  |some (ps,t)=>∃x,Mk.nC m q=some x∧aaq x ps t
  |none=>Mk.nC m q=none
theorem XF:Knw [] ([],[]):=⟨rfl,fun q=>rfl⟩
theorem XG {E:List bO} {e:bO} {m:PM} (h:Knw E m) (hk:1≤e.d.kind∧e.d.kind≤3) (hn:e.d.name.size<1000) (h1:∀s∈za e,da s E=none) (h2:(za e).Nodup) (h3:e.d.kind≠3→e.d.ctors=[]) (h4:e.d.ctors.length<100000000):
  ∃m':PM,Mk.rK e.d.enc (.slice 1 9 (strs e.zb)) e.rt.enc m=some m'∧Knw (E++[e]) m':=by
 obtain⟨hl,hg⟩:=h
 have rv:∀q x,da q E=some x→dV q (E++[e])=dV q E:=fun q x hx=>pP hx
 have eJ:∀q x,da q E=some x→q∉za e:=fun q x hx hq=>by rw[h1 q hq]at hx;simp at hx
 have Zn:∀q,da q E=none→Mk.nC m q=none:=fun q hq=>by
  have:=hg q
  rw[show dV q E=none by unfold dV;rw[hq]]at this
  exact this
 have PH:∀q x,da q E=some x→∃ps t,dV q E=some (ps,t):=fun q x hx=>by
  obtain⟨k,e',i⟩:=x
  unfold dV
  rw[hx]
  simp only
  split
  ·exact⟨_,_,rfl⟩
  ·split<;>exact⟨_,_,rfl⟩
 have abP:e.d.enc=[.int .i64 e.d.kind,.str e.d.name,.slice 1 9 e.d.ch,.int .i64 e.d.type.kind,.int .i64 e.d.type.num,.str e.d.type.name,.slice 3 120 (e.d.type.bK.map Lv.enc),.slice 5 53 e.d.type.args,
   .int .i64 e.d.value.kind,.int .i64 e.d.value.num,.str e.d.value.name,.slice 3 120 (e.d.value.bK.map Lv.enc),.slice 5 53 e.d.value.args,.int .i64 e.d.arity,.slice 6 60 e.d.aY]:=by
  simp only[Dc.enc,Tm.aX];rfl
 have uG:(0:Int)≤(e.d.kind:Int)∧(e.d.kind:Int)≤3∧e.d.name.size<1000∧e.d.aY.length<100000000:=⟨by omega,by omega,hn,by unfold Dc.aY;rw[List.length_map];exact h4⟩
 have Zo:∀(w:Int),aaq (Mk.bR w (.slice 1 9 e.d.ch) [.int .i64 e.d.type.kind,.int .i64 e.d.type.num,.str e.d.type.name,.slice 3 120 (e.d.type.bK.map Lv.enc),.slice 5 53 e.d.type.args] 0) e.d.aT e.d.type:=fun w=>⟨w,0,by rw[e.d.type.aX];rfl⟩
 by_cases lL:e.d.kind=3
 ·have rL:za e=gm e.d:=if_pos lL
  rw[rL]at h1 h2 eJ
  have aar:(e.d.ctors.map (·.1)).Nodup∧(∀c∈e.d.ctors,c.1≠e.d.name)∧(e.d.name++fp≠e.d.name)∧∀c∈e.d.ctors,c.1≠e.d.name++fp:=by
   unfold gm at h2
   rw[List.nodup_append]at h2
   obtain⟨a1,_,a3⟩:=h2
   rw[List.nodup_cons]at a1
   refine⟨a1.2,fun c hc h=>a1.1 (by rw[←h];exact List.mem_map.2 ⟨c,hc,rfl⟩),fun h=>?_,fun c hc=>?_⟩
   ·exact a3 e.d.name (List.mem_cons_self ..) (e.d.name++fp) (by simp) h.symm
   ·exact a3 c.1 (List.mem_cons_of_mem _ (List.mem_map.2 ⟨c,hc,rfl⟩)) (e.d.name++fp) (by simp)
  obtain⟨n1,n2,n3,n4⟩:=aar
  obtain⟨m',p1,p2,p3⟩:=xm e.d.aT e.d.ctors 0 (Mk.iC m e.d.name (Mk.bR 2 (.slice 1 9 e.d.ch) [.int .i64 e.d.type.kind,.int .i64 e.d.type.num,.str e.d.type.name,.slice 3 120 (e.d.type.bK.map Lv.enc),.slice 5 53 e.d.type.args] 0)) (xl hl) n1
  refine⟨Mk.iC m' (e.d.name++fp) (Mk.bR 4 (.slice 1 9 (strs e.zb)) e.rt.enc 0),?_,xl p2,fun q=>?_⟩
  ·rw[abP]
   simp only[Mk.rK]
   rw[if_pos uG,if_pos (show(e.d.kind:Int)=3 by omega)]
   have p1':Mk.ic (.slice 1 9 e.d.ch) 0 e.d.aY _=some m':=p1
   rw[p1']
   rfl
  ·have hc:=p3 q
   rw[mT p2]
   cases hf:da q E with
   |some x=>
    rw[rv q x hf]
    obtain⟨ps,t,ht⟩:=PH q x hf
    have hq:=eJ q x hf
    have q1:q≠e.d.name++fp:=fun h=>hq (by simp[gm,h])
    have q2:q≠e.d.name:=fun h=>hq (by simp[gm,h])
    have q3:eO q e.d.ctors 0=none:=by
     cases hh:eO q e.d.ctors 0 with
     |none=>rfl
     |some k=>
      obtain⟨_,_,c',h4,h5⟩:=kC hh
      exact absurd (show q∈gm e.d by simp only[gm,List.mem_append,List.mem_cons,List.mem_map];exact .inl (.inr ⟨c',List.mem_of_getElem? h4,h5⟩)) hq
    rw[q3]at hc
    simp only at hc
    have hgq:=hg q
    rw[ht]at hgq ⊢
    simp only at hgq ⊢
    rw[if_neg q1,hc,mT hl,if_neg q2]
    exact hgq
   |none=>
    unfold dV
    rw[gq,hf]
    simp only[ie]
    by_cases q2:e.d.name=q
    ·have q1:q≠e.d.name++fp:=fun h=>n3 (by rw[←h];exact q2.symm)
     have q3:eO q e.d.ctors 0=none:=by
      cases hh:eO q e.d.ctors 0 with
      |none=>rfl
      |some k=>
       obtain⟨_,_,c',h4,h5⟩:=kC hh
       exact absurd (h5.trans q2.symm) (n2 c' (List.mem_of_getElem? h4))
     rw[q3]at hc
     simp only at hc
     rw[if_pos q2,if_neg q1,hc,mT hl,if_pos q2.symm]
     simp only[Option.map_some,lL]
     exact⟨_,rfl,Zo 2⟩
    ·rw[if_neg q2]
     cases hh:eO q e.d.ctors 0 with
     |some k=>
      rw[hh]at hc
      simp only[Nat.sub_zero]at hc
      obtain⟨_,_,c',h4,h5⟩:=kC hh
      have q1:q≠e.d.name++fp:=fun h=>n4 c' (List.mem_of_getElem? h4) (h5.trans h)
      rw[if_neg q1]
      simp only[Option.map_some]
      exact hc
     |none=>
      rw[hh]at hc
      simp only at hc
      by_cases q1:q=e.d.name++fp
      ·rw[if_pos q1,if_pos ⟨lL,q1.symm⟩]
       simp only[Option.map_some]
       exact⟨_,rfl,4,0,rfl⟩
      ·rw[if_neg q1,if_neg (fun h=>q1 h.2.symm),hc,mT hl,if_neg (fun h=>q2 h.symm)]
       exact Zn q hf
 ·have rL:za e=[e.d.name]:=if_neg lL
  rw[rL]at h1 eJ
  have lQ:=h3 lL
  refine⟨Mk.iC m e.d.name (Mk.bR (if (e.d.kind:Int)=2 then 1 else 0) (.slice 1 9 e.d.ch) [.int .i64 e.d.type.kind,.int .i64 e.d.type.num,.str e.d.type.name,.slice 3 120 (e.d.type.bK.map Lv.enc),.slice 5 53 e.d.type.args] 0),?_,xl hl,fun q=>?_⟩
  ·rw[abP]
   simp only[Mk.rK]
   rw[if_pos uG,if_neg (show ¬(e.d.kind:Int)=3 by omega)]
  ·rw[mT hl]
   cases hf:da q E with
   |some x=>
    rw[rv q x hf]
    obtain⟨ps,t,ht⟩:=PH q x hf
    have q2:q≠e.d.name:=fun h=>eJ q x hf (by simp[h])
    have hgq:=hg q
    rw[ht]at hgq ⊢
    simp only at hgq ⊢
    rw[if_neg q2]
    exact hgq
   |none=>
    unfold dV
    rw[gq,hf]
    simp only[ie,lQ,eO]
    by_cases q2:e.d.name=q
    ·rw[if_pos q2,if_pos q2.symm]
     simp only[Option.map_some]
     rw[if_neg (show ¬e.d.kind=4 by omega),if_neg (show ¬e.d.kind=5 by omega)]
     exact⟨_,rfl,Zo _⟩
    ·rw[if_neg q2,if_neg (fun h=>lL h.1),if_neg (fun h=>q2 h.symm)]
     exact Zn q hf
end Go.Ab.Mk
end
section
namespace Go.Ab.Mk
open Go.Proofs Go.Ab Go.Proofs.Mk
def Old (σ eM:az):Prop:=σ.length≤eM.length∧∀i,i<σ.length→eM[i]?=σ[i]?
theorem Old.refl (σ:az):Old σ σ:=⟨Nat.le_refl _,fun _ _=>rfl⟩
theorem Old.trans {a b c:az} (h:Old a b) (k:Old b c):Old a c:=⟨Nat.le_trans h.1 k.1,fun i hi=>(k.2 i (Nat.lt_of_lt_of_le hi h.1)).trans (h.2 i hi)⟩
theorem Old.app (σ τ:az):Old σ (σ++τ):=⟨by simp,fun i hi=>List.getElem?_append_left hi⟩
theorem Old.set {σ eM:az} (h:Old σ eM) {b:Nat} (hb:σ.length≤b) (x:List Cell):Old σ (eM.set b x):=⟨by rw[List.length_set];exact h.1,fun i hi=>by rw[List.getElem?_set_ne (by omega)];exact h.2 i hi⟩
def TY (c:Cell) (ds:List Dc):Prop:=c=(.row 15 56 (ds.map Dc.enc),true)∨ds=[]∧c=(.lit (.slice none 0 0),false)
theorem TY.of {c:Cell} {ds:List Dc} (h:TY c ds) (hl:ds.length<100000000):Mk.rowOf 15 56 c=some (ds.map Dc.enc):=by
 rcases h with rfl|⟨rfl,rfl⟩
 ·simp[Mk.rowOf,hl]
 ·rfl
def mU (c:Cell) (m:PM):List Cell:=[c,(.jM m.1 m.2,true)]
structure Kk (e:bO):Prop where
 kind:1≤e.d.kind∧e.d.kind≤3
 name:e.d.name.size<1000
 W3:e.d.ctors.length<2^20
 dok:S7 e.d
 prd:(Kh e.d).length≤12200000
 rt:e.rt.wide<2^31
 aT:e.d.aT.length<2^20
 zb:e.zb.length<2^20
structure Km (σ:az) (b2 b:Nat) (E:List bO):Prop where
 lt:b<σ.length
 env:∀t:TypeId,bu σ (.ptr t b 0) false 1=some (.slice 21 58 (E.map bO.enc))
 abQ:∃(c:Cell) (m:PM),σ[b2]?=some (mU c m)∧TY c (E.map (·.d))∧Knw E m
 Bz:∀e∈E,Kk e
 len:E.length<2^20
 cts:(E.map fun e=>e.d.ctors.length).sum≤12200000
theorem Km.rv {σ eM:az} {b2 b:Nat} {E:List bO} (h:Km σ b2 b E) (o:Old σ eM):Km eM b2 b E:=by
 refine⟨Nat.lt_of_lt_of_le h.lt o.1,fun t=>?_,?_,h.Bz,h.len,h.cts⟩
 ·have:=h.env t
  simp only[bu]at this ⊢
  rw[o.2 _ h.lt]
  exact this
 ·obtain⟨c,m,h1,h2⟩:=h.abQ
  exact⟨c,m,(o.2 _ (cO h1)).trans h1,h2⟩
theorem Kk.adm {E:List bO} (h:∀e∈E,Kk e) (hl:E.length<2^20):MV E:=⟨by omega,fun e he=>⟨(h e he).name,by have:=(h e he).W3;omega⟩⟩
theorem H0 (d:Dc):Mk.xo d.val=some d.enc:=by
 have e:d.enc=[.int .i64 d.kind,.str d.name,.slice 1 9 d.ch,.int .i64 d.type.kind,.int .i64 d.type.num,.str d.type.name,.slice 3 120 (d.type.bK.map Lv.enc),.slice 5 53 d.type.args,
   .int .i64 d.value.kind,.int .i64 d.value.num,.str d.value.name,.slice 3 120 (d.value.bK.map Lv.enc),.slice 5 53 d.value.args,.int .i64 d.arity,.slice 6 60 d.aY]:=by
  simp only[Dc.enc,Tm.aX];rfl
 rw[Dc.val,e];rfl
theorem Kn (e:bO):V.agg [e.enc.getD 0 V.any,e.enc.getD 1 V.any,e.enc.getD 2 V.any,e.enc.getD 3 V.any,e.enc.getD 4 V.any,e.enc.getD 5 V.any,e.enc.getD 6 V.any,e.enc.getD 7 V.any,e.enc.getD 8 V.any,e.enc.getD 9 V.any,e.enc.getD 10 V.any,e.enc.getD 11 V.any,e.enc.getD 12 V.any,e.enc.getD 13 V.any,e.enc.getD 14 V.any]=e.d.val:=by
 rw[bO.aX,←lY];rfl
theorem Q5 (e:bO):V.agg [e.enc.getD 16 V.any,e.enc.getD 17 V.any,e.enc.getD 18 V.any,e.enc.getD 19 V.any,e.enc.getD 20 V.any]=e.rt.val:=by
 rw[bO.aX];rfl
theorem XH (e:bO):e.enc.getD 15 V.any=.slice 1 9 (strs e.zb):=by rw[bO.aX];rfl
theorem TZ {σ:az} {b2:Nat} {c:Cell} {m m':PM} {ds:List Dc} (h:σ[b2]?=some (mU c m)) (hc:TY c ds) (hl:ds.length<100000000) {d:Dc} {zb:List ByteArray} {rt:Tm} (hm:Mk.rK d.enc (.slice 1 9 (strs zb)) rt.enc m=some m'):
  ah C 36 [(.ptr 82 b2 0,false),(d.val,false),(.slice 1 9 (strs zb),false),(rt.val,false)] σ=some (.ret [],σ.set b2 (mU (.row 15 56 ((ds++[d]).map Dc.enc),true) m')):=by
 refine ma (s:=Mk.ts) (by kernel_rfl) ?_
 have CJ:Mk.uM b2 σ=some (ds.map Dc.enc,m.1,m.2):=by
  simp only[Mk.uM,h,mU,hc.of hl,Option.bind_some]
 simp only[Mk.ts,and_self,if_true,CJ,Option.bind_some,H0,zc,hm,List.map_append,List.map_cons,List.map_nil]
 rfl
theorem T1:∀{E:List bO},Grown E→∀(i:Nat) (h:i<E.length),(∀s∈za E[i],da s (E.take i)=none)∧(za E[i]).Nodup∧(E[i].d.kind≠3→E[i].d.ctors=[]):=by
 intro E hG
 induction hG with
 |nil=>intro i h;exact absurd h (Nat.not_lt_zero i)
 |snoc E e _ h1 h2 h3 ih=>
  intro i h
  by_cases hi:i<E.length
  ·rw[List.getElem_append_left hi,List.take_append_of_le_length (by omega)]
   exact ih i hi
  ·have:i=E.length:=by simp only[List.length_append,List.length_singleton]at h;omega
   subst this
   rw[List.getElem_concat_length (by rfl),List.take_left]
   exact⟨h1,h2,h3⟩
theorem T2 (E:List bO) (i:Nat):((E.take i).map fun e=>e.d.ctors.length).sum≤(E.map fun e=>e.d.ctors.length).sum:=by
 have:E.map (fun e:bO=>e.d.ctors.length)=(E.take i).map (fun e=>e.d.ctors.length)++(E.drop i).map fun e=>e.d.ctors.length:=by rw[←List.map_append,List.take_append_drop]
 rw[this,List.sum_append];omega
def T3 (σ0 σ:az) (b:Nat) (x:Option aQ):Prop:=
 ∃(b2:Nat) (E':List bO) (eM:az),x=some (.ret [(.agg [.ptr 82 b2 0,.ptr 49 b 0],false)],eM)∧Km eM b2 b E'∧Old σ0 eM
theorem CK:∀{l:List Nat} {a:Nat},a∈l→a≤l.sum
 |x::l,a,h=>by
  rw[List.sum_cons]
  rcases List.mem_cons.1 h with rfl|h
  ·omega
  ·have:=CK h
   omega
section
variable {σ0:az} {b b2:Nat} {E:List bO} {N:Nat}
theorem AN (hG:Grown E) (hg:∀e∈E,Kk e) (hl:E.length<2^20) (Gd:(E.map fun e=>e.d.ctors.length).sum≤12200000) (JM:σ0.length≤b) (abR:σ0.length≤b2) (eJ:b≠b2) {q w:Bool}:∀(mm i:Nat) (σ:az) (c:Cell) (m:PM),Old σ0 σ→σ[b]?=some [(.slice 21 58 (E.map bO.enc),q),(.bool w,false)]→σ[b2]?=some (mU c m)→TY c ((E.take i).map (·.d))→Knw (E.take i) m→
    i≤E.length→E.length - i<mm→T3 σ0 σ b (rM (ah C) N mm b (.ptr 82 b2 0) i σ)
  |0,i,_,_,_,_,_,_,_,_,_,hm=>by omega
  |mm+1,i,σ,c,m,ho,hb,vu,hc,hk,hi,hm=>by
   rw[show rM (ah C) N (mm+1)=CL (ah C) (rM (ah C) N mm)from rfl]
   unfold CL cj cz bo aE aM ak bF cB ae dS jq aq ft bp
   have eN:=cO hb
   have BA:∀t:TypeId,bu σ (.ptr t b 0) false 1=some (.slice 21 58 (E.map bO.enc)):=fun t=>by simp[bu,hb,dX]
   simp only[BA,Option.bind_some,asE,List.length_map]
   by_cases aG:i<E.length
   · have ge:=hg _ (List.getElem_mem aG)
     obtain⟨x,hx⟩:=HT ge.dok (by have:=ge.prd;omega) σ
     obtain⟨y,hy⟩:=kU σ (E[i]).rt (by have:=ge.rt;omega)
     have e1:∀(K:List Cell→az→Option aQ) KP,aA (ah C) 44 [((E[i]).d.val,false)] σ 1 K KP=K [(.bool x,false)] σ:=fun K KP=>ab hx
     have e2:∀(K:List Cell→az→Option aQ) KP,aA (ah C) 45 [((E[i]).rt.val,false)] σ 1 K KP=K [(.bool y,false)] σ:=fun K KP=>ab hy
     obtain⟨g1,g2,g3⟩:=T1 hG i aG
     obtain⟨m',p1,p2⟩:=XG (E:=E.take i) (e:=E[i]) hk ge.kind ge.name g1 g2 g3 (by have:=CK (List.mem_map.2 ⟨E[i],List.getElem_mem aG,rfl⟩:(E[i]).d.ctors.length∈E.map fun e=>e.d.ctors.length);omega)
     have hlen:((E.take i).map (·.d)).length<100000000:=by rw[List.length_map,List.length_take];omega
     have e3:∀(K:List Cell→az→Option aQ) KP,aA (ah C) 36 [(.ptr 82 b2 0,false),((E[i]).d.val,false),(.slice 1 9 (strs (E[i]).zb),false),((E[i]).rt.val,false)] σ 0 K KP=K [] (σ.set b2 (mU (.row 15 56 (((E.take i).map (·.d)++[(E[i]).d]).map Dc.enc),true) m')):=fun K KP=>bm (TZ vu hc hlen p1)
     have Zp:((E.map bO.enc).take (Int.toNat (i:Int))).drop (Int.toNat 0)=(E.take i).map bO.enc:=by simp[List.map_take]
     have hle:decide ((i:Int)≤(E.length:Int))=true:=by simp;omega
     have aap:aV σ (.ptr 49 b 0) [(.slice 21 58 ((E.take i).map bO.enc),false)]=some (σ.set b [(.slice 21 58 ((E.take i).map bO.enc),false),(.bool w,false)]):=by simp[aV,hb,setCells]
     have cut:T3 σ0 σ b (some (.ret [(.agg [.ptr 82 b2 0,.ptr 49 b 0],false)],σ.set b [(.slice 21 58 ((E.take i).map bO.enc),false),(.bool w,false)])):=by
       refine⟨b2,E.take i,_,rfl,⟨by rw[List.length_set];exact eN,fun t=>by simp[bu,eN,dX,List.map_take],⟨c,m,by rw[List.getElem?_set_ne eJ];exact vu,hc,hk⟩,fun e he=>hg e (List.mem_of_mem_take he),by rw[List.length_take];omega,Nat.le_trans (T2 E i) Gd⟩,ho.set JM _⟩
     have JN:E.take i++[E[i]]=E.take (i+1):=(List.take_succ_eq_append_getElem aG).symm
     have ih:=AN hG hg hl Gd JM abR eJ (q:=q) (w:=w) mm (i+1) (σ.set b2 (mU (.row 15 56 (((E.take i).map (·.d)++[(E[i]).d]).map Dc.enc),true) m')) _ m' (ho.set abR _) (by rw[List.getElem?_set_ne (fun h=>eJ h.symm)];exact hb) (aS vu) (.inl (by rw[←JN];exact congrArg (fun l:List Dc=>((V.row 15 56 (l.map Dc.enc),true):Cell)) (by rw[List.map_append];rfl))) (by rw[←JN];exact p2) (by omega) (by omega)
     simp only[eD aG,cond_true,d0,Bool.and_self,bz,Option.bind_some,tz aG,Kn,Q5,XH,e1,BA,asE,List.length_map,List.getD_cons_zero,e2,iD,show decide ((0:Int)≤0)=true from rfl,hle,Zp,aap,show V.fits (.ptr 82 b2 0) false 1=true from rfl,e3,aw (show i<2^61 by omega)]
     cases x with
     |false=>simp only[Bool.not_false,cond_true];exact cut
     |true=>
      simp only[Bool.not_true,cond_false]
      cases y with
      |false=>simp only[Bool.not_false,cond_true];exact cut
      |true=>
       simp only[Bool.not_true,cond_false]
       obtain⟨b2',E',eM,r1,r2⟩:=ih
       exact⟨b2',E',eM,r1,r2⟩
   · rw[cQ aG,cond_false]
     simp only[show V.fits (.ptr 82 b2 0) false 1=true from rfl,Bool.and_self,bz,cond_true,Option.bind_some]
     have hE:E.take i=E:=List.take_of_length_le (by omega)
     rw[hE]at hc hk
     exact⟨b2,E,σ,rfl,⟨eN,BA,⟨c,m,vu,hc,hk⟩,hg,hl,Gd⟩,ho⟩
theorem CM (hG:Grown E) (hg:∀e∈E,Kk e) (hl:E.length<2^20) (Gd:(E.map fun e=>e.d.ctors.length).sum≤12200000) (JM:σ0.length≤b) {q w:Bool} {σ:az} (ho:Old σ0 σ) (hb:σ[b]?=some [(.slice 21 58 (E.map bO.enc),q),(.bool w,false)]):
    T3 σ0 σ b (ah C 27 [(.ptr 49 b 0,false)] σ):=by
  have eN:=cO hb
  have e1:∀(K:List Cell→az→Option aQ) KP,aA (ah C) 12 [] σ 1 K KP=K [(.ptr 82 σ.length 0,false)] (σ++[mU (.lit (.slice none 0 0),false) ([],[])]):=fun K KP=>ab (ma (s:=Mk.tA) (by kernel_rfl) rfl)
  obtain⟨b2',E',eM,r1,r2⟩:=AN (N:=2^20) (b2:=σ.length) hG hg hl Gd JM (ho.1) (by omega) (q:=q) (w:=w) (2^20) 0 (σ++[mU (.lit (.slice none 0 0),false) ([],[])]) _ ([],[]) (ho.trans (Old.app _ _)) (cT hb) (fH _ _) (.inr ⟨rfl,rfl⟩) XF (Nat.zero_le _) (by omega)
  refine⟨b2',E',eM,MW (n:=2^20) ?_,r2⟩
  simp only[filled,aE,ae,aq,e1,List.getD_cons_zero,show V.mH (.ptr 82 σ.length 0)=some false from rfl,Option.bind_some,cond_false]
  exact r1
end
end Go.Ab.Mk
end
section
namespace Go.Ab
open Go.ChangeShapes Go.WideShapes
def G0 (w:World) (B:Nat):Gh:={N:=0,μ:=id,ah:=fun i=>if i<w.heap.size then B else 0,owner:=fun _=>none,ty:=fun _=>0}
theorem abS (w:World) (B:Nat):WF (G0 w B) w:=fun i hi=>⟨if_neg (by omega),rfl⟩
theorem H2 {w w':World} {B:Nat} {G':Gh} (h:Ext (G0 w B) w G' w'):RowKit.Below w.heap.size w w':=⟨h.os,h.tape,h.output,h.size,fun k hk=>(h.rv k hk rfl).1⟩
theorem T4 (w:World) (B n:Nat):Clean (G0 w B) n:=fun i p hp=>by simp[G0]at hp
theorem XI {gl:Nat→Option (List V)} {w:World} {B:Nat} (h:∀(g:Nat) (cs:List V),gl g=some cs→Rel (G0 w B) w (.eL cs.length cs 0) (.pointer (some ⟨g,0,none⟩))) (hs:∀(g:Nat) (cs:List V),gl g=some cs→0<B∧∃cv el fr,w.heap[g]?=some (.cells cv el fr)∧cv.size=cs.length):dR gl (G0 w B) w []:=
 ⟨abS w B,h,rfl,fun b hb=>by simp at hb,fun b cs hb=>by simp at hb,fun g cs hg=>(by
  obtain⟨k0,cv,el,fr,k1,k2⟩:=hs g cs hg
  refine⟨rfl,?_,cv,el,fr,k1,k2⟩
  show 0<if g<w.heap.size then B else 0
  rw[if_pos (Array.getElem?_eq_some_iff.1 k1).1]
  exact k0)⟩
structure kV where
 k:Int
 s:ByteArray
 t:ByteArray
 u:ByteArray
 a:Int
 b:Int
def kV.enc (o:kV):List V:=[.int .i64 o.k,.str o.s,.str o.t,.str o.u,.int .i64 o.a,.int .i64 o.b]
def kV.vals (o:kV):List Value:=[.int .i64 o.k,.string o.s,.string o.t,.string o.u,.int .i64 o.a,.int .i64 o.b]
structure kV.Fits (o:kV):Prop where
 s:o.s.size≤maxLen
 t:o.t.size≤maxLen
 u:o.u.size≤maxLen
 a:(Lit.int .i64 o.a).wf=true
 b:(Lit.int .i64 o.b).wf=true
def kV.data {H:Type} (o:kV):DataW H:=.agg [.lit (.int .i64 o.k),.lit (.string o.s.data.toList),.lit (.string o.t.data.toList),.lit (.string o.u.data.toList),.lit (.int .i64 o.a),.lit (.int .i64 o.b)]
section
variable {H:Type} {enc:TypeId×Value→H} {P:Program} {W:World} {sp:Nat→Bool} {held:Bool}
structure aas (P:Program) (tS W4 BB BC:TypeId):Prop where
 hS:P.underlying tS=some (.slice W4)
 hOp:∃fs,P.underlying W4=some (.struct fs)∧fs.toList.map (fun f=>(f.type,f.offset))=[(BB,0),(BC,1),(BC,2),(BC,3),(BB,4),(BB,5)]
 XJ:P.underlying BB=some (.int .i64)
 XK:P.underlying BC=some .string
 cOp:P.cellsOf W4=6
 abT:P.cellsOf BB=1
 abU:P.cellsOf BC=1
theorem XL {tS W4 BB BC:TypeId} (T:aas P tS W4 BB BC) {n:Nat} {cs:List Value} {x:DataW H×List MemPlace} (h:DataW.trod enc P W 0 sp held n W4 cs=some x):
  ∃o:kV,cs=o.vals∧o.Fits∧x.1=o.data:=by
 obtain⟨fs,hu,hf⟩:=T.hOp
 obtain⟨xs,m,_,hx,hl,Xo,gZ⟩:=DataW.trod_struct hu h
 rw[T.cOp]at hl
 have rj:fs.toList.length=6:=by have:=congrArg List.length hf;simpa using this
 have Q6:∀(i:Nat) (ty:TypeId) (off:Nat),(fs.toList.map (fun f=>(f.type,f.offset)))[i]?=some (ty,off)→DataW.trod enc P W 0 sp held m ty ((cs.drop off).take (P.cellsOf ty))=xs[i]?:=by
  intro i ty off hi
  simp only[List.getElem?_map,Option.map_eq_some_iff]at hi
  obtain⟨f,h1,h2⟩:=hi
  have:=gZ i f (by simpa using h1)
  simp only[Prod.mk.injEq]at h2
  rw[h2.1,h2.2]at this
  exact this
 obtain⟨c0,c1,c2,c3,c4,c5,rfl⟩:∃c0 c1 c2 c3 c4 c5,cs=[c0,c1,c2,c3,c4,c5]:=by
  match cs,hl with
  |[c0,c1,c2,c3,c4,c5],_=>exact⟨c0,c1,c2,c3,c4,c5,rfl⟩
 ·have hxs:xs.length=6:=by rw[Xo];simpa using rj
  obtain⟨x0,x1,x2,x3,x4,x5,rfl⟩:∃x0 x1 x2 x3 x4 x5,xs=[x0,x1,x2,x3,x4,x5]:=by
   match xs,hxs with
   |[x0,x1,x2,x3,x4,x5],_=>exact⟨x0,x1,x2,x3,x4,x5,rfl⟩
  have e0:=Q6 0 BB 0 (by rw[hf];rfl)
  have e1:=Q6 1 BC 1 (by rw[hf];rfl)
  have e2:=Q6 2 BC 2 (by rw[hf];rfl)
  have e3:=Q6 3 BC 3 (by rw[hf];rfl)
  have e4:=Q6 4 BB 4 (by rw[hf];rfl)
  have e5:=Q6 5 BB 5 (by rw[hf];rfl)
  rw[T.abT]at e0 e4 e5
  rw[T.abU]at e1 e2 e3
  ·obtain⟨n0,h0,y0,_⟩:=DataW.trod_int T.XJ (e0.trans rfl)
   obtain⟨s1,h1,y1,g1⟩:=DataW.trod_string T.XK (e1.trans rfl)
   obtain⟨s2,h2,y2,g2⟩:=DataW.trod_string T.XK (e2.trans rfl)
   obtain⟨s3,h3,y3,g3⟩:=DataW.trod_string T.XK (e3.trans rfl)
   obtain⟨n4,h4,y4,g4⟩:=DataW.trod_int T.XJ (e4.trans rfl)
   obtain⟨n5,h5,y5,g5⟩:=DataW.trod_int T.XJ (e5.trans rfl)
   simp at h0 h1 h2 h3 h4 h5
   subst h0 h1 h2 h3 h4 h5
   refine⟨⟨n0,s1,s2,s3,n4,n5⟩,rfl,⟨g1,g2,g3,g4,g5⟩,?_⟩
   rw[hx,y0,y1,y2,y3,y4,y5]
   rfl
theorem MX {tS W4 BB BC:TypeId} (T:aas P tS W4 BB BC) {b0:Nat} {v:Value} {d:DataW H} {ps:List MemPlace} (uy:Value.okWide P W .any b0 tS v) (h:DataW.Trod enc P W 0 sp held tS v d ps):
    ∃(L:List kV) (B0:Nat),(∀B,B0≤B→Rel (G0 W B) W (.slice 6 W4 (L.map kV.enc)) v)∧L.length≤maxLen∧(∀o∈L,o.Fits)∧((d=.nil∧L=[])∨∃rest,d=.slice (L.map kV.data) rest):=by
  obtain⟨fuel,hd⟩:=h
  rcases DataW.trod_slice T.hS hd with⟨h0,h1⟩|⟨a,len,cap,elems,rest,n,_,hcs,hx,_,hlc,hm,hlen,XM,_,_⟩
  · have hv:v=.slice none 0 0:=by
      have hk:Value.okWide P W .any b0 tS v:=uy
      unfold Value.okWide at hk
      rw[T.hS]at hk
      cases v<;>simp[Value.cells]at h0<;>first|exact congr (congr (congrArg Value.slice h0.1) h0.2.1) h0.2.2|skip
      all_goals (simp[Cell.okWide,Cell.ok,T.hS]at hk)
    subst hv
    simp only[Prod.mk.injEq]at h1
    exact⟨[],0,fun B _=>.rh _ _,Nat.zero_le _,by simp,.inl ⟨h1.1,rfl⟩⟩
  · have hv:v=.slice (some a) len cap:=by
      have hk:Value.okWide P W .any b0 tS v:=uy
      unfold Value.okWide at hk
      rw[T.hS]at hk
      cases v<;>simp[Value.cells]at hcs<;>first|exact congr (congr (congrArg Value.slice hcs.1) hcs.2.1) hcs.2.2|skip
      all_goals (simp[Cell.okWide,Cell.ok,T.hS]at hk)
    subst hv
    have hk:Cell.ok P W .any b0 tS (.slice (some a) len cap):=by
      have hk:Value.okWide P W .any b0 tS (.slice (some a) len cap):=uy
      unfold Value.okWide at hk
      rw[T.hS]at hk
      simpa[Cell.okWide,T.hS]using hk
    simp only[Cell.ok,T.hS]at hk
    obtain⟨_,_,_,jP,row,cells,T5,_⟩:=hk
    obtain⟨b,off,spot⟩:=a
    simp only at jP T5
    subst jP
    have Fh:b<W.heap.size:=by
      rcases Nat.lt_or_ge b W.heap.size with h|h
      · exact h
      · simp[World.shape?,Array.getElem?_eq_none h]at T5
    have each:∀i,i<len→∃o:kV,o.Fits∧(elems[i]?).map (·.1)=some o.data∧∀j,j<6→W.cell? ⟨b,off+i*6+j,none⟩=o.vals[j]?:=by
      intro i hi
      have he:=XM i hi
      obtain⟨y,hy⟩:∃y,elems[i]?=some y:=⟨elems[i],List.getElem?_eq_getElem (by omega)⟩
      rw[hy,Option.bind_eq_some_iff,T.cOp,add_plain]at he
      obtain⟨cs,hc,ht⟩:=he
      obtain⟨o,rfl,hf,Q7⟩:=XL T ht
      refine⟨o,hf,by rw[hy,←Q7];rfl,fun j hj=>?_⟩
      have:=(World.cells?_some hc).2.2 j hj
      rw[add_plain]at this
      exact this
    classical
    let f:Nat→kV:=fun i=>if h:i<len then(each i h).choose else⟨0,default,default,default,0,0⟩
    have hf:∀i,i<len→(f i).Fits∧(elems[i]?).map (·.1)=some (f i).data∧∀j,j<6→W.cell? ⟨b,off+i*6+j,none⟩=(f i).vals[j]?:=by
      intro i hi
      simp only[f,dif_pos hi]
      exact(each i hi).choose_spec
    refine⟨(List.range len).map f,off+len*6,fun B hB=>?_,by simp;omega,fun o ho=>?_,.inr ⟨rest.map (·.1),?_⟩⟩
    · have:=Rel.slice (G:=G0 W B) (w:=W) 6 W4 (((List.range len).map f).map kV.enc) b off cap (((List.range len).map f).map kV.vals) (by simp) (by simpa using hlc)
        (by simp only[G0,List.length_map,List.length_range,if_pos Fh];exact hB)
        (fun i e he=>by
          simp only[List.getElem?_map,Option.map_eq_some_iff]at he
          obtain⟨_,_,rfl⟩:=he
          rfl)
        (fun i e he=>by
          simp only[List.getElem?_map,Option.map_eq_some_iff]at he
          obtain⟨_,_,rfl⟩:=he
          rfl)
        (fun i j x c hx hc=>by
          simp only[List.getElem?_map,Option.map_eq_some_iff]at hx
          obtain⟨o,⟨k,hk,rfl⟩,rfl⟩:=hx
          obtain⟨jG,lK⟩:=List.getElem?_eq_some_iff.1 hk
          simp only[List.length_range]at jG
          simp only[List.getElem_range]at lK
          subst lK
          have hj:j<6:=by have:=(List.getElem?_eq_some_iff.1 hc).1;exact this
          refine⟨by rw[(hf i jG).2.2 j hj];exact hc,?_⟩
          match j,hj with
          |0,_=>simp[kV.vals]at hc;subst hc;rfl
          |1,_=>simp[kV.vals]at hc;subst hc;rfl
          |2,_=>simp[kV.vals]at hc;subst hc;rfl
          |3,_=>simp[kV.vals]at hc;subst hc;rfl
          |4,_=>simp[kV.vals]at hc;subst hc;rfl
          |5,_=>simp[kV.vals]at hc;subst hc;rfl)
        (fun i j e x v c he hx hv hc=>by
          simp only[List.getElem?_map,Option.map_eq_some_iff]at he hx
          obtain⟨o,⟨k,hk,rfl⟩,rfl⟩:=hx
          obtain⟨o',⟨k',W5,rfl⟩,rfl⟩:=he
          rw[hk]at W5
          obtain rfl:=Option.some.inj W5
          match j with
          |0=>simp[kV.vals,kV.enc]at hc hv;subst hc;subst hv;exact .int _ _
          |1=>simp[kV.vals,kV.enc]at hc hv;subst hc;subst hv;exact .str _
          |2=>simp[kV.vals,kV.enc]at hc hv;subst hc;subst hv;exact .str _
          |3=>simp[kV.vals,kV.enc]at hc hv;subst hc;subst hv;exact .str _
          |4=>simp[kV.vals,kV.enc]at hc hv;subst hc;subst hv;exact .int _ _
          |5=>simp[kV.vals,kV.enc]at hc hv;subst hc;subst hv;exact .int _ _
          |j+6=>simp[kV.vals]at hc)
      simpa using this
    · simp only[List.mem_map,List.mem_range]at ho
      obtain⟨i,hi,rfl⟩:=ho
      exact(hf i hi).1
    · simp only[Prod.mk.injEq]at hx
      rw[hx.1]
      congr 1
      apply List.ext_getElem?
      intro i
      by_cases hi:i<len
      · rw[List.getElem?_map,(hf i hi).2.1]
        simp[hi]
      · rw[List.getElem?_eq_none (by simp;omega),List.getElem?_eq_none (by simp;omega)]
theorem T6 {base:Nat} {fuel:Nat} {t e:TypeId} {cs:List Value} {p:List MemPlace} {d:DataW H}
  (ht:P.underlying t=some (.slice e)) (he:P.underlying e=some .string) (hce:P.cellsOf e=1) (ss:List ByteArray) (eJ:0<ss.length) (hd:d=.slice (ss.map fun s=>.lit (.string s.data.toList)) [])
  (h:DataW.trod enc P W base sp held fuel t cs=some (d,p)):
  ∃b off cap,cs=[.slice (some ⟨b,off,none⟩) ss.length cap]∧ss.length≤cap∧b<W.heap.size∧∀i s,ss[i]?=some s→W.cell? ⟨b,off+i,none⟩=some (.string s):=by
 subst hd
 rcases DataW.trod_slice ht h with⟨_,h1⟩|⟨a,len,cap,elems,rest,n,_,hcs,hx,_,hlc,hm,hlen,XM,_,_⟩
 ·simp at h1
 ·simp only[Prod.mk.injEq]at hx
  have PS:=hx.1
  injection PS with PS W6
  have T7:ss.length=len:=by
   have:=congrArg List.length PS
   simp only[List.length_map]at this
   omega
  have each:∀i s,ss[i]?=some s→W.cell? (a.add i)=some (.string s):=by
   intro i s hs
   have hi:i<ss.length:=(List.getElem?_eq_some_iff.1 hs).1
   have yL:=XM i (by omega)
   obtain⟨y,hy⟩:∃y,elems[i]?=some y:=⟨elems[i],List.getElem?_eq_getElem (by omega)⟩
   rw[hy,Option.bind_eq_some_iff,hce,Nat.mul_one]at yL
   obtain⟨c1,hc,W7⟩:=yL
   obtain⟨s',g1,g2,_⟩:=DataW.trod_string he W7
   have Fg:=(World.cells?_some hc).2.2 0 (by omega)
   have Q7:(elems.map (·.1))[i]?=some (DataW.lit (.string s'.data.toList)):=by rw[List.getElem?_map,hy,g2];rfl
   rw[←PS,List.getElem?_map,hs]at Q7
   have h5:s.data.toList=s'.data.toList:=by simpa using Q7
   have:s=s':=by
    apply ByteArray.ext
    exact Array.toList_inj.1 h5
   rw[this]
   have e0:(a.add i).add 0=a.add i:=by simp[Addr.add]
   rw[e0]at Fg
   have g1':c1=[.string s']:=by simpa using g1
   rw[Fg,g1'];rfl
  have h0:=each 0 ss[0] (List.getElem?_eq_getElem eJ)
  obtain⟨b,off,spot⟩:=a
  have jP:spot=none:=by
   have e0:(⟨b,off,spot⟩:Addr).add 0=⟨b,off,spot⟩:=by simp[Addr.add]
   rw[e0]at h0
   unfold World.cell? at h0
   split at h0
   ·cases spot with
    |none=>rfl
    |some z=>simp at h0
   ·simp at h0
  subst jP
  refine⟨b,off,cap,by rw[T7];exact hcs,by omega,?_,fun i s hs=>?_⟩
  ·have e0:(⟨b,off,none⟩:Addr).add 0=⟨b,off,none⟩:=by simp[Addr.add]
   rw[e0]at h0
   exact World.block_lt_of_cell? _ _ h0
  ·have:=each i s hs
   rw[add_plain]at this
   exact this
theorem H3 {B:Nat} {g:Nat} {ss:List ByteArray} {b off cap:Nat} {e:TypeId} (hg:W.cell? ⟨g,0,none⟩=some (.slice (some ⟨b,off,none⟩) ss.length cap)) (aG:g<W.heap.size) (hb:b<W.heap.size) (mK:ss.length≤cap)
  (hc:∀i s,ss[i]?=some s→W.cell? ⟨b,off+i,none⟩=some (.string s)) (hB1:1≤B) (hB:off+ss.length≤B):
  Rel (G0 W B) W (.eL 1 [V.slice 1 e (ss.map fun s=>[V.str s])] 0) (.pointer (some ⟨g,0,none⟩)):=by
 have hr:Rel (G0 W B) W (.slice 1 e (ss.map fun s=>[V.str s])) (.slice (some ⟨b,off,none⟩) ss.length cap):=by
  have:=Rel.slice (G:=G0 W B) (w:=W) 1 e (ss.map fun s=>[V.str s]) b off cap (ss.map fun s=>[Value.string s]) (by simp) (by simpa using mK)
   (by simp only[G0,List.length_map,if_pos hb];omega)
   (fun i e he=>by
    simp only[List.getElem?_map,Option.map_eq_some_iff]at he
    obtain⟨_,_,rfl⟩:=he
    rfl)
   (fun i e he=>by
    simp only[List.getElem?_map,Option.map_eq_some_iff]at he
    obtain⟨_,_,rfl⟩:=he
    rfl)
   (fun i j x c hx Fg=>by
    simp only[List.getElem?_map,Option.map_eq_some_iff]at hx
    obtain⟨s,hs,rfl⟩:=hx
    match j with
    |0=>simp at Fg;subst Fg;exact⟨by rw[show off+i*1+0=off+i by omega];exact hc i s hs,rfl⟩
    |j+1=>simp at Fg)
   (fun i j e x v c he hx hv Fg=>by
    simp only[List.getElem?_map,Option.map_eq_some_iff]at he hx
    obtain⟨s,hs,rfl⟩:=hx
    obtain⟨s',n8,rfl⟩:=he
    rw[hs]at n8
    obtain rfl:=Option.some.inj n8
    match j with
    |0=>simp at Fg hv;subst Fg;subst hv;exact .str _
    |j+1=>simp at Fg)
  simpa using this
 refine Rel.eL 1 [V.slice 1 e (ss.map fun s=>[V.str s])] 0 g 0 [.slice (some ⟨b,off,none⟩) ss.length cap] rfl rfl ?_ ?_ ?_
 ·show 0+1≤if g<W.heap.size then B else 0
  rw[if_pos aG];omega
 ·intro i c tb
  match i with
  |0=>simp at tb;subst tb;exact⟨hg,rfl⟩
  |i+1=>simp at tb
 ·intro i v c hv tb
  match i with
  |0=>simp at hv tb;subst hv;subst tb;exact hr
  |i+1=>simp at hv
theorem Q8 {f:Func} {s:ChangeSpec} {tS:TypeId} {W':World} {G':Gh} {B:Nat} {v:Value} {d:DataW H} {before:List MemPlace} {tB:TypeId}
  (hp:f.params=#[tS]) (hr:f.resultTypes=#[tB]) (hB:P.underlying tB=some .bool) (Zq:s.vars=[]) (hfn:s.fn H [d]={results:=[.lit (.bool true)],args:=[d]})
  (hl:laidOutB P=true) (hrr:P.readableRec tS=true) (MA:tS<P.types.size)
  (hW:DataW.Whole enc P f.params.toList s.vars false W [v] [d] [] before) (hE:Ext (G0 W B) W G' W'):
  s.post enc P f false true false false W #[v] (.bool true) W':=by
 have hb:=H2 hE
 have aG:=hW.lt
 obtain⟨p,q,hA,hV,hpq,hz,hn⟩:=id hW
 rw[hp]at hA
 obtain⟨v0,vs0,d0,ds0,p0,q0,CN,Ko,iE,h0,r0⟩:=trodAll_cons hA
 obtain⟨rfl,rfl,rfl⟩:=trodAll_nil r0
 simp only[List.cons.injEq,and_true]at CN Ko
 subst CN;subst Ko
 rw[Zq]at hV
 obtain⟨_,rfl⟩:=trodVars_none hV
 simp only[List.append_nil]at iE hpq
 subst iE;subst hpq
 have aat:∀(b:Nat) (sp:Nat→Bool) (hd:Bool),DataW.TrodAll enc P W' b sp hd f.resultTypes.toList ((Value.bool true).resultList f.resultTypes.size) (s.fn H ([d]++[])).results []:=by
  intro b sp hd
  rw[List.append_nil,hfn,hr]
  exact trodAll_mk1 ⟨1,by simp[DataW.trod,hB,Value.cells]⟩
 refine⟨[d],[],before,[],before,[],hW,aat _ _ _,?_,?_,hb.frame _,fun h=>by cases h⟩
 ·rw[List.append_nil,hfn,hp]
  exact trodAll_mk1 (RowKit.Below.trod hl hrr MA h0 hb fun x hx=>aG x hx)
 ·rw[Zq,List.append_nil,hfn];exact rfl
end
end Go.Ab
end
section
namespace Go.Ab.Mk
open Go.Proofs Go.Ab Go.Proofs.Mk
theorem Ge (s:ByteArray) (hs:s.size<2^61) (σ:az):∃(b2 b:Nat) (E:List bO) (eM:az),ah C 13 [(.str s,false)] σ=some (.ret [(.agg [.ptr 82 b2 0,.ptr 49 b 0],false)],eM)∧Km eM b2 b E∧Old σ eM:=by
 obtain⟨p,n,a1,a2,τ,h1,h2⟩:=Q4 s hs (fu:=3000) (by decide) σ
 have e1:∀(K:List Cell→az→Option aQ) KP,aA (ah C) 26 [(.str s,false),(.int .i64 3000,false)] σ 3 K KP=K [(p,false),(.int .i64 n,false),(.agg [.int .i64 a1,.int .i64 a2],false)] (σ++τ):=fun K KP=>bM h1 rfl
 have HY:∀x y:V,V.fits (.agg [x,y]) true 2=true:=fun _ _=>rfl
 have hcell:∀x y:V,V.cell (.agg [x,y]) 0=x:=fun _ _=>rfl
 have pO:∀x y:V,V.cell (.agg [x,y]) 1=y:=fun _ _=>rfl
 rcases h2 with rfl|⟨E,w,b,rfl,JM,hb,hE,hG,hd,Gd⟩
 ·have hb:(σ++τ++[[((.slice 21 58 [],false):Cell),(.bool false,false)]])[(σ++τ).length]?=some [(.slice 21 58 (([]:List bO).map bO.enc),false),(.bool false,false)]:=fH _ _
  obtain⟨b2,E',eM,r1,r2,r3⟩:=CM (σ0:=σ) (E:=[]) .nil (by simp) (by simp) (by simp) (by simp) ((Old.app σ τ).trans (Old.app _ _)) hb
  have e2:∀(K:List Cell→az→Option aQ) KP,aA (ah C) 27 [(.ptr 49 (σ++τ).length 0,false)] (σ++τ++[[((.slice 21 58 [],false):Cell),(.bool false,false)]]) 1 K KP=K [(.agg [.ptr 82 b2 0,.ptr 49 (σ++τ).length 0],false)] eM:=fun K KP=>ab r1
  refine⟨b2,_,E',eM,Gf (n:=0) ?_,r2,r3⟩
  simp only[world,aE,aF,aP,dS,ae,aM,bQ,aq,yZ,e1,List.getD_cons_zero,List.getD_cons_succ,HY,bz,cond_true,Option.bind_some,show V.mH .kc=some true from rfl,e2,hcell,pO]
 ·have S8:∀e∈E,Kk e:=fun e he=>⟨(hE.MY e he).kind,(hE.MY e he).name,(hE.MY e he).XN,(hd e he).1,(hd e he).2.1,(hd e he).2.2,(hE.MY e he).aT,(hE.MY e he).zb⟩
  obtain⟨b2,E',eM,r1,r2,r3⟩:=CM (σ0:=σ) hG S8 hE.len Gd JM (Old.app σ τ) (q:=true) (w:=w) hb
  have e2:∀(K:List Cell→az→Option aQ) KP,aA (ah C) 27 [(.ptr 49 b 0,false)] (σ++τ) 1 K KP=K [(.agg [.ptr 82 b2 0,.ptr 49 b 0],false)] eM:=fun K KP=>ab r1
  refine⟨b2,b,E',eM,Gf (n:=0) ?_,r2,r3⟩
  simp only[world,aE,aF,aP,dS,ae,aM,bQ,aq,yZ,e1,List.getD_cons_zero,List.getD_cons_succ,HY,bz,cond_true,cond_false,Option.bind_some,show V.mH (.ptr 49 b 0)=some false from rfl,e2,hcell,pO]
theorem adn {i n:Nat}:decide ((i:Int)≤(n:Int))=decide (i≤n):=by simp
theorem mc {N:Nat} {s:ByteArray} (hs:s.size<2^30) {σ:az}:∀(m i:Nat) (ns:List ByteArray) (w:ByteArray),i≤s.size+1→s.size+1 - i<m→ns.length≤i→w.size≤i→(∀x∈ns,x.size≤s.size)→
  ∃PT:List ByteArray,kD (ah C) N m s (strs ns) w i σ=some (.ret [(.slice 1 9 (strs PT),true)],σ)∧PT.length≤s.size+1∧∀x∈PT,x.size≤s.size
 |0,i,_,_,_,hm,_,_,_=>by omega
 |m+1,i,ns,w,hi,hm,hn,hw,hx=>by
  rw[show kD (ah C) N (m+1)=ze (ah C) (kD (ah C) N m)from rfl]
  unfold ze dS bp iz
  have cC:room ((strs ns).length+1)=true:=cF (by rw[cw];omega)
  have hsn:∀x:ByteArray,strs ns++[[V.str x]]=strs (ns++[x]):=fun x=>by rw[lj];rfl
  rw[adn]
  by_cases hle:i≤s.size
  ·have tC:IntKind.wrap .i64 ((i:Int)+1)=((i+1:Nat):Int):=aw (by omega)
   rw[decide_eq_true hle,cond_true,tC]
   have ih0:=mc (N:=N) hs (σ:=σ) m (i+1) ns (ByteArray.mk #[]) (by omega) (by omega) (by omega) (Nat.zero_le _) hx
   have Xx:=mc (N:=N) hs (σ:=σ) m (i+1) (ns++[w]) (ByteArray.mk #[]) (by omega) (by omega) (by rw[List.length_append,List.length_singleton];omega) (Nat.zero_le _) (fun x h=>by
    rcases List.mem_append.1 h with h|h
    ·exact hx x h
    ·rw[List.mem_singleton]at h;subst h;omega)
   have fin:∃PT:List ByteArray,(bif (!(w.toList==(ByteArray.mk #[]).toList))then(bz (room ((strs ns).length+1))).bind fun _=>kD (ah C) N m s (strs ns++[[V.str w]]) (ByteArray.mk #[]) ((i+1:Nat):Int) σ else kD (ah C) N m s (strs ns) (ByteArray.mk #[]) ((i+1:Nat):Int) σ)=some (.ret [(.slice 1 9 (strs PT),true)],σ)∧PT.length≤s.size+1∧∀x∈PT,x.size≤s.size:=by
    cases hc:(!(w.toList==(ByteArray.mk #[]).toList))with
    |true=>
     rw[cond_true,cC]
     simp only[bz,cond_true,Option.bind_some,hsn]
     exact Xx
    |false=>rw[cond_false];exact ih0
   by_cases aG:i<s.size
   ·have S9:(decide ((0:Int)≤(i:Int))&&decide ((i:Int)≤((i+1:Nat):Int))&&decide (((i+1:Nat):Int)≤(s.size:Int)))=true:=by simp;omega
    have uw:(s.extract i (i+1)).size=1:=by rw[ByteArray.size_extract];omega
    have hsr:fm w (s.extract i (i+1))=true:=by
     unfold fm
     rw[uw]
     refine decide_eq_true ?_
     have:=(Nat.log2_lt (n:=w.size+1) (k:=62) (by omega)).2 (by omega)
     omega
    have Xy:=mc (N:=N) hs (σ:=σ) m (i+1) ns (w++s.extract i (i+1)) (by omega) (by omega) (by omega) (by rw[ByteArray.size_append,uw];omega) hx
    have rB:decide ((i:Int)<(s.size:Int))=true:=by simp;omega
    rw[rB,cond_true,d0]
    simp only[Bool.and_self,bz,cond_true,Option.bind_some]
    cases hb:av s (Int.toNat (i:Int)) != 32 with
    |true=>
     rw[d0]at S9
     simp only[cond_true,S9,hsr,Option.bind_some,Int.toNat_natCast]
     exact Xy
    |false=>
     simp only[cond_false]
     exact fin
   ·have rB:decide ((i:Int)<(s.size:Int))=false:=by simp;omega
    rw[rB,cond_false]
    exact fin
  ·rw[decide_eq_false hle,cond_false]
   exact⟨ns,rfl,by omega,hx⟩
theorem Kp (s:ByteArray) (hs:s.size<2^30) (σ:az):∃ns:List ByteArray,ah C 14 [(.str s,false)] σ=some (.ret [(.slice 1 9 (strs ns),true)],σ)∧ns.length≤s.size+1∧∀x∈ns,x.size≤s.size:=by
 obtain⟨ns,h1,h2⟩:=mc (N:=s.size+2) hs (σ:=σ) (s.size+2) 0 [] (ByteArray.mk #[]) (by omega) (by omega) (Nat.le_refl _) (Nat.le_refl _) (by simp)
 exact⟨ns,Kq (n:=s.size+2) (by simp only[lparams];exact h1),h2⟩
end Go.Ab.Mk
end
section
namespace Go.Ab.Mk
open Go.Proofs Go.Ab Go.Proofs.Mk
theorem Kr {E:List bO} (h:∀e∈E,Kk e) {q:ByteArray} {ps:List ByteArray} {t:Tm} (ht:dV q E=some (ps,t)):ps.length<2^20∧t.wide<2^60:=by
 unfold dV at ht
 split at ht
 ·simp at ht
 ·rename_i k e i hf
  obtain⟨he,w9⟩:=jh hf
  have eo:=h e he
  split at ht
  ·rename_i hk
   subst hk
   obtain⟨hi,c,hc,_⟩:=pQ eo.kind.2 w9
   simp only[Option.some.injEq,Prod.mk.injEq]at ht
   obtain⟨rfl,rfl⟩:=ht
   rw[List.getD_eq_getElem?_getD,hc]
   have:=(eo.dok.ctors c (List.mem_of_getElem? hc)).2.wide
   exact⟨eo.aT,by show c.2.wide<_;omega⟩
  ·split at ht
   ·simp only[Option.some.injEq,Prod.mk.injEq]at ht
    obtain⟨rfl,rfl⟩:=ht
    exact⟨eo.zb,by have:=eo.rt;omega⟩
   ·simp only[Option.some.injEq,Prod.mk.injEq]at ht
    obtain⟨rfl,rfl⟩:=ht
    have:=eo.dok.type.wide
    exact⟨eo.aT,by omega⟩
section
variable {σ:az} {b2 b:Nat} {E:List bO} {N:Nat}
theorem H4 (h:Km σ b2 b E):∃m:PM,Mk.uM b2 σ=some ((E.map (·.d)).map Dc.enc,m.1,m.2)∧Knw E m:=by
 obtain⟨c,m,h1,h2,h3⟩:=h.abQ
 refine⟨m,?_,h3⟩
 simp only[Mk.uM,h1,mU,h2.of (show(E.map (·.d)).length<100000000 by rw[List.length_map];have:=h.len;omega),Option.bind_some]
theorem Q9 (h:Km σ b2 b E) (q:ByteArray):ah C 15 [(.ptr 82 b2 0,false),(.str q,false)] σ=some (.ret (match dV q E with
  |some (ps,t)=>[(.slice 1 9 (strs ps),false),(t.val,false),(.bool true,false)]
  |none=>[(.slice 1 9 [],false),((Tm.var 0).val,false),(.bool false,false)]),σ):=by
 obtain⟨m,h1,h2⟩:=H4 h
 refine ma (s:=Mk.oR) (by kernel_rfl) ?_
 simp only[Mk.oR,and_self,if_true,h1,Option.bind_some]
 have hg:=h2.get q
 cases ht:dV q E with
 |none=>
  rw[ht]at hg
  simp only at hg
  rw[show Mk.nC (m.1,m.2) q=none from hg]
  rfl
 |some p=>
  obtain⟨ps,t⟩:=p
  rw[ht]at hg
  obtain⟨x,hx,w,n,rfl⟩:=hg
  rw[show Mk.nC (m.1,m.2) q=some _ from hx,t.aX]
  rfl
theorem MZ (h:Km σ b2 b E) (q:ByteArray):ah C 17 [(.ptr 82 b2 0,false),(.str q,false)] σ=some (.ret [(.bool (dV q E).isSome,false)],σ):=by
 obtain⟨m,h1,h2⟩:=H4 h
 refine ma (s:=Mk.mC) (by kernel_rfl) ?_
 simp only[Mk.mC,and_self,if_true,h1,Option.bind_some]
 have hg:=h2.get q
 cases ht:dV q E with
 |none=>
  rw[ht]at hg
  simp only at hg
  rw[show Mk.nC (m.1,m.2) q=none from hg]
  rfl
 |some p=>
  obtain⟨ps,t⟩:=p
  rw[ht]at hg
  obtain⟨x,hx,_⟩:=hg
  rw[show Mk.nC (m.1,m.2) q=some _ from hx]
  rfl
theorem M0 (h:Km σ b2 b E):ah C 20 [(.ptr 82 b2 0,false)] σ=some (.ret [(.slice 15 56 ((E.map (·.d)).map Dc.enc),false)],σ):=by
 obtain⟨m,h1,_⟩:=H4 h
 refine ma (s:=Mk.mD) (by kernel_rfl) ?_
 simp only[Mk.mD,and_self,if_true,h1,Option.bind_some]
variable {o:kV}
theorem AO (h:Km σ b2 b E):∀(m i:Nat),i≤E.length→E.length - i<m→
  tD (ah C) N m (.slice 15 56 ((E.map (·.d)).map Dc.enc)) i o.k o.s o.t o.u o.a o.b (.ptr 82 b2 0) (.ptr 49 b 0) σ=some (.ret [(.bool true,false)],σ)
 |0,i,_,hm=>by omega
 |m+1,i,hi,hm=>by
  rw[show tD (ah C) N (m+1)=H5 (ah C) (tD (ah C) N m)from rfl]
  unfold H5 cz bo dS aE aF ak cB ae aq bp
  have has:∀l,V.asSlice (.slice 15 56 l) 15 56=some l:=fun l=>by simp[V.asSlice]
  simp only[has,Option.bind_some,List.length_map]
  have hl:=h.len
  by_cases aG:i<E.length
  ·have ge:=h.Bz _ (List.getElem_mem aG)
   have e1:∀(K:List Cell→az→Option aQ) KP,aA (ah C) 21 [((E[i]).d.val,false),((E[i]).d.val,false)] σ 1 K KP=K [(.bool true,false)] σ:=fun K KP=>ab (HV ge.dok (by have:=ge.prd;omega) σ)
   have hg:((E.map (·.d)).map Dc.enc).getD (Int.toNat (i:Int)) []=(E[i]).d.enc:=by rw[Int.toNat_natCast];simp[aG]
   have hv:V.agg [(E[i]).d.enc.getD 0 V.any,(E[i]).d.enc.getD 1 V.any,(E[i]).d.enc.getD 2 V.any,(E[i]).d.enc.getD 3 V.any,(E[i]).d.enc.getD 4 V.any,(E[i]).d.enc.getD 5 V.any,(E[i]).d.enc.getD 6 V.any,(E[i]).d.enc.getD 7 V.any,(E[i]).d.enc.getD 8 V.any,(E[i]).d.enc.getD 9 V.any,(E[i]).d.enc.getD 10 V.any,(E[i]).d.enc.getD 11 V.any,(E[i]).d.enc.getD 12 V.any,(E[i]).d.enc.getD 13 V.any,(E[i]).d.enc.getD 14 V.any]=(E[i]).d.val:=by
    simp only[Dc.val,Dc.enc,Tm.aX];rfl
   have ih:=AO h m (i+1) (by omega) (by omega)
   simp only[eD aG,cond_true,d0,Bool.and_self,bz,Option.bind_some,hg,hv,show V.kv (.ptr 49 b 0)=some (.ptr 49 b 0)from rfl,show V.oJ (.ptr 49 b 0)=true from rfl,show V.mO (.ptr 49 b 0) 0=.ptr 49 b 0 from rfl,h.env,asE,List.length_map,eD aG,tz aG,Kn,e1,List.getD_cons_zero,iD,Bool.not_true,cond_false,aw (show i<2^61 by omega)]
   exact ih
  ·rw[cQ aG,cond_false]
theorem AP (h:Km σ b2 b E) (hN:2^20≤N) {ns:List ByteArray} (hn:ns.length<2^33):∀(m i:Nat),i≤ns.length→ns.length - i<m→
  tE (ah C) N m (.slice 1 9 (strs ns)) i o.k o.s o.t o.u o.a o.b (.ptr 82 b2 0) (.ptr 49 b 0) σ=some (.ret [(.bool true,false)],σ)
 |0,i,_,hm=>by omega
 |m+1,i,hi,hm=>by
  rw[show tE (ah C) N (m+1)=H6 (ah C) (tD (ah C) N N) (tE (ah C) N m)from rfl]
  unfold H6 cz bo aE aF ak bQ aH ae aq cB bA bp aM dS
  simp only[asN,Option.bind_some,cw]
  have hl:=h.len
  by_cases aG:i<ns.length
  ·have hg:(strs ns).getD (Int.toNat (i:Int)) []=[.str ns[i]]:=by rw[Int.toNat_natCast];exact ib aG
   have ih:=AP h hN hn m (i+1) (by omega) (by omega)
   have JN:=Q9 h ns[i]
   have XO:=AQ h.env (Kk.adm h.Bz hl) (fun e he=>(h.Bz e he).kind) ns[i]
   have e3:∀(K:List Cell→az→Option aQ) KP,aA (ah C) 17 [(.ptr 82 b2 0,false),(.str ns[i],false)] σ 1 K KP=K [(.bool (dV ns[i] E).isSome,false)] σ:=fun K KP=>ab (MZ h ns[i])
   cases ht:dV ns[i] E with
   |none=>
    rw[ht]at JN XO e3
    have e1:∀(K:List Cell→az→Option aQ) KP,aA (ah C) 15 [(.ptr 82 b2 0,false),(.str ns[i],false)] σ 3 K KP=K [(.slice 1 9 [],false),((Tm.var 0).val,false),(.bool false,false)] σ:=fun K KP=>bM JN rfl
    have e2:∀(K:List Cell→az→Option aQ) KP,aA (ah C) 16 [(.ptr 49 b 0,false),(.str ns[i],false)] σ 3 K KP=K [(.slice 1 9 [],true),((Tm.var 0).val,false),(.bool false,false)] σ:=fun K KP=>bM XO rfl
    have e4:∀(K:List Cell→az→Option aQ) KP,aA (ah C) 18 [(.slice 1 9 [],false),(.slice 1 9 [],false)] σ 1 K KP=K [(.bool true,false)] σ:=fun K KP=>ab (uN (ps:=[]) (by simp) σ)
    simp only[eD aG,cond_true,d0,Bool.and_self,bz,Option.bind_some,hg,List.getD_cons_zero,List.getD_cons_succ,e1,aL,e2,e3,e4,iD,Option.isSome_none,BEq.rfl,Bool.not_true,cond_false,aw (show i<2^61 by omega)]
    exact ih
   |some p=>
    obtain⟨ps,t⟩:=p
    obtain⟨b1,b3⟩:=Kr h.Bz ht
    rw[ht]at JN XO e3
    have e1:∀(K:List Cell→az→Option aQ) KP,aA (ah C) 15 [(.ptr 82 b2 0,false),(.str ns[i],false)] σ 3 K KP=K [(.slice 1 9 (strs ps),false),(t.val,false),(.bool true,false)] σ:=fun K KP=>bM JN rfl
    have e2:∀(K:List Cell→az→Option aQ) KP,aA (ah C) 16 [(.ptr 49 b 0,false),(.str ns[i],false)] σ 3 K KP=K [(.slice 1 9 (strs ps),false),(t.val,false),(.bool true,false)] σ:=fun K KP=>bM XO rfl
    have e4:∀(K:List Cell→az→Option aQ) KP,aA (ah C) 18 [(.slice 1 9 (strs ps),false),(.slice 1 9 (strs ps),false)] σ 1 K KP=K [(.bool true,false)] σ:=fun K KP=>ab (uN (ps:=ps) (by omega) σ)
    have e5:∀(K:List Cell→az→Option aQ) KP,aA (ah C) 19 [(t.val,false),(t.val,false)] σ 1 K KP=K [(.bool true,false)] σ:=fun K KP=>ab (l0 σ t b3)
    simp only[eD aG,cond_true,d0,Bool.and_self,bz,Option.bind_some,hg,List.getD_cons_zero,List.getD_cons_succ,e1,aL,e2,e3,e4,iD,Option.isSome_some,BEq.rfl,Bool.not_true,cond_false,cY,e5,aw (show i<2^61 by omega)]
    exact ih
  ·have e1:∀(K:List Cell→az→Option aQ) KP,aA (ah C) 20 [(.ptr 82 b2 0,false)] σ 1 K KP=K [(.slice 15 56 ((E.map (·.d)).map Dc.enc),false)] σ:=fun K KP=>ab (M0 h)
   have has:∀l,V.asSlice (.slice 15 56 l) 15 56=some l:=fun l=>by simp[V.asSlice]
   simp only[cQ aG,cond_false,e1,List.getD_cons_zero,has,Option.bind_some,show V.kv (.ptr 49 b 0)=some (.ptr 49 b 0)from rfl,show V.oJ (.ptr 49 b 0)=true from rfl,show V.mO (.ptr 49 b 0) 0=.ptr 49 b 0 from rfl,bz,cond_true,h.env,asE,List.length_map,bne_self_eq_false]
   exact AO h N 0 (Nat.zero_le _) (by omega)
theorem AR (h:Km σ b2 b E) {i:Nat} (hi:i<E.length) {R} {x0 x1 x2 x3 x4 x5 x6 x7 x8 x9 x10 x11 x12 x13:V}:∀(m k:Nat) (ns:List ByteArray),k≤(E[i]).d.ctors.length→(E[i]).d.ctors.length - k<m→ns.length+(E[i]).d.ctors.length - k<2^32→
  (∀PT:List ByteArray,PT.length=ns.length+(E[i]).d.ctors.length - k→R (.slice 1 9 (strs PT)) (IntKind.wrap .i64 ((i:Int)+1)) o.k o.s o.t o.u o.a o.b (.ptr 82 b2 0) (.ptr 49 b 0) σ=some (.ret [(.bool true,false)],σ))→
   tF (ah C) N R m (strs ns) i k o.k o.s o.t o.u o.a o.b (.ptr 82 b2 0) (.ptr 49 b 0) x0 x1 x2 x3 x4 x5 x6 x7 x8 x9 x10 x11 x12 x13 (.slice 6 60 (E[i]).d.aY) σ=some (.ret [(.bool true,false)],σ)
 |0,k,ns,_,hm,_,_=>by omega
 |m+1,k,ns,hk,hm,hb,hR=>by
  rw[show tF (ah C) N R (m+1)=H7 (ah C) R (tF (ah C) N R m)from rfl]
  unfold H7 cz bo jq ak iz bp de
  have has:∀l,V.asSlice (.slice 6 60 l) 6 60=some l:=fun l=>by simp[V.asSlice]
  have M1:(E[i]).d.aY.length=(E[i]).d.ctors.length:=by simp[Dc.aY]
  simp only[has,Option.bind_some,M1]
  have hc:=(h.Bz _ (List.getElem_mem hi)).W3
  by_cases aG:k<(E[i]).d.ctors.length
  ·have hg:(E[i]).d.aY.getD (Int.toNat (k:Int)) []=.str ((E[i]).d.ctors[k]).1::((E[i]).d.ctors[k]).2.enc:=by rw[Int.toNat_natCast];simp[Dc.aY,aG]
   have hs:strs ns++[[V.str ((E[i]).d.ctors[k]).1]]=strs (ns++[((E[i]).d.ctors[k]).1]):=by rw[lj];rfl
   have cC:room ((strs ns).length+1)=true:=cF (by rw[cw];omega)
   have ih:=AR h hi (R:=R) (x0:=x0) (x1:=x1) (x2:=x2) (x3:=x3) (x4:=x4) (x5:=x5) (x6:=x6) (x7:=x7) (x8:=x8) (x9:=x9) (x10:=x10) (x11:=x11) (x12:=x12) (x13:=x13) m (k+1) (ns++[((E[i]).d.ctors[k]).1]) (by omega) (by omega) (by rw[List.length_append,List.length_singleton];omega) (fun PT hl=>hR PT (by rw[hl,List.length_append,List.length_singleton];omega))
   simp only[eD aG,cond_true,d0,Bool.and_self,bz,Option.bind_some,hg,List.getD_cons_zero,show V.fits (.str ((E[i]).d.ctors[k]).1) false 1=true from rfl,cC,hs,aw (show k<2^61 by omega)]
   exact ih
  ·rw[cQ aG,cond_false]
   exact hR ns (by omega)
theorem AS (h:Km σ b2 b E) (hN:2^33≤N):∀(m i:Nat) (ns:List ByteArray),i≤E.length→E.length - i<m→ns.length+2*(E.length - i)+((E.drop i).map fun e=>e.d.ctors.length).sum<2^32→
    tG (ah C) N m (.slice 1 9 (strs ns)) i o.k o.s o.t o.u o.a o.b (.ptr 82 b2 0) (.ptr 49 b 0) σ=some (.ret [(.bool true,false)],σ)
  |0,i,_,_,hm,_=>by omega
  |m+1,i,ns,hi,hm,hb=>by
   rw[show tG (ah C) N (m+1)=H8 (ah C) (tF (ah C) N (tG (ah C) N m) N) (tE (ah C) N N) (tG (ah C) N m)from rfl]
   unfold H8 dS cz bo dG ak jq gr
   have hl:=h.len
   simp only[show V.kv (.ptr 49 b 0)=some (.ptr 49 b 0)from rfl,show V.oJ (.ptr 49 b 0)=true from rfl,show V.mO (.ptr 49 b 0) 0=.ptr 49 b 0 from rfl,bz,cond_true,Option.bind_some,h.env,asE,List.length_map]
   by_cases aG:i<E.length
   · have ge:=h.Bz _ (List.getElem_mem aG)
     have hc:=ge.W3
     have Ta:(E[i]).enc.getD 1 V.any=.str (E[i]).d.name:=by rw[bO.aX];rfl
     have ado:(E[i]).enc.getD 14 V.any=.slice 6 60 (E[i]).d.aY:=by rw[bO.aX];rfl
     have hsr:fm (E[i]).d.name (ByteArray.mk #[46,114,101,99])=true:=by
       unfold fm
       have h4:(ByteArray.mk #[46,114,101,99]).size=4:=rfl
       have:=ge.name
       refine decide_eq_true ?_
       have:=(Nat.log2_lt (n:=(E[i]).d.name.size+(ByteArray.mk #[46,114,101,99]).size) (k:=62) (by omega)).2 (by omega)
       omega
     have hd:((E.drop i).map fun e=>e.d.ctors.length).sum=(E[i]).d.ctors.length+((E.drop (i+1)).map fun e=>e.d.ctors.length).sum:=by rw[List.drop_eq_getElem_cons aG,List.map_cons,List.sum_cons]
     have hs:strs ns++[[V.str (E[i]).d.name],[V.str ((E[i]).d.name++ByteArray.mk #[46,114,101,99])]]=strs (ns++[(E[i]).d.name,(E[i]).d.name++ByteArray.mk #[46,114,101,99]]):=by rw[lj];rfl
     have cC:room ((strs ns).length+2)=true:=room_le (by rw[cw];omega)
     have xp:∀l,V.kj (.slice 1 9 l) 1 9=some l:=fun l=>by simp[V.kj]
     simp only[eD aG,cond_true,d0,Bool.and_self,bz,Option.bind_some,tz aG,Ta,asS,hsr,show V.fits (.str (E[i]).d.name) false 1=true from rfl,xp,show ∀l,V.isFull (.slice 1 9 l)=false from fun _=>rfl,Bool.not_false,Bool.true_or,cC,hs,ado]
     refine AR h aG N 0 (ns++[(E[i]).d.name,(E[i]).d.name++ByteArray.mk #[46,114,101,99]]) (Nat.zero_le _) (by omega) (by simp only[List.length_append,List.length_cons,List.length_nil];omega) fun PT hl'=>?_
     rw[aw (show i<2^61 by omega)]
     simp only[List.length_append,List.length_cons,List.length_nil]at hl'
     exact AS h hN m (i+1) PT (by omega) (by omega) (by omega)
   · rw[cQ aG,cond_false]
     exact AP h (by omega) (by omega) N 0 (Nat.zero_le _) (by omega)
def Mr (o:kV) (b2 b:Nat):List V:=[.int .i64 o.k,.str o.s,.str o.t,.str o.u,.int .i64 o.a,.int .i64 o.b,.ptr 82 b2 0,.ptr 49 b 0]
theorem M3 (h:Km σ b2 b E) (hs:o.s.size<2^30):ah C 7 [(.agg (Mr o b2 b),false)] σ=some (.ret [(.bool true,false)],σ):=by
 obtain⟨ns,h1,h2,h3⟩:=Kp o.s hs σ
 have e1:∀(K:List Cell→az→Option aQ) KP,aA (ah C) 14 [(.str o.s,false)] σ 1 K KP=K [(.slice 1 9 (strs ns),true)] σ:=fun K KP=>ab h1
 refine Ra (n:=2^33) ?_
 simp only[known,aE,aM,AU,ae,e1,List.getD_cons_zero,Bool.and_self,bz,cond_true,Option.bind_some]
 exact AS h (Nat.le_refl _) (2^33) 0 ns (Nat.zero_le _) (by have:=h.len;omega) (by have:=h.len;have:=h.cts;rw[List.drop_zero];omega)
end
def H9 (σ:az) (x:List V):Prop:=∃(o:kV) (b2 b:Nat) (E:List bO),x=Mr o b2 b∧Km σ b2 b E∧o.s.size<2^30
theorem H9.rv {σ eM:az} {x:List V} (h:H9 σ x) (ho:Old σ eM):H9 eM x:=by
 obtain⟨o,b2,b,E,h1,h2,h3⟩:=h
 exact⟨o,b2,b,E,h1,h2.rv ho,h3⟩
section
variable {N:Nat}
theorem lk {L:List kV} (hL:L.length<2^30) (hs:∀o∈L,o.s.size<2^30):∀(m i:Nat) (out:List (List V)) (b2 b:Nat) (E:List bO) (σ:az),i≤L.length→L.length - i<m→out.length≤i→(∀x∈out,H9 σ x)→Km σ b2 b E→
  ∃(Ia:List (List V)) (eM:az),rN (ah C) N m (L.map kV.enc) 5 out i (.ptr 82 b2 0) (.ptr 49 b 0) σ=some (.ret [(.slice 8 34 Ia,false)],eM)∧(∀x∈Ia,H9 eM x)∧Ia.length≤L.length
 |0,i,_,_,_,_,_,_,hm,_,_,_=>by omega
 |m+1,i,out,b2,b,E,σ,hi,hm,hl,T8,hw=>by
  rw[show rN (ah C) N (m+1)=CO (ah C) (rN (ah C) N m)from rfl]
  unfold CO bo bb ak aE aM bQ ae iz bp aq
  rw[List.length_map]
  by_cases aG:i<L.length
  ·have BA:(L.map kV.enc).getD (Int.toNat (i:Int)) []=L[i].enc:=by simp[aG]
   have lQ:L[i].enc.getD 0 V.any=.int .i64 L[i].k:=rfl
   have kt:L[i].enc.getD 1 V.any=.str L[i].s:=rfl
   have pD:L[i].enc.getD 2 V.any=.str L[i].t:=rfl
   have Ib:L[i].enc.getD 3 V.any=.str L[i].u:=rfl
   have Zr:L[i].enc.getD 4 V.any=.int .i64 L[i].a:=rfl
   have hc5:L[i].enc.getD 5 V.any=.int .i64 L[i].b:=rfl
   have Xt:decide ((i:Int)<1152921504606846976)=true:=by simp;omega
   have cC:room (out.length+1)=true:=cF (by omega)
   have iM:=hs _ (List.getElem_mem aG)
   have HY:∀x y:V,V.fits (.agg [x,y]) true 2=true:=fun _ _=>rfl
   have hcell:∀x y:V,V.cell (.agg [x,y]) 0=x:=fun _ _=>rfl
   have pO:∀x y:V,V.cell (.agg [x,y]) 1=y:=fun _ _=>rfl
   obtain⟨c2,c,E',jH,w1,w2,w3⟩:=Ge L[i].s (by omega) σ
   have e1:∀(K:List Cell→az→Option aQ) KP,aA (ah C) 13 [(.str L[i].s,false)] σ 1 K KP=K [(.agg [.ptr 82 c2 0,.ptr 49 c 0],false)] jH:=fun K KP=>ab w1
   have join:∀(eM:az) (p2 p:Nat) (E:List bO),Km eM p2 p E→(∀x∈out,H9 eM x)→∀x∈out++[Mr L[i] p2 p],H9 eM x:=fun eM p2 p E hw' ho x hx=>by
    rcases List.mem_append.1 hx with hx|hx
    ·exact ho x hx
    ·rw[List.mem_singleton]at hx;exact⟨L[i],p2,p,E,hx,hw',iM⟩
   have Xx:=lk hL hs m (i+1) (out++[Mr L[i] c2 c]) c2 c E' jH (by omega) (by omega) (by rw[List.length_append,List.length_singleton];omega) (join jH c2 c E' w2 fun x hx=>(T8 x hx).rv w3) w2
   have Xy:=lk hL hs m (i+1) out c2 c E' jH (by omega) (by omega) (by omega) (fun x hx=>(T8 x hx).rv w3) w2
   have ih3:=lk hL hs m (i+1) (out++[Mr L[i] b2 b]) b2 b E σ (by omega) (by omega) (by rw[List.length_append,List.length_singleton];omega) (join σ b2 b E hw T8) hw
   have ih4:=lk hL hs m (i+1) out b2 b E σ (by omega) (by omega) (by omega) T8 hw
   simp only[eD aG,cond_true,Xt,d0,Bool.and_self,bz,Option.bind_some,BA,lQ,kt,pD,Ib,Zr,hc5,fT,e1,List.getD_cons_zero,HY,hcell,pO,cC,aw (show i<2^61 by omega)]
   cases L[i].k==4 with
   |true=>
    simp only[cond_true]
    cases L[i].k==5 with
    |true=>simp only[cond_true];exact Xx
    |false=>simp only[cond_false];exact Xy
   |false=>
    simp only[cond_false]
    cases L[i].k==5 with
    |true=>simp only[cond_true];exact ih3
    |false=>simp only[cond_false];exact ih4
  ·rw[cQ aG,cond_false]
   exact⟨out,σ,rfl,T8,by omega⟩
theorem M4 {L:List kV} (hL:L.length<2^30) (hs:∀o∈L,o.s.size<2^30) (σ:az):
  ∃(Ia:List (List V)) (eM:az),ah C 6 [(.slice 6 28 (L.map kV.enc),false),(.int .i64 5,false)] σ=some (.ret [(.slice 8 34 Ia,false)],eM)∧(∀x∈Ia,H9 eM x)∧Ia.length≤L.length:=by
 obtain⟨c2,c,E',jH,w1,w2,w3⟩:=Ge (ByteArray.mk #[]) (by decide) σ
 have e1:∀(K:List Cell→az→Option aQ) KP,aA (ah C) 13 [(.str (ByteArray.mk #[]),false)] σ 1 K KP=K [(.agg [.ptr 82 c2 0,.ptr 49 c 0],false)] jH:=fun K KP=>ab w1
 have HY:∀x y:V,V.fits (.agg [x,y]) true 2=true:=fun _ _=>rfl
 have hcell:∀x y:V,V.cell (.agg [x,y]) 0=x:=fun _ _=>rfl
 have pO:∀x y:V,V.cell (.agg [x,y]) 1=y:=fun _ _=>rfl
 obtain⟨Ia,eM,h1,h2⟩:=lk (N:=2^31) hL hs (2^31) 0 [] c2 c E' jH (Nat.zero_le _) (by omega) (Nat.le_refl _) (by simp) w2
 refine⟨Ia,eM,M5 (n:=2^31) ?_,h2⟩
 simp only[M6,aE,aM,bQ,ae,e1,List.getD_cons_zero,HY,hcell,pO,bz,cond_true,Option.bind_some]
 exact h1
theorem CP {out:List (List V)} {σ:az} (ho:∀x∈out,H9 σ x) (hl:out.length<2^31):∀(m i:Nat),i≤out.length→out.length - i<m→xq (ah C) N m (.slice 8 34 out) i σ=some (.ret [(.bool true,false)],σ)
 |0,i,_,hm=>by omega
 |m+1,i,hi,hm=>by
  rw[show xq (ah C) N (m+1)=Ic (ah C) (xq (ah C) N m)from rfl]
  unfold Ic cz bo aE aM ak cB ae aq bp
  have has:∀l,V.asSlice (.slice 8 34 l) 8 34=some l:=fun l=>by simp[V.asSlice]
  simp only[has,Option.bind_some]
  by_cases aG:i<out.length
  ·obtain⟨o,b2,b,E,hx,hw,iM⟩:=ho _ (List.getElem_mem aG)
   have hg:out.getD (Int.toNat (i:Int)) []=Mr o b2 b:=by rw[Int.toNat_natCast,List.getD_eq_getElem?_getD,List.getElem?_eq_getElem aG];exact hx
   have e1:∀(K:List Cell→az→Option aQ) KP,aA (ah C) 7 [(.agg (Mr o b2 b),false)] σ 1 K KP=K [(.bool true,false)] σ:=fun K KP=>ab (M3 hw iM)
   have hv:V.agg [(Mr o b2 b).getD 0 V.any,(Mr o b2 b).getD 1 V.any,(Mr o b2 b).getD 2 V.any,(Mr o b2 b).getD 3 V.any,(Mr o b2 b).getD 4 V.any,(Mr o b2 b).getD 5 V.any,(Mr o b2 b).getD 6 V.any,(Mr o b2 b).getD 7 V.any]=.agg (Mr o b2 b):=rfl
   have ih:=CP ho hl m (i+1) (by omega) (by omega)
   simp only[eD aG,cond_true,d0,Bool.and_self,bz,Option.bind_some,hg,hv,e1,List.getD_cons_zero,iD,Bool.not_true,cond_false,aw (show i<2^61 by omega)]
   exact ih
  ·rw[cQ aG,cond_false]
theorem Rb {L:List kV} (hL:L.length<2^30) (hs:∀o∈L,o.s.size<2^30) (σ:az):∃eM,ah C 3 [(.slice 6 28 (L.map kV.enc),false)] σ=some (.ret [(.bool true,false)],eM):=by
 have e1:∀(σ:az) (K:List Cell→az→Option aQ) KP,aA (ah C) 12 [] σ 1 K KP=K [(.ptr 82 σ.length 0,false)] (σ++[mU (.lit (.slice none 0 0),false) ([],[])]):=fun σ K KP=>ab (ma (s:=Mk.tA) (by kernel_rfl) rfl)
 have hb:ah C 5 [] σ=some (.ret [(.bool true,false)],σ++[mU (.lit (.slice none 0 0),false) ([],[])]):=Rc (n:=0) (by
  simp only[begun,aE,ae,aq,e1,List.getD_cons_zero,show V.mH (.ptr 82 σ.length 0)=some false from rfl,Option.bind_some,Bool.not_false])
 have e2:∀(K:List Cell→az→Option aQ) KP,aA (ah C) 5 [] σ 1 K KP=K [(.bool true,false)] (σ++[mU (.lit (.slice none 0 0),false) ([],[])]):=fun K KP=>ab hb
 obtain⟨out,eM,h1,h2,h3⟩:=M4 hL hs (σ++[mU (.lit (.slice none 0 0),false) ([],[])])
 have e3:∀(K:List Cell→az→Option aQ) KP,aA (ah C) 6 [(.slice 6 28 (L.map kV.enc),false),(.int .i64 5,false)] (σ++[mU (.lit (.slice none 0 0),false) ([],[])]) 1 K KP=K [(.slice 8 34 out,false)] eM:=fun K KP=>ab h1
 refine⟨eM,Rd (n:=2^32) ?_⟩
 simp only[T9,aE,cB,ae,aq,aF,aP,e2,List.getD_cons_zero,iD,Option.bind_some,Bool.not_true,cond_false,e3]
 exact CP h2 (by omega) (2^32) 0 (Nat.zero_le _) (by omega)
end
end Go.Ab.Mk
end
section
namespace Go.Ab
open Go.RowKit Go.Proofs
set_option maxRecDepth 100000
set_option maxHeartbeats 1000000
theorem Mk.Ua (w:World):Calls Tryz.prog 12 #[] w fun e w'=>e=.returned (.pointer (some ⟨w.heap.size+1,0,none⟩))∧w'=(w.alloc (.map #[] 0)).alloc (.cells #[.slice none 0 0,.map (some w.heap.size)] 82):=by
 have hmm:=@run_makeMap Tryz.prog
 go_enter Tryz.func12,Tryz.ntmps12
 go_wp2
 go_ret
 refine⟨?_,rfl⟩
 simp
theorem Mk.Zs (w:World):(zeroValue 84).run Tryz.prog w=.ok (.pointer none) w:=by kernel_rfl
structure Mk.XP (w:World) (mb:Nat) (bY:Array MapEntry) (clock:Nat) (ks:List ByteArray):Prop where
 hb:w.heap[mb]?=some (.map bY clock)
 keys:bY.toList.map (fun e=>e.key)=ks.map (fun s=>Value.string s)
theorem Mk.Ub:Tryz.prog.underlying 84=some (.pointer (Tryz.prog.pointee 84)):=by kernel_rfl
theorem Mk.M7 (w:World) (qb mb:Nat) (bY:Array MapEntry) (clock:Nat) (ks:List ByteArray) (s:ByteArray) (c1:w.cell? ⟨qb,1,none⟩=some (.map (some mb))) (hM:Mk.XP w mb bY clock ks) (uy:∀(i:Nat) (e:MapEntry),bY[i]?=some e→∃b off,e.val=.pointer (some ⟨b,off,none⟩)):
  Calls Tryz.prog 17 #[.pointer (some ⟨qb,0,none⟩),.string s] w fun e w'=>e=.returned (.bool (ks.idxOf? s).isSome)∧w'=w:=by
 go_enter Tryz.func17,Tryz.ntmps17
 go_wp2_with (first
  |(at_lookup;refine Gg rfl rfl Tryz.underlying9 Tryz.underlying80 (Mk.Zs _) rfl hM.hb hM.keys rfl (fun hn=>?_) (fun j e hj he=>?_))
  |fail)
 ·go_wp2
  go_ret
  rw[hn]
  exact⟨rfl,rfl⟩
 ·obtain⟨eb,off,hp⟩:=uy j e he
  rw[hp]
  have hu:(binOp .neq 84 (.pointer (some ⟨eb,off,none⟩)) (.pointer none)).run Tryz.prog w=.ok (.bool true) w:=run_neq_pointer_nil w _ _ Mk.Ub
  go_wp2
  simp only[eqGuard_at_pointer,Sem.run_pure,Result.andThen_ok,hu]
  go_wp2
  go_ret
  rw[hj]
  exact⟨rfl,rfl⟩
end Go.Ab
end
section
namespace Go.Ab
open Go.RowKit Go.Proofs
set_option maxRecDepth 100000
set_option maxHeartbeats 1000000
structure Mk.Uc (G:Gh) (w:World) (b:Nat) (c:Cell) (ds:List (List V)) (ks:List ByteArray) (es:List (List V)) (x0:Value) (mb:Nat) (bY:Array MapEntry) (clock:Nat):Prop where
 eZ:∃el,w.heap[G.μ b]?=some (.cells #[x0,.map (some mb)] el (0,0))
 row:je G w (.gc b 0) c x0
 of:Mk.rowOf 15 56 c=some ds
 map:Mk.XP w mb bY clock ks
 len:es.length=ks.length
 nodup:ks.Nodup
 el:∀(i:Nat) (x:List V) (e:MapEntry),es[i]?=some x→bY[i]?=some e→Rel G w (.eL x.length x 0) e.val∧e.val.oneCell'=true
 own:G.owner mb=some (.gc b 1)∧G.ah mb=0
theorem Mk.tH {gl:Nat→Option (List V)} {G:Gh} {w:World} {σ:az} {b:Nat} {ds es:List (List V)} {ks:List ByteArray} (hS:dR gl G w σ) (h:Mk.uM b σ=some (ds,ks,es)):
  ∃c x0 mb bY clock,σ[b]?=some [c,(.jM ks es,true)]∧Mk.Uc G w b c ds ks es x0 mb bY clock:=by
 unfold Mk.uM at h
 split at h
 case h_2=>simp at h
 rename_i c ks' es' hb
 obtain⟨ds',hd,h1⟩:=Option.bind_eq_some_iff.1 h
 simp only[Option.some.injEq,Prod.mk.injEq]at h1
 obtain⟨rfl,rfl,rfl⟩:=h1
 obtain⟨cv,el,g1,g2,g3,g4,g5⟩:=hS.eZ b _ hb
 obtain⟨x0,x1,rfl⟩:∃x0 x1,cv=#[x0,x1]:=by
  have hl:cv.toList.length=2:=by simpa using g2
  match hh:cv.toList,hl with
  |[x0,x1],_=>exact⟨x0,x1,by apply Array.ext';rw[hh]⟩
 obtain⟨r0,_⟩:=g5 0 c x0 rfl rfl
 obtain⟨⟨r1,o1⟩,_⟩:=g5 1 _ x1 rfl rfl
 have o1:=o1 rfl
 simp only at r1 o1
 cases r1 with
 |jM _ _ mb=>
 obtain⟨p1,p2,bY,clock,q1,q2,q3,q4,q5⟩:=o1
 exact⟨c,x0,mb,bY,clock,hb,⟨el,g1⟩,r0,hd,⟨q1,q2⟩,q3,q4,q5,p1,p2⟩
theorem Mk.CQ {G:Gh} {w:World} {k:Nat} {x:List V} {c:Value} (h:Rel G w (.eL k x 0) c):∃b off,c=.pointer (some ⟨b,off,none⟩):=by
 cases h with
 |eL _ _ _ b off cs=>exact⟨b,off,by simp⟩
theorem Ud {C:Ctx} (ig:∀(args:Array Value) (w:World),(callFunc 12 args).run Tryz.prog w=.ok (.enter 12 args) w):
  ji Tryz.prog C (fun g args σ=>if g=12 then Mk.tA args σ else none):=by
 intro g args σ r h0
 simp only at h0
 split at h0
 case isFalse=>simp at h0
 rename_i BD
 subst BD
 refine⟨ig,fun G w vals hS gE hlen hv=>?_⟩
 unfold Mk.tA at h0
 split at h0
 case h_2=>simp at h0
 obtain rfl:=Option.some.inj h0
 obtain rfl:vals=[]:=by simpa using hlen
 refine(Mk.Ua w).mono ?_
 rintro e w' ⟨rfl,rfl⟩
 have I1:=(Ue hS).alloc (.map #[] 0) 0 (some (.gc σ.length 1))
 have E1:=Ext.alloc hS.wf (.map #[] 0) 0 (some (.gc σ.length 1))
 have xa:(w.alloc (.map #[] 0)).heap[w.heap.size]?=some (.map #[] 0):=heap_alloc_new _ _
 obtain⟨G',E2,I2,n2,m2,t2⟩:=I1.Uf (C:=C) [(.lit (.slice none 0 0),false),(.jM [] [],true)] #[.slice none 0 0,.map (some w.heap.size)] 82 rfl (fun j c x hc hx=>by
  match j with
  |0=>simp at hc hx;subst hc;subst hx;exact⟨⟨.lit _ rfl,fun ho=>by simp at ho⟩,rfl⟩
  |1=>
   simp at hc hx;subst hc;subst hx
   refine⟨⟨.jM _ _ _,fun _=>⟨by simp[Gh.new,lX],by simp[Gh.new,lX],#[],0,xa,rfl,rfl,List.nodup_nil,fun i x e hx=>by simp at hx⟩⟩,rfl⟩
  |j+2=>simp at hc)
 refine⟨G',E1.trans E2,I2.bP,[.pointer (some ⟨w.heap.size+1,0,none⟩)],rfl,by simp,fun i c x hc hx=>?_⟩
 match i with
 |0=>
  simp at hc hx;subst hc;subst hx
  have hp:=Rel.ptr (G:=G') (w:=(w.alloc (.map #[] 0)).alloc (.cells #[.slice none 0 0,.map (some w.heap.size)] 82)) 82 σ.length 0 (by rw[n2];simp) t2
  have hm:G'.μ σ.length=w.heap.size+1:=by rw[show σ.length=_ from rfl,m2];simp
  rw[hm]at hp
  exact⟨hp,fun ho=>by simp at ho⟩
 |i+1=>simp at hc
theorem M8 {C:Ctx} (ig:∀(args:Array Value) (w:World),(callFunc 17 args).run Tryz.prog w=.ok (.enter 17 args) w):
  ji Tryz.prog C (fun g args σ=>if g=17 then Mk.mC args σ else none):=by
 intro g args σ r h0
 simp only at h0
 split at h0
 case isFalse=>simp at h0
 rename_i BD
 subst BD
 refine⟨ig,fun G w vals hS gE hlen hv=>?_⟩
 unfold Mk.mC at h0
 split at h0
 case h_2=>simp at h0
 rename_i t b o ow s ow2
 split at h0
 case isFalse=>simp at h0
 rename_i Ug
 obtain⟨rfl,rfl⟩:=Ug
 obtain⟨p,hp,h1⟩:=Option.bind_eq_some_iff.1 h0
 obtain rfl:=Option.some.inj h1
 obtain⟨ds,ks,es⟩:=p
 obtain⟨x,y,rfl⟩:∃x y,vals=[x,y]:=by
  match vals,hlen with
  |[x,y],_=>exact⟨x,y,rfl⟩
 have r0:=(hv 0 _ x rfl rfl).1
 have r1:=(hv 1 _ y rfl rfl).1
 simp only at r0 r1
 cases r0 with
 |ptr _ _ _ M9 Ie=>
 cases r1 with
 |str=>
 obtain⟨c,x0,mb,bY,clock,hb,hX⟩:=Mk.tH hS hp
 obtain⟨el,jR⟩:=hX.eZ
 have c1:w.cell? ⟨G.μ b,1,none⟩=some (.map (some mb)):=aj jR 1
 have XM:bY.size=ks.length:=by have:=congrArg List.length hX.map.keys;simpa using this
 refine(Mk.M7 w (G.μ b) mb bY clock ks s c1 hX.map (fun i e he=>by
  have hi:=(Array.getElem?_eq_some_iff.1 he).1
  have hx:es[i]?=some (es[i]'(by rw[hX.len];omega)):=List.getElem?_eq_getElem _
  exact Mk.CQ (hX.el i _ e hx he).1)).mono ?_
 rintro e w' ⟨rfl,rfl⟩
 refine⟨G,Ext.refl _ _,hS,[.bool (ks.idxOf? s).isSome],rfl,by simp,fun i c x hc hx=>?_⟩
 match i with
 |0=>
  simp at hc hx;subst hc;subst hx
  have:(Mk.nC (ks,es) s).isSome=(ks.idxOf? s).isSome:=by
   unfold Mk.nC
   cases hi:ks.idxOf? s with
   |none=>rfl
   |some j=>
    have hj:j<ks.length:=(List.findIdx?_eq_some_iff_getElem.1 hi).1
    simp only[Option.bind_some,Option.isSome_some]
    rw[List.getElem?_eq_getElem (by rw[hX.len];exact hj)]
    rfl
  refine⟨?_,fun ho=>by simp at ho⟩
  simp only
  rw[this]
  exact .bool _
 |i+1=>simp at hc
end Go.Ab
end
section
namespace Go.Ab
open Go.RowKit Go.Proofs
set_option maxRecDepth 100000
set_option maxHeartbeats 1000000
theorem Mk.Kt {W:World} {B:Nat} {x0 x1 x2 x3 x4 v v6:Value} (h:W.heap[B]?=some (.cells #[x0,x1,x2,x3,x4] 53 (0,0))) {Q:Ending→World→Prop} {tmps:Array Value} (h4:tmps[4]?=some v) (h5:tmps[5]?=some (.pointer (some ⟨B,0,none⟩))) (h6:tmps[6]?=some v6)
  (hQ:Q (.returned (.tuple #[v,.agg #[x0,x1,x2,x3,x4],v6])) W):bodyPost Tryz.prog Tryz.f15 Q .ret {tmps:=tmps,defers:=[]} W:=by
 have k0:W.cell? ⟨B,0,none⟩=some x0:=aj h 0
 have k1:W.cell? ⟨B,1,none⟩=some x1:=aj h 1
 have k2:W.cell? ⟨B,2,none⟩=some x2:=aj h 2
 have k3:W.cell? ⟨B,3,none⟩=some x3:=aj h 3
 have k4:W.cell? ⟨B,4,none⟩=some x4:=aj h 4
 refine bodyPost_ret (v:=.tuple #[v,.agg #[x0,x1,x2,x3,x4],v6]) ?_ rfl hQ
 simp[results,Tryz.results15,h4,h5,h6,k0,k1,k2,k3,k4,go_sem]
theorem Mk.Re (w:World) (qb mb:Nat) (bY:Array MapEntry) (clock:Nat) (ks:List ByteArray) (s:ByteArray) (c1:w.cell? ⟨qb,1,none⟩=some (.map (some mb))) (hM:Mk.XP w mb bY clock ks)
  (uy:∀(i:Nat) (e:MapEntry),bY[i]?=some e→∃b off,e.val=.pointer (some ⟨b,off,none⟩)) (Q:Ending→World→Prop)
  (wQ:ks.idxOf? s=none→∀w',RowKit.Below w.heap.size w w'→Q (.returned (.tuple #[.slice none 0 0,.agg #[.int .i64 0,.int .i64 0,.string ⟨#[]⟩,.slice none 0 0,.slice none 0 0],.bool false])) w')
  (adp:∀j e eb off,ks.idxOf? s=some j→bY[j]?=some e→e.val=.pointer (some ⟨eb,off,none⟩)→∃ps pl pc k n q a1 a2 a3 b1 b2 b3,eb<w.heap.size∧w.cell? ⟨eb,off+2,none⟩=some (.slice ps pl pc)∧w.cell? ⟨eb,off+3,none⟩=some (.int .i64 k)∧w.cell? ⟨eb,off+4,none⟩=some (.int .i64 n)∧
   w.cell? ⟨eb,off+5,none⟩=some (.string q)∧w.cell? ⟨eb,off+6,none⟩=some (.slice a1 a2 a3)∧w.cell? ⟨eb,off+7,none⟩=some (.slice b1 b2 b3)∧
   ∀w',RowKit.Below w.heap.size w w'→Q (.returned (.tuple #[.slice ps pl pc,.agg #[.int .i64 k,.int .i64 n,.string q,.slice a1 a2 a3,.slice b1 b2 b3],.bool true])) w'):
  Calls Tryz.prog 15 #[.pointer (some ⟨qb,0,none⟩),.string s] w Q:=by
 go_enter Tryz.func15,Tryz.ntmps15
 have lq:qb<w.heap.size:=World.block_lt_of_cell? w _ c1
 have hmb:=(Array.getElem?_eq_some_iff.1 hM.hb).1
 have jI:=fun o=>(aO (o:=o) hmb).trans hM.hb
 go_wp2_with (first
  |(at_lookup;refine Gg rfl rfl Tryz.underlying9 Tryz.underlying80 (Mk.Zs _) rfl (jI _) hM.keys rfl (fun hn=>?_) (fun j e hj he=>?_))
  |fail)
 ·go_wp2
  exact Mk.Kt (heap_alloc_new _ _) rfl rfl rfl (wQ hn _ ((RowKit.Below.refl _ _).alloc (Nat.le_refl _) _))
 ·obtain⟨eb,off,hp⟩:=uy j e he
  obtain⟨ps,pl,pc,k,n,q,a1,a2,a3,b1,b2,b3,aG,n2,n3,n4,n5,n6,n7,hq⟩:=adp j e eb off hj he hp
  rw[hp]
  have hu:∀W:World,(binOp .eql 84 (.pointer (some ⟨eb,off,none⟩)) (.pointer none)).run Tryz.prog W=.ok (.bool false) W:=fun W=>run_eql_pointer_nil W _ _ Mk.Ub
  go_wp2
  simp only[eqGuard_at_pointer,Sem.run_pure,Result.andThen_ok,hu]
  go_wp2_with fail
  go_region_held3 (fun w'=>w'.cell? ⟨eb,off+2,none⟩=some (.slice ps pl pc)∧w'.cell? ⟨eb,off+3,none⟩=some (.int .i64 k)∧w'.cell? ⟨eb,off+4,none⟩=some (.int .i64 n)∧w'.cell? ⟨eb,off+5,none⟩=some (.string q)∧w'.cell? ⟨eb,off+6,none⟩=some (.slice a1 a2 a3)∧w'.cell? ⟨eb,off+7,none⟩=some (.slice b1 b2 b3))
   (first|go_keep) (first|fail)
  go_wp2
  refine Mk.Kt (B:=w.heap.size) (x0:=.int .i64 k) (x1:=.int .i64 n) (x2:=.string q) (x3:=.slice a1 a2 a3) (x4:=.slice b1 b2 b3) ?_ rfl rfl rfl (hq _ ?_)
  ·exact heap_alloc_new w _
  ·exact((RowKit.Below.refl w.heap.size w).alloc (Nat.le_refl _) _).drew
theorem Mk.uz {G:Gh} {w:World} {q0:Nat} {q1:TypeId} {q2:List (List V)} {a:V} {c:Value} (ha:a=.slice q0 q1 q2) (h:Rel G w a c):∃p l k,c=.slice p l k:=by
 subst ha
 cases h<;>exact⟨_,_,_,rfl⟩
theorem Mk.Na {G:Gh} {w:World} {x:List V} {eb off:Nat} (h:Rel G w (.eL x.length x 0) (.pointer (some ⟨eb,off,none⟩))):
  ∃cs:List Value,cs.length=x.length∧off+x.length≤G.ah eb∧(∀(i:Nat) (c:Value),cs[i]?=some c→w.cell? ⟨eb,off+i,none⟩=some c∧c.oneCell'=true)∧∀(i:Nat) (v:V) (c:Value),x[i]?=some v→cs[i]?=some c→Rel G w v c:=by
 generalize ho:(0:Nat)=z at h
 cases h with
 |eL _ _ _ _ adh cs h1 h2 h3 h4 h5=>
  subst ho
  exact⟨cs,h2,h3,h4,h5⟩
theorem Rf {C:Ctx} (ig:∀(args:Array Value) (w:World),(callFunc 15 args).run Tryz.prog w=.ok (.enter 15 args) w):
  ji Tryz.prog C (fun g args σ=>if g=15 then Mk.oR args σ else none):=by
 intro g args σ r h0
 simp only at h0
 split at h0
 case isFalse=>simp at h0
 rename_i BD
 subst BD
 refine⟨ig,fun G w vals hS gE hlen hv=>?_⟩
 unfold Mk.oR at h0
 split at h0
 case h_2=>simp at h0
 rename_i t b o ow s ow2
 split at h0
 case isFalse=>simp at h0
 rename_i Ug
 obtain⟨rfl,rfl⟩:=Ug
 obtain⟨p,hp,h1⟩:=Option.bind_eq_some_iff.1 h0
 obtain⟨ds,ks,es⟩:=p
 obtain⟨x,y,rfl⟩:∃x y,vals=[x,y]:=by
  match vals,hlen with
  |[x,y],_=>exact⟨x,y,rfl⟩
 have r0:=(hv 0 _ x rfl rfl).1
 have r1:=(hv 1 _ y rfl rfl).1
 simp only at r0 r1
 cases r0 with
 |ptr _ _ _ M9 Ie=>
 cases r1 with
 |str=>
 obtain⟨c,x0,mb,bY,clock,hb,hX⟩:=Mk.tH hS hp
 obtain⟨el,jR⟩:=hX.eZ
 have c1:w.cell? ⟨G.μ b,1,none⟩=some (.map (some mb)):=aj jR 1
 have XM:bY.size=ks.length:=by have:=congrArg List.length hX.map.keys;simpa using this
 have uy:∀(i:Nat) (e:MapEntry),bY[i]?=some e→∃b off,e.val=.pointer (some ⟨b,off,none⟩):=fun i e he=>by
  have hi:=(Array.getElem?_eq_some_iff.1 he).1
  have hx:es[i]?=some (es[i]'(by rw[hX.len];omega)):=List.getElem?_eq_getElem _
  exact Mk.CQ (hX.el i _ e hx he).1
 refine Mk.Re w (G.μ b) mb bY clock ks s c1 hX.map uy _ (fun hn w' hB=>?_) (fun j e eb off hj he hpe=>?_)
 ·have hm:Mk.nC (ks,es) s=none:=by unfold Mk.nC;rw[hn];rfl
  simp only[hm]at h1
  obtain rfl:=Option.some.inj h1
  obtain⟨f1,f2⟩:=vq hS hB
  refine⟨G,f1,f2,[.slice none 0 0,.agg #[.int .i64 0,.int .i64 0,.string ⟨#[]⟩,.slice none 0 0,.slice none 0 0],.bool false],rfl,by simp,fun i c x hc hx=>?_⟩
  match i with
  |0=>simp at hc hx;subst hc;subst hx;exact⟨.rh _ _,fun ho=>by simp at ho⟩
  |1=>
   simp at hc hx;subst hc;subst hx
   refine⟨?_,fun ho=>by simp at ho⟩
   refine BK (xs:=[.int .i64 0,.int .i64 0,.string ⟨#[]⟩,.slice none 0 0,.slice none 0 0]) rfl (by simp[Value.oneCell']) fun i v x hv hx=>?_
   match i with
   |0=>simp at hv hx;subst hv;subst hx;exact .int _ _
   |1=>simp at hv hx;subst hv;subst hx;exact .int _ _
   |2=>simp at hv hx;subst hv;subst hx;exact .str _
   |3=>simp at hv hx;subst hv;subst hx;exact .rh _ _
   |4=>simp at hv hx;subst hv;subst hx;exact .rh _ _
   |i+5=>simp at hv
  |2=>simp at hc hx;subst hc;subst hx;exact⟨.bool _,fun ho=>by simp at ho⟩
  |i+3=>simp at hc
 ·have hjl:j<es.length:=by rw[hX.len];exact(List.findIdx?_eq_some_iff_getElem.1 hj).1
  have hx:es[j]?=some es[j]:=List.getElem?_eq_getElem hjl
  have hm:Mk.nC (ks,es) s=some es[j]:=by unfold Mk.nC;rw[hj];exact hx
  simp only[hm]at h1
  have hR:=(hX.el j _ e hx he).1
  rw[hpe]at hR
  split at h1
  ·rename_i y0 q0 q1 q2 k n q a0 a1 a2 b0 b1 b2 y8 uw
   obtain rfl:=Option.some.inj h1
   have uw:=Option.some.inj uw
   rw[uw]at hR
   obtain⟨cs,g1,g2,g3,g4⟩:=Mk.Na hR
   simp only[List.length_cons,List.length_nil]at g1 g2
   obtain⟨z0,z1,z2,z3,z4,z5,z6,z7,z8,rfl⟩:∃z0 z1 z2 z3 z4 z5 z6 z7 z8,cs=[z0,z1,z2,z3,z4,z5,z6,z7,z8]:=by
    match cs,g1 with
    |[z0,z1,z2,z3,z4,z5,z6,z7,z8],_=>exact⟨_,_,_,_,_,_,_,_,_,rfl⟩
   have k2:=g4 2 _ _ rfl rfl
   have k3:=g4 3 _ _ rfl rfl
   have k4:=g4 4 _ _ rfl rfl
   have k5:=g4 5 _ _ rfl rfl
   have k6:=g4 6 _ _ rfl rfl
   have k7:=g4 7 _ _ rfl rfl
   have e2:=(g3 2 _ rfl).1
   have e3:=(g3 3 _ rfl).1
   have e4:=(g3 4 _ rfl).1
   have e5:=(g3 5 _ rfl).1
   have e6:=(g3 6 _ rfl).1
   have e7:=(g3 7 _ rfl).1
   obtain⟨p2,l2,d2,rfl⟩:=Mk.uz (a:=.slice q0 q1 q2) rfl k2
   obtain⟨p6,l6,d6,rfl⟩:=Mk.uz (a:=.slice a0 a1 a2) rfl k6
   obtain⟨p7,l7,d7,rfl⟩:=Mk.uz (a:=.slice b0 b1 b2) rfl k7
   obtain rfl:z3=.int .i64 k:=by cases k3;rfl
   obtain rfl:z4=.int .i64 n:=by cases k4;rfl
   obtain rfl:z5=.string q:=by cases k5;rfl
   have aG:eb<w.heap.size:=vm hS.wf (o:=off) (by omega)
   refine⟨p2,l2,d2,k,n,q,p6,l6,d6,p7,l7,d7,aG,e2,e3,e4,e5,e6,e7,fun w' hB=>?_⟩
   obtain⟨f1,f2⟩:=vq hS hB
   refine⟨G,f1,f2,[.slice p2 l2 d2,.agg #[.int .i64 k,.int .i64 n,.string q,.slice p6 l6 d6,.slice p7 l7 d7],.bool true],rfl,by simp,fun i c x hc hx=>?_⟩
   match i with
   |0=>simp at hc hx;subst hc;subst hx;exact⟨k2.mono f1,fun ho=>by simp at ho⟩
   |1=>
    simp at hc hx;subst hc;subst hx
    refine⟨?_,fun ho=>by simp at ho⟩
    refine BK (xs:=[.int .i64 k,.int .i64 n,.string q,.slice p6 l6 d6,.slice p7 l7 d7]) rfl (by simp[Value.oneCell']) fun i v x hv hx=>?_
    match i with
    |0=>simp at hv hx;subst hv;subst hx;exact .int _ _
    |1=>simp at hv hx;subst hv;subst hx;exact .int _ _
    |2=>simp at hv hx;subst hv;subst hx;exact .str _
    |3=>simp at hv hx;subst hv;subst hx;exact k6.mono f1
    |4=>simp at hv hx;subst hv;subst hx;exact k7.mono f1
    |i+5=>simp at hv
   |2=>simp at hc hx;subst hc;subst hx;exact⟨.bool _,fun ho=>by simp at ho⟩
   |i+3=>simp at hc
  ·simp at h1
  ·rename_i uw
   simp at uw
end Go.Ab
end
