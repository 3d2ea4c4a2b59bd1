/- Maps from strings to whole numbers: what a block of memory holds, told as a function; the laws at the operations. -/
import Derived.Test.YtcjofhikcokhfaaGreatDoorAbOps
import Derived.Orders
import Derived.KernelRfl
import Derived.Maps.RangeWalk
import Derived.Maps.OwnSet
import Derived.Maps.OwnOps
import Derived.Maps.Ext
import Derived.StringKeys
import Derived.Below
import Derived.WalkArith
set_option linter.unusedSimpArgs false
set_option linter.unusedVariables false
set_option linter.deprecated false
section
namespace Go.Ab
section
variable {P:Program} {C:Ctx} {H:Hints} {call:af} {T:List (List Nat)} {ops:Array Oper}
theorem Ja {o:Oper} {r:Nat} (h:Operand.tmp r∈o.op.operands.toList):r∈Bw H ops o:=
 List.mem_append_left _ (List.mem_append_left _ (List.mem_flatMap.2 ⟨_,h,by simp[dE]⟩))
theorem RY {o:Oper} {r:Nat} (h:r∈Cu ops o):r∈Bw H ops o:=List.mem_append_left _ (List.mem_append_right _ h)
theorem pb {o:Oper} {r:Nat} (h:r∈lP H o):r∈Bw H ops o:=List.mem_append_right _ h
theorem Ag.same {o:Oper} {l:LF} {f:Bool} {s t:St} (h:Ag (Bw H ops o) l f s t):ky o.op.operands.toList s.au t.au:=fun _ hr=>h.ry (Ja hr)
theorem sk {o:Oper} {s t:List RV} (h:ky o.op.operands.toList s t):jg H o s=jg H o t:=by
 unfold jg
 cases ho:o.op with
 |load ty a=>
  rw[ho]at h
  cases a with
  |tmp r=>simp only;rw[h r (by simp[Op.operands])]
  |_=>rfl
 |store ty a x=>
  rw[ho]at h
  cases a with
  |tmp r=>simp only;rw[h r (by simp[Op.operands])]
  |_=>rfl
 |_=>rfl
theorem DU {o:Oper} {r:Nat} (h:r∈bj H o):r∈lP H o:=List.mem_append_left _ (List.mem_append_right _ h)
theorem DV {o:Oper} {s t:St} {out:Out} (hk:jg H o s.au=true) (hw:Ct H o=false) (hA:Ag (Bw H ops o) (ux H o) (yV H o) s t) (h:zR C H call o s=some out):
  OH (Bw H ops o) (lP H o) (ux H o) (oP H o) (yV H o) (oQ H o) s t out (zR C H call o t):=by
 obtain⟨e,he,h⟩:=ai h
 have he2:act C H o t.au=some e:=by rw[←Cw o hA.same];exact he
 have:=Jb (DW he hk) hw (hA.clear (bj H o)) (fun r hr=>pb hr) ((AZ.refl _ _ _ s).clear _ fun r hr=>DU hr) ((AZ.refl _ _ _ t).clear _ fun r hr=>DU hr) h
 simp only[zR,he2,Option.bind_some]
 exact this
theorem nN {i:Nat} {o:Oper} (hi:ops[i]?=some o) {s t:St} {out:Out} (hw:Ct H o=false) (hA:Ag (Bw H ops o) (ux H o) (yV H o) s t) (h:eS C H call (some T) ops i s=some out):
  OH (Bw H ops o) (lP H o) (ux H o) (oP H o) (yV H o) (oQ H o) s t out (eS C H call (some T) ops i t):=by
 simp only[eS,hi]at h ⊢
 obtain⟨u,hu,h⟩:=ai h
 have hk:jg H o s.au=true:=cL hu
 have lK:bz (Cv H (some T) o t.au)=some ():=by
  show bz (jg H o t.au)=_
  rw[←sk hA.same,hk];rfl
 simp only[lK,Option.bind_some]
 cases hg:o.guard with
 |none=>
  rw[hg]at h
  exact DV hk hw hA h
 |some jw=>
  obtain⟨j,want⟩:=jw
  rw[hg]at h
  simp only at h ⊢
  cases hd:(ops[j]?).bind (·.dst)with
  |none=>rw[hd]at h;simp at h
  |some d=>
   rw[hd]at h
   simp only at h ⊢
   rw[←hA.ry (RY (by simp[Cu,hg,hd]))]
   split at h
   ·obtain⟨b,hb,h⟩:=ai h
    simp only[hb,Option.bind_some]
    by_cases hbw:b=want
    ·rw[if_pos hbw]at h ⊢
     exact DV hk hw hA h
    ·rw[if_neg hbw]at h ⊢
     obtain rfl:=Option.some.inj h
     exact⟨_,rfl,hA.put _ _,(AZ.refl _ _ _ s).put _ _ fun d hd=>by simp[lP,hd],(AZ.refl _ _ _ t).put _ _ fun d hd=>by simp[lP,hd]⟩
   ·obtain rfl:=Option.some.inj h
    exact⟨_,rfl,hA.put _ _,(AZ.refl _ _ _ s).put _ _ fun d hd=>by simp[lP,hd],(AZ.refl _ _ _ t).put _ _ fun d hd=>by simp[lP,hd]⟩
   ·simp at h
theorem Ag.refl (rs:List Nat) (l:LF) (f:Bool) (s:St):Ag rs l f s s:=⟨rfl,rfl,fun _ _=>rfl,fun _ _=>rfl,fun _=>rfl⟩
theorem Gw {a b:LF} {r:Nat} (h:a.meets b=false) (ha:a.has r=true):b.has r=false:=by
 cases a<;>cases b<;>simp_all [LF.meets,LF.has]
 intro e;exact h e.symm
theorem RZ {a b:LF} {r:Nat} (h:a.meets b=false) (hb:b.has r=true):a.has r=false:=by
 cases ha:a.has r with
 |false=>rfl
 |true=>rw[Gw h ha]at hb;simp at hb
theorem pd {o:Oper} {r:Nat} (h:(oP H o).has r=true):(ux H o).has r=true:=by
 unfold oP at h;unfold ux
 split at h
 ·split at h
  ·exact h
  ·simp[LF.has]at h
 ·exact h
 ·simp[LF.has]at h
theorem Gx {xs ys:List Nat} (h:apart xs ys=true) {r:Nat} (hx:r∈xs):r∉ys:=by
 simp only[apart,List.all_eq_true]at h
 have:=h r hx
 simpa using this
theorem AZ.ag {rs ws:List Nat} {l lw:LF} {f fw:Bool} {s t:St} (h:AZ ws lw fw s t) (h1:apart ws rs=true) (h2:lw.meets l=false) (h3:(fw&&f)=false):Ag rs l f s t where
 xR:=h.xR.symm
 jL:=h.jL.symm
 au r hr:=(h.au r fun hw=>Gx h1 hw hr).symm
 bC r hr:=(h.bC r (RZ h2 hr)).symm
 bP hf:=(h.bP (by rw[hf]at h3;simpa using h3)).symm
theorem Ag.symm {rs:List Nat} {l:LF} {f:Bool} {s t:St} (h:Ag rs l f s t):Ag rs l f t s:=⟨h.xR.symm,h.jL.symm,fun r hr=>(h.au r hr).symm,fun r hr=>(h.bC r hr).symm,fun hf=>(h.bP hf).symm⟩
def uQ (d:Nat) (l:List RV):Prop:=∀k of:Nat,l[k]?≠some (.eK d of)
theorem Qd {d:Nat} {l:List RV}:(l.all fun x=>!rF d x)=true↔uQ d l:=by
 simp only[List.all_eq_true]
 constructor
 ·intro h k of hk
  have:=h _ (List.mem_of_getElem? hk)
  simp[rF]at this
 ·intro h x hx
  obtain⟨k,hk⟩:=List.mem_iff_getElem?.1 hx
  cases x with
  |eK r of=>
   by_cases hr:r=d
   ·subst hr;exact absurd hk (h k of)
   ·simp[rF,hr]
  |_=>simp[rF]
theorem uQ.set {d:Nat} {l:List RV} (h:uQ d l) {x:RV} (hx:∀of,x≠.eK d of) (i:Nat):uQ d (l.set i x):=by
 intro k of hk
 rw[List.getElem?_set]at hk
 split at hk
 ·split at hk
  ·exact hx of (Option.some.inj hk)
  ·simp at hk
 ·exact h k of hk
theorem uQ.put {d:Nat} {s:St} (h:uQ d s.au) (dst:Option Nat) {x:RV} (hx:∀of,x≠.eK d of):uQ d (s.put dst x).au:=by
 cases dst with
 |none=>exact h
 |some k=>exact uQ.set h hx k
theorem uQ.VH {d:Nat} {r:List RV} {l:List (List Cell)} {σ:az} (h:uQ d r) (dst:Option Nat) {x:RV} (hx:∀of,x≠.eK d of):uQ d ((⟨r,l,σ⟩:St).put dst x).au:=uQ.put (s:=⟨r,l,σ⟩) h dst hx
theorem uQ.clear {d:Nat}:∀(rs:List Nat) {l:List RV},uQ d l→uQ d (dL l rs)
 |[],_,h=>h
 |r::rs,l,h=>by
  refine uQ.clear rs fun k of hk=>?_
  rw[List.getElem?_modify]at hk
  cases hl:l[k]? with
  |none=>rw[hl]at hk;simp at hk
  |some x=>
   rw[hl]at hk
   split at hk
   ·have hk:clr x=.eK d of:=Option.some.inj hk
    cases x<;>simp[clr]at hk
    exact h k of (by rw[hl,hk.1,hk.2])
   ·have hk:x=.eK d of:=Option.some.inj hk
    exact h k of (by rw[hl,hk])
theorem R2 {d:Nat} {dst:Option Nat} {s s1:St} {e:lM} (h:dm H call dst s e=some (.next s1)) (hn:uQ d s.au) (he:∀x of,e=.val x→x≠.eK d of) (hl:∀cs,e≠.rl cs):uQ d s1.au:=by
 cases e with
 |val x=>simp only[dm,Option.some.injEq,Out.next.injEq]at h;subst h;exact hn.put _ fun of=>he x of rfl
 |xd r o n agg cW=>
  simp only[dm]at h
  split at h
  ·split at h
   ·split at h
    ·simp only[Option.some.injEq,Out.next.injEq]at h;subst h;exact uQ.VH hn _ (by simp)
    ·simp at h
   ·simp at h
  ·obtain⟨v,_,h⟩:=ai h
   simp only[Option.some.injEq,Out.next.injEq]at h;subst h;exact hn.put _ (by simp)
 |xe r o cs=>
  simp only[dm]at h
  split at h
  ·simp only[Option.some.injEq,Out.next.injEq]at h;subst h;exact uQ.VH hn _ (by simp)
  ·simp at h
 |rl cs=>exact absurd rfl (hl cs)
 |vz p n agg=>
  simp only[dm]at h
  obtain⟨v,_,h⟩:=ai h
  simp only[Option.some.injEq,Out.next.injEq]at h;subst h;exact hn.put _ (by simp)
 |nH p=>
  simp only[dm]at h
  obtain⟨v,_,h⟩:=ai h
  simp only[Option.some.injEq,Out.next.injEq]at h;subst h;exact uQ.VH hn _ (by simp)
 |yR p cs=>
  simp only[dm]at h
  obtain⟨v,_,h⟩:=ai h
  simp only[Option.some.injEq,Out.next.injEq]at h;subst h;exact uQ.VH hn _ (by simp)
 |vA t cs=>
  simp only[dm]at h
  split at h
  ·simp only[Option.some.injEq,Out.next.injEq]at h;subst h;exact uQ.set (l:=s.au) hn (by simp) _
  ·simp at h
 |gR r i=>
  simp only[dm]at h
  split at h
  ·split at h
   ·simp only[Option.some.injEq,Out.next.injEq]at h;subst h
    exact uQ.put (s:=s.cD r _) (uQ.set hn (by simp) _) _ (by simp)
   ·simp at h
  ·simp at h
 |call f args n=>
  simp only[dm]at h
  split at h
  ·simp at h
  ·split at h
   ·split at h
    ·obtain⟨_,_,h⟩:=ai h
     simp only[Option.some.injEq,Out.next.injEq]at h;subst h
     refine uQ.VH hn _ fun of=>?_
     unfold Cr
     split<;>simp
    ·simp at h
   ·simp at h
 |qJ f args n=>
  simp only[dm]at h
  obtain⟨vs,_,h⟩:=ai h
  split at h
  ·obtain⟨_,_,h⟩:=ai h
   simp only[Option.some.injEq,Out.next.injEq]at h;subst h
   refine hn.put _ fun of=>?_
   unfold Cr
   split<;>simp
  ·simp at h
 |fB v=>simp[dm]at h
theorem Qe {d:Nat} {o:Oper} {s s1:St} (hk:jg H o s.au=true) (hw:Ct H o=false) (hn:uQ d s.au) (h:zR C H call o s=some (.next s1)):uQ d s1.au:=by
 obtain⟨e,he,h⟩:=ai h
 refine R2 h (uQ.clear _ hn) (fun x of hx=>?_) fun cs hc=>?_
 ·rintro rfl
  subst hx
  obtain⟨a,of',h1⟩:=iH he d of rfl
  rw[List.getD_eq_getElem?_getD]at h1
  cases h2:s.au[a]? with
  |none=>rw[h2]at h1;simp at h1
  |some y=>rw[h2]at h1;simp only[Option.getD_some]at h1;exact hn a of' (by rw[h2,h1])
 ·subst hc
  have:=DW he hk
  simp only[Compat]at this
  rw[hw]at this
  simp at this
theorem VI {d:Nat} {i:Nat} {o:Oper} (hi:ops[i]?=some o) {s s1:St} (hw:Ct H o=false) (hn:uQ d s.au) (h:eS C H call (some T) ops i s=some (.next s1)):uQ d s1.au:=by
 simp only[eS,hi]at h
 obtain⟨u,hu,h⟩:=ai h
 have hk:jg H o s.au=true:=cL hu
 split at h
 ·exact Qe hk hw hn h
 ·split at h
  ·simp at h
  ·split at h
   ·obtain⟨b,_,h⟩:=ai h
    split at h
    ·exact Qe hk hw hn h
    ·simp only[Option.some.injEq,Out.next.injEq]at h;subst h;exact hn.put _ (by simp)
   ·simp only[Option.some.injEq,Out.next.injEq]at h;subst h;exact hn.put _ (by simp)
   ·simp at h
theorem acd {i j:Nat} {x y:Oper} (hi:ops[i]?=some x) (hj:ops[j]?=some y) (mj:vB H ops x y=true) {s s1:St} {out:Out} (h1:eS C H call (some T) ops i s=some (.next s1)) (h2:eS C H call (some T) ops j s1=some out):
  match out with
  |.next s2=>∃wq,eS C H call (some T) ops j s=some (.next wq)∧eS C H call (some T) ops i wq=some (.next s2)
  |.fB v s2=>∃wq,eS C H call (some T) ops j s=some (.fB v wq)∧wq.bP=s2.bP:=by
 simp only[vB,Bool.and_eq_true,Bool.not_eq_true']at mj
 obtain⟨⟨⟨Tn,hgd⟩,wy⟩,S6⟩:=mj
 split at Tn
 case h_2=>simp at Tn
 rename_i t hxo
 split at S6
 case h_2=>simp at S6
 rename_i d Ko
 simp only[Bool.and_eq_true,Bool.not_eq_true']at S6
 obtain⟨⟨ady,YH⟩,VJ⟩:=S6
 have hgn:x.guard=none:=by simpa using hgd
 have ace:x.dst.any H.PL.contains=false:=by rw[Ko];simpa using ady
 -- what the laying comes to, from whatever state
 have acf:∀au,act C H x au=(C.T t).bind fun i=>if i.kZ=true then none else some (.rl (i.zero.map fun v=>(v,v.HD))):=by
  intro au
  simp only[act,hxo,ace,Bool.false_eq_true,if_false]
 have gE:bj H x=[]:=by simp[bj,hxo]
 have ZT:∀u:St,eS C H call (some T) ops i u=zR C H call x u:=by
  intro u
  have:Cv H (some T) x u.au=true:=by simp[Cv,jg,hxo]
  simp[eS,hi,hgn,this,bz]
 rw[ZT]at h1
 simp only[zR,acf,gE]at h1
 obtain⟨e,he,h1⟩:=ai h1
 obtain⟨ti,hti,he⟩:=ai he
 split at he
 ·simp at he
 rename_i rD
 obtain rfl:=Option.some.inj he
 simp only[dm,Ko]at h1
 split at h1
 case isFalse=>simp at h1
 rename_i hc
 obtain⟨c1,c2,c3⟩:=hc
 simp only[Option.some.injEq,Out.next.injEq]at h1
 subst h1
 generalize hcs:(ti.zero.map fun v=>(v,v.HD))=cs at*
 have Ky:uQ d s.au:=Qd.1 c3
 have Mx:Ag (Bw H ops y) (ux H y) (yV H y) (({s with bC:=s.bC.set d cs}:St).cD d (.eK d 0)) s:=by
  refine⟨by simp[St.cD],by simp[St.cD],fun r hr=>?_,fun r hr=>?_,fun _=>rfl⟩
  ·have:d≠r:=by rintro rfl;simp at YH;exact YH hr
   simp only[St.cD,List.getElem?_set_ne this]
  ·have:d≠r:=by rintro rfl;rw[VJ]at hr;simp at hr
   simp only[St.cD,List.getElem?_set_ne this]
 have fy:=nN hj wy Mx h2
 cases out with
 |fB v s2=>
  obtain⟨_,_,t1,e1,e2⟩:=fy
  exact⟨t1,e1,e2⟩
 |next s2=>
  obtain⟨wq,e1,ay,oy,Td⟩:=fy
  refine⟨wq,e1,?_⟩
  have Ta:=VI hj wy Ky e1
  rw[ZT]
  simp only[zR,acf,gE,hti,Option.bind_some,if_neg rD,hcs,dm,Ko]
  have c1':d<s.bC.length:=c1
  have aG:d<wq.bC.length:=by rw[Td.jL];exact c1'
  rw[if_pos ⟨aG,c2,by simp only[St.clear,dL];exact Qd.2 Ta⟩]
  simp only[St.clear,dL]
  congr 2
  have hdy:d∉lP H y:=fun h=>by simp at YH;exact YH (pb h)
  have hly:(oP H y).has d=false:=by
   cases hh:(oP H y).has d with
   |false=>rfl
   |true=>rw[pd hh]at VJ;simp at VJ
  have hr:wq.au.set d (.eK d 0)=s2.au:=by
   apply List.ext_getElem?
   intro r
   by_cases hx:d=r
   ·subst hx
    rw[oy.au d hdy]
    simp only[St.cD,List.getElem?_set_self',←Td.xR]
    have:wq.au[d]?.map (fun _=>RV.eK d 0)=s.au[d]?.map (fun _=>RV.eK d 0):=by rw[Td.au d hdy]
    exact this
   ·rw[List.getElem?_set_ne hx]
    by_cases hy:r∈lP H y
    ·exact(ay.au r (pb hy)).symm
    ·rw[Td.au r hy,oy.au r hy]
     simp only[St.cD,List.getElem?_set_ne hx]
  have hl:wq.bC.set d cs=s2.bC:=by
   apply List.ext_getElem?
   intro r
   by_cases hx:d=r
   ·subst hx
    rw[oy.bC d hly]
    simp only[St.cD,List.getElem?_set_self']
    have:wq.bC[d]?.map (fun _=>cs)=s.bC[d]?.map (fun _=>cs):=by rw[Td.bC d hly]
    exact this
   ·rw[List.getElem?_set_ne hx]
    cases hy:(oP H y).has r with
    |true=>exact(ay.bC r (pd hy)).symm
    |false=>
     rw[Td.bC r hy,oy.bC r hy]
     simp only[St.cD,List.getElem?_set_ne hx]
  have hs:wq.bP=s2.bP:=by
   cases hy:oQ H y with
   |true=>exact(ay.bP (dP hy)).symm
   |false=>rw[Td.bP hy,oy.bP hy];rfl
  obtain⟨b1,b2,b3⟩:=s2
  simp only at hr hl hs
  simp only[St.cD,hr,hl,hs]
theorem Ln {σ eM:az} {p q v:V} (h:fk σ q=some (v,eM)) (agg:Bool) (n:Nat):bu eM p agg n=bu σ p agg n:=by
 unfold fk at h
 split at h
 case h_2=>simp at h
 rename_i b o
 obtain⟨cs,hb,h⟩:=ai h
 split at h
 case isFalse=>simp at h
 rename_i ho
 split at h
 case isFalse=>simp at h
 obtain⟨_,rfl⟩:=Prod.mk.inj (Option.some.inj h)
 cases p with
 |ptr t' b' o'=>
  simp only[bu]
  by_cases xb:b=b'
  ·subst xb
   have aG:=(List.getElem?_eq_some_iff.1 hb).1
   rw[List.getElem?_set_self aG,hb]
   simp only[Option.bind_some,dX,List.length_set]
   have hv:∀j,((cs.set o ((cs.getD o bZ).1,false)).getD j bZ).1=(cs.getD j bZ).1:=by
    intro j
    by_cases hj:o=j
    ·subst hj
     simp[List.getD_eq_getElem?_getD,ho]
    ·simp[List.getD_eq_getElem?_getD,List.getElem?_set_ne hj]
   simp only[hv]
  ·rw[List.getElem?_set_ne xb]
 |_=>rfl
theorem Lo {x:Oper} {ty:TypeId} {a:Operand} {d:Nat} (hx:x.op=.load ty a) (hd:x.dst=some d) (hc:gT H a=.bP) {au:List RV} {e:lM} (h:act C H x au=some e):
  (H.cW.contains d=false→∃p n ag,e=.vz p n ag)∧(H.cW.contains d=true→∃p,e=.nH p):=by
 simp only[act,hx,hd,hc]at h
 obtain⟨i,_,h⟩:=ai h
 split at h
 ·simp_all
 ·simp_all
 ·have BQ:Option.any H.cW.contains (some d)=H.cW.contains d:=rfl
  split at h
  ·rename_i MD
   rw[BQ]at MD
   refine⟨fun hs=>?_,fun _=>?_⟩
   ·rw[hs]at MD;simp at MD
   ·split at h
    ·simp at h
    ·exact⟨_,(Option.some.inj h).symm⟩
  ·rename_i MD
   rw[BQ]at MD
   exact⟨fun _=>⟨_,_,_,(Option.some.inj h).symm⟩,fun hs=>absurd hs MD⟩
 ·simp at h
theorem uh {i:Nat} {x:Oper} (hi:ops[i]?=some x) {ty:TypeId} {a:Operand} (hx:x.op=.load ty a) (hg:x.guard=none) (s:St):eS C H call (some T) ops i s=(bz (jg H x s.au)).bind fun _=>(act C H x s.au).bind fun e=>dm H call x.dst s e:=by
 have gE:bj H x=[]:=by simp[bj,hx]
 simp only[eS,hi,hg,Cv,zR,gE,St.clear,dL]
theorem swapT {i j:Nat} {x y:Oper} (hi:ops[i]?=some x) (hj:ops[j]?=some y) (mj:HE H x y=true) {s s1:St} {out:Out} (h1:eS C H call (some T) ops i s=some (.next s1)) (h2:eS C H call (some T) ops j s1=some out):
  match out with
  |.next s2=>∃wq,eS C H call (some T) ops j s=some (.next wq)∧eS C H call (some T) ops i wq=some (.next s2)
  |.fB v s2=>∃wq,eS C H call (some T) ops j s=some (.fB v wq)∧wq.bP=s2.bP:=by
 unfold HE at mj
 split at mj
 case h_2=>simp at mj
 rename_i tx a ty b d e hx hy hd he
 simp only[Bool.and_eq_true,Option.isNone_iff_eq_none,beq_iff_eq,Bool.not_eq_true',bne_iff_ne,ne_eq]at mj
 obtain⟨⟨⟨⟨⟨⟨⟨⟨gx,gy⟩,cx⟩,cy⟩,sx⟩,sy⟩,hde⟩,hae⟩,Qf⟩:=mj
 rw[uh hi hx gx]at h1
 rw[uh hj hy gy]at h2
 obtain⟨u1,k1,h1⟩:=ai h1
 obtain⟨ex,ax,h1⟩:=ai h1
 obtain⟨p,n,ag,rfl⟩:=(Lo hx hd cx ax).1 sx
 have ME:∀(u:St) (z:RV) (r:Nat),u.put (some r) z={u with au:=u.au.set r z}:=fun _ _ _=>rfl
 simp only[dm,hd,ME]at h1
 obtain⟨v,hv,h1⟩:=ai h1
 simp only[Option.some.injEq,Out.next.injEq]at h1
 subst h1
 obtain⟨u2,k2,h2⟩:=ai h2
 obtain⟨ey,ay,h2⟩:=ai h2
 obtain⟨q,rfl⟩:=(Lo hy he cy ay).2 sy
 simp only[dm,he,ME]at h2
 obtain⟨⟨v2,eM⟩,hv2,h2⟩:=ai h2
 obtain rfl:=Option.some.inj h2
 have ZU:ky y.op.operands.toList (s.au.set d (.val v false)) s.au:=by
  intro r hr
  rw[hy]at hr
  have:r≠d:=by
   rintro rfl
   cases b<;>simp[Op.operands,dE]at hr Qf
   exact Qf hr
  simp[List.getD_eq_getElem?_getD,List.getElem?_set_ne (Ne.symm this)]
 have ZV:ky x.op.operands.toList (s.au.set e (.val v2 true)) s.au:=by
  intro r hr
  rw[hx]at hr
  have:r≠e:=by
   rintro rfl
   cases a<;>simp[Op.operands,dE]at hr hae
   exact hae hr
  simp[List.getD_eq_getElem?_getD,List.getElem?_set_ne (Ne.symm this)]
 refine⟨{s with au:=s.au.set e (.val v2 true),bP:=eM},?_,?_⟩
 ·rw[uh hj hy gy,←sk ZU,←Cw y ZU]
  rw[show bz (jg H y (s.au.set d (.val v false)))=some u2 from k2,ay]
  simp only[Option.bind_some,dm,he,ME]
  rw[show fk s.bP q=some (v2,eM)from hv2];rfl
 ·rw[uh hi hx gx]
  simp only
  rw[sk ZV,Cw x ZV,k1,ax]
  simp only[Option.bind_some,dm,hd,ME]
  rw[Ln hv2,hv]
  simp only[Option.bind_some,List.set_comm _ _ (Ne.symm hde)]
theorem swap {i j:Nat} {x y:Oper} (hi:ops[i]?=some x) (hj:ops[j]?=some y) (mj:indep H ops x y=true) {s s1:St} {out:Out} (h1:eS C H call (some T) ops i s=some (.next s1)) (h2:eS C H call (some T) ops j s1=some out):
  match out with
  |.next s2=>∃wq,eS C H call (some T) ops j s=some (.next wq)∧eS C H call (some T) ops i wq=some (.next s2)
  |.fB v s2=>∃wq,eS C H call (some T) ops j s=some (.fB v wq)∧wq.bP=s2.bP:=by
 rw[indep,Bool.or_eq_true,Bool.or_eq_true]at mj
 rcases mj with(mj|mj)|mj
 ·exact acd hi hj mj h1 h2
 ·exact swapT hi hj mj h1 h2
 simp only[Bool.and_eq_true,Bool.not_eq_true']at mj
 obtain⟨⟨⟨⟨⟨⟨⟨wx,wy⟩,rxy⟩,ryx⟩,lxy⟩,lyx⟩,sxy⟩,syx⟩:=mj
 obtain⟨_,_,_,ox,_⟩:=nN hi wx (Ag.refl _ _ _ s) h1
 have fy:=nN hj wy (ox.ag rxy lxy sxy).symm h2
 cases out with
 |fB v s2=>
  obtain⟨_,_,t1,e1,e2⟩:=fy
  exact⟨t1,e1,e2⟩
 |next s2=>
  obtain⟨wq,e1,ay,oy,Td⟩:=fy
  obtain⟨s2',e2,ax,ox2,ox'⟩:=nN hi wx (Td.ag ryx lyx syx) h1
  refine⟨wq,e1,?_⟩
  have TP:s2'=s2:=by
   have hr:s2'.au=s2.au:=by
    apply List.ext_getElem?
    intro r
    by_cases hx:r∈lP H x
    ·have hny:r∉lP H y:=fun hy=>Gx rxy hx (pb hy)
     rw[←ax.au r (pb hx),oy.au r hny]
    ·rw[ox'.au r hx]
     by_cases hy:r∈lP H y
     ·rw[ay.au r (pb hy)]
     ·rw[Td.au r hy,oy.au r hy,ox.au r hx]
   have hl:s2'.bC=s2.bC:=by
    apply List.ext_getElem?
    intro r
    cases hx:(oP H x).has r with
    |true=>
     have hny:(oP H y).has r=false:=by
      cases hh:(oP H y).has r with
      |false=>rfl
      |true=>have h3:=Gw lxy hx;rw[pd hh]at h3;simp at h3
     rw[←ax.bC r (pd hx),oy.bC r hny]
    |false=>
     rw[ox'.bC r hx]
     cases hy:(oP H y).has r with
     |true=>rw[ay.bC r (pd hy)]
     |false=>rw[Td.bC r hy,oy.bC r hy,ox.bC r hx]
   have hs:s2'.bP=s2.bP:=by
    cases hx:oQ H x with
    |true=>
     have hny:oQ H y=false:=by
      cases hh:oQ H y with
      |false=>rfl
      |true=>rw[hx,dP hh]at sxy;simp at sxy
     rw[←ax.bP (dP hx),oy.bP hny]
    |false=>
     rw[ox'.bP hx]
     cases hy:oQ H y with
     |true=>rw[ay.bP (dP hy)]
     |false=>rw[Td.bP hy,oy.bP hy,ox.bP hx]
   obtain⟨a1,a2,a3⟩:=s2'
   obtain⟨b1,b2,b3⟩:=s2
   simp only at hr hl hs
   rw[hr,hl,hs]
  rw[←TP];exact e2
theorem VK {i:Nat} {B:List Nat} {out:Out}:∀(A:List Nat) (s:St),Jc C H call (some T) ops (A++i::B) s out→(∀j∈A,xf H ops j i=true∧(T.getD i []).contains j=false)→
  (∃s1,eS C H call (some T) ops i s=some (.next s1)∧Jc C H call (some T) ops (A++B) s1 out)∨∃v s1 s2,eS C H call (some T) ops i s=some (.fB v s1)∧out=.fB v s2∧s1.bP=s2.bP
 |[],s,h,_=>by
  cases h with
  |next h1 h2=>exact .inl ⟨_,h1,h2⟩
  |fB h1 h2=>exact .inr ⟨_,_,_,h1,rfl,rfl⟩
 |j::A,s,h,hA=>by
  obtain⟨mj,YI⟩:=hA j (List.mem_cons_self ..)
  cases h with
  |fB h1 h2=>
   simp only[AI,List.all_eq_true]at h2
   have:=h2 i (by simp)
   rw[YI]at this
   simp at this
  |@next _ _ _ eI _ h1 h2=>
   unfold xf at mj
   split at mj
   ·rename_i x y hj hi
    rcases VK A eI h2 fun k hk=>hA k (List.mem_cons_of_mem _ hk)with⟨s2,e1,e2⟩|⟨v,s2,s3,e1,e2,e3⟩
    ·obtain⟨wq,f1,f2⟩:=swap hj hi mj h1 e1
     exact .inl ⟨wq,f1,.next f2 e2⟩
    ·obtain⟨wq,f1,f2⟩:=swap hj hi mj h1 e1
     exact .inr ⟨v,wq,s3,f1,e2,f2.trans e3⟩
   ·simp at mj
structure Good (H:Hints) (T:List (List Nat)) (ops:Array Oper) (listed:Array Bool) (L:List Nat):Prop where
 size:listed.size=ops.size
 mem:∀i,i∈L↔listed.getD i true=false
 nodup:L.Nodup
 pw:L.Pairwise fun i j=>j∉fG ops i∧((T.getD j []).contains i=true∨xf H ops i j=true)
 closed:∀k,listed.getD k false=true→∀j∈fG ops k,listed.getD j false=true
def acg (T:List (List Nat)) (ops:Array Oper):Prop:=∀S:Nat→Prop,(∀k,S k→∀j∈fG ops k,S j)→∀i,(∀k∈fG ops i,S k)→∀j∈T.getD i [],S j
theorem wu:∀(xs acc:List Nat) (j:Nat),j∈Cs xs acc→j∈xs∨j∈acc
 |[],_,_,h=>.inr h
 |x::xs,acc,j,h=>by
  simp only[Cs]at h
  split at h
  ·rcases wu xs acc j h with h|h
   ·exact .inl (List.mem_cons_of_mem _ h)
   ·exact .inr h
  ·rcases wu xs _ j h with h|h
   ·exact .inl (List.mem_cons_of_mem _ h)
   ·rcases List.mem_cons.1 h with h|h
    ·exact .inl (h▸List.mem_cons_self ..)
    ·exact .inr h
theorem Qg {S:Nat→Prop} (hS:∀k,S k→∀j∈fG ops k,S j):∀(rest:List Oper) (T:List (List Nat)),(∀n o,rest[n]?=some o→ops[T.length+n]?=some o)→(∀i,(∀k∈fG ops i,S k)→∀j∈T.getD i [],S j)→
  ∀i,(∀k∈fG ops i,S k)→∀j∈(J6 rest T).getD i [],S j
 |[],T,_,hT=>hT
 |o::rest,T,hr,hT=>by
  simp only[J6]
  refine Qg hS rest _ (fun n o' hn=>?_) fun i hi j hj=>?_
  ·have:=hr (n+1) o' (by simpa using hn)
   rw[←this];congr 1;simp;omega
  ·rw[List.getD_eq_getElem?_getD]at hj
   by_cases aG:i<T.length
   ·rw[List.getElem?_append_left aG,←List.getD_eq_getElem?_getD]at hj
    exact hT i hi j hj
   ·rw[List.getElem?_append_right (by omega)]at hj
    by_cases he:i=T.length
    ·subst he
     have ho:ops[T.length]?=some o:=hr 0 o rfl
     simp only[Nat.sub_self,List.getElem?_cons_zero,Option.getD_some]at hj
     rcases wu _ _ _ hj with hj|hj
     ·obtain⟨k,hk,hj⟩:=List.mem_flatMap.1 hj
      have hSk:S k:=hi k (by simp only[fG,ho];exact hk)
      rcases List.mem_cons.1 hj with rfl|hj
      ·exact hSk
      ·exact hT k (hS k hSk) j hj
     ·simp at hj
    ·rw[List.getElem?_eq_none (by simp;omega)]at hj
     simp at hj
theorem YJ:acg (J6 ops.toList []) ops:=fun S hS=>Qg hS ops.toList [] (fun n o hn=>by simpa using hn) fun i _ j hj=>by simp at hj
theorem Lp {o:Oper} {e:Edge} (he:e∈o.after) (hb:Region.binds .any e=true):e.on∈BP o:=
 List.mem_map.2 ⟨e,List.mem_filter.2 ⟨by simpa using he,hb⟩,rfl⟩
theorem R3 {listed:Array Bool} {k:Nat} (hk:k<listed.size) (h:listed.getD k true≠false):listed.getD k false=true:=by
 simp[hk]at h ⊢;exact h
theorem DX (hC:dN P C) (dW:nO P C H call) (hT:acg T ops) (hE:∀i,∀k∈fG ops i,k<ops.size∧k≠i) {out:Out} {G0:Gh} {w0:World}:
  ∀(fuel:Nat) (listed:Array Bool) (L:List Nat) (s:St),Good H T ops listed L→L.length≤fuel→Jc C H call (some T) ops L s out→
   ∀G lam a w,Ext G0 w0 G w→Inv C.bN G lam a w s→wpAny P .any ops (OQ C G0 w0 out) fuel listed a w
 |fuel,listed,[],s,hg,_,hr,G,lam,a,w,x,hI=>by
  have yX:Region.ready .any ops listed=[]:=by
   cases hh:Region.ready .any ops listed with
   |nil=>rfl
   |cons j js=>
    have:=(mem_ready.1 (hh▸List.mem_cons_self ..:j∈Region.ready .any ops listed)).1
    exact absurd ((hg.mem j).2 this) (by simp)
  cases hr
  have hq:OQ C G0 w0 (.next s) .normal a w:=.inl ⟨rfl,s,G,lam,rfl,x,hI⟩
  cases fuel with
  |zero=>exact⟨yX,hq⟩
  |succ fuel=>exact⟨fun _=>hq,fun i hi=>by rw[yX]at hi;simp at hi⟩
 |0,listed,i::L,s,hg,hf,hr,G,lam,a,w,x,hI=>by simp at hf
 |fuel+1,listed,i0::L,s,hg,hf,hr,G,lam,a,w,x,hI=>by
  have ZW:i0∈Region.ready .any ops listed:=by
   refine mem_ready.2 ⟨(hg.mem i0).1 (List.mem_cons_self ..),?_⟩
   have aG:i0<ops.size:=by
    rw[←hg.size]
    have:=(hg.mem i0).1 (List.mem_cons_self ..)
    rcases Nat.lt_or_ge i0 listed.size with h|h
    ·exact h
    ·simp[Array.getElem?_eq_none h]at this
   refine⟨ops[i0],by simp[aG],fun e he hb=>?_⟩
   have TV:e.on∈fG ops i0:=by simp only[fG,Array.getElem?_eq_getElem aG];exact Lp he hb
   obtain⟨h1,h2⟩:=hE i0 _ TV
   refine R3 (by rw[hg.size];exact h1) fun hh=>?_
   rcases List.mem_cons.1 ((hg.mem _).2 hh)with h3|h3
   ·exact h2 h3
   ·exact((List.pairwise_cons.1 hg.pw).1 _ h3).1 TV
  refine⟨fun yX=>by rw[yX]at ZW;simp at ZW,fun i hi=>?_⟩
  obtain⟨hun,oi,hoi,gZ⟩:=mem_ready.1 hi
  have VL:∀k∈fG ops i,listed.getD k false=true:=fun k hk=>by
   simp only[fG,hoi,BP,List.mem_map,List.mem_filter]at hk
   obtain⟨e,⟨he,hb⟩,rfl⟩:=hk
   exact gZ e (by simpa using he) hb
  obtain⟨A,B,hAB⟩:=List.append_of_mem ((hg.mem i).2 hun)
  rw[hAB]at hr
  have hpw:=hg.pw
  have hnd:=hg.nodup
  rw[hAB]at hpw hnd
  have ach:∀j∈A,xf H ops j i=true∧(T.getD i []).contains j=false:=by
   intro j hj
   have h1:=((List.pairwise_append.1 hpw).2.2 j hj i (List.mem_cons_self ..)).2
   have YI:(T.getD i []).contains j=false:=by
    cases hc:(T.getD i []).contains j with
    |false=>rfl
    |true=>
     have hl:=hT (fun k=>listed.getD k false=true) hg.closed i VL j (by simpa using hc)
     have hu:=(hg.mem j).1 (by rw[hAB];simp[hj])
     rcases Nat.lt_or_ge j listed.size with h|h
     ·simp[h]at hl hu;rw[hu]at hl;simp at hl
     ·simp[Array.getElem?_eq_none h]at hu
   rw[YI]at h1
   exact⟨h1.resolve_left (by simp),YI⟩
  have aci:i<listed.size:=by
   rcases Nat.lt_or_ge i listed.size with h|h
   ·exact h
   ·simp[Array.getElem?_eq_none h]at hun
  have Qh:Good H T ops (listed.setIfInBounds i true) (A++B):=by
   refine⟨by simp[hg.size],fun k=>?_,?_,?_,fun k hk j hj=>?_⟩
   ·by_cases PF:k=i
    ·subst PF
     refine⟨fun hm=>?_,fun hm=>?_⟩
     ·have:=(List.perm_middle.nodup_iff).1 hnd
      exact absurd hm (List.nodup_cons.1 this).1
     ·simp[aci]at hm
    ·rw[getD_set_ne true (Ne.symm PF),←hg.mem k,hAB]
     simp[PF]
   ·exact hnd.sublist (List.Sublist.append (List.Sublist.refl _) (List.sublist_cons_self ..))
   ·exact hpw.sublist (List.Sublist.append (List.Sublist.refl _) (List.sublist_cons_self ..))
   ·by_cases PF:k=i
    ·subst PF;exact getD_set_true (VL j hj)
    ·rw[getD_set_ne false (Ne.symm PF)]at hk
     exact getD_set_true (hg.closed k hk j hj)
  have hlen:(A++B).length≤fuel:=by
   have:(i0::L).length=(A++i::B).length:=by rw[hAB]
   simp at this hf ⊢
   omega
  unfold wpOp
  rcases VK A s hr ach with⟨s1,e1,e2⟩|⟨v,s1,s2,e1,e2,e3⟩
  ·obtain⟨o,ho,hh⟩:=nP hC dW e1 hI
   rw[ho]
   simp only
   rcases hh with⟨hw,hh⟩|⟨hw,cN,G',iu,f1,f2,f3⟩
   ·rw[if_pos hw]
    refine .inl (sn hh (fun a' w' hn=>?_) (fun e a' w' hq=>?_))
    ·obtain⟨cN,G',iu,f1,f2,f3⟩:=hn
     cases f1
     exact DX hC dW hT hE fuel _ _ s1 Qh hlen e2 G' iu a' w' (x.trans f2) f3
    ·obtain⟨v,cN,c,G',f1,_⟩:=hq;cases f1
   ·rw[if_neg (by rw[hw];simp)]
    cases f1
    exact DX hC dW hT hE fuel _ _ s1 Qh hlen e2 G' iu _ w (x.trans f2) f3
  ·obtain⟨o,ho,hh⟩:=nP hC dW e1 hI
   rw[ho]
   simp only
   rcases hh with⟨hw,hh⟩|⟨hw,cN,G',iu,f1,f2,f3⟩
   ·rw[if_pos hw]
    refine .inl (sn hh (fun a' w' hn=>?_) (fun e a' w' hq=>?_))
    ·obtain⟨cN,G',iu,f1,f2,f3⟩:=hn;cases f1
    ·obtain⟨v',cN,c,G',f1,f2,f3,f4,f5,f6⟩:=hq
     cases f1
     exact .inr ⟨v,s2,c,G',e2,f2,f3,x.trans f4,by rw[←e3];exact f5,f6⟩
   ·cases f1
theorem sq:∀{l:List Nat},distinct l=true→l.Nodup
 |[],_=>List.nodup_nil
 |x::xs,h=>by
  simp only[distinct,Bool.and_eq_true,Bool.not_eq_true']at h
  exact List.nodup_cons.2 ⟨by simpa using h.1,sq h.2⟩
theorem sr {f:Nat→Nat→Bool}:∀{l:List Nat},PN f l=true→l.Pairwise fun i j=>f i j=true
 |[],_=>List.Pairwise.nil
 |x::xs,h=>by
  simp only[PN,Bool.and_eq_true,List.all_eq_true]at h
  exact List.pairwise_cons.2 ⟨fun y hy=>h.1 y hy,sr h.2⟩
theorem OI (hC:dN P C) (dW:nO P C H call) {L:List Nat} (hf:free H ops L=true) {s:St} {K:Out→Option aQ} {r:aQ} (h:pL C H call (some (J6 ops.toList [])) ops L s K=some r):
  ∃out,K out=some r∧∀G lam a w,Inv C.bN G lam a w s→wpAny P .any ops (OQ C G w out) ops.size (Array.replicate ops.size false) a {w with drawn:=w.drawn+1}:=by
 obtain⟨out,h1,h2⟩:=zS _ _ _ _ h
 refine⟨out,h1,fun G lam a w hI=>?_⟩
 simp only[free,Bool.and_eq_true,List.all_eq_true,beq_iff_eq]at hf
 obtain⟨⟨⟨⟨⟨f1,f2⟩,f3⟩,f3b⟩,f4⟩,f5⟩:=hf
 have aG:∀i∈L,i<ops.size:=fun i hi=>by simpa using f3 i hi
 have hE:∀i,∀k∈fG ops i,k<ops.size∧k≠i:=by
  intro i k hk
  have hi:i<ops.size:=by
   rcases Nat.lt_or_ge i ops.size with h|h
   ·exact h
   ·simp[fG,Array.getElem?_eq_none h]at hk
  have:=f4 i (by simpa using hi) k hk
  simpa using this
 have gZ:∀i,i<ops.size→i∈L:=by
  intro i hi
  simpa using f3b i (by simpa using hi)
 have Qh:Good H (J6 ops.toList []) ops (Array.replicate ops.size false) L:=by
  refine⟨by simp,fun i=>?_,sq f2,(sr f5).imp fun hh=>?_,fun k hk=>?_⟩
  ·refine⟨fun hi=>by simp[aG i hi],fun hi=>gZ i ?_⟩
   rcases Nat.lt_or_ge i ops.size with h|h
   ·exact h
   ·simp[Nat.not_lt.2 h]at hi
  ·simpa using hh
  ·simp[Array.getD_eq_getD_getElem?,Array.getElem?_replicate]at hk
   split at hk<;>simp at hk
 exact DX hC dW YJ hE ops.size _ L s Qh (by rw[f1];exact Nat.le_refl _) h2 G lam a _ (Ext.same rfl rfl rfl rfl) (hI.same rfl rfl rfl rfl)
end
end Go.Ab
end
section
namespace Go.Ab
section
variable {P:Program} {C:Ctx} {H:Hints} {call:af}
def EP (C:Ctx) (G:Gh) (w:World) (ex:Ex) (st:St) (e:Exit) (a':Act) (w':World):Prop:=
 match ex with
 |.normal=>e=.normal∧∃G' iu,Ext G w G' w'∧Inv C.bN G' iu a' w' st
 |.exit i=>e=.exit i∧∃G' iu,Ext G w G' w'∧Inv C.bN G' iu a' w' st
 |.ret=>e=.ret∧∃G' iu,Ext G w G' w'∧Inv C.bN G' iu a' w' st
 |.fB v=>∃c G',e=.panic [{v:=c,recovered:=false}]∧Rel G' w' v c∧Ext G w G' w'∧dR C.bN G' w' st.bP∧a'.defers=[]
theorem EP.trans {G G1:Gh} {w w1:World} {ex:Ex} {st:St} {e:Exit} {a':Act} {w':World} (x:Ext G w G1 w1) (h:EP C G1 w1 ex st e a' w'):EP C G w ex st e a' w':=by
 cases ex with
 |fB v=>obtain⟨c,G',h1,h2,h3,h4,h5⟩:=h;exact⟨c,G',h1,h2,x.trans h3,h4,h5⟩
 |normal=>obtain⟨h1,G',iu,h2,h3⟩:=h;exact⟨h1,G',iu,x.trans h2,h3⟩
 |exit i=>obtain⟨h1,G',iu,h2,h3⟩:=h;exact⟨h1,G',iu,x.trans h2,h3⟩
 |ret=>obtain⟨h1,G',iu,h2,h3⟩:=h;exact⟨h1,G',iu,x.trans h2,h3⟩
def VM (P:Program) (C:Ctx) (c:Code) (st:St) (ex:Ex) (cN:St):Prop:=∀G lam a w,Inv C.bN G lam a w st→c.wp P (EP C G w ex cN) a w
theorem xS (bI:List Nat):∀(l:List RV) (i r:Nat),(lg bI i l)[r]?=(l[r]?).map fun x=>if bI.contains (i+r)then x else .dead
 |[],_,_=>by simp[lg]
 |x::xs,i,r=>by
  cases r with
  |zero=>simp[lg]
  |succ r=>simp only[lg,List.getElem?_cons_succ];rw[xS bI xs (i+1) r];simp[Nat.add_assoc,Nat.add_comm 1]
theorem xT (bI:List Nat):∀(l:List (List Cell)) (i r:Nat),(lh bI i l)[r]?=(l[r]?).map fun x=>if bI.contains (i+r)then x else[]
 |[],_,_=>by simp[lh]
 |x::xs,i,r=>by
  cases r with
  |zero=>simp[lh]
  |succ r=>simp only[lh,List.getElem?_cons_succ];rw[xT bI xs (i+1) r];simp[Nat.add_assoc,Nat.add_comm 1]
theorem lR (bI:List Nat):∀(l:List RV) (i:Nat),(lg bI i l).length=l.length
 |[],_=>rfl
 |x::xs,i=>by simp[lg,lR bI xs]
theorem qP (bI:List Nat):∀(l:List (List Cell)) (i:Nat),(lh bI i l).length=l.length
 |[],_=>rfl
 |x::xs,i=>by simp[lh,qP bI xs]
theorem Inv.kill {gl:Nat→Option (List V)} {G:Gh} {lam:Nat→Nat} {a:Act} {w:World} {st:St} (h:Inv gl G lam a w st) (bI:List Nat):Inv gl G lam a w (st.kill bI):=by
 refine⟨h.defers,by simp only[St.kill,lR];exact h.len,by simp only[St.kill,lR,qP];exact h.jL,fun r x hx=>?_,fun r cs hc eJ=>?_,h.bP⟩
 ·simp only[St.kill,xS,Option.map_eq_some_iff]at hx
  obtain⟨y,hy,rfl⟩:=hx
  split
  ·exact h.au r y hy
  ·trivial
 ·simp only[St.kill,xT,Option.map_eq_some_iff]at hc
  obtain⟨y,hy,rfl⟩:=hc
  split
  ·rename_i hk
   rw[if_pos hk]at eJ
   exact h.bC r y hy eJ
  ·rename_i hk
   rw[if_neg hk]at eJ
   exact absurd rfl eJ
theorem A0 {c:Code} {body:St→(Ex→St→Option aQ)→Option aQ} (hb:∀st K r,body st K=some r→∃ex cN,K ex cN=some r∧VM P C c st ex cN) (bI:List Nat):
  ∀(n:Nat) (st:St) (K:Ex→St→Option aQ) (r:aQ),kl body bI n st K=some r→∃ex cN,K ex cN=some r∧∀G lam a w,Inv C.bN G lam a w st→∀(b:Frame) (k:List Item) (cs:List Frame),
   ∃e a' w',EP C G w ex cN e a' w'∧Arrives P (lone (b.at a (.code c::.inLoop c::k)) cs w) b k cs e a' w'
 |0,st,K,r,h=>by simp[kl]at h
 |n+1,st,K,r,h=>by
  simp only[kl]at h
  obtain⟨ex,eI,h1,h2⟩:=hb _ _ _ h
  cases ex with
  |normal=>
   simp only[uH]at h1
   obtain⟨ex2,dH,h3,h4⟩:=A0 hb bI n _ K r h1
   refine⟨ex2,dH,h3,fun G lam a w hI b k cs=>?_⟩
   obtain⟨e,a1,w1,⟨rfl,G1,aaX,x1,i1⟩,Lq⟩:=h2 G lam a w hI b (.inLoop c::k) cs
   obtain⟨e2,a2,w2,q2,acj⟩:=h4 G1 aaX a1 w1 (i1.kill bI) b k cs
   exact⟨e2,a2,w2,q2.trans x1,.of_steps (Steps.trans Lq (.one step_inLoop)) acj⟩
  |exit i=>
   refine⟨_,eI,h1,fun G lam a w hI b k cs=>?_⟩
   obtain⟨e,a1,w1,hq,Lq⟩:=h2 G lam a w hI b (.inLoop c::k) cs
   have he:=hq.1
   exact⟨e,a1,w1,hq,.pass (x:=.inLoop c) rfl (fun _ _=>.inl (by rw[he];simp)) Lq⟩
  |ret=>
   refine⟨_,eI,h1,fun G lam a w hI b k cs=>?_⟩
   obtain⟨e,a1,w1,hq,Lq⟩:=h2 G lam a w hI b (.inLoop c::k) cs
   have he:=hq.1
   exact⟨e,a1,w1,hq,.pass (x:=.inLoop c) rfl (fun _ _=>.inl (by rw[he];simp)) Lq⟩
  |fB v=>
   refine⟨_,eI,h1,fun G lam a w hI b k cs=>?_⟩
   obtain⟨e,a1,w1,hq,Lq⟩:=h2 G lam a w hI b (.inLoop c::k) cs
   obtain⟨cc,G',he,_⟩:=id hq
   exact⟨e,a1,w1,hq,.pass (x:=.inLoop c) rfl (fun _ _=>.inl (by rw[he];simp)) Lq⟩
theorem fJ (hC:dN P C) (dW:nO P C H call) (n:Nat):∀(c:Code) (id:Nat) (st:St) (K:Ex→St→Option aQ) (r:aQ),fb C H call n c id st K=some r→∃ex cN,K ex cN=some r∧VM P C c st ex cN
 |.skip,_,st,K,r,h=>⟨.normal,st,h,fun G lam a w hI=>wp_skip ⟨rfl,G,lam,Ext.refl _ _,hI⟩⟩
 |.label l,_,st,K,r,h=>⟨.normal,st,h,fun G lam a w hI=>wp_label ⟨rfl,G,lam,Ext.refl _ _,hI⟩⟩
 |.region id ops draw,_,st,K,r,h=>by
  simp only[fb]at h
  have fin:∀out,(match out with|.next st=>K .normal st|.fB v st=>K (.fB v) st)=some r→∃ex cN,K ex cN=some r∧∀(G:Gh) (w:World) e a' w',OQ C G w out e a' w'→EP C G w ex cN e a' w':=by
   intro out h1
   cases out with
   |next eI=>
    refine⟨.normal,eI,h1,fun G w e a' w' hq=>?_⟩
    rcases hq with⟨rfl,cN,G',iu,hh,e2,e3⟩|⟨v,cN,c,G',hh,_⟩
    ·cases hh;exact⟨rfl,G',iu,e2,e3⟩
    ·cases hh
   |fB v eI=>
    refine⟨.fB v,eI,h1,fun G w e a' w' hq=>?_⟩
    rcases hq with⟨rfl,cN,G',iu,hh,e2,e3⟩|⟨v',cN,c,G',hh,q1,q2,q3,q4,q5⟩
    ·cases hh
    ·cases hh;exact⟨c,G',q1,q2,q3,q4,q5⟩
  cases draw with
  |true=>
   simp only[if_true]at h
   obtain⟨u,hu,h⟩:=ai h
   obtain⟨out,h1,h2⟩:=OI hC dW (cL hu) h
   obtain⟨ex,cN,h3,h4⟩:=fin out h1
   exact⟨ex,cN,h3,fun G lam a w hI=>wp_mono (wp_region_any hC.mixed (h2 G lam a w hI)) fun e a' w' hq=>h4 G w e a' w' hq⟩
  |false=>
   simp only[Bool.false_eq_true,if_false]at h
   obtain⟨out,h1,h2⟩:=OJ hC dW _ _ _ _ h
   obtain⟨ex,cN,h3,h4⟩:=fin out h1
   exact⟨ex,cN,h3,fun G lam a w hI=>wp_mono (wp_region (h2 G lam a w hI)) fun e a' w' hq=>h4 G w e a' w' hq⟩
 |.seq x y,id,st,K,r,h=>by
  simp only[fb]at h
  obtain⟨ex,eI,h1,h2⟩:=fJ hC dW n x 0 st _ r h
  cases ex with
  |normal=>
   obtain⟨ex2,dH,h3,h4⟩:=fJ hC dW n y 0 eI K r h1
   refine⟨ex2,dH,h3,fun G lam a w hI=>wp_seq (wp_mono (h2 G lam a w hI) fun e a' w' hq=>?_)⟩
   obtain⟨rfl,G',iu,e2,e3⟩:=hq
   exact wp_mono (h4 G' iu a' w' e3) fun e a w hq=>hq.trans e2
  |exit i=>
   refine⟨_,eI,h1,fun G lam a w hI=>wp_seq (wp_mono (h2 G lam a w hI) fun e a' w' hq=>?_)⟩
   obtain⟨rfl,hh⟩:=hq;exact⟨rfl,hh⟩
  |ret=>
   refine⟨_,eI,h1,fun G lam a w hI=>wp_seq (wp_mono (h2 G lam a w hI) fun e a' w' hq=>?_)⟩
   obtain⟨rfl,hh⟩:=hq;exact⟨rfl,hh⟩
  |fB v=>
   refine⟨_,eI,h1,fun G lam a w hI=>wp_seq (wp_mono (h2 G lam a w hI) fun e a' w' hq=>?_)⟩
   obtain⟨c,G',rfl,hh⟩:=hq;exact⟨c,G',rfl,hh⟩
 |.cond c x y,id,st,K,r,h=>by
  simp only[fb]at h
  split at h
  ·rename_i r0
   split at h
   ·rename_i v ow hv
    obtain⟨b,hb,h⟩:=ai h
    have key:∀G lam a w,Inv C.bN G lam a w st→a.eval (.tmp r0)=.bool b:=by
     intro G lam a w hI
     obtain⟨q1,_,_⟩:=hI.open hv
     exact DY hb q1
    have hs:=A1 hv hb
    cases b with
    |true=>
     simp only[cond_true,hs]at h
     obtain⟨ex,eI,h1,h2⟩:=fJ hC dW n x 0 _ K r h
     exact⟨ex,eI,h1,fun G lam a w hI=>wp_cond_true (key G lam a w hI) (h2 G lam a w hI)⟩
    |false=>
     simp only[cond_false,hs]at h
     obtain⟨ex,eI,h1,h2⟩:=fJ hC dW n y 0 _ K r h
     exact⟨ex,eI,h1,fun G lam a w hI=>wp_cond_false (key G lam a w hI) (h2 G lam a w hI)⟩
   ·simp at h
  ·rename_i b
   cases b with
   |true=>
    simp only[if_true]at h
    obtain⟨ex,eI,h1,h2⟩:=fJ hC dW n x 0 _ K r h
    exact⟨ex,eI,h1,fun G lam a w hI=>wp_cond_true rfl (h2 G lam a w hI)⟩
   |false=>
    simp only[Bool.false_eq_true,if_false]at h
    obtain⟨ex,eI,h1,h2⟩:=fJ hC dW n y 0 _ K r h
    exact⟨ex,eI,h1,fun G lam a w hI=>wp_cond_false rfl (h2 G lam a w hI)⟩
  ·simp at h
 |.block i body,id,st,K,r,h=>by
  simp only[fb]at h
  obtain⟨ex,eI,h1,h2⟩:=fJ hC dW n body i st _ r h
  cases ex with
  |normal=>
   refine⟨_,eI,h1,fun G lam a w hI=>wp_block (wp_mono (h2 G lam a w hI) fun e a' w' hq=>?_)⟩
   obtain⟨rfl,hh⟩:=hq;exact⟨rfl,hh⟩
  |exit j=>
   simp only[TH]at h1
   by_cases hj:j=i
   ·rw[if_pos hj]at h1
    refine⟨_,eI,h1,fun G lam a w hI=>wp_block (wp_mono (h2 G lam a w hI) fun e a' w' hq=>?_)⟩
    obtain⟨rfl,hh⟩:=hq
    simp only[Exit.inBlock,if_pos hj]
    exact⟨rfl,hh⟩
   ·rw[if_neg hj]at h1
    refine⟨_,eI,h1,fun G lam a w hI=>wp_block (wp_mono (h2 G lam a w hI) fun e a' w' hq=>?_)⟩
    obtain⟨rfl,hh⟩:=hq
    simp only[Exit.inBlock,if_neg hj]
    exact⟨rfl,hh⟩
  |ret=>
   refine⟨_,eI,h1,fun G lam a w hI=>wp_block (wp_mono (h2 G lam a w hI) fun e a' w' hq=>?_)⟩
   obtain⟨rfl,hh⟩:=hq;exact⟨rfl,hh⟩
  |fB v=>
   refine⟨_,eI,h1,fun G lam a w hI=>wp_block (wp_mono (h2 G lam a w hI) fun e a' w' hq=>?_)⟩
   obtain⟨c,G',rfl,hh⟩:=hq;exact⟨c,G',rfl,hh⟩
 |.loop body,id,st,K,r,h=>by
  simp only[fb]at h
  obtain⟨ex,eI,h1,h2⟩:=A0 (c:=body) (fun st K r hh=>fJ hC dW n body 0 st K r hh) (H.bI id) n _ K r h
  refine⟨ex,eI,h1,fun G lam a w hI=>?_⟩
  intro b k cs
  obtain⟨e,a',w',q1,q2⟩:=h2 G lam a w (hI.kill _) b k cs
  exact⟨e,a',w',q1,.of_steps (.one step_loop) q2⟩
 |.exit i,_,st,K,r,h=>⟨.exit i,st,h,fun G lam a w hI=>wp_exit ⟨rfl,G,lam,Ext.refl _ _,hI⟩⟩
 |.ret,_,st,K,r,h=>⟨.ret,st,h,fun G lam a w hI=>wp_ret ⟨rfl,G,lam,Ext.refl _ _,hI⟩⟩
 |.rangeFunc ..,_,st,K,r,h=>by simp[fb]at h
 |.scope _,_,st,K,r,h=>by simp[fb]at h
 |.goto _,_,st,K,r,h=>by simp[fb]at h
 |.refuse _,_,st,K,r,h=>by simp[fb]at h
end
end Go.Ab
end
section
namespace Go.Ab
section
variable {P:Program} {C:Ctx} {H:Hints} {call:af}
theorem nq (hC:dN P C):∀(rs:List ResultVar) (k:Nat) (st:St) (vs:List Cell) (G:Gh) (lam:Nat→Nat) (a:Act) (w:World),hU C st rs=some vs→Inv C.bN G lam a w st→
  ∃(G':Gh) (cs:List Value),(rs.mapM (fun(r:ResultVar)=>match r with|.tmp t=>(pure (a.tmps.getD t undef):Sem Value)|.cell ad t=>do loadVar t (←asAddr (a.tmps.getD ad undef)))).run P w=.ok cs w∧cs.length=vs.length∧Ext G w G' w∧dR C.bN G' w st.bP∧G'.N=G.N∧
   (∀i p,G'.owner i=some p→G.owner i=some p∨∃j,k≤j∧p=.res j)∧(∀i j,G.owner i=some (.res j)→j<k→G'.owner i=some (.res j)∧G'.ah i=G.ah i)∧
   ∀(i:Nat) c x,vs[i]?=some c→cs[i]?=some x→je G' w (.res (k+i)) c x
 |[],k,st,vs,G,lam,a,w,h,hI=>by
  simp[hU]at h
  subst h
  exact⟨G,[],by simp,rfl,Ext.refl _ _,hI.bP,rfl,fun i p hp=>.inl hp,fun i j hj _=>⟨hj,rfl⟩,by simp⟩
 |.tmp t::rest,k,st,vs,G,lam,a,w,h,hI=>by
  simp only[hU]at h
  split at h
  ·rename_i v ow hv
   obtain⟨Xb,h1,h2⟩:=ai h
   obtain rfl:=Option.some.inj h2
   have hr:=jO hI t
   rw[hv]at hr
   have gE:=hI.clear [t]
   -- the token goes to the result's place
   have tok:∃G1,Ext G w G1 w∧Inv C.bN G1 lam a w (st.clear [t])∧G1.N=G.N∧je G1 w (.res k) (v,ow) (a.tmps.getD t undef)∧
     (∀i p,G1.owner i=some p→G.owner i=some p∨p=.res k)∧(∀i j,G.owner i=some (.res j)→j<k→G1.owner i=some (.res j)∧G1.ah i=G.ah i):=by
    cases ow with
    |false=>exact⟨G,Ext.refl _ _,gE,rfl,⟨hr.1,fun ho=>by simp at ho⟩,fun i p hp=>.inl hp,fun i j hj _=>⟨hj,rfl⟩⟩
    |true=>
     have ho:=hr.2 rfl
     have Xs:=eE (st:=st) [t] t (by simp)
     rcases ho.cut with gZ|⟨b,q3,q5⟩
     ·exact⟨G,Ext.refl _ _,gE,rfl,⟨hr.1,fun _=>gZ _ _ _⟩,fun i p hp=>.inl hp,fun i j hj _=>⟨hj,rfl⟩⟩
     ·let G1:Gh:={G with owner:=lX G.owner b (some (.res k))}
      have hE:Ext G w G1 w:=⟨Nat.le_refl _,fun _ _=>rfl,fun _ _=>rfl,fun _=>Nat.le_refl _,fun _ _ _=>rfl,rfl,rfl,rfl,Nat.le_refl _,fun i _ hi=>⟨rfl,rfl,by
       show lX G.owner b _ i=none
       rw[bB]
       ·exact hi
       ·rintro rfl;rw[q3]at hi;simp at hi⟩⟩
      refine⟨G1,hE,?_,rfl,⟨fx hr.1 _,fun _=>?_⟩,fun i p hp=>?_,fun i j hj hjk=>⟨?_,rfl⟩⟩
      ·refine gE.move hE ⟨fun i p hp hf=>⟨rfl,rfl,?_⟩⟩ (fun i hi=>⟨(hI.bP.wf i hi).1,?_⟩) rfl
       ·show lX G.owner b _ i=some p
        rw[bB]
        ·exact hp
        ·rintro rfl
         rw[q3]at hp
         obtain rfl:=Option.some.inj hp
         rcases hf with hf|⟨r,hr⟩|⟨b,hb⟩
         ·exact Xs hf
         ·simp at hr
         ·simp at hb
       ·show lX G.owner b _ i=none
        rw[bB]
        ·exact(hI.bP.wf i hi).2
        ·rintro rfl;rw[(hI.bP.wf _ hi).2]at q3;simp at q3
      ·have adz:a.tmps.getD t undef=a.eval (.tmp t):=rfl
       rw[adz]
       exact q5 G1 w _ (fun hr=>fx hr _) rfl rfl (jK _ _ _)
      ·have Bv:lX G.owner b (some (.res k)) i=some p:=hp
       by_cases hi:i=b
       ·subst hi;simp at Bv;exact .inr Bv.symm
       ·rw[bB _ _ hi]at Bv;exact .inl Bv
      ·show lX G.owner b _ i=_
       rw[bB]
       ·exact hj
       ·rintro rfl;rw[q3]at hj;simp at hj
   obtain⟨G1,t1,t2,t3,t4,t5,t6⟩:=tok
   obtain⟨G',cs,e1,e2,e3,e4,e5,e6,e7,e8⟩:=nq hC rest (k+1) _ Xb G1 lam a w h1 t2
   refine⟨G',a.tmps.getD t undef::cs,?_,by simp[e2],t1.trans e3,e4,e5.trans t3,fun i p hp=>?_,fun i j hj hjk=>?_,fun i c x hc hx=>?_⟩
   ·simp only[List.mapM_cons,Sem.run_bind,Sem.run_pure,Result.andThen_ok]
    rw[e1]
    rfl
   ·rcases e6 i p hp with hh|⟨j,hj,rfl⟩
    ·rcases t5 i p hh with hh|rfl
     ·exact .inl hh
     ·exact .inr ⟨k,Nat.le_refl _,rfl⟩
    ·exact .inr ⟨j,by omega,rfl⟩
   ·obtain⟨u1,u2⟩:=t6 i j hj hjk
    obtain⟨u3,u4⟩:=e7 i j u1 (by omega)
    exact⟨u3,u4.trans u2⟩
   ·cases i with
    |zero=>
     simp at hc hx
     subst hc;subst hx
     have:=t4.move e3 fun _ i hi=>⟨rfl,(e7 i k hi (by omega)).2,(e7 i k hi (by omega)).1⟩
     simpa using this
    |succ i=>
     simp at hc hx
     have:=e8 i c x hc hx
     rw[show k+1+i=k+(i+1) by omega]at this
     exact this
  ·simp at h
 |.cell ad t::rest,k,st,vs,G,lam,a,w,h,hI=>by
  simp only[hU]at h
  obtain⟨i,hi,h⟩:=ai h
  have hT:=hC.T t i hi
  have fin:∀v Xb,hU C st rest=some Xb→vs=(v,false)::Xb→∀b o x,a.tmps.getD ad undef=.pointer (some ⟨b,o,none⟩)→(loadVar t ⟨b,o,none⟩).run P w=.ok x w→Rel G w v x→
    ∃(G':Gh) (cs:List Value),((ResultVar.cell ad t::rest).mapM (fun(r:ResultVar)=>match r with|.tmp t=>(pure (a.tmps.getD t undef):Sem Value)|.cell ad t=>do loadVar t (←asAddr (a.tmps.getD ad undef)))).run P w=.ok cs w∧cs.length=vs.length∧Ext G w G' w∧dR C.bN G' w st.bP∧G'.N=G.N∧
    (∀i p,G'.owner i=some p→G.owner i=some p∨∃j,k≤j∧p=.res j)∧(∀i j,G.owner i=some (.res j)→j<k→G'.owner i=some (.res j)∧G'.ah i=G.ah i)∧
    ∀(i:Nat) c x,vs[i]?=some c→cs[i]?=some x→je G' w (.res (k+i)) c x:=by
   intro v Xb h1 Cg b o x hp iS hrel
   obtain⟨G',cs,e1,e2,e3,e4,e5,e6,e7,e8⟩:=nq hC rest (k+1) _ Xb G lam a w h1 hI
   subst Cg
   refine⟨G',x::cs,?_,by simp[e2],e3,e4,e5,fun i p hp=>?_,fun i j hj hjk=>e7 i j hj (by omega),fun i c y hc hy=>?_⟩
   ·have hl:((match (ResultVar.cell ad t)with|.tmp t=>(pure (a.tmps.getD t undef):Sem Value)|.cell ad t=>do loadVar t (←asAddr (a.tmps.getD ad undef)))).run P w=.ok x w:=by
     simp only[Sem.run_bind,hp,asAddr,Sem.run_pure,Result.andThen_ok,iS]
    rw[List.mapM_cons,Sem.run_bind,hl,Result.andThen_ok,Sem.run_bind,e1]
    rfl
   ·rcases e6 i p hp with hh|⟨j,hj,rfl⟩
    ·exact .inl hh
    ·exact .inr ⟨j,by omega,rfl⟩
   ·cases i with
    |zero=>
     simp at hc hy
     subst hc;subst hy
     exact⟨hrel.mono e3,fun ho=>by simp at ho⟩
    |succ i=>
     simp at hc hy
     have:=e8 i c y hc hy
     rw[show k+1+i=k+(i+1) by omega]at this
     exact this
  split at h
  ·rename_i r o hr
   obtain⟨v,hv,h1⟩:=ai h
   obtain⟨Xb,h2,h3⟩:=ai h1
   have hp:=jO hI ad
   rw[hr]at hp
   obtain⟨x,e1,e2⟩:=vy (P:=P) hT (BO hI r) hv
   exact fin v Xb h2 (Option.some.inj h3).symm _ _ x hp e1 e2
  ·rename_i p ow hr
   obtain⟨v,hv,h1⟩:=ai h
   obtain⟨Xb,h2,h3⟩:=ai h1
   have hp:=jO hI ad
   rw[hr]at hp
   obtain⟨x,e1,e2⟩:=DZ hC hI hi hp.1 hv
   have VN:∃b o,a.tmps.getD ad undef=.pointer (some ⟨b,o,none⟩):=by
    have E9:=hp.1
    have Xc:a.eval (.tmp ad)=a.tmps.getD ad undef:=rfl
    rw[Xc]at E9
    cases p with
    |ptr tt b o=>generalize a.tmps.getD ad undef=q at E9;cases E9;exact⟨_,_,rfl⟩
    |eL kk e o=>generalize a.tmps.getD ad undef=q at E9;cases E9;exact⟨_,_,rfl⟩
    |_=>simp[bu]at hv
   obtain⟨b,o,hb⟩:=VN
   have Xc:a.eval (.tmp ad)=.pointer (some ⟨b,o,none⟩):=hb
   rw[Xc]at e1
   simp only[Instr.loadAt,Instr.sureAddr,Sem.run_bind,Sem.run_pure,Result.andThen_ok]at e1
   exact fin v Xb h2 (Option.some.inj h3).symm b o x hb e1 e2
  ·simp at h
theorem OL (hC:dN P C) (dW:ji P C call) {f:FuncId} {d:oO} (Zx:MN d.hints call) (hf:P.funcs[f]?=some d.fn) (ack:d.fn.body=some d.code) {n:Nat} {args:List Cell} {σ:az} {r:aQ} (h:J7 C d call n args σ=some r)
  (G:Gh) (w:World) (vals:List Value) (hS:dR C.bN G w σ) (gE:Clean G args.length) (hlen:vals.length=args.length) (hv:∀(i:Nat) c x,args[i]?=some c→vals[i]?=some x→je G w (.ry i) c x):
  Calls P f vals.toArray w fun en w'=>∃G',Ext G w G' w'∧dR C.bN G' w' r.2∧D0 G' w' r.1 en:=by
 simp only[J7]at h
 split at h
 ·rename_i hle
  obtain⟨ex,st,h1,h2⟩:=fJ hC ⟨dW,Zx⟩ n d.code 0 _ _ r h
  refine calls_of_wp hf ack ?_
  let a0:Act:={tmps:=vals.toArray++Array.replicate (d.fn.ntmps - vals.toArray.size) undef,defers:=[]}
  have hI:Inv C.bN G (fun _=>0) a0 w {au:=args.map (fun c=>RV.val c.1 c.2)++List.replicate (d.fn.ntmps - args.length) .dead,bC:=List.replicate d.fn.ntmps [],bP:=σ}:=by
   refine⟨rfl,by simp[a0,hlen],by simp;omega,fun i x hx=>?_,fun i cs hc eJ=>?_,hS⟩
   ·by_cases hi:i<args.length
    ·rw[List.getElem?_append_left (by simpa using hi),List.getElem?_map,Option.map_eq_some_iff]at hx
     obtain⟨c,hc,rfl⟩:=hx
     have Ht:i<vals.length:=by omega
     have:=hv i c vals[i] hc (List.getElem?_eq_getElem Ht)
     have hg:a0.tmps.getD i undef=vals[i]:=by
      simp only[a0,Array.getD_eq_getD_getElem?]
      rw[Array.getElem?_append_left (by simpa using Ht)]
      simp[Ht]
     rw[hg]
     exact this
    ·rw[List.getElem?_append_right (by simp;omega)]at hx
     obtain⟨_,hx⟩:=List.getElem?_eq_some_iff.1 hx
     simp at hx
     subst hx
     trivial
   ·obtain⟨_,hc⟩:=List.getElem?_eq_some_iff.1 hc
    simp at hc
    exact absurd hc eJ
  have hw:=h2 G _ a0 w hI
  refine wp_mono hw fun e a' w' hq=>?_
  have finish:(e=.normal∨e=.ret)→(∃vs,hU C st d.fn.results.toList=some vs∧r=(.ret vs,st.bP))→(∃G' iu,Ext G w G' w'∧Inv C.bN G' iu a' w' st)→bodyPost P d.fn (fun en w'=>∃G',Ext G w G' w'∧dR C.bN G' w' r.2∧D0 G' w' r.1 en) e a' w':=by
   rintro he ⟨vs,Cg,rfl⟩ ⟨G1,aaX,x1,i1⟩
   obtain⟨G',cs,e1,e2,e3,e4,e5,e6,e7,e8⟩:=nq hC d.fn.results.toList 0 st vs G1 aaX a' w' Cg i1
   have aat:(results d.fn a'.tmps).run P w'=.ok (if h:cs.toArray.size=1 then cs.toArray[0]else .tuple cs.toArray) w':=by
    unfold results
    rw[Sem.run_bind,Array.mapM_eq_mapM_toList]
    simp only[Sem.run_map]
    exact congrArg (fun z:Result (List Value)=>(z.andThen fun a w'=>Result.ok a.toArray w').andThen fun a w'=>Sem.run P (pure (if h:a.size=1 then a[0]else Value.tuple a)) w') e1
   have acm:a'.defers=[]∧∃v,(results d.fn a'.tmps).run P w'=.ok v w'∧∃G',Ext G w G' w'∧dR C.bN G' w' st.bP∧D0 G' w' (.ret vs) (.returned v):=by
    refine⟨i1.defers,_,aat,?_⟩
    -- what is kept: the store's and the results' holdings
    let G2:Gh:={G' with owner:=fun i=>match G'.owner i with|some (.eZ b)=>some (.eZ b)|some (.gc b j)=>some (.gc b j)|some (.res j)=>some (.res j)|_=>none}
    have hE:Ext G' w' G2 w':=⟨Nat.le_refl _,fun _ _=>rfl,fun _ _=>rfl,fun _=>Nat.le_refl _,fun _ _ _=>rfl,rfl,rfl,rfl,Nat.le_refl _,fun i _ hi=>⟨rfl,rfl,by simp[G2,hi]⟩⟩
    refine⟨G2,(x1.trans e3).trans hE,⟨fun i hi=>⟨(e4.wf i hi).1,by simp[G2,(e4.wf i hi).2]⟩,fun g cs hg=>(e4.bN g cs hg).mono hE,e4.N,e4.typed,fun b cs hb=>?_,e4.PE.mono hE⟩,cs,e2,rfl,fun i c x hc hx=>?_⟩
    ·obtain⟨cv,el,g1,g2,g3,g4,g5⟩:=e4.eZ b cs hb
     refine⟨cv,el,g1,g2,?_,g4,fun j c x hc hx=>⟨(g5 j c x hc hx).1.move hE fun _ i hi=>⟨rfl,rfl,by simp[G2,hi]⟩,(g5 j c x hc hx).2⟩⟩
     show(match G'.owner (G'.μ b)with|some (Place.eZ b)=>some (Place.eZ b)|some (Place.gc b j)=>some (Place.gc b j)|some (Place.res j)=>some (Place.res j)|_=>none)=some (Place.eZ b)
     rw[g3]
    ·have:=e8 i c x hc hx
     rw[Nat.zero_add]at this
     exact this.move hE fun _ i hi=>⟨rfl,rfl,by simp[G2,hi]⟩
   rcases he with rfl|rfl<;>exact acm
  cases ex with
  |normal=>
   obtain⟨rfl,hh⟩:=hq
   simp only[HH]at h1
   obtain⟨vs,Cg,h1⟩:=ai h1
   exact finish (.inl rfl) ⟨vs,Cg,(Option.some.inj h1).symm⟩ hh
  |ret=>
   obtain⟨rfl,hh⟩:=hq
   simp only[HH]at h1
   obtain⟨vs,Cg,h1⟩:=ai h1
   exact finish (.inr rfl) ⟨vs,Cg,(Option.some.inj h1).symm⟩ hh
  |fB v=>
   obtain⟨c,G',rfl,q1,q2,q3,q4⟩:=hq
   simp only[HH]at h1
   obtain rfl:=Option.some.inj h1
   exact⟨q4,G',q2,q3,c,rfl,q1⟩
  |exit i=>simp[HH]at h1
 ·simp at h
def VO (P:Program) (C:Ctx):Prop:=∀f s,C.ext f=some s→ji P C (fun g args σ=>if g=f then s args σ else none)
theorem sv (own:List Nat):∀(i:Nat) (cs:List Cell),(gG own i cs).length=cs.length
 |_,[]=>rfl
 |i,c::cs=>by simp[gG,sv own (i+1) cs]
theorem Lr (own:List Nat):∀(i:Nat) (cs:List Cell) (j:Nat) (c:Cell),(gG own i cs)[j]?=some c→∃b,cs[j]?=some b∧c.1=b.1∧(c.2=true→b.2=true)
 |i,[],j,c,h=>by simp[gG]at h
 |i,b::cs,0,c,h=>by
  simp only[gG,List.getElem?_cons_zero,Option.some.injEq]at h
  subst h
  exact⟨b,rfl,rfl,fun h=>by simp at h;exact h.2⟩
 |i,b::cs,j+1,c,h=>by
  simp only[gG,List.getElem?_cons_succ]at h
  simpa using Lr own (i+1) cs j c h
theorem OM (hC:dN P C) {f:FuncId} {d:oO} (hd:C.Fi f=some d):∀n,MN d.hints (jN C n)
 |0=>fun g args vs hg h=>by simp[jN]at h
 |n+1=>fun g args vs hg h σ=>by
  obtain⟨s,h1,h2⟩:=hC.pure f d hd g hg
  simp only[jN,h1]at h ⊢
  exact h2 args vs h σ
theorem A2 (hC:dN P C) (hX:VO P C):∀n,ji P C (jN C n)
 |0=>fun f args σ r h=>by simp[jN]at h
 |n+1=>fun f args σ r h=>by
  simp only[jN]at h
  split at h
  ·rename_i s hs
   have:=hX f s hs f args σ r (by simp[h])
   exact this
  ·split at h
   ·rename_i d hd
    obtain⟨h1,h2,h3⟩:=hC.Fi f d hd
    exact⟨h3,fun G w vals hS gE hl hv=>OL hC (A2 hC hX n) (OM hC hd n) h1 h2 h G w vals hS (by rw[sv];exact gE) (by rw[sv];exact hl) fun i c x hc hx=>by
     obtain⟨b,e1,e2,e3⟩:=Lr _ _ _ _ _ hc
     have:=hv i b x e1 hx
     exact⟨by rw[e2];exact this.1,fun ho=>by rw[e2];exact this.2 (e3 ho)⟩⟩
   ·simp at h
end
end Go.Ab
end
section
namespace Go.Ab
def acn:Code→Code
 |.seq a _=>a
 |.cond _ a _=>a
 |.block _ b=>b
 |.loop b=>b
 |c=>c
def aco:Code→Code
 |.seq _ b=>b
 |.cond _ _ b=>b
 |c=>c
def aA (call:af) (f:FuncId) (args:List Cell) (σ:az) (n:Nat) (K:List Cell→az→Option aQ) (KP:V→az→Option aQ):Option aQ:=
 match call f args σ with
 |none=>none
 |some r=>match r.1 with
  |.ret vs=>if vs.length=n then K vs r.2 else none
  |.fB v=>KP v r.2
theorem ui {call:af} {f:FuncId} {args:List Cell} {σ eM:az} {n:Nat} {K:List Cell→az→Option aQ} {KP:V→az→Option aQ} {vs:List Cell} (h:call f args σ=some (.ret vs,eM)) (hn:vs.length=n):
  aA call f args σ n K KP=K vs eM:=by simp[aA,h,hn]
def look:List (TypeId×TI)→TypeId→Option TI
 |[],_=>none
 |(t,i)::rest,u=>bif Nat.beq t u then some i else look rest u
abbrev LL:=List (List V)
abbrev RR:=az→Option aQ
def uu5 (v:V):V:=.agg [v.cell 0,v.cell 1,v.cell 2,v.cell 3,v.cell 4]
abbrev pnK (p:V) (σ:az):Option aQ:=some (.fB p,σ)
def dd:Nat→List RV→List RV
 |0,L=>L
 |n+1,L=>.dead::dd n L
def nn:Nat→List (List Cell)→List (List Cell)
 |0,L=>L
 |n+1,L=>[]::nn n L
def cp:List Nat→Code→Code
 |[],c=>c
 |0::L,c=>acn (cp L c)
 |_::L,c=>aco (cp L c)
noncomputable section
open List (getD)
open IntKind (wrap)
/-- Functions of many arguments as functions of one. -/
class mX (f:Type) (X:outParam Type) (r:outParam Type) where
  u:f→X→r
  c:(X→r)→f
  cu:∀g,c (u g)=g
  uc:∀g,u (c g)=g
instance :mX (Option aQ) Unit (Option aQ):=⟨fun f _=>f,fun g=>g (),fun _=>rfl,fun _=>rfl⟩
instance :mX St Unit St:=⟨fun f _=>f,fun g=>g (),fun _=>rfl,fun _=>rfl⟩
instance {α β X r:Type} [mX β X r]:mX (α→β) (α×X) r:=⟨fun f x=>mX.u (f x.1) x.2,fun g a=>mX.c fun y=>g (a,y),fun g=>funext fun a=>mX.cu (g a),fun _=>funext fun x=>congrFun (mX.uc _) x.2⟩
theorem acp {T L X:Type} [mX T X St] [mX L X (Option aQ)] {body:St→(Ex→St→Option aQ)→Option aQ} {k:List Nat} {t:T} {K:Ex→St→Option aQ} {s:L→L} {l:Nat→L} (h0:∀x,mX.u (l 0) x=none) (h1:∀m,l (m+1)=s (l m))
    (hs:∀(F:St→Option aQ) x,body (mX.u t x) (uH k F K)=mX.u (s (mX.c fun x=>F (mX.u t x))) x) (m:Nat):(mX.c fun x=>kl body k m (mX.u t x) K:L)=l m:=by
  have:∀m x,kl body k m (mX.u t x) K=mX.u (l m) x:=by
    intro m
    induction m with
    |zero=>intro x;exact(h0 x).symm
    |succ m ih=>
     intro x
     have e:(fun x=>kl body k m (mX.u t x) K)=mX.u (l m):=funext ih
     show body (mX.u t x) (uH k (fun cN=>kl body k m cN K) K)=_
     rw[hs,e,mX.cu,h1]
  rw[show(fun x=>kl body k m (mX.u t x) K)=mX.u (l m)from funext (this m),mX.cu]
abbrev RO:=Option aQ
def eR {X L:Type} [mX L X RO] (s:L→L):Nat→L
 |0=>mX.c fun _=>none
 |m+1=>s (eR s m)
def pt0:Nat→Nat→List Nat
 |0,_=>[]
 |k+1,n=>bif Nat.blt n 2 then[]else Nat.mod n 2::pt0 k (Nat.div n 2)
def pt (n:Nat):List Nat:=pt0 64 n
def ZX (C:Ctx) (D:oO) (call:af) (n:Nat):Code→List Nat→List (Nat×(St→RO))→(Ex→St→RO)→Ex→St→RO
 |.seq a b,i::p,fs,K=>bif Nat.beq i 0 then ZX C D call n a p fs (aam (fun cN=>fb C D.hints call n b 0 cN K) K)else ZX C D call n b p fs K
 |.cond _ a b,i::p,fs,K=>bif Nat.beq i 0 then ZX C D call n a p fs K else ZX C D call n b p fs K
 |.block id b,_::p,fs,K=>ZX C D call n b p fs (TH id K)
 |.loop b,_::p,(k,F)::fs,K=>ZX C D call n b p fs (uH (D.hints.bI k) F K)
 |_,_,_,K=>K
def lq {T L X:Type} [mX T X St] [mX L X RO] (C:Ctx) (D:oO) (call:af) (n i:Nat) (P:List Nat) (fs:List (Nat×(St→RO))) (t:T) (m:Nat):L:=mX.c fun x=>kl (fun st K=>fb C D.hints call n (cp P D.code) 0 st K) (D.hints.bI i) m (mX.u t x) (ZX C D call n D.code P.reverse fs (HH C D))
theorem bn {T L X:Type} [mX T X St] [mX L X RO] {C:Ctx} {D:oO} {call:af} {n i:Nat} {P:List Nat} {fs:List (Nat×(St→RO))} {t:T} {s:L→L} (hs:∀(F:St→RO) x,fb C D.hints call n (cp P D.code) 0 (mX.u t x) (uH (D.hints.bI i) F (ZX C D call n D.code P.reverse fs (HH C D)))=mX.u (s (mX.c fun x=>F (mX.u t x))) x) (m:Nat):eR s m=lq C D call n i P fs t m:=
 (acp (s:=s) (l:=eR s) (fun x=>congrFun (mX.uc fun _=>none) x) (fun _=>rfl) hs m).symm
def kp:List (Nat×List Nat)→Nat→List Nat
 |[],_=>[]
 |(k,l)::r,i=>bif Nat.beq k i then l else kp r i
def fD (f:Func) (h:Hints):oO:=⟨f,f.body.getD .skip,h⟩
abbrev Rq (α:Type):=Int→ByteArray→α
abbrev Vj (α:Type):=Int→Rq α
abbrev uC (α:Type):=Vj (LL→α)
abbrev cM (α:Type):=uC (LL→α)
abbrev ke (α:Type):=cM (cM α)
abbrev Ye (α:Type):=ke (Int→α)
abbrev kd (α:Type):=Rq (LL→α)
abbrev aaV (α:Type):=Ye (LL→α)
abbrev iF (α:Type):=Int→Int→α
abbrev pT (α:Type):=kd (aaV α)
abbrev ln (α:Type):=uC (aaV α)
abbrev eh (α:Type):=LL→Int→α
abbrev AX (α:Type):=Nat→ByteArray→α
abbrev K2 (α:Type):=ByteArray→ByteArray→α
abbrev ae (d:List Cell):V:=(getD d 0 bZ).1
abbrev aH (d:List Cell):V:=(getD d 1 bZ).1
abbrev ak (l:LL) (i:Int) (k:Nat):V:=getD (getD l i.toNat []) k V.any
abbrev bJ (l:LL) (i:Int):V:=V.agg [getD (getD l i.toNat []) 0 V.any,getD (getD l i.toNat []) 1 V.any,getD (getD l i.toNat []) 2 V.any,getD (getD l i.toNat []) 3 V.any,getD (getD l i.toNat []) 4 V.any]
abbrev gr {α:Type} (f:V→V→V→V→V→α) (l:LL) (i:Int):α:=f (getD (getD l i.toNat []) 0 V.any) (getD (getD l i.toNat []) 1 V.any) (getD (getD l i.toNat []) 2 V.any) (getD (getD l i.toNat []) 3 V.any) (getD (getD l i.toNat []) 4 V.any)
abbrev xh (l:LL) (i:Int):V:=V.agg [getD (getD l i.toNat []) 1 V.any,getD (getD l i.toNat []) 2 V.any,getD (getD l i.toNat []) 3 V.any,getD (getD l i.toNat []) 4 V.any,getD (getD l i.toNat []) 5 V.any]
abbrev ab6 {α:Type} (f:V→V→V→V→V→α) (l:LL) (i:Int):α:=f (getD (getD l i.toNat []) 1 V.any) (getD (getD l i.toNat []) 2 V.any) (getD (getD l i.toNat []) 3 V.any) (getD (getD l i.toNat []) 4 V.any) (getD (getD l i.toNat []) 5 V.any)
abbrev bb (v:V) (k:Int→RO):RO:=(V.asInt v .i64).bind k
abbrev cz (v:V) (a b:Nat) (k:LL→RO):RO:=(V.asSlice v a b).bind k
abbrev cB (v:V) (k:Bool→RO):RO:=(V.asBool v).bind k
abbrev bo (i:Int) (l:LL) (k:RO):RO:=(bz (decide (0≤i)&&decide (i<l.length))).bind fun _=>k
abbrev bQ (v:V) (n:Nat) (k:RO):RO:=(bz (V.fits v true n)).bind fun _=>k
abbrev AU (d:List Cell) (k:RO):RO:=(bz ((getD d 0 bZ).2&&true)).bind fun _=>k
abbrev dS (b:Bool) (k:RO):RO:=(bz b).bind fun _=>k
abbrev jq (v:V) (b:Bool) (n:Nat) (k:RO):RO:=(bz (V.fits v b n&&true)).bind fun _=>k
abbrev W2 (v:V) (n:Nat) (k:RO):RO:=(bz (V.fits v false n)).bind fun _=>k
abbrev iz (c:LL) (k:RO):RO:=(bz (room (List.length c+1))).bind fun _=>k
abbrev dG (v:V) (k:ByteArray→RO):RO:=(V.di v).bind k
abbrev cj (σ:az) (t b o:Nat) (k:V→RO):RO:=(bu σ (V.ptr t b o) false 1).bind k
abbrev aE (call:af) (f:FuncId) (a:List Cell) (σ:az) (n:Nat) (k:List Cell→az→RO):RO:=aA call f a σ n k pnK
abbrev UR {α:Type} (f:α) (k:α→RO):RO:=k f
abbrev bp (i:Int):Int:=wrap .i64 (i+1)
abbrev aM (a:V):List Cell:=[(a,false)]
abbrev aF (a b:V):List Cell:=[(a,false),(b,false)]
abbrev bH (a b c:V):List Cell:=[(a,false),(b,false),(c,false)]
abbrev ft (a b c d:V):List Cell:=[(a,false),(b,false),(c,false),(d,false)]
abbrev dn (a b c d e:V):List Cell:=[(a,false),(b,false),(c,false),(d,false),(e,false)]
abbrev ab9 (a b c d e f:V):List Cell:=[(a,false),(b,false),(c,false),(d,false),(e,false),(f,false)]
abbrev Yb (a b c d e f g:V):List Cell:=[(a,false),(b,false),(c,false),(d,false),(e,false),(f,false),(g,false)]
abbrev aq (a:V) (σ:az):RO:=some (.ret [(a,false)],σ)
abbrev cq (a b:V) (σ:az):RO:=some (.ret [(a,false),(b,false)],σ)
abbrev dc (a b c:V) (σ:az):RO:=some (.ret [(a,false),(b,false),(c,false)],σ)
abbrev bF (a b c d e:V):V:=V.agg [a,b,c,d,e]
abbrev yZ (v:V):V:=V.agg [V.cell v 0,V.cell v 1]
abbrev Ro (v:V):V:=V.agg [V.cell v 0,V.cell v 1,V.cell v 2]
abbrev bA (v:V):V:=V.agg [V.cell v 0,V.cell v 1,V.cell v 2,V.cell v 3,V.cell v 4]
abbrev dk (l:LL):V:=V.slice 5 53 l
abbrev iP (l:LL):V:=V.slice 3 120 l
abbrev de (l:LL):V:=V.slice 1 9 l
abbrev cR {α:Type} (f:V→V→V→V→V→α) (v:V):α:=f (V.cell v 0) (V.cell v 1) (V.cell v 2) (V.cell v 3) (V.cell v 4)
abbrev aP (i:Int):V:=V.int .i64 i
abbrev bU (a:Int) (b:ByteArray) (c:LL):V:=V.agg [V.int .i64 a,V.str b,V.slice 3 120 c]
abbrev aC (a:Int) (b:Int) (c:ByteArray) (d:LL) (e:LL):V:=V.agg [V.int .i64 a,V.int .i64 b,V.str c,V.slice 3 120 d,V.slice 5 53 e]
abbrev dZ (a:Int) (b:ByteArray) (c:LL) (d:Int) (e:Int) (f:ByteArray) (g:LL) (h:LL) (i:Int) (j:Int) (k:ByteArray) (l:LL) (m:LL) (n:Int) (o:LL):V:=V.agg [V.int .i64 a,V.str b,V.slice 1 9 c,V.int .i64 d,V.int .i64 e,V.str f,V.slice 3 120 g,V.slice 5 53 h,V.int .i64 i,V.int .i64 j,V.str k,V.slice 3 120 l,V.slice 5 53 m,V.int .i64 n,V.slice 6 60 o]
abbrev NA (a:ByteArray) (b:Int) (c:Int) (d:ByteArray) (e:LL) (f:LL):V:=V.agg [V.str a,V.int .i64 b,V.int .i64 c,V.str d,V.slice 3 120 e,V.slice 5 53 f]
abbrev aaQ (a:Int) (b:ByteArray) (c:LL) (d:Int) (e:Int) (f:ByteArray) (g:LL) (h:LL) (i:Int) (j:Int) (k:ByteArray) (l:LL) (m:LL) (n:Int) (o:LL) (p:LL) (q:Int) (r:Int) (s:ByteArray) (t:LL) (u:LL):V:=V.agg [V.int .i64 a,V.str b,V.slice 1 9 c,V.int .i64 d,V.int .i64 e,V.str f,V.slice 3 120 g,V.slice 5 53 h,V.int .i64 i,V.int .i64 j,V.str k,V.slice 3 120 l,V.slice 5 53 m,V.int .i64 n,V.slice 6 60 o,V.slice 1 9 p,V.int .i64 q,V.int .i64 r,V.str s,V.slice 3 120 t,V.slice 5 53 u]
abbrev Fk (a:Int) (b:Int):V:=V.agg [V.int .i64 a,V.int .i64 b]
abbrev aU:RV:=.dead
abbrev gV (x:V):RV:=.val x false
abbrev KG (x:V):RV:=.val x true
abbrev cH (n:Nat):RV:=.eK n 0
abbrev nD (a:Nat):RV:=.val (.ptr 49 a 0) false
def gW:V→List Cell
 |.agg l=>l.map fun v=>(v,false)
 |_=>[]
abbrev bg (x:Int):RV:=.val (.int .i64 x) false
abbrev IC (x:LL):RV:=.val (.slice 5 53 x) false
abbrev zq (x:LL):RV:=.val (.slice 5 53 x) true
abbrev Ve (x:LL):RV:=.val (.slice 3 120 x) false
abbrev adx (x:LL):RV:=.val (.slice 3 120 x) true
abbrev zr (x:LL):RV:=.val (.slice 1 9 x) false
abbrev Yp (x:LL):RV:=.val (.slice 1 9 x) true
abbrev KW (x:ByteArray):RV:=.val (.str x) false
end
end Go.Ab
end
section
namespace Go.Ab
def Conv {α:Type} (x:Nat→Option α) (l:Option α):Prop:=∀r,l=some r→∃k,∀j,k≤j→x j=some r
theorem Conv.none {α:Type} (x:Nat→Option α):Conv x none:=fun r h=>by simp at h
theorem Conv.const {α:Type} (l:Option α):Conv (fun _=>l) l:=fun r h=>⟨0,fun _ _=>h⟩
theorem Conv.qQ {α β:Type} (o:Option α) {g:Nat→α→Option β} {f:α→Option β} (h:∀a,Conv (fun k=>g k a) (f a)):Conv (fun k=>o.bind (g k)) (o.bind f):=by
 cases o with
 |none=>exact Conv.none _
 |some a=>exact h a
theorem Conv.bind {α β:Type} {o:Nat→Option α} {ol:Option α} {g:Nat→α→Option β} {f:α→Option β} (ho:Conv o ol) (h:∀a,Conv (fun k=>g k a) (f a)):Conv (fun k=>(o k).bind (g k)) (ol.bind f):=by
 intro r hr
 cases hol:ol with
 |none=>simp[hol]at hr
 |some a=>
  rw[hol]at hr
  obtain⟨k1,h1⟩:=ho a hol
  obtain⟨k2,h2⟩:=h a r hr
  exact⟨max k1 k2,fun j hj=>by show(o j).bind (g j)=_;rw[h1 j (by omega)];exact h2 j (by omega)⟩
theorem Conv.ite {α:Type} (p:Prop) [Decidable p] {a b:Nat→Option α} {al bl:Option α} (ha:Conv a al) (hb:Conv b bl):Conv (fun k=>if p then a k else b k) (if p then al else bl):=by
 by_cases hp:p
 ·simp only[if_pos hp];exact ha
 ·simp only[if_neg hp];exact hb
theorem Conv.cond {α:Type} (p:Bool) {a b:Nat→Option α} {al bl:Option α} (ha:Conv a al) (hb:Conv b bl):Conv (fun k=>bif p then a k else b k) (bif p then al else bl):=by
 cases p
 ·exact hb
 ·exact ha
section
variable {C:Ctx} {H:Hints} {ck:Nat→af} {cl:af}
theorem OO (hc:∀f a σ,Conv (fun k=>ck k f a σ) (cl f a σ)) (dst:Option Nat) (st:St) {Ks:Nat→Out→Option aQ} {Kl:Out→Option aQ} (hK:∀o,Conv (fun k=>Ks k o) (Kl o)) (e:lM):
    Conv (fun k=>apply H (ck k) dst st (Ks k) e) (apply H cl dst st Kl e):=by
  cases e with
  |val x=>exact hK _
  |xd r o n agg cW=>
   simp only[apply]
   refine Conv.ite _ ?_ ?_
   · exact Conv.ite _ (Conv.ite _ (hK _) (Conv.none _)) (Conv.none _)
   · exact Conv.qQ _ fun v=>hK _
  |xe r o cs=>exact Conv.ite _ (hK _) (Conv.none _)
  |rl cs=>
   cases dst with
   |none=>exact Conv.none _
   |some d=>exact Conv.ite _ (hK _) (Conv.none _)
  |vz p n agg=>exact Conv.qQ _ fun v=>hK _
  |nH p=>exact Conv.qQ _ fun v=>hK _
  |yR p cs=>exact Conv.qQ _ fun v=>hK _
  |vA t cs=>
   cases dst with
   |none=>exact Conv.none _
   |some d=>exact hK _
  |gR r i=>
   simp only[apply]
   split
   · split
     · exact hK _
     · exact Conv.none _
   · exact Conv.none _
  |qJ f args n=>
   simp only[apply]
   refine Conv.bind (o:=fun k=>yT (ck k f args [])) ?_ fun vs=>Conv.ite _ (Conv.qQ _ fun _=>hK _) (Conv.none _)
   intro vs h
   obtain⟨k1,h1⟩:=hc f args [] _ (AJ h)
   exact⟨k1,fun j hj=>by simp only[h1 j hj];rfl⟩
  |call f args n=>
   intro r hr
   simp only[apply]at hr ⊢
   split at hr
   · simp at hr
   · rename_i r1 BN
     obtain⟨k1,h1⟩:=hc f args st.bP r1 BN
     have acq:Conv (fun k=>match r1.1 with
         |.ret vs=>if vs.length=n then(bz (pK H dst n vs)).bind fun _=>Ks k (.next ({st with bP:=r1.2}.put dst (Cr H dst n vs)))else none
         |.fB v=>Ks k (.fB v {st with bP:=r1.2})) (match r1.1 with
         |.ret vs=>if vs.length=n then(bz (pK H dst n vs)).bind fun _=>Kl (.next ({st with bP:=r1.2}.put dst (Cr H dst n vs)))else none
         |.fB v=>Kl (.fB v {st with bP:=r1.2})):=by
       split
       · exact Conv.ite _ (Conv.qQ _ fun _=>hK _) (Conv.none _)
       · exact hK _
     obtain⟨k2,h2⟩:=acq r hr
     refine⟨max k1 k2,fun j hj=>?_⟩
     have h3:ck j f args st.bP=some r1:=h1 j (by omega)
     rw[h3]
     exact h2 j (by omega)
  |fB v=>exact hK _
theorem VP (hc:∀f a σ,Conv (fun k=>ck k f a σ) (cl f a σ)) (o:Oper) (st:St) {Ks:Nat→Out→Option aQ} {Kl:Out→Option aQ} (hK:∀o,Conv (fun k=>Ks k o) (Kl o)):
    Conv (fun k=>QT C H (ck k) o st (Ks k)) (QT C H cl o st Kl):=by
  simp only[QT,HI]
  exact Conv.qQ _ fun e=>OO hc _ _ hK e
theorem mF (hc:∀f a σ,Conv (fun k=>ck k f a σ) (cl f a σ)) (dr:Option (List (List Nat))) (ops:Array Oper):
    ∀(l:List Nat) (st:St) {Ks:Nat→Out→Option aQ} {Kl:Out→Option aQ} (_:∀o,Conv (fun k=>Ks k o) (Kl o)),Conv (fun k=>pL C H (ck k) dr ops l st (Ks k)) (pL C H cl dr ops l st Kl)
  |[],st,Ks,Kl,hK=>hK _
  |i::rest,st,Ks,Kl,hK=>by
   have step:∀(o:Oper) (st:St),Conv (fun k=>QT C H (ck k) o st fun out=>match out with|.next st=>pL C H (ck k) dr ops rest st (Ks k)|.fB v st=>(bz (AI dr i rest)).bind fun _=>Ks k (.fB v st))
       (QT C H cl o st fun out=>match out with|.next st=>pL C H cl dr ops rest st Kl|.fB v st=>(bz (AI dr i rest)).bind fun _=>Kl (.fB v st)):=by
     intro o st
     refine VP hc o st fun out=>?_
     cases out with
     |next st=>exact mF hc dr ops rest st hK
     |fB v st=>exact Conv.qQ _ fun _=>hK _
   simp only[pL]
   split
   · exact Conv.none _
   · refine Conv.qQ _ fun _=>?_
     split
     · exact step _ _
     · split
       · exact Conv.none _
       · split
         · refine Conv.qQ _ fun b=>Conv.cond _ ?_ ?_
           · exact Conv.ite _ (step _ _) (mF hc dr ops rest _ hK)
           · exact Conv.ite _ (mF hc dr ops rest _ hK) (step _ _)
         · exact mF hc dr ops rest _ hK
         · exact Conv.none _
theorem D2 {body:Nat→St→(Ex→St→Option aQ)→Option aQ} {Qi:St→(Ex→St→Option aQ)→Option aQ} (bI:List Nat)
  (hb:∀st (Ks:Nat→Ex→St→Option aQ) (Kl:Ex→St→Option aQ),(∀ex st,Conv (fun k=>Ks k ex st) (Kl ex st))→Conv (fun k=>body k st (Ks k)) (Qi st Kl)):
  ∀(n:Nat) (ns:Nat→Nat) (_:∃k0,∀k,k0≤k→n≤ns k) (st:St) (Ks:Nat→Ex→St→Option aQ) (Kl:Ex→St→Option aQ),(∀ex st,Conv (fun k=>Ks k ex st) (Kl ex st))→
   Conv (fun k=>kl (body k) bI (ns k) st (Ks k)) (kl Qi bI n st Kl)
 |0,ns,hn,st,Ks,Kl,hK=>Conv.none _
 |n+1,ns,⟨k0,hn⟩,st,Ks,Kl,hK=>by
  have key:Conv (fun k=>body k st (uH bI (fun cN=>kl (body k) bI (ns k - 1) cN (Ks k)) (Ks k))) (Qi st (uH bI (fun cN=>kl Qi bI n cN Kl) Kl)):=by
   refine hb st (fun k=>uH bI (fun cN=>kl (body k) bI (ns k - 1) cN (Ks k)) (Ks k)) _ fun ex cN=>?_
   cases ex with
   |normal=>exact D2 bI hb n (fun k=>ns k - 1) ⟨k0,fun k hk=>by have:=hn k hk;omega⟩ _ Ks Kl hK
   |exit i=>exact hK _ _
   |ret=>exact hK _ _
   |fB v=>exact hK _ _
  intro r hr
  obtain⟨k1,h1⟩:=key r hr
  refine⟨max k0 k1,fun j hj=>?_⟩
  have h2:=hn j (by omega)
  obtain⟨m,hm⟩:∃m,ns j=m+1:=⟨ns j - 1,by omega⟩
  have h3:body j st (uH bI (fun cN=>kl (body j) bI (ns j - 1) cN (Ks j)) (Ks j))=some r:=h1 j (by omega)
  show kl (body j) bI (ns j) st (Ks j)=some r
  rw[hm]at h3 ⊢
  exact h3
theorem gB (hc:∀f a σ,Conv (fun k=>ck k f a σ) (cl f a σ)) {n:Nat} {ns:Nat→Nat} (hn:∃k0,∀k,k0≤k→n≤ns k):
    ∀(c:Code) (id:Nat) (st:St) (Ks:Nat→Ex→St→Option aQ) (Kl:Ex→St→Option aQ),(∀ex st,Conv (fun k=>Ks k ex st) (Kl ex st))→
     Conv (fun k=>fb C H (ck k) (ns k) c id st (Ks k)) (fb C H cl n c id st Kl)
  |.skip,_,st,Ks,Kl,hK=>hK _ _
  |.label l,_,st,Ks,Kl,hK=>hK _ _
  |.region id ops draw,_,st,Ks,Kl,hK=>by
   have fin:∀out,Conv (fun k=>match out with|Out.next st=>Ks k .normal st|.fB v st=>Ks k (.fB v) st) (match out with|.next st=>Kl .normal st|.fB v st=>Kl (.fB v) st):=by
     intro out
     cases out<;>exact hK _ _
   simp only[fb]
   refine Conv.ite _ ?_ ?_
   · exact Conv.qQ _ fun _=>mF hc _ _ _ _ fin
   · exact mF hc _ _ _ _ fin
  |.seq x y,id,st,Ks,Kl,hK=>by
   simp only[fb]
   refine gB hc hn x 0 st (fun k=>aam (fun cN=>fb C H (ck k) (ns k) y 0 cN (Ks k)) (Ks k)) _ fun ex cN=>?_
   cases ex with
   |normal=>exact gB hc hn y 0 cN Ks Kl hK
   |exit i=>exact hK _ _
   |ret=>exact hK _ _
   |fB v=>exact hK _ _
  |.cond c x y,id,st,Ks,Kl,hK=>by
   simp only[fb]
   split
   · split
     · exact Conv.qQ _ fun b=>Conv.cond _ (gB hc hn x 0 _ Ks Kl hK) (gB hc hn y 0 _ Ks Kl hK)
     · exact Conv.none _
   · exact Conv.ite _ (gB hc hn x 0 _ Ks Kl hK) (gB hc hn y 0 _ Ks Kl hK)
   · exact Conv.none _
  |.block i body,id,st,Ks,Kl,hK=>by
   simp only[fb]
   refine gB hc hn body i st (fun k=>TH i (Ks k)) _ fun ex cN=>?_
   cases ex with
   |normal=>exact hK _ _
   |exit j=>simp only[TH];exact Conv.ite _ (hK _ _) (hK _ _)
   |ret=>exact hK _ _
   |fB v=>exact hK _ _
  |.loop body,id,st,Ks,Kl,hK=>by
   simp only[fb]
   exact D2 (body:=fun k st K=>fb C H (ck k) (ns k) body 0 st K) (H.bI id) (fun st Ks Kl hK=>gB hc hn body 0 st Ks Kl hK) n ns hn _ Ks Kl hK
  |.exit i,id,st,Ks,Kl,hK=>hK _ _
  |.ret,id,st,Ks,Kl,hK=>hK _ _
  |.rangeFunc ..,id,st,Ks,Kl,hK=>Conv.none _
  |.scope ..,id,st,Ks,Kl,hK=>Conv.none _
  |.goto _,id,st,Ks,Kl,hK=>Conv.none _
  |.refuse _,id,st,Ks,Kl,hK=>Conv.none _
theorem Gy (hc:∀f a σ,Conv (fun k=>ck k f a σ) (cl f a σ)) {n:Nat} {ns:Nat→Nat} (hn:∃k0,∀k,k0≤k→n≤ns k) (d:oO) (args:List Cell) (σ:az):
    Conv (fun k=>J7 C d (ck k) (ns k) args σ) (J7 C d cl n args σ):=by
  simp only[J7]
  exact Conv.ite _ (gB hc hn _ _ _ (fun _=>HH C d) (HH C d) fun ex st=>Conv.const _) (Conv.none _)
theorem nQ:∀(n m:Nat) (f:FuncId) (args:List Cell) (σ:az) (r:aQ),n≤m→jN C n f args σ=some r→jN C m f args σ=some r
 |0,m,f,args,σ,r,hm,h=>by simp[jN]at h
 |n+1,0,f,args,σ,r,hm,h=>by omega
 |n+1,m+1,f,args,σ,r,hm,h=>by
  simp only[jN]at h ⊢
  split
  ·rename_i s hs
   rw[hs]at h
   exact h
  ·rename_i hs
   rw[hs]at h
   simp only at h
   split
   ·rename_i d hd
    rw[hd]at h
    simp only at h
    obtain⟨k,hk⟩:=Gy (ck:=fun _=>jN C m) (ns:=fun _=>m) (fun f a σ r hr=>⟨0,fun j _=>nQ n m f a σ r (by omega) hr⟩) ⟨0,fun k _=>(by omega:n≤m)⟩ d (gG d.hints.own 0 args) σ r h
    exact hk k (Nat.le_refl _)
   ·rename_i hd
    rw[hd]at h
    simp at h
noncomputable def ah (C:Ctx):af:=fun f args σ=>open Classical in if h:∃r n,jN C n f args σ=some r then some h.choose else none
theorem B3 {f:FuncId} {args:List Cell} {σ:az} {r:aQ}:ah C f args σ=some r↔∃n,jN C n f args σ=some r:=by
 unfold ah
 constructor
 ·intro h
  split at h
  ·rename_i hx
   obtain rfl:=Option.some.inj h
   exact hx.choose_spec
  ·simp at h
 ·rintro⟨n,hn⟩
  have hx:∃r n,jN C n f args σ=some r:=⟨r,n,hn⟩
  rw[dif_pos hx]
  obtain⟨m,hm⟩:=hx.choose_spec
  have h1:=nQ n (max n m) f args σ r (by omega) hn
  have h2:=nQ m (max n m) f args σ _ (by omega) hm
  exact h2.symm.trans h1
theorem VQ (f:FuncId) (a:List Cell) (σ:az):Conv (fun k=>jN C k f a σ) (ah C f a σ):=by
 intro r hr
 obtain⟨n,hn⟩:=B3.1 hr
 exact⟨n,fun j hj=>nQ n j f a σ r hj hn⟩
theorem aaJ {f:FuncId} {d:oO} (hx:C.ext f=none) (hd:C.Fi f=some d) (n:Nat) {args:List Cell} {σ:az} {r:aQ} (h:J7 C d (ah C) n (gG d.hints.own 0 args) σ=some r):ah C f args σ=some r:=by
 obtain⟨k,hk⟩:=Gy (ck:=jN C) (ns:=id) (n:=n) VQ ⟨n,fun k hk=>hk⟩ d (gG d.hints.own 0 args) σ r h
 exact B3.2 ⟨k+1,by simp only[jN,hx,hd];exact hk k (Nat.le_refl _)⟩
theorem ma {f:FuncId} {s:List Cell→az→Option aQ} (hx:C.ext f=some s) {args:List Cell} {σ:az} {r:aQ} (h:s args σ=some r):ah C f args σ=some r:=
 B3.2 ⟨1,by simp only[jN,hx];exact h⟩
theorem aaY {P:Program} (hC:dN P C) (hX:VO P C):ji P C (ah C):=by
 intro f args σ r h
 obtain⟨n,hn⟩:=B3.1 h
 exact A2 hC hX n f args σ r hn
end
end Go.Ab
end
section
namespace Go.Ab
section
variable {P:Program} {C:Ctx}
theorem Ue {gl:Nat→Option (List V)} {G:Gh} {w:World} {σ:az} (h:dR gl G w σ):Inv gl G (fun _=>0) {tmps:=#[],defers:=[]} w {au:=[],bC:=[],bP:=σ}:=
 ⟨rfl,rfl,rfl,fun r x hx=>by simp at hx,fun r cs hc=>by simp at hc,h⟩
theorem qq (w:World) (g n:Nat) {i:Nat} (hi:i≠g):(w.freeze ⟨g,0,none⟩ n).heap[i]?=w.heap[i]?:=by
 unfold World.freeze
 split
 ·rfl
 ·show(w.heap.modify g _)[i]?=_
  rw[Array.getElem?_modify,if_neg (fun h=>hi h.symm)]
theorem zT (w:World) (g n:Nat) {cv:Array Value} {e:TypeId} {fr:Nat×Nat} (h:w.heap[g]?=some (.cells cv e fr)):
  ∃fr',(w.freeze ⟨g,0,none⟩ n).heap[g]?=some (.cells cv e fr')∧(fr'.2≤fr.2∨fr'.2≤max fr.2 n):=by
 obtain⟨lo,hi⟩:=fr
 unfold World.freeze
 split
 ·exact⟨_,h,.inl (Nat.le_refl _)⟩
 ·have:(w.heap.modify g fun
    |.cells c elem (lo,hi)=>.cells c elem (if lo==hi then(0,0+n)else(min lo 0,max hi (0+n)))
    |o=>o)[g]?=some (.cells cv e (if lo==hi then(0,0+n)else(min lo 0,max hi (0+n)))):=by
   rw[Array.getElem?_modify,if_pos rfl,h];rfl
  refine⟨_,this,.inr ?_⟩
  split<;>simp<;>omega
theorem Ls (w:World) (g n b o:Nat) {cv:Array Value} {e:TypeId} {fr:Nat×Nat} (h:w.heap[g]?=some (.cells cv e fr)):(w.freeze ⟨g,0,none⟩ n).cell? ⟨b,o,none⟩=w.cell? ⟨b,o,none⟩:=by
 by_cases hb:b=g
 ·subst hb
  obtain⟨fr',h1,_⟩:=zT w b n h
  simp only[World.cell?,h,h1]
 ·simp only[World.cell?]
  rw[qq w g n hb]
theorem Lt (w:World) (g n b o:Nat) {cv:Array Value} {e:TypeId} {fr:Nat×Nat} (h:w.heap[g]?=some (.cells cv e fr)):fE (w.freeze ⟨g,0,none⟩ n) b o=fE w b o:=by
 by_cases hb:b=g
 ·subst hb
  obtain⟨fr',h1,_⟩:=zT w b n h
  exact FY (Ls w b n b o h) (fun es c=>by rw[h];simp) (fun es c=>by rw[h1];simp)
 ·exact eH (qq w g n hb) o
theorem dR.freeze {gl:Nat→Option (List V)} {G:Gh} {w:World} {σ:az} (h:dR gl G w σ) {g n:Nat} {b0 o0:Nat} (ho:G.owner g=some (.gc b0 o0)) (hn:n≤G.ah g) (Tz:0<n) {cv0:Array Value} {e0:TypeId} {fr0:Nat×Nat} (hg0:w.heap[g]?=some (.cells cv0 e0 fr0)):
  Ext G w G (w.freeze ⟨g,0,none⟩ n)∧dR gl G (w.freeze ⟨g,0,none⟩ n) σ:=by
 have iM:(w.freeze ⟨g,0,none⟩ n).heap.size=w.heap.size:=by
  unfold World.freeze;split<;>simp
 have jb:∀i,i≠g→(w.freeze ⟨g,0,none⟩ n).heap[i]?=w.heap[i]?:=fun i hi=>qq w g n hi
 have W8:(w.freeze ⟨g,0,none⟩ n).os=w.os∧(w.freeze ⟨g,0,none⟩ n).tape=w.tape∧(w.freeze ⟨g,0,none⟩ n).output=w.output:=by
  unfold World.freeze;split<;>exact⟨rfl,rfl,rfl⟩
 have hE:Ext G w G (w.freeze ⟨g,0,none⟩ n):=⟨Nat.le_refl _,fun _ _=>rfl,fun _ _=>rfl,fun _=>Nat.le_refl _,fun b o _=>Lt w g n b o hg0,W8.1,W8.2.1,W8.2.2,by rw[iM];exact Nat.le_refl _,fun i _ hi=>⟨jb i (by rintro rfl;rw[ho]at hi;simp at hi),rfl,hi⟩⟩
 have ja:∀(p:Place) (v:V) (c:Value),Own G w p v c→Own G (w.freeze ⟨g,0,none⟩ n) p v c:=by
  intro p v c hh
  unfold Own at*
  split at hh
  ·obtain⟨h1,h2,h3,h4,cv,fr,h5,h6,h7⟩:=hh
   rename_i k e es a m cap
   refine⟨h1,h2,h3,h4,cv,?_⟩
   by_cases hg:a.block=g
   ·rw[hg]at h5 ⊢
    obtain⟨fr',k1,k2⟩:=zT w g n h5
    have:n≤m*k:=by rw[←h4,hg];exact hn
    exact⟨fr',k1,h6,by omega⟩
   ·exact⟨fr,by rw[jb _ hg];exact h5,h6,h7⟩
  ·rename_i k e es a m cap
   obtain⟨h3,h4,h5⟩:=hh
   refine⟨h3,h4,h5.move (fun hr=>hr.mono hE) (jb _ fun hg=>?_)⟩
   rw[hg]at h4;omega
  ·rename_i ks es b
   obtain⟨h3,h4,h5⟩:=hh
   refine⟨h3,h4,?_⟩
   by_cases hg:b=g
   ·obtain⟨bY,clock,q1,_⟩:=h5
    rw[hg,hg0]at q1;simp at q1
   ·exact h5.move (fun hr=>hr.mono hE) (jb _ hg)
  ·exact hh
  ·trivial
 refine⟨hE,fun i hi=>h.wf i (by rw[iM]at hi;exact hi),fun g' cs hg=>(h.bN g' cs hg).mono hE,h.N,fun b hb=>?_,fun b cs hb=>?_,h.PE.mono hE⟩
 ·obtain⟨cv,fr,q1⟩:=h.typed b hb
  obtain⟨_,_,_,_,q3,_⟩:=h.eZ b σ[b] (List.getElem?_eq_getElem hb)
  exact⟨cv,fr,by rw[jb _ (fun hh=>by rw[hh,ho]at q3;simp at q3)];exact q1⟩
 ·obtain⟨cv,el,g1,g2,g3,g4,g5⟩:=h.eZ b cs hb
  exact⟨cv,el,by rw[jb _ (fun hh=>by rw[hh,ho]at g3;simp at g3)];exact g1,g2,g3,g4,fun j c x hc hx=>⟨⟨(g5 j c x hc hx).1.1.mono hE,fun hf=>ja _ _ _ ((g5 j c x hc hx).1.2 hf)⟩,(g5 j c x hc hx).2⟩⟩
end
end Go.Ab
end
section
namespace Go.Ab
inductive Lv where
 |zero
 |succ (l:Lv)
 |max (a b:Lv)
 |imax (a b:Lv)
 |param (s:ByteArray)
 deriving Inhabited
def Lv.kind:Lv→Int
 |.zero=>0|.succ _=>1|.max ..=>2|.imax ..=>3|.param _=>4
def Lv.name:Lv→ByteArray
 |.param s=>s
 |_=>ByteArray.mk #[]
def Lv.enc:Lv→List V
 |.zero=>[.int .i64 0,.str (ByteArray.mk #[]),.slice 3 120 []]
 |.succ l=>[.int .i64 1,.str (ByteArray.mk #[]),.slice 3 120 [l.enc]]
 |.max a b=>[.int .i64 2,.str (ByteArray.mk #[]),.slice 3 120 [a.enc,b.enc]]
 |.imax a b=>[.int .i64 3,.str (ByteArray.mk #[]),.slice 3 120 [a.enc,b.enc]]
 |.param s=>[.int .i64 4,.str s,.slice 3 120 []]
def Lv.kids:Lv→List Lv
 |.succ l=>[l]
 |.max a b=>[a,b]
 |.imax a b=>[a,b]
 |_=>[]
def Lv.args (l:Lv):List (List V):=l.kids.map Lv.enc
def Lv.size:Lv→Nat
 |.succ l=>l.size+1
 |.max a b=>a.size+b.size+1
 |.imax a b=>a.size+b.size+1
 |_=>1
theorem Lv.size_pos (l:Lv):0<l.size:=by cases l<;>simp[Lv.size]
theorem Lv.aX (l:Lv):l.enc=[.int .i64 l.kind,.str l.name,.slice 3 120 l.args]:=by cases l<;>rfl
theorem Lv.pN (l:Lv):l.enc.length=3:=by cases l<;>rfl
theorem Lv.cells (l:Lv):V.agg [l.enc.getD 0 V.any,l.enc.getD 1 V.any,l.enc.getD 2 V.any]=V.agg [.int .i64 l.kind,.str l.name,.slice 3 120 l.args]:=by rw[l.aX];rfl
theorem Lv.ind {P:Lv→Prop} (h:∀l,(∀c∈l.kids,P c)→P l):∀l,P l
 |.zero=>h _ (by simp[Lv.kids])
 |.param _=>h _ (by simp[Lv.kids])
 |.succ l=>h _ (by simp only[Lv.kids,List.mem_cons,List.not_mem_nil,or_false];rintro c rfl;exact Lv.ind h c)
 |.max a b=>h _ (by simp only[Lv.kids,List.mem_cons,List.not_mem_nil,or_false];rintro c (rfl|rfl)<;>exact Lv.ind h _)
 |.imax a b=>h _ (by simp only[Lv.kids,List.mem_cons,List.not_mem_nil,or_false];rintro c (rfl|rfl)<;>exact Lv.ind h _)
def strs (ss:List ByteArray):List (List V):=ss.map fun s=>[.str s]
def ints (ns:List Int):List (List V):=ns.map fun n=>[.int .i64 n]
theorem sw {n:Nat} (h:n<2^62):IntKind.wrap .i64 (n:Int)=n:=by
 unfold IntKind.wrap
 simp[IntKind.bits,IntKind.signed]<;>omega
theorem aw {n:Nat} (h:n<2^61):IntKind.wrap .i64 ((n:Int)+1)=((n+1:Nat):Int):=by rw[←sw (n:=n+1) (by omega)];simp
theorem ib {ps:List ByteArray} {i:Nat} (h:i<ps.length):(strs ps).getD i []=[V.str ps[i]]:=by simp[strs,h]
theorem VR {ns:List Int} {i:Nat} (h:i<ns.length):(ints ns).getD i []=[V.int .i64 ns[i]]:=by simp[ints,h]
theorem cw (ps:List ByteArray):(strs ps).length=ps.length:=by simp[strs]
theorem Lu (ps:List Int):(ints ps).length=ps.length:=by simp[ints]
theorem lj (ps qs:List ByteArray):strs (ps++qs)=strs ps++strs qs:=by simp[strs]
theorem cF {n:Nat} (h:n<2^34):room n=true:=by
 unfold room
 refine decide_eq_true ?_
 by_cases h0:n=0
 ·subst h0;simp
 ·have:=(Nat.log2_lt (k:=34) h0).2 h
  omega
theorem ab {call:af} {f:FuncId} {args:List Cell} {σ eM:az} {K:List Cell→az→Option aQ} {KP:V→az→Option aQ} {c:Cell} (h:call f args σ=some (.ret [c],eM)):
  aA call f args σ 1 K KP=K [c] eM:=ui h rfl
theorem bm {call:af} {f:FuncId} {args:List Cell} {σ eM:az} {K:List Cell→az→Option aQ} {KP:V→az→Option aQ} (h:call f args σ=some (.ret [],eM)):
  aA call f args σ 0 K KP=K [] eM:=ui h rfl
theorem eD {i n:Nat} (h:i<n):decide ((i:Int)<(n:Int))=true:=by simpa using h
theorem cQ {i n:Nat} (h:¬i<n):decide ((i:Int)<(n:Int))=false:=by simpa using h
theorem d0 (i:Nat):decide (0≤(i:Int))=true:=by simp
theorem B4 {L:List Lv} {i:Nat} {c:Lv} (hc:L[i]?=some c):(L.map Lv.enc).getD (Int.toNat (i:Int)) []=c.enc:=by
 obtain⟨h,rfl⟩:=List.getElem?_eq_some_iff.1 hc
 simp[h]
theorem drop_cons {α:Type} {L:List α} {i:Nat} {c:α} (hc:L[i]?=some c):L.drop i=c::L.drop (i+1):=by
 obtain⟨h,rfl⟩:=List.getElem?_eq_some_iff.1 hc
 exact List.drop_eq_getElem_cons h
end Go.Ab
end
section
namespace Go.Ab
def OP:TK→TypeDesc→Bool
 |.bool,.bool=>true
 |.int k,.int k'=>decide (k=k')
 |.string,.string=>true
 |.pointer e,.pointer e'=>e==e'
 |.slice e,.slice e'=>e==e'
 |.array n e,.array n' e'=>n==n'&&e==e'
 |.struct fs,.struct fields=>fields.toList.map (fun f=>(f.offset,f.type))==fs
 |.iface,.interface _=>true
 |.func,.func ..=>true
 |.map k e,.map k' e'=>k==k'&&e==e'
 |.tuple _,.tuple _=>true
 |.other,.struct _=>false
 |.other,.array ..=>false
 |.other,.interface _=>false
 |.other,_=>true
 |_,_=>false
theorem R4 {k:TK} {d:TypeDesc} (h:OP k d=true):Cf k d:=by
 unfold OP at h
 split at h<;>simp_all [Cf]
def OS (P:Program) (t:TypeId) (i:TI):Bool:=
  match P.info? t with
  |none=>false
  |some info=>info.size==i.size&&info.bytes==i.bytes&&
   (match i.kind with
    |.tuple _=>true
    |_=>match info.zero with
     |none=>false
     |some z=>z.cells.toList.length==i.zero.length&&i.zero.length==i.size&&(i.zero.zip z.cells.toList).all fun p=>yW p.1 p.2)&&
   (match P.underlying t with|none=>false|some d=>OP i.kind d)&&
   (match i.kind with
    |.int k=>match info.zero with
     |some (.int k' n)=>decide (k'=k)&&n==0
     |_=>false
    |_=>true)
theorem R5 {P:Program} {t:TypeId} {i:TI} (h:OS P t i=true):Mw P t i:=by
 unfold OS at h
 split at h
 ·simp at h
 ·rename_i info J0
  simp only[Bool.and_eq_true,beq_iff_eq]at h
  obtain⟨⟨⟨⟨h1,h2⟩,h3⟩,h4⟩,h5⟩:=h
  refine⟨⟨info,J0,h1,h2⟩,?_,?_,?_⟩
  ·split at h3
   ·rename_i n hn;exact .inl ⟨n,hn⟩
   ·split at h3
    ·simp at h3
    ·rename_i z hz
     simp only[Bool.and_eq_true,beq_iff_eq,List.all_eq_true]at h3
     obtain⟨⟨g1,g2⟩,g3⟩:=h3
     refine .inr ⟨info,z,J0,hz,g1,g2,fun j v c hv hc=>?_⟩
     exact g3 (v,c) (List.mem_iff_getElem?.2 ⟨j,by rw[List.getElem?_zip_eq_some];exact⟨hv,hc⟩⟩)
  ·split at h4
   ·simp at h4
   ·rename_i d hd
    exact⟨d,hd,R4 h4⟩
  ·intro k hk
   rw[hk]at h5
   simp only at h5
   split at h5
   ·rename_i k' n hz
    simp only[Bool.and_eq_true,decide_eq_true_eq,beq_iff_eq]at h5
    obtain⟨rfl,rfl⟩:=h5
    exact⟨info,J0,hz⟩
   ·simp at h5
theorem look_ok {P:Program}:∀{L:List (TypeId×TI)},L.all (fun p=>OS P p.1 p.2)=true→∀t i,look L t=some i→Mw P t i
 |[],_,t,i,h=>by simp[look]at h
 |(u,j)::rest,hl,t,i,h=>by
  simp only[List.all_cons,Bool.and_eq_true]at hl
  simp only[look]at h
  cases hb:Nat.beq u t with
  |true=>
   rw[hb]at h
   have:=Nat.eq_of_beq_eq_true hb
   subst this
   simp only[cond_true,Option.some.injEq]at h
   subst h
   exact R5 hl.1
  |false=>
   rw[hb]at h
   exact look_ok hl.2 t i h
def KF:List (FuncId×oO)→FuncId→Option oO
 |[],_=>none
 |(t,i)::rest,u=>bif Nat.beq t u then some i else KF rest u
theorem C9 {P:Program} {Q:FuncId→oO→Prop}:∀{L:List (FuncId×oO)},(∀p∈L,Q p.1 p.2)→∀f d,KF L f=some d→Q f d
 |[],_,f,d,h=>by simp[KF]at h
 |(u,j)::rest,hl,f,d,h=>by
  simp only[KF]at h
  cases hb:Nat.beq u f with
  |true=>
   rw[hb]at h
   have:=Nat.eq_of_beq_eq_true hb
   subst this
   simp only[cond_true,Option.some.injEq]at h
   subst h
   exact hl _ (List.mem_cons_self ..)
  |false=>
   rw[hb]at h
   exact C9 (P:=P) (fun p hp=>hl p (List.mem_cons_of_mem _ hp)) f d h
end Go.Ab
end
section
namespace Go.Ab
open Go.RowKit Go.Maps
abbrev Dm:=DataW Unit
def zU (s:ByteArray):Lit:=.string s.data.toList
theorem VS {s t:ByteArray} (h:zU s=zU t):s=t:=by
 have h1:s.data.toList=t.data.toList:=by simpa[zU]using h
 apply ByteArray.ext
 exact Array.toList_inj.1 h1
theorem Je {s t:ByteArray} (h:s≠t):zU s≠zU t:=fun e=>h (VS e)
theorem Qj (s:ByteArray):WideAt.IsKeyLit (zU s):=trivial
def Reads (D:Dm) (f:ByteArray→Option Nat):Prop:=∀s,match f s with
 |none=>Maps.has D (zU s)=false
 |some n=>Maps.has D (zU s)=true∧∀z,D.atKey (zU s) z=.lit (.int .i64 (n:Int))
def acr (f:ByteArray→Option Nat) (s:ByteArray) (x:Option Nat):ByteArray→Option Nat:=fun q=>if q=s then x else f q
theorem Reads.nil:Reads (.map []) (fun _=>none):=fun _=>rfl
theorem Reads.put {D:Dm} {f:ByteArray→Option Nat} (h:Reads D f) (hD:IsMap D) (s:ByteArray) (n:Nat):Reads (D.put (zU s) (.lit (.int .i64 (n:Int)))) (acr f s (some n)):=by
 intro q
 unfold acr
 by_cases hq:q=s
 ·subst hq
  rw[if_pos rfl]
  exact⟨has_put_same hD (Qj q) _,fun z=>atKey_put_same hD (Qj q) _ z⟩
 ·rw[if_neg hq]
  have:=h q
  cases hf:f q with
  |none=>rw[hf]at this;show Maps.has _ _=false;rw[has_put_other (Je hq)];exact this
  |some m=>rw[hf]at this;exact⟨by rw[has_put_other (Je hq)];exact this.1,fun z=>by rw[atKey_put_other (Je hq)];exact this.2 z⟩
theorem Reads.has {D:Dm} {f:ByteArray→Option Nat} (h:Reads D f) (s:ByteArray):Maps.has D (zU s)=(f s).isSome:=by
 have:=h s
 cases hf:f s with
 |none=>rw[hf]at this;exact this
 |some n=>rw[hf]at this;exact this.1
theorem Reads.look {D:Dm} {f:ByteArray→Option Nat} (h:Reads D f) {s:ByteArray} {c:Int} (hc:D.atKey (zU s) (.lit (.int .i64 0))=.lit (.int .i64 c)):c=(((f s).getD 0:Nat):Int):=by
 have:=h s
 cases hf:f s with
 |none=>
  rw[hf]at this
  rw[atKey_of_not_has this]at hc
  simp at hc
  exact hc.symm
 |some n=>
  rw[hf]at this
  rw[this.2]at hc
  simp at hc
  exact hc.symm
section
variable {P:Program} {k e t:TypeId}
def iL (P:Program) (k e:TypeId) (w:World) (b n:Nat) (f:ByteArray→Option Nat):Prop:=∃D:Dm,w.ownsMap P k (plainElem P e) b n D∧Reads D f
theorem iL.made (w:World):iL P k e (w.alloc (.map #[] 0)) w.heap.size 0 (fun _=>none):=⟨_,World.ownsMap_made w P k _,Reads.nil⟩
theorem iL.lt {w:World} {b n:Nat} {f:ByteArray→Option Nat} (h:iL P k e w b n f):b<w.heap.size:=by obtain⟨D,h1,_⟩:=h;exact h1.lt
theorem iL.mono {w:World} {b n n':Nat} {f:ByteArray→Option Nat} (h:iL P k e w b n f) (hn:n≤n'):iL P k e w b n' f:=by obtain⟨D,h1,h2⟩:=h;exact⟨D,h1.mono hn,h2⟩
theorem iL.kept {w w':World} {b n:Nat} {f:ByteArray→Option Nat} (h:iL P k e w b n f) (hb:w'.heap[b]?=w.heap[b]?):iL P k e w' b n f:=by
 obtain⟨D,⟨es,clock,h1,h2,h3,h4⟩,h5⟩:=h
 exact⟨D,⟨es,clock,hb.trans h1,h2,h3,h4⟩,h5⟩
theorem iL.alloc {w:World} {b n:Nat} {f:ByteArray→Option Nat} (h:iL P k e w b n f) (o:Obj):iL P k e (w.alloc o) b n f:=h.kept (Below.heap_alloc w o b h.lt)
theorem iL.drew {w:World} {b n:Nat} {f:ByteArray→Option Nat} (h:iL P k e w b n f):iL P k e w.drew b n f:=h.kept rfl
theorem iL.setCell {w:World} {b n:Nat} {f:ByteArray→Option Nat} (h:iL P k e w b n f) (p:Addr) (hp:b≠p.block) (u:Value):iL P k e (w.setCell p u) b n f:=h.kept (Below.heap_setCell w p u b hp)
variable (w:World) {ops:Array Oper} {rest:List Oper} {o:Oper} {a:Act} {Q:Exit→Act→World→Prop}
def ml (P:Program) (k e:TypeId) (w:World) (b r n:Nat) (f:ByteArray→Option Nat) (left:ByteArray→Bool) (Xd:Nat):Prop:=
 ∃(D:Dm) (l:Lit→Bool),w.ranges P k (plainElem P e) b r n D l Xd∧Reads D f∧∀s,left s=l (zU s)
theorem ml.map {w:World} {b r n:Nat} {f:ByteArray→Option Nat} {left:ByteArray→Bool} {Xd:Nat} (h:ml P k e w b r n f left Xd):iL P k e w b n f:=by obtain⟨D,l,h1,h2,_⟩:=h;exact⟨D,h1.owns,h2⟩
theorem ml.ne {w:World} {b r n:Nat} {f:ByteArray→Option Nat} {left:ByteArray→Bool} {Xd:Nat} (h:ml P k e w b r n f left Xd):r≠b:=by obtain⟨D,l,h1,_⟩:=h;exact h1.ne
theorem ml.lt {w:World} {b r n:Nat} {f:ByteArray→Option Nat} {left:ByteArray→Bool} {Xd:Nat} (h:ml P k e w b r n f left Xd):r<w.heap.size:=by obtain⟨D,l,h1,_⟩:=h;exact h1.lt
theorem ml.kept {w w':World} {row:Option Nat} {b r n:Nat} {f:ByteArray→Option Nat} {left:ByteArray→Bool} {Xd:Nat} (h:ml P k e w b r n f left Xd) (hg:w.grownBy w' row) (hb:some b≠row) (hr:some r≠row):ml P k e w' b r n f left Xd:=by
 obtain⟨D,l,h1,h2,h3⟩:=h
 exact⟨D,l,h1.kept hg hb hr,h2,h3⟩
end
theorem Uu {w:World} {cs:Array Value} {t:TypeId} {fr:Nat×Nat} {b o:Nat} (hb:b=w.heap.size):(w.alloc (.cells cs t fr)).cell? ⟨b,o,none⟩=cs[o]?:=by
 subst hb
 simp only[World.cell?,(MapKept.heap_alloc w (.cells cs t fr)).1]
 rfl
structure kf (S:Nat→Prop) (w w':World):Prop where
 os:w'.os=w.os
 tape:w'.tape=w.tape
 output:w'.output=w.output
 size:w.heap.size≤w'.heap.size
 block:∀i,i<w.heap.size→¬S i→w'.heap[i]?=w.heap[i]?
section
variable {S T:Nat→Prop} {w w1 w2:World}
theorem kf.refl (S:Nat→Prop) (w:World):kf S w w:=⟨rfl,rfl,rfl,Nat.le_refl _,fun _ _ _=>rfl⟩
theorem kf.trans (h:kf S w w1) (k:kf T w1 w2) (hT:∀i,i<w.heap.size→T i→S i):kf S w w2:=
 ⟨k.os.trans h.os,k.tape.trans h.tape,k.output.trans h.output,Nat.le_trans h.size k.size,fun i hi hs=>(k.block i (Nat.lt_of_lt_of_le hi h.size) (fun ht=>hs (hT i hi ht))).trans (h.block i hi hs)⟩
theorem kf.mono (h:kf S w w1) (hT:∀i,i<w.heap.size→S i→T i):kf T w w1:=⟨h.os,h.tape,h.output,h.size,fun i hi ht=>h.block i hi fun hs=>ht (hT i hi hs)⟩
theorem kf.alloc (h:kf S w w1) (o:Obj):kf S w (w1.alloc o):=
 ⟨h.os,h.tape,h.output,by have:=h.size;simp;omega,fun i hi hs=>(Below.heap_alloc w1 o i (Nat.lt_of_lt_of_le hi h.size)).trans (h.block i hi hs)⟩
theorem kf.drew (h:kf S w w1):kf S w w1.drew:=⟨h.os,h.tape,h.output,h.size,h.block⟩
theorem kf.setCell (h:kf S w w1) (p:Addr) (hp:p.block<w.heap.size→S p.block) (u:Value):kf S w (w1.setCell p u):=
 ⟨h.os,h.tape,h.output,by simp[World.setCell];exact h.size,fun i hi hs=>(Below.heap_setCell w1 p u i (fun e=>hs (by subst e;exact hp hi))).trans (h.block i hi hs)⟩
theorem kf.below (h:kf S w w1) {B:Nat} (hB:B≤w.heap.size) (hS:∀i,i<B→¬S i):Below B w w1:=⟨h.os,h.tape,h.output,h.size,fun i hi=>h.block i (Nat.lt_of_lt_of_le hi hB) (hS i hi)⟩
theorem kf.wT {B:Nat} (h:Below B w w1) (hS:∀i,i<w.heap.size→B≤i→S i):kf S w w1:=⟨h.os,h.tape,h.output,h.size,fun i hi hs=>h.block i (by
 rcases Nat.lt_or_ge i B with hb|hb
 ·exact hb
 ·exact absurd (hS i hi hb) hs)⟩
theorem kf.cell (h:kf S w w1) {p:Addr} {x:Value} (hx:w.cell? p=some x) (hs:¬S p.block):w1.cell? p=some x:=by
 have aG:=World.block_lt_of_cell? _ _ hx
 rw[World.cell?_of_block (w:=w) (h.block p.block aG hs)]
 exact hx
theorem kf.frozen (h:kf S w w1) {p:Addr} (aG:p.block<w.heap.size) (hs:¬S p.block):w1.frozen? p=w.frozen? p:=World.frozen?_of_block (w:=w) (h.block p.block aG hs)
theorem kf.map {P:Program} {k e:TypeId} {b n:Nat} {f:ByteArray→Option Nat} (h:kf S w w1) (hm:iL P k e w b n f) (hs:¬S b):iL P k e w1 b n f:=hm.kept (h.block b hm.lt hs)
end
end Go.Ab
end
