/- What eta takes away; lists of names; an entry's type. -/
import Derived.Test.YtcjofhikcokhfaaGreatDoorLvM5
set_option linter.unusedSimpArgs false
set_option linter.unusedVariables false
set_option linter.deprecated false
section
namespace Go.Ab.Mk
open Go.Proofs Go.Ab Go.Proofs.Mk
def gO (ps:List ByteArray) (ls:List Lv):Tm→Tm
 |.var n=>.var n
 |.sort l=>.sort (dA ps ls l)
 |.const s ms=>.const s (ms.map (dA ps ls))
 |.app a b=>.app (gO ps ls a) (gO ps ls b)
 |.lam a b=>.lam (gO ps ls a) (gO ps ls b)
 |.pi a b=>.pi (gO ps ls a) (gO ps ls b)
 |.bE a b c=>.bE (gO ps ls a) (gO ps ls b) (gO ps ls c)
theorem We (ps:List ByteArray) (ls:List Lv) (t:Tm):(gO ps ls t).val=.agg [.int .i64 t.kind,.int .i64 t.num,.str t.name,.slice 3 120 ((t.bK.map (dA ps ls)).map Lv.enc),.slice 5 53 ((t.kids.map (gO ps ls)).map Tm.enc)]:=by cases t<;>rfl
theorem Wf (l:Lv):[V.cell (.agg [.int .i64 l.kind,.str l.name,.slice 3 120 l.args]) 0,V.cell (.agg [.int .i64 l.kind,.str l.name,.slice 3 120 l.args]) 1,V.cell (.agg [.int .i64 l.kind,.str l.name,.slice 3 120 l.args]) 2]=l.enc:=mw l
theorem jk {L:List Lv} {i:Nat} (h:i<L.length):(L.map Lv.enc).getD (Int.toNat (i:Int)) []=L[i].enc:=by simp[h]
section
variable {ps:List ByteArray} {ls:List Lv}
theorem uS {N:Nat} {L:List Tm} (hb:L.length<2^33) {σ:az} {t0 t1:Int} {t2:ByteArray} {t3:List (List V)} {u0 u1:Int} {u2:ByteArray} {u3 u4:List (List V)} {k n:Int} {s:ByteArray} {o3:List (List V)}
  (h:∀c∈L,ah C 276 [(c.val,false),(.slice 1 9 (strs ps),false),(.slice 3 120 (oE ls),false)] σ=some (.ret [((gO ps ls c).val,false)],σ)):
  ∀(m i:Nat) (acc:List Tm),i≤L.length→L.length - i<m→acc.length=i→
   kO (ah C) N m (strs ps) (oE ls) i t0 t1 t2 t3 (L.map Tm.enc) u0 u1 u2 u3 u4 k n s o3 (acc.map Tm.enc) σ=some (.ret [(.agg [.int .i64 k,.int .i64 n,.str s,.slice 3 120 o3,.slice 5 53 ((acc++(L.drop i).map (gO ps ls)).map Tm.enc)],false)],σ)
 |0,i,acc,_,hm,_=>by omega
 |m+1,i,acc,hi,hm,ha=>by
  rw[show kO (ah C) N (m+1)=zW (ah C) (kO (ah C) N m)from rfl]
  unfold zW bo aE bH bJ de iP jq ae iz bp aq aC
  rw[List.length_map]
  by_cases aG:i<L.length
  ·have h1:=h _ (List.getElem_mem aG)
   have hx:L.drop i=L[i]::L.drop (i+1):=List.drop_eq_getElem_cons aG
   have ih:=uS (N:=N) hb (t0:=t0) (t1:=t1) (t2:=t2) (t3:=t3) (u0:=u0) (u1:=u1) (u2:=u2) (u3:=u3) (u4:=u4) (k:=k) (n:=n) (s:=s) (o3:=o3) h m (i+1) (acc++[gO ps ls L[i]]) (by omega) (by omega) (by simp[ha])
   have cC:room ((acc.map Tm.enc).length+1)=true:=cF (by simp;omega)
   rw[eD aG,cond_true,d0,dB aG,bf]
   simp only[Bool.and_self,bz,cond_true,Option.bind_some]
   refine(ab h1).trans ?_
   simp only[List.getD_cons_zero,aL,Bool.and_self,cond_true,Option.bind_some,cC,nt,aw (show i<2^61 by omega)]
   rw[List.map_append]at ih
   refine ih.trans ?_
   rw[hx,List.map_cons,List.append_assoc]
   rfl
  ·rw[cQ aG,cond_false,List.drop_eq_nil_of_le (by omega),List.map_nil,List.append_nil]
theorem uT {N:Nat} (hl:ps.length=ls.length) (hp:ps.length<2^61) {L:List Lv} (hb:L.length<2^33) {σ:az} {u0 u1:Int} {u2:ByteArray} {u3 u4:List (List V)} {t0 t1:Int} {t2:ByteArray} {t4:List (List V)} {k n:Int} {s:ByteArray} {r:aQ}
  (h:kO (ah C) N N (strs ps) (oE ls) 0 t0 t1 t2 (L.map Lv.enc) t4 u0 u1 u2 u3 u4 k n s ((L.map (dA ps ls)).map Lv.enc) [] σ=some r):
  ∀(m i:Nat) (acc:List Lv),i≤L.length→L.length - i<m→acc.length=i→acc++(L.drop i).map (dA ps ls)=L.map (dA ps ls)→
   pf (ah C) N m (strs ps) (oE ls) i t0 t1 t2 (L.map Lv.enc) t4 u0 u1 u2 u3 u4 k n s (acc.map Lv.enc) [] σ=some r
 |0,i,acc,_,hm,_,_=>by omega
 |m+1,i,acc,hi,hm,ha,he=>by
  rw[show pf (ah C) N (m+1)=zX (ah C) (kO (ah C) N N) (pf (ah C) N m)from rfl]
  unfold zX bo aE bH ak de iP jq ae iz bp
  rw[List.length_map]
  by_cases aG:i<L.length
  ·have h1:=O6 hl hp σ L[i]
   have hx:L.drop i=L[i]::L.drop (i+1):=List.drop_eq_getElem_cons aG
   have ih:=uT (N:=N) hl hp hb h m (i+1) (acc++[dA ps ls L[i]]) (by omega) (by omega) (by simp[ha]) (by rw[←he,hx,List.map_cons,List.append_assoc];rfl)
   have cC:room ((acc.map Lv.enc).length+1)=true:=cF (by simp;omega)
   rw[eD aG,cond_true,d0,jk aG,fU]
   simp only[Bool.and_self,bz,cond_true,Option.bind_some]
   refine(ab h1).trans ?_
   simp only[List.getD_cons_zero,gC,Bool.and_self,cond_true,Option.bind_some,cC,Wf,aw (show i<2^61 by omega)]
   rw[List.map_append]at ih
   exact ih
  ·rw[cQ aG,cond_false]
   rw[List.drop_eq_nil_of_le (by omega),List.map_nil,List.append_nil]at he
   rw[he]
   exact h
theorem A6 (hl:ps.length=ls.length) (hp:ps.length<2^61) (σ:az) (t:Tm) (hw:t.wide<2^32)
  (ih:∀c∈t.kids,ah C 276 [(c.val,false),(.slice 1 9 (strs ps),false),(.slice 3 120 (oE ls),false)] σ=some (.ret [((gO ps ls c).val,false)],σ)):
  B6 (ah C) (t.wide+10) t.kind t.num t.name (t.bK.map Lv.enc) t.args (strs ps) (oE ls) σ=some (.ret [((gO ps ls t).val,false)],σ):=by
  have hk:=B7 t
  have YQ:=Ah t
  have h1:=uS (N:=t.wide+10) (ps:=ps) (ls:=ls) (L:=t.kids) (by omega) (σ:=σ) (t0:=t.kind) (t1:=t.num) (t2:=t.name) (t3:=t.bK.map Lv.enc) (u0:=0) (u1:=0) (u2:=ByteArray.mk #[]) (u3:=[]) (u4:=[]) (k:=t.kind) (n:=t.num) (s:=t.name) (o3:=(t.bK.map (dA ps ls)).map Lv.enc) ih (t.wide+10) 0 [] (by omega) (by omega) rfl
  rw[List.drop_zero,List.nil_append]at h1
  have h0:=uT (N:=t.wide+10) hl hp (L:=t.bK) (by omega) h1 (t.wide+10) 0 [] (by omega) (by omega) rfl (by simp)
  simp only[B6]
  rw[We]
  exact h0
theorem LJ (hl:ps.length=ls.length) (hp:ps.length<2^61) (σ:az):∀t:Tm,t.wide<2^32→ah C 276 [(t.val,false),(.slice 1 9 (strs ps),false),(.slice 3 120 (oE ls),false)] σ=some (.ret [((gO ps ls t).val,false)],σ):=
 Tm.ind fun t ih hw=>A4 (n:=t.wide+10) (A6 hl hp σ t hw fun c hc=>ih c hc (by have:=jW hc;omega))
theorem Jo (hl:ps.length=ls.length) (hp:ps.length<2^61) (σ:az) (t:Tm) (hw:t.wide<2^32) (b1 b2:Bool):ah C 276 [(t.val,false),(.slice 1 9 (strs ps),b1),(.slice 3 120 (oE ls),b2)] σ=some (.ret [((gO ps ls t).val,false)],σ):=
 A4 (n:=t.wide+10) (A6 hl hp σ t hw fun c hc=>LJ hl hp σ c (by have:=jW hc;omega))
end
end Go.Ab.Mk
end
section
namespace Go.Ab.Mk
open Go.Proofs Go.Ab
def gU (ls:List Lv):Nat:=(ls.map Lv.size).sum
def Tm.parts:Tm→Nat
 |.var _=>1
 |.sort l=>1+l.size
 |.const _ ls=>1+gU ls
 |.app a b=>1+a.parts+b.parts
 |.lam a b=>1+a.parts+b.parts
 |.pi a b=>1+a.parts+b.parts
 |.bE a b c=>1+a.parts+b.parts+c.parts
def dI (L:List Tm):Nat:=(L.map Tm.parts).sum
theorem wG (t:Tm):t.parts=1+gU t.bK+dI t.kids:=by cases t<;>simp[Tm.parts,Tm.bK,Tm.kids,gU,dI]<;>omega
def dC:Tm→Nat→Nat
 |.var m,k=>if m=k then 1 else 0
 |.sort _,_=>0
 |.const ..,_=>0
 |.app a b,k=>dC a k+dC b k
 |.lam a b,k=>dC a k+dC b (k+1)
 |.pi a b,k=>dC a k+dC b (k+1)
 |.bE a b c,k=>dC a k+dC b k+dC c (k+1)
theorem fO (n:Nat):∀(t:Tm) (k:Nat),(db n t k).parts=t.parts
 |.var m,k=>by simp only[db];split<;>rfl
 |.sort l,k=>rfl
 |.const s ls,k=>rfl
 |.app a b,k=>by simp only[db,Tm.parts,fO n a,fO n b]
 |.lam a b,k=>by simp only[db,Tm.parts,fO n a,fO n b]
 |.pi a b,k=>by simp only[db,Tm.parts,fO n a,fO n b]
 |.bE a b c,k=>by simp only[db,Tm.parts,fO n a,fO n b,fO n c]
theorem eT (v:Tm):∀(t:Tm) (k:Nat),(aZ v t k).parts≤t.parts+dC t k*v.parts
 |.var m,k=>by
  simp only[aZ,dC]
  split
  ·rw[fO];simp only[Tm.parts];omega
  ·split<;>simp[Tm.parts]
 |.sort l,k=>by simp[aZ]
 |.const s ls,k=>by simp[aZ]
 |.app a b,k=>by have:=eT v a k;have:=eT v b k;simp only[aZ,Tm.parts,dC,Nat.add_mul];omega
 |.lam a b,k=>by have:=eT v a k;have:=eT v b (k+1);simp only[aZ,Tm.parts,dC,Nat.add_mul];omega
 |.pi a b,k=>by have:=eT v a k;have:=eT v b (k+1);simp only[aZ,Tm.parts,dC,Nat.add_mul];omega
 |.bE a b c,k=>by have:=eT v a k;have:=eT v b k;have:=eT v c (k+1);simp only[aZ,Tm.parts,dC,Nat.add_mul];omega
structure Z4 (most e r:Nat):Prop where
 le:r≤e
 ok:e≤most→r=e
 more:most<e→most<r
 cap:r≤most+1
theorem pj {N:Nat} {L:List Lv} (hb:L.length<2^60) {most:Nat} (Tt:most<2^40) {k:Int} {nm:ByteArray} {σ:az}
  (h:∀c∈L,∀most:Nat,most<2^40→∃n:Nat,Z4 most c.size n∧ah C 73 [(.agg [.int .i64 c.kind,.str c.name,.slice 3 120 c.args],false),(.int .i64 most,false)] σ=some (.ret [(.int .i64 n,false)],σ)):
  ∀(m i v:Nat),i≤L.length→L.length - i<m→v≤most+1→∃n:Nat,Z4 most (v+gU (L.drop i)) n∧iG (ah C) N m most v i k nm (L.map Lv.enc) σ=some (.ret [(.int .i64 n,false)],σ)
 |0,i,_,_,hm,_=>by omega
 |m+1,i,v,hi,hm,Jp=>by
  show ∃n:Nat,_∧jU (ah C) (iG (ah C) N m) _ _ _ _ _ _ σ=_
  unfold jU bo aE aF ak aP bb ae bp aq
  rw[List.length_map]
  by_cases aG:i<L.length
  ·have hx:L.drop i=L[i]::L.drop (i+1):=List.drop_eq_getElem_cons aG
   have iM:gU (L.drop i)=L[i].size+gU (L.drop (i+1)):=by rw[hx,gU,List.map_cons,List.sum_cons];rfl
   rw[eD aG,cond_true]
   by_cases hvm:v≤most
   ·obtain⟨x,c1,PS⟩:=h _ (List.getElem_mem aG) (most - v) (by omega)
    have Xo:=c1.le
    obtain⟨n,c2,hn⟩:=pj (N:=N) hb Tt h m (i+1) (v+x) (by omega) (by omega) (by have:=c1.cap;omega)
    refine⟨n,?_,?_⟩
    ·rw[iM]
     refine⟨by have:=c2.le;omega,fun g=>?_,fun g=>?_,c2.cap⟩
     ·have:=c1.ok (by omega);have:=c2.ok (by omega);omega
     ·by_cases g2:v+L[i].size≤most
      ·have:=c1.ok (by omega);exact c2.more (by omega)
      ·have:=c1.more (by omega);exact c2.more (by omega)
    ·rw[show decide ((v:Int)≤(most:Int))=true by simpa using hvm,cond_true,d0,jk aG,fU]
     simp only[Bool.and_self,bz,cond_true,Option.bind_some]
     rw[show IntKind.wrap .i64 ((most:Int) - (v:Int))=((most - v:Nat):Int) by rw[cG (by omega) (by omega)];omega]
     refine(ab PS).trans ?_
     simp only[List.getD_cons_zero,V.asInt,if_true,Option.bind_some,aw (show i<2^61 by omega)]
     rw[show IntKind.wrap .i64 ((v:Int)+(x:Int))=((v+x:Nat):Int)from wrap_add (by have:=c1.cap;omega)]
     exact hn
   ·rw[show decide ((v:Int)≤(most:Int))=false by simp;omega]
    exact⟨v,⟨by omega,fun g=>by omega,fun g=>by omega,Jp⟩,rfl⟩
  ·rw[cQ aG,List.drop_eq_nil_of_le (by omega)]
   exact⟨v,⟨by simp[gU],fun g=>by simp[gU],fun g=>by simpa[gU]using g,Jp⟩,rfl⟩
theorem GG (l:Lv):l.size=1+gU l.kids:=by cases l<;>simp[Lv.size,Lv.kids,gU]<;>omega
theorem qR (σ:az):∀(l:Lv),∀(most:Nat),most<2^40→∃n:Nat,Z4 most l.size n∧ah C 73 [(.agg [.int .i64 l.kind,.str l.name,.slice 3 120 l.args],false),(.int .i64 most,false)] σ=some (.ret [(.int .i64 n,false)],σ):=
 Lv.ind fun l ih most hm=>by
  have h2:=jV l
  have hk:=GG l
  obtain⟨n,c,hn⟩:=pj (N:=10) (L:=l.kids) (by omega) hm (k:=l.kind) (nm:=l.name) (σ:=σ) (fun c hc=>ih c hc) 10 0 1 (by omega) (by omega) (by omega)
  rw[List.drop_zero,←hk]at c
  exact⟨n,c,sh (n:=10) hn⟩
theorem uU {N:Nat} {L:List Tm} (hb:L.length<2^60) {most:Nat} (Tt:most<2^40) {k a:Int} {nm:ByteArray} {t3:List (List V)} {σ:az}
  (h:∀c∈L,∀most:Nat,most<2^40→∃n:Nat,Z4 most c.parts n∧ah C 231 [(c.val,false),(.int .i64 most,false)] σ=some (.ret [(.int .i64 n,false)],σ)):
  ∀(m i v:Nat),i≤L.length→L.length - i<m→v≤most+1→∃n:Nat,Z4 most (v+dI (L.drop i)) n∧oZ (ah C) N m most v i k a nm t3 (L.map Tm.enc) σ=some (.ret [(.int .i64 n,false)],σ)
 |0,i,_,_,hm,_=>by omega
 |m+1,i,v,hi,hm,Jp=>by
  show ∃n:Nat,_∧Dj (ah C) (oZ (ah C) N m) _ _ _ _ _ _ _ _ σ=_
  unfold Dj bo aE aF bJ aP bb ae bp aq
  rw[List.length_map]
  by_cases aG:i<L.length
  ·have hx:L.drop i=L[i]::L.drop (i+1):=List.drop_eq_getElem_cons aG
   have iM:dI (L.drop i)=L[i].parts+dI (L.drop (i+1)):=by rw[hx,dI,List.map_cons,List.sum_cons];rfl
   rw[eD aG,cond_true]
   by_cases hvm:v≤most
   ·obtain⟨x,c1,PS⟩:=h _ (List.getElem_mem aG) (most - v) (by omega)
    have Xo:=c1.le
    obtain⟨n,c2,hn⟩:=uU (N:=N) hb Tt (k:=k) (a:=a) (nm:=nm) (t3:=t3) h m (i+1) (v+x) (by omega) (by omega) (by have:=c1.cap;omega)
    refine⟨n,?_,?_⟩
    ·rw[iM]
     refine⟨by have:=c2.le;omega,fun g=>?_,fun g=>?_,c2.cap⟩
     ·have:=c1.ok (by omega);have:=c2.ok (by omega);omega
     ·by_cases g2:v+L[i].parts≤most
      ·have:=c1.ok (by omega);exact c2.more (by omega)
      ·have:=c1.more (by omega);exact c2.more (by omega)
    ·rw[show decide ((v:Int)≤(most:Int))=true by simpa using hvm,cond_true,d0,dB aG,bf]
     simp only[Bool.and_self,bz,cond_true,Option.bind_some]
     rw[show IntKind.wrap .i64 ((most:Int) - (v:Int))=((most - v:Nat):Int) by rw[cG (by omega) (by omega)];omega]
     refine(ab PS).trans ?_
     simp only[List.getD_cons_zero,V.asInt,if_true,Option.bind_some,aw (show i<2^61 by omega)]
     rw[show IntKind.wrap .i64 ((v:Int)+(x:Int))=((v+x:Nat):Int)from wrap_add (by have:=c1.cap;omega)]
     exact hn
   ·rw[show decide ((v:Int)≤(most:Int))=false by simp;omega]
    exact⟨v,⟨by omega,fun g=>by omega,fun g=>by omega,Jp⟩,rfl⟩
  ·rw[cQ aG,List.drop_eq_nil_of_le (by omega)]
   exact⟨v,⟨by simp[dI],fun g=>by simp[dI],fun g=>by simpa[dI]using g,Jp⟩,rfl⟩
theorem uV {N:Nat} {L:List Lv} (hb:L.length<2^60) {most:Nat} (Tt:most<2^40) {k a:Int} {nm:ByteArray} {t4:List (List V)} {σ:az} {B:Nat}
  (h:∀v:Nat,v≤most+1→∃n:Nat,Z4 most (v+B) n∧oZ (ah C) N N most v 0 k a nm (L.map Lv.enc) t4 σ=some (.ret [(.int .i64 n,false)],σ)):
  ∀(m i v:Nat),i≤L.length→L.length - i<m→v≤most+1→∃n:Nat,Z4 most (v+gU (L.drop i)+B) n∧xA (ah C) N m most v i k a nm (L.map Lv.enc) t4 σ=some (.ret [(.int .i64 n,false)],σ)
 |0,i,_,_,hm,_=>by omega
 |m+1,i,v,hi,hm,Jp=>by
  show ∃n:Nat,_∧Dk (ah C) (oZ (ah C) N N) (xA (ah C) N m) _ _ _ _ _ _ _ _ σ=_
  unfold Dk bo aE aF ak aP bb ae bp
  rw[List.length_map]
  by_cases aG:i<L.length
  ·have hx:L.drop i=L[i]::L.drop (i+1):=List.drop_eq_getElem_cons aG
   have iM:gU (L.drop i)=L[i].size+gU (L.drop (i+1)):=by rw[hx,gU,List.map_cons,List.sum_cons];rfl
   rw[eD aG,cond_true]
   by_cases hvm:v≤most
   ·obtain⟨x,c1,PS⟩:=qR σ L[i] (most - v) (by omega)
    have Xo:=c1.le
    obtain⟨n,c2,hn⟩:=uV (N:=N) hb Tt h m (i+1) (v+x) (by omega) (by omega) (by have:=c1.cap;omega)
    refine⟨n,?_,?_⟩
    ·rw[iM]
     refine⟨by have:=c2.le;omega,fun g=>?_,fun g=>?_,c2.cap⟩
     ·have:=c1.ok (by omega);have:=c2.ok (by omega);omega
     ·by_cases g2:v+L[i].size≤most
      ·have:=c1.ok (by omega);exact c2.more (by omega)
      ·have:=c1.more (by omega);exact c2.more (by omega)
    ·rw[show decide ((v:Int)≤(most:Int))=true by simpa using hvm,cond_true,d0,jk aG,fU]
     simp only[Bool.and_self,bz,cond_true,Option.bind_some]
     rw[show IntKind.wrap .i64 ((most:Int) - (v:Int))=((most - v:Nat):Int) by rw[cG (by omega) (by omega)];omega]
     refine(ab PS).trans ?_
     simp only[List.getD_cons_zero,V.asInt,if_true,Option.bind_some,aw (show i<2^61 by omega)]
     rw[show IntKind.wrap .i64 ((v:Int)+(x:Int))=((v+x:Nat):Int)from wrap_add (by have:=c1.cap;omega)]
     exact hn
   ·rw[show decide ((v:Int)≤(most:Int))=false by simp;omega]
    obtain⟨n,c,hn⟩:=h v Jp
    exact⟨n,⟨by have:=c.le;omega,fun g=>by omega,fun g=>c.more (by omega),c.cap⟩,hn⟩
  ·rw[List.drop_eq_nil_of_le (by omega)]
   rw[cQ aG]
   have e:gU []=0:=rfl
   rw[e]
   exact h v Jp
theorem ez (σ:az):∀(t:Tm),t.wide<2^32→∀(most:Nat),most<2^40→∃n:Nat,Z4 most t.parts n∧ah C 231 [(t.val,false),(.int .i64 most,false)] σ=some (.ret [(.int .i64 n,false)],σ):=
 Tm.ind fun t ih hw most hm=>by
  have hk:=B7 t
  have hl:=Ah t
  have hn:=wG t
  obtain⟨n,c,hn'⟩:=uV (N:=t.wide+10) (L:=t.bK) (by omega) hm (k:=t.kind) (a:=t.num) (nm:=t.name) (t4:=t.args) (σ:=σ) (B:=dI t.kids)
   (fun v Jp=>by
    obtain⟨n,c,h⟩:=uU (N:=t.wide+10) (L:=t.kids) (by omega) hm (k:=t.kind) (a:=t.num) (nm:=t.name) (t3:=t.bK.map Lv.enc) (σ:=σ) (fun c hc=>ih c hc (by have:=jW hc;omega)) (t.wide+10) 0 v (by omega) (by omega) Jp
    rw[List.drop_zero]at c
    exact⟨n,c,h⟩) (t.wide+10) 0 1 (by omega) (by omega) (by omega)
  rw[List.drop_zero,←hn]at c
  exact⟨n,c,NQ (n:=t.wide+10) hn'⟩
def pk (q:Nat→Tm→Nat):Nat→List Tm→Nat
 |_,[]=>0
 |i,c::L=>q i c+pk q (i+1) L
theorem Sn (t:Tm) (k:Nat) (h:t.kind≠0):dC t k=pk (fun i c=>dC c (j9 t i k)) 0 t.kids:=by
 cases t with
 |var=>exact absurd rfl h
 |sort=>rfl
 |const=>rfl
 |app a b=>simp[dC,Tm.kids,pk,j9,Tm.kind]
 |lam a b=>simp[dC,Tm.kids,pk,j9,Tm.kind]
 |pi a b=>simp[dC,Tm.kids,pk,j9,Tm.kind]
 |bE a b c=>simp[dC,Tm.kids,pk,j9,Tm.kind];omega
theorem A7 {N:Nat} (t:Tm) {k:Nat} (hk:k<2^60) {σ:az} {q:Nat→Tm→Nat} (hq:∀i c,q i c<2^50)
  (h:∀(i:Nat) (hi:i<t.kids.length),ah C 284 [((t.kids[i]).val,false),(.int .i64 (j9 t i k:Nat),false)] σ=some (.ret [(.int .i64 (q i t.kids[i]:Nat),false)],σ)):
  ∀(m i sum:Nat),i≤t.kids.length→t.kids.length - i<m→sum≤i*2^50→
   uk (ah C) N m k sum i t.kind t.num t.name (t.bK.map Lv.enc) (t.kids.map Tm.enc) σ=some (.ret [(.int .i64 ((sum+pk q i (t.kids.drop i):Nat):Int),false)],σ)
 |0,i,_,_,hm,_=>by omega
 |m+1,i,sum,hi,hm,hs=>by
  rw[show uk (ah C) N (m+1)=Jn (ah C) (uk (ah C) N m)from rfl]
  unfold Jn aE aF aC aP cB ae bo bJ bp bb aq
  rw[List.length_map]
  have h3:=lC t
  by_cases aG:i<t.kids.length
  ·have hb:=um t i aG σ
   have h1:=h i aG
   have hx:t.kids.drop i=t.kids[i]::t.kids.drop (i+1):=List.drop_eq_getElem_cons aG
   have hq1:=hq i t.kids[i]
   have QS:sum+q i t.kids[i]≤(i+1)*2^50:=by rw[Nat.add_mul];omega
   have ih:=A7 (N:=N) t hk hq h m (i+1) (sum+q i t.kids[i]) (by omega) (by omega) QS
   have Xt:sum+q i t.kids[i]<2^61:=by
    have:(i+1)*2^50≤4*2^50:=Nat.mul_le_mul_right _ (by omega)
    omega
   have w:IntKind.wrap .i64 ((sum:Int)+((q i t.kids[i]:Nat):Int))=((sum+q i t.kids[i]:Nat):Int):=wrap_add (by omega)
   have e:sum+q i t.kids[i]+pk q (i+1) (t.kids.drop (i+1))=sum+pk q i (t.kids.drop i):=by rw[hx,pk];omega
   rw[e]at ih
   rw[eD aG,cond_true]
   refine(ab hb).trans ?_
   simp only[List.getD_cons_zero,V.asBool,Option.bind_some,d0,eD aG,Bool.and_self,bz,cond_true,dB aG,bf,aw (show k<2^61 by omega),aw (show i<2^61 by omega)]
   rw[B8]at h1
   cases Qf:FO t i with
   |true=>
    rw[Qf,cond_true]at h1
    simp only[cond_true]
    refine(ab h1).trans ?_
    simp only[List.getD_cons_zero,V.asInt,if_true,Option.bind_some,w]
    exact ih
   |false=>
    rw[Qf,cond_false]at h1
    simp only[cond_false]
    refine(ab h1).trans ?_
    simp only[List.getD_cons_zero,V.asInt,if_true,Option.bind_some,w]
    exact ih
  ·rw[cQ aG,List.drop_eq_nil_of_le (by omega)]
   rfl
end Go.Ab.Mk
end
section
namespace Go.Ab.Mk
open Go.Proofs Go.Ab
theorem size_pos:∀l:Lv,1≤l.size:=fun l=>by have:=GG l;omega
theorem GH:∀ls:List Lv,ls.length≤gU ls
 |[]=>by simp[gU]
 |l::ls=>by have:=size_pos l;have:=GH ls;simp only[gU,List.map_cons,List.sum_cons,List.length_cons]at*;omega
theorem gK (t:Tm):1≤t.parts:=by have:=wG t;omega
theorem GI {t c:Tm} (h:c∈t.kids):c.parts<t.parts:=by
 cases t<;>simp only[Tm.kids,List.mem_cons,List.not_mem_nil,or_false]at h<;>simp only[Tm.parts]
 ·rcases h with rfl|rfl<;>omega
 ·rcases h with rfl|rfl<;>omega
 ·rcases h with rfl|rfl<;>omega
 ·rcases h with rfl|rfl|rfl<;>omega
theorem cJ:∀t:Tm,t.depth<t.parts
 |.var _=>by simp[Tm.depth,Tm.parts]
 |.sort l=>by simp[Tm.depth,Tm.parts];omega
 |.const s ls=>by simp[Tm.depth,Tm.parts];omega
 |.app a b=>by have:=cJ a;have:=cJ b;simp only[Tm.depth,Tm.parts];omega
 |.lam a b=>by have:=cJ a;have:=cJ b;simp only[Tm.depth,Tm.parts];omega
 |.pi a b=>by have:=cJ a;have:=cJ b;simp only[Tm.depth,Tm.parts];omega
 |.bE a b c=>by have:=cJ a;have:=cJ b;have:=cJ c;simp only[Tm.depth,Tm.parts];omega
theorem cU:∀t:Tm,t.wide≤t.parts
 |.var _=>by simp[Tm.wide,Tm.parts]
 |.sort l=>by simp[Tm.wide,Tm.parts]
 |.const s ls=>by have:=GH ls;simp only[Tm.wide,Tm.parts];omega
 |.app a b=>by have:=cU a;have:=cU b;simp only[Tm.wide,Tm.parts];omega
 |.lam a b=>by have:=cU a;have:=cU b;simp only[Tm.wide,Tm.parts];omega
 |.pi a b=>by have:=cU a;have:=cU b;simp only[Tm.wide,Tm.parts];omega
 |.bE a b c=>by have:=cU a;have:=cU b;have:=cU c;simp only[Tm.wide,Tm.parts];omega
theorem fc:∀(t:Tm) (k:Nat),dC t k≤t.parts
 |.var _,k=>by simp only[dC,Tm.parts];split<;>omega
 |.sort l,k=>by simp[dC]
 |.const s ls,k=>by simp[dC]
 |.app a b,k=>by have:=fc a k;have:=fc b k;simp only[dC,Tm.parts];omega
 |.lam a b,k=>by have:=fc a k;have:=fc b (k+1);simp only[dC,Tm.parts];omega
 |.pi a b,k=>by have:=fc a k;have:=fc b (k+1);simp only[dC,Tm.parts];omega
 |.bE a b c,k=>by have:=fc a k;have:=fc b k;have:=fc c (k+1);simp only[dC,Tm.parts];omega
theorem nT:∀t:Tm,t.head.parts+dI t.spine≤t.parts∧t.spine.length<t.parts
 |.var _=>by simp[Tm.spine,Tm.head,dI,Tm.parts]
 |.sort l=>by simp[Tm.spine,Tm.head,dI,Tm.parts];omega
 |.const s ls=>by simp[Tm.spine,Tm.head,dI,Tm.parts];omega
 |.app a b=>by have:=nT a;have:=gK b;simp only[Tm.spine,Tm.head,dI,Tm.parts,List.map_append,List.sum_append,List.length_append,List.map_cons,List.map_nil,List.sum_cons,List.sum_nil,List.length_singleton]at*;omega
 |.lam a b=>by simp[Tm.spine,Tm.head,dI,Tm.parts];omega
 |.pi a b=>by simp[Tm.spine,Tm.head,dI,Tm.parts];omega
 |.bE a b c=>by simp[Tm.spine,Tm.head,dI,Tm.parts];omega
theorem A8:∀(L:List Tm) (f:Tm),(eA f L).parts=f.parts+dI L+L.length
 |[],f=>by simp[eA,dI]
 |a::L,f=>by rw[eA,A8 L];simp only[Tm.parts,dI,List.map_cons,List.sum_cons,List.length_cons];omega
theorem GJ {L:List Tm} {c:Tm} (h:c∈L):c.parts≤dI L:=by
 induction L with
 |nil=>simp at h
 |cons a L ih=>
  simp only[dI,List.map_cons,List.sum_cons]at*
  rcases List.mem_cons.1 h with rfl|h
  ·omega
  ·have:=ih h;omega
def br (Q:ByteArray→Nat→Prop):Tm→Nat→Prop
 |.var m,n=>m<n
 |.sort _,_=>True
 |.const s ls,_=>Q s ls.length
 |.app a b,n=>br Q a n∧br Q b n
 |.lam a b,n=>br Q a n∧br Q b (n+1)
 |.pi a b,n=>br Q a n∧br Q b (n+1)
 |.bE a b c,n=>br Q a n∧br Q b n∧br Q c (n+1)
section
variable {Q:ByteArray→Nat→Prop}
theorem gD (c:Nat):∀(t:Tm) (k m:Nat),br Q t m→br Q (db c t k) (m+c)
 |.var i,k,m,h=>by
  simp only[br]at h
  simp only[db]
  split<;>simp only[br]<;>omega
 |.sort _,_,_,_=>trivial
 |.const _ _,_,_,h=>h
 |.app a b,k,m,h=>⟨gD c a k m h.1,gD c b k m h.2⟩
 |.lam a b,k,m,h=>⟨gD c a k m h.1,by have:=gD c b (k+1) (m+1) h.2;rwa [show m+1+c=m+c+1 by omega]at this⟩
 |.pi a b,k,m,h=>⟨gD c a k m h.1,by have:=gD c b (k+1) (m+1) h.2;rwa [show m+1+c=m+c+1 by omega]at this⟩
 |.bE a b d,k,m,h=>⟨gD c a k m h.1,gD c b k m h.2.1,by have:=gD c d (k+1) (m+1) h.2.2;rwa [show m+1+c=m+c+1 by omega]at this⟩
theorem eB {v:Tm} {n:Nat} (hv:br Q v n):∀(t:Tm) (k:Nat),br Q t (n+k+1)→br Q (aZ v t k) (n+k)
 |.var i,k,h=>by
  simp only[br]at h
  simp only[aZ]
  split
  ·exact gD k v 0 n hv
  ·split<;>simp only[br]<;>omega
 |.sort _,_,_=>trivial
 |.const _ _,_,h=>h
 |.app a b,k,h=>⟨eB hv a k h.1,eB hv b k h.2⟩
 |.lam a b,k,h=>⟨eB hv a k h.1,eB hv b (k+1) h.2⟩
 |.pi a b,k,h=>⟨eB hv a k h.1,eB hv b (k+1) h.2⟩
 |.bE a b d,k,h=>⟨eB hv a k h.1,eB hv b k h.2.1,eB hv d (k+1) h.2.2⟩
theorem fP {v:Tm}:∀(t:Tm) (k n:Nat),k≤n→br Q (aZ v t k) n→br Q t (n+1)
 |.var i,k,n,hk,h=>by
  simp only[aZ]at h
  split at h
  ·simp only[br];omega
  ·split at h<;>simp only[br]at* <;>omega
 |.sort _,_,_,_,_=>trivial
 |.const _ _,_,_,_,h=>h
 |.app a b,k,n,hk,h=>⟨fP a k n hk h.1,fP b k n hk h.2⟩
 |.lam a b,k,n,hk,h=>⟨fP a k n hk h.1,fP b (k+1) (n+1) (by omega) h.2⟩
 |.pi a b,k,n,hk,h=>⟨fP a k n hk h.1,fP b (k+1) (n+1) (by omega) h.2⟩
 |.bE a b d,k,n,hk,h=>⟨fP a k n hk h.1,fP b k n hk h.2.1,fP d (k+1) (n+1) (by omega) h.2.2⟩
theorem dy {Q':ByteArray→Nat→Prop} (hQ:∀s k,Q s k→Q' s k):∀(t:Tm) (n m:Nat),n≤m→br Q t n→br Q' t m
 |.var i,n,m,hm,h=>by simp only[br]at*;omega
 |.sort _,_,_,_,_=>trivial
 |.const _ _,_,_,_,h=>hQ _ _ h
 |.app a b,n,m,hm,h=>⟨dy hQ a n m hm h.1,dy hQ b n m hm h.2⟩
 |.lam a b,n,m,hm,h=>⟨dy hQ a n m hm h.1,dy hQ b (n+1) (m+1) (by omega) h.2⟩
 |.pi a b,n,m,hm,h=>⟨dy hQ a n m hm h.1,dy hQ b (n+1) (m+1) (by omega) h.2⟩
 |.bE a b d,n,m,hm,h=>⟨dy hQ a n m hm h.1,dy hQ b n m hm h.2.1,dy hQ d (n+1) (m+1) (by omega) h.2.2⟩
theorem lS {ps:List ByteArray} {ls:List Lv}:∀(t:Tm) (n:Nat),br Q t n→br Q (gO ps ls t) n
 |.var i,n,h=>h
 |.sort _,_,_=>trivial
 |.const _ _,_,h=>by simpa only[gO,br,List.length_map]using h
 |.app a b,n,h=>⟨lS a n h.1,lS b n h.2⟩
 |.lam a b,n,h=>⟨lS a n h.1,lS b _ h.2⟩
 |.pi a b,n,h=>⟨lS a n h.1,lS b _ h.2⟩
 |.bE a b d,n,h=>⟨lS a n h.1,lS b n h.2.1,lS d _ h.2.2⟩
theorem iQ:∀(t:Tm) (n:Nat),br Q t n→t.top≤n+t.depth
 |.var i,n,h=>by simp only[br]at h;simp only[Tm.top,Tm.depth];omega
 |.sort _,_,_=>by simp[Tm.top]
 |.const _ _,_,h=>by simp[Tm.top]
 |.app a b,n,h=>by have:=iQ a n h.1;have:=iQ b n h.2;simp only[Tm.top,Tm.depth];omega
 |.lam a b,n,h=>by have:=iQ a n h.1;have:=iQ b _ h.2;simp only[Tm.top,Tm.depth];omega
 |.pi a b,n,h=>by have:=iQ a n h.1;have:=iQ b _ h.2;simp only[Tm.top,Tm.depth];omega
 |.bE a b d,n,h=>by have:=iQ a n h.1;have:=iQ b n h.2.1;have:=iQ d _ h.2.2;simp only[Tm.top,Tm.depth];omega
theorem nu:∀(t:Tm) (n:Nat),br Q t n→br Q t.head n∧∀a∈t.spine,br Q a n
 |.app a b,n,h=>by
  obtain⟨h1,h2⟩:=nu a n h.1
  refine⟨h1,fun c hc=>?_⟩
  rcases List.mem_append.1 hc with hc|hc
  ·exact h2 c hc
  ·rw[List.mem_singleton]at hc;subst hc;exact h.2
 |.var i,n,h=>⟨h,by simp[Tm.spine]⟩
 |.sort _,n,h=>⟨h,by simp[Tm.spine]⟩
 |.const _ _,n,h=>⟨h,by simp[Tm.spine]⟩
 |.lam a b,n,h=>⟨h,by simp[Tm.spine]⟩
 |.pi a b,n,h=>⟨h,by simp[Tm.spine]⟩
 |.bE a b d,n,h=>⟨h,by simp[Tm.spine]⟩
theorem jX {n:Nat}:∀(L:List Tm) (f:Tm),br Q f n→(∀a∈L,br Q a n)→br Q (eA f L) n
 |[],f,h,_=>h
 |a::L,f,h,hL=>jX L (.app f a) ⟨h,hL a (List.mem_cons_self ..)⟩ fun c hc=>hL c (List.mem_cons_of_mem _ hc)
end
def push (x:Nat) (ρ:Nat→Nat):Nat→Nat
 |0=>x
 |i+1=>ρ i
def zf (x0 x1:Nat) (fa fl:Nat→Nat→Nat) (fz:Nat→Nat→Nat→Nat):Tm→(Nat→Nat)→Nat
 |.var m,ρ=>ρ m
 |.sort _,_=>x0
 |.const _ _,_=>x0
 |.app a b,ρ=>fa (zf x0 x1 fa fl fz a ρ) (zf x0 x1 fa fl fz b ρ)
 |.lam a b,ρ=>fl (zf x0 x1 fa fl fz a ρ) (zf x0 x1 fa fl fz b (push x1 ρ))
 |.pi a b,ρ=>fl (zf x0 x1 fa fl fz a ρ) (zf x0 x1 fa fl fz b (push x1 ρ))
 |.bE a v b,ρ=>fz (zf x0 x1 fa fl fz a ρ) (zf x0 x1 fa fl fz v ρ) (zf x0 x1 fa fl fz b (push (zf x0 x1 fa fl fz v ρ) ρ))
section
variable {x0 x1:Nat} {fa fl:Nat→Nat→Nat} {fz:Nat→Nat→Nat→Nat}
theorem Ai (c k x:Nat) (ρ:Nat→Nat):(fun i=>if k+1≤i then push x ρ (i+c)else push x ρ i)=push x (fun i=>if k≤i then ρ (i+c)else ρ i):=by
 funext i
 cases i with
 |zero=>simp[push]
 |succ i=>rw[show i+1+c=i+c+1 by omega];simp only[push];by_cases h:k≤i<;>simp[h]
theorem kX (c:Nat):∀(t:Tm) (k:Nat) (ρ:Nat→Nat),zf x0 x1 fa fl fz (db c t k) ρ=zf x0 x1 fa fl fz t (fun i=>if k≤i then ρ (i+c)else ρ i)
 |.var m,k,ρ=>by simp only[db];by_cases h:k≤m<;>simp[h,zf]
 |.sort _,_,_=>rfl
 |.const _ _,_,_=>rfl
 |.app a b,k,ρ=>by simp only[db,zf,kX c a,kX c b]
 |.lam a b,k,ρ=>by simp only[db,zf,kX c a,kX c b,Ai]
 |.pi a b,k,ρ=>by simp only[db,zf,kX c a,kX c b,Ai]
 |.bE a v b,k,ρ=>by simp only[db,zf,kX c a,kX c v,kX c b,Ai]
theorem wH (k x y:Nat) (ρ:Nat→Nat):(fun i=>if i=k+1 then y else if k+1<i then push x ρ (i - 1)else push x ρ i)=push x (fun i=>if i=k then y else if k<i then ρ (i - 1)else ρ i):=by
 funext i
 cases i with
 |zero=>simp[push]
 |succ i=>
  simp only[push,Nat.add_right_cancel_iff,Nat.add_lt_add_iff_right,Nat.add_sub_cancel]
  by_cases h:i=k
  ·simp[h]
  ·by_cases h2:k<i
   ·obtain⟨j,rfl⟩:∃j,i=j+1:=⟨i - 1,by omega⟩
    simp[h,h2,push]
   ·simp[h,h2]
theorem iW (v:Tm):∀(t:Tm) (k:Nat) (ρ:Nat→Nat),zf x0 x1 fa fl fz (aZ v t k) ρ=zf x0 x1 fa fl fz t (fun i=>if i=k then zf x0 x1 fa fl fz v (fun j=>ρ (j+k))else if k<i then ρ (i - 1)else ρ i)
 |.var m,k,ρ=>by
  simp only[aZ]
  by_cases h:m=k
  ·rw[if_pos h,kX];simp only[Nat.zero_le,if_true,zf,if_pos h]
  ·rw[if_neg h]
   by_cases h2:k<m
   ·simp[h,h2,zf]
   ·simp[h,h2,zf]
 |.sort _,_,_=>rfl
 |.const _ _,_,_=>rfl
 |.app a b,k,ρ=>by simp only[aZ,zf,iW v a,iW v b]
 |.lam a b,k,ρ=>by
  simp only[aZ,zf,iW v a,iW v b]
  rw[wH,show(fun j=>push x1 ρ (j+(k+1)))=fun j=>ρ (j+k)from rfl]
 |.pi a b,k,ρ=>by
  simp only[aZ,zf,iW v a,iW v b]
  rw[wH,show(fun j=>push x1 ρ (j+(k+1)))=fun j=>ρ (j+k)from rfl]
 |.bE a u b,k,ρ=>by
  simp only[aZ,zf,iW v a,iW v u,iW v b]
  rw[wH]
  rfl
theorem GK (v t:Tm) (ρ:Nat→Nat):zf x0 x1 fa fl fz (aZ v t 0) ρ=zf x0 x1 fa fl fz t (push (zf x0 x1 fa fl fz v ρ) ρ):=by
 rw[iW]
 congr 1
 funext i
 cases i with
 |zero=>rfl
 |succ i=>simp[push]
theorem qv (x:Nat):push x (fun _=>x)=fun _=>x:=by funext i;cases i<;>rfl
end
def Tm.zw (t:Tm):Nat:=zf 1 1 (fun a b=>1+a+b) (fun a b=>1+a+b) (fun a v b=>1+a+v+b) t (fun _=>1)
def Tm.zd (t:Tm):Nat:=zf 0 0 (fun a b=>max a b) (fun a b=>max a (1+b)) (fun a v b=>max a (max v b)) t (fun _=>0)
theorem abb (a b:Tm):(Tm.app a b).zw=1+a.zw+b.zw:=rfl
theorem abd (a b:Tm):(Tm.lam a b).zw=1+a.zw+b.zw:=by simp only[Tm.zw,zf,qv]
theorem acz (a b:Tm):(Tm.pi a b).zw=1+a.zw+b.zw:=by simp only[Tm.zw,zf,qv]
theorem abe (a v b:Tm):(Tm.bE a v b).zw=1+a.zw+v.zw+(aZ v b 0).zw:=by simp only[Tm.zw,zf,GK]
theorem abf (a b:Tm):(Tm.app a b).zd=max a.zd b.zd:=rfl
theorem abg (a b:Tm):(Tm.lam a b).zd=max a.zd (1+b.zd):=by simp only[Tm.zd,zf,qv]
theorem acA (a b:Tm):(Tm.pi a b).zd=max a.zd (1+b.zd):=by simp only[Tm.zd,zf,qv]
theorem abh (a v b:Tm):(Tm.bE a v b).zd=max a.zd (max v.zd (aZ v b 0).zd):=by simp only[Tm.zd,zf,GK]
theorem uW:∀(t:Tm) (ρ:Nat→Nat) (M:Nat),(∀i,ρ i≤M)→zf 0 0 (fun a b=>max a b) (fun a b=>max a (1+b)) (fun a v b=>max a (max v b)) t ρ≤M+t.parts
 |.var m,ρ,M,h=>by simp only[zf,Tm.parts];have:=h m;omega
 |.sort _,_,_,_=>by simp only[zf];omega
 |.const _ _,_,_,_=>by simp only[zf];omega
 |.app a b,ρ,M,h=>by have:=uW a ρ M h;have:=uW b ρ M h;simp only[zf,Tm.parts];omega
 |.lam a b,ρ,M,h=>by
  have:=uW a ρ M h
  have:=uW b (push 0 ρ) M (fun i=>by cases i with|zero=>exact Nat.zero_le _|succ i=>exact h i)
  simp only[zf,Tm.parts];omega
 |.pi a b,ρ,M,h=>by
  have:=uW a ρ M h
  have:=uW b (push 0 ρ) M (fun i=>by cases i with|zero=>exact Nat.zero_le _|succ i=>exact h i)
  simp only[zf,Tm.parts];omega
 |.bE a v b,ρ,M,h=>by
  have:=uW a ρ M h
  have hv:=uW v ρ M h
  have:=uW b (push _ ρ) (M+v.parts) (fun i=>by cases i with|zero=>exact hv|succ i=>have:=h i;show ρ i≤_;omega)
  simp only[zf,Tm.parts];omega
theorem TS (t:Tm):t.zd≤t.parts:=by have:=uW t (fun _=>0) 0 (fun _=>Nat.le_refl _);rw[Nat.zero_add]at this;exact this
def lzL (ls:List Lv):Nat:=(ls.map Lv.size).foldr max 0
def Tm.lz:Tm→Nat
 |.var _=>0
 |.sort l=>l.size
 |.const _ ls=>lzL ls
 |.app a b=>max a.lz b.lz
 |.lam a b=>max a.lz b.lz
 |.pi a b=>max a.lz b.lz
 |.bE a b c=>max a.lz (max b.lz c.lz)
theorem Qo {ls:List Lv} {l:Lv} (h:l∈ls):l.size≤lzL ls:=by
 induction ls with
 |nil=>simp at h
 |cons a ls ih=>
  simp only[lzL,List.map_cons,List.foldr_cons]at*
  rcases List.mem_cons.1 h with rfl|h
  ·omega
  ·have:=ih h;omega
theorem LK:∀ls:List Lv,lzL ls≤gU ls
 |[]=>by simp[lzL]
 |a::ls=>by have:=LK ls;simp only[lzL,gU,List.map_cons,List.foldr_cons,List.sum_cons]at*;omega
theorem fe:∀t:Tm,t.lz≤t.parts
 |.var _=>by simp[Tm.lz]
 |.sort l=>by simp only[Tm.lz,Tm.parts];omega
 |.const s ls=>by have:=LK ls;simp only[Tm.lz,Tm.parts];omega
 |.app a b=>by have:=fe a;have:=fe b;simp only[Tm.lz,Tm.parts];omega
 |.lam a b=>by have:=fe a;have:=fe b;simp only[Tm.lz,Tm.parts];omega
 |.pi a b=>by have:=fe a;have:=fe b;simp only[Tm.lz,Tm.parts];omega
 |.bE a b c=>by have:=fe a;have:=fe b;have:=fe c;simp only[Tm.lz,Tm.parts];omega
theorem Wg {t:Tm} {l:Lv} (h:l∈t.bK):l.size≤t.lz:=by
 cases t<;>simp only[Tm.bK,List.mem_singleton,List.not_mem_nil]at h
 ·subst h;exact Nat.le_refl _
 ·exact Qo h
theorem O7 {t c:Tm} (h:c∈t.kids):c.lz≤t.lz:=by
 cases t<;>simp only[Tm.kids,List.mem_cons,List.not_mem_nil,or_false]at h<;>simp only[Tm.lz]
 ·rcases h with rfl|rfl<;>omega
 ·rcases h with rfl|rfl<;>omega
 ·rcases h with rfl|rfl<;>omega
 ·rcases h with rfl|rfl|rfl<;>omega
theorem ff (n:Nat):∀(t:Tm) (k:Nat),(db n t k).wide=t.wide∧(db n t k).depth=t.depth∧(db n t k).lz=t.lz
 |.var m,k=>by simp only[db];split<;>exact⟨rfl,rfl,rfl⟩
 |.sort _,_=>⟨rfl,rfl,rfl⟩
 |.const _ _,_=>⟨rfl,rfl,rfl⟩
 |.app a b,k=>by obtain⟨a1,a2,a3⟩:=ff n a k;obtain⟨b1,b2,b3⟩:=ff n b k;simp only[db,Tm.wide,Tm.depth,Tm.lz,a1,a2,a3,b1,b2,b3,and_self]
 |.lam a b,k=>by obtain⟨a1,a2,a3⟩:=ff n a k;obtain⟨b1,b2,b3⟩:=ff n b (k+1);simp only[db,Tm.wide,Tm.depth,Tm.lz,a1,a2,a3,b1,b2,b3,and_self]
 |.pi a b,k=>by obtain⟨a1,a2,a3⟩:=ff n a k;obtain⟨b1,b2,b3⟩:=ff n b (k+1);simp only[db,Tm.wide,Tm.depth,Tm.lz,a1,a2,a3,b1,b2,b3,and_self]
 |.bE a b c,k=>by obtain⟨a1,a2,a3⟩:=ff n a k;obtain⟨b1,b2,b3⟩:=ff n b k;obtain⟨c1,c2,c3⟩:=ff n c (k+1);simp only[db,Tm.wide,Tm.depth,Tm.lz,a1,a2,a3,b1,b2,b3,c1,c2,c3,and_self]
theorem eV (v:Tm):∀(t:Tm) (k:Nat),(aZ v t k).wide≤max t.wide v.wide∧(aZ v t k).depth≤t.depth+v.depth∧(aZ v t k).lz≤max t.lz v.lz
 |.var m,k=>by
  simp only[aZ]
  obtain⟨a1,a2,a3⟩:=ff k v 0
  by_cases h:m=k
  ·rw[if_pos h,a1,a2,a3];refine⟨by omega,by simp only[Tm.depth];omega,by omega⟩
  ·rw[if_neg h]
   by_cases h2:k<m
   ·rw[if_pos h2];refine⟨by simp only[Tm.wide];omega,by simp only[Tm.depth];omega,by simp only[Tm.lz];omega⟩
   ·rw[if_neg h2];refine⟨by omega,by omega,by omega⟩
 |.sort _,_=>by simp only[aZ];omega
 |.const _ _,_=>by simp only[aZ];omega
 |.app a b,k=>by have:=eV v a k;have:=eV v b k;simp only[aZ,Tm.wide,Tm.depth,Tm.lz];omega
 |.lam a b,k=>by have:=eV v a k;have:=eV v b (k+1);simp only[aZ,Tm.wide,Tm.depth,Tm.lz];omega
 |.pi a b,k=>by have:=eV v a k;have:=eV v b (k+1);simp only[aZ,Tm.wide,Tm.depth,Tm.lz];omega
 |.bE a b c,k=>by have:=eV v a k;have:=eV v b k;have:=eV v c (k+1);simp only[aZ,Tm.wide,Tm.depth,Tm.lz];omega
def cP:Tm→Nat
 |.pi _ b=>cP b+1
 |_=>0
theorem lU (ps:List ByteArray) (ls:List Lv):∀t:Tm,(gO ps ls t).wide=t.wide∧(gO ps ls t).depth=t.depth∧(gO ps ls t).top=t.top∧cP (gO ps ls t)=cP t
 |.var _=>⟨rfl,rfl,rfl,rfl⟩
 |.sort _=>⟨rfl,rfl,rfl,rfl⟩
 |.const _ _=>⟨by simp[gO,Tm.wide],rfl,rfl,rfl⟩
 |.app a b=>by obtain⟨a1,a2,a3,a4⟩:=lU ps ls a;obtain⟨b1,b2,b3,b4⟩:=lU ps ls b;simp only[gO,Tm.wide,Tm.depth,Tm.top,cP,a1,a2,a3,b1,b2,b3,and_self]
 |.lam a b=>by obtain⟨a1,a2,a3,a4⟩:=lU ps ls a;obtain⟨b1,b2,b3,b4⟩:=lU ps ls b;simp only[gO,Tm.wide,Tm.depth,Tm.top,cP,a1,a2,a3,b1,b2,b3,and_self]
 |.pi a b=>by obtain⟨a1,a2,a3,a4⟩:=lU ps ls a;obtain⟨b1,b2,b3,b4⟩:=lU ps ls b;simp only[gO,Tm.wide,Tm.depth,Tm.top,cP,a1,a2,a3,b1,b2,b3,b4,and_self]
 |.bE a b c=>by obtain⟨a1,a2,a3,a4⟩:=lU ps ls a;obtain⟨b1,b2,b3,b4⟩:=lU ps ls b;obtain⟨c1,c2,c3,c4⟩:=lU ps ls c;simp only[gO,Tm.wide,Tm.depth,Tm.top,cP,a1,a2,a3,b1,b2,b3,c1,c2,c3,and_self]
theorem Eh:∀t:Tm,t.head.wide≤t.wide∧∀a∈t.spine,a.wide≤t.wide
 |.app a b=>by
  obtain⟨h1,h2⟩:=Eh a
  refine⟨by simp only[Tm.head,Tm.wide];omega,fun c hc=>?_⟩
  rcases List.mem_append.1 hc with hc|hc
  ·have:=h2 c hc;simp only[Tm.wide];omega
  ·rw[List.mem_singleton]at hc;subst hc;simp only[Tm.wide];omega
 |.var _=>⟨Nat.le_refl _,by simp[Tm.spine]⟩
 |.sort _=>⟨Nat.le_refl _,by simp[Tm.spine]⟩
 |.const _ _=>⟨Nat.le_refl _,by simp[Tm.spine]⟩
 |.lam _ _=>⟨Nat.le_refl _,by simp[Tm.spine]⟩
 |.pi _ _=>⟨Nat.le_refl _,by simp[Tm.spine]⟩
 |.bE _ _ _=>⟨Nat.le_refl _,by simp[Tm.spine]⟩
theorem nv {W:Nat}:∀(L:List Tm) (f:Tm),f.wide≤W→(∀a∈L,a.wide≤W)→(eA f L).wide≤W
 |[],f,h,_=>h
 |a::L,f,h,hL=>nv L (.app f a) (by have:=hL a (List.mem_cons_self ..);simp only[Tm.wide];omega) fun c hc=>hL c (List.mem_cons_of_mem _ hc)
end Go.Ab.Mk
end
section
namespace Go.Ab
open Mk
structure Dc where
 kind:Nat
 name:ByteArray
 aT:List ByteArray
 type:Tm
 value:Tm
 arity:Nat
 ctors:List (ByteArray×Tm)
def Dc.ch (d:Dc):List (List V):=d.aT.map fun s=>[.str s]
def Dc.aY (d:Dc):List (List V):=d.ctors.map fun c=>.str c.1::c.2.enc
def Dc.enc (d:Dc):List V:=[.int .i64 d.kind,.str d.name,.slice 1 9 d.ch]++d.type.enc++d.value.enc++[.int .i64 d.arity,.slice 6 60 d.aY]
def Dc.val (d:Dc):V:=.agg d.enc
theorem Dc.pN (d:Dc):d.enc.length=15:=by
 simp[Dc.enc,Tm.pN]
end Go.Ab
end
section
namespace Go.Ab.Mk
open Go.Proofs Go.Ab Go.Proofs.Mk
structure bO where
 d:Dc
 zb:List ByteArray
 rt:Tm
def bO.enc (e:bO):List V:=e.d.enc++[.slice 1 9 (strs e.zb)]++e.rt.enc
def aD (E:List bO) (w:Bool):List Cell:=[(.slice 21 58 (E.map bO.enc),true),(.bool w,false)]
structure Fu where
 done:Nat
 most:Nat
 bL:Bool
 parts:Int
 aR:Int
def Fu.cells (f:Fu):List Cell:=[(.int .i64 f.done,false),(.int .i64 f.most,false),(.bool f.bL,false),(.int .i64 f.parts,false),(.int .i64 f.aR,false)]
def dF (σ:az) (b c:Nat) (E:List bO) (w:Bool) (f:Fu):az:=(σ.set b (aD E w)).set c f.cells
theorem cO {σ:az} {b:Nat} {x:List Cell} (h:σ[b]?=some x):b<σ.length:=(List.getElem?_eq_some_iff.1 h).1
theorem dD {σ:az} {b:Nat} {x:List Cell} (h:σ[b]?=some x):σ.set b x=σ:=by
 obtain⟨h1,h2⟩:=List.getElem?_eq_some_iff.1 h
 rw[←h2];exact List.set_getElem_self h1
section
variable {σ:az} {b c:Nat} {E:List bO} {w:Bool} {f:Fu}
theorem GL {x:List Cell} {y:List Cell} {i j:Nat} (h:σ[i]?=some x) (eJ:j≠i):(σ.set j y)[i]?=some x:=by rw[List.getElem?_set_ne eJ];exact h
theorem fo (hb:b<σ.length) (eJ:b≠c) (w':Bool) (f':Fu):(dF σ b c E w' f')[b]?=some (aD E w'):=by
 unfold dF;rw[List.getElem?_set_ne (Ne.symm eJ)];simp[hb]
theorem gP (hc:c<σ.length) (w':Bool) (f':Fu):(dF σ b c E w' f')[c]?=some f'.cells:=by
 unfold dF;simp[hc]
theorem dU (eJ:b≠c) (w1 w2:Bool) (f1 f2:Fu):dF (dF σ b c E w1 f1) b c E w2 f2=dF σ b c E w2 f2:=by
 unfold dF
 rw[List.set_comm _ _ (Ne.symm eJ),List.set_set,List.set_set]
theorem jY (hc:σ[c]?=some f.cells) (eJ:b≠c) (w':Bool):σ.set b (aD E w')=dF σ b c E w' f:=by
 unfold dF
 rw[dD (GL hc eJ)]
theorem oF (hb:σ[b]?=some (aD E w)) (f':Fu):σ.set c f'.cells=dF σ b c E w f':=by
 unfold dF
 rw[dD hb]
theorem Aj (hb:σ[b]?=some (aD E w)) (hc:σ[c]?=some f.cells):σ=dF σ b c E w f:=by
 unfold dF
 rw[dD hb,dD hc]
theorem gH (h:σ[b]?=some (aD E w)) (t:TypeId):bu σ (.ptr t b 1) false 1=some (.bool w):=by simp[bu,h,dX,aD]
theorem abj (h:σ[b]?=some (aD E w)) (t:TypeId):bu σ (.ptr t b 0) false 1=some (.slice 21 58 (E.map bO.enc)):=by simp[bu,h,dX,aD]
theorem wI (h:σ[b]?=some (aD E w)) (t:TypeId) (w':Bool):aV σ (.ptr t b 1) [(.bool w',false)]=some (σ.set b (aD E w')):=by simp[aV,h,aD,setCells]
theorem fu0 (h:σ[c]?=some f.cells) (t:TypeId):bu σ (.ptr t c 0) false 1=some (.int .i64 f.done):=by simp[bu,h,dX,Fu.cells]
theorem fu1 (h:σ[c]?=some f.cells) (t:TypeId):bu σ (.ptr t c 1) false 1=some (.int .i64 f.most):=by simp[bu,h,dX,Fu.cells]
theorem Xe (h:σ[c]?=some f.cells) (t:TypeId):bu σ (.ptr t c 2) false 1=some (.bool f.bL):=by simp[bu,h,dX,Fu.cells]
theorem fu3 (h:σ[c]?=some f.cells) (t:TypeId):bu σ (.ptr t c 3) false 1=some (.int .i64 f.parts):=by simp[bu,h,dX,Fu.cells]
theorem fu4 (h:σ[c]?=some f.cells) (t:TypeId):bu σ (.ptr t c 4) false 1=some (.int .i64 f.aR):=by simp[bu,h,dX,Fu.cells]
theorem adI (h:σ[c]?=some f.cells) (t:TypeId) (x:Bool):aV σ (.ptr t c 2) [(.bool x,false)]=some (σ.set c ({f with bL:=x}:Fu).cells):=by simp[aV,h,Fu.cells,setCells]
theorem adJ (h:σ[c]?=some f.cells) (t:TypeId) (x:Nat):aV σ (.ptr t c 0) [(.int .i64 x,false)]=some (σ.set c ({f with done:=x}:Fu).cells):=by simp[aV,h,Fu.cells,setCells]
theorem adK (h:σ[c]?=some f.cells) (t:TypeId) (x:Int):aV σ (.ptr t c 3) [(.int .i64 x,false)]=some (σ.set c ({f with parts:=x}:Fu).cells):=by simp[aV,h,Fu.cells,setCells]
theorem YR (h:σ[c]?=some f.cells) (t:TypeId) (x:Int):aV σ (.ptr t c 4) [(.int .i64 x,false)]=some (σ.set c ({f with aR:=x}:Fu).cells):=by simp[aV,h,Fu.cells,setCells]
end
def Tm.Te:Tm:=.sort .zero
theorem Qp:V.agg [.int .i64 1,.int .i64 0,.str (ByteArray.mk #[]),.slice 3 120 [[.int .i64 0,.str (ByteArray.mk #[]),.slice 3 120 []]],.slice 5 53 []]=Tm.Te.val:=rfl
theorem cY (t:Tm):V.agg [V.cell t.val 0,V.cell t.val 1,V.cell t.val 2,V.cell t.val 3,V.cell t.val 4]=t.val:=rfl
theorem qS {N:Nat} {L:List Lv} (hb:L.length<2^60) {σ:az} {k:Int} {nm:ByteArray}
  (h:∀c∈L,∃n:Int,ah C 282 [(.agg [.int .i64 c.kind,.str c.name,.slice 3 120 c.args],false)] σ=some (.ret [(.int .i64 n,false)],σ)):
  ∀(m i:Nat) (v:Int),i≤L.length→L.length - i<m→∃n:Int,nS (ah C) N m v i k nm (L.map Lv.enc) σ=some (.ret [(.int .i64 n,false)],σ)
 |0,i,_,_,hm=>by omega
 |m+1,i,v,hi,hm=>by
  show ∃n:Int,sE (ah C) (nS (ah C) N m) _ _ _ _ _ σ=_
  unfold sE bo aE aM ak bb ae bp aq aP
  rw[List.length_map]
  by_cases aG:i<L.length
  ·rw[eD aG,cond_true,d0,jk aG,fU]
   obtain⟨x,hx⟩:=h _ (List.getElem_mem aG)
   obtain⟨n,hn⟩:=qS (N:=N) hb (k:=k) (nm:=nm) h m (i+1) (IntKind.wrap .i64 (v+x)) (by omega) (by omega)
   refine⟨n,?_⟩
   simp only[Bool.and_self,bz,cond_true,Option.bind_some]
   refine(ab hx).trans ?_
   simp only[List.getD_cons_zero,V.asInt,if_true,Option.bind_some,aw (show i<2^61 by omega)]
   exact hn
  ·rw[cQ aG]
   exact⟨v,rfl⟩
theorem Ei (σ:az):∀l:Lv,∃n:Int,ah C 282 [(.agg [.int .i64 l.kind,.str l.name,.slice 3 120 l.args],false)] σ=some (.ret [(.int .i64 n,false)],σ):=
 Lv.ind fun l ih=>by
  have h2:=jV l
  obtain⟨n,hn⟩:=qS (N:=10) (L:=l.kids) (by omega) (k:=l.kind) (nm:=l.name) (σ:=σ) ih 10 0 0 (by omega) (by omega)
  by_cases hk:(l.kind==(4:Int))=true
  ·exact⟨1,uR (n:=10) (by simp only[uj,aq,aP,hk,cond_true])⟩
  ·exact⟨n,uR (n:=10) (by simp only[uj,aq,aP,Bool.not_eq_true]at hk ⊢;rw[hk,cond_false];exact hn)⟩
theorem qT {N:Nat} {L:List Tm} (hb:L.length<2^60) {σ:az} {k a:Int} {nm:ByteArray} {t3:List (List V)}
  (h:∀c∈L,∃n:Int,ah C 275 [(c.val,false)] σ=some (.ret [(.int .i64 n,false)],σ)):
  ∀(m i:Nat) (v:Int),i≤L.length→L.length - i<m→∃n:Int,kN (ah C) N m v i k a nm t3 (L.map Tm.enc) σ=some (.ret [(.int .i64 n,false)],σ)
 |0,i,_,_,hm=>by omega
 |m+1,i,v,hi,hm=>by
  show ∃n:Int,wC (ah C) (kN (ah C) N m) _ _ _ _ _ _ _ σ=_
  unfold wC bo aE aM bJ bb ae bp aq aP
  rw[List.length_map]
  by_cases aG:i<L.length
  ·rw[eD aG,cond_true,d0,dB aG,bf]
   obtain⟨x,hx⟩:=h _ (List.getElem_mem aG)
   obtain⟨n,hn⟩:=qT (N:=N) hb (k:=k) (a:=a) (nm:=nm) (t3:=t3) h m (i+1) (IntKind.wrap .i64 (v+x)) (by omega) (by omega)
   refine⟨n,?_⟩
   simp only[Bool.and_self,bz,cond_true,Option.bind_some]
   refine(ab hx).trans ?_
   simp only[List.getD_cons_zero,V.asInt,if_true,Option.bind_some,aw (show i<2^61 by omega)]
   exact hn
  ·rw[cQ aG]
   exact⟨v,rfl⟩
theorem qU {N:Nat} {L:List Lv} (hb:L.length<2^60) {σ:az} {k a:Int} {nm:ByteArray} {t4:List (List V)}
  (h:∀v:Int,∃n:Int,kN (ah C) N N v 0 k a nm (L.map Lv.enc) t4 σ=some (.ret [(.int .i64 n,false)],σ)):
  ∀(m i:Nat) (v:Int),i≤L.length→L.length - i<m→∃n:Int,qu (ah C) N m v i k a nm (L.map Lv.enc) t4 σ=some (.ret [(.int .i64 n,false)],σ)
 |0,i,_,_,hm=>by omega
 |m+1,i,v,hi,hm=>by
  show ∃n:Int,wD (ah C) (kN (ah C) N N) (qu (ah C) N m) _ _ _ _ _ _ _ σ=_
  unfold wD bo aE aM ak bb ae bp
  rw[List.length_map]
  by_cases aG:i<L.length
  ·rw[eD aG,cond_true,d0,jk aG,fU]
   obtain⟨x,hx⟩:=Ei σ L[i]
   obtain⟨n,hn⟩:=qU (N:=N) hb h m (i+1) (IntKind.wrap .i64 (v+x)) (by omega) (by omega)
   refine⟨n,?_⟩
   simp only[Bool.and_self,bz,cond_true,Option.bind_some]
   refine(ab hx).trans ?_
   simp only[List.getD_cons_zero,V.asInt,if_true,Option.bind_some,aw (show i<2^61 by omega)]
   exact hn
  ·rw[cQ aG]
   exact h v
theorem uX (σ:az):∀t:Tm,t.wide<2^40→∃n:Int,ah C 275 [(t.val,false)] σ=some (.ret [(.int .i64 n,false)],σ):=
 Tm.ind fun t ih hp=>by
  have h3:=lC t
  have hw:=Ah t
  obtain⟨n,hn⟩:=qU (N:=t.wide+10) (L:=t.bK) (by omega) (k:=t.kind) (a:=t.num) (nm:=t.name) (t4:=t.kids.map Tm.enc) (σ:=σ)
   (fun v=>qT (N:=t.wide+10) (L:=t.kids) (by omega) (fun c hc=>ih c hc (by have:=jW hc;omega)) (t.wide+10) 0 v (by omega) (by omega)) (t.wide+10) 0 0 (by omega) (by omega)
  exact⟨n,Ji (n:=t.wide+10) hn⟩
theorem O8 (σ:az):∀(t:Tm) (k:Nat),k+t.depth<2^50→t.parts<2^50→ah C 284 [(t.val,false),(.int .i64 k,false)] σ=some (.ret [(.int .i64 (dC t k:Nat),false)],σ):=
 Tm.ind fun t ih k hd hm=>Sl (n:=10) <| by
  have h3:=lC t
  by_cases hk:t.kind=0
  ·obtain⟨m,rfl⟩:∃m,t=.var m:=by cases t<;>simp[Tm.kind]at hk;exact⟨_,rfl⟩
   simp only[Ql,aq,aP,Tm.kind,Tm.num,beq_self_eq_true,cond_true,dC]
   by_cases h:m=k
   ·subst h;rw[beq_self_eq_true,cond_true,if_pos rfl];rfl
   ·rw[show((m:Int)==(k:Int))=false by rw[beq_eq_false_iff_ne];omega,cond_false,if_neg h]
    rfl
  ·have km:∀c∈t.kids,c.parts<2^50:=fun c hc=>by have:=GI hc;omega
   have e:=A7 (N:=10) t (k:=k) (by omega) (σ:=σ) (q:=fun i c=>if c.parts<2^50 then dC c (j9 t i k)else 0) (fun i c=>by
     split
     ·have:=fc c (j9 t i k);omega
     ·omega) (fun i hi=>by
    have D5:=jy (List.getElem_mem hi)
    have hb:=qw t i k
    have hmk:=km _ (List.getElem_mem hi)
    rw[if_pos hmk]
    exact ih _ (List.getElem_mem hi) (j9 t i k) (by omega) hmk) 10 0 0 (Nat.zero_le _) (by omega) (by omega)
   rw[List.drop_zero,Nat.zero_add]at e
   have e2:∀(L:List Tm) (i:Nat),(∀c∈L,c.parts<2^50)→pk (fun i c=>if c.parts<2^50 then dC c (j9 t i k)else 0) i L=pk (fun i c=>dC c (j9 t i k)) i L:=by
    intro L
    induction L with
    |nil=>intro i _;rfl
    |cons c L ihL=>
     intro i hL
     simp only[pk]
     rw[if_pos (hL c (List.mem_cons_self ..)),ihL (i+1) fun c hc=>hL c (List.mem_cons_of_mem _ hc)]
   rw[e2 _ 0 km,←Sn t k hk]at e
   simp only[Ql,aq,aP]
   rw[show(t.kind==0)=false by simpa using hk,cond_false]
   exact e
theorem So (t v:Tm) (wt:t.wide<2^32) (wv:v.wide<2^32) (σ:az):∃b:Bool,ah C 277 [(t.val,false),(v.val,false)] σ=some (.ret [(.bool b,false)],σ)∧(b=false→t.parts≤20000∧(aZ v t 0).parts≤20000):=by
 have dt:=cJ t
 have us:=fc t 0
 obtain⟨n,c1,h1⟩:=ez σ t (by omega) 20000 (by omega)
 obtain⟨k,c3,h3⟩:=ez σ v (by omega) 20000 (by omega)
 have aeB:=c3.cap
 have nle:=c1.le
 have kle:=c3.le
 by_cases hn:n>20000
 ·refine⟨true,LB (n:=0) ?_,fun h=>by simp at h⟩
  simp only[aa2,aE,aF,aC,aP,bb,ae,aq]
  refine(ab h1).trans ?_
  simp only[List.getD_cons_zero,V.asInt,if_true,Option.bind_some,show decide ((n:Int)>20000)=true by simp;omega,cond_true]
 ·have VN:t.parts≤20000:=by
   by_cases g:t.parts≤20000
   ·exact g
   ·have:=c1.more (by omega);omega
  have h2:=O8 σ t 0 (by omega) (by omega)
  have hmul:dC t 0*k≤20000*2^32:=Nat.mul_le_mul (by omega) (by omega)
  have w1:IntKind.wrap .i64 ((dC t 0:Int)*(k:Int))=((dC t 0*k:Nat):Int):=by rw[cG (by rw[←Int.natCast_mul];omega) (by rw[←Int.natCast_mul];omega)];rw[Int.natCast_mul]
  have w2:IntKind.wrap .i64 ((n:Int)+((dC t 0*k:Nat):Int))=((n+dC t 0*k:Nat):Int):=wrap_add (by omega)
  refine⟨decide (((n+dC t 0*k:Nat):Int)>20000),LB (n:=0) ?_,fun h=>?_⟩
  ·simp only[aa2,aE,aF,aC,aP,bb,ae,aq]
   refine(ab h1).trans ?_
   simp only[List.getD_cons_zero,V.asInt,if_true,Option.bind_some,show decide ((n:Int)>20000)=false by simp;omega,cond_false]
   refine(ab h2).trans ?_
   refine(ab h3).trans ?_
   simp only[List.getD_cons_zero,V.asInt,if_true,Option.bind_some,w1,w2]
  ·have h':=of_decide_eq_false h
   have hle:n+dC t 0*k≤20000:=by omega
   have eJ:=c1.ok VN
   refine⟨VN,?_⟩
   have jP:=eT v t 0
   rcases Nat.eq_zero_or_pos (dC t 0)with h0|h0
   ·rw[h0,Nat.zero_mul]at jP;omega
   ·have jG:k≤dC t 0*k:=Nat.le_mul_of_pos_left _ h0
    have hpv:v.parts≤20000:=by
     by_cases g:v.parts≤20000
     ·exact g
     ·have:=c3.more (by omega);omega
    have hke:=c3.ok hpv
    rw[hke,eJ]at hle
    omega
theorem iX {σ:az} {b:Nat} {E:List bO} {w:Bool} (hb:σ[b]?=some (aD E w)) (t v:Tm) (ht:t.wide<2^32) (hv:v.wide<2^32) (tt:t.top<2^49) (tv:v.top<2^49) (dv:v.depth<2^49):
  ∃(u:Tm) (w':Bool),ah C 260 [(.ptr 49 b 0,false),(t.val,false),(v.val,false)] σ=some (.ret [(u.val,false)],σ.set b (aD E w'))∧
   (w'=true∧u=Tm.Te∨w=false∧w'=false∧u=aZ v t 0∧t.parts≤20000∧u.parts≤20000):=by
 obtain⟨m,h1,h2⟩:=So t v ht hv σ
 cases m with
 |true=>
  refine⟨Tm.Te,true,qf (n:=0) ?_,.inl ⟨rfl,rfl⟩⟩
  simp only[xC,aE,aF,aC,cB,ae,aq,aP,cj,bQ,bA]
  refine(ab h1).trans ?_
  simp only[List.getD_cons_zero,V.asBool,Option.bind_some,cond_true,wI hb,Qp]
 |false=>
  obtain⟨h3,h4⟩:=h2 rfl
  cases w with
  |true=>
   refine⟨Tm.Te,true,qf (n:=0) ?_,.inl ⟨rfl,rfl⟩⟩
   simp only[xC,aE,aF,aC,cB,ae,aq,aP,cj,bQ,bA]
   refine(ab h1).trans ?_
   simp only[List.getD_cons_zero,V.asBool,Option.bind_some,cond_true,cond_false,gH hb,wI hb,Qp]
  |false=>
   have dt:=cJ t
   have h5:=sI t v (by omega) (by omega) (by omega) (by omega) σ
   refine⟨aZ v t 0,false,qf (n:=0) ?_,.inr ⟨rfl,rfl,rfl,h3,h4⟩⟩
   simp only[xC,aE,aF,aC,cB,ae,aq,aP,cj,bQ,bA]
   refine(ab h1).trans ?_
   simp only[List.getD_cons_zero,V.asBool,Option.bind_some,cond_false,gH hb]
   refine(ab h5).trans ?_
   simp only[List.getD_cons_zero,aL,bz,cond_true,Option.bind_some,cY,dD hb]
theorem qx {σ:az} {b c:Nat} {E:List bO} {w:Bool} {f:Fu} (hb:σ[b]?=some (aD E w)) (hc:σ[c]?=some f.cells) (t:Tm) (hw:t.wide<2^32):
  ∃w':Bool,ah C 268 [(.ptr 49 b 0,false),(t.val,false),(.ptr 332 c 0,false)] σ=some (.ret [],σ.set b (aD E w'))∧(w=true→w'=true)∧(w'=false→0≤f.aR→f.aR<2^40→f.aR+t.parts≤20000):=by
 obtain⟨n,c1,h1⟩:=ez σ t hw 20000 (by omega)
 cases w with
 |true=>
  refine⟨true,AY (n:=0) ?_,fun _=>rfl,fun h=>by simp at h⟩
  simp only[measure,aE,aF,aC,aP,cj,cB,bb,ae]
  refine(ab h1).trans ?_
  simp only[List.getD_cons_zero,V.asBool,Option.bind_some,cond_true,gH hb,wI hb]
 |false=>
  refine⟨decide (IntKind.wrap .i64 (f.aR+n)>20000),AY (n:=0) ?_,fun h=>by simp at h,fun h g0 g1=>?_⟩
  rotate_left
  ·have h:=of_decide_eq_false h
   have mK:=c1.cap
   rw[cG (by omega) (by omega)]at h
   by_cases hp:t.parts≤20000
   ·have:=c1.ok hp;omega
   ·have:=c1.more (by omega);omega
  simp only[measure,aE,aF,aC,aP,cj,cB,bb,ae]
  refine(ab h1).trans ?_
  simp only[List.getD_cons_zero,V.asBool,Option.bind_some,cond_false,gH hb,wI hb,fu4 hc,V.asInt,if_true]
theorem uY {σ:az} {c:Nat} {f:Fu} (hc:σ[c]?=some f.cells) (hm:f.most<2^50):
  ah C 266 [(.ptr 332 c 0,false)] σ=(if f.most≤f.done then some (.ret [(.bool false,false)],σ.set c ({f with bL:=true}:Fu).cells)else some (.ret [(.bool true,false)],σ.set c ({f with done:=f.done+1}:Fu).cells)):=by
 by_cases h:f.most≤f.done
 ·rw[if_pos h]
  refine xD (n:=0) ?_
  simp only[Du,cj,bb,aq,aP,bp,fu0 hc,fu1 hc,Option.bind_some,V.asInt,if_true,show decide ((f.done:Int)≥(f.most:Int))=true by simp;omega,cond_true,adI hc]
 ·rw[if_neg h]
  refine xD (n:=0) ?_
  simp only[Du,cj,bb,aq,aP,bp,fu0 hc,fu1 hc,Option.bind_some,V.asInt,if_true,show decide ((f.done:Int)≥(f.most:Int))=false by simp;omega,cond_false,aw (show f.done<2^61 by omega),adJ hc]
end Go.Ab.Mk
end
section
namespace Go.Ab.Mk
open Go.Proofs Go.Ab Go.Proofs.Mk
theorem bEq {a b:ByteArray}:(a.toList==b.toList)=decide (a=b):=by
 rw[Bool.eq_iff_iff,beq_iff_eq,decide_eq_true_iff,ByteArray.toList_eq,ByteArray.toList_eq]
 exact⟨fun h=>ByteArray.ext (Array.toList_inj.1 h),fun h=>by rw[h]⟩
theorem bO.aX (e:bO):e.enc=[.int .i64 e.d.kind,.str e.d.name,.slice 1 9 e.d.ch,.int .i64 e.d.type.kind,.int .i64 e.d.type.num,.str e.d.type.name,.slice 3 120 (e.d.type.bK.map Lv.enc),.slice 5 53 e.d.type.args,
  .int .i64 e.d.value.kind,.int .i64 e.d.value.num,.str e.d.value.name,.slice 3 120 (e.d.value.bK.map Lv.enc),.slice 5 53 e.d.value.args,.int .i64 e.d.arity,.slice 6 60 e.d.aY,.slice 1 9 (strs e.zb),
  .int .i64 e.rt.kind,.int .i64 e.rt.num,.str e.rt.name,.slice 3 120 (e.rt.bK.map Lv.enc),.slice 5 53 e.rt.args]:=by
 unfold bO.enc Dc.enc
 rw[e.d.type.aX,e.d.value.aX,e.rt.aX];rfl
def bO.val (e:bO):V:=.agg e.enc
theorem bO.read (e:bO):V.agg [e.enc.getD 0 V.any,e.enc.getD 1 V.any,e.enc.getD 2 V.any,e.enc.getD 3 V.any,e.enc.getD 4 V.any,e.enc.getD 5 V.any,e.enc.getD 6 V.any,e.enc.getD 7 V.any,e.enc.getD 8 V.any,e.enc.getD 9 V.any,e.enc.getD 10 V.any,e.enc.getD 11 V.any,e.enc.getD 12 V.any,e.enc.getD 13 V.any,e.enc.getD 14 V.any,e.enc.getD 15 V.any,e.enc.getD 16 V.any,e.enc.getD 17 V.any,e.enc.getD 18 V.any,e.enc.getD 19 V.any,e.enc.getD 20 V.any]=e.val:=by
 unfold bO.val
 rw[e.aX];rfl
theorem tz {E:List bO} {i:Nat} (h:i<E.length):(E.map bO.enc).getD (Int.toNat (i:Int)) []=E[i].enc:=by simp[h]
theorem lE (e:bO):V.fits e.val true 21=true:=by unfold bO.val;rw[e.aX];rfl
def adL:bO:=⟨⟨0,ByteArray.mk #[],[],.var 0,.var 0,0,[]⟩,[],.var 0⟩
def eO (s:ByteArray):List (ByteArray×Tm)→Nat→Option Nat
 |[],_=>none
 |c::cs,i=>if c.1=s then some i else eO s cs (i+1)
theorem kC {s:ByteArray}:∀{cs:List (ByteArray×Tm)} {i k:Nat},eO s cs i=some k→i≤k∧k<i+cs.length∧∃c,cs[k - i]?=some c∧c.1=s
 |[],i,k,h=>by simp[eO]at h
 |c::cs,i,k,h=>by
  rw[eO]at h
  split at h
  ·rename_i hc
   obtain rfl:=Option.some.inj h
   exact⟨Nat.le_refl _,by simp,c,by simp,hc⟩
  ·obtain⟨h1,h2,c',h3,h4⟩:=kC h
   refine⟨by omega,by simp only[List.length_cons];omega,c',?_,h4⟩
   obtain⟨j,rfl⟩:∃j,k=i+1+j:=⟨k - (i+1),by omega⟩
   rw[show i+1+j - i=j+1 by omega]
   rw[show i+1+j - (i+1)=j by omega]at h3
   exact h3
def ie (s:ByteArray) (e:bO):Option (Nat×Nat):=
 if e.d.name=s then some (e.d.kind,0)else match eO s e.d.ctors 0 with
  |some k=>some (4,k)
  |none=>if e.d.kind=3∧e.d.name++fp=s then some (5,0)else none
def da (s:ByteArray):List bO→Option (Nat×bO×Nat)
 |[]=>none
 |e::E=>match ie s e with
  |some (k,i)=>some (k,e,i)
  |none=>da s E
def found:Option (Nat×bO×Nat)→List Cell
 |some (k,e,i)=>[(.int .i64 k,false),(e.val,false),(.int .i64 i,false)]
 |none=>[(.int .i64 0,false),(adL.val,false),(.int .i64 0,false)]
section
variable {σ:az} {b:Nat} {E:List bO} {w:Bool} {N:Nat} {s:ByteArray}
 {t0:Int} {t1:ByteArray} {t2:List (List V)} {t3 t4:Int} {t5:ByteArray} {t6 t7:List (List V)} {t8 t9:Int} {t10:ByteArray} {t11 t12:List (List V)} {t13:Int} {t14 t15:List (List V)} {t16 t17:Int} {t18:ByteArray} {t19 t20:List (List V)}
theorem Ej (hb:∀t:TypeId,bu σ (.ptr t b 0) false 1=some (.slice 21 58 (E.map bO.enc))) {i:Nat} (hi:i<E.length) (hi2:i<2^60) (hn:E[i].d.name.size<1000) (gE:E[i].d.ctors.length<2^60) {R} {d2 d3 d4 d5 d6 d7 d8 d9 d10 d11 d12 d13:V}:∀(m k:Nat),k≤E[i].d.ctors.length→E[i].d.ctors.length - k<m→
  zH (ah C) N R m b s i k t0 t1 t2 t3 t4 t5 t6 t7 t8 t9 t10 t11 t12 t13 t14 t15 t16 t17 t18 t19 t20 (.int .i64 E[i].d.kind) (.str E[i].d.name) d2 d3 d4 d5 d6 d7 d8 d9 d10 d11 d12 d13 (.slice 6 60 E[i].d.aY) σ=
   match eO s (E[i].d.ctors.drop k) k with
   |some j=>some (.ret (found (some (4,E[i],j))),σ)
   |none=>if E[i].d.kind=3∧E[i].d.name++fp=s then some (.ret (found (some (5,E[i],0))),σ)else R b s ((i+1:Nat):Int) t0 t1 t2 t3 t4 t5 t6 t7 t8 t9 t10 t11 t12 t13 t14 t15 t16 t17 t18 t19 t20 σ
 |0,k,_,hm=>by omega
 |m+1,k,hk,hm=>by
  rw[show zH (ah C) N R (m+1)=Oc (ah C) R (zH (ah C) N R m)from rfl]
  unfold Oc UR cz bo dG ak cj dc aP bp bb dS
  have M1:E[i].d.aY.length=E[i].d.ctors.length:=by simp[Dc.aY]
  simp only[V.asSlice,and_self,if_true,Option.bind_some,M1]
  by_cases aG:k<E[i].d.ctors.length
  ·have hg:(E[i].d.aY.getD (Int.toNat (k:Int)) [])=.str E[i].d.ctors[k].1::E[i].d.ctors[k].2.enc:=by simp[Dc.aY,aG]
   have hx:E[i].d.ctors.drop k=E[i].d.ctors[k]::E[i].d.ctors.drop (k+1):=List.drop_eq_getElem_cons aG
   rw[eD aG,cond_true,d0,hg]
   simp only[Bool.and_self,bz,cond_true,Option.bind_some,List.getD_cons_zero,V.di,bEq,hb,V.asSlice,and_self,if_true,List.length_map,d0,eD hi,tz hi,bO.read]
   rw[hx,eO]
   by_cases h:E[i].d.ctors[k].1=s
   ·rw[if_pos h,decide_eq_true h];rfl
   ·rw[if_neg h,decide_eq_false h,cond_false,aw (show k<2^61 by omega)]
    exact Ej hb hi hi2 hn gE m (k+1) (by omega) (by omega)
  ·have cC:fm E[i].d.name (ByteArray.mk #[46,114,101,99])=true:=by
    unfold fm
    have:E[i].d.name.size+(ByteArray.mk #[46,114,101,99]).size<2^62:=by
     have:(ByteArray.mk #[46,114,101,99]).size=4:=rfl
     omega
    refine decide_eq_true ?_
    rcases Nat.eq_zero_or_pos (E[i].d.name.size+(ByteArray.mk #[46,114,101,99]).size)with h0|h0
    ·rw[h0];decide
    ·have:=(Nat.log2_lt (by omega)).2 this
     omega
   rw[cQ aG,cond_false,List.drop_eq_nil_of_le (by omega),eO]
   simp only[V.asInt,if_true,Option.bind_some,V.di,cC,bz,cond_true,bEq,hb,V.asSlice,and_self,List.length_map,d0,eD hi,Bool.and_self,tz hi,bO.read]
   by_cases h3:E[i].d.kind=3
   ·rw[show((E[i].d.kind:Int)==(3:Int))=true by rw[h3];rfl,cond_true]
    by_cases h:E[i].d.name++fp=s
    ·rw[if_pos ⟨h3,h⟩,show decide (E[i].d.name++ByteArray.mk #[46,114,101,99]=s)=true from decide_eq_true h];rfl
    ·rw[if_neg (fun hh=>h hh.2),show decide (E[i].d.name++ByteArray.mk #[46,114,101,99]=s)=false from decide_eq_false h,cond_false,aw (show i<2^61 by omega)]
   ·rw[show((E[i].d.kind:Int)==(3:Int))=false by rw[beq_eq_false_iff_ne];omega,cond_false,if_neg (fun hh=>h3 hh.1),aw (show i<2^61 by omega)]
theorem Ek (hb:∀t:TypeId,bu σ (.ptr t b 0) false 1=some (.slice 21 58 (E.map bO.enc))) (hE:E.length<2^60) (hn:∀e∈E,e.d.name.size<1000∧e.d.ctors.length<N) (hN:N<2^60):∀(m i:Nat),i≤E.length→E.length - i<m→
  ∀{t0:Int} {t1:ByteArray} {t2:List (List V)} {t3 t4:Int} {t5:ByteArray} {t6 t7:List (List V)} {t8 t9:Int} {t10:ByteArray} {t11 t12:List (List V)} {t13:Int} {t14 t15:List (List V)} {t16 t17:Int} {t18:ByteArray} {t19 t20:List (List V)},
  wg (ah C) N m b s i t0 t1 t2 t3 t4 t5 t6 t7 t8 t9 t10 t11 t12 t13 t14 t15 t16 t17 t18 t19 t20 σ=some (.ret (found (da s (E.drop i))),σ)
 |0,i,_,hm=>by omega
 |m+1,i,hi,hm=>by
  rename_i t0 t1 t2 t3 t4 t5 t6 t7 t8 t9 t10 t11 t12 t13 t14 t15 t16 t17 t18 t19 t20
  rw[show wg (ah C) N (m+1)=Od (ah C) (zH (ah C) N (wg (ah C) N m) N) (wg (ah C) N m)from rfl]
  unfold Od cj cz bo dG ak dc aP gr aaQ
  simp only[hb,V.asSlice,and_self,if_true,Option.bind_some,List.length_map]
  by_cases aG:i<E.length
  ·have hx:E.drop i=E[i]::E.drop (i+1):=List.drop_eq_getElem_cons aG
   obtain⟨n1,n2⟩:=hn _ (List.getElem_mem aG)
   simp only[eD aG,cond_true,d0,Bool.and_self,bz,Option.bind_some,tz aG,bO.read]
   have e1:E[i].enc.getD 1 V.any=.str E[i].d.name:=by rw[bO.aX];rfl
   have e0:E[i].enc.getD 0 V.any=.int .i64 E[i].d.kind:=by rw[bO.aX];rfl
   have e14:E[i].enc.getD 14 V.any=.slice 6 60 E[i].d.aY:=by rw[bO.aX];rfl
   rw[e1,e0,e14,hx]
   simp only[V.di,Option.bind_some,bEq,da,ie]
   by_cases h:E[i].d.name=s
   ·rw[if_pos h,decide_eq_true h];rfl
   ·rw[if_neg h,decide_eq_false h,cond_false]
    have h1:=Ej (N:=N) (s:=s) hb aG (by omega) n1 (by omega) (R:=wg (ah C) N m) (t0:=t0) (t1:=t1) (t2:=t2) (t3:=t3) (t4:=t4) (t5:=t5) (t6:=t6) (t7:=t7) (t8:=t8) (t9:=t9) (t10:=t10) (t11:=t11) (t12:=t12) (t13:=t13) (t14:=t14) (t15:=t15) (t16:=t16) (t17:=t17) (t18:=t18) (t19:=t19) (t20:=t20)
     (d2:=E[i].enc.getD 2 V.any) (d3:=E[i].enc.getD 3 V.any) (d4:=E[i].enc.getD 4 V.any) (d5:=E[i].enc.getD 5 V.any) (d6:=E[i].enc.getD 6 V.any) (d7:=E[i].enc.getD 7 V.any) (d8:=E[i].enc.getD 8 V.any) (d9:=E[i].enc.getD 9 V.any) (d10:=E[i].enc.getD 10 V.any) (d11:=E[i].enc.getD 11 V.any) (d12:=E[i].enc.getD 12 V.any) (d13:=E[i].enc.getD 13 V.any) N 0 (Nat.zero_le _) (by omega)
    rw[List.drop_zero]at h1
    refine h1.trans ?_
    cases hc:eO s E[i].d.ctors 0 with
    |some j=>rfl
    |none=>
     simp only
     by_cases h3:E[i].d.kind=3∧E[i].d.name++fp=s
     ·rw[if_pos h3,if_pos h3]
     ·rw[if_neg h3,if_neg h3]
      exact Ek hb hE hn hN m (i+1) (by omega) (by omega)
  ·rw[cQ aG,cond_false,List.drop_eq_nil_of_le (by omega)]
   rfl
end
structure MV (E:List bO):Prop where
 len:E.length<2^40
 names:∀e∈E,e.d.name.size<1000∧e.d.ctors.length<2^40
theorem GM {σ:az} {b:Nat} {E:List bO} (hb:∀t:TypeId,bu σ (.ptr t b 0) false 1=some (.slice 21 58 (E.map bO.enc))) (hE:MV E) (s:ByteArray):
  ah C 28 [(.ptr 49 b 0,false),(.str s,false)] σ=some (.ret (found (da s E)),σ):=
 Vn (n:=2^41) <| by
  have h:=Ek (N:=2^41) (s:=s) hb (by have:=hE.len;omega) (fun e he=>⟨(hE.names e he).1,by have:=(hE.names e he).2;omega⟩) (by omega) (2^41) 0 (Nat.zero_le _) (by have:=hE.len;omega)
   (t0:=0) (t1:=ByteArray.mk #[]) (t2:=[]) (t3:=0) (t4:=0) (t5:=ByteArray.mk #[]) (t6:=[]) (t7:=[]) (t8:=0) (t9:=0) (t10:=ByteArray.mk #[]) (t11:=[]) (t12:=[]) (t13:=0) (t14:=[]) (t15:=[]) (t16:=0) (t17:=0) (t18:=ByteArray.mk #[]) (t19:=[]) (t20:=[])
  rw[List.drop_zero]at h
  exact h
theorem El {σ:az} {b:Nat} {E:List bO} {w:Bool} (hb:σ[b]?=some (aD E w)) (hE:MV E) (s:ByteArray):
  ah C 28 [(.ptr 49 b 0,false),(.str s,false)] σ=some (.ret (found (da s E)),σ):=GM (abj hb) hE s
end Go.Ab.Mk
end
section
namespace Go.Ab.Mk
open Go.Proofs Go.Ab Go.Proofs.Mk
theorem YS (x:Int):IntKind.wrap .i64 x<2^63:=by
 simp only[IntKind.wrap,IntKind.bits,IntKind.signed];simp;omega
theorem Qq {x:Int} (h0: -(2^63)≤x) (h1:x<2^63):IntKind.wrap .i64 x=x:=by
 simp only[IntKind.wrap,IntKind.bits,IntKind.signed];simp;omega
theorem sJ {N:Nat} {L:List Lv} (hb:L.length<2^60) {σ:az} {k:Int} {nm:ByteArray}
  (h:∀c∈L,∃n:Int,ah C 117 [(.agg [.int .i64 c.kind,.str c.name,.slice 3 120 c.args],false)] σ=some (.ret [(.int .i64 n,false)],σ)):
  ∀(m i:Nat) (v:Int),i≤L.length→L.length - i<m→∃n:Int,xM (ah C) N m v i k nm (L.map Lv.enc) σ=some (.ret [(.int .i64 n,false)],σ)
 |0,i,_,_,hm=>by omega
 |m+1,i,v,hi,hm=>by
  show ∃n:Int,I4 (ah C) (xM (ah C) N m) _ _ _ _ _ σ=_
  unfold I4 bo aE aM ak bb ae bp aq aP
  rw[List.length_map]
  by_cases aG:i<L.length
  ·rw[eD aG,cond_true,d0,jk aG,fU]
   obtain⟨x,hx⟩:=h _ (List.getElem_mem aG)
   obtain⟨n,hn⟩:=sJ (N:=N) hb (k:=k) (nm:=nm) h m (i+1) (IntKind.wrap .i64 (v+x)) (by omega) (by omega)
   refine⟨n,?_⟩
   simp only[Bool.and_self,bz,cond_true,Option.bind_some]
   refine(ab hx).trans ?_
   simp only[List.getD_cons_zero,V.asInt,if_true,Option.bind_some,aw (show i<2^61 by omega)]
   exact hn
  ·rw[cQ aG]
   exact⟨v,rfl⟩
theorem Em (σ:az):∀l:Lv,∃n:Int,ah C 117 [(.agg [.int .i64 l.kind,.str l.name,.slice 3 120 l.args],false)] σ=some (.ret [(.int .i64 n,false)],σ):=
 Lv.ind fun l ih=>by
  have h2:=jV l
  by_cases hk:(l.kind==(1:Int))=true
  ·obtain⟨n,hn⟩:=sJ (N:=10) (L:=l.kids) (by omega) (k:=l.kind) (nm:=l.name) (σ:=σ) ih 10 0 1 (by omega) (by omega)
   exact⟨n,Gv (n:=10) (by simp only[Qc,hk,cond_true];exact hn)⟩
  ·obtain⟨n,hn⟩:=sJ (N:=10) (L:=l.kids) (by omega) (k:=l.kind) (nm:=l.name) (σ:=σ) ih 10 0 0 (by omega) (by omega)
   exact⟨n,Gv (n:=10) (by simp only[Qc,Bool.not_eq_true]at hk ⊢;rw[hk,cond_false];exact hn)⟩
section
variable {σ:az} {N:Nat} {ps:List ByteArray} {z:Int} {a b:Lv}
def vals (z:Int):List (List V):=[[.int .i64 0],[.int .i64 1],[.int .i64 z]]
theorem Wh (z:Int) {r:Int} (h0:0≤r):∃x:Int,(vals z).getD (Int.toNat (Int.tmod r 3)) []=[.int .i64 x]∧decide (0≤Int.tmod r 3)=true∧decide (Int.tmod r 3<((vals z).length:Nat))=true:=by
 have h1:=Int.tmod_nonneg (a:=r) 3 h0
 have h2:=Int.tmod_lt_of_pos r (show(0:Int)<3 by decide)
 generalize Int.tmod r 3=q at h1 h2
 have h3:q=0∨q=1∨q=2:=by omega
 rcases h3 with rfl|rfl|rfl
 ·exact⟨0,rfl,rfl,rfl⟩
 ·exact⟨1,rfl,rfl,rfl⟩
 ·exact⟨z,rfl,rfl,rfl⟩
theorem En (hp:ps.length<2^33) {all k:Int} {R}
  (hR:∃x:Bool,R (.slice 1 9 (strs ps)) (vals z) all (IntKind.wrap .i64 (k+1)) a.kind a.name a.args b.kind b.name b.args σ=some (.ret [(.bool x,false)],σ)):
  ∀(m i:Nat) (ns:List Int) (r:Int),i≤ps.length→ns.length=i→0≤r→r<2^63→ps.length - i<m→
   ∃x:Bool,zJ (ah C) N R m (.slice 1 9 (strs ps)) (vals z) all k (ints ns) r i a.kind a.name a.args b.kind b.name b.args σ=some (.ret [(.bool x,false)],σ)
 |0,i,_,_,_,_,_,_,hm=>by omega
 |m+1,i,ns,r,hi,hns,h0,h1,hm=>by
  rw[show zJ (ah C) N R (m+1)=Oj (ah C) R (zJ (ah C) N R m)from rfl]
  unfold Oj cz bo jq ak iz bp aE bH bU bb ae aq
  simp only[V.asSlice,and_self,if_true,Option.bind_some,cw]
  by_cases aG:i<ps.length
  ·obtain⟨x,e1,e2,e3⟩:=Wh z h0
   have hq:0≤Int.tdiv r 3∧Int.tdiv r 3≤r:=by
    have:=Int.tdiv_nonneg h0 (show(0:Int)≤3 by decide)
    have h4:Int.tdiv r 3=r / 3:=Int.tdiv_eq_ediv_of_nonneg h0
    rw[h4];omega
   have cC:room ((ints ns).length+1)=true:=cF (by simp[ints];omega)
   obtain⟨y,hy⟩:=En hp hR m (i+1) (ns++[x]) (Int.tdiv r 3) (by omega) (by simp[hns]) hq.1 (by omega) (by omega)
   refine⟨y,?_⟩
   rw[eD aG,cond_true]
   simp only[e1,e2,e3,Bool.and_self,bz,cond_true,Option.bind_some,List.getD_cons_zero,show V.fits (V.int .i64 x) false 1=true from rfl,cC,aw (show i<2^61 by omega)]
   rw[Qq (x:=Int.tdiv r 3) (by omega) (by omega)]
   have e:ints (ns++[x])=ints ns++[[V.int .i64 x]]:=by simp[ints]
   rw[e]at hy
   exact hy
  ·have hl:ps.length=ns.length:=by omega
   have ha:=jj (ps:=ps) (ns:=ns) hl (by omega) σ a false false
   have hb:=jj (ps:=ps) (ns:=ns) hl (by omega) σ b false false
   rw[cQ aG,cond_false]
   by_cases hgt:ek ps ns a>ek ps ns b
   ·refine⟨false,?_⟩
    refine(ab ha).trans ?_
    refine(ab hb).trans ?_
    simp only[List.getD_cons_zero,V.asInt,if_true,Option.bind_some,decide_eq_true hgt,cond_true]
   ·obtain⟨x,hx⟩:=hR
    refine⟨x,?_⟩
    refine(ab ha).trans ?_
    refine(ab hb).trans ?_
    simp only[List.getD_cons_zero,V.asInt,if_true,Option.bind_some,decide_eq_false hgt,cond_false]
    exact hx
theorem Eo (hp:ps.length<2^33) (hN:ps.length<N) {all:Int} (gZ:all<2^63):
  ∀(m:Nat) (k:Int),0≤k→k<2^63→(all - k).toNat<m→∃x:Bool,wi (ah C) N m (.slice 1 9 (strs ps)) (vals z) all k a.kind a.name a.args b.kind b.name b.args σ=some (.ret [(.bool x,false)],σ)
 |0,k,_,_,hm=>by omega
 |m+1,k,h0,h1,hm=>by
  rw[show wi (ah C) N (m+1)=Ok (ah C) (zJ (ah C) N (wi (ah C) N m) N) (wi (ah C) N m)from rfl]
  unfold Ok aq
  by_cases aG:k<all
  ·rw[decide_eq_true aG,cond_true]
   refine En (N:=N) hp ?_ N 0 [] k (Nat.zero_le _) rfl h0 h1 (by omega)
   rw[Qq (x:=k+1) (by omega) (by omega)]
   exact Eo hp hN gZ m (k+1) (by omega) (by omega) (by omega)
  ·rw[decide_eq_false aG,cond_false]
   exact⟨true,rfl⟩
theorem Ep (hp:ps.length<2^33) (hN:2^63+10≤N):∀(m i:Nat) (all:Int),i≤ps.length→all<2^63→ps.length - i<m→
  ∃x:Bool,DG (ah C) N m (.slice 1 9 (strs ps)) (vals z) all i a.kind a.name a.args b.kind b.name b.args σ=some (.ret [(.bool x,false)],σ)
 |0,i,_,_,_,hm=>by omega
 |m+1,i,all,hi,gZ,hm=>by
  rw[show DG (ah C) N (m+1)=Ol (ah C) (wi (ah C) N N) (DG (ah C) N m)from rfl]
  unfold Ol cz bp
  simp only[V.asSlice,and_self,if_true,Option.bind_some,cw]
  by_cases aG:i<ps.length
  ·rw[eD aG,cond_true,aw (show i<2^61 by omega)]
   exact Ep hp hN m (i+1) _ (by omega) (YS _) (by omega)
  ·rw[cQ aG,cond_false]
   exact Eo hp (by omega) gZ N 0 (by omega) (by omega) (by omega)
end
theorem gi:∀(l:Lv) (ps:List ByteArray),(bW l ps).length≤ps.length+l.size
 |.zero,ps=>by simp[bW]
 |.succ l,ps=>by have:=gi l ps;simp only[bW,Lv.size];omega
 |.max a b,ps=>by have:=gi a ps;have:=gi b (bW a ps);simp only[bW,Lv.size];omega
 |.imax a b,ps=>by have:=gi a ps;have:=gi b (bW a ps);simp only[bW,Lv.size];omega
 |.param s,ps=>by simp only[bW,Lv.size];cases has s ps<;>simp
theorem pn (σ:az) (a b:Lv) (ha:a.size<2^31) (hb:b.size<2^31):
  ∃x:Bool,ah C 74 [(.agg [.int .i64 a.kind,.str a.name,.slice 3 120 a.args],false),(.agg [.int .i64 b.kind,.str b.name,.slice 3 120 b.args],false)] σ=some (.ret [(.bool x,false)],σ):=by
 have h1:=sH σ a [] (by simp;omega)
 have l1:=gi a []
 have h2:=sH σ b (bW a []) (by simp at l1;omega)
 have l2:=gi b (bW a [])
 simp only[List.length_nil]at l1
 obtain⟨n1,h3⟩:=Em σ a
 obtain⟨n2,h4⟩:=Em σ b
 obtain⟨x,hx⟩:=Ep (σ:=σ) (N:=2^63+10) (ps:=bW b (bW a [])) (z:=IntKind.wrap .i64 ((IntKind.wrap .i64 (2+n1))+n2)) (a:=a) (b:=b) (by omega) (Nat.le_refl _) (2^63+10) 0 1 (Nat.zero_le _) (by decide) (by omega)
 refine⟨x,Vr (n:=2^63+10) ?_⟩
 simp only[aaU,aE,bU,AU,ae,aM,bb,aP]
 refine(ab h1).trans ?_
 simp only[List.getD_cons_zero,Bool.and_self,bz,cond_true,Option.bind_some]
 refine(ab h2).trans ?_
 simp only[List.getD_cons_zero,Bool.and_self,bz,cond_true,Option.bind_some]
 refine(ab h3).trans ?_
 simp only[List.getD_cons_zero,V.asInt,if_true,Option.bind_some]
 refine(ab h4).trans ?_
 simp only[List.getD_cons_zero,V.asInt,if_true,Option.bind_some]
 exact hx
theorem Sp (σ:az) (a b:Lv) (ha:a.size<2^31) (hb:b.size<2^31):
  ∃x:Bool,ah C 47 [(.agg [.int .i64 a.kind,.str a.name,.slice 3 120 a.args],false),(.agg [.int .i64 b.kind,.str b.name,.slice 3 120 b.args],false)] σ=some (.ret [(.bool x,false)],σ):=by
 obtain⟨x,hx⟩:=pn σ a b ha hb
 obtain⟨y,hy⟩:=pn σ b a hb ha
 refine⟨x&&y,RE (n:=0) ?_⟩
 simp only[ZK,aE,aF,bU,cB,ae,aq]
 refine(ab hx).trans ?_
 refine(ab hy).trans ?_
 cases x<;>simp[V.asBool]
theorem nU (σ:az) (l:Lv) (h:l.size<2^31):∃x:Bool,ah C 173 [(.agg [.int .i64 l.kind,.str l.name,.slice 3 120 l.args],false)] σ=some (.ret [(.bool x,false)],σ):=by
 obtain⟨x,hx⟩:=pn σ l .zero h (by simp[Lv.size])
 exact⟨x,OG (n:=0) (by simp only[always,aE,aF,bU,aq,ae];exact(ab hx).trans rfl)⟩
theorem Er (σ:az) (l:Lv) (h:l.size<2^31):∃x:Bool,ah C 174 [(.agg [.int .i64 l.kind,.str l.name,.slice 3 120 l.args],false)] σ=some (.ret [(.bool x,false)],σ):=by
 obtain⟨x,hx⟩:=pn σ (.succ .zero) l (by simp[Lv.size]) h
 exact⟨x,Rm (n:=0) (by simp only[never,aE,aF,bU,aP,aq,ae];exact(ab hx).trans rfl)⟩
end Go.Ab.Mk
end
section
namespace Go.Ab.Mk
open Go.Proofs Go.Ab Go.Proofs.Mk
theorem qV {N:Nat} {K L:List Lv} (hl:K.length=L.length) (hb:L.length<2^60) {σ:az} {k a:Int} {nm an:ByteArray}
  (h:∀c∈K,∀d:Lv,∃x:Bool,ah C 46 [(.agg [.int .i64 c.kind,.str c.name,.slice 3 120 c.args],false),(.agg [.int .i64 d.kind,.str d.name,.slice 3 120 d.args],false)] σ=some (.ret [(.bool x,false)],σ)):
  ∀(m i:Nat),i≤L.length→L.length - i<m→∃x:Bool,jx (ah C) N m i k nm (K.map Lv.enc) a an (L.map Lv.enc) σ=some (.ret [(.bool x,false)],σ)
 |0,i,_,hm=>by omega
 |m+1,i,hi,hm=>by
  show ∃x:Bool,lA (ah C) (jx (ah C) N m) _ _ _ _ _ _ _ σ=_
  unfold lA bo aE aF ak cB ae aq bp
  rw[List.length_map,List.length_map,hl]
  by_cases aG:i<L.length
  ·obtain⟨x,hx⟩:=h _ (List.getElem_mem (by omega:i<K.length)) L[i]
   obtain⟨y,hy⟩:=qV (N:=N) hl hb (k:=k) (a:=a) (nm:=nm) (an:=an) h m (i+1) (by omega) (by omega)
   refine⟨x&&y,?_⟩
   rw[eD aG,cond_true,d0,jk aG,jk (show i<K.length by omega),fU,fU]
   simp only[Bool.and_self,bz,cond_true,Option.bind_some]
   refine(ab hx).trans ?_
   simp only[List.getD_cons_zero,V.asBool,Option.bind_some,aw (show i<2^61 by omega)]
   cases x
   ·rfl
   ·exact hy
  ·rw[cQ aG]
   exact⟨true,rfl⟩
theorem Es (σ:az):∀l d:Lv,∃x:Bool,ah C 46 [(.agg [.int .i64 l.kind,.str l.name,.slice 3 120 l.args],false),(.agg [.int .i64 d.kind,.str d.name,.slice 3 120 d.args],false)] σ=some (.ret [(.bool x,false)],σ):=
 Lv.ind fun l ih d=>by
  have h2:=jV d
  have e1:l.args.length=l.kids.length:=by simp[Lv.args]
  have e2:d.args.length=d.kids.length:=by simp[Lv.args]
  by_cases h1:(l.kind != d.kind)=true
  ·exact⟨false,iV (n:=10) (by simp only[kL,aq,h1,cond_true])⟩
  by_cases h2:(!(l.name.toList==d.name.toList))=true
  ·exact⟨false,iV (n:=10) (by simp only[Bool.not_eq_true]at h1;simp only[kL,aq,h1,cond_false,h2,cond_true])⟩
  by_cases h3:l.kids.length=d.kids.length
  ·obtain⟨x,hx⟩:=qV (N:=10) (K:=l.kids) (L:=d.kids) h3 (by omega) (k:=l.kind) (nm:=l.name) (a:=d.kind) (an:=d.name) (σ:=σ) ih 10 0 (by omega) (by omega)
   refine⟨x,iV (n:=10) ?_⟩
   simp only[Bool.not_eq_true]at h1 h2
   simp only[kL,aq,h1,h2,cond_false,e1,e2,h3,bne_self_eq_false]
   exact hx
  ·refine⟨false,iV (n:=10) ?_⟩
   simp only[Bool.not_eq_true]at h1 h2
   have h4:(((l.kids.length:Nat):Int) != ((d.kids.length:Nat):Int))=true:=by rw[bne_iff_ne];omega
   simp only[kL,aq,h1,h2,cond_false,e1,e2,h4,cond_true]
theorem yf {N:Nat} {K L:List Tm} (hl:K.length=L.length) (hb:L.length<2^60) {σ:az} {w:Bool} {a0 a1 b0 b1:Int} {a2 b2:ByteArray} {a3 b3:List (List V)}
  (h:∀c∈K,∀d∈L,∃x:Bool,ah C 29 [(c.val,false),(d.val,false),(.bool w,false)] σ=some (.ret [(.bool x,false)],σ)):
  ∀(m i:Nat),i≤L.length→L.length - i<m→∃x:Bool,jT (ah C) N m w i a0 a1 a2 a3 (K.map Tm.enc) b0 b1 b2 b3 (L.map Tm.enc) σ=some (.ret [(.bool x,false)],σ)
 |0,i,_,hm=>by omega
 |m+1,i,hi,hm=>by
  show ∃x:Bool,xH (ah C) (jT (ah C) N m) _ _ _ _ _ _ _ _ _ _ _ _ σ=_
  unfold xH bo aE bH bJ cB ae aq bp
  rw[List.length_map,List.length_map,hl]
  by_cases aG:i<L.length
  ·obtain⟨x,hx⟩:=h _ (List.getElem_mem (by omega:i<K.length)) _ (List.getElem_mem aG)
   obtain⟨y,hy⟩:=yf (N:=N) hl hb h m (i+1) (by omega) (by omega)
   refine⟨x&&y,?_⟩
   rw[eD aG,cond_true,d0,dB aG,dB (show i<K.length by omega),bf,bf]
   simp only[Bool.and_self,bz,cond_true,Option.bind_some]
   refine(ab hx).trans ?_
   simp only[List.getD_cons_zero,V.asBool,Option.bind_some,aw (show i<2^61 by omega)]
   cases x
   ·rfl
   ·exact hy
  ·rw[cQ aG]
   exact⟨true,rfl⟩
theorem yg {N:Nat} {K L:List Lv} (hl:K.length=L.length) (hb:L.length<2^60) (hK:∀c∈K,c.size<2^31) (hL:∀c∈L,c.size<2^31) {σ:az} {w:Bool} {a0 a1 b0 b1:Int} {a2 b2:ByteArray} {a4 b4:List (List V)}
  (h:∃x:Bool,jT (ah C) N N w 0 a0 a1 a2 (K.map Lv.enc) a4 b0 b1 b2 (L.map Lv.enc) b4 σ=some (.ret [(.bool x,false)],σ)):
  ∀(m i:Nat),i≤L.length→L.length - i<m→∃x:Bool,qh (ah C) N m w i a0 a1 a2 (K.map Lv.enc) a4 b0 b1 b2 (L.map Lv.enc) b4 σ=some (.ret [(.bool x,false)],σ)
 |0,i,_,hm=>by omega
 |m+1,i,hi,hm=>by
  show ∃x:Bool,xI (ah C) (jT (ah C) N N) (qh (ah C) N m) _ _ _ _ _ _ _ _ _ _ _ _ σ=_
  unfold xI bo aE aF ak cB ae aq bp
  rw[List.length_map,List.length_map,hl]
  by_cases aG:i<L.length
  ·have hk:i<K.length:=by omega
   obtain⟨x,hx⟩:=Es σ K[i] L[i]
   obtain⟨z,hz⟩:=Sp σ K[i] L[i] (hK _ (List.getElem_mem hk)) (hL _ (List.getElem_mem aG))
   obtain⟨y,hy⟩:=yg (N:=N) hl hb hK hL h m (i+1) (by omega) (by omega)
   refine⟨bif x then y else bif w then z&&y else false,?_⟩
   rw[eD aG,cond_true,d0,jk aG,jk hk,fU,fU]
   simp only[Bool.and_self,bz,cond_true,Option.bind_some]
   refine(ab hx).trans ?_
   simp only[List.getD_cons_zero,V.asBool,Option.bind_some,aw (show i<2^61 by omega)]
   cases x
   ·cases w
    ·rfl
    ·simp only[Bool.not_false,cond_true,cond_false]
     refine(ab hz).trans ?_
     simp only[List.getD_cons_zero,V.asBool,Option.bind_some]
     cases z
     ·rfl
     ·exact hy
   ·exact hy
  ·rw[cQ aG]
   exact h
theorem O9 (σ:az) (w:Bool):∀a b:Tm,a.lz<2^31→b.lz<2^31→b.wide<2^59→∃x:Bool,ah C 29 [(a.val,false),(b.val,false),(.bool w,false)] σ=some (.ret [(.bool x,false)],σ):=
  Tm.ind fun a ih b ha hb hwb=>by
    have k3:=lC b
    have wl:=Ah b
    have e1:a.args.length=a.kids.length:=by simp[Tm.args]
    have e2:b.args.length=b.kids.length:=by simp[Tm.args]
    by_cases h1:(a.kind != b.kind)=true
    · exact⟨false,kK (n:=10) (by simp only[alike,aq,h1,cond_true])⟩
    by_cases h2:((a.num:Int) != (b.num:Int))=true
    · exact⟨false,kK (n:=10) (by simp only[Bool.not_eq_true]at h1;simp only[alike,aq,h1,cond_false,h2,cond_true])⟩
    by_cases h3:(!(a.name.toList==b.name.toList))=true
    · exact⟨false,kK (n:=10) (by simp only[Bool.not_eq_true]at h1 h2;simp only[alike,aq,h1,h2,cond_false,h3,cond_true])⟩
    simp only[Bool.not_eq_true]at h1 h2 h3
    by_cases h4:a.bK.length=b.bK.length
    · by_cases h5:a.kids.length=b.kids.length
      · obtain⟨x,hx⟩:=yg (N:=b.wide+10) (K:=a.bK) (L:=b.bK) h4 (by omega) (fun c hc=>by have:=Wg hc;omega) (fun c hc=>by have:=Wg hc;omega) (σ:=σ) (w:=w) (a0:=a.kind) (a1:=a.num) (a2:=a.name) (a4:=a.args) (b0:=b.kind) (b1:=b.num) (b2:=b.name) (b4:=b.args)
          (yf (K:=a.kids) (L:=b.kids) h5 (by omega) (fun c hc d hd=>ih c hc d (by have:=O7 hc;omega) (by have:=O7 hd;omega) (by have:=jW hd;omega)) (b.wide+10) 0 (Nat.zero_le _) (by omega)) (b.wide+10) 0 (Nat.zero_le _) (by omega)
        refine⟨x,kK (n:=b.wide+10) ?_⟩
        simp only[alike,aq,h1,h2,h3,cond_false,e1,e2,h4,h5,bne_self_eq_false,List.length_map]
        exact hx
      · refine⟨false,kK (n:=10) ?_⟩
        have h6:(((a.kids.length:Nat):Int) != ((b.kids.length:Nat):Int))=true:=by rw[bne_iff_ne];omega
        simp only[alike,aq,h1,h2,h3,cond_false,e1,e2,h4,bne_self_eq_false,List.length_map,h6,cond_true]
    · refine⟨false,kK (n:=10) ?_⟩
      have h6:(((a.bK.length:Nat):Int) != ((b.bK.length:Nat):Int))=true:=by rw[bne_iff_ne];omega
      simp only[alike,aq,h1,h2,h3,cond_false,List.length_map,h6,cond_true]
theorem Et (σ:az) (a b:Tm) (ha:a.lz<2^31) (hb:b.lz<2^31) (hw:b.wide<2^59):∃x:Bool,ah C 249 [(a.val,false),(b.val,false)] σ=some (.ret [(.bool x,false)],σ):=by
 obtain⟨x,hx⟩:=O9 σ true a b ha hb hw
 exact⟨x,Fx (n:=0) (by simp only[Gt,aE,bH,aC,aq,ae];exact(ab hx).trans rfl)⟩
theorem yh (n:Nat) (σ:az):ah C 229 [(.int .i64 n,false)] σ=some (.ret [((Tm.var n).val,false)],σ):=U4 (n:=0) rfl
theorem Ak (l:Lv) (σ:az):ah C 225 [(.agg [.int .i64 l.kind,.str l.name,.slice 3 120 l.args],false)] σ=some (.ret [((Tm.sort l).val,false)],σ):=Rp (n:=0) <| by
 simp only[ZH,aq,aC]
 rw[←l.aX];rfl
theorem YT (f a:Tm) (σ:az):ah C 254 [(f.val,false),(a.val,false)] σ=some (.ret [((Tm.pi f a).val,false)],σ):=Yl (n:=0) <| by
 simp only[rpi,aq,aC]
 rw[show(Tm.pi f a).val=V.agg [.int .i64 5,.int .i64 0,.str (ByteArray.mk #[]),.slice 3 120 [],.slice 5 53 [f.enc,a.enc]]from rfl,f.aX,a.aX]
theorem Wi (f a:Tm) (σ:az):ah C 285 [(f.val,false),(a.val,false)] σ=some (.ret [((Tm.lam f a).val,false)],σ):=Wa (n:=0) <| by
 simp only[acy,aq,aC]
 rw[show(Tm.lam f a).val=V.agg [.int .i64 4,.int .i64 0,.str (ByteArray.mk #[]),.slice 3 120 [],.slice 5 53 [f.enc,a.enc]]from rfl,f.aX,a.aX]
theorem FP (t:Tm) (s:ByteArray) (σ:az):ah C 279 [(t.val,false),(.str s,false)] σ=some (.ret [(.bool (lV (Eu s) t 0),false)],σ):=
 FK (n:=0) (by simp only[recursive,aE,aF,aC,aq,ae];exact(ab (sK σ t 0)).trans rfl)
def eC:Tm→Nat→Tm
 |t,0=>t
 |.pi _ b,n+1=>eC b n
 |t,_+1=>t
theorem kP (t:Tm):eC t 0=t:=by cases t<;>rfl
theorem GN:∀t:Tm,cP t<t.parts
 |.pi a b=>by have:=GN b;simp only[cP,Tm.parts];omega
 |.var _=>gK _
 |.sort _=>gK _
 |.const _ _=>gK _
 |.app _ _=>gK _
 |.lam _ _=>gK _
 |.bE _ _ _=>gK _
theorem LM {N:Nat} {σ:az}:∀(m:Nat) (t:Tm) (v:Nat),cP t<m→v+cP t<2^60→Lm (ah C) N m v (.int .i64 t.kind) (.int .i64 t.num) (.str t.name) (.slice 3 120 (t.bK.map Lv.enc)) (.slice 5 53 t.args) σ=some (.ret [(.int .i64 ((v+cP t:Nat):Int),false)],σ)
 |0,t,_,hm,_=>by omega
 |m+1,t,v,hm,hv=>by
  rw[show Lm (ah C) N (m+1)=VE (ah C) (Lm (ah C) N m)from rfl]
  unfold VE bb cz bo gr bp aq aP
  simp only[V.asInt,if_true,Option.bind_some]
  by_cases hk:t.kind=5
  ·obtain⟨a,b,rfl⟩:∃a b,t=.pi a b:=by cases t<;>simp[Tm.kind]at hk;exact⟨_,_,rfl⟩
   have ih:=LM (N:=N) (σ:=σ) m b (v+1) (by simp only[cP]at hm;omega) (by simp only[cP]at hv;omega)
   simp only[Tm.kind,beq_self_eq_true,cond_true,V.asSlice,and_self,if_true,Option.bind_some,Tm.args,Tm.kids,List.map_cons,List.map_nil]
   rw[aw (show v<2^61 by omega)]
   have e:(v+1+cP b)=v+cP (.pi a b):=by simp only[cP];omega
   rw[e]at ih
   have eb:=b.aX
   simp only[show Int.toNat (1:Int)=1 from rfl,List.getD_cons_succ,List.getD_cons_zero,eb]
   exact ih
  ·rw[show(t.kind==(5:Int))=false by simpa using hk,cond_false]
   have:cP t=0:=by cases t<;>simp[Tm.kind]at hk<;>rfl
   rw[this,Nat.add_zero]
theorem LN {N:Nat} {σ:az} {n:Nat} (hn:n<2^60):∀(m:Nat) (t:Tm) (i:Nat),i≤n→n - i<m→n - i≤cP t→∀{t0 t1:Int} {t2:ByteArray} {t3 t4:List (List V)},
  DT (ah C) N m n i (.int .i64 t.kind) (.int .i64 t.num) (.str t.name) (.slice 3 120 (t.bK.map Lv.enc)) (.slice 5 53 t.args) t0 t1 t2 t3 t4 σ=some (.ret [((eC t (n - i)).val,false)],σ)
 |0,t,i,_,hm,_=>by omega
 |m+1,t,i,hi,hm,hp=>by
  rename_i t0 t1 t2 t3 t4
  rw[show DT (ah C) N (m+1)=OE (ah C) (DT (ah C) N m)from rfl]
  unfold OE cz bo gr bp aq bF
  by_cases aG:i<n
  ·obtain⟨a,b,rfl⟩:∃a b,t=.pi a b:=by cases t<;>simp only[cP]at hp<;>first|omega|exact⟨_,_,rfl⟩
   have ih:=LN (N:=N) (σ:=σ) hn m b (i+1) (by omega) (by omega) (by simp only[cP]at hp;omega) (t0:=t0) (t1:=t1) (t2:=t2) (t3:=t3) (t4:=t4)
   rw[eD aG,cond_true,aw (show i<2^61 by omega)]
   have e:eC (.pi a b) (n - i)=eC b (n - (i+1)):=by rw[show n - i=n - (i+1)+1 by omega];rfl
   rw[e]
   have eb:=b.aX
   simp only[V.asSlice,and_self,if_true,Option.bind_some,Tm.args,Tm.kids,List.map_cons,List.map_nil,show Int.toNat (1:Int)=1 from rfl,List.getD_cons_succ,List.getD_cons_zero,eb]
   exact ih
  ·rw[cQ aG,cond_false,show n - i=0 by omega,kP]
   rfl
theorem B9 (t:Tm) (n:Nat) (h:n≤cP t) (hp:t.parts<2^59) (σ:az):ah C 172 [(t.val,false),(.int .i64 n,false)] σ=some (.ret [((eC t n).val,false)],σ):=
 VG (n:=n+1) <| by
  have:=GN t
  exact LN (N:=n+1) (by omega) (n+1) t 0 (Nat.zero_le _) (by omega) (by omega)
end Go.Ab.Mk
end
section
namespace Go.Ab.Mk
open Go.Proofs Go.Ab Go.Proofs.Mk
theorem cV (t:Tm):V.cell t.val 0=.int .i64 t.kind:=rfl
theorem dJ (t:Tm):V.cell t.val 1=.int .i64 t.num:=rfl
theorem dK (t:Tm):V.cell t.val 2=.str t.name:=rfl
theorem dw (t:Tm):V.cell t.val 3=.slice 3 120 (t.bK.map Lv.enc):=rfl
theorem dh (t:Tm):V.cell t.val 4=.slice 5 53 t.args:=rfl
theorem gf (t:Tm):t.enc.getD 0 V.any=.int .i64 t.kind:=by rw[t.aX];rfl
theorem gI (t:Tm):t.enc.getD 1 V.any=.int .i64 t.num:=by rw[t.aX];rfl
theorem jz (t:Tm):t.enc.getD 2 V.any=.str t.name:=by rw[t.aX];rfl
theorem jA (t:Tm):t.enc.getD 3 V.any=.slice 3 120 (t.bK.map Lv.enc):=by rw[t.aX];rfl
theorem jC (t:Tm):t.enc.getD 4 V.any=.slice 5 53 t.args:=by rw[t.aX];rfl
theorem cK (t:Tm):V.agg [.int .i64 t.kind,.int .i64 t.num,.str t.name,.slice 3 120 (t.bK.map Lv.enc),.slice 5 53 t.args]=t.val:=rfl
theorem yi (a b:Tm):(Tm.app a b).kind=3:=rfl
theorem sL (a b:Tm):(Tm.lam a b).kind=4:=rfl
theorem Wj (a b c:Tm):(Tm.bE a b c).kind=6:=rfl
theorem Ev (a b:Tm):(Tm.app a b).args=[a.enc,b.enc]:=rfl
theorem sM (a b:Tm):(Tm.lam a b).args=[a.enc,b.enc]:=rfl
theorem kY (a b:Tm):(Tm.pi a b).args=[a.enc,b.enc]:=rfl
theorem Wk (a b c:Tm):(Tm.bE a b c).args=[a.enc,b.enc,c.enc]:=rfl
theorem nE (a b:List V):(([a,b]:List (List V)).length:Int)=2:=rfl
theorem acB (a b c:List V):(([a,b,c]:List (List V)).length:Int)=3:=rfl
theorem oG (a:List V) (l:List (List V)):(a::l).getD (Int.toNat 0) []=a:=rfl
theorem nF (a b:List V) (l:List (List V)):(a::b::l).getD (Int.toNat 1) []=b:=rfl
theorem acC (a b c:List V) (l:List (List V)):(a::b::c::l).getD (Int.toNat 2) []=c:=rfl
theorem rr:(decide ((0:Int)≤1)&&decide ((1:Int)<2))=true:=rfl
theorem uD:(decide ((0:Int)≤0)&&decide ((0:Int)<2))=true:=rfl
theorem adM:(decide ((0:Int)≤2)&&decide ((2:Int)<3))=true:=rfl
theorem adN:(decide ((0:Int)≤1)&&decide ((1:Int)<3))=true:=rfl
theorem adO:(decide ((0:Int)≤0)&&decide ((0:Int)<3))=true:=rfl
theorem fT (n:Int):V.asInt (.int .i64 n) .i64=some n:=rfl
theorem iD (b:Bool):V.asBool (.bool b)=some b:=rfl
theorem asS (s:ByteArray):V.di (.str s)=some s:=rfl
theorem BH (l:List (List V)):V.asSlice (.slice 5 53 l) 5 53=some l:=by simp[V.asSlice]
theorem asL (l:List (List V)):V.asSlice (.slice 3 120 l) 3 120=some l:=by simp[V.asSlice]
theorem asN (l:List (List V)):V.asSlice (.slice 1 9 l) 1 9=some l:=by simp[V.asSlice]
theorem yj {N:Nat} (t:Tm) {k:Nat} (hk:k<2^60) {σ:az}
  (h:∀(i:Nat) (hi:i<t.kids.length),∃x:Bool,ah C 272 [((t.kids[i]).val,false),(.int .i64 (j9 t i k:Nat),false)] σ=some (.ret [(.bool x,false)],σ)):
  ∀(m i:Nat),i≤t.kids.length→t.kids.length - i<m→∃x:Bool,xU (ah C) N m k i t.kind t.num t.name (t.bK.map Lv.enc) (t.kids.map Tm.enc) σ=some (.ret [(.bool x,false)],σ)
 |0,i,_,hm=>by omega
 |m+1,i,hi,hm=>by
  show ∃x:Bool,D8 (ah C) (xU (ah C) N m) _ _ _ _ _ _ _ σ=_
  unfold D8 aE aF aC aP cB ae bo bJ bp aq
  rw[List.length_map]
  have h3:=lC t
  by_cases aG:i<t.kids.length
  ·have hb:=um t i aG σ
   obtain⟨x,h1⟩:=h i aG
   obtain⟨y,ih⟩:=yj (N:=N) t hk h m (i+1) (by omega) (by omega)
   refine⟨bif x then true else y,?_⟩
   rw[eD aG,cond_true]
   refine(ab hb).trans ?_
   simp only[List.getD_cons_zero,V.asBool,Option.bind_some,d0,eD aG,Bool.and_self,bz,cond_true,dB aG,bf,aw (show k<2^61 by omega),aw (show i<2^61 by omega)]
   rw[B8]at h1
   cases Qf:FO t i with
   |true=>
    rw[Qf,cond_true]at h1
    simp only[cond_true]
    refine(ab h1).trans ?_
    simp only[List.getD_cons_zero,V.asBool,Option.bind_some]
    cases x
    ·exact ih
    ·rfl
   |false=>
    rw[Qf,cond_false]at h1
    simp only[cond_false]
    refine(ab h1).trans ?_
    simp only[List.getD_cons_zero,V.asBool,Option.bind_some]
    cases x
    ·exact ih
    ·rfl
  ·rw[cQ aG]
   exact⟨false,rfl⟩
theorem LO (σ:az):∀(t:Tm) (k:Nat),k+t.depth<2^50→∃x:Bool,ah C 272 [(t.val,false),(.int .i64 k,false)] σ=some (.ret [(.bool x,false)],σ):=
 Tm.ind fun t ih k hd=>by
  have h3:=lC t
  by_cases hk:t.kind=0
  ·exact⟨((t.num:Int)==(k:Int)),D9 (n:=10) (by simp only[Jh,aq,hk,beq_self_eq_true,cond_true])⟩
  ·obtain⟨x,hx⟩:=yj (N:=10) t (k:=k) (by omega) (σ:=σ) (fun i hi=>by
    have D5:=jy (List.getElem_mem hi)
    have hb:=qw t i k
    exact ih _ (List.getElem_mem hi) (j9 t i k) (by omega)) 10 0 (Nat.zero_le _) (by omega)
   refine⟨x,D9 (n:=10) ?_⟩
   simp only[Jh,aq]
   rw[show(t.kind==0)=false by simpa using hk,cond_false]
   exact hx
structure Pa (u t:Tm):Prop where
 top:u.top≤t.top
 wide:u.wide≤t.wide
 depth:u.depth≤t.depth
 lz:u.lz≤t.lz
theorem Pa.refl (t:Tm):Pa t t:=⟨Nat.le_refl _,Nat.le_refl _,Nat.le_refl _,Nat.le_refl _⟩
theorem fQ:∀(t:Tm) (k:Nat),Pa (aZ (.var 0) t k) t
 |.var m,k=>by
  simp only[aZ,db]
  by_cases h:m=k
  ·subst h;simp only[if_true,Nat.zero_le,Nat.zero_add];exact Pa.refl _
  ·by_cases h2:k<m
   ·rw[if_neg h,if_pos h2];exact⟨by simp only[Tm.top];omega,Nat.le_refl _,Nat.le_refl _,Nat.le_refl _⟩
   ·rw[if_neg h,if_neg h2];exact Pa.refl _
 |.sort _,_=>Pa.refl _
 |.const _ _,_=>Pa.refl _
 |.app a b,k=>by have h1:=fQ a k;have h2:=fQ b k;exact⟨by have:=h1.top;have:=h2.top;simp only[aZ,Tm.top];omega,by have:=h1.wide;have:=h2.wide;simp only[aZ,Tm.wide];omega,by have:=h1.depth;have:=h2.depth;simp only[aZ,Tm.depth];omega,by have:=h1.lz;have:=h2.lz;simp only[aZ,Tm.lz];omega⟩
 |.lam a b,k=>by have h1:=fQ a k;have h2:=fQ b (k+1);exact⟨by have:=h1.top;have:=h2.top;simp only[aZ,Tm.top];omega,by have:=h1.wide;have:=h2.wide;simp only[aZ,Tm.wide];omega,by have:=h1.depth;have:=h2.depth;simp only[aZ,Tm.depth];omega,by have:=h1.lz;have:=h2.lz;simp only[aZ,Tm.lz];omega⟩
 |.pi a b,k=>by have h1:=fQ a k;have h2:=fQ b (k+1);exact⟨by have:=h1.top;have:=h2.top;simp only[aZ,Tm.top];omega,by have:=h1.wide;have:=h2.wide;simp only[aZ,Tm.wide];omega,by have:=h1.depth;have:=h2.depth;simp only[aZ,Tm.depth];omega,by have:=h1.lz;have:=h2.lz;simp only[aZ,Tm.lz];omega⟩
 |.bE a b c,k=>by have h1:=fQ a k;have h2:=fQ b k;have h3:=fQ c (k+1);exact⟨by have:=h1.top;have:=h2.top;have:=h3.top;simp only[aZ,Tm.top];omega,by have:=h1.wide;have:=h2.wide;have:=h3.wide;simp only[aZ,Tm.wide];omega,by have:=h1.depth;have:=h2.depth;have:=h3.depth;simp only[aZ,Tm.depth];omega,by have:=h1.lz;have:=h2.lz;have:=h3.lz;simp only[aZ,Tm.lz];omega⟩
structure GQ (c t:Tm):Prop where
 top:c.top≤t.top
 wide:c.wide≤t.wide
 depth:c.depth+1≤t.depth
 lz:c.lz≤t.lz
theorem Sq {t c:Tm} (h:c∈t.kids):GQ c t:=⟨(jy h).2,jW h,(jy h).1,O7 h⟩
theorem GQ.les {u c t:Tm} (h:GQ c t) (k:Pa u c):GQ u t:=⟨Nat.le_trans k.top h.top,Nat.le_trans k.wide h.wide,by have:=k.depth;have:=h.depth;omega,Nat.le_trans k.lz h.lz⟩
def Tm.re:Tm→List Tm→Tm
 |.app _ _,[a,b]=>.app a b
 |.lam _ _,[a,b]=>.lam a b
 |.pi _ _,[a,b]=>.pi a b
 |.bE _ _ _,[a,b,c]=>.bE a b c
 |t,_=>t
theorem Wl (t:Tm) (L:List Tm) (h:L.length=t.kids.length):(t.re L).val=LP t L∧(t.re L).kids=L∧(t.re L).bK=t.bK∧(t.re L).kind=t.kind∧((∀c∈L,GQ c t)→Pa (t.re L) t):=by
 cases t<;>simp only[Tm.kids,List.length_cons,List.length_nil]at h
 case var=>obtain rfl:=List.length_eq_zero_iff.1 h;exact⟨rfl,rfl,rfl,rfl,fun _=>Pa.refl _⟩
 case sort=>obtain rfl:=List.length_eq_zero_iff.1 h;exact⟨rfl,rfl,rfl,rfl,fun _=>Pa.refl _⟩
 case const=>obtain rfl:=List.length_eq_zero_iff.1 h;exact⟨rfl,rfl,rfl,rfl,fun _=>Pa.refl _⟩
 case bE=>
  match L,h with
  |[a,b,c],_=>
   refine⟨rfl,rfl,rfl,rfl,fun hL=>?_⟩
   have h1:=hL a (by simp)
   have h2:=hL b (by simp)
   have h3:=hL c (by simp)
   exact⟨by have:=h1.top;have:=h2.top;have:=h3.top;simp only[Tm.re];simp only[Tm.top]at*;omega,by have:=h1.wide;have:=h2.wide;have:=h3.wide;simp only[Tm.re];simp only[Tm.wide]at*;omega,by have:=h1.depth;have:=h2.depth;have:=h3.depth;simp only[Tm.re];simp only[Tm.depth]at*;omega,by have:=h1.lz;have:=h2.lz;have:=h3.lz;simp only[Tm.re];simp only[Tm.lz]at*;omega⟩
 all_goals
  match L,h with
  |[a,b],_=>
   refine⟨rfl,rfl,rfl,rfl,fun hL=>?_⟩
   have h1:=hL a (by simp)
   have h2:=hL b (by simp)
   exact⟨by have:=h1.top;have:=h2.top;simp only[Tm.re];simp only[Tm.top]at*;omega,by have:=h1.wide;have:=h2.wide;simp only[Tm.re];simp only[Tm.wide]at*;omega,by have:=h1.depth;have:=h2.depth;simp only[Tm.re];simp only[Tm.depth]at*;omega,by have:=h1.lz;have:=h2.lz;simp only[Tm.re];simp only[Tm.lz]at*;omega⟩
theorem A9 {N:Nat} (t:Tm) (hp:t.depth<2^48) (acD:t.top<2^49) {σ:az}
  (h:∀c∈t.kids,∃u:Tm,ah C 248 [(c.val,false)] σ=some (.ret [(u.val,false)],σ)∧Pa u c):
  ∀(m i:Nat) (L:List Tm),i≤t.kids.length→t.kids.length - i<m→L.length=i→(∀c∈L,GQ c t)→∀{t0 t1:Int} {t2:ByteArray} {t3 t4:List (List V)},
   ∃u:Tm,tV (ah C) N m (L.map Tm.enc) i t.kind t.num t.name (t.bK.map Lv.enc) (t.kids.map Tm.enc) t0 t1 t2 t3 t4 σ=some (.ret [(u.val,false)],σ)∧Pa u t
 |0,i,_,_,hm,_,_=>by omega
 |m+1,i,L,hi,hm,hL,hT=>by
  rename_i t0 t1 t2 t3 t4
  rw[show tV (ah C) N (m+1)=tU (ah C) (tV (ah C) N m)from rfl]
  unfold tU bo aE aM bJ jq ae iz bp aF aC dk bQ bb aq bA cz ak aP cB
  rw[List.length_map]
  have h3:=lC t
  by_cases aG:i<t.kids.length
  ·obtain⟨u,h1,h2⟩:=h _ (List.getElem_mem aG)
   obtain⟨v,k1,k2⟩:=A9 (N:=N) t hp acD h m (i+1) (L++[u]) (by omega) (by omega) (by simp[hL]) (fun c hc=>by
    rcases List.mem_append.1 hc with hc|hc
    ·exact hT c hc
    ·rw[List.mem_singleton]at hc;subst hc;exact(Sq (List.getElem_mem aG)).les h2) (t0:=t0) (t1:=t1) (t2:=t2) (t3:=t3) (t4:=t4)
   refine⟨v,?_,k2⟩
   rw[eD aG,cond_true,d0,dB aG,bf]
   simp only[Bool.and_self,bz,cond_true,Option.bind_some]
   refine(ab h1).trans ?_
   simp only[List.getD_cons_zero,aL,Bool.and_self,cond_true,Option.bind_some,cF (show(L.map Tm.enc).length+1<2^34 by simp;omega),aw (show i<2^61 by omega),nt]
   rw[List.map_append]at k1
   exact k1
  ·have hLk:L.length=t.kids.length:=by omega
   obtain⟨r1,r2,r3,r4,r5⟩:=Wl t L hLk
   have rp:=r5 hT
   have hw:=yk t (L.map Tm.enc) σ
   rw[show V.agg [.int .i64 t.kind,.int .i64 t.num,.str t.name,.slice 3 120 (t.bK.map Lv.enc),.slice 5 53 (L.map Tm.enc)]=(t.re L).val from r1.symm]at hw
   generalize t.re L=u at*
   rw[cQ aG,cond_false]
   by_cases hk:u.kind=4
   ·obtain⟨A,B,rfl⟩:∃A B,u=.lam A B:=by cases u<;>simp[Tm.kind]at hk;exact⟨_,_,rfl⟩
    by_cases hB:B.kind=3
    ·obtain⟨f,x,rfl⟩:∃f x,B=.app f x:=by cases B<;>simp[Tm.kind]at hB;exact⟨_,_,rfl⟩
     have Mq:f.depth<2^49:=by have:=rp.depth;simp only[Tm.depth]at this;omega
     obtain⟨y,hy⟩:=LO σ f 0 (by omega)
     have hs:=sI f (.var 0) (by have:=rp.top;simp only[Tm.top]at this;omega) (by omega) (by simp[Tm.top]) (by simp[Tm.depth]) σ
     have jP:=fQ f 0
     have key:∃v:Tm,(v=.lam A (.app f x)∨v=aZ (.var 0) f 0)∧tU (ah C) (tV (ah C) N m) (L.map Tm.enc) t.kids.length t.kind t.num t.name (t.bK.map Lv.enc) (t.kids.map Tm.enc) t0 t1 t2 t3 t4 σ=some (.ret [(v.val,false)],σ):=by
      unfold tU bo aE aM bJ jq ae iz bp aF aC dk bQ bb aq bA cz ak aP cB
      rw[List.length_map,show decide (((t.kids.length:Nat):Int)<((t.kids.length:Nat):Int))=false by simp,cond_false]
      by_cases hx0:x.kind=0
      ·by_cases hq:x.num=0
       ·refine⟨bif y then .lam A (.app f x)else aZ (.var 0) f 0,by cases y<;>simp,?_⟩
        refine(ab hw).trans ?_
        simp only[List.getD_cons_zero,aL,bz,cond_true,Option.bind_some,cV,dh,fT,BH,sL,yi,bne_self_eq_false,cond_false,sM,Ev,nE,rr,uD,oG,nF,gf,gI,jz,jA,jC,cK]
        refine(ab hy).trans ?_
        simp only[gf,gI,hx0,hq,fT,iD,Option.bind_some,bne_self_eq_false,cond_false,List.getD_cons_zero,Int.ofNat_zero,show(((0:Nat):Int) != 0)=false from rfl]
        cases y with
        |true=>rfl
        |false=>
         simp only[cond_false,BH,Option.bind_some,nE,uD,cond_true,oG,gf,gI,jz,jA,jC,cK]
         refine(ab (yh 0 σ)).trans ?_
         refine(ab hs).trans ?_
         rfl
       ·refine⟨_,.inl rfl,?_⟩
        refine(ab hw).trans ?_
        simp only[List.getD_cons_zero,aL,bz,cond_true,Option.bind_some,cV,dh,fT,BH,sL,yi,bne_self_eq_false,cond_false,sM,Ev,nE,rr,uD,oG,nF,gf,gI,jz,jA,jC,cK]
        refine(ab hy).trans ?_
        have hq':((x.num:Int) != (0:Int))=true:=by rw[bne_iff_ne];omega
        simp only[gf,gI,hx0,fT,Option.bind_some,bne_self_eq_false,cond_false,hq',cond_true]
        rfl
      ·refine⟨_,.inl rfl,?_⟩
       refine(ab hw).trans ?_
       simp only[List.getD_cons_zero,aL,bz,cond_true,Option.bind_some,cV,dh,fT,BH,sL,yi,bne_self_eq_false,cond_false,sM,Ev,nE,rr,uD,oG,nF,gf,gI,jz,jA,jC,cK]
       refine(ab hy).trans ?_
       have w7:(x.kind != (0:Int))=true:=by rw[bne_iff_ne];exact hx0
       simp only[gf,fT,Option.bind_some,w7,cond_true]
       rfl
     obtain⟨v,hv,hr⟩:=key
     refine⟨v,?_,?_⟩
     ·unfold tU bo aE aM bJ jq ae iz bp aF aC dk bQ bb aq bA cz ak aP cB at hr
      rw[List.length_map,show decide (((t.kids.length:Nat):Int)<((t.kids.length:Nat):Int))=false by simp,cond_false]at hr
      exact hr
     ·rcases hv with rfl|rfl
      ·exact rp
      ·exact⟨by have:=rp.top;have:=jP.top;simp only[Tm.top]at*;omega,by have:=rp.wide;have:=jP.wide;simp only[Tm.wide]at*;omega,by have:=rp.depth;have:=jP.depth;simp only[Tm.depth]at*;omega,by have:=rp.lz;have:=jP.lz;simp only[Tm.lz]at*;omega⟩
    ·refine⟨_,?_,rp⟩
     refine(ab hw).trans ?_
     have hB':(B.kind != (3:Int))=true:=by rw[bne_iff_ne];exact hB
     simp only[List.getD_cons_zero,aL,bz,cond_true,Option.bind_some,cV,dh,fT,BH,sL,yi,bne_self_eq_false,cond_false,sM,nE,rr,nF,gf,hB']
     rfl
   ·refine⟨_,?_,rp⟩
    refine(ab hw).trans ?_
    have W5:(u.kind != (4:Int))=true:=by rw[bne_iff_ne];exact hk
    simp only[List.getD_cons_zero,aL,bz,cond_true,Option.bind_some,cV,fT,W5]
    rfl
theorem Ew (σ:az):∀t:Tm,t.depth<2^48→t.top<2^49→∃u:Tm,ah C 248 [(t.val,false)] σ=some (.ret [(u.val,false)],σ)∧Pa u t:=
 Tm.ind fun t ih hp ht=>by
  have h3:=lC t
  obtain⟨u,h1,h2⟩:=A9 (N:=10) t hp ht (σ:=σ) (fun c hc=>ih c hc (by have:=(jy hc).1;omega) (by have:=(jy hc).2;omega)) 10 0 [] (Nat.zero_le _) (by omega) rfl (by simp) (t0:=0) (t1:=0) (t2:=ByteArray.mk #[]) (t3:=[]) (t4:=[])
  exact⟨u,Ru (n:=10) h1,h2⟩
end Go.Ab.Mk
end
