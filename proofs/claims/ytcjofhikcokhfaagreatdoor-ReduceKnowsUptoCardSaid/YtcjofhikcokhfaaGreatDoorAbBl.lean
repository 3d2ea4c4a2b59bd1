/- What keeps the blocks of old keeps what is known of the store. -/
import Derived.Test.YtcjofhikcokhfaaGreatDoorProg
import Derived.Test.YtcjofhikcokhfaaGreatDoorAbMp
import Derived.Test.YtcjofhikcokhfaaGreatDoorAbOps
import Derived.Shelf.Strconv.Itoa3
import Derived.Laws.IdiomStrings
import Derived.WalkKit
import Derived.RegionTactic
set_option linter.unusedSimpArgs false
set_option linter.unusedVariables false
set_option linter.deprecated false
section
namespace Go.Proofs
open Go.RowKit Go.Ab
set_option maxRecDepth 100000
set_option maxHeartbeats 1000000
def Mk.Zk (w:World) (ds:List UInt8):Ending→World→Prop:=fun e w'=>e=.returned (.string ⟨ds.toArray⟩)∧Below w.heap.size w w'
end Go.Proofs
end
section
namespace Go.Ab
structure qZ (B:Nat) (G:Gh) (w:World) (G':Gh) (w':World):Prop where
 N:G.N≤G'.N
 μ:∀b,b<G.N→G'.μ b=G.μ b
 ty:∀b,b<G.N→G'.ty b=G.ty b
 ah:∀b,G.ah b≤G'.ah b
 fE:∀b o,o<G.ah b→fE w' b o=fE w b o
 os:w'.os=w.os
 tape:w'.tape=w.tape
 output:w'.output=w.output
 size:w.heap.size≤w'.heap.size
 rv:∀i,i<B→G.owner i=none→w'.heap[i]?=w.heap[i]?∧G'.ah i=G.ah i∧G'.owner i=none
theorem Ext.toB {B:Nat} {G G':Gh} {w w':World} (h:Ext G w G' w') (hB:B≤w.heap.size):qZ B G w G' w':=
 ⟨h.N,h.μ,h.ty,h.ah,h.fE,h.os,h.tape,h.output,h.size,fun i hi ho=>h.rv i (Nat.lt_of_lt_of_le hi hB) ho⟩
theorem qZ.PD {G G':Gh} {w w':World} (h:qZ w.heap.size G w G' w'):Ext G w G' w':=
 ⟨h.N,h.μ,h.ty,h.ah,h.fE,h.os,h.tape,h.output,h.size,h.rv⟩
theorem qZ.trans {B:Nat} {G G1 G2:Gh} {w w1 w2:World} (h:qZ B G w G1 w1) (k:qZ B G1 w1 G2 w2):qZ B G w G2 w2 where
 N:=Nat.le_trans h.N k.N
 μ b hb:=(k.μ b (Nat.lt_of_lt_of_le hb h.N)).trans (h.μ b hb)
 ty b hb:=(k.ty b (Nat.lt_of_lt_of_le hb h.N)).trans (h.ty b hb)
 ah b:=Nat.le_trans (h.ah b) (k.ah b)
 fE b o ho:=(k.fE b o (Nat.lt_of_lt_of_le ho (h.ah b))).trans (h.fE b o ho)
 os:=k.os.trans h.os
 tape:=k.tape.trans h.tape
 output:=k.output.trans h.output
 size:=Nat.le_trans h.size k.size
 rv i hi ho:=by
  obtain⟨a1,a2,a3⟩:=h.rv i hi ho
  obtain⟨b1,b2,b3⟩:=k.rv i hi a3
  exact⟨b1.trans a1,b2.trans a2,b3⟩
structure Cd (a b:Nat) (w w':World):Prop where
 os:w'.os=w.os
 tape:w'.tape=w.tape
 output:w'.output=w.output
 size:w'.heap.size=w.heap.size
 heap:∀i,i≠a→i≠b→w'.heap[i]?=w.heap[i]?
theorem Cd.refl (a b:Nat) (w:World):Cd a b w w:=⟨rfl,rfl,rfl,rfl,fun _ _ _=>rfl⟩
theorem Cd.setCell {a b:Nat} {w w':World} (h:Cd a b w w') (p:Addr) (hp:p.block=a∨p.block=b) (v:Value):Cd a b w (w'.setCell p v):=by
 refine⟨h.os,h.tape,h.output,by simp[World.setCell];exact h.size,fun i h1 h2=>?_⟩
 rw[←h.heap i h1 h2]
 show(w'.heap.modify p.block _)[i]?=_
 rw[Array.getElem?_modify,if_neg (by rintro rfl;rcases hp with hp|hp<;>contradiction)]
section
variable {gl:Nat→Option (List V)} {G:Gh} {w w':World} {σ:az} {a b:Nat}
theorem Cd.rel (h:Cd a b w w') (la:G.ah a=0) (lb:G.ah b=0) {v:V} {c:Value} (hr:Rel G w v c):Rel G w' v c:=by
 have hcell:∀i o,o<G.ah i→fE w' i o=fE w i o:=fun i o ho=>eH (h.heap i (by rintro rfl;omega) (by rintro rfl;omega)) o
 let G1:Gh:={G with owner:=fun _=>some (.res 0)}
 have e:Ext G1 w G1 w':=⟨Nat.le_refl _,fun _ _=>rfl,fun _ _=>rfl,fun _=>Nat.le_refl _,hcell,h.os,h.tape,h.output,by rw[h.size];exact Nat.le_refl _,fun i _ ho=>by simp[G1]at ho⟩
 have:=(fx hr (fun _=>some (.res 0))).mono (G':=G1) e
 exact fx this G.owner
theorem Cd.vj (h:Cd a b w w') (la:G.ah a=0) (lb:G.ah b=0) (oa:G.owner a=none) (ob:G.owner b=none) (hS:dR gl G w σ):dR gl G w' σ:=by
 have eJ:∀i p,G.owner i=some p→w'.heap[i]?=w.heap[i]?:=fun i p hp=>h.heap i (by rintro rfl;rw[oa]at hp;simp at hp) (by rintro rfl;rw[ob]at hp;simp at hp)
 have ja:∀(p:Place) (v:V) (c:Value),Own G w p v c→Own G w' p v c:=by
  intro p v c hh
  exact hh.move (fun hr=>h.rel la lb hr) fun i hi=>⟨eJ i p hi,rfl,hi⟩
 refine⟨fun i hi=>hS.wf i (by rw[h.size]at hi;exact hi),fun g cs hg=>h.rel la lb (hS.bN g cs hg),hS.N,fun k hk=>?_,fun k cs hk=>?_,fun g cs hg=>(by
  obtain⟨k1,k2,cv,el,fr,k3,k4⟩:=hS.PE g cs hg
  exact⟨k1,k2,cv,el,fr,(h.heap g (by rintro rfl;omega) (by rintro rfl;omega)).trans k3,k4⟩)⟩
 ·obtain⟨cv,fr,q1⟩:=hS.typed k hk
  obtain⟨_,_,_,_,q3,_⟩:=hS.eZ k σ[k] (List.getElem?_eq_getElem hk)
  exact⟨cv,fr,by rw[eJ _ _ q3];exact q1⟩
 ·obtain⟨cv,el,g1,g2,g3,g4,g5⟩:=hS.eZ k cs hk
  exact⟨cv,el,by rw[eJ _ _ g3];exact g1,g2,g3,g4,fun j c x hc hx=>⟨⟨h.rel la lb (g5 j c x hc hx).1.1,fun hf=>ja _ _ _ ((g5 j c x hc hx).1.2 hf)⟩,(g5 j c x hc hx).2⟩⟩
theorem Cd.JS {B:Nat} (h:Cd a b w w') (la:G.ah a=0) (lb:G.ah b=0) (ha:B≤a) (hb:B≤b):qZ B G w G w':=
 ⟨Nat.le_refl _,fun _ _=>rfl,fun _ _=>rfl,fun _=>Nat.le_refl _,fun i o ho=>eH (h.heap i (by rintro rfl;omega) (by rintro rfl;omega)) o,h.os,h.tape,h.output,by rw[h.size];exact Nat.le_refl _,fun i hi ho=>⟨h.heap i (by omega) (by omega),rfl,ho⟩⟩
end
section
variable {G:Gh} {w:World} {σ:az} {gl:Nat→Option (List V)}
end
section
end
end Go.Ab
end
section
namespace Go.Ab
structure nB (n0:Nat) (G:Gh) (i:Nat):Prop where
 ge:n0≤i
 ah:G.ah i=0
 own:G.owner i=none
structure gF (n0:Nat) (G:Gh) (w w':World):Prop where
 os:w'.os=w.os
 tape:w'.tape=w.tape
 output:w'.output=w.output
 size:w.heap.size≤w'.heap.size
 heap:∀i,i<w.heap.size→¬nB n0 G i→w'.heap[i]?=w.heap[i]?
section
variable {n0:Nat} {G:Gh} {w w' w'':World} {gl:Nat→Option (List V)} {σ:az}
theorem gF.refl (n0:Nat) (G:Gh) (w:World):gF n0 G w w:=⟨rfl,rfl,rfl,Nat.le_refl _,fun _ _ _=>rfl⟩
theorem gF.trans (h:gF n0 G w w') (k:gF n0 G w' w''):gF n0 G w w'':=
 ⟨k.os.trans h.os,k.tape.trans h.tape,k.output.trans h.output,Nat.le_trans h.size k.size,fun i hi hn=>(k.heap i (Nat.lt_of_lt_of_le hi h.size) hn).trans (h.heap i hi hn)⟩
theorem gF.setCell (h:gF n0 G w w') (p:Addr) (hp:p.block<w.heap.size→nB n0 G p.block) (v:Value):gF n0 G w (w'.setCell p v):=by
 refine⟨h.os,h.tape,h.output,by simp[World.setCell];exact h.size,fun i hi hn=>?_⟩
 rw[←h.heap i hi hn]
 show(w'.heap.modify p.block _)[i]?=_
 rw[Array.getElem?_modify,if_neg (by rintro rfl;exact hn (hp hi))]
theorem gF.alloc (h:gF n0 G w w') (o:Obj):gF n0 G w (w'.alloc o):=
 ⟨h.os,h.tape,h.output,by show w.heap.size≤(w'.heap.push o).size;rw[Array.size_push];exact Nat.le_succ_of_le h.size,fun i hi hn=>by rw[aO (Nat.lt_of_lt_of_le hi h.size)];exact h.heap i hi hn⟩
theorem gF.wT (h:RowKit.Below w.heap.size w w'):gF n0 G w w':=⟨h.os,h.tape,h.output,h.size,fun i hi _=>h.block i hi⟩
theorem gF.wf (h:gF n0 G w w') (hw:WF G w):WF G w':=fun i hi=>hw i (Nat.le_trans h.size hi)
theorem gF.rel (h:gF n0 G w w') (hw:WF G w) {v:V} {c:Value} (hr:Rel G w v c):Rel G w' v c:=by
 have hcell:∀i o,o<G.ah i→fE w' i o=fE w i o:=fun i o ho=>eH (h.heap i (vm hw ho) (fun hm=>by have:=hm.ah;omega)) o
 let G1:Gh:={G with owner:=fun _=>some (.res 0)}
 have e:Ext G1 w G1 w':=⟨Nat.le_refl _,fun _ _=>rfl,fun _ _=>rfl,fun _=>Nat.le_refl _,hcell,h.os,h.tape,h.output,h.size,fun i _ ho=>by simp[G1]at ho⟩
 exact fx ((fx hr (fun _=>some (.res 0))).mono (G':=G1) e) G.owner
theorem gF.own (h:gF n0 G w w') (hw:WF G w) {p:Place} {v:V} {c:Value} (ho:Own G w p v c):Own G w' p v c:=
 ho.move (fun hr=>h.rel hw hr) fun i hi=>⟨h.heap i (fV hw hi) (fun hm=>by rw[hm.own]at hi;simp at hi),rfl,hi⟩
theorem gF.vj (h:gF n0 G w w') (hS:dR gl G w σ):dR gl G w' σ:=by
 have eJ:∀i p,G.owner i=some p→w'.heap[i]?=w.heap[i]?:=fun i p hp=>h.heap i (fV hS.wf hp) (fun hm=>by rw[hm.own]at hp;simp at hp)
 refine⟨h.wf hS.wf,fun g cs hg=>h.rel hS.wf (hS.bN g cs hg),hS.N,fun k hk=>?_,fun k cs hk=>?_,fun g cs hg=>(by
  obtain⟨k1,k2,cv,el,fr,k3,k4⟩:=hS.PE g cs hg
  exact⟨k1,k2,cv,el,fr,(h.heap g (Array.getElem?_eq_some_iff.1 k3).1 (fun hm=>by have:=hm.ah;omega)).trans k3,k4⟩)⟩
 ·obtain⟨cv,fr,q1⟩:=hS.typed k hk
  obtain⟨_,_,_,_,q3,_⟩:=hS.eZ k σ[k] (List.getElem?_eq_getElem hk)
  exact⟨cv,fr,by rw[eJ _ _ q3];exact q1⟩
 ·obtain⟨cv,el,g1,g2,g3,g4,g5⟩:=hS.eZ k cs hk
  exact⟨cv,el,by rw[eJ _ _ g3];exact g1,g2,g3,g4,fun j c x hc hx=>⟨⟨h.rel hS.wf (g5 j c x hc hx).1.1,fun hf=>h.own hS.wf ((g5 j c x hc hx).1.2 hf)⟩,(g5 j c x hc hx).2⟩⟩
theorem gF.JS (h:gF n0 G w w') (hw:WF G w) (hn:n0≤w.heap.size):qZ n0 G w G w':=
 ⟨Nat.le_refl _,fun _ _=>rfl,fun _ _=>rfl,fun _=>Nat.le_refl _,fun i o ho=>eH (h.heap i (vm hw ho) (fun hm=>by have:=hm.ah;omega)) o,h.os,h.tape,h.output,h.size,
  fun i hi ho=>⟨h.heap i (by omega) (fun hm=>by have:=hm.ge;omega),rfl,ho⟩⟩
theorem nB.ext {G':Gh} {i:Nat} (h:nB n0 G i) (e:Ext G w G' w') (hi:i<w.heap.size):nB n0 G' i∧w'.heap[i]?=w.heap[i]?:=by
 obtain⟨a1,a2,a3⟩:=e.rv i hi h.own
 exact⟨⟨h.ge,by rw[a2];exact h.ah,a3⟩,a1⟩
theorem nB.new {i:Nat} (hw:WF G w) (hn:n0≤w.heap.size) (hi:w.heap.size≤i):nB n0 G i:=⟨Nat.le_trans hn hi,(hw i hi).1,(hw i hi).2⟩
def Gh.settle (G:Gh) (r n:Nat):Gh:={G with ah:=fun i=>if i=r then n else G.ah i}
theorem Gh.vn {r n:Nat} (h:nB n0 G r):qZ n0 G w (G.settle r n) w:=
 ⟨Nat.le_refl _,fun _ _=>rfl,fun _ _=>rfl,fun i=>(by
  show G.ah i≤if i=r then n else G.ah i
  split
  ·rename_i e;subst e;have:=h.ah;omega
  ·exact Nat.le_refl _),fun _ _ _=>rfl,rfl,rfl,rfl,Nat.le_refl _,
  fun i hi ho=>⟨rfl,(by
   show(if i=r then n else G.ah i)=G.ah i
   rw[if_neg (by rintro rfl;have:=h.ge;omega)]),ho⟩⟩
theorem Gh.kq {r n:Nat} (h:G.ah r=0) {v:V} {c:Value} (hr:Rel G w v c):Rel (G.settle r n) w v c:=by
 let G1:Gh:={G with owner:=fun _=>some (.res 0)}
 let G2:Gh:={G.settle r n with owner:=fun _=>some (.res 0)}
 have e:Ext G1 w G2 w:=⟨Nat.le_refl _,fun _ _=>rfl,fun _ _=>rfl,fun i=>by
  show G.ah i≤if i=r then n else G.ah i
  split
  ·rename_i e;subst e;omega
  ·exact Nat.le_refl _,fun _ _ _=>rfl,rfl,rfl,rfl,Nat.le_refl _,fun i _ ho=>by simp[G1]at ho⟩
 exact fx ((fx hr (fun _=>some (.res 0))).mono (G':=G2) e) G.owner
theorem Gh.rz {r n:Nat} (h:nB n0 G r) (hr:r<w.heap.size) (hS:dR gl G w σ):dR gl (G.settle r n) w σ:=by
 refine⟨fun i hi=>⟨?_,(hS.wf i hi).2⟩,fun g cs hg=>Gh.kq h.ah (hS.bN g cs hg),hS.N,hS.typed,fun k cs hk=>?_,fun g cs hg=>(by
  obtain⟨k1,k2,cv,el,fr,k3,k4⟩:=hS.PE g cs hg
  refine⟨k1,?_,cv,el,fr,k3,k4⟩
  show 0<if g=r then n else G.ah g
  rw[if_neg (by rintro rfl;have:=h.ah;omega)]
  exact k2)⟩
 ·show(if i=r then n else G.ah i)=0
  rw[if_neg (by omega)]
  exact(hS.wf i hi).1
 ·obtain⟨cv,el,g1,g2,g3,g4,g5⟩:=hS.eZ k cs hk
  refine⟨cv,el,g1,g2,g3,?_,fun j c x hc hx=>⟨⟨Gh.kq h.ah (g5 j c x hc hx).1.1,fun hf=>?_⟩,(g5 j c x hc hx).2⟩⟩
  ·show(if G.μ k=r then n else G.ah (G.μ k))=0
   rw[if_neg (by intro e;rw[e,h.own]at g3;simp at g3)]
   exact g4
  ·refine Own.move ((g5 j c x hc hx).1.2 hf) (fun hr=>Gh.kq h.ah hr) fun i hi=>⟨rfl,?_,hi⟩
   show(if i=r then n else G.ah i)=G.ah i
   rw[if_neg (by rintro rfl;rw[h.own]at hi;simp at hi)]
theorem BK {cs:List V} {xs:List Value} (hl:xs.length=cs.length) (h1:∀x∈xs,x.oneCell'=true) (h:∀(i:Nat) (v:V) (x:Value),cs[i]?=some v→xs[i]?=some x→Rel G w v x):Rel G w (.agg cs) (.agg xs.toArray):=
 .agg cs xs hl (fun i x hx=>h1 x (List.mem_of_getElem? hx)) h
end
end Go.Ab
end
section
namespace Go.Ab
open Go.RowKit
theorem vq {gl:Nat→Option (List V)} {G:Gh} {w w':World} {σ:az} (h:dR gl G w σ) (hB:RowKit.Below w.heap.size w w'):Ext G w G w'∧dR gl G w' σ:=by
 have e:Ext G w G w':=⟨Nat.le_refl _,fun _ _=>rfl,fun _ _=>rfl,fun _=>Nat.le_refl _,fun b o ho=>eH (hB.block b (vm h.wf ho)) o,hB.os,hB.tape,hB.output,hB.size,fun i hi ho=>⟨hB.block i hi,rfl,ho⟩⟩
 refine⟨e,fun i hi=>h.wf i (Nat.le_trans hB.size hi),fun g cs hg=>(h.bN g cs hg).mono e,h.N,fun b hb=>?_,fun b cs hb=>?_,h.PE.mono e⟩
 ·obtain⟨cv,fr,q1⟩:=h.typed b hb
  obtain⟨_,_,_,_,q3,_⟩:=h.eZ b σ[b] (List.getElem?_eq_getElem hb)
  exact⟨cv,fr,by rw[hB.block _ (fV h.wf q3)];exact q1⟩
 ·obtain⟨cv,el,g1,g2,g3,g4,g5⟩:=h.eZ b cs hb
  refine⟨cv,el,by rw[hB.block _ (fV h.wf g3)];exact g1,g2,g3,g4,fun j c x hc hx=>?_⟩
  obtain⟨e1,e2⟩:=g5 j c x hc hx
  exact⟨e1.move e fun _ i hi=>⟨hB.block i (fV h.wf hi),rfl,hi⟩,e2⟩
end Go.Ab
end
