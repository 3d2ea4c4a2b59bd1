/- The program's environments, walked: Put. -/
import Derived.Test.YtcjofhikcokhfaaGreatDoorProg
import Derived.Test.YtcjofhikcokhfaaGreatDoorAbMk0
import Derived.Laws.OwnMore
import Derived.Deep.RegionHeld3
import Derived.OwnWalk
import Derived.WalkKit
import Derived.Test.YtcjofhikcokhfaaGreatDoorAbKn3
import Derived.Test.YtcjofhikcokhfaaGreatDoorAbBl
import Derived.Deep.LoopGhost
import Derived.Lib.SliceRun
import Derived.Deep.DeepCutAuto
set_option linter.unusedSimpArgs false
set_option linter.unusedVariables false
set_option linter.deprecated false
section
namespace Go.Ab
open Go.RowKit Go.Proofs
set_option maxRecDepth 100000
set_option maxHeartbeats 2000000
theorem qN {P:Program} {ops:Array Oper} {o:Oper} {a:Act} {w:World} {K:Act→World→Prop} {Q:Exit→Act→World→Prop} {E:Prop} (hgd:o.guard=none) (s x:Operand) (t:TypeId)
  (ho:o.op=.call {callee:=.builtin .append,args:=#[s,x],argTypes:=#[t,t]})
  (base:Nat) (e:TypeId) (i:TypeInfo) (z:Value) (size bytes:Nat) (ht:P.underlying t=some (.slice e)) (hi:P.info? e=some i) (hz:i.zero=some z)
  (J2:i.size=size) (hby:i.bytes=bytes) (hzs:z.cells.size=size) (iM:0<size)
  (v:Value) (n:Nat) (xs:List Value) (hs:a.eval s=v) (ja:w.ownsRow base e size v n xs)
  (ad:Addr) (m c:Nat) (news:List Value) (hx:a.eval x=.slice (some ad) m c) (hl:news.length=m*size) (Gi:∀j u,news[j]?=some u→w.cell? (ad.add j)=some u) (h1:∀u∈news,u.oneCell'=true)
  (h63:n+m≤maxLen) (pI:(n+m)*bytes≤140737488355328) (abV:base≤w.heap.size)
  (h:∀v' w',w'.ownsRow base e size v' (n+m) (xs++news)→w.grownBy w' v.ownBlock→(v'=.slice none 0 0↔v=.slice none 0 0∧m=0)→(v'.ownBlock=v.ownBlock∨v'.ownBlock=some w.heap.size)→K (a.put o.dst v') w'):
  if Region.wanted o (yielded ops a.tmps)=true then Oper.wp P o a w K Q else E:=by
 have hw:Region.wanted o (yielded ops a.tmps)=true:=by simp[Region.wanted,hgd]
 rw[if_pos hw]
 obtain⟨v',w',hr,h2,h3,h4,h5⟩:=run_append_own_at (P:=P) w base t o.type e i z size bytes ht hi hz J2 hby hzs iM v n xs ja ad m c news hl Gi h1 h63 pI abV
 unfold Oper.wp execOp
 simp only[ho,resolve,invoke,builtin,Sem.run_bind,Sem.run_pure,Result.andThen_ok,List.map_toArray,List.map_cons,List.map_nil,hs,hx,hr]
 exact h v' w' h2 h3 h4 h5
theorem iU {w w':World} {base:Nat} {e:TypeId} {size:Nat} {v:Value} {n:Nat} {xs:List Value} (h:w.ownsRow base e size v n xs) (hh:∀i,v.ownBlock=some i→w'.heap[i]?=w.heap[i]?):w'.ownsRow base e size v n xs:=by
 refine⟨h.1,?_⟩
 rcases h.2 with h|⟨g,cap,cur,q1,q2,q3,q4⟩
 ·exact .inl h
 ·exact .inr ⟨g,cap,cur,q1,q2,(hh g (by rw[q1];rfl)).trans q3,q4⟩
theorem Mk.XQ:(Tryz.prog.info? 53).map (fun i=>(i.zero,i.size,i.bytes))=some (some (.agg #[.int .i64 0,.int .i64 0,.string ⟨#[]⟩,.slice none 0 0,.slice none 0 0]),5,80):=by kernel_rfl
theorem Mk.fI {w:World} {b:Nat} {cv:Array Value} {el:TypeId} (h:w.heap[b]?=some (.cells cv el (0,0))) (o:Nat):w.frozen? ⟨b,o,none⟩=false:=by simp[World.frozen?,h]
theorem Mk.CR {w:World} {base:Nat} {e:TypeId} {size:Nat} {v:Value} {n:Nat} {xs:List Value} (h:w.ownsRow base e size v (n+1) xs):∃g cap,v=.slice (some ⟨g,0,none⟩) (n+1) cap:=by
 rcases h.2 with⟨_,h⟩|⟨g,cap,cur,h,_⟩
 ·omega
 ·exact⟨g,cap,h⟩
theorem Mk.XR {w:World} {base:Nat} {e:TypeId} {g cap n:Nat} {xs:List Value} {u0 u1 u2 u3 u4:Value} (h:w.ownsRow base e 5 (.slice (some ⟨g,0,none⟩) (n+1) cap) (n+1) (xs++[u0,u1,u2,u3,u4])):
  w.cell? ⟨g,n*5,none⟩=some u0∧w.cell? ⟨g,n*5+1,none⟩=some u1∧w.cell? ⟨g,n*5+2,none⟩=some u2∧w.cell? ⟨g,n*5+3,none⟩=some u3∧w.cell? ⟨g,n*5+4,none⟩=some u4:=by
 have hl:=h.1
 simp only[List.length_append,List.length_cons,List.length_nil]at hl
 have hx:xs.length=n*5:=by omega
 have key:∀j u,j<5→[u0,u1,u2,u3,u4][j]?=some u→w.cell? ⟨g,n*5+j,none⟩=some u:=fun j u hj hu=>by
  rw[h.cellAt (n*5+j) (by omega),List.getElem?_append_right (by omega),hx,Nat.add_sub_cancel_left]
  exact hu
 exact⟨key 0 _ (by omega) rfl,key 1 _ (by omega) rfl,key 2 _ (by omega) rfl,key 3 _ (by omega) rfl,key 4 _ (by omega) rfl⟩
theorem Mk.XS {w:World} {base:Nat} {e:TypeId} {g cap n:Nat} {xs:List Value} (h:w.ownsRow base e 5 (.slice (some ⟨g,0,none⟩) (n+1) cap) (n+1) xs):
  w.frozen? ⟨g,n*5,none⟩=false∧w.frozen? ⟨g,n*5+1,none⟩=false∧w.frozen? ⟨g,n*5+2,none⟩=false∧w.frozen? ⟨g,n*5+3,none⟩=false∧w.frozen? ⟨g,n*5+4,none⟩=false:=
 ⟨h.frozenAt _,h.frozenAt _,h.frozenAt _,h.frozenAt _,h.frozenAt _⟩
structure Mk.aau (w:World) (rb:Nat) (cv:Array Value) (el:TypeId) (v:Value) (n:Nat) (xs ys:List Value) (w':World):Prop where
 ex:∃v',w'.ownsRow 0 53 5 v' (n+1) (xs++ys)∧(∃g,v'.ownBlock=some g∧(v.ownBlock=some g∨w.heap.size≤g)∧g<w'.heap.size)∧w'.heap[rb]?=some (.cells (cv.setIfInBounds 16 v') el (0,0))
 heap:∀i,i<w.heap.size→i≠rb→v.ownBlock≠some i→w'.heap[i]?=w.heap[i]?
 os:w'.os=w.os
 tape:w'.tape=w.tape
 output:w'.output=w.output
 size:w.heap.size≤w'.heap.size
def Mk.five (W:World) (g o:Nat) (y0 y1 y2 y3 y4:Value):World:=((((W.setCell ⟨g,o,none⟩ y0).setCell ⟨g,o+1,none⟩ y1).setCell ⟨g,o+2,none⟩ y2).setCell ⟨g,o+3,none⟩ y3).setCell ⟨g,o+4,none⟩ y4
section
variable {W:World} {g o:Nat} {y0 y1 y2 y3 y4:Value}
theorem Mk.ej (p:Addr) (v:Value):(W.setCell p v).heap.size=W.heap.size:=by simp[World.setCell]
theorem Mk.oS {k:Nat} (h:k≠g):(Mk.five W g o y0 y1 y2 y3 y4).heap[k]?=W.heap[k]?:=by
 unfold Mk.five
 rw[heap_setCell_other _ _ _ _ h,heap_setCell_other _ _ _ _ h,heap_setCell_other _ _ _ _ h,heap_setCell_other _ _ _ _ h,heap_setCell_other _ _ _ _ h]
theorem Mk.tI:(Mk.five W g o y0 y1 y2 y3 y4).heap.size=W.heap.size:=by simp only[Mk.five,Mk.ej]
theorem Mk.tJ:(Mk.five W g o y0 y1 y2 y3 y4).os=W.os∧(Mk.five W g o y0 y1 y2 y3 y4).tape=W.tape∧(Mk.five W g o y0 y1 y2 y3 y4).output=W.output:=⟨rfl,rfl,rfl⟩
theorem Mk.kE (p:Addr) (v:Value):(W.setCell p v).os=W.os∧(W.setCell p v).tape=W.tape∧(W.setCell p v).output=W.output:=⟨rfl,rfl,rfl⟩
theorem Mk.adq (xs:List Value) (z0 z1 z2 z3 z4:Value) {n:Nat} (h:xs.length=n):(((((xs++[z0,z1,z2,z3,z4]).set n y0).set (n+1) y1).set (n+2) y2).set (n+3) y3).set (n+4) y4=xs++[y0,y1,y2,y3,y4]:=by
 subst h
 rw[List.set_append_right _ _ (by omega),List.set_append_right _ _ (by omega),List.set_append_right _ _ (by omega),List.set_append_right _ _ (by omega),List.set_append_right _ _ (by omega)]
 simp
theorem Mk.Ku {e:TypeId} {n cap:Nat} {xs:List Value} {z0 z1 z2 z3 z4:Value} (h:W.ownsRow 0 e 5 (.slice (some ⟨g,0,none⟩) (n+1) cap) (n+1) (xs++[z0,z1,z2,z3,z4])):
  (Mk.five W g (n*5) y0 y1 y2 y3 y4).ownsRow 0 e 5 (.slice (some ⟨g,0,none⟩) (n+1) cap) (n+1) (xs++[y0,y1,y2,y3,y4]):=by
 have hl:=h.1
 simp only[List.length_append,List.length_cons,List.length_nil]at hl
 have:=(((((h.stored (n*5) y0).1.stored (n*5+1) y1).1.stored (n*5+2) y2).1.stored (n*5+3) y3).1.stored (n*5+4) y4).1
 have hx:xs.length=n*5:=by omega
 rw[Mk.adq xs z0 z1 z2 z3 z4 hx]at this
 unfold Mk.five
 exact this
end
theorem Mk.XT {w w1:World} {rb g cap n:Nat} {cv:Array Value} {el:TypeId} {v:Value} {xs:List Value} {o1 o2:Obj} {y0 y1 y2 y3 y4 z0 z1 z2 z3 z4:Value} (aG:∀i,v.ownBlock=some i→i<w.heap.size) (lrb:rb<w.heap.size)
  (h:w1.ownsRow 0 53 5 (.slice (some ⟨g,0,none⟩) (n+1) cap) (n+1) (xs++[z0,z1,z2,z3,z4])) (hg:((w.alloc o1).drew.alloc o2).grownBy w1 v.ownBlock) (q1:w1.heap[rb]?=some (.cells cv el (0,0)))
  (CJ:(Value.slice (some ⟨g,0,none⟩) (n+1) cap).ownBlock=v.ownBlock∨(Value.slice (some ⟨g,0,none⟩) (n+1) cap).ownBlock=some ((w.alloc o1).drew.alloc o2).heap.size) (r1:g≠rb):
  Mk.aau w rb cv el v n xs [y0,y1,y2,y3,y4] ((Mk.five w1 g (n*5) y0 y1 y2 y3 y4).setCell ⟨rb,16,none⟩ (.slice (some ⟨g,0,none⟩) (n+1) cap))∧
  Mk.aau w rb cv el v n xs [y0,y1,y2,y3,y4] (Mk.five (w1.setCell ⟨rb,16,none⟩ (.slice (some ⟨g,0,none⟩) (n+1) cap)) g (n*5) y0 y1 y2 y3 y4):=by
 have hs:((w.alloc o1).drew.alloc o2).heap.size=w.heap.size+2:=by show((w.heap.push _).push _).size=_;rw[Array.size_push,Array.size_push]
 have iM:=hg.size
 rw[hs]at iM CJ
 have yN:g<w1.heap.size:=by
  rcases h.2 with⟨q,_⟩|⟨g',J3,cur,q,_,q2,_⟩
  ·simp at q
  ·simp only[Value.slice.injEq,Option.some.injEq,Addr.mk.injEq,and_true,true_and]at q
   obtain⟨rfl,rfl⟩:=q
   exact(Array.getElem?_eq_some_iff.1 q2).1
 have jR:v.ownBlock=some g∨w.heap.size≤g:=by
  rcases CJ with e|e
  ·exact .inl e.symm
  ·have:g=w.heap.size+2:=Option.some.inj e
   omega
 have rv:∀i,i<w.heap.size→v.ownBlock≠some i→w1.heap[i]?=w.heap[i]?:=fun i hi hv=>by
  refine(hg.block i (by omega) (fun e=>hv e.symm)).trans ?_
  have h2:i<(w.alloc o1).drew.heap.size:=by show i<(w.heap.push o1).size;rw[Array.size_push];omega
  exact(aO h2).trans (aO hi)
 have eJ:∀i,i<w.heap.size→v.ownBlock≠some i→i≠g:=fun i hi hv=>by
  rintro rfl
  rcases jR with e|e
  ·exact hv e
  ·omega
 have r1':rb≠g:=fun e=>r1 e.symm
 have W8:w1.os=w.os:=hg.os
 have htp:w1.tape=w.tape:=hg.tape
 have Zt:w1.output=w.output:=hg.output
 have abW:w.heap.size≤w1.heap.size:=by omega
 clear hg CJ iM hs
 constructor
 ·refine⟨⟨_,iU (Mk.Ku h) (fun i hi=>?_),⟨g,rfl,jR,by rw[Mk.ej,Mk.tI];exact yN⟩,?_⟩,fun i hi hr hv=>?_,by rw[(Mk.kE _ _).1,Mk.tJ.1];exact W8,by rw[(Mk.kE _ _).2.1,Mk.tJ.2.1];exact htp,by rw[(Mk.kE _ _).2.2,Mk.tJ.2.2];exact Zt,by rw[Mk.ej,Mk.tI];exact abW⟩
  ·obtain rfl:g=i:=Option.some.inj hi
   exact heap_setCell_other _ _ _ _ r1
  ·exact heap_setCell_same _ _ _ _ _ _ ((Mk.oS r1').trans q1)
  ·rw[heap_setCell_other _ _ _ _ hr,Mk.oS (eJ i hi hv),rv i hi hv]
 ·refine⟨⟨_,Mk.Ku (iU h (fun i hi=>?_)),⟨g,rfl,jR,by rw[Mk.tI,Mk.ej];exact yN⟩,?_⟩,fun i hi hr hv=>?_,by rw[Mk.tJ.1,(Mk.kE _ _).1];exact W8,by rw[Mk.tJ.2.1,(Mk.kE _ _).2.1];exact htp,by rw[Mk.tJ.2.2,(Mk.kE _ _).2.2];exact Zt,by rw[Mk.tI,Mk.ej];exact abW⟩
  ·obtain rfl:g=i:=Option.some.inj hi
   exact heap_setCell_other _ _ _ _ r1
  ·exact(Mk.oS r1').trans (heap_setCell_same _ _ _ _ _ _ q1)
  ·rw[Mk.oS (eJ i hi hv),heap_setCell_other _ _ _ _ hr,rv i hi hv]
set_option maxHeartbeats 30000000 in
theorem Mk.Uh (w:World) (rb:Nat) (cv:Array Value) (el:TypeId) (v:Value) (n:Nat) (xs:List Value) (k m:Int) (q:ByteArray) (a1 b1:Option Addr) (a2 a3 b2 b3:Nat)
  (hrb:w.heap[rb]?=some (.cells cv el (0,0))) (h16:cv[16]?=some v) (ja:w.ownsRow 0 53 5 v n xs) (hn:n<100000000) (eJ:v.ownBlock≠some rb):
  Calls Tryz.prog 223 #[.pointer (some ⟨rb,0,none⟩),.agg #[.int .i64 k,.int .i64 m,.string q,.slice a1 a2 a3,.slice b1 b2 b3]] w fun e w'=>e=.returned (.tuple #[])∧Mk.aau w rb cv el v n xs [.int .i64 k,.int .i64 m,.string q,.slice a1 a2 a3,.slice b1 b2 b3] w':=by
 obtain⟨i0,hi,hz0,TR,Nb⟩:=info_parts Mk.XQ
 have lrb:=(Array.getElem?_eq_some_iff.1 hrb).1
 have c16:w.cell? ⟨rb,16,none⟩=some v:=by rw[aj hrb];exact h16
 have f16:w.frozen? ⟨rb,16,none⟩=false:=by simp[World.frozen?,hrb]
 obtain⟨va,vl,vc,rfl⟩:∃p l c,v=.slice p l c:=by
  rcases ja.2 with⟨h,_⟩|⟨g,cap,cur,h,_⟩
  ·exact⟨_,_,_,h⟩
  ·exact⟨_,_,_,h⟩
 have hvl:vl=n:=by
  rcases ja.2 with⟨h,h0⟩|⟨g,cap,cur,h,_⟩
  ·injection h with _ h _;omega
  ·injection h
 subst hvl
 have aeo:(vl:Int)<((vl+1:Nat):Int):=by omega
 have aep:(0:Int)≤(vl:Int):=by omega
 have yN:∀i,(Value.slice va vl vc).ownBlock=some i→i<w.heap.size:=fun i hi=>(ja.lt i hi).2
 have PU:∀o1 o2,((w.alloc o1).drew.alloc o2).ownsRow 0 53 5 (.slice va vl vc) vl xs:=fun o1 o2=>iU ja fun i hi=>by
  have h1:=yN i hi
  have h2:i<(w.alloc o1).drew.heap.size:=by show i<(w.heap.push o1).size;rw[Array.size_push];omega
  exact(aO h2).trans (aO h1)
 have Gi:∀o1 (j:Nat) (u:Value),([.int .i64 0,.int .i64 0,.string ⟨#[]⟩,.slice none 0 0,.slice none 0 0]:List Value)[j]?=some u→((w.alloc o1).drew.alloc (.cells #[.int .i64 0,.int .i64 0,.string ⟨#[]⟩,.slice none 0 0,.slice none 0 0] 53)).cell? ((⟨w.heap.size+1,0,none⟩:Addr).add j)=some u:=fun o1 j u hj=>by
  have hn:((w.alloc o1).drew.alloc (.cells #[.int .i64 0,.int .i64 0,.string ⟨#[]⟩,.slice none 0 0,.slice none 0 0] 53)).heap[w.heap.size+1]?=some (.cells #[.int .i64 0,.int .i64 0,.string ⟨#[]⟩,.slice none 0 0,.slice none 0 0] 53 (0,0)):=by
   have:=heap_alloc_new (w.alloc o1).drew (.cells #[.int .i64 0,.int .i64 0,.string ⟨#[]⟩,.slice none 0 0,.slice none 0 0] 53)
   rw[show(w.alloc o1).drew.heap.size=w.heap.size+1 by show(w.heap.push o1).size=_;rw[Array.size_push]]at this
   exact this
  rw[Addr.add_lit,aj hn,Nat.zero_add,←hj]
  simp
 have after:∀(o2:Obj) (w1:World),((w.alloc (.cells #[.int .i64 k,.int .i64 m,.string q,.slice a1 a2 a3,.slice b1 b2 b3] 53)).drew.alloc o2).grownBy w1 (Value.slice va vl vc).ownBlock→w1.heap[rb]?=some (.cells cv el (0,0))∧w1.heap[w.heap.size]?=some (.cells #[.int .i64 k,.int .i64 m,.string q,.slice a1 a2 a3,.slice b1 b2 b3] 53 (0,0)):=fun o2 w1 hg=>by
  have hs:(w.alloc (.cells #[.int .i64 k,.int .i64 m,.string q,.slice a1 a2 a3,.slice b1 b2 b3] 53)).drew.heap.size=w.heap.size+1:=by show(w.heap.push _).size=_;rw[Array.size_push]
  constructor
  ·refine(hg.block rb (by simp;omega) (fun e=>eJ e.symm)).trans ?_
   exact(aO (by omega)).trans ((aO lrb).trans hrb)
  ·refine(hg.block w.heap.size (by simp;omega) (fun e=>by have:=yN _ e.symm;omega)).trans ?_
   exact(aO (by omega)).trans (heap_alloc_new w _)
 have far:∀(o1 o2:Obj) (g n' cap:Nat),((Value.slice (some ⟨g,0,none⟩) n' cap).ownBlock=(Value.slice va vl vc).ownBlock∨(Value.slice (some ⟨g,0,none⟩) n' cap).ownBlock=some ((w.alloc o1).drew.alloc o2).heap.size)→g≠rb∧g≠w.heap.size∧rb≠g∧w.heap.size≠g:=fun o1 o2 g n' cap h=>by
  have hs:((w.alloc o1).drew.alloc o2).heap.size=w.heap.size+2:=by show((w.heap.push _).push _).size=_;rw[Array.size_push,Array.size_push]
  rw[hs]at h
  rcases h with h|h
  ·have h1:=yN g h.symm
   have h2:g≠rb:=by rintro rfl;exact eJ h.symm
   exact⟨h2,by omega,fun e=>h2 e.symm,by omega⟩
  ·have:g=w.heap.size+2:=Option.some.inj h
   omega
 have Ta:rb≠w.heap.size:=by omega
 have pR:w.heap.size≠rb:=by omega
 go_enter Tryz.func223,Tryz.ntmps223
 go_wp2_with fail
 have aeq:(vl:Int)<(vl:Int)+1:=by omega
 have aer:(0:Int)≤(vl:Int):=by omega
 go_region_law (first|(refine qN rfl _ _ 51 rfl 0 53 i0 _ 5 80 Tryz.underlying51 hi hz0 TR Nb rfl (by decide) _ _ _ rfl (PU _ _) ⟨w.heap.size+1,0,none⟩ 1 1 [.int .i64 0,.int .i64 0,.string ⟨#[]⟩,.slice none 0 0,.slice none 0 0] rfl rfl (Gi _) (by simp[Value.oneCell']) (by unfold maxLen;omega) (by omega) (Nat.zero_le _) ?_;intro v' w1 ko qO yX CJ;obtain⟨q1,q2⟩:=after _ _ qO;obtain⟨g,cap,rfl⟩:=Mk.CR ko;obtain⟨r1,r2,r3,r4⟩:=far _ _ _ _ _ CJ;have adr:w1.cell? ⟨rb,16,none⟩=some (.slice va vl vc):=(aj q1 16).trans h16;have ads:w1.frozen? ⟨rb,16,none⟩=false:=Mk.fI q1 16;have b0:w1.cell? ⟨w.heap.size,0,none⟩=some (.int .i64 k):=aj q2 0;have b1':w1.cell? ⟨w.heap.size,1,none⟩=some (.int .i64 m):=aj q2 1;have b2':w1.cell? ⟨w.heap.size,2,none⟩=some (.string q):=aj q2 2;have b3':w1.cell? ⟨w.heap.size,3,none⟩=some (.slice a1 a2 a3):=aj q2 3;have b4:w1.cell? ⟨w.heap.size,4,none⟩=some (.slice b1 b2 b3):=aj q2 4;obtain⟨z0,z1,z2,z3,z4⟩:=Mk.XR ko;obtain⟨y0,y1,y2,y3,y4⟩:=Mk.XS ko))
 all_goals
  have uA:=Mk.XT (y0:=.int .i64 k) (y1:=.int .i64 m) (y2:=.string q) (y3:=.slice a1 a2 a3) (y4:=.slice b1 b2 b3) yN lrb ko qO q1 CJ r1
  unfold Mk.five at uA
  refine bodyPost_end (results_none rfl _ _ _) rfl ?_
  refine⟨rfl,?_⟩
  first|(with_reducible exact uA.1)|(with_reducible exact uA.2)
end Go.Ab
end
section
namespace Go.Ab
open Go.RowKit Go.Proofs
set_option maxRecDepth 100000
set_option maxHeartbeats 1000000
structure Mk.Nc (G:Gh) (w:World) (b:Nat) (cs:List Cell) (es:List (List V)) (cv:Array Value) (el:TypeId) (x:Value) (xs:List Value):Prop where
 len:cs.length=18
 eZ:w.heap[G.μ b]?=some (.cells cv el (0,0))
 size:cv.size=18
 aav:cv[16]?=some x
 row:xr G w (.gc b 16) 5 53 es x xs
 short:es.length<100000000
 apart:x.ownBlock≠some (G.μ b)
theorem Mk.zg {gl:Nat→Option (List V)} {G:Gh} {w:World} {σ:az} {b:Nat} {cs:List Cell} {es:List (List V)} (hS:dR gl G w σ) (h:Mk.rO b σ=some (cs,es)):
  σ[b]?=some cs∧∃cv el x xs,Mk.Nc G w b cs es cv el x xs:=by
 unfold Mk.rO at h
 obtain⟨ta,hb,h2⟩:=Option.bind_eq_some_iff.1 h
 clear h
 split at h2
 case isFalse=>simp at h2
 rename_i hl
 obtain⟨c,hc,h3⟩:=Option.bind_eq_some_iff.1 h2
 clear h2
 obtain⟨es',he,h4⟩:=Option.bind_eq_some_iff.1 h3
 clear h3
 simp only[Option.some.injEq,Prod.mk.injEq]at h4
 obtain⟨rfl,rfl⟩:=h4
 refine⟨hb,?_⟩
 obtain⟨cv,el,g1,g2,g3,g4,g5⟩:=hS.eZ b _ hb
 have hx:cv[16]?=some (cv[16]'(by omega)):=Array.getElem?_eq_getElem _
 obtain⟨r0,_⟩:=g5 16 c _ hc hx
 obtain⟨xs,hr⟩:=Ig r0 he
 refine⟨cv,el,_,xs,hl,g1,by omega,hx,hr,?_,fun h=>?_⟩
 ·unfold Mk.rowOf at he
  split at he
  ·split at he
   ·rename_i h;obtain rfl:=Option.some.inj he;exact h.2.2
   ·simp at he
  ·obtain rfl:=Option.some.inj he;simp
  ·simp at he
 ·have:=(hr.eZ _ h).1
  rw[g3]at this
  simp at this
theorem Mk.tK {G:Gh} {w:World} {v:V} {x:List V} {c:Value} (h:Rel G w v c) (hx:Mk.uO v=some x):
  ∃k m q a1 a2 a3 b1 b2 b3 ka ea la kb eb lb,c=.agg #[.int .i64 k,.int .i64 m,.string q,.slice a1 a2 a3,.slice b1 b2 b3]∧x=[.int .i64 k,.int .i64 m,.str q,.slice ka ea la,.slice kb eb lb]∧
   Rel G w (.slice ka ea la) (.slice a1 a2 a3)∧Rel G w (.slice kb eb lb) (.slice b1 b2 b3):=by
 unfold Mk.uO at hx
 split at hx
 case h_2=>simp at hx
 rename_i k n s k1 e1 l1 k2 e2 l2
 obtain rfl:=Option.some.inj hx
 cases h with
 |agg _ xs h1 h2 h3=>
  obtain⟨z0,z1,z2,z3,z4,rfl⟩:∃z0 z1 z2 z3 z4,xs=[z0,z1,z2,z3,z4]:=by
   match xs,h1 with
   |[z0,z1,z2,z3,z4],_=>exact⟨_,_,_,_,_,rfl⟩
  have q0:=h3 0 _ _ rfl rfl
  have q1:=h3 1 _ _ rfl rfl
  have q2:=h3 2 _ _ rfl rfl
  have q3:=h3 3 _ _ rfl rfl
  have q4:=h3 4 _ _ rfl rfl
  obtain⟨a1,a2,a3,rfl⟩:=Mk.uz (a:=.slice k1 e1 l1) rfl q3
  obtain⟨b1,b2,b3,rfl⟩:=Mk.uz (a:=.slice k2 e2 l2) rfl q4
  obtain rfl:z0=.int .i64 k:=by cases q0;rfl
  obtain rfl:z1=.int .i64 n:=by cases q1;rfl
  obtain rfl:z2=.string s:=by cases q2;rfl
  exact⟨_,_,_,_,_,_,_,_,_,_,_,_,_,_,_,rfl,rfl,q3,q4⟩
theorem Kv {C:Ctx} (ig:∀(args:Array Value) (w:World),(callFunc 223 args).run Tryz.prog w=.ok (.enter 223 args) w):
    ji Tryz.prog C (fun g args σ=>if g=223 then Mk.tL args σ else none):=by
  intro g args σ r h0
  simp only at h0
  split at h0
  case isFalse=>simp at h0
  rename_i BD
  subst BD
  refine⟨ig,fun G w vals hS gE hlen hv=>?_⟩
  unfold Mk.tL at h0
  split at h0
  case h_2=>simp at h0
  rename_i t b o ow v ow2
  split at h0
  case isFalse=>simp at h0
  rename_i Ug
  obtain⟨rfl,rfl⟩:=Ug
  obtain⟨p,hp,h1⟩:=Option.bind_eq_some_iff.1 h0
  obtain⟨x5,W9,h1⟩:=Option.bind_eq_some_iff.1 h1
  obtain rfl:=Option.some.inj h1
  obtain⟨cs,es⟩:=p
  obtain⟨x,y,rfl⟩:∃x y,vals=[x,y]:=by
    match vals,hlen with
    |[x,y],_=>exact⟨x,y,rfl⟩
  have r0:=(hv 0 _ x rfl rfl).1
  have r1:=(hv 1 _ y rfl rfl).1
  simp only at r0 r1
  obtain⟨k,m,q,a1,a2,a3,b1,b2,b3,ka,ea,la,kb,eb,lb,rfl,rfl,ra,rb⟩:=Mk.tK r1 W9
  cases r0 with
  |ptr _ _ _ M9 Ie=>
  obtain⟨hb,cv,el,v16,xs,hX⟩:=Mk.zg hS hp
  have eN:=(Array.getElem?_eq_some_iff.1 hX.eZ).1
  refine(Mk.Uh w (G.μ b) cv el v16 es.length xs k m q a1 b1 a2 a3 b2 b3 hX.eZ hX.aav hX.row.row.own hX.short hX.apart).mono ?_
  rintro e w' ⟨rfl,hQ⟩
  obtain⟨v',ho,⟨g,hvg,Hs,Tb⟩,jR⟩:=hQ.ex
  have Hw:G.ah g=0:=by
    rcases Hs with h|h
    · exact(hX.row.eZ _ h).2
    · exact(hS.wf g h).1
  have H:∀e:Ext G w (G.held g (.gc b 16)) w',xr (G.held g (.gc b 16)) w' (.gc b 16) 5 53 (es++[[.int .i64 k,.int .i64 m,.str q,.slice ka ea la,.slice kb eb lb]]) v' (xs++[.int .i64 k,.int .i64 m,.string q,.slice a1 a2 a3,.slice b1 b2 b3]):=fun e=>by
    refine⟨hX.row.row.snoc (fun _ _ h=>h.mono e) ho rfl rfl fun j v hj=>?_,fun i hi=>?_⟩
    · match j with
      |0=>simp at hj;subst hj;exact⟨_,rfl,rfl,.int _ _⟩
      |1=>simp at hj;subst hj;exact⟨_,rfl,rfl,.int _ _⟩
      |2=>simp at hj;subst hj;exact⟨_,rfl,rfl,.str _⟩
      |3=>simp at hj;subst hj;exact⟨_,rfl,rfl,ra.mono e⟩
      |4=>simp at hj;subst hj;exact⟨_,rfl,rfl,rb.mono e⟩
      |j+5=>simp at hj
    · rw[hvg]at hi
      obtain rfl:=Option.some.inj hi
      exact⟨if_pos rfl,Hw⟩
  obtain⟨f1,f2⟩:=hS.hold (c':=(.row 5 53 (es++[[.int .i64 k,.int .i64 m,.str q,.slice ka ea la,.slice kb eb lb]]),true)) (x':=v') (g:=g) hb (j:=16) (by have:=hX.len;omega) Hw
    (by rcases Hs with h|h
        · exact .inl (hX.row.eZ _ h).1
        · exact .inr h) Tb
    (fun XU el' fr h=>by
      rw[hX.eZ]at h
      simp only[Option.some.injEq,Obj.cells.injEq]at h
      obtain⟨rfl,rfl,rfl⟩:=h
      exact jR)
    (fun i hi eJ wQ=>hQ.heap i hi eJ fun h=>wQ ⟨(hX.row.eZ _ h).2,(hX.row.eZ _ h).1⟩)
    hQ.os hQ.tape hQ.output hQ.size
    (by rcases ho.2 with⟨rfl,_⟩|⟨g',cap,cur,rfl,_⟩<;>rfl)
    (fun e=>(H e).XV)
  refine⟨_,f2,f1,[],rfl,by simp,fun i c x hc hx=>by simp at hc⟩
end Go.Ab
end
section
namespace Go.Ab
section
variable {gl:Nat→Option (List V)} {G:Gh} {w w':World} {σ:az} {b j:Nat} {cs:List Cell} {c':Cell} {x':Value}
theorem dR.abX (hS:dR gl G w σ) (hb:σ[b]?=some cs) (hj:j<cs.length)
  (jR:∀cv el fr,w.heap[G.μ b]?=some (.cells cv el fr)→w'.heap[G.μ b]?=some (.cells (cv.setIfInBounds j x') el fr))
  (CS:∀i,i<w.heap.size→i≠G.μ b→w'.heap[i]?=w.heap[i]?)
  (W8:w'.os=w.os) (htp:w'.tape=w.tape) (Zt:w'.output=w.output) (iM:w.heap.size≤w'.heap.size) (aaw:x'.oneCell'=true)
  (hR:Ext G w G w'→je G w' (.gc b j) c' x'):
  dR gl G w' (σ.set b (cs.set j c'))∧Ext G w G w':=by
 have eN:=(List.getElem?_eq_some_iff.1 hb).1
 obtain⟨cv,el,k1,k2,k3,k4,k5⟩:=hS.eZ b cs hb
 have hmu:=(Array.getElem?_eq_some_iff.1 k1).1
 have JO:∀i o,o<G.ah i→fE w' i o=fE w i o:=fun i o ho=>by
  refine eH (CS i (vm hS.wf ho) ?_) o
  rintro rfl;omega
 have e:Ext G w G w':=⟨Nat.le_refl _,fun _ _=>rfl,fun _ _=>rfl,fun _=>Nat.le_refl _,JO,W8,htp,Zt,iM,fun i hi ho=>by
  have h1:i≠G.μ b:=by rintro rfl;rw[k3]at ho;simp at ho
  exact⟨CS i hi h1,rfl,ho⟩⟩
 refine⟨?_,e⟩
 have CT:∀i p,G.owner i=some p→p≠.eZ b→w'.heap[i]?=w.heap[i]?∧G.ah i=G.ah i∧G.owner i=some p:=fun i p hp h1=>by
  have hi:=fV hS.wf hp
  refine⟨CS i hi ?_,rfl,hp⟩
  rintro rfl
  rw[k3]at hp
  exact h1 (Option.some.inj hp).symm
 have Ui:=jR cv el _ k1
 refine⟨fun i hi=>hS.wf i (by omega),fun q qs hq=>(hS.bN q qs hq).mono e,by rw[List.length_set];exact hS.N,fun b' jI=>?_,fun b' ds jI=>?_,hS.PE.mono e⟩
 ·rw[List.length_set]at jI
  obtain⟨XU,fr,h1⟩:=hS.typed b' jI
  by_cases xb:b'=b
  ·subst xb
   exact⟨_,fr,jR _ _ _ h1⟩
  ·obtain⟨_,_,_,_,h3,_⟩:=hS.eZ b' σ[b'] (List.getElem?_eq_getElem jI)
   exact⟨XU,fr,by rw[(CT _ _ h3 (by simpa using xb)).1];exact h1⟩
 ·by_cases xb:b'=b
  ·subst xb
   rw[List.getElem?_set_self eN]at jI
   obtain rfl:=Option.some.inj jI
   refine⟨_,el,Ui,by simpa using k2,k3,k4,fun j' c x hc hx=>?_⟩
   by_cases Zu:j'=j
   ·subst Zu
    rw[List.getElem?_set_self hj]at hc
    obtain rfl:=Option.some.inj hc
    rw[Array.getElem?_setIfInBounds,if_pos rfl,if_pos (by omega)]at hx
    obtain rfl:=Option.some.inj hx
    exact⟨hR e,aaw⟩
   ·rw[List.getElem?_set_ne (fun h=>Zu h.symm)]at hc
    rw[Array.getElem?_setIfInBounds,if_neg (fun h=>Zu h.symm)]at hx
    refine⟨(k5 j' c x hc hx).1.move e fun _ i hi=>CT i _ hi (by simp),(k5 j' c x hc hx).2⟩
  ·rw[List.getElem?_set_ne (fun h=>xb h.symm)]at jI
   exact(hS.eZ b' ds jI).move (fl:=fun p=>p≠.eZ b) e ⟨fun i p hp hf=>CT i p hp hf⟩ (by simpa using xb) fun j' v _=>by simp
end
end Go.Ab
end
section
namespace Go.Ab
open Go.RowKit Go.Proofs
set_option maxRecDepth 100000
set_option maxHeartbeats 2000000
theorem Mk.aax {W:World} {B:Nat} {x0 x1 x2 x3 x4:Value} (h:W.heap[B]?=some (.cells #[x0,x1,x2,x3,x4] 53 (0,0))) {Q:Ending→World→Prop} {tmps:Array Value} (h5:tmps[4]?=some (.pointer (some ⟨B,0,none⟩)))
  (hQ:Q (.returned (.agg #[x0,x1,x2,x3,x4])) W):bodyPost Tryz.prog Tryz.f254 Q .ret {tmps:=tmps,defers:=[]} W:=by
 have k0:W.cell? ⟨B,0,none⟩=some x0:=aj h 0
 have k1:W.cell? ⟨B,1,none⟩=some x1:=aj h 1
 have k2:W.cell? ⟨B,2,none⟩=some x2:=aj h 2
 have k3:W.cell? ⟨B,3,none⟩=some x3:=aj h 3
 have k4:W.cell? ⟨B,4,none⟩=some x4:=aj h 4
 refine bodyPost_ret (v:=.agg #[x0,x1,x2,x3,x4]) ?_ rfl hQ
 simp[results,Tryz.results254,h5,k0,k1,k2,k3,k4,go_sem]
theorem Mk.CU {W:World} {B:Nat} {x0 x1 x2 x3 x4:Value} (h:W.heap[B]?=some (.cells #[x0,x1,x2,x3,x4] 53 (0,0))) {Q:Ending→World→Prop} {tmps:Array Value} (h5:tmps[6]?=some (.pointer (some ⟨B,0,none⟩)))
  (hQ:Q (.returned (.agg #[x0,x1,x2,x3,x4])) W):bodyPost Tryz.prog Tryz.f224 Q .ret {tmps:=tmps,defers:=[]} W:=by
 have k0:W.cell? ⟨B,0,none⟩=some x0:=aj h 0
 have k1:W.cell? ⟨B,1,none⟩=some x1:=aj h 1
 have k2:W.cell? ⟨B,2,none⟩=some x2:=aj h 2
 have k3:W.cell? ⟨B,3,none⟩=some x3:=aj h 3
 have k4:W.cell? ⟨B,4,none⟩=some x4:=aj h 4
 refine bodyPost_ret (v:=.agg #[x0,x1,x2,x3,x4]) ?_ rfl hQ
 simp[results,Tryz.results224,h5,k0,k1,k2,k3,k4,go_sem]
structure Mk.PiQ (w:World) (cs:List Value) (g:Nat) (w':World):Prop where
 below:RowKit.Below w.heap.size w w'
 ge:w.heap.size≤g
 at':w'.heap[g]?=some (.cells cs.toArray 53 (0,0))
theorem Mk.XW (w:World) (p0 p1 p2 p3 p4 q0 q1 q2 q3 q4:Value):
  Calls Tryz.prog 254 #[.agg #[p0,p1,p2,p3,p4],.agg #[q0,q1,q2,q3,q4]] w fun e w'=>∃g,e=.returned (.agg #[.int .i64 5,.int .i64 0,.string ⟨#[]⟩,.slice none 0 0,.slice (some ⟨g,0,none⟩) 2 2])∧Mk.PiQ w [p0,p1,p2,p3,p4,q0,q1,q2,q3,q4] g w':=by
 go_enter Tryz.func254,Tryz.ntmps254
 go_wp2_with fail
 refine Mk.aax (B:=w.heap.size+1+1) ?_ rfl ⟨w.heap.size+1+1+1,rfl,?_,by omega,?_⟩
 ·refine(aO (by simp)).trans ?_
  have:=heap_alloc_new ((w.alloc (.cells #[p0,p1,p2,p3,p4] 53)).alloc (.cells #[q0,q1,q2,q3,q4] 53)) (.cells #[.int .i64 5,.int .i64 0,.string ⟨#[]⟩,.slice none 0 0,.slice (some ⟨w.heap.size+1+1+1,0,none⟩) 2 2] 53)
  simpa using this
 ·exact((((RowKit.Below.refl w.heap.size w).alloc (Nat.le_refl _) _).alloc (by simp) _).alloc (by simp;omega) _).alloc (by simp;omega) _
 ·have:=heap_alloc_new (((w.alloc (.cells #[p0,p1,p2,p3,p4] 53)).alloc (.cells #[q0,q1,q2,q3,q4] 53)).alloc (.cells #[.int .i64 5,.int .i64 0,.string ⟨#[]⟩,.slice none 0 0,.slice (some ⟨w.heap.size+1+1+1,0,none⟩) 2 2] 53)) (.cells #[p0,p1,p2,p3,p4,q0,q1,q2,q3,q4] 53)
  simpa using this
structure Mk.XX (gl:Nat→Option (List V)) (G:Gh) (w:World) (σ:az) (es:List (List V)) (x:List V) (n k:Nat) (W:World) (Gk:Gh) (u0 u1 u2 u3 u4:Value):Prop where
 ext:qZ w.heap.size G w Gk W
 vj:dR gl Gk W σ
 o1:nB w.heap.size Gk w.heap.size
 o2:nB w.heap.size Gk (w.heap.size+1)
 b1:W.heap[w.heap.size]?=some (.cells #[u0,u1,u2,u3,u4] 53 (0,0))
 b2:W.heap[w.heap.size+1]?=some (.cells #[.int .i64 0,.int .i64 0,.string ⟨#[]⟩,.slice none 0 0,.slice none 0 0] 53 (0,0))
 cur:Rel Gk W (.agg ((es.drop (n+k)).foldr Mk.Rg x)) (.agg #[u0,u1,u2,u3,u4])
theorem Mk.abY {G:Gh} {w:World} {cs:List V} {xs:List Value} (h:Rel G w (.agg cs) (.agg xs.toArray)):xs.length=cs.length∧(∀(i:Nat) (v:V) (x:Value),cs[i]?=some v→xs[i]?=some x→Rel G w v x)∧∀x∈xs,x.oneCell'=true:=by
 generalize hc:Value.agg xs.toArray=c at h
 cases h with
 |agg _ ys h1 h2 h3=>
  injection hc with hc
  have:xs=ys:=by simpa using hc
  subst this
  exact⟨h1,h3,fun x hx=>by obtain⟨i,hi⟩:=List.getElem?_of_mem hx;exact h2 i x hi⟩
theorem Mk.aay {G:Gh} {W W1:World} {n0 g:Nat} {gl:Nat→Option (List V)} {σ:az} (hS:dR gl G W σ) {p0 p1 p2 p3 p4 q0 q1 q2 q3 q4:Value} {a t:List V} (hQ:Mk.PiQ W [p0,p1,p2,p3,p4,q0,q1,q2,q3,q4] g W1) (hn:n0≤W.heap.size)
  (ha:Rel G W (.agg a) (.agg #[p0,p1,p2,p3,p4])) (ht:Rel G W (.agg t) (.agg #[q0,q1,q2,q3,q4])):
  qZ n0 G W (G.settle g 10) W1∧dR gl (G.settle g 10) W1 σ∧(∀v c,Rel G W v c→Rel (G.settle g 10) W1 v c)∧Rel (G.settle g 10) W1 (.agg (Mk.Rg a t)) (.agg #[.int .i64 5,.int .i64 0,.string ⟨#[]⟩,.slice none 0 0,.slice (some ⟨g,0,none⟩) 2 2]):=by
 have hM:gF n0 G W W1:=gF.wT hQ.below
 have og:nB n0 G g:=nB.new hS.wf hn hQ.ge
 have yN:=(Array.getElem?_eq_some_iff.1 hQ.at').1
 have up:∀v c,Rel G W v c→Rel (G.settle g 10) W1 v c:=fun v c h=>Gh.kq og.ah (hM.rel hS.wf h)
 refine⟨(hM.JS hS.wf hn).trans (Gh.vn og),Gh.rz og yN (hM.vj hS),up,?_⟩
 obtain⟨a1,a2,ac⟩:=Mk.abY (xs:=[p0,p1,p2,p3,p4]) ha
 obtain⟨t1,t2,tc⟩:=Mk.abY (xs:=[q0,q1,q2,q3,q4]) ht
 have al:a.length=5:=by simpa using a1.symm
 have tl:t.length=5:=by simpa using t1.symm
 refine BK (xs:=[.int .i64 5,.int .i64 0,.string ⟨#[]⟩,.slice none 0 0,.slice (some ⟨g,0,none⟩) 2 2]) rfl (by simp[Value.oneCell']) fun i v c hv hc=>?_
 match i with
 |0=>simp[Mk.Rg]at hv hc;subst hv;subst hc;exact .int _ _
 |1=>simp[Mk.Rg]at hv hc;subst hv;subst hc;exact .int _ _
 |2=>simp[Mk.Rg]at hv hc;subst hv;subst hc;exact .str _
 |3=>simp[Mk.Rg]at hv hc;subst hv;subst hc;exact .rh _ _
 |4=>
  simp[Mk.Rg]at hv hc;subst hv;subst hc
  have cell:∀j c,[p0,p1,p2,p3,p4,q0,q1,q2,q3,q4][j]?=some c→W1.cell? ⟨g,j,none⟩=some c:=fun j c hc=>(aj hQ.at' j).trans (by simpa using hc)
  refine Rel.slice 5 _ [a,t] g 0 2 [[p0,p1,p2,p3,p4],[q0,q1,q2,q3,q4]] rfl (by simp) ?_ (fun i e he=>?_) (fun i x hx=>?_) (fun i j x c hx hc=>?_) (fun i j e x v c he hx hv hc=>?_)
  ·show 0+2*5≤if g=g then 10 else _
   rw[if_pos rfl]
   omega
  ·match i with
   |0=>simp at he;subst he;exact al
   |1=>simp at he;subst he;exact tl
   |i+2=>simp at he
  ·match i with
   |0=>simp at hx;subst hx;rfl
   |1=>simp at hx;subst hx;rfl
   |i+2=>simp at hx
  ·match i with
   |0=>simp at hx;subst hx;exact⟨cell _ _ (by
    have hj:=(List.getElem?_eq_some_iff.1 hc).1
    simp only[List.length_cons,List.length_nil]at hj
    match j,hj with
    |0,_=>exact hc
    |1,_=>exact hc
    |2,_=>exact hc
    |3,_=>exact hc
    |4,_=>exact hc),ac c (List.mem_of_getElem? hc)⟩
   |1=>simp at hx;subst hx;exact⟨cell _ _ (by
    have hj:=(List.getElem?_eq_some_iff.1 hc).1
    simp only[List.length_cons,List.length_nil]at hj
    match j,hj with
    |0,_=>exact hc
    |1,_=>exact hc
    |2,_=>exact hc
    |3,_=>exact hc
    |4,_=>exact hc),tc c (List.mem_of_getElem? hc)⟩
   |i+2=>simp at hx
  ·match i with
   |0=>simp at he hx;subst he;subst hx;exact up _ _ (a2 j v c hv hc)
   |1=>simp at he hx;subst he;subst hx;exact up _ _ (t2 j v c hv hc)
   |i+2=>simp at he
 |i+5=>simp[Mk.Rg]at hv
end Go.Ab
end
section
namespace Go.Ab
open Go.RowKit Go.Proofs
set_option maxRecDepth 100000
set_option maxHeartbeats 4000000
def Mk.ClQ (gl:Nat→Option (List V)) (G:Gh) (w:World) (σ:az) (b:Nat) (cs:List Cell) (es:List (List V)) (x:List V) (n:Nat) (e:Ending) (w':World):Prop:=
 ∃G' c0 c1 c2 c3 c4,e=.returned (.agg #[c0,c1,c2,c3,c4])∧Ext G w G' w'∧dR gl G' w' (σ.set b (cs.set 16 (.row 5 53 (es.take n),true)))∧Rel G' w' (.agg ((es.drop n).foldr Mk.Rg x)) (.agg #[c0,c1,c2,c3,c4])
theorem Mk.Ih {w:World} {base:Nat} {e:TypeId} {size:Nat} {v:Value} {n:Nat} {xs:List Value} (h:w.ownsRow base e size v n xs):∃p c,v=.slice p n c∧(n=0∧p=none∧c=0∨∃g,p=some ⟨g,0,none⟩∧n≤c):=by
 rcases h.2 with⟨rfl,h0⟩|⟨g,cap,cur,rfl,_,_,h,_⟩
 ·exact⟨none,0,by rw[h0],.inl ⟨h0,rfl,rfl⟩⟩
 ·exact⟨_,_,rfl,.inr ⟨g,rfl,h⟩⟩
section
variable {gl:Nat→Option (List V)} {G Gk:Gh} {w wr:World} {σ:az} {b n:Nat} {cs:List Cell} {es:List (List V)} {x:List V} {u0 u1 u2 u3 u4:Value}
theorem Mk.CV {w2:World} {G2:Gh} (hw:WF G w) (h1:qZ w.heap.size G w G2 w2) (h2:dR gl G2 w2 (σ.set b (cs.set 16 (.row 5 53 (es.take n),true)))) (o2:nB w.heap.size G2 (w.heap.size+1))
  (hc:Rel G2 w2 (.agg ((es.drop n).foldr Mk.Rg x)) (.agg #[u0,u1,u2,u3,u4])):Mk.ClQ gl G w σ b cs es x n (.returned (.agg #[u0,u1,u2,u3,u4])) (Mk.five w2 (w.heap.size+1) 0 u0 u1 u2 u3 u4):=by
 have hM:gF w.heap.size G2 w2 (Mk.five w2 (w.heap.size+1) 0 u0 u1 u2 u3 u4):=by
  unfold Mk.five
  exact(((((gF.refl _ _ _).setCell _ (fun _=>o2) _).setCell _ (fun _=>o2) _).setCell _ (fun _=>o2) _).setCell _ (fun _=>o2) _).setCell _ (fun _=>o2) _
 exact⟨G2,u0,u1,u2,u3,u4,rfl,(h1.trans (hM.JS h2.wf h1.size)).PD,hM.vj h2,hM.rel h2.wf hc⟩
theorem Mk.Nd {cv:Array Value} {el:TypeId} {g cap:Nat} {xs:List Value} (hw:WF G w) (hb:σ[b]?=some cs) (hR:Mk.XX gl G w σ es x n 0 wr Gk u0 u1 u2 u3 u4) (hX:Mk.Nc Gk wr b cs es cv el (.slice (some ⟨g,0,none⟩) es.length cap) xs) (hn:n≤es.length):
  Mk.ClQ gl G w σ b cs es x n (.returned (.agg #[u0,u1,u2,u3,u4])) (Mk.five (wr.setCell ⟨Gk.μ b,16,none⟩ (.slice (some ⟨g,0,none⟩) n cap)) (w.heap.size+1) 0 u0 u1 u2 u3 u4):=by
 have Zv:Gk.μ b≠g:=fun e=>hX.apart (congrArg some e.symm)
 have hg:=hX.row.eZ g rfl
 have yN:=(hX.row.row.own.lt g rfl).2
 have Fo:∀i,i≠Gk.μ b→(wr.setCell ⟨Gk.μ b,16,none⟩ (.slice (some ⟨g,0,none⟩) n cap)).heap[i]?=wr.heap[i]?:=fun i hi=>heap_setCell_other _ _ _ _ hi
 have hT:∀e:Ext Gk wr (Gk.held g (.gc b 16)) (wr.setCell ⟨Gk.μ b,16,none⟩ (.slice (some ⟨g,0,none⟩) n cap)),xr (Gk.held g (.gc b 16)) (wr.setCell ⟨Gk.μ b,16,none⟩ (.slice (some ⟨g,0,none⟩) n cap)) (.gc b 16) 5 53 (es.take n) (.slice (some ⟨g,0,none⟩) n cap) (xs.take (n*5)):=fun e=>
  ⟨(hX.row.row.take hn).move (fun _ _ h=>h.mono e) fun i hi=>by obtain rfl:=Option.some.inj hi;exact Fo _ (fun e=>Zv e.symm),fun i hi=>by obtain rfl:=Option.some.inj hi;exact⟨if_pos rfl,hg.2⟩⟩
 obtain⟨f1,f2⟩:=hR.vj.hold (c':=(.row 5 53 (es.take n),true)) (x':=.slice (some ⟨g,0,none⟩) n cap) (g:=g) hb (j:=16) (by have:=hX.len;omega) hg.2 (.inl hg.1) (by rw[Mk.ej];exact yN)
  (fun XU el' fr h=>by rw[hX.eZ]at h;simp only[Option.some.injEq,Obj.cells.injEq]at h;obtain⟨rfl,rfl,rfl⟩:=h;exact heap_setCell_same _ _ _ _ _ _ hX.eZ) (fun i _ hi _=>Fo i hi) rfl rfl rfl (by rw[Mk.ej];exact Nat.le_refl _) rfl (fun e=>(hT e).XV)
 exact Mk.CV hw (hR.ext.trans (f2.toB hR.ext.size)) f1 (hR.o2.ext f2 (Array.getElem?_eq_some_iff.1 hR.b2).1).1 (hR.cur.mono f2)
theorem Mk.Nf {cv:Array Value} {el:TypeId} {xs:List Value} (hw:WF G w) (hb:σ[b]?=some cs) (hR:Mk.XX gl G w σ es x n 0 wr Gk u0 u1 u2 u3 u4) (hX:Mk.Nc Gk wr b cs es cv el (.slice none 0 0) xs) (hn:n≤es.length):
  Mk.ClQ gl G w σ b cs es x n (.returned (.agg #[u0,u1,u2,u3,u4])) (Mk.five (wr.setCell ⟨Gk.μ b,16,none⟩ (.slice none 0 0)) (w.heap.size+1) 0 u0 u1 u2 u3 u4):=by
 have he:es=[]:=by
  rcases hX.row.row.own.2 with⟨_,h⟩|⟨g,cap,cur,h,_⟩
  ·exact List.length_eq_zero_iff.1 h
  ·simp at h
 subst he
 have hT:∀e:Ext Gk wr Gk (wr.setCell ⟨Gk.μ b,16,none⟩ (.slice none 0 0)),xr Gk (wr.setCell ⟨Gk.μ b,16,none⟩ (.slice none 0 0)) (.gc b 16) 5 53 (([]:List (List V)).take n) (.slice none 0 0) []:=fun e=>
  ⟨⟨by rw[List.take_nil];exact World.ownsRow_nil _ _ _ _,by simp,fun i j y v hy=>by simp at hy⟩,fun i hi=>by simp[Value.ownBlock]at hi⟩
 obtain⟨f1,f2⟩:=hR.vj.abX (c':=(.row 5 53 (([]:List (List V)).take n),true)) (x':=.slice none 0 0) (w':=wr.setCell ⟨Gk.μ b,16,none⟩ (.slice none 0 0)) hb (j:=16) (by have:=hX.len;omega)
  (fun XU el' fr h=>by rw[hX.eZ]at h;simp only[Option.some.injEq,Obj.cells.injEq]at h;obtain⟨rfl,rfl,rfl⟩:=h;exact heap_setCell_same _ _ _ _ _ _ hX.eZ) (fun i _ hi=>heap_setCell_other _ _ _ _ hi) rfl rfl rfl (by rw[Mk.ej];exact Nat.le_refl _) rfl (fun e=>(hT e).XV)
 exact Mk.CV hw (hR.ext.trans (f2.toB hR.ext.size)) f1 (hR.o2.ext f2 (Array.getElem?_eq_some_iff.1 hR.b2).1).1 (hR.cur.mono f2)
theorem Mk.Ii {cv:Array Value} {el:TypeId} {v:Value} {xs:List Value} {k g:Nat} {w1:World} {y:List V} {p0 p1 p2 p3 p4:Value} (hR:Mk.XX gl G w σ es x n (k+1) wr Gk u0 u1 u2 u3 u4) (hX:Mk.Nc Gk wr b cs es cv el v xs) (hy:es[n+k]?=some y)
  (hp:Rel Gk wr (.agg y) (.agg #[p0,p1,p2,p3,p4])) (hQ:Mk.PiQ wr.drew [p0,p1,p2,p3,p4,u0,u1,u2,u3,u4] g w1):
  Mk.XX gl G w σ es x n k (Mk.five w1 w.heap.size 0 (.int .i64 5) (.int .i64 0) (.string ⟨#[]⟩) (.slice none 0 0) (.slice (some ⟨g,0,none⟩) 2 2)) (Gk.settle g 10) (.int .i64 5) (.int .i64 0) (.string ⟨#[]⟩) (.slice none 0 0) (.slice (some ⟨g,0,none⟩) 2 2):=by
 have jc:=(Array.getElem?_eq_some_iff.1 hR.b1).1
 have vu:=(Array.getElem?_eq_some_iff.1 hR.b2).1
 have Ko:wr.drew.heap.size=wr.heap.size:=rfl
 have hdh:wr.drew.heap=wr.heap:=rfl
 have hQ':Mk.PiQ wr [p0,p1,p2,p3,p4,u0,u1,u2,u3,u4] g w1:=⟨{os:=hQ.below.os,tape:=hQ.below.tape,output:=hQ.below.output,size:=hQ.below.size,block:=hQ.below.block},hQ.ge,hQ.at'⟩
 obtain⟨e1,s1,r1,c1⟩:=Mk.aay (n0:=w.heap.size) hR.vj hQ' hR.ext.size hp hR.cur
 have hgB:w.heap.size≠g∧w.heap.size+1≠g:=by have:=hQ'.ge;omega
 have o1:nB w.heap.size (Gk.settle g 10) w.heap.size:=⟨hR.o1.ge,by show(if _=g then _ else _)=_;rw[if_neg hgB.1];exact hR.o1.ah,hR.o1.own⟩
 have o2:nB w.heap.size (Gk.settle g 10) (w.heap.size+1):=⟨hR.o2.ge,by show(if _=g then _ else _)=_;rw[if_neg hgB.2];exact hR.o2.ah,hR.o2.own⟩
 have hM:gF w.heap.size (Gk.settle g 10) w1 (Mk.five w1 w.heap.size 0 (.int .i64 5) (.int .i64 0) (.string ⟨#[]⟩) (.slice none 0 0) (.slice (some ⟨g,0,none⟩) 2 2)):=by
  unfold Mk.five
  exact(((((gF.refl _ _ _).setCell _ (fun _=>o1) _).setCell _ (fun _=>o1) _).setCell _ (fun _=>o1) _).setCell _ (fun _=>o1) _).setCell _ (fun _=>o1) _
 have iM:=hR.ext.size
 have hd:es.drop (n+k)=y::es.drop (n+k+1):=by
  obtain⟨hl,hh⟩:=List.getElem?_eq_some_iff.1 hy
  rw[List.drop_eq_getElem_cons hl,hh]
 refine⟨(hR.ext.trans e1).trans (hM.JS s1.wf (Nat.le_trans hR.ext.size e1.size)),hM.vj s1,o1,o2,?_,?_,?_⟩
 ·have h0:=(hQ'.below.block _ jc).trans hR.b1
  unfold Mk.five
  exact heap_setCell_same _ _ _ _ _ _ (heap_setCell_same _ _ _ _ _ _ (heap_setCell_same _ _ _ _ _ _ (heap_setCell_same _ _ _ _ _ _ (heap_setCell_same _ _ _ _ _ _ h0))))
 ·rw[Mk.oS (by omega)]
  exact(hQ'.below.block _ vu).trans hR.b2
 ·rw[hd]
  exact hM.rel s1.wf c1
end
end Go.Ab
end
section
namespace Go.Ab
open Go.RowKit Go.Proofs
set_option maxRecDepth 100000
set_option maxHeartbeats 8000000
theorem Mk.Kw {G:Gh} {w:World} {y:List V} {zs:List Value} (hy:Mk.AV y=true) (hl:zs.length=5) (h:∀(j:Nat) (v:V),y[j]?=some v→∃c,zs[j]?=some c∧c.oneCell'=true∧Rel G w v c):
  ∃k m q a1 a2 a3 b1 b2 b3,zs=[.int .i64 k,.int .i64 m,.string q,.slice a1 a2 a3,.slice b1 b2 b3]∧Rel G w (.agg y) (.agg #[.int .i64 k,.int .i64 m,.string q,.slice a1 a2 a3,.slice b1 b2 b3]):=by
 unfold Mk.AV at hy
 split at hy
 case h_2=>simp at hy
 rename_i k n s k1 e1 l1 k2 e2 l2
 obtain⟨z0,z1,z2,z3,z4,rfl⟩:∃z0 z1 z2 z3 z4,zs=[z0,z1,z2,z3,z4]:=by
  match zs,hl with
  |[z0,z1,z2,z3,z4],_=>exact⟨_,_,_,_,_,rfl⟩
 obtain⟨_,h0,p0,q0⟩:=h 0 _ rfl
 obtain rfl:=Option.some.inj h0
 obtain⟨_,h1,p1,q1⟩:=h 1 _ rfl
 obtain rfl:=Option.some.inj h1
 obtain⟨_,h2,p2,q2⟩:=h 2 _ rfl
 obtain rfl:=Option.some.inj h2
 obtain⟨_,h3,p3,q3⟩:=h 3 _ rfl
 obtain rfl:=Option.some.inj h3
 obtain⟨_,h4,p4,q4⟩:=h 4 _ rfl
 obtain rfl:=Option.some.inj h4
 obtain⟨a1,a2,a3,rfl⟩:=Mk.uz (a:=.slice k1 e1 l1) rfl q3
 obtain⟨b1,b2,b3,rfl⟩:=Mk.uz (a:=.slice k2 e2 l2) rfl q4
 obtain rfl:z0=.int .i64 k:=by cases q0;rfl
 obtain rfl:z1=.int .i64 n:=by cases q1;rfl
 obtain rfl:z2=.string s:=by cases q2;rfl
 refine⟨_,_,_,_,_,_,_,_,_,rfl,BK (xs:=[.int .i64 k,.int .i64 n,.string s,.slice a1 a2 a3,.slice b1 b2 b3]) rfl (by simp[Value.oneCell']) fun i v c hv hc=>?_⟩
 match i with
 |0=>simp at hv hc;subst hv;subst hc;exact q0
 |1=>simp at hv hc;subst hv;subst hc;exact q1
 |2=>simp at hv hc;subst hv;subst hc;exact q2
 |3=>simp at hv hc;subst hv;subst hc;exact q3
 |4=>simp at hv hc;subst hv;subst hc;exact q4
 |i+5=>simp at hv
theorem Mk.Uj {G:Gh} {w:World} {g cap:Nat} {e:TypeId} {es:List (List V)} {xs:List Value} (h:CW G w 5 e es (.slice (some ⟨g,0,none⟩) es.length cap) xs) {i:Nat} {y:List V} (hi:es[i]?=some y):
  ∃zs:List Value,zs.length=5∧(∀j c,zs[j]?=some c→w.cell? ⟨g,i*5+j,none⟩=some c)∧∀(j:Nat) (v:V),y[j]?=some v→∃c,zs[j]?=some c∧c.oneCell'=true∧Rel G w v c:=by
 have aG:=(List.getElem?_eq_some_iff.1 hi).1
 have hl:=h.own.1
 refine⟨(xs.drop (i*5)).take 5,by rw[List.length_take,List.length_drop];omega,fun j c hc=>?_,fun j v hv=>?_⟩
 ·rw[List.getElem?_take]at hc
  split at hc
  ·rw[List.getElem?_drop]at hc
   rw[h.own.cellAt (i*5+j) (by omega)]
   exact hc
  ·simp at hc
 ·obtain⟨c,q1,q2,q3⟩:=h.rel i j y v hi hv
  have hj:=(List.getElem?_eq_some_iff.1 hv).1
  rw[h.len y (List.mem_of_getElem? hi)]at hj
  exact⟨c,by rw[List.getElem?_take,if_pos hj,List.getElem?_drop];exact q1,q2,q3⟩
theorem Mk.Ng {x:List V} (l:List (List V)) (h:∃x5,Mk.uO (.agg x)=some x5):∃x5,Mk.uO (.agg (l.foldr Mk.Rg x))=some x5:=by
 cases l with
 |nil=>exact h
 |cons a l=>exact⟨_,rfl⟩
theorem Mk.Kx {gl:Nat→Option (List V)} {G:Gh} {w:World} {σ:az} {b:Nat} {cs:List Cell} {es:List (List V)} {x:List V} {n:Nat} {x0 x1 x2 x3 x4:Value} (hS:dR gl G w σ) (hp:Mk.rO b σ=some (cs,es)) (M9:b<G.N) (hn:n≤es.length)
  (gZ:(es.drop n).all Mk.AV=true) (W9:Hid (∃x5,Mk.uO (.agg x)=some x5)) (hx:Rel G w (.agg x) (.agg #[x0,x1,x2,x3,x4])) (Q:Ending→World→Prop) (hQ:∀e w',Mk.ClQ gl G w σ b cs es x n e w'→Q e w'):
  Calls Tryz.prog 224 #[.pointer (some ⟨G.μ b,0,none⟩),.agg #[x0,x1,x2,x3,x4],.int .i64 n] w Q:=by
 obtain⟨hb,cv,el,v16,xs,hX⟩:=Mk.zg hS hp
 have lrb:=(Array.getElem?_eq_some_iff.1 hX.eZ).1
 have aaz:=hX.short
 obtain⟨vp,vc,rfl,_⟩:=Mk.Ih hX.row.row.own
 have c16:w.cell? ⟨G.μ b,16,none⟩=some (.slice vp es.length vc):=(aj hX.eZ 16).trans hX.aav
 have aes:IntKind.i64.wrap ((es.length:Int) - 1)=(es.length:Int) - 1:=by simp(disch:=omega) only[IntWalk.i64_in]
 have HS:Hid (dR gl G w σ∧Mk.rO b σ=some (cs,es)∧(es.drop n).all Mk.AV=true∧Rel G w (.agg x) (.agg #[x0,x1,x2,x3,x4])∧∀e w',Mk.ClQ gl G w σ b cs es x n e w'→Q e w'):=⟨hS,hp,gZ,hx,hQ⟩
 have H1:Hid (Mk.XX gl G w σ es x n (es.length - n) ((w.alloc (.cells #[x0,x1,x2,x3,x4] 53)).alloc (.cells #[.int .i64 0,.int .i64 0,.string ⟨#[]⟩,.slice none 0 0,.slice none 0 0] 53)) G x0 x1 x2 x3 x4):=by
  have hM:gF w.heap.size G w ((w.alloc (.cells #[x0,x1,x2,x3,x4] 53)).alloc (.cells #[.int .i64 0,.int .i64 0,.string ⟨#[]⟩,.slice none 0 0,.slice none 0 0] 53)):=((gF.refl _ _ _).alloc _).alloc _
  refine⟨hM.JS hS.wf (Nat.le_refl _),hM.vj hS,nB.new hS.wf (Nat.le_refl _) (Nat.le_refl _),nB.new hS.wf (Nat.le_refl _) (by omega),(aO (by simp)).trans (heap_alloc_new w _),?_,?_⟩
  ·have:=heap_alloc_new (w.alloc (.cells #[x0,x1,x2,x3,x4] 53)) (.cells #[.int .i64 0,.int .i64 0,.string ⟨#[]⟩,.slice none 0 0,.slice none 0 0] 53)
   simpa using this
  ·rw[show n+(es.length - n)=es.length by omega,List.drop_length]
   exact hM.rel hS.wf hx
 have Ky:Hid (n≤es.length∧es.length<100000000∧b<G.N):=⟨hn,aaz,M9⟩
 clear hS hp gZ hx hQ hX hb hn
 go_enter Tryz.func224,Tryz.ntmps224
 go_wp2_with fail
 go_loopg [7] (es.length - n) (fun k s7 W=>∃z Gk u0 u1 u2 u3 u4,s7=.int .i64 z∧z=((n+k:Nat):Int) - 1∧n+k≤es.length∧Mk.XX gl G w σ es x n k W Gk u0 u1 u2 u3 u4)
 case atStart=>
  have:=Ky.out.1
  exact⟨_,G,x0,x1,x2,x3,x4,rfl,by rw[show n+(es.length - n)=es.length by omega],by omega,H1.out⟩
 case round=>
  obtain⟨z,Gk,u0,u1,u2,u3,u4,rfl,hz,hnk,hR⟩:=hrel
  obtain⟨y5,hy5⟩:=Mk.Ng (es.drop (n+gk)) W9.out
  obtain⟨c0,c1,c2,a1,a2,a3,b1,b2,b3,_,_,_,_,_,_,XY,_,_,_⟩:=Mk.tK hR.cur hy5
  injection XY with XY
  simp only[Array.mk.injEq,List.cons.injEq,and_true]at XY
  obtain⟨rfl,rfl,rfl,rfl,rfl⟩:=XY
  have Ms:Gk.μ b=G.μ b:=hR.ext.μ b Ky.out.2.2
  obtain⟨hb,cv2,el2,v2,xs2,hX⟩:=Mk.zg hR.vj HS.out.2.1
  obtain⟨vp2,vc2,rfl,hsh⟩:=Mk.Ih hX.row.row.own
  have PV:G.μ b≠w.heap.size:=by omega
  have hm2:G.μ b≠w.heap.size+1:=by omega
  have hm3:w.heap.size≠G.μ b:=by omega
  have hm4:w.heap.size+1≠G.μ b:=by omega
  have iM:=hR.ext.size
  have d16:wr.cell? ⟨G.μ b,16,none⟩=some (.slice vp2 es.length vc2):=by have:=(aj hX.eZ 16).trans hX.aav;rw[Ms]at this;exact this
  have f16:wr.frozen? ⟨G.μ b,16,none⟩=false:=by have:=Mk.fI hX.eZ 16;rw[Ms]at this;exact this
  have k0:wr.cell? ⟨w.heap.size,0,none⟩=some (.int .i64 c0):=aj hR.b1 0
  have k1:wr.cell? ⟨w.heap.size,1,none⟩=some (.int .i64 c1):=aj hR.b1 1
  have k2:wr.cell? ⟨w.heap.size,2,none⟩=some (.string c2):=aj hR.b1 2
  have k3:wr.cell? ⟨w.heap.size,3,none⟩=some (.slice a1 a2 a3):=aj hR.b1 3
  have k4:wr.cell? ⟨w.heap.size,4,none⟩=some (.slice b1 b2 b3):=aj hR.b1 4
  clear H1
  obtain rfl|⟨k',rfl⟩:gk=0∨∃k',gk=k'+1:=by cases gk with|zero=>exact .inl rfl|succ k=>exact .inr ⟨k,rfl⟩
  ·have aG:¬((n:Int)≤z):=by omega
   have j0:wr.cell? ⟨w.heap.size+1,0,none⟩=some (.int .i64 0):=aj hR.b2 0
   have j1:wr.cell? ⟨w.heap.size+1,1,none⟩=some (.int .i64 0):=aj hR.b2 1
   have j2:wr.cell? ⟨w.heap.size+1,2,none⟩=some (.string ⟨#[]⟩):=aj hR.b2 2
   have j3:wr.cell? ⟨w.heap.size+1,3,none⟩=some (.slice none 0 0):=aj hR.b2 3
   have j4:wr.cell? ⟨w.heap.size+1,4,none⟩=some (.slice none 0 0):=aj hR.b2 4
   have z0:=Mk.fI hR.b2 0
   have z1:=Mk.fI hR.b2 1
   have z2:=Mk.fI hR.b2 2
   have z3:=Mk.fI hR.b2 3
   have z4:=Mk.fI hR.b2 4
   have hnn:(0:Int)≤(n:Int):=by omega
   have aet:(n:Int)≤(es.length:Int):=by have:=Ky.out.1;omega
   rcases hsh with⟨he,rfl,rfl⟩|⟨g,rfl,mK⟩
   ·have Tc:Hid (Mk.XX gl G w σ es x n 0 wr Gk (.int .i64 c0) (.int .i64 c1) (.string c2) (.slice a1 a2 a3) (.slice b1 b2 b3)∧Mk.Nc Gk wr b cs es cv2 el2 (.slice none 0 0) xs2∧σ[b]?=some cs):=⟨hR,by rw[he]at hX;exact hX,hb⟩
    rw[he]at d16
    obtain rfl:n=0:=by omega
    clear hR hX hb hz
    go_wp2_with fail
    refine Mk.CU (B:=w.heap.size+1) (x0:=.int .i64 c0) (x1:=.int .i64 c1) (x2:=.string c2) (x3:=.slice a1 a2 a3) (x4:=.slice b1 b2 b3) ?_ rfl (HS.out.2.2.2.2 _ _ ?_)
    ·exact heap_setCell_same _ _ _ _ _ _ (heap_setCell_same _ _ _ _ _ _ (heap_setCell_same _ _ _ _ _ _ (heap_setCell_same _ _ _ _ _ _ (heap_setCell_same _ _ _ _ _ _ ((heap_setCell_other _ _ _ _ hm4).trans Tc.out.1.b2)))))
    ·have uA:=Mk.Nf HS.out.1.wf Tc.out.2.2 Tc.out.1 Tc.out.2.1 Ky.out.1
     unfold Mk.five at uA
     rw[Ms]at uA
     exact uA
   ·have Tc:Hid (Mk.XX gl G w σ es x n 0 wr Gk (.int .i64 c0) (.int .i64 c1) (.string c2) (.slice a1 a2 a3) (.slice b1 b2 b3)∧Mk.Nc Gk wr b cs es cv2 el2 (.slice (some ⟨g,0,none⟩) es.length vc2) xs2∧σ[b]?=some cs):=⟨hR,hX,hb⟩
    have aef:(n:Int)≤(vc2:Int):=by omega
    have aeg:(es.length:Int)≤(vc2:Int):=by omega
    clear hR hX hb hz
    go_wp2_with fail
    refine Mk.CU (B:=w.heap.size+1) (x0:=.int .i64 c0) (x1:=.int .i64 c1) (x2:=.string c2) (x3:=.slice a1 a2 a3) (x4:=.slice b1 b2 b3) ?_ rfl (HS.out.2.2.2.2 _ _ ?_)
    ·exact heap_setCell_same _ _ _ _ _ _ (heap_setCell_same _ _ _ _ _ _ (heap_setCell_same _ _ _ _ _ _ (heap_setCell_same _ _ _ _ _ _ (heap_setCell_same _ _ _ _ _ _ ((heap_setCell_other _ _ _ _ hm4).trans Tc.out.1.b2)))))
    ·have uA:=Mk.Nd HS.out.1.wf Tc.out.2.2 Tc.out.1 Tc.out.2.1 Ky.out.1
     unfold Mk.five at uA
     rw[Ms]at uA
     exact uA
  ·obtain⟨i,hi⟩:∃i,i=n+k':=⟨_,rfl⟩
   have hil:i<es.length:=by omega
   obtain rfl:z=(i:Int):=by omega
   have S8:(n:Int)≤(i:Int):=by omega
   have hi0:(0:Int)≤(i:Int):=by omega
   have hi1:(i:Int)<(es.length:Int):=by omega
   have adt:IntKind.i64.wrap ((i:Int) - 1)=(i:Int) - 1:=by have:=Ky.out.2.1;simp(disch:=omega) only[IntWalk.i64_in]
   obtain⟨g,rfl,mK⟩:∃g,vp2=some ⟨g,0,none⟩∧es.length≤vc2:=by
    rcases hsh with⟨he,_⟩|h
    ·omega
    ·exact h
   have hy:es[i]?=some es[i]:=List.getElem?_eq_getElem hil
   have hym:Mk.AV es[i]=true:=by
    have:=List.all_eq_true.1 HS.out.2.2.1 es[i] (List.mem_iff_getElem?.2 ⟨k',by rw[List.getElem?_drop,←hi];exact hy⟩)
    exact this
   generalize es[i]=y at hy hym
   obtain⟨zs,TR,Nb,hz3⟩:=Mk.Uj hX.row.row hy
   obtain⟨d0,d1,d2,d3,d4,d5,d6,d7,d8,rfl,hyr⟩:=Mk.Kw hym TR hz3
   have e0:wr.cell? ⟨g,i*5,none⟩=some (.int .i64 d0):=Nb 0 _ rfl
   have e1:wr.cell? ⟨g,i*5+1,none⟩=some (.int .i64 d1):=Nb 1 _ rfl
   have e2:wr.cell? ⟨g,i*5+2,none⟩=some (.string d2):=Nb 2 _ rfl
   have e3:wr.cell? ⟨g,i*5+3,none⟩=some (.slice d3 d4 d5):=Nb 3 _ rfl
   have e4:wr.cell? ⟨g,i*5+4,none⟩=some (.slice d6 d7 d8):=Nb 4 _ rfl
   have yN:=(hX.row.row.own.lt g rfl).2
   have hgb:=(hX.row.eZ g rfl).1
   have By:g≠w.heap.size:=by rintro rfl;rw[hR.o1.own]at hgb;simp at hgb
   have S9:w.heap.size≠g:=fun e=>By e.symm
   have hlr:G.μ b<wr.heap.size:=by omega
   have hlB:=(Array.getElem?_eq_some_iff.1 hR.b1).1
   have Tc:Hid (Mk.XX gl G w σ es x n (k'+1) wr Gk (.int .i64 c0) (.int .i64 c1) (.string c2) (.slice a1 a2 a3) (.slice b1 b2 b3)∧Mk.Nc Gk wr b cs es cv2 el2 (.slice (some ⟨g,0,none⟩) es.length vc2) xs2∧es[i]?=some y∧i=n+k'∧
    Rel Gk wr (.agg y) (.agg #[.int .i64 d0,.int .i64 d1,.string d2,.slice d3 d4 d5,.slice d6 d7 d8])):=⟨hR,hX,hy,hi,hyr⟩
   have after:∀W1:World,RowKit.Below wr.drew.heap.size wr.drew W1→W1.cell? ⟨G.μ b,16,none⟩=some (.slice (some ⟨g,0,none⟩) es.length vc2)∧W1.cell? ⟨g,i*5,none⟩=some (.int .i64 d0)∧W1.cell? ⟨g,i*5+1,none⟩=some (.int .i64 d1)∧W1.cell? ⟨g,i*5+2,none⟩=some (.string d2)∧
     W1.cell? ⟨g,i*5+3,none⟩=some (.slice d3 d4 d5)∧W1.cell? ⟨g,i*5+4,none⟩=some (.slice d6 d7 d8)∧W1.heap[w.heap.size]?=some (.cells #[.int .i64 c0,.int .i64 c1,.string c2,.slice a1 a2 a3,.slice b1 b2 b3] 53 (0,0)):=fun W1 hB=>by
    have BD:=hB.block g yN
    have WZ:=hB.block (G.μ b) hlr
    have jI:=hB.block w.heap.size hlB
    have cg:∀o,W1.cell? ⟨g,o,none⟩=wr.cell? ⟨g,o,none⟩:=fun o=>by simp only[World.cell?,BD];rfl
    have cr:∀o,W1.cell? ⟨G.μ b,o,none⟩=wr.cell? ⟨G.μ b,o,none⟩:=fun o=>by simp only[World.cell?,WZ];rfl
    exact⟨(cr 16).trans d16,(cg _).trans e0,(cg _).trans e1,(cg _).trans e2,(cg _).trans e3,(cg _).trans e4,jI.trans Tc.out.1.b1⟩
   clear hR hX hb hz TR Nb hz3 hyr hy hym hgb hi hnk hy5 hsh
   go_wp2_with fail
   go_region_with (first|(go_at_call 254;refine(Mk.XW _ _ _ _ _ _ _ _ _ _ _).mono ?_;rintro e W1 ⟨g1,rfl,hP⟩;obtain⟨t0,t1,t2,t3,t4,t5,t6⟩:=after W1 hP.below;have v0:=aj t6 0;have v1:=aj t6 1;have v2:=aj t6 2;have v3:=aj t6 3;have v4:=aj t6 4;have y0:=Mk.fI t6 0;have y1:=Mk.fI t6 1;have y2:=Mk.fI t6 2;have y3:=Mk.fI t6 3;have y4:=Mk.fI t6 4))
   all_goals
    go_wp2_with fail
    go_roundg k'
    case measure=>omega
    case rel=>
     obtain⟨p1,p2,p3,p4,p5⟩:=Tc.out
     have uA:=Mk.Ii p1 p2 (by rw[←p4];exact p3) p5 hP
     unfold Mk.five at uA
     exact⟨_,_,_,_,_,_,_,rfl,by rw[p4],by omega,uA⟩
theorem CX {C:Ctx} (ig:∀(args:Array Value) (w:World),(callFunc 224 args).run Tryz.prog w=.ok (.enter 224 args) w):
  ji Tryz.prog C (fun g args σ=>if g=224 then Mk.kF args σ else none):=by
 intro g args σ r h0
 simp only at h0
 split at h0
 case isFalse=>simp at h0
 rename_i BD
 subst BD
 refine⟨ig,fun G w vals hS gE hlen hv=>?_⟩
 unfold Mk.kF at h0
 split at h0
 case h_2=>simp at h0
 rename_i t b o ow v ow2 n ow3
 split at h0
 case isFalse=>simp at h0
 rename_i Ug
 obtain⟨rfl,rfl,hn0⟩:=Ug
 obtain⟨p,hp,h1⟩:=Option.bind_eq_some_iff.1 h0
 obtain⟨x5,W9,h1⟩:=Option.bind_eq_some_iff.1 h1
 split at h1
 case isFalse=>simp at h1
 rename_i Ky
 obtain rfl:=Option.some.inj h1
 obtain⟨cs,es⟩:=p
 obtain⟨x,y,z,rfl⟩:∃x y z,vals=[x,y,z]:=by
  match vals,hlen with
  |[x,y,z],_=>exact⟨x,y,z,rfl⟩
 have r0:=(hv 0 _ x rfl rfl).1
 have r1:=(hv 1 _ y rfl rfl).1
 have r2:=(hv 2 _ z rfl rfl).1
 simp only at r0 r1 r2
 obtain rfl:z=.int .i64 n:=by cases r2;rfl
 have hva:v=.agg x5:=by
  unfold Mk.uO at W9
  split at W9
  ·exact congrArg V.agg (Option.some.inj W9)
  ·simp at W9
 obtain⟨k,m,q,a1,a2,a3,b1,b2,b3,_,_,_,_,_,_,rfl,_,_,_⟩:=Mk.tK r1 W9
 subst hva
 cases r0 with
 |ptr _ _ _ M9 Ie=>
 obtain⟨n,rfl⟩:∃k:Nat,n=(k:Int):=⟨n.toNat,by omega⟩
 refine Mk.Kx hS hp M9 (by simpa using Ky.1) (by simpa using Ky.2) ⟨_,W9⟩ r1 _ fun e w' hQ=>?_
 obtain⟨G',c0,c1,c2,c3,c4,rfl,e1,s1,r1⟩:=hQ
 refine⟨G',e1,s1,[.agg #[c0,c1,c2,c3,c4]],rfl,by simp,fun i c x hc hx=>?_⟩
 match i with
 |0=>simp at hc hx;subst hc;subst hx;exact⟨r1,fun ho=>by simp at ho⟩
 |i+1=>simp at hc
end Go.Ab
end
section
namespace Go.Ab
open Go.RowKit Go.Proofs
set_option maxRecDepth 100000
set_option maxHeartbeats 2000000
theorem Mk.PW:(Tryz.prog.info? 56).map (fun i=>(i.zero,i.size,i.bytes))=some (some (.agg #[.int .i64 0,.string ⟨#[]⟩,.slice none 0 0,.int .i64 0,.int .i64 0,.string ⟨#[]⟩,.slice none 0 0,.slice none 0 0,.int .i64 0,.int .i64 0,.string ⟨#[]⟩,.slice none 0 0,.slice none 0 0,.int .i64 0,.slice none 0 0]),15,240):=by kernel_rfl
def Mk.CnQ (w:World) (n:Nat) (xs:List Value) (e:Ending) (w':World):Prop:=
 ∃g c,e=.returned (.slice (some ⟨g,0,none⟩) n c)∧w.heap.size≤g∧w'.ownsRow 0 56 15 (.slice (some ⟨g,0,none⟩) n c) n xs∧RowKit.Below w.heap.size w w'
theorem Mk.Rh (w:World) (Q:Ending→World→Prop) (hQ:Q (.returned (.slice none 0 0)) w):Calls Tryz.prog 30 #[.slice none 0 0] w Q:=by
 go_enter Tryz.func30,Tryz.ntmps30
 have hu:∀W:World,(binOp .eql 66 (.slice none 0 0) (.slice none 0 0)).run Tryz.prog W=.ok (.bool true) W:=fun W=>Lib.run_eql_slice_nil W _ _ none _ _ _ _ Tryz.underlying66
 go_wp2_with fail
 exact hQ
theorem Mk.Nh (w:World) (g n c:Nat) (xs:List Value) (ja:w.ownsRow 0 56 15 (.slice (some ⟨g,0,none⟩) n c) n xs) (h1:∀x∈xs,x.oneCell'=true) (hn:n<100000000) (Q:Ending→World→Prop) (hQ:∀e w',Mk.CnQ w n xs e w'→Q e w'):
  Calls Tryz.prog 30 #[.slice (some ⟨g,0,none⟩) n c] w Q:=by
 obtain⟨i0,hi,hz0,TR,Nb⟩:=info_parts Mk.PW
 have yN:=(ja.lt g rfl).2
 have hu:∀W:World,(binOp .eql 66 (.slice (some ⟨g,0,none⟩) n c) (.slice none 0 0)).run Tryz.prog W=.ok (.bool false) W:=fun W=>Lib.run_eql_slice_nil W _ _ (some _) _ _ _ _ Tryz.underlying66
 go_enter Tryz.func30,Tryz.ntmps30
 have hO:∀W:World,Hid ((w.alloc (.cells #[] 56)).ownsRow w.heap.size 56 15 (.slice (some ⟨w.heap.size,0,none⟩) 0 0) 0 []):=fun _=>⟨rfl,.inr ⟨w.heap.size,0,#[],rfl,Nat.le_refl _,heap_alloc_new _ _,Nat.le_refl _,Nat.zero_le _,rfl,rfl⟩⟩
 have hN:Hid (∀j u,xs[j]?=some u→(w.alloc (.cells #[] 56)).cell? ((⟨g,0,none⟩:Addr).add j)=some u):=fun j u hj=>by
  have hl:=(List.getElem?_eq_some_iff.1 hj).1
  rw[Addr.add_lit,Nat.zero_add]
  have h2:(w.alloc (.cells #[] 56)).cell? ⟨g,j,none⟩=w.cell? ⟨g,j,none⟩:=by simp only[World.cell?,aO yN]
  rw[h2,ja.cellAt j (by rw[ja.1]at hl;exact hl)]
  exact hj
 have HX:Hid (xs.length=n*15∧(∀x∈xs,x.oneCell'=true)∧∀e w',Mk.CnQ w n xs e w'→Q e w'):=⟨ja.1,h1,hQ⟩
 clear ja h1 hQ
 go_wp2_with (first
  |(at_builtin;refine wpList_append_own _ rfl _ _ 66 rfl w.heap.size 56 i0 _ 15 240 Tryz.underlying66 hi hz0 TR Nb rfl (by decide) _ _ _ rfl (hO w).out ⟨g,0,none⟩ n c xs rfl HX.out.1 hN.out HX.out.2.1 (by unfold maxLen;omega) (by omega) (by simp) ?_;intro v' w1 ko qO yX)
  |fail)
 simp only[Nat.zero_add,List.nil_append]at ko
 have hb:∀o,RowKit.Below w.heap.size w (w.alloc o):=fun o=>(RowKit.Below.refl w.heap.size w).alloc (Nat.le_refl _) _
 rcases ko.2 with⟨h,_⟩|⟨g',J3,cur,rfl,q1,q2,q3,q4,q5,q6⟩
 ·have h2:=(yX.1 h).1
  injection h2 with h3
  cases h3
 ·refine HX.out.2.2 _ _ ⟨g',J3,rfl,q1,⟨ko.1,.inr ⟨g',J3,cur,rfl,Nat.zero_le _,q2,q3,q4,q5,q6⟩⟩,?_⟩
  have hs:(w.alloc (.cells #[] 56)).heap.size=w.heap.size+1:=by show(w.heap.push _).size=_;rw[Array.size_push]
  refine⟨qO.os,qO.tape,qO.output,Nat.le_trans (by rw[hs];omega) qO.size,fun i hi=>?_⟩
  exact(qO.block i (by rw[hs];omega) (fun e=>by have h3:i=w.heap.size:=Option.some.inj e;omega)).trans (aO hi)
theorem Mk.CY (w:World) (qb:Nat) (v:Value) (c0:w.cell? ⟨qb,0,none⟩=some v) (hv:∃p l c,v=.slice p l c) (Q:Ending→World→Prop) (hQ:Calls Tryz.prog 30 #[v] w fun e w'=>(∃v',e=.returned v')∧Q e w'):
    Calls Tryz.prog 20 #[.pointer (some ⟨qb,0,none⟩)] w Q:=by
  obtain⟨p,l,c,rfl⟩:=hv
  go_enter Tryz.func20,Tryz.ntmps20
  go_wp2_with (go_at_call 30;refine hQ.mono ?_;rintro e w' ⟨⟨v',rfl⟩,hq⟩)
  exact hq
theorem Ni {C:Ctx} (ig:∀(args:Array Value) (w:World),(callFunc 20 args).run Tryz.prog w=.ok (.enter 20 args) w):
  ji Tryz.prog C (fun g args σ=>if g=20 then Mk.mD args σ else none):=by
 intro g args σ r h0
 simp only at h0
 split at h0
 case isFalse=>simp at h0
 rename_i BD
 subst BD
 refine⟨ig,fun G w vals hS gE hlen hv=>?_⟩
 unfold Mk.mD at h0
 split at h0
 case h_2=>simp at h0
 rename_i t b o ow
 split at h0
 case isFalse=>simp at h0
 rename_i Ug
 obtain⟨rfl,rfl⟩:=Ug
 obtain⟨p,hp,h1⟩:=Option.bind_eq_some_iff.1 h0
 obtain rfl:=Option.some.inj h1
 obtain⟨ds,ks,es⟩:=p
 obtain⟨x,rfl⟩:∃x,vals=[x]:=by
  match vals,hlen with
  |[x],_=>exact⟨x,rfl⟩
 have r0:=(hv 0 _ x rfl rfl).1
 simp only at r0
 cases r0 with
 |ptr _ _ _ M9 Ie=>
 obtain⟨c,x0,mb,bY,clock,hb,hX⟩:=Mk.tH hS hp
 obtain⟨el,jR⟩:=hX.eZ
 obtain⟨xs,hR⟩:=Ig hX.row hX.of
 have c0:w.cell? ⟨G.μ b,0,none⟩=some x0:=aj jR 0
 have T7:ds.length<100000000:=by
  have he:=hX.of
  unfold Mk.rowOf at he
  split at he
  ·split at he
   ·rename_i hh;obtain rfl:=Option.some.inj he;exact hh.2.2
   ·simp at he
  ·obtain rfl:=Option.some.inj he;simp
  ·simp at he
 rcases hR.row.own.2 with⟨rfl,h0⟩|⟨g,cap,cur,rfl,_,q2,q3,_⟩
 ·have Ko:ds=[]:=List.length_eq_zero_iff.1 h0
  refine Mk.CY w (G.μ b) _ c0 ⟨_,_,_,rfl⟩ _ (Mk.Rh w _ ⟨⟨_,rfl⟩,G,Ext.refl _ _,hS,[.slice none 0 0],rfl,by simp,fun i c x hc hx=>?_⟩)
  match i with
  |0=>simp at hc hx;subst hc;subst hx;rw[Ko];exact⟨.rh _ _,fun ho=>by simp at ho⟩
  |i+1=>simp at hc
 ·have h1:∀x∈xs,x.oneCell'=true:=fun x hx=>by
   obtain⟨i,hi⟩:=List.getElem?_of_mem hx
   have hl:=(List.getElem?_eq_some_iff.1 hi).1
   rw[hR.row.own.1]at hl
   have hd:ds[i / 15]?=some (ds[i / 15]'(by omega)):=List.getElem?_eq_getElem _
   have adu:=hR.row.len _ (List.mem_of_getElem? hd)
   obtain⟨c,e1,e2,_⟩:=hR.row.rel (i / 15) (i%15) _ _ hd (List.getElem?_eq_getElem (by rw[adu];omega))
   rw[show i / 15*15+i%15=i by omega,hi]at e1
   obtain rfl:=Option.some.inj e1
   exact e2
  refine Mk.CY w (G.μ b) _ c0 ⟨_,_,_,rfl⟩ _ (Mk.Nh w g ds.length cap xs hR.row.own h1 T7 _ fun e w' hQ=>?_)
  obtain⟨g',c',rfl,S8,ja,hB⟩:=hQ
  refine⟨⟨_,rfl⟩,?_⟩
  have hM:gF w.heap.size G w w':=gF.wT hB
  have og:nB w.heap.size G g':=nB.new hS.wf (Nat.le_refl _) S8
  have yN:=(ja.lt g' rfl).2
  refine⟨G.settle g' (ds.length*15),((hM.JS hS.wf (Nat.le_refl _)).trans (Gh.vn og)).PD,Gh.rz og yN (hM.vj hS),[.slice (some ⟨g',0,none⟩) ds.length c'],rfl,by simp,fun i c x hc hx=>?_⟩
  match i with
  |0=>
   simp at hc hx;subst hc;subst hx
   refine⟨?_,fun ho=>by simp at ho⟩
   have Xo:=ja.1
   have up:∀v c,Rel G w v c→Rel (G.settle g' (ds.length*15)) w' v c:=fun v c h=>Gh.kq og.ah (hM.rel hS.wf h)
   have mK:ds.length≤c':=by
    rcases ja.2 with⟨h,_⟩|⟨g2,aeu,aev,h,_,_,h3,_⟩
    ·simp at h
    ·injection h with h4 h5 h6;omega
   have Uk:∀(i:Nat) (x:List Value),((List.range ds.length).map fun i=>(xs.drop (i*15)).take 15)[i]?=some x→i<ds.length∧x=(xs.drop (i*15)).take 15:=fun i x hx=>by
    rw[List.getElem?_map,Option.map_eq_some_iff]at hx
    obtain⟨j,hj,rfl⟩:=hx
    obtain⟨h1,h2⟩:=List.getElem?_eq_some_iff.1 hj
    rw[List.length_range]at h1
    rw[List.getElem_range]at h2
    subst h2
    exact⟨h1,rfl⟩
   have abZ:∀(i j:Nat) (c:Value),i<ds.length→((xs.drop (i*15)).take 15)[j]?=some c→j<15∧xs[i*15+j]?=some c:=fun i j c hi hc=>by
    rw[List.getElem?_take]at hc
    split at hc
    ·rw[List.getElem?_drop]at hc;exact⟨by assumption,hc⟩
    ·simp at hc
   refine Rel.slice 15 _ ds g' 0 c' ((List.range ds.length).map fun i=>(xs.drop (i*15)).take 15) (by simp) mK ?_ (fun i x hx=>hR.row.len x (List.mem_of_getElem? hx)) (fun i x hx=>?_) (fun i j x c hx hc=>?_) (fun i j ev x v c he hx hv hc=>?_)
   ·show 0+ds.length*15≤if g'=g' then ds.length*15 else _
    rw[if_pos rfl];omega
   ·obtain⟨a1,rfl⟩:=Uk i x hx
    rw[List.length_take,List.length_drop]
    omega
   ·obtain⟨a1,rfl⟩:=Uk i x hx
    obtain⟨a2,a3⟩:=abZ i j c a1 hc
    rw[Nat.zero_add]
    exact⟨by rw[ja.cellAt (i*15+j) (by omega)];exact a3,h1 c (List.mem_of_getElem? a3)⟩
   ·obtain⟨a1,rfl⟩:=Uk i x hx
    obtain⟨a2,a3⟩:=abZ i j c a1 hc
    obtain⟨c2,e1,_,e3⟩:=hR.row.rel i j ev v he hv
    rw[a3]at e1
    obtain rfl:=Option.some.inj e1
    exact up _ _ e3
  |i+1=>simp at hc
end Go.Ab
end
section
namespace Go.Ab
open Go.RowKit Go.Proofs
set_option maxRecDepth 100000
set_option maxHeartbeats 1000000
structure Mk.Ri (G:Gh) (w:World) (b:Nat) (ks:List ByteArray) (es:List (List V)) (x0:Value) (mb:Nat) (bY:Array MapEntry) (clock:Nat):Prop where
 eZ:∃el,w.heap[G.μ b]?=some (.cells #[x0,.map (some mb)] el (0,0))
 map:Mk.XP w mb bY clock ks
 len:es.length=ks.length
 nodup:ks.Nodup
 el:∀(i:Nat) (x:List V) (e:MapEntry),es[i]?=some x→bY[i]?=some e→Rel G w (.eL x.length x 0) e.val∧e.val.oneCell'=true
 own:G.owner mb=some (.gc b 1)∧G.ah mb=0
theorem Mk.XZ {gl:Nat→Option (List V)} {G:Gh} {w:World} {σ:az} {b:Nat} {c:Cell} {es:List (List V)} {ks:List ByteArray} (hS:dR gl G w σ) (hb:σ[b]?=some [c,(.jM ks es,true)]):
  ∃x0 mb bY clock,Mk.Ri G w b ks es x0 mb bY clock:=by
 obtain⟨cv,el,g1,g2,g3,g4,g5⟩:=hS.eZ b _ hb
 obtain⟨x0,x1,rfl⟩:∃x0 x1,cv=#[x0,x1]:=by
  have hl:cv.toList.length=2:=by simpa using g2
  match hh:cv.toList,hl with
  |[x0,x1],_=>exact⟨x0,x1,by apply Array.ext';rw[hh]⟩
 obtain⟨⟨r1,o1⟩,_⟩:=g5 1 _ x1 rfl rfl
 have o1:=o1 rfl
 simp only at r1 o1
 cases r1 with
 |jM _ _ mb=>
 obtain⟨p1,p2,bY,clock,q1,q2,q3,q4,q5⟩:=o1
 exact⟨x0,mb,bY,clock,⟨el,g1⟩,⟨q1,q2⟩,q3,q4,q5,p1,p2⟩
def Mk.uB (w:World) (mb:Nat) (o:Obj):World:={w with heap:=w.heap.setIfInBounds mb o}
theorem Mk.mE {w:World} {mb i:Nat} (h:mb≠i) (o:Obj) (j:Nat):(Mk.uB w mb o).cell? ⟨i,j,none⟩=w.cell? ⟨i,j,none⟩:=by
 have:(Mk.uB w mb o).heap[i]?=w.heap[i]?:=by
  show(w.heap.setIfInBounds mb o)[i]?=_
  rw[Array.getElem?_setIfInBounds,if_neg h]
 simp only[World.cell?,this]
theorem Mk.Ri.apart {G:Gh} {w:World} {b:Nat} {ks:List ByteArray} {es:List (List V)} {x0:Value} {mb:Nat} {bY:Array MapEntry} {clock:Nat} (h:Mk.Ri G w b ks es x0 mb bY clock):mb≠G.μ b:=by
 rintro rfl
 obtain⟨el,hb⟩:=h.eZ
 rw[h.map.hb]at hb
 simp at hb
theorem Mk.Ij {P:Program} {t k e:TypeId} {w:World} {mb:Nat} {bY:Array MapEntry} {clock:Nat} {ks:List ByteArray} {s:ByteArray} {val:Value} (hk:P.underlying k=some .string) (ht:P.underlying t=some (.map k e))
  (hb:w.heap[mb]?=some (.map bY clock)) (hks:bY.toList.map (fun e=>e.key)=ks.map (fun s=>Value.string s)):
  (Instr.mapUpdate t (.map (some mb)) (.string s) val).run P w=.ok () (Mk.uB w mb (dT bY clock ks s val)):=by
 have hsk:MapKept.IsKey .string (.string s):=trivial
 rcases rP s bY.toList ks 0 hks with⟨h1,h2⟩|⟨j,e',h1,h2,h4,h3⟩
 ·simp[Instr.mapUpdate,run_underlying ht,MapKept.run_getObj_map hb,MapKept.run_checkKey hk hsk,MapKept.run_findKey hk h2,MapKept.run_setObj_map _ hb,Result.andThen]
  unfold dT
  rw[h1]
  rfl
 ·have hj:bY[j]?=some e':=by simpa using h2
  simp[Instr.mapUpdate,run_underlying ht,MapKept.run_getObj_map hb,MapKept.run_checkKey hk hsk,MapKept.run_findKey hk h3,hj,h4,MapKept.run_keyThatStays hsk,MapKept.run_setObj_map _ hb,Result.andThen]
  unfold dT
  rw[h1]
  rfl
section
variable {gl:Nat→Option (List V)} {G:Gh} {W w1 W1:World} {σ:az} {b:Nat} {c:Cell} {ds es:List (List V)} {ks:List ByteArray} {x0:Value} {mb:Nat} {bY:Array MapEntry} {clock:Nat} {xs zs:List Value} {y:List V} {s:ByteArray}
theorem Mk.Ul (hS:dR gl G W σ) (hX:Mk.Uc G W b c ds ks es x0 mb bY clock) (hb:σ[b]?=some [c,(.jM ks es,true)]) (hR:xr G W (.gc b 0) 15 56 ds x0 xs) (hy:y.length=15) (hz:zs.length=15)
    (hr:∀(j:Nat) (v:V),y[j]?=some v→∃c,zs[j]?=some c∧c.oneCell'=true∧Rel G W v c) {o1:Obj} {v':Value} (ko:w1.ownsRow 0 56 15 v' (ds.length+1) (xs++zs)) (hg:(W.drew.alloc o1).grownBy w1 x0.ownBlock)
    (CJ:v'.ownBlock=x0.ownBlock∨v'.ownBlock=some (W.drew.alloc o1).heap.size):
    ∃G',dR gl G' (w1.setCell ⟨G.μ b,0,none⟩ v') (σ.set b [(.row 15 56 (ds++[y]),true),(.jM ks es,true)])∧Ext G W G' (w1.setCell ⟨G.μ b,0,none⟩ v')∧∀i,i<W.heap.size→i≠G.μ b→G.owner i≠some (.gc b 0)→(w1.setCell ⟨G.μ b,0,none⟩ v').heap[i]?=W.heap[i]?:=by
  obtain⟨el,jR⟩:=hX.eZ
  have hmu:=(Array.getElem?_eq_some_iff.1 jR).1
  have hs:(W.drew.alloc o1).heap.size=W.heap.size+1:=by show(W.heap.push o1).size=_;rw[Array.size_push]
  obtain⟨g,cap,rfl⟩:=Mk.CR ko
  have yN:=(ko.lt g rfl).2
  have iM:=hg.size
  rw[hs]at iM CJ
  have eJ:x0.ownBlock≠some (G.μ b):=fun h=>by
    have h1:=(hR.eZ _ h).1
    obtain⟨cv,el',k1,k2,k3,k4,k5⟩:=hS.eZ b _ hb
    rw[k3]at h1
    simp at h1
  have Hs:x0.ownBlock=some g∨W.heap.size≤g:=by
    rcases CJ with e|e
    · exact .inl e.symm
    · have:g=W.heap.size+1:=Option.some.inj e
      omega
  have Hw:G.ah g=0:=by
    rcases Hs with h|h
    · exact(hR.eZ _ h).2
    · exact(hS.wf g h).1
  have rv:∀i,i<W.heap.size→x0.ownBlock≠some i→w1.heap[i]?=W.heap[i]?:=fun i hi hv=>by
    refine(hg.block i (by rw[hs];omega) (fun e=>hv e.symm)).trans ?_
    exact aO (w:=W.drew) hi
  have Fo:∀i,i<W.heap.size→i≠G.μ b→x0.ownBlock≠some i→(w1.setCell ⟨G.μ b,0,none⟩ (.slice (some ⟨g,0,none⟩) (ds.length+1) cap)).heap[i]?=W.heap[i]?:=fun i hi h1 h2=>(heap_setCell_other _ _ _ _ h1).trans (rv i hi h2)
  have Zv:g≠G.μ b:=by
    rintro rfl
    rcases Hs with h|h
    · exact eJ h
    · omega
  have H:∀e:Ext G W (G.held g (.gc b 0)) (w1.setCell ⟨G.μ b,0,none⟩ (.slice (some ⟨g,0,none⟩) (ds.length+1) cap)),xr (G.held g (.gc b 0)) (w1.setCell ⟨G.μ b,0,none⟩ (.slice (some ⟨g,0,none⟩) (ds.length+1) cap)) (.gc b 0) 15 56 (ds++[y]) (.slice (some ⟨g,0,none⟩) (ds.length+1) cap) (xs++zs):=fun e=>by
    refine⟨hR.row.snoc (fun _ _ h=>h.mono e) (iU ko fun i hi=>?_) hy hz fun j v hj=>?_,fun i hi=>?_⟩
    · obtain rfl:g=i:=Option.some.inj hi
      exact heap_setCell_other _ _ _ _ Zv
    · obtain⟨c,q1,q2,q3⟩:=hr j v hj
      exact⟨c,q1,q2,q3.mono e⟩
    · obtain rfl:g=i:=Option.some.inj hi
      exact⟨if_pos rfl,Hw⟩
  obtain⟨f1,f2⟩:=hS.hold (c':=(.row 15 56 (ds++[y]),true)) (x':=.slice (some ⟨g,0,none⟩) (ds.length+1) cap) (g:=g) (w':=w1.setCell ⟨G.μ b,0,none⟩ (.slice (some ⟨g,0,none⟩) (ds.length+1) cap)) hb (j:=0) (by simp) Hw
    (by rcases Hs with h|h
        · exact .inl (hR.eZ _ h).1
        · exact .inr h) (by rw[Mk.ej];exact yN)
    (fun XU el' fr h=>by
      have h0:=(rv _ hmu eJ).trans h
      rw[jR]at h
      simp only[Option.some.injEq,Obj.cells.injEq]at h
      obtain⟨rfl,rfl,rfl⟩:=h
      exact heap_setCell_same _ _ _ _ _ _ h0)
    (fun i hi eJ wQ=>Fo i hi eJ fun h=>wQ ⟨(hR.eZ _ h).2,(hR.eZ _ h).1⟩)
    hg.os hg.tape hg.output (by rw[Mk.ej];omega) rfl (fun e=>(H e).XV)
  exact⟨_,f1,f2,fun i hi h1 h2=>Fo i hi h1 fun h=>h2 (hR.eZ _ h).1⟩
theorem Mk.Um {n0 eb:Nat} {vals:List Value} {t:TypeId} (hS:dR gl G W σ) (hX:Mk.Ri G W b ks es x0 mb bY clock) (hb:σ[b]?=some [c,(.jM ks es,true)]) (hn0:n0≤W.heap.size) (hB:RowKit.Below W.heap.size W W1) (S8:W.heap.size≤eb) (h9:W1.heap[eb]?=some (.cells vals.toArray t (0,0)))
  (hl:vals.length=y.length) (h1:∀v∈vals,v.oneCell'=true) (hr:∀(i:Nat) (v:V) (c:Value),y[i]?=some v→vals[i]?=some c→Rel G W v c):
  ∃G',dR gl G' {W1 with heap:=W1.heap.setIfInBounds mb (dT bY clock ks s (.pointer (some ⟨eb,0,none⟩)))} (σ.set b [c,(.jM (Mk.iC (ks,es) s y).1 (Mk.iC (ks,es) s y).2,true)])∧
   qZ n0 G W G' {W1 with heap:=W1.heap.setIfInBounds mb (dT bY clock ks s (.pointer (some ⟨eb,0,none⟩)))}∧(∀v c,Rel G W v c→Rel G' {W1 with heap:=W1.heap.setIfInBounds mb (dT bY clock ks s (.pointer (some ⟨eb,0,none⟩)))} v c)∧
   ∀i,i<W.heap.size→i≠mb→({W1 with heap:=W1.heap.setIfInBounds mb (dT bY clock ks s (.pointer (some ⟨eb,0,none⟩)))}:World).heap[i]?=W.heap[i]?:=by
 obtain⟨el,jR⟩:=hX.eZ
 have hmu:=(Array.getElem?_eq_some_iff.1 jR).1
 have hml:=(Array.getElem?_eq_some_iff.1 hX.map.hb).1
 have XM:=(Array.getElem?_eq_some_iff.1 h9).1
 have hM:gF n0 G W W1:=gF.wT hB
 have og:nB n0 G eb:=nB.new hS.wf hn0 S8
 have e1:qZ n0 G W (G.settle eb y.length) W1:=(hM.JS hS.wf hn0).trans (Gh.vn og)
 have s1:=Gh.rz (n:=y.length) og XM (hM.vj hS)
 have up:∀v c,Rel G W v c→Rel (G.settle eb y.length) W1 v c:=fun v c h=>Gh.kq og.ah (hM.rel hS.wf h)
 have hmb:(G.settle eb y.length).ah mb=0:=by
  show(if mb=eb then _ else _)=_
  rw[if_neg (by omega)]
  exact hX.own.2
 have hmm:G.μ b≠mb:=fun e=>by rw[e,hX.map.hb]at jR;simp at jR
 have PV:W1.heap[mb]?=some (.map bY clock):=(hB.block mb hml).trans hX.map.hb
 have Fo:∀i,i≠mb→({W1 with heap:=W1.heap.setIfInBounds mb (dT bY clock ks s (.pointer (some ⟨eb,0,none⟩)))}:World).heap[i]?=W1.heap[i]?:=fun i hi=>by
  show(W1.heap.setIfInBounds mb _)[i]?=_
  rw[Array.getElem?_setIfInBounds,if_neg (fun e=>hi e.symm)]
 have xa:({W1 with heap:=W1.heap.setIfInBounds mb (dT bY clock ks s (.pointer (some ⟨eb,0,none⟩)))}:World).heap[mb]?=some (dT bY clock ks s (.pointer (some ⟨eb,0,none⟩))):=by
  show(W1.heap.setIfInBounds mb _)[mb]?=_
  rw[Array.getElem?_setIfInBounds,if_pos rfl,if_pos (Array.getElem?_eq_some_iff.1 PV).1]
 have hin:xg (G.settle eb y.length) W1 ks es mb:=xg.move ⟨bY,clock,hX.map.hb,hX.map.keys,hX.len,hX.nodup,hX.el⟩ (fun {v c} h=>up v c h) (hB.block mb hml)
 have ab0:({W1 with heap:=W1.heap.setIfInBounds mb (dT bY clock ks s (.pointer (some ⟨eb,0,none⟩)))}:World).heap.size=W1.heap.size:=by
  show(W1.heap.setIfInBounds mb _).size=_
  simp
 have heb:eb≠mb:=by omega
 obtain⟨f1,f2⟩:=s1.hold (c':=(.jM (Mk.iC (ks,es) s y).1 (Mk.iC (ks,es) s y).2,true)) (x':=.map (some mb)) (g:=mb) (w':={W1 with heap:=W1.heap.setIfInBounds mb (dT bY clock ks s (.pointer (some ⟨eb,0,none⟩)))}) hb (j:=1) (by simp) hmb (.inl hX.own.1) (by rw[ab0];exact(Array.getElem?_eq_some_iff.1 PV).1)
  (fun XU el' fr h=>by
   have h0:W1.heap[G.μ b]?=some (.cells #[x0,.map (some mb)] el (0,0)):=(hB.block _ hmu).trans jR
   have h:W1.heap[G.μ b]?=some (.cells XU el' fr):=h
   rw[h0]at h
   simp only[Option.some.injEq,Obj.cells.injEq]at h
   obtain⟨rfl,rfl,rfl⟩:=h
   exact(Fo _ hmm).trans h0)
  (fun i _ _ wQ=>Fo i (by rintro rfl;exact wQ ⟨hmb,hX.own.1⟩))
  rfl rfl rfl (by rw[ab0];exact Nat.le_refl _) rfl
  (fun e=>by
   refine⟨.jM _ _ _,fun _=>⟨if_pos rfl,hmb,hin.put PV xa (fun h=>h.mono e) ?_ rfl⟩⟩
   have:Rel ((G.settle eb y.length).held mb (.gc b 1)) {W1 with heap:=W1.heap.setIfInBounds mb (dT bY clock ks s (.pointer (some ⟨eb,0,none⟩)))} (.eL y.length y 0) (.pointer (some ⟨eb,0+0,none⟩)):=by
    refine .eL y.length y 0 eb 0 vals rfl hl ?_ (fun i c hc=>⟨?_,h1 c (List.mem_of_getElem? hc)⟩) (fun i v c hv hc=>(up v c (hr i v c hv hc)).mono e)
    ·show 0+y.length≤if eb=eb then y.length else _
     rw[if_pos rfl];omega
    ·rw[aj ((Fo eb heb).trans h9) (0+i),Nat.zero_add]
     simpa using hc
   exact this)
 exact⟨_,f1,e1.trans (f2.toB (Nat.le_trans hn0 hB.size)),fun v c h=>(up v c h).mono f2,fun i hi eJ=>(Fo i eJ).trans (hB.block i hi)⟩
end
end Go.Ab
end
section
namespace Go.Ab
open Go.RowKit Go.Proofs
set_option maxRecDepth 100000
set_option maxHeartbeats 8000000
def Mk.Nj (gl:Nat→Option (List V)) (G:Gh) (w:World) (σ:az) (b:Nat) (D T:List Value) (c:Cell) (m:List ByteArray×List (List V)) (W:World):Prop:=
 ∃Gk,qZ w.heap.size G w Gk W∧dR gl Gk W (σ.set b [c,(.jM m.1 m.2,true)])∧(∀v c,Rel G w v c→Rel Gk W v c)∧
  W.heap[w.heap.size]?=some (.cells D.toArray 56 (0,0))∧W.heap[w.heap.size+1]?=some (.cells T.toArray 53 (0,0))∧Gk.owner w.heap.size=none∧Gk.owner (w.heap.size+1)=none
section
variable {gl:Nat→Option (List V)} {G:Gh} {w:World} {σ:az} {b:Nat} {c:Cell} {ds es:List (List V)} {ks:List ByteArray} {D T:List Value}
theorem Mk.aaA {x0:Value} {mb:Nat} {bY:Array MapEntry} {clock:Nat} {xs:List Value} {x:List V} (hS:dR gl G w σ) (hX:Mk.Uc G w b c ds ks es x0 mb bY clock) (hb:σ[b]?=some [c,(.jM ks es,true)]) (hR:xr G w (.gc b 0) 15 56 ds x0 xs) (hy:x.length=15) (hz:D.length=15)
  (hr:∀(j:Nat) (v:V),x[j]?=some v→∃c,D[j]?=some c∧c.oneCell'=true∧Rel G w v c) {o1:Obj} {v':Value} {w1:World}
  (ko:w1.ownsRow 0 56 15 v' (ds.length+1) (xs++D)) (hg:(((w.alloc (.cells D.toArray 56)).alloc (.cells T.toArray 53)).drew.alloc o1).grownBy w1 x0.ownBlock)
  (CJ:v'.ownBlock=x0.ownBlock∨v'.ownBlock=some (((w.alloc (.cells D.toArray 56)).alloc (.cells T.toArray 53)).drew.alloc o1).heap.size):
  Mk.Nj gl G w σ b D T (.row 15 56 (ds++[x]),true) (ks,es) (w1.setCell ⟨G.μ b,0,none⟩ v'):=by
 have hM:gF w.heap.size G w ((w.alloc (.cells D.toArray 56)).alloc (.cells T.toArray 53)):=((gF.refl _ _ _).alloc _).alloc _
 have QS:((w.alloc (.cells D.toArray 56)).alloc (.cells T.toArray 53)).heap.size=w.heap.size+2:=by show((w.heap.push _).push _).size=_;rw[Array.size_push,Array.size_push]
 have up:∀v c,Rel G w v c→Rel G ((w.alloc (.cells D.toArray 56)).alloc (.cells T.toArray 53)) v c:=fun v c h=>hM.rel hS.wf h
 have jR:∀i,i<w.heap.size→((w.alloc (.cells D.toArray 56)).alloc (.cells T.toArray 53)).heap[i]?=w.heap[i]?:=fun i hi=>(aO (by show i<(w.heap.push _).size;rw[Array.size_push];omega)).trans (aO hi)
 obtain⟨el,xb⟩:=hX.eZ
 have hmu:=(Array.getElem?_eq_some_iff.1 xb).1
 have hml:=(Array.getElem?_eq_some_iff.1 hX.map.hb).1
 have hX2:Mk.Uc G ((w.alloc (.cells D.toArray 56)).alloc (.cells T.toArray 53)) b c ds ks es x0 mb bY clock:=by
  refine⟨⟨el,(jR _ hmu).trans xb⟩,?_,hX.of,⟨(jR _ hml).trans hX.map.hb,hX.map.keys⟩,hX.len,hX.nodup,fun i x e hx he=>⟨up _ _ (hX.el i x e hx he).1,(hX.el i x e hx he).2⟩,hX.own⟩
  exact⟨up _ _ hX.row.1,fun ho=>hM.own hS.wf (hX.row.2 ho)⟩
 have hR2:xr G ((w.alloc (.cells D.toArray 56)).alloc (.cells T.toArray 53)) (.gc b 0) 15 56 ds x0 xs:=⟨hR.row.move up fun i hi=>jR _ (hR.row.own.lt i hi).2,hR.eZ⟩
 obtain⟨G',s1,e1,h1⟩:=Mk.Ul (hM.vj hS) hX2 hb hR2 hy hz (fun j v hj=>by obtain⟨c,q1,q2,q3⟩:=hr j v hj;exact⟨c,q1,q2,up _ _ q3⟩) ko hg CJ
 have n1:G.owner w.heap.size=none:=(hS.wf _ (Nat.le_refl _)).2
 have n2:G.owner (w.heap.size+1)=none:=(hS.wf _ (by omega)).2
 refine⟨G',(hM.JS hS.wf (Nat.le_refl _)).trans (e1.toB (by rw[QS];omega)),s1,fun v c h=>(up _ _ h).mono e1,?_,?_,(e1.rv _ (by rw[QS];omega) n1).2.2,(e1.rv _ (by rw[QS];omega) n2).2.2⟩
 ·rw[h1 _ (by rw[QS];omega) (by omega) (by rw[n1];simp)]
  exact(aO (by show w.heap.size<(w.heap.push _).size;rw[Array.size_push];omega)).trans (heap_alloc_new w _)
 ·rw[h1 _ (by rw[QS];omega) (by omega) (by rw[n2];simp)]
  have:=heap_alloc_new (w.alloc (.cells D.toArray 56)) (.cells T.toArray 53)
  rw[show(w.alloc (.cells D.toArray 56)).heap.size=w.heap.size+1 by show(w.heap.push _).size=_;rw[Array.size_push]]at this
  exact this
theorem Mk.CZ {m:List ByteArray×List (List V)} {W:World} (eN:b<σ.length) (M9:b<G.N) (h:Mk.Nj gl G w σ b D T c m W):∃Gk x0 mb bY clock,qZ w.heap.size G w Gk W∧dR gl Gk W (σ.set b [c,(.jM m.1 m.2,true)])∧(∀v c,Rel G w v c→Rel Gk W v c)∧
  Mk.Ri Gk W b m.1 m.2 x0 mb bY clock∧Gk.μ b=G.μ b∧W.cell? ⟨G.μ b,1,none⟩=some (.map (some mb))∧W.heap[w.heap.size]?=some (.cells D.toArray 56 (0,0))∧W.heap[w.heap.size+1]?=some (.cells T.toArray 53 (0,0))∧
   mb≠w.heap.size∧mb≠w.heap.size+1∧Gk.owner w.heap.size=none∧Gk.owner (w.heap.size+1)=none:=by
 obtain⟨Gk,e1,s1,r1,b1,b2,n1,n2⟩:=h
 obtain⟨x0,mb,bY,clock,hM⟩:=Mk.XZ s1 (List.getElem?_set_self eN)
 obtain⟨el,hb⟩:=hM.eZ
 have Ms:=e1.μ b M9
 refine⟨Gk,x0,mb,bY,clock,e1,s1,r1,hM,Ms,?_,b1,b2,?_,?_,n1,n2⟩
 ·rw[←Ms];exact aj hb 1
 ·rintro rfl;rw[hM.own.1]at n1;simp at n1
 ·rintro rfl;rw[hM.own.1]at n2;simp at n2
theorem Mk.Nk {m:List ByteArray×List (List V)} {W W1:World} {Gk:Gh} {x0:Value} {mb:Nat} {bY:Array MapEntry} {clock eb:Nat} {s:ByteArray} {y:List V} {vals:List Value} (eN:b<σ.length) (e1:qZ w.heap.size G w Gk W) (s1:dR gl Gk W (σ.set b [c,(.jM m.1 m.2,true)])) (r1:∀v c,Rel G w v c→Rel Gk W v c)
  (hM:Mk.Ri Gk W b m.1 m.2 x0 mb bY clock) (b1:W.heap[w.heap.size]?=some (.cells D.toArray 56 (0,0))) (b2:W.heap[w.heap.size+1]?=some (.cells T.toArray 53 (0,0))) (k1:mb≠w.heap.size) (k2:mb≠w.heap.size+1) (n1:Gk.owner w.heap.size=none) (n2:Gk.owner (w.heap.size+1)=none)
  (hB:RowKit.Below W.heap.size W W1) (S8:W.heap.size≤eb) (h9:W1.heap[eb]?=some (.cells vals.toArray 88 (0,0))) (hl:vals.length=y.length) (h1:∀v∈vals,v.oneCell'=true) (hr:∀(i:Nat) (v:V) (c:Value),y[i]?=some v→vals[i]?=some c→Rel Gk W v c):
  Mk.Nj gl G w σ b D T c (Mk.iC m s y) (Mk.uB W1 mb (dT bY clock m.1 s (.pointer (some ⟨eb,0,none⟩)))):=by
 have hl1:=(Array.getElem?_eq_some_iff.1 b1).1
 have hl2:=(Array.getElem?_eq_some_iff.1 b2).1
 obtain⟨G',s2,e2,r2,h2⟩:=Mk.Um (n0:=W.heap.size) (y:=y) (s:=s) s1 hM (List.getElem?_set_self eN) (Nat.le_refl _) hB S8 h9 hl h1 hr
 rw[List.set_set]at s2
 exact⟨G',e1.trans (e2.PD.toB (Nat.le_of_lt hl1)),s2,fun v c h=>r2 _ _ (r1 _ _ h),(h2 _ hl1 (fun e=>k1 e.symm)).trans b1,(h2 _ hl2 (fun e=>k2 e.symm)).trans b2,(e2.rv _ hl1 n1).2.2,(e2.rv _ hl2 n2).2.2⟩
end
end Go.Ab
end
