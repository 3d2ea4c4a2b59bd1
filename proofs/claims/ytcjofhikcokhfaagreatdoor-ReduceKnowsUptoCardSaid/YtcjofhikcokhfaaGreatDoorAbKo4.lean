/- The program's environments as calls of the interpreter's: Put. -/
import Derived.Test.YtcjofhikcokhfaaGreatDoorAbKo2
set_option linter.unusedSimpArgs false
set_option linter.unusedVariables false
set_option linter.deprecated false
section
namespace Go.Ab
open Go.RowKit Go.Proofs
set_option maxRecDepth 100000
set_option maxHeartbeats 16000000
theorem Mk.Un {G:Gh} {w:World} {L:List (List V)} {k:Nat} {t:TypeId} {e0:Option Addr} {e1 e2:Nat} (h:Rel G w (.slice k t L) (.slice e0 e1 e2)):e1=L.length:=by
 generalize hc:Value.slice e0 e1 e2=c at h
 cases h with
 |rh=>injection hc
 |slice=>injection hc
theorem Mk.Nl {ps:V} {i:Nat} {y:List V} {cs:List (List V)} {m m':List ByteArray×List (List V)} (h:Mk.ic ps i (y::cs) m=some m'):
  ∃s k n q a0 a1 a2 b0 b1 b2,y=[.str s,.int .i64 k,.int .i64 n,.str q,.slice a0 a1 a2,.slice b0 b1 b2]∧Mk.ic ps (i+1) cs (Mk.iC m s (Mk.bR 3 ps [.int .i64 k,.int .i64 n,.str q,.slice a0 a1 a2,.slice b0 b1 b2] i))=some m':=by
 unfold Mk.ic at h
 split at h
 ·rename_i h1;simp at h1
 ·rename_i h1
  obtain⟨rfl,rfl⟩:=List.cons.inj h1
  exact⟨_,_,_,_,_,_,_,_,_,_,rfl,h⟩
 ·simp at h
theorem Mk.Nn {G Gk:Gh} {w W:World} {L:List (List V)} {e0:Option Addr} {e1 e2 i:Nat} {s q:ByteArray} {k n:Int} {a0 b0:Nat} {a1 b1:TypeId} {a2 b2:List (List V)} (h:Rel Gk W (.slice 6 60 L) (.slice e0 e1 e2)) (_:Rel G w (.slice 6 60 L) (.slice e0 e1 e2)) (hy:L[i]?=some [.str s,.int .i64 k,.int .i64 n,.str q,.slice a0 a1 a2,.slice b0 b1 b2]):
  ∃cb off x0 x2 x3 y0 y2 y3,e0=some ⟨cb,off,none⟩∧W.cell? ⟨cb,off+i*6,none⟩=some (.string s)∧W.cell? ⟨cb,off+i*6+1,none⟩=some (.int .i64 k)∧W.cell? ⟨cb,off+i*6+2,none⟩=some (.int .i64 n)∧W.cell? ⟨cb,off+i*6+3,none⟩=some (.string q)∧
   W.cell? ⟨cb,off+i*6+4,none⟩=some (.slice x0 x2 x3)∧W.cell? ⟨cb,off+i*6+5,none⟩=some (.slice y0 y2 y3)∧Rel Gk W (.slice a0 a1 a2) (.slice x0 x2 x3)∧Rel Gk W (.slice b0 b1 b2) (.slice y0 y2 y3):=by
 generalize hc:Value.slice e0 e1 e2=c at h
 cases h with
 |rh=>simp at hy
 |slice _ _ _ cb off cap cs h1 h2 h3 h4 h5 h6 h7=>
  injection hc with kt pD Ib
  have hi:=(List.getElem?_eq_some_iff.1 hy).1
  have hz:cs[i]?=some (cs[i]'(by omega)):=List.getElem?_eq_getElem _
  have hz6:=h5 i _ hz
  generalize cs[i]'(by omega)=zs at hz hz6
  obtain⟨z0,z1,z2,z3,z4,z5,rfl⟩:∃z0 z1 z2 z3 z4 z5,zs=[z0,z1,z2,z3,z4,z5]:=by
   match zs,hz6 with
   |[z0,z1,z2,z3,z4,z5],_=>exact⟨_,_,_,_,_,_,rfl⟩
  have c0:=(h6 i 0 _ _ hz rfl).1
  have c1:=(h6 i 1 _ _ hz rfl).1
  have c2:=(h6 i 2 _ _ hz rfl).1
  have c3:=(h6 i 3 _ _ hz rfl).1
  have c4:=(h6 i 4 _ _ hz rfl).1
  have c5:=(h6 i 5 _ _ hz rfl).1
  have r0:=h7 i 0 _ _ _ _ hy hz rfl rfl
  have r1:=h7 i 1 _ _ _ _ hy hz rfl rfl
  have r2:=h7 i 2 _ _ _ _ hy hz rfl rfl
  have r3:=h7 i 3 _ _ _ _ hy hz rfl rfl
  have r4:=h7 i 4 _ _ _ _ hy hz rfl rfl
  have r5:=h7 i 5 _ _ _ _ hy hz rfl rfl
  obtain⟨x0,x2,x3,rfl⟩:=Mk.uz (a:=.slice a0 a1 a2) rfl r4
  obtain⟨y0,y2,y3,rfl⟩:=Mk.uz (a:=.slice b0 b1 b2) rfl r5
  obtain rfl:z0=.string s:=by cases r0;rfl
  obtain rfl:z1=.int .i64 k:=by cases r1;rfl
  obtain rfl:z2=.int .i64 n:=by cases r2;rfl
  obtain rfl:z3=.string q:=by cases r3;rfl
  exact⟨cb,off,x0,x2,x3,y0,y2,y3,kt,c0,c1,c2,c3,c4,c5,r4,r5⟩
theorem Mk.BR {P:Program} {md:Region.Mode} {ops:Array Oper} {Q:Exit→Act→World→Prop} {S:World→Prop} (i:Nat) {oi:Oper} {v:Value} {fuel:Nat} {listed:Array Bool} {a:Act} {w:World} (hS:S w) (hi:ops.toList[i]?=some oi) (hc:(Region.noSelect ops&&Region.free md ops listed i&&(Region.ready md ops listed).contains i)=true) (hQ:∀c a w,Q (.panic c) (a.put oi.dst v) w→Q (.panic c) a w) (hg:Region.wanted oi (yielded ops a.tmps)=true) (hy:∀w,S w→(execOp a.eval oi).run P w=.ok (.value v) w)
  (h:wpAnyH P md ops Q S fuel (listed.setIfInBounds i true) (a.put oi.dst v) w):wpAnyH P md ops Q S (fuel+1) listed a w:=by
 simp only[Bool.and_eq_true]at hc
 exact wpAnyH_take (by simpa using hi) hc.1.1 hc.1.2 hc.2 hQ (Or.inl ⟨hg,hy⟩) hS h
theorem Mk.brH {P:Program} {md:Region.Mode} {ops:Array Oper} {Q:Exit→Act→World→Prop} {S:World→Prop} (i:Nat) {oi:Oper} {fuel:Nat} {listed:Array Bool} {a:Act} {w:World} (hi:ops.toList[i]?=some oi) (hr:Region.ready md ops listed=[i]) (h:∀K':Act→World→Prop,Shut (∀a w,S w→(S w→wpAnyH P md ops Q S fuel (listed.setIfInBounds i true) a w)→K' a w)→if Region.wanted oi (yielded ops a.tmps)=true then Oper.wp P oi a w K' Q else K' (a.put oi.dst undef) w):wpAnyH P md ops Q S (fuel+1) listed a w:=
 wpAnyH_ready hr (by simp) (AllReadyH.cons (by simpa using hi) h AllReadyH.nil)
theorem Mk.adv {gl:Nat→Option (List V)} {G:Gh} {w:World} {σ:az} {b:Nat} {c:Cell} {ds es:List (List V)} {ks:List ByteArray} {x0:Value} {mb:Nat} {bY:Array MapEntry} {clock:Nat} {xs:List Value} {yO va vb No Np:V} {L:List (List V)}
    (k k1 m1 k2 m2 ar rk rm:Int) (n n1 n2 rn:ByteArray) (p0 a0 b0 c0 d0 e0 f0 g0 h0:Option Addr) (p1 p2 a1 a2 b1 b2 c1 c2 d1 d2 e1 e2 f1 f2 g1 g2 h1 h2:Nat)
    (hS:dR gl G w σ) (hX:Mk.Uc G w b c ds ks es x0 mb bY clock) (M9:b<G.N) (ab1:0≤k∧k≤3) (hb:σ[b]?=some [c,(.jM ks es,true)]) (hR:xr G w (.gc b 0) 15 56 ds x0 xs) (Ko:ds.length<100000000)
    (r2:Rel G w yO (.slice p0 p1 p2)) (r6:Rel G w va (.slice a0 a1 a2)) (r7:Rel G w vb (.slice b0 b1 b2)) (r11:Rel G w No (.slice c0 c1 c2)) (r12:Rel G w Np (.slice d0 d1 d2)) (r14:Rel G w (.slice 6 60 L) (.slice e0 e1 e2)) (m:List ByteArray×List (List V)) (Uo vf vg:V) (r2':Rel G w Uo (.slice h0 h1 h2)) (rf:Rel G w vf (.slice f0 f1 f2)) (rg:Rel G w vg (.slice g0 g1 g2)) (hm:Mk.rK [.int .i64 k,.str n,yO,.int .i64 k1,.int .i64 m1,.str n1,va,vb,.int .i64 k2,.int .i64 m2,.str n2,No,Np,.int .i64 ar,.slice 6 60 L] Uo [.int .i64 rk,.int .i64 rm,.str rn,vf,vg] (ks,es)=some m)
    (Q:Ending→World→Prop) (hQ:∀W,Mk.Nj gl G w σ b [.int .i64 k,.string n,.slice p0 p1 p2,.int .i64 k1,.int .i64 m1,.string n1,.slice a0 a1 a2,.slice b0 b1 b2,.int .i64 k2,.int .i64 m2,.string n2,.slice c0 c1 c2,.slice d0 d1 d2,.int .i64 ar,.slice e0 e1 e2] [.int .i64 rk,.int .i64 rm,.string rn,.slice f0 f1 f2,.slice g0 g1 g2] (.row 15 56 (ds++[[.int .i64 k,.str n,yO,.int .i64 k1,.int .i64 m1,.str n1,va,vb,.int .i64 k2,.int .i64 m2,.str n2,No,Np,.int .i64 ar,.slice 6 60 L]]),true) m W→Q (.returned (.tuple #[])) W):
    Calls Tryz.prog 36 #[.pointer (some ⟨G.μ b,0,none⟩),.agg #[.int .i64 k,.string n,.slice p0 p1 p2,.int .i64 k1,.int .i64 m1,.string n1,.slice a0 a1 a2,.slice b0 b1 b2,.int .i64 k2,.int .i64 m2,.string n2,.slice c0 c1 c2,.slice d0 d1 d2,.int .i64 ar,.slice e0 e1 e2],.slice h0 h1 h2,.agg #[.int .i64 rk,.int .i64 rm,.string rn,.slice f0 f1 f2,.slice g0 g1 g2]] w Q:=by
  obtain⟨i0,hi,hz0,TR,Nb⟩:=info_parts Mk.PW
  have hr:∀(j:Nat) (v:V),([.int .i64 k,.str n,yO,.int .i64 k1,.int .i64 m1,.str n1,va,vb,.int .i64 k2,.int .i64 m2,.str n2,No,Np,.int .i64 ar,.slice 6 60 L]:List V)[j]?=some v→∃c,([.int .i64 k,.string n,.slice p0 p1 p2,.int .i64 k1,.int .i64 m1,.string n1,.slice a0 a1 a2,.slice b0 b1 b2,.int .i64 k2,.int .i64 m2,.string n2,.slice c0 c1 c2,.slice d0 d1 d2,.int .i64 ar,.slice e0 e1 e2]:List Value)[j]?=some c∧c.oneCell'=true∧Rel G w v c:=fun j v hj=>by
    match j with
    |0=>simp at hj;subst hj;exact⟨_,rfl,rfl,.int _ _⟩
    |1=>simp at hj;subst hj;exact⟨_,rfl,rfl,.str _⟩
    |2=>simp at hj;subst hj;exact⟨_,rfl,rfl,r2⟩
    |3=>simp at hj;subst hj;exact⟨_,rfl,rfl,.int _ _⟩
    |4=>simp at hj;subst hj;exact⟨_,rfl,rfl,.int _ _⟩
    |5=>simp at hj;subst hj;exact⟨_,rfl,rfl,.str _⟩
    |6=>simp at hj;subst hj;exact⟨_,rfl,rfl,r6⟩
    |7=>simp at hj;subst hj;exact⟨_,rfl,rfl,r7⟩
    |8=>simp at hj;subst hj;exact⟨_,rfl,rfl,.int _ _⟩
    |9=>simp at hj;subst hj;exact⟨_,rfl,rfl,.int _ _⟩
    |10=>simp at hj;subst hj;exact⟨_,rfl,rfl,.str _⟩
    |11=>simp at hj;subst hj;exact⟨_,rfl,rfl,r11⟩
    |12=>simp at hj;subst hj;exact⟨_,rfl,rfl,r12⟩
    |13=>simp at hj;subst hj;exact⟨_,rfl,rfl,.int _ _⟩
    |14=>simp at hj;subst hj;exact⟨_,rfl,rfl,r14⟩
    |j+15=>simp at hj
  obtain⟨el,xb⟩:=hX.eZ
  have lrb:=(Array.getElem?_eq_some_iff.1 xb).1
  have c16:w.cell? ⟨G.μ b,0,none⟩=some x0:=aj xb 0
  have f16:w.frozen? ⟨G.μ b,0,none⟩=false:=Mk.fI xb 0
  obtain⟨vp,vc,rfl,_⟩:=Mk.Ih hR.row.own
  have eN:=(List.getElem?_eq_some_iff.1 hb).1
  have eJ:(Value.slice vp ds.length vc).ownBlock≠some (G.μ b):=fun h=>by
    have h1:=(hR.eZ _ h).1
    obtain⟨cv,el',k1,k2,k3,k4,k5⟩:=hS.eZ b _ hb
    rw[k3]at h1
    simp at h1
  have yN:∀i,(Value.slice vp ds.length vc).ownBlock=some i→i<w.heap.size:=fun i hi=>(hR.row.own.lt i hi).2
  have PU:∀o1 o2 o3,(((w.alloc o1).alloc o2).drew.alloc o3).ownsRow 0 56 15 (.slice vp ds.length vc) ds.length xs:=fun o1 o2 o3=>iU hR.row.own fun i hi=>by
    have h1:=yN i hi
    have ee1:(w.alloc o1).heap.size=w.heap.size+1:=by show(w.heap.push o1).size=_;rw[Array.size_push]
    have ee2:((w.alloc o1).alloc o2).heap.size=w.heap.size+2:=by show((w.heap.push o1).push o2).size=_;rw[Array.size_push,Array.size_push]
    exact(aO (w:=((w.alloc o1).alloc o2).drew) (by show i<((w.alloc o1).alloc o2).heap.size;omega)).trans ((aO (by omega)).trans (aO h1))
  have Gi:∀o1 o2 (j:Nat) (u:Value),([.int .i64 k,.string n,.slice p0 p1 p2,.int .i64 k1,.int .i64 m1,.string n1,.slice a0 a1 a2,.slice b0 b1 b2,.int .i64 k2,.int .i64 m2,.string n2,.slice c0 c1 c2,.slice d0 d1 d2,.int .i64 ar,.slice e0 e1 e2]:List Value)[j]?=some u→(((w.alloc o1).alloc o2).drew.alloc (.cells #[.int .i64 k,.string n,.slice p0 p1 p2,.int .i64 k1,.int .i64 m1,.string n1,.slice a0 a1 a2,.slice b0 b1 b2,.int .i64 k2,.int .i64 m2,.string n2,.slice c0 c1 c2,.slice d0 d1 d2,.int .i64 ar,.slice e0 e1 e2] 56)).cell? ((⟨w.heap.size+1+1,0,none⟩:Addr).add j)=some u:=fun o1 o2 j u hj=>by
    have ee2:((w.alloc o1).alloc o2).heap.size=w.heap.size+1+1:=by show((w.heap.push o1).push o2).size=_;rw[Array.size_push,Array.size_push]
    have hn:=heap_alloc_new ((w.alloc o1).alloc o2).drew (.cells #[.int .i64 k,.string n,.slice p0 p1 p2,.int .i64 k1,.int .i64 m1,.string n1,.slice a0 a1 a2,.slice b0 b1 b2,.int .i64 k2,.int .i64 m2,.string n2,.slice c0 c1 c2,.slice d0 d1 d2,.int .i64 ar,.slice e0 e1 e2] 56)
    rw[show((w.alloc o1).alloc o2).drew.heap.size=w.heap.size+1+1 from ee2]at hn
    rw[Addr.add_lit,aj hn,Nat.zero_add,←hj]
    simp
  have after:∀(o2 o3:Obj) (w1:World),(((w.alloc (.cells #[.int .i64 k,.string n,.slice p0 p1 p2,.int .i64 k1,.int .i64 m1,.string n1,.slice a0 a1 a2,.slice b0 b1 b2,.int .i64 k2,.int .i64 m2,.string n2,.slice c0 c1 c2,.slice d0 d1 d2,.int .i64 ar,.slice e0 e1 e2] 56)).alloc o2).drew.alloc o3).grownBy w1 (Value.slice vp ds.length vc).ownBlock→w1.heap[G.μ b]?=w.heap[G.μ b]?∧w1.heap[w.heap.size]?=some (.cells #[.int .i64 k,.string n,.slice p0 p1 p2,.int .i64 k1,.int .i64 m1,.string n1,.slice a0 a1 a2,.slice b0 b1 b2,.int .i64 k2,.int .i64 m2,.string n2,.slice c0 c1 c2,.slice d0 d1 d2,.int .i64 ar,.slice e0 e1 e2] 56 (0,0)):=fun o2 o3 w1 hg=>by
    have ee1:(w.alloc (.cells #[.int .i64 k,.string n,.slice p0 p1 p2,.int .i64 k1,.int .i64 m1,.string n1,.slice a0 a1 a2,.slice b0 b1 b2,.int .i64 k2,.int .i64 m2,.string n2,.slice c0 c1 c2,.slice d0 d1 d2,.int .i64 ar,.slice e0 e1 e2] 56)).heap.size=w.heap.size+1:=by show(w.heap.push _).size=_;rw[Array.size_push]
    have ee2:((w.alloc (.cells #[.int .i64 k,.string n,.slice p0 p1 p2,.int .i64 k1,.int .i64 m1,.string n1,.slice a0 a1 a2,.slice b0 b1 b2,.int .i64 k2,.int .i64 m2,.string n2,.slice c0 c1 c2,.slice d0 d1 d2,.int .i64 ar,.slice e0 e1 e2] 56)).alloc o2).heap.size=w.heap.size+2:=by show((w.heap.push _).push o2).size=_;rw[Array.size_push,Array.size_push]
    have ee3:(((w.alloc (.cells #[.int .i64 k,.string n,.slice p0 p1 p2,.int .i64 k1,.int .i64 m1,.string n1,.slice a0 a1 a2,.slice b0 b1 b2,.int .i64 k2,.int .i64 m2,.string n2,.slice c0 c1 c2,.slice d0 d1 d2,.int .i64 ar,.slice e0 e1 e2] 56)).alloc o2).drew.alloc o3).heap.size=w.heap.size+3:=by show(((w.heap.push _).push o2).push o3).size=_;rw[Array.size_push,Array.size_push,Array.size_push]
    constructor
    · refine(hg.block (G.μ b) (by rw[ee3];omega) (fun e=>eJ e.symm)).trans ?_
      exact(aO (w:=((w.alloc (.cells #[.int .i64 k,.string n,.slice p0 p1 p2,.int .i64 k1,.int .i64 m1,.string n1,.slice a0 a1 a2,.slice b0 b1 b2,.int .i64 k2,.int .i64 m2,.string n2,.slice c0 c1 c2,.slice d0 d1 d2,.int .i64 ar,.slice e0 e1 e2] 56)).alloc o2).drew) (by show G.μ b<((w.alloc (.cells #[.int .i64 k,.string n,.slice p0 p1 p2,.int .i64 k1,.int .i64 m1,.string n1,.slice a0 a1 a2,.slice b0 b1 b2,.int .i64 k2,.int .i64 m2,.string n2,.slice c0 c1 c2,.slice d0 d1 d2,.int .i64 ar,.slice e0 e1 e2] 56)).alloc o2).heap.size;omega)).trans ((aO (by omega)).trans (aO lrb))
    · refine(hg.block w.heap.size (by rw[ee3];omega) (fun e=>by have:=yN _ e.symm;omega)).trans ?_
      exact(aO (w:=((w.alloc (.cells #[.int .i64 k,.string n,.slice p0 p1 p2,.int .i64 k1,.int .i64 m1,.string n1,.slice a0 a1 a2,.slice b0 b1 b2,.int .i64 k2,.int .i64 m2,.string n2,.slice c0 c1 c2,.slice d0 d1 d2,.int .i64 ar,.slice e0 e1 e2] 56)).alloc o2).drew) (by show w.heap.size<((w.alloc (.cells #[.int .i64 k,.string n,.slice p0 p1 p2,.int .i64 k1,.int .i64 m1,.string n1,.slice a0 a1 a2,.slice b0 b1 b2,.int .i64 k2,.int .i64 m2,.string n2,.slice c0 c1 c2,.slice d0 d1 d2,.int .i64 ar,.slice e0 e1 e2] 56)).alloc o2).heap.size;omega)).trans ((aO (by omega)).trans (heap_alloc_new w _))
  have Ta:G.μ b≠w.heap.size:=by omega
  have pR:w.heap.size≠G.μ b:=by omega
  have hn3:G.μ b≠w.heap.size+1:=by omega
  have hn4:w.heap.size+1≠G.μ b:=by omega
  have aew:G.μ b<w.heap.size+1:=by omega
  have aex:G.μ b<w.heap.size+1+1:=by omega
  have hn5:G.μ b≠w.heap.size+1+1:=by omega
  have hn6:w.heap.size+1+1≠G.μ b:=by omega
  have HA:Hid (∀(o2:Obj) (v':Value) (w1:World),w1.ownsRow 0 56 15 v' (ds.length+1) (xs++[.int .i64 k,.string n,.slice p0 p1 p2,.int .i64 k1,.int .i64 m1,.string n1,.slice a0 a1 a2,.slice b0 b1 b2,.int .i64 k2,.int .i64 m2,.string n2,.slice c0 c1 c2,.slice d0 d1 d2,.int .i64 ar,.slice e0 e1 e2])→(((w.alloc (.cells #[.int .i64 k,.string n,.slice p0 p1 p2,.int .i64 k1,.int .i64 m1,.string n1,.slice a0 a1 a2,.slice b0 b1 b2,.int .i64 k2,.int .i64 m2,.string n2,.slice c0 c1 c2,.slice d0 d1 d2,.int .i64 ar,.slice e0 e1 e2] 56)).alloc (.cells #[.int .i64 rk,.int .i64 rm,.string rn,.slice f0 f1 f2,.slice g0 g1 g2] 53)).drew.alloc o2).grownBy w1 (Value.slice vp ds.length vc).ownBlock→
    (v'.ownBlock=(Value.slice vp ds.length vc).ownBlock∨v'.ownBlock=some (((w.alloc (.cells #[.int .i64 k,.string n,.slice p0 p1 p2,.int .i64 k1,.int .i64 m1,.string n1,.slice a0 a1 a2,.slice b0 b1 b2,.int .i64 k2,.int .i64 m2,.string n2,.slice c0 c1 c2,.slice d0 d1 d2,.int .i64 ar,.slice e0 e1 e2] 56)).alloc (.cells #[.int .i64 rk,.int .i64 rm,.string rn,.slice f0 f1 f2,.slice g0 g1 g2] 53)).drew.alloc o2).heap.size)→Mk.Nj gl G w σ b [.int .i64 k,.string n,.slice p0 p1 p2,.int .i64 k1,.int .i64 m1,.string n1,.slice a0 a1 a2,.slice b0 b1 b2,.int .i64 k2,.int .i64 m2,.string n2,.slice c0 c1 c2,.slice d0 d1 d2,.int .i64 ar,.slice e0 e1 e2] [.int .i64 rk,.int .i64 rm,.string rn,.slice f0 f1 f2,.slice g0 g1 g2] (.row 15 56 (ds++[[.int .i64 k,.str n,yO,.int .i64 k1,.int .i64 m1,.str n1,va,vb,.int .i64 k2,.int .i64 m2,.str n2,No,Np,.int .i64 ar,.slice 6 60 L]]),true) (ks,es) (w1.setCell ⟨G.μ b,0,none⟩ v')):=fun o2 v' w1 q1 q2 q3=>Mk.aaA (D:=[.int .i64 k,.string n,.slice p0 p1 p2,.int .i64 k1,.int .i64 m1,.string n1,.slice a0 a1 a2,.slice b0 b1 b2,.int .i64 k2,.int .i64 m2,.string n2,.slice c0 c1 c2,.slice d0 d1 d2,.int .i64 ar,.slice e0 e1 e2]) (T:=[.int .i64 rk,.int .i64 rm,.string rn,.slice f0 f1 f2,.slice g0 g1 g2]) hS hX hb hR rfl rfl hr q1 q2 q3
  have HO:Hid (∀o1 o2 o3,(((w.alloc o1).alloc o2).drew.alloc o3).ownsRow 0 56 15 (.slice vp ds.length vc) ds.length xs):=PU
  have HN:Hid (∀o1 o2 (j:Nat) (u:Value),([.int .i64 k,.string n,.slice p0 p1 p2,.int .i64 k1,.int .i64 m1,.string n1,.slice a0 a1 a2,.slice b0 b1 b2,.int .i64 k2,.int .i64 m2,.string n2,.slice c0 c1 c2,.slice d0 d1 d2,.int .i64 ar,.slice e0 e1 e2]:List Value)[j]?=some u→(((w.alloc o1).alloc o2).drew.alloc (.cells #[.int .i64 k,.string n,.slice p0 p1 p2,.int .i64 k1,.int .i64 m1,.string n1,.slice a0 a1 a2,.slice b0 b1 b2,.int .i64 k2,.int .i64 m2,.string n2,.slice c0 c1 c2,.slice d0 d1 d2,.int .i64 ar,.slice e0 e1 e2] 56)).cell? ((⟨w.heap.size+1+1,0,none⟩:Addr).add j)=some u):=Gi
  have HF:Hid (∀(o2 o3:Obj) (w1:World),(((w.alloc (.cells #[.int .i64 k,.string n,.slice p0 p1 p2,.int .i64 k1,.int .i64 m1,.string n1,.slice a0 a1 a2,.slice b0 b1 b2,.int .i64 k2,.int .i64 m2,.string n2,.slice c0 c1 c2,.slice d0 d1 d2,.int .i64 ar,.slice e0 e1 e2] 56)).alloc o2).drew.alloc o3).grownBy w1 (Value.slice vp ds.length vc).ownBlock→w1.heap[G.μ b]?=w.heap[G.μ b]?∧w1.heap[w.heap.size]?=some (.cells #[.int .i64 k,.string n,.slice p0 p1 p2,.int .i64 k1,.int .i64 m1,.string n1,.slice a0 a1 a2,.slice b0 b1 b2,.int .i64 k2,.int .i64 m2,.string n2,.slice c0 c1 c2,.slice d0 d1 d2,.int .i64 ar,.slice e0 e1 e2] 56 (0,0))):=after
  have HB:Hid (w.heap[G.μ b]?=some (.cells #[.slice vp ds.length vc,.map (some mb)] el (0,0))):=xb
  have HQ:Hid ((∀W,Mk.Nj gl G w σ b [.int .i64 k,.string n,.slice p0 p1 p2,.int .i64 k1,.int .i64 m1,.string n1,.slice a0 a1 a2,.slice b0 b1 b2,.int .i64 k2,.int .i64 m2,.string n2,.slice c0 c1 c2,.slice d0 d1 d2,.int .i64 ar,.slice e0 e1 e2] [.int .i64 rk,.int .i64 rm,.string rn,.slice f0 f1 f2,.slice g0 g1 g2] (.row 15 56 (ds++[[.int .i64 k,.str n,yO,.int .i64 k1,.int .i64 m1,.str n1,va,vb,.int .i64 k2,.int .i64 m2,.str n2,No,Np,.int .i64 ar,.slice 6 60 L]]),true) m W→Q (.returned (.tuple #[])) W)∧(n.size<1000∧L.length<100000000)∧(k≠3→m=Mk.iC (ks,es) n (Mk.bR (if k=2 then 1 else 0) yO [.int .i64 k1,.int .i64 m1,.str n1,va,vb] 0))∧
      (k=3→∃m',Mk.ic yO 0 L (Mk.iC (ks,es) n (Mk.bR 2 yO [.int .i64 k1,.int .i64 m1,.str n1,va,vb] 0))=some m'∧m=Mk.iC m' (n++Mk.fp) (Mk.bR 4 Uo [.int .i64 rk,.int .i64 rm,.str rn,vf,vg] 0))):=by
    unfold Mk.rK at hm
    simp only at hm
    split at hm
    case isFalse=>simp at hm
    rename_i hh
    refine⟨hQ,hh.2.2,fun h=>?_,fun h=>?_⟩
    · rw[if_neg h]at hm
      exact(Option.some.inj hm).symm
    · rw[if_pos h,Option.map_eq_some_iff]at hm
      obtain⟨m',h1,h2⟩:=hm
      exact⟨m',h1,h2.symm⟩
  clear hS hX hb hR hr PU Gi after xb yN eJ hm hQ
  go_enter Tryz.func36,Tryz.ntmps36
  go_upto_region 1 with fail
  go_cut [] (fun wx=>Mk.Nj gl G w σ b [.int .i64 k,.string n,.slice p0 p1 p2,.int .i64 k1,.int .i64 m1,.string n1,.slice a0 a1 a2,.slice b0 b1 b2,.int .i64 k2,.int .i64 m2,.string n2,.slice c0 c1 c2,.slice d0 d1 d2,.int .i64 ar,.slice e0 e1 e2] [.int .i64 rk,.int .i64 rm,.string rn,.slice f0 f1 f2,.slice g0 g1 g2] (.row 15 56 (ds++[[.int .i64 k,.str n,yO,.int .i64 k1,.int .i64 m1,.str n1,va,vb,.int .i64 k2,.int .i64 m2,.str n2,No,Np,.int .i64 ar,.slice 6 60 L]]),true) (ks,es) wx)
  case first=>
    go_region_law (first|(refine qN rfl _ _ 66 rfl 0 56 i0 _ 15 240 Tryz.underlying66 hi hz0 TR Nb rfl (by decide) _ _ _ rfl (HO.out _ _ _) ⟨w.heap.size+1+1,0,none⟩ 1 1 [.int .i64 k,.string n,.slice p0 p1 p2,.int .i64 k1,.int .i64 m1,.string n1,.slice a0 a1 a2,.slice b0 b1 b2,.int .i64 k2,.int .i64 m2,.string n2,.slice c0 c1 c2,.slice d0 d1 d2,.int .i64 ar,.slice e0 e1 e2] rfl rfl (HN.out _ _) (by simp[Value.oneCell']) (by unfold maxLen;omega) (by omega) (Nat.zero_le _) ?_;intro v' w1 ko qO yX CJ;obtain⟨qa,q⟩:=HF.out _ _ _ qO;have adr:w1.cell? ⟨G.μ b,0,none⟩=some (.slice vp ds.length vc):=aj (qa.trans HB.out) 0;have ads:w1.frozen? ⟨G.μ b,0,none⟩=false:=Mk.fI (qa.trans HB.out) 0;have q0:w1.cell? ⟨w.heap.size,0,none⟩=some (.int .i64 k):=aj q 0;have q1:w1.cell? ⟨w.heap.size,1,none⟩=some (.string n):=aj q 1;have q2:w1.cell? ⟨w.heap.size,2,none⟩=some (.slice p0 p1 p2):=aj q 2;have q3:w1.cell? ⟨w.heap.size,3,none⟩=some (.int .i64 k1):=aj q 3;have q4:w1.cell? ⟨w.heap.size,4,none⟩=some (.int .i64 m1):=aj q 4;have q5:w1.cell? ⟨w.heap.size,5,none⟩=some (.string n1):=aj q 5;have q6:w1.cell? ⟨w.heap.size,6,none⟩=some (.slice a0 a1 a2):=aj q 6;have q7:w1.cell? ⟨w.heap.size,7,none⟩=some (.slice b0 b1 b2):=aj q 7;have q8:w1.cell? ⟨w.heap.size,8,none⟩=some (.int .i64 k2):=aj q 8;have q9:w1.cell? ⟨w.heap.size,9,none⟩=some (.int .i64 m2):=aj q 9;have q10:w1.cell? ⟨w.heap.size,10,none⟩=some (.string n2):=aj q 10;have q11:w1.cell? ⟨w.heap.size,11,none⟩=some (.slice c0 c1 c2):=aj q 11;have q12:w1.cell? ⟨w.heap.size,12,none⟩=some (.slice d0 d1 d2):=aj q 12;have q13:w1.cell? ⟨w.heap.size,13,none⟩=some (.int .i64 ar):=aj q 13;have q14:w1.cell? ⟨w.heap.size,14,none⟩=some (.slice e0 e1 e2):=aj q 14;have HG:Hid (Mk.Nj gl G w σ b [.int .i64 k,.string n,.slice p0 p1 p2,.int .i64 k1,.int .i64 m1,.string n1,.slice a0 a1 a2,.slice b0 b1 b2,.int .i64 k2,.int .i64 m2,.string n2,.slice c0 c1 c2,.slice d0 d1 d2,.int .i64 ar,.slice e0 e1 e2] [.int .i64 rk,.int .i64 rm,.string rn,.slice f0 f1 f2,.slice g0 g1 g2] (.row 15 56 (ds++[[.int .i64 k,.str n,yO,.int .i64 k1,.int .i64 m1,.str n1,va,vb,.int .i64 k2,.int .i64 m2,.str n2,No,Np,.int .i64 ar,.slice 6 60 L]]),true) (ks,es) (w1.setCell ⟨G.μ b,0,none⟩ v')):=HA.out _ _ _ ko qO CJ;obtain⟨g,cap,rfl⟩:=Mk.CR ko;clear ko qO yX CJ qa q))
    all_goals
      go_wp2_with fail
      go_meet
      exact HG.out
  case rest=>
    clear HA HO HN HF HB c16 f16 hi hz0 TR Nb
    obtain⟨Gk,x1,BS,uP,oj,Up,s1,up,hM,Ms,cm,bD,bT,X0,Zw,n1',n2'⟩:=Mk.CZ eN M9 hcut
    have lw:=(Array.getElem?_eq_some_iff.1 hM.map.hb).1
    have lD:=(Array.getElem?_eq_some_iff.1 bD).1
    have lT:=(Array.getElem?_eq_some_iff.1 bT).1
    have BQ:∀o1 o2 p,(Instr.mapUpdate 80 (.map (some BS)) (.string n) p).run Tryz.prog ((wc.alloc o1).alloc o2).drew=.ok () (Mk.uB ((wc.alloc o1).alloc o2).drew BS (dT uP oj ks n p)):=fun o1 o2 p=>by
      refine Mk.Ij Tryz.underlying9 Tryz.underlying80 ?_ hM.map.keys
      exact(aO (w:=wc.alloc o1) (by show BS<(wc.heap.push _).size;rw[Array.size_push];omega)).trans ((aO (w:=wc) lw).trans hM.map.hb)
    have HP:Hid (∀(a:Int) (o1:Obj),Mk.Nj gl G w σ b [.int .i64 k,.string n,.slice p0 p1 p2,.int .i64 k1,.int .i64 m1,.string n1,.slice a0 a1 a2,.slice b0 b1 b2,.int .i64 k2,.int .i64 m2,.string n2,.slice c0 c1 c2,.slice d0 d1 d2,.int .i64 ar,.slice e0 e1 e2] [.int .i64 rk,.int .i64 rm,.string rn,.slice f0 f1 f2,.slice g0 g1 g2] (.row 15 56 (ds++[[.int .i64 k,.str n,yO,.int .i64 k1,.int .i64 m1,.str n1,va,vb,.int .i64 k2,.int .i64 m2,.str n2,No,Np,.int .i64 ar,.slice 6 60 L]]),true) (Mk.iC (ks,es) n (Mk.bR a yO [.int .i64 k1,.int .i64 m1,.str n1,va,vb] 0))
        (Mk.uB ((wc.alloc o1).alloc (.cells #[.int .i64 a,.pointer (some ⟨w.heap.size,0,none⟩),.slice p0 p1 p2,.int .i64 k1,.int .i64 m1,.string n1,.slice a0 a1 a2,.slice b0 b1 b2,.int .i64 0] 88)).drew BS (dT uP oj ks n (.pointer (some ⟨wc.heap.size+1,0,none⟩))))):=fun a o1=>by
      refine Mk.Nk (vals:=[.int .i64 a,.pointer (some ⟨w.heap.size,0,none⟩),.slice p0 p1 p2,.int .i64 k1,.int .i64 m1,.string n1,.slice a0 a1 a2,.slice b0 b1 b2,.int .i64 0]) eN Up s1 up hM bD bT X0 Zw n1' n2' ?_ (by omega) ?_ rfl (by simp[Value.oneCell']) fun i v c hv hc=>?_
      · exact(((RowKit.Below.refl wc.heap.size wc).alloc (Nat.le_refl _) _).alloc (by show wc.heap.size≤(wc.heap.push _).size;rw[Array.size_push];omega) _).drew
      · have:=heap_alloc_new (wc.alloc o1) (.cells #[.int .i64 a,.pointer (some ⟨w.heap.size,0,none⟩),.slice p0 p1 p2,.int .i64 k1,.int .i64 m1,.string n1,.slice a0 a1 a2,.slice b0 b1 b2,.int .i64 0] 88)
        rw[show(wc.alloc o1).heap.size=wc.heap.size+1 by show(wc.heap.push _).size=_;rw[Array.size_push]]at this
        exact this
      · match i with
        |0=>simp[Mk.bR]at hv hc;subst hv;subst hc;exact .int _ _
        |1=>simp[Mk.bR]at hv hc;subst hv;subst hc;exact .any _ rfl
        |2=>simp[Mk.bR]at hv hc;subst hv;subst hc;exact up _ _ r2
        |3=>simp[Mk.bR]at hv hc;subst hv;subst hc;exact .int _ _
        |4=>simp[Mk.bR]at hv hc;subst hv;subst hc;exact .int _ _
        |5=>simp[Mk.bR]at hv hc;subst hv;subst hc;exact .str _
        |6=>simp[Mk.bR]at hv hc;subst hv;subst hc;exact up _ _ r6
        |7=>simp[Mk.bR]at hv hc;subst hv;subst hc;exact up _ _ r7
        |8=>simp[Mk.bR]at hv hc;subst hv;subst hc;exact .int _ _
        |i+9=>simp[Mk.bR]at hv
    have hap:=hM.apart
    rw[Ms]at hap
    have WX:∀(W':World) (o:Obj) (j:Nat),(Mk.uB W' BS o).cell? ⟨G.μ b,j,none⟩=W'.cell? ⟨G.μ b,j,none⟩:=fun W' o j=>Mk.mE hap o j
    have hu2:∀(W':World) (o:Obj) (j:Nat),(Mk.uB W' BS o).cell? ⟨w.heap.size,j,none⟩=W'.cell? ⟨w.heap.size,j,none⟩:=fun W' o j=>Mk.mE X0 o j
    have hle:G.μ b<wc.heap.size:=by omega
    have Rj:G.μ b<wc.heap.size+1:=by omega
    have lD1:w.heap.size<wc.heap.size+1:=by omega
    have zc0:wc.cell? ⟨w.heap.size,0,none⟩=some (.int .i64 k):=aj bD 0
    have zc1:wc.cell? ⟨w.heap.size,1,none⟩=some (.string n):=aj bD 1
    have zc2:wc.cell? ⟨w.heap.size,2,none⟩=some (.slice p0 p1 p2):=aj bD 2
    have zc3:wc.cell? ⟨w.heap.size,3,none⟩=some (.int .i64 k1):=aj bD 3
    have zc4:wc.cell? ⟨w.heap.size,4,none⟩=some (.int .i64 m1):=aj bD 4
    have zc5:wc.cell? ⟨w.heap.size,5,none⟩=some (.string n1):=aj bD 5
    have zc6:wc.cell? ⟨w.heap.size,6,none⟩=some (.slice a0 a1 a2):=aj bD 6
    have zc7:wc.cell? ⟨w.heap.size,7,none⟩=some (.slice b0 b1 b2):=aj bD 7
    clear hcut Up s1 up hM bD bT
    go_upto_region 2 with fail
    go_cut [] (fun wx=>Mk.Nj gl G w σ b [.int .i64 k,.string n,.slice p0 p1 p2,.int .i64 k1,.int .i64 m1,.string n1,.slice a0 a1 a2,.slice b0 b1 b2,.int .i64 k2,.int .i64 m2,.string n2,.slice c0 c1 c2,.slice d0 d1 d2,.int .i64 ar,.slice e0 e1 e2] [.int .i64 rk,.int .i64 rm,.string rn,.slice f0 f1 f2,.slice g0 g1 g2] (.row 15 56 (ds++[[.int .i64 k,.str n,yO,.int .i64 k1,.int .i64 m1,.str n1,va,vb,.int .i64 k2,.int .i64 m2,.str n2,No,Np,.int .i64 ar,.slice 6 60 L]]),true) (Mk.iC (ks,es) n (Mk.bR (if k=3 then 2 else if k=2 then 1 else 0) yO [.int .i64 k1,.int .i64 m1,.str n1,va,vb] 0)) wx)
    case first=>
      have Xa:k=0∨k=1∨k=2∨k=3:=by omega
      refine wp_region_noPanic ?_
      refine wp_region_held_drew (S:=(fun w'=>w'.cell? ⟨G.μ b,1,none⟩=some (.map (some BS))∧w'.cell? ⟨w.heap.size,0,none⟩=some (.int .i64 k)∧w'.cell? ⟨w.heap.size,1,none⟩=some (.string n)∧w'.cell? ⟨w.heap.size,2,none⟩=some (.slice p0 p1 p2)∧w'.cell? ⟨w.heap.size,3,none⟩=some (.int .i64 k1)∧w'.cell? ⟨w.heap.size,4,none⟩=some (.int .i64 m1)∧w'.cell? ⟨w.heap.size,5,none⟩=some (.string n1)∧w'.cell? ⟨w.heap.size,6,none⟩=some (.slice a0 a1 a2)∧w'.cell? ⟨w.heap.size,7,none⟩=some (.slice b0 b1 b2))) (by kernel_rfl) (by(try dsimp only);go_keep) (fun hHeld=>?_)
      refine Mk.BR 0 (v:=?_) hHeld rfl (by kernel_rfl) (fun _ _ _ h=>h) rfl ?_ ?_
      rotate_left
      · intro w mV;(try dsimp only at mV);go_simp;try with_reducible rfl
      try simp only[Act.put,List.setIfInBounds_toArray,List.set_cons_zero,List.set_cons_succ]
      refine Mk.BR 1 (v:=?_) hHeld rfl (by kernel_rfl) (fun _ _ _ h=>h) rfl ?_ ?_
      rotate_left
      · intro w mV;(try dsimp only at mV);go_simp;try with_reducible rfl
      try simp only[Act.put,List.setIfInBounds_toArray,List.set_cons_zero,List.set_cons_succ]
      refine Mk.BR 2 (v:=?_) hHeld rfl (by kernel_rfl) (fun _ _ _ h=>h) rfl ?_ ?_
      rotate_left
      · intro w mV;(try dsimp only at mV);go_simp;try with_reducible rfl
      try simp only[Act.put,List.setIfInBounds_toArray,List.set_cons_zero,List.set_cons_succ]
      refine Mk.BR 3 (v:=?_) hHeld rfl (by kernel_rfl) (fun _ _ _ h=>h) rfl ?_ ?_
      rotate_left
      · intro w mV;(try dsimp only at mV);go_simp;try with_reducible rfl
      try simp only[Act.put,List.setIfInBounds_toArray,List.set_cons_zero,List.set_cons_succ]
      refine Mk.BR 4 (v:=?_) hHeld rfl (by kernel_rfl) (fun _ _ _ h=>h) rfl ?_ ?_
      rotate_left
      · intro w mV;(try dsimp only at mV);go_simp;try with_reducible rfl
      try simp only[Act.put,List.setIfInBounds_toArray,List.set_cons_zero,List.set_cons_succ]
      refine Mk.BR 5 (v:=?_) hHeld rfl (by kernel_rfl) (fun _ _ _ h=>h) rfl ?_ ?_
      rotate_left
      · intro w mV;(try dsimp only at mV);go_simp;try with_reducible rfl
      try simp only[Act.put,List.setIfInBounds_toArray,List.set_cons_zero,List.set_cons_succ]
      refine Mk.BR 7 (v:=?_) hHeld rfl (by kernel_rfl) (fun _ _ _ h=>h) rfl ?_ ?_
      rotate_left
      · intro w mV;(try dsimp only at mV);go_simp;try with_reducible rfl
      try simp only[Act.put,List.setIfInBounds_toArray,List.set_cons_zero,List.set_cons_succ]
      refine Mk.BR 8 (v:=?_) hHeld rfl (by kernel_rfl) (fun _ _ _ h=>h) rfl ?_ ?_
      rotate_left
      · intro w mV;(try dsimp only at mV);go_simp;try with_reducible rfl
      try simp only[Act.put,List.setIfInBounds_toArray,List.set_cons_zero,List.set_cons_succ]
      refine Mk.BR 11 (v:=?_) hHeld rfl (by kernel_rfl) (fun _ _ _ h=>h) rfl ?_ ?_
      rotate_left
      · intro w mV;(try dsimp only at mV);go_simp;try with_reducible rfl
      try simp only[Act.put,List.setIfInBounds_toArray,List.set_cons_zero,List.set_cons_succ]
      refine Mk.BR 12 (v:=?_) hHeld rfl (by kernel_rfl) (fun _ _ _ h=>h) rfl ?_ ?_
      rotate_left
      · intro w mV;(try dsimp only at mV);go_simp;try with_reducible rfl
      try simp only[Act.put,List.setIfInBounds_toArray,List.set_cons_zero,List.set_cons_succ]
      refine Mk.BR 13 (v:=?_) hHeld rfl (by kernel_rfl) (fun _ _ _ h=>h) rfl ?_ ?_
      rotate_left
      · intro w mV;(try dsimp only at mV);go_simp;try with_reducible rfl
      try simp only[Act.put,List.setIfInBounds_toArray,List.set_cons_zero,List.set_cons_succ]
      refine Mk.BR 14 (v:=?_) hHeld rfl (by kernel_rfl) (fun _ _ _ h=>h) rfl ?_ ?_
      rotate_left
      · intro w mV;(try dsimp only at mV);go_simp;try with_reducible rfl
      try simp only[Act.put,List.setIfInBounds_toArray,List.set_cons_zero,List.set_cons_succ]
      refine Mk.brH 6 rfl (by kernel_rfl) (fun K hK=>?_)
      go_simp
      refine hK.out _ _ ?_ (fun hHeld=>?_)
      · (try dsimp only);go_keep
      clear hK K
      try simp only[Act.put,List.setIfInBounds_toArray,List.set_cons_zero,List.set_cons_succ]
      rcases(show k=0∨k=1∨k=2∨k=3 by omega)with rfl|rfl|rfl|rfl
      all_goals
        refine Mk.BR 9 (v:=?_) hHeld rfl (by kernel_rfl) (fun _ _ _ h=>h) rfl ?_ ?_
        rotate_left
        · intro w mV;(try dsimp only at mV);go_simp;try with_reducible rfl
        try simp only[Act.put,List.setIfInBounds_toArray,List.set_cons_zero,List.set_cons_succ]
        refine Mk.brH 10 rfl (by kernel_rfl) (fun K hK=>?_)
        go_simp
        refine hK.out _ _ ?_ (fun hHeld=>?_)
        · (try dsimp only);go_keep
        clear hK K
        try simp only[Act.put,List.setIfInBounds_toArray,List.set_cons_zero,List.set_cons_succ]
        refine Mk.BR 15 (v:=?_) hHeld rfl (by kernel_rfl) (fun _ _ _ h=>h) rfl ?_ ?_
        rotate_left
        · intro w mV;(try dsimp only at mV);go_simp;try with_reducible rfl
        try simp only[Act.put,List.setIfInBounds_toArray,List.set_cons_zero,List.set_cons_succ]
        refine Mk.brH 16 rfl (by kernel_rfl) (fun K hK=>?_)
        go_simp
        refine hK.out _ _ ?_ (fun hHeld=>?_)
        · (try dsimp only);go_keep
        clear hK K
        try simp only[Act.put,List.setIfInBounds_toArray,List.set_cons_zero,List.set_cons_succ]
        refine Mk.brH 17 rfl (by kernel_rfl) (fun K hK=>?_)
        go_simp
        refine hK.out _ _ ?_ (fun hHeld=>?_)
        · (try dsimp only);go_keep
        clear hK K
        try simp only[Act.put,List.setIfInBounds_toArray,List.set_cons_zero,List.set_cons_succ]
        refine wpAnyH_done (by kernel_rfl) ?_ _
        refine NoPanic.normal ?_
        go_wp2_with fail
        go_meet
        first|exact HP.out 0 _|exact HP.out 1 _|exact HP.out 2 _
    case rest=>
      clear BQ HP WX hu2 hle Rj lD1 lw lD lT zc0 zc1 zc2 zc3 zc4 zc5 zc6 zc7 hap X0 Zw n1' n2' cm Ms Gk x1 BS uP oj
      obtain⟨Gk,x1,BS,uP,oj,Up,s1,up,hM,Ms,cm,bD,bT,X0,Zw,n1',n2'⟩:=Mk.CZ eN M9 hcut
      have zc0:wc.cell? ⟨w.heap.size,0,none⟩=some (.int .i64 k):=aj bD 0
      have zce:wc.cell? ⟨w.heap.size,14,none⟩=some (.slice e0 e1 e2):=aj bD 14
      clear Up s1 up hM bD bT
      by_cases lL:k=3
      · have PX:Hid (Mk.Nj gl G w σ b [.int .i64 k,.string n,.slice p0 p1 p2,.int .i64 k1,.int .i64 m1,.string n1,.slice a0 a1 a2,.slice b0 b1 b2,.int .i64 k2,.int .i64 m2,.string n2,.slice c0 c1 c2,.slice d0 d1 d2,.int .i64 ar,.slice e0 e1 e2] [.int .i64 rk,.int .i64 rm,.string rn,.slice f0 f1 f2,.slice g0 g1 g2] (.row 15 56 (ds++[[.int .i64 k,.str n,yO,.int .i64 k1,.int .i64 m1,.str n1,va,vb,.int .i64 k2,.int .i64 m2,.str n2,No,Np,.int .i64 ar,.slice 6 60 L]]),true) (Mk.iC (ks,es) n (Mk.bR 2 yO [.int .i64 k1,.int .i64 m1,.str n1,va,vb] 0)) wc):=by rw[if_pos lL]at hcut;exact hcut
        clear hcut
        subst lL
        obtain⟨m',PV,hm2⟩:=HQ.out.2.2.2 rfl
        have hlen:e1=L.length:=Mk.Un r14
        subst hlen
        have HM:Hid (Mk.ic yO 0 L (Mk.iC (ks,es) n (Mk.bR 2 yO [.int .i64 k1,.int .i64 m1,.str n1,va,vb] 0))=some m'∧m=Mk.iC m' (n++Mk.fp) (Mk.bR 4 Uo [.int .i64 rk,.int .i64 rm,.str rn,vf,vg] 0)):=⟨PV,hm2⟩
        clear PV hm2
        go_wp2_with fail
        go_loopg [43] L.length (fun j s43 W=>∃(i:Nat) (mq:List ByteArray×List (List V)),s43=.int .i64 (i:Int)∧i+j=L.length∧Mk.ic yO i (L.drop i) mq=some m'∧Mk.Nj gl G w σ b [.int .i64 3,.string n,.slice p0 p1 p2,.int .i64 k1,.int .i64 m1,.string n1,.slice a0 a1 a2,.slice b0 b1 b2,.int .i64 k2,.int .i64 m2,.string n2,.slice c0 c1 c2,.slice d0 d1 d2,.int .i64 ar,.slice e0 L.length e2] [.int .i64 rk,.int .i64 rm,.string rn,.slice f0 f1 f2,.slice g0 g1 g2] (.row 15 56 (ds++[[.int .i64 3,.str n,yO,.int .i64 k1,.int .i64 m1,.str n1,va,vb,.int .i64 k2,.int .i64 m2,.str n2,No,Np,.int .i64 ar,.slice 6 60 L]]),true) mq W)
        case atStart=>exact⟨0,_,rfl,by omega,HM.out.1,PX.out⟩
        case round=>
          obtain⟨i,mi,rfl,hij,Uq,Zx⟩:=hrel
          clear PX zc0 zce cm Ms X0 Zw n1' n2' Gk x1 BS uP oj
          obtain⟨Gk,x1,BS,uP,oj,Up,s1,up,hM,Ms,cm,bD,bT,X0,Zw,n1',n2'⟩:=Mk.CZ eN M9 Zx
          have lw:=(Array.getElem?_eq_some_iff.1 hM.map.hb).1
          have lD:=(Array.getElem?_eq_some_iff.1 bD).1
          have lT:=(Array.getElem?_eq_some_iff.1 bT).1
          have zc1:wr.cell? ⟨w.heap.size,1,none⟩=some (.string n):=aj bD 1
          have zc2:wr.cell? ⟨w.heap.size,2,none⟩=some (.slice p0 p1 p2):=aj bD 2
          have zt0:wr.cell? ⟨w.heap.size+1,0,none⟩=some (.int .i64 rk):=aj bT 0
          have zt1:wr.cell? ⟨w.heap.size+1,1,none⟩=some (.int .i64 rm):=aj bT 1
          have zt2:wr.cell? ⟨w.heap.size+1,2,none⟩=some (.string rn):=aj bT 2
          have zt3:wr.cell? ⟨w.heap.size+1,3,none⟩=some (.slice f0 f1 f2):=aj bT 3
          have zt4:wr.cell? ⟨w.heap.size+1,4,none⟩=some (.slice g0 g1 g2):=aj bT 4
          have hap:=hM.apart
          rw[Ms]at hap
          have WX:∀(W':World) (o:Obj) (j:Nat),(Mk.uB W' BS o).cell? ⟨G.μ b,j,none⟩=W'.cell? ⟨G.μ b,j,none⟩:=fun W' o j=>Mk.mE hap o j
          have hu2:∀(W':World) (o:Obj) (j:Nat),(Mk.uB W' BS o).cell? ⟨w.heap.size,j,none⟩=W'.cell? ⟨w.heap.size,j,none⟩:=fun W' o j=>Mk.mE X0 o j
          have hu3:∀(W':World) (o:Obj) (j:Nat),(Mk.uB W' BS o).cell? ⟨w.heap.size+1,j,none⟩=W'.cell? ⟨w.heap.size+1,j,none⟩:=fun W' o j=>Mk.mE Zw o j
          have hu4:∀(W':World) (o:Obj) (j:Nat),(Mk.uB W' BS o).cell? ⟨wr.heap.size,j,none⟩=W'.cell? ⟨wr.heap.size,j,none⟩:=fun W' o j=>Mk.mE (by omega) o j
          have hle:G.μ b<wr.heap.size:=by omega
          have Rj:G.μ b<wr.heap.size+1:=by omega
          have lD1:w.heap.size<wr.heap.size+1:=by omega
          have lT1:w.heap.size+1<wr.heap.size+1:=by omega
          obtain rfl|⟨j',rfl⟩:gk=0∨∃j',gk=j'+1:=by cases gk with|zero=>exact .inl rfl|succ k=>exact .inr ⟨k,rfl⟩
          · have Ky:¬((i:Int)<(L.length:Int)):=by omega
            have BQ:∀(o1:Obj) (nm:ByteArray) p,(Instr.mapUpdate 80 (.map (some BS)) (.string nm) p).run Tryz.prog (wr.alloc o1).drew=.ok () (Mk.uB (wr.alloc o1).drew BS (dT uP oj mi.1 nm p)):=fun o1 nm p=>by
              refine Mk.Ij Tryz.underlying9 Tryz.underlying80 ?_ hM.map.keys
              exact(aO (w:=wr) lw).trans hM.map.hb
            have hi1:i=L.length:=by omega
            have hmi:mi=m':=by
              rw[hi1,List.drop_length]at Uq
              exact Option.some.inj Uq
            have HP:Hid (Mk.Nj gl G w σ b [.int .i64 3,.string n,.slice p0 p1 p2,.int .i64 k1,.int .i64 m1,.string n1,.slice a0 a1 a2,.slice b0 b1 b2,.int .i64 k2,.int .i64 m2,.string n2,.slice c0 c1 c2,.slice d0 d1 d2,.int .i64 ar,.slice e0 L.length e2] [.int .i64 rk,.int .i64 rm,.string rn,.slice f0 f1 f2,.slice g0 g1 g2] (.row 15 56 (ds++[[.int .i64 3,.str n,yO,.int .i64 k1,.int .i64 m1,.str n1,va,vb,.int .i64 k2,.int .i64 m2,.str n2,No,Np,.int .i64 ar,.slice 6 60 L]]),true) (Mk.iC mi (n++Mk.fp) (Mk.bR 4 Uo [.int .i64 rk,.int .i64 rm,.str rn,vf,vg] 0))
                (Mk.uB (wr.alloc (.cells #[.int .i64 4,.pointer (some ⟨w.heap.size,0,none⟩),.slice h0 h1 h2,.int .i64 rk,.int .i64 rm,.string rn,.slice f0 f1 f2,.slice g0 g1 g2,.int .i64 0] 88)).drew BS (dT uP oj mi.1 (n++Mk.fp) (.pointer (some ⟨wr.heap.size,0,none⟩))))):=by
              refine Mk.Nk (vals:=[.int .i64 4,.pointer (some ⟨w.heap.size,0,none⟩),.slice h0 h1 h2,.int .i64 rk,.int .i64 rm,.string rn,.slice f0 f1 f2,.slice g0 g1 g2,.int .i64 0]) eN Up s1 up hM bD bT X0 Zw n1' n2' ?_ (Nat.le_refl _) ?_ rfl (by simp[Value.oneCell']) fun i v c hv hc=>?_
              · exact((RowKit.Below.refl wr.heap.size wr).alloc (Nat.le_refl _) _).drew
              · exact heap_alloc_new wr _
              · match i with
                |0=>simp[Mk.bR]at hv hc;subst hv;subst hc;exact .int _ _
                |1=>simp[Mk.bR]at hv hc;subst hv;subst hc;exact .any _ rfl
                |2=>simp[Mk.bR]at hv hc;subst hv;subst hc;exact up _ _ r2'
                |3=>simp[Mk.bR]at hv hc;subst hv;subst hc;exact .int _ _
                |4=>simp[Mk.bR]at hv hc;subst hv;subst hc;exact .int _ _
                |5=>simp[Mk.bR]at hv hc;subst hv;subst hc;exact .str _
                |6=>simp[Mk.bR]at hv hc;subst hv;subst hc;exact up _ _ rf
                |7=>simp[Mk.bR]at hv hc;subst hv;subst hc;exact up _ _ rg
                |8=>simp[Mk.bR]at hv hc;subst hv;subst hc;exact .int _ _
                |i+9=>simp[Mk.bR]at hv
            have iM:=HQ.out.2.1
            clear Zx Uq Up s1 up hM bD bT hij
            go_wp2_with fail
            refine wp_region_noPanic ?_
            refine wp_region_held_drew (S:=(fun w'=>w'.cell? ⟨G.μ b,1,none⟩=some (.map (some BS))∧w'.cell? ⟨w.heap.size,1,none⟩=some (.string n)∧w'.cell? ⟨w.heap.size+1,0,none⟩=some (.int .i64 rk)∧w'.cell? ⟨w.heap.size+1,1,none⟩=some (.int .i64 rm)∧w'.cell? ⟨w.heap.size+1,2,none⟩=some (.string rn)∧w'.cell? ⟨w.heap.size+1,3,none⟩=some (.slice f0 f1 f2)∧w'.cell? ⟨w.heap.size+1,4,none⟩=some (.slice g0 g1 g2))) (by kernel_rfl) (by(try dsimp only);go_keep) (fun hHeld=>?_)
            refine Mk.BR 0 (v:=?_) hHeld rfl (by kernel_rfl) (fun _ _ _ h=>h) rfl ?_ ?_
            rotate_left
            · intro w mV;(try dsimp only at mV);go_simp;try with_reducible rfl
            try simp only[Act.put,List.setIfInBounds_toArray,List.set_cons_zero,List.set_cons_succ]
            refine Mk.BR 1 (v:=?_) hHeld rfl (by kernel_rfl) (fun _ _ _ h=>h) rfl ?_ ?_
            rotate_left
            · intro w mV;(try dsimp only at mV);go_simp;try with_reducible rfl
            try simp only[Act.put,List.setIfInBounds_toArray,List.set_cons_zero,List.set_cons_succ]
            refine Mk.BR 2 (v:=?_) hHeld rfl (by kernel_rfl) (fun _ _ _ h=>h) rfl ?_ ?_
            rotate_left
            · intro w mV;(try dsimp only at mV);go_simp;try with_reducible rfl
            try simp only[Act.put,List.setIfInBounds_toArray,List.set_cons_zero,List.set_cons_succ]
            refine Mk.BR 3 (v:=?_) hHeld rfl (by kernel_rfl) (fun _ _ _ h=>h) rfl ?_ ?_
            rotate_left
            · intro w mV;(try dsimp only at mV);go_simp;try with_reducible rfl
            try simp only[Act.put,List.setIfInBounds_toArray,List.set_cons_zero,List.set_cons_succ]
            refine Mk.BR 4 (v:=?_) hHeld rfl (by kernel_rfl) (fun _ _ _ h=>h) rfl ?_ ?_
            rotate_left
            · intro w mV;(try dsimp only at mV);go_simp;try with_reducible rfl
            try simp only[Act.put,List.setIfInBounds_toArray,List.set_cons_zero,List.set_cons_succ]
            refine Mk.BR 5 (v:=?_) hHeld rfl (by kernel_rfl) (fun _ _ _ h=>h) rfl ?_ ?_
            rotate_left
            · intro w mV;(try dsimp only at mV);go_simp;try with_reducible rfl
            try simp only[Act.put,List.setIfInBounds_toArray,List.set_cons_zero,List.set_cons_succ]
            refine Mk.BR 7 (v:=?_) hHeld rfl (by kernel_rfl) (fun _ _ _ h=>h) rfl ?_ ?_
            rotate_left
            · intro w mV;(try dsimp only at mV);go_simp;try with_reducible rfl
            try simp only[Act.put,List.setIfInBounds_toArray,List.set_cons_zero,List.set_cons_succ]
            refine Mk.BR 8 (v:=?_) hHeld rfl (by kernel_rfl) (fun _ _ _ h=>h) rfl ?_ ?_
            rotate_left
            · intro w mV;(try dsimp only at mV);go_simp;try with_reducible rfl
            try simp only[Act.put,List.setIfInBounds_toArray,List.set_cons_zero,List.set_cons_succ]
            refine Mk.BR 9 (v:=?_) hHeld rfl (by kernel_rfl) (fun _ _ _ h=>h) rfl ?_ ?_
            rotate_left
            · intro w mV;(try dsimp only at mV);go_simp;try with_reducible rfl
            try simp only[Act.put,List.setIfInBounds_toArray,List.set_cons_zero,List.set_cons_succ]
            refine Mk.BR 6 (v:=?_) hHeld rfl (by kernel_rfl) (fun _ _ _ h=>h) rfl ?_ ?_
            rotate_left
            · intro w mV;(try dsimp only at mV);go_simp;rw[if_neg (by omega)]
            try simp only[Act.put,List.setIfInBounds_toArray,List.set_cons_zero,List.set_cons_succ]
            refine Mk.brH 10 rfl (by kernel_rfl) (fun K hK=>?_)
            go_simp
            refine hK.out _ _ ?_ (fun hHeld=>?_)
            · (try dsimp only);go_keep
            clear hK K
            try simp only[Act.put,List.setIfInBounds_toArray,List.set_cons_zero,List.set_cons_succ]
            refine Mk.brH 11 rfl (by kernel_rfl) (fun K hK=>?_)
            go_simp
            refine hK.out _ _ ?_ (fun hHeld=>?_)
            · (try dsimp only);go_keep
            clear hK K
            try simp only[Act.put,List.setIfInBounds_toArray,List.set_cons_zero,List.set_cons_succ]
            refine wpAnyH_done (by kernel_rfl) ?_ _
            refine NoPanic.normal ?_
            all_goals
              refine bodyPost_end (results_none rfl _ _ _) rfl (HQ.out.1 _ ?_)
              have h2:=HP.out
              rw[hmi,←HM.out.2]at h2
              exact h2
          · have hil:i<L.length:=by omega
            have aG:(i:Int)<(L.length:Int):=by omega
            have hi0:(0:Int)≤(i:Int):=by omega
            have adt:IntKind.i64.wrap ((i:Int)+1)=((i+1:Nat):Int):=by have:=HQ.out.2.1.2;rw[show((i+1:Nat):Int)=(i:Int)+1 by omega];simp(disch:=omega) only[IntWalk.i64_in]
            have hdr:L.drop i=L[i]::L.drop (i+1):=List.drop_eq_getElem_cons hil
            have hLi:L[i]?=some L[i]:=List.getElem?_eq_getElem hil
            generalize L[i]=y at hdr hLi
            rw[hdr]at Uq
            obtain⟨s,kk,nn,q,ka,ea,la,kb,eb,lb,rfl,Uq⟩:=Mk.Nl Uq
            obtain⟨cb,off,x0,x2,x3,y0',y2',y3',rfl,w0,w1,w2,w3,w4,w5,rra,rrb⟩:=Mk.Nn (up _ _ r14) r14 hLi
            have BQ:∀(o1 o2:Obj) (nm:ByteArray) p,(Instr.mapUpdate 80 (.map (some BS)) (.string nm) p).run Tryz.prog ((wr.alloc o1).alloc o2).drew=.ok () (Mk.uB ((wr.alloc o1).alloc o2).drew BS (dT uP oj mi.1 nm p)):=fun o1 o2 nm p=>by
              refine Mk.Ij Tryz.underlying9 Tryz.underlying80 ?_ hM.map.keys
              exact(aO (w:=wr.alloc o1) (by show BS<(wr.heap.push _).size;rw[Array.size_push];omega)).trans ((aO (w:=wr) lw).trans hM.map.hb)
            have HP:Hid (∀o1:Obj,Mk.Nj gl G w σ b [.int .i64 3,.string n,.slice p0 p1 p2,.int .i64 k1,.int .i64 m1,.string n1,.slice a0 a1 a2,.slice b0 b1 b2,.int .i64 k2,.int .i64 m2,.string n2,.slice c0 c1 c2,.slice d0 d1 d2,.int .i64 ar,.slice (some ⟨cb,off,none⟩) L.length e2] [.int .i64 rk,.int .i64 rm,.string rn,.slice f0 f1 f2,.slice g0 g1 g2] (.row 15 56 (ds++[[.int .i64 3,.str n,yO,.int .i64 k1,.int .i64 m1,.str n1,va,vb,.int .i64 k2,.int .i64 m2,.str n2,No,Np,.int .i64 ar,.slice 6 60 L]]),true) (Mk.iC mi s (Mk.bR 3 yO [.int .i64 kk,.int .i64 nn,.str q,.slice ka ea la,.slice kb eb lb] i))
                (Mk.uB ((wr.alloc o1).alloc (.cells #[.int .i64 3,.pointer (some ⟨w.heap.size,0,none⟩),.slice p0 p1 p2,.int .i64 kk,.int .i64 nn,.string q,.slice x0 x2 x3,.slice y0' y2' y3',.int .i64 i] 88)).drew BS (dT uP oj mi.1 s (.pointer (some ⟨wr.heap.size+1,0,none⟩))))):=fun o1=>by
              refine Mk.Nk (vals:=[.int .i64 3,.pointer (some ⟨w.heap.size,0,none⟩),.slice p0 p1 p2,.int .i64 kk,.int .i64 nn,.string q,.slice x0 x2 x3,.slice y0' y2' y3',.int .i64 i]) eN Up s1 up hM bD bT X0 Zw n1' n2' ?_ (by omega) ?_ rfl (by simp[Value.oneCell']) fun i v c hv hc=>?_
              · exact(((RowKit.Below.refl wr.heap.size wr).alloc (Nat.le_refl _) _).alloc (by show wr.heap.size≤(wr.heap.push _).size;rw[Array.size_push];omega) _).drew
              · have:=heap_alloc_new (wr.alloc o1) (.cells #[.int .i64 3,.pointer (some ⟨w.heap.size,0,none⟩),.slice p0 p1 p2,.int .i64 kk,.int .i64 nn,.string q,.slice x0 x2 x3,.slice y0' y2' y3',.int .i64 i] 88)
                rw[show(wr.alloc o1).heap.size=wr.heap.size+1 by show(wr.heap.push _).size=_;rw[Array.size_push]]at this
                exact this
              · match i with
                |0=>simp[Mk.bR]at hv hc;subst hv;subst hc;exact .int _ _
                |1=>simp[Mk.bR]at hv hc;subst hv;subst hc;exact .any _ rfl
                |2=>simp[Mk.bR]at hv hc;subst hv;subst hc;exact up _ _ r2
                |3=>simp[Mk.bR]at hv hc;subst hv;subst hc;exact .int _ _
                |4=>simp[Mk.bR]at hv hc;subst hv;subst hc;exact .int _ _
                |5=>simp[Mk.bR]at hv hc;subst hv;subst hc;exact .str _
                |6=>simp[Mk.bR]at hv hc;subst hv;subst hc;exact rra
                |7=>simp[Mk.bR]at hv hc;subst hv;subst hc;exact rrb
                |8=>simp[Mk.bR]at hv hc;subst hv;subst hc;exact .int _ _
                |i+9=>simp[Mk.bR]at hv
            have HC:Hid (Mk.ic yO (i+1) (L.drop (i+1)) (Mk.iC mi s (Mk.bR 3 yO [.int .i64 kk,.int .i64 nn,.str q,.slice ka ea la,.slice kb eb lb] i))=some m'):=Uq
            clear Zx Uq Up s1 up hM bD bT rra rrb hdr hLi
            go_wp2_with fail
            go_region_held3 (fun w'=>w'.cell? ⟨G.μ b,1,none⟩=some (.map (some BS))∧w'.cell? ⟨w.heap.size,2,none⟩=some (.slice p0 p1 p2)∧w'.cell? ⟨wr.heap.size,0,none⟩=some (.string s)∧w'.cell? ⟨wr.heap.size,1,none⟩=some (.int .i64 kk)∧w'.cell? ⟨wr.heap.size,2,none⟩=some (.int .i64 nn)∧w'.cell? ⟨wr.heap.size,3,none⟩=some (.string q)∧
                w'.cell? ⟨wr.heap.size,4,none⟩=some (.slice x0 x2 x3)∧w'.cell? ⟨wr.heap.size,5,none⟩=some (.slice y0' y2' y3'))
              (first|go_keep) (first|fail)
            all_goals
              go_wp2_with fail
              go_roundg j'
            case measure=>omega
            case rel=>
              exact⟨i+1,_,rfl,by omega,HC.out,HP.out _⟩
      · have PX:Hid (Mk.Nj gl G w σ b [.int .i64 k,.string n,.slice p0 p1 p2,.int .i64 k1,.int .i64 m1,.string n1,.slice a0 a1 a2,.slice b0 b1 b2,.int .i64 k2,.int .i64 m2,.string n2,.slice c0 c1 c2,.slice d0 d1 d2,.int .i64 ar,.slice e0 e1 e2] [.int .i64 rk,.int .i64 rm,.string rn,.slice f0 f1 f2,.slice g0 g1 g2] (.row 15 56 (ds++[[.int .i64 k,.str n,yO,.int .i64 k1,.int .i64 m1,.str n1,va,vb,.int .i64 k2,.int .i64 m2,.str n2,No,Np,.int .i64 ar,.slice 6 60 L]]),true) (Mk.iC (ks,es) n (Mk.bR (if k=2 then 1 else 0) yO [.int .i64 k1,.int .i64 m1,.str n1,va,vb] 0)) wc):=by rw[if_neg lL]at hcut;exact hcut
        clear hcut
        have hkn:¬(k=3):=lL
        go_wp2_with fail
        refine bodyPost_ret (results_none rfl _ _ _) rfl (HQ.out.1 _ ?_)
        have h2:=PX.out
        rw[←HQ.out.2.2.1 hkn]at h2
        exact h2
end Go.Ab
end
section
namespace Go.Ab
open Go.RowKit Go.Proofs
set_option maxRecDepth 100000
set_option maxHeartbeats 1000000
theorem Mk.Nq {G:Gh} {w:World} {v:V} {x:List V} {c:Value} (h:Rel G w v c) (hx:Mk.xo v=some x):
  ∃k n k1 m1 n1 k2 m2 n2 ar s2x s2y s2z s6x s6y s6z s7x s7y s7z aaB aaC aaD aaE aaF aaG L s2a s2b s2c s6a s6b s6c s7a s7b s7c X1 X2 X3 X4 X5 X6 X7 X8 X9,c=.agg #[.int .i64 k,.string n,.slice s2a s2b s2c,.int .i64 k1,.int .i64 m1,.string n1,.slice s6a s6b s6c,.slice s7a s7b s7c,.int .i64 k2,.int .i64 m2,.string n2,.slice X1 X2 X3,.slice X4 X5 X6,.int .i64 ar,.slice X7 X8 X9]∧x=[.int .i64 k,.str n,.slice s2x s2y s2z,.int .i64 k1,.int .i64 m1,.str n1,.slice s6x s6y s6z,.slice s7x s7y s7z,.int .i64 k2,.int .i64 m2,.str n2,.slice aaB aaC aaD,.slice aaE aaF aaG,.int .i64 ar,.slice 6 60 L]∧Rel G w (.slice s2x s2y s2z) (.slice s2a s2b s2c)∧Rel G w (.slice s6x s6y s6z) (.slice s6a s6b s6c)∧Rel G w (.slice s7x s7y s7z) (.slice s7a s7b s7c)∧Rel G w (.slice aaB aaC aaD) (.slice X1 X2 X3)∧Rel G w (.slice aaE aaF aaG) (.slice X4 X5 X6)∧Rel G w (.slice 6 60 L) (.slice X7 X8 X9):=by
 unfold Mk.xo at hx
 split at hx
 case h_2=>simp at hx
 obtain rfl:=Option.some.inj hx
 cases h with
 |agg _ xs h1 h2 h3=>
  obtain⟨z0,z1,z2,z3,z4,z5,z6,z7,z8,z9,z10,z11,z12,z13,z14,rfl⟩:∃z0 z1 z2 z3 z4 z5 z6 z7 z8 z9 z10 z11 z12 z13 z14,xs=[z0,z1,z2,z3,z4,z5,z6,z7,z8,z9,z10,z11,z12,z13,z14]:=by
   match xs,h1 with
   |[z0,z1,z2,z3,z4,z5,z6,z7,z8,z9,z10,z11,z12,z13,z14],_=>exact⟨_,_,_,_,_,_,_,_,_,_,_,_,_,_,_,rfl⟩
  have q0:=h3 0 _ _ rfl rfl
  have q1:=h3 1 _ _ rfl rfl
  have q2:=h3 2 _ _ rfl rfl
  have q3:=h3 3 _ _ rfl rfl
  have q4:=h3 4 _ _ rfl rfl
  have q5:=h3 5 _ _ rfl rfl
  have q6:=h3 6 _ _ rfl rfl
  have q7:=h3 7 _ _ rfl rfl
  have q8:=h3 8 _ _ rfl rfl
  have q9:=h3 9 _ _ rfl rfl
  have q10:=h3 10 _ _ rfl rfl
  have q11:=h3 11 _ _ rfl rfl
  have q12:=h3 12 _ _ rfl rfl
  have q13:=h3 13 _ _ rfl rfl
  have q14:=h3 14 _ _ rfl rfl
  obtain⟨a2,b2,c2,e2⟩:=Mk.uz rfl q2
  subst e2
  obtain⟨a6,b6,c6,e6⟩:=Mk.uz rfl q6
  subst e6
  obtain⟨a7,b7,c7,e7⟩:=Mk.uz rfl q7
  subst e7
  obtain⟨a11,b11,c11,e11⟩:=Mk.uz rfl q11
  subst e11
  obtain⟨a12,b12,c12,e12⟩:=Mk.uz rfl q12
  subst e12
  obtain⟨a14,b14,c14,e14⟩:=Mk.uz rfl q14
  subst e14
  cases q0
  cases q1
  cases q3
  cases q4
  cases q5
  cases q8
  cases q9
  cases q10
  cases q13
  exact⟨_,_,_,_,_,_,_,_,_,_,_,_,_,_,_,_,_,_,_,_,_,_,_,_,_,_,_,_,_,_,_,_,_,_,_,_,_,_,_,_,_,_,_,rfl,rfl,q2,q6,q7,q11,q12,q14⟩
theorem Ur {C:Ctx} (ig:∀(args:Array Value) (w:World),(callFunc 36 args).run Tryz.prog w=.ok (.enter 36 args) w):
  ji Tryz.prog C (fun g args σ=>if g=36 then Mk.ts args σ else none):=by
 intro g args σ r h0
 simp only at h0
 split at h0
 case isFalse=>simp at h0
 rename_i BD
 subst BD
 refine⟨ig,fun G w vals hS gE hlen hv=>?_⟩
 unfold Mk.ts at h0
 split at h0
 case h_2=>simp at h0
 rename_i t b o ow v ow2 q0 q1 q2 ow3 rt ow4
 split at h0
 case isFalse=>simp at h0
 rename_i Ug
 obtain⟨rfl,rfl⟩:=Ug
 obtain⟨p,hp,h1⟩:=Option.bind_eq_some_iff.1 h0
 obtain⟨x,hx,h2⟩:=Option.bind_eq_some_iff.1 h1
 obtain⟨y,hy,h3⟩:=Option.bind_eq_some_iff.1 h2
 obtain⟨m,hm,h4⟩:=Option.bind_eq_some_iff.1 h3
 obtain rfl:=Option.some.inj h4
 clear h0 h1 h2 h3 h4
 obtain⟨ds,ks,es⟩:=p
 obtain⟨v0,v1,v2,v3,rfl⟩:∃v0 v1 v2 v3,vals=[v0,v1,v2,v3]:=by
  match vals,hlen with
  |[v0,v1,v2,v3],_=>exact⟨v0,v1,v2,v3,rfl⟩
 have r0:=(hv 0 _ v0 rfl rfl).1
 have r1:=(hv 1 _ v1 rfl rfl).1
 have r2:=(hv 2 _ v2 rfl rfl).1
 have r3:=(hv 3 _ v3 rfl rfl).1
 simp only at r0 r1 r2 r3
 obtain⟨k,n,k1,m1,n1,k2,m2,n2,ar,s2x,s2y,s2z,s6x,s6y,s6z,s7x,s7y,s7z,aaB,aaC,aaD,aaE,aaF,aaG,L,s2a,s2b,s2c,s6a,s6b,s6c,s7a,s7b,s7c,X1,X2,X3,X4,X5,X6,X7,X8,X9,rfl,rfl,d2,d6,d7,d11,d12,d14⟩:=Mk.Nq r1 hx
 obtain⟨tk,tm,tq,f0,f1,f2,g0,g1,g2,_,_,_,_,_,_,rfl,rfl,tf,tg⟩:=Mk.tK r3 hy
 obtain⟨h0,h1,h2,rfl⟩:=Mk.uz (a:=.slice q0 q1 q2) rfl r2
 cases r0 with
 |ptr _ _ _ M9 Ie=>
 obtain⟨c,x0,mb,bY,clock,hb,hX⟩:=Mk.tH hS hp
 obtain⟨xs,hR⟩:=Ig hX.row hX.of
 have Ko:ds.length<100000000:=by
  have he:=hX.of
  unfold Mk.rowOf at he
  split at he
  ·split at he
   ·rename_i hh;obtain rfl:=Option.some.inj he;exact hh.2.2
   ·simp at he
  ·obtain rfl:=Option.some.inj he;simp
  ·simp at he
 have ab1:0≤k∧k≤3:=by
  have h:=hm
  unfold Mk.rK at h
  simp only at h
  split at h
  ·rename_i hh;exact⟨hh.1,hh.2.1⟩
  ·simp at h
 refine Mk.adv (b:=b) k k1 m1 k2 m2 ar tk tm n n1 n2 tq s2a s6a s7a X1 X4 X7 f0 g0 h0 s2b s2c s6b s6c s7b s7c X2 X3 X5 X6 X8 X9 f1 f2 g1 g2 h1 h2 hS hX M9 ab1 hb hR Ko d2 d6 d7 d11 d12 d14 m _ _ _ r2 tf tg hm _ fun W hW=>?_
 obtain⟨G',e1,s1,_⟩:=hW
 exact⟨G',e1.PD,s1,[],rfl,by simp,fun i c x hc hx=>by simp at hc⟩
end Go.Ab
end
