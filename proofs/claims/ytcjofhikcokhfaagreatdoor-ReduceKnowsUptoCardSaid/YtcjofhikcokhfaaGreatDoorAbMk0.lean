/- AbMk0: printed by program: functions of the program as plain Lean, and the equations. -/
import Derived.Test.YtcjofhikcokhfaaGreatDoorAbBl
import Derived.Test.YtcjofhikcokhfaaGreatDoorAbMp
import Derived.MapKept
import Derived.Maps.AppendAt
import Derived.Test.YtcjofhikcokhfaaGreatDoorProg
set_option linter.unusedSimpArgs false
set_option linter.unusedVariables false
set_option linter.deprecated false
noncomputable section
namespace Go.Ab
open Go.RowKit Go.Proofs
set_option maxRecDepth 100000
def Mk.PY (n:Int) (σ:az):Option aQ:=if 0≤n∧n<4611686018427387904 then some (.ret [(.str ⟨(Go.Lib.decDigits n.toNat).toArray⟩,false)],σ)else none
def Mk.C0 (args:List Cell) (σ:az):Option aQ:=match args with
 |[(.int .i64 n,_)]=>Mk.PY n σ
 |_=>none
theorem Mk.Us {n:Nat} (h:n<4611686018427387904) (o:Bool) (σ:az):Mk.C0 [(.int .i64 n,o)] σ=some (.ret [(.str ⟨(Go.Lib.decDigits n).toArray⟩,false)],σ):=by
 show Mk.PY n σ=_
 unfold Mk.PY
 rw[if_pos ⟨by omega,by omega⟩]
 rfl
theorem Mk.Ut {C:Ctx} {f:FuncId} (ig:∀(args:Array Value) (w:World),(callFunc f args).run Tryz.prog w=.ok (.enter f args) w)
  (h:∀(n:Nat),n<4611686018427387904→∀(G:Gh) (w:World) (σ:az),dR C.bN G w σ→Calls Tryz.prog f #[.int .i64 n] w (Mk.Zk w (Go.Lib.decDigits n))):
  ji Tryz.prog C (fun g args σ=>if g=f then Mk.C0 args σ else none):=by
 intro g args σ r h0
 simp only at h0
 split at h0
 case isFalse=>simp at h0
 rename_i hg
 subst hg
 refine⟨ig,fun G w vals hS gE hlen hv=>?_⟩
 unfold Mk.C0 at h0
 split at h0
 case h_2=>simp at h0
 rename_i n o
 unfold Mk.PY at h0
 split at h0
 case isFalse=>simp at h0
 rename_i hn
 obtain rfl:=Option.some.inj h0
 obtain⟨c,rfl⟩:∃c,vals=[c]:=by
  match vals,hlen with
  |[c],_=>exact⟨c,rfl⟩
 have hr:=(hv 0 _ c rfl rfl).1
 simp only at hr
 cases hr with
 |int=>
 obtain⟨m,rfl⟩:∃m:Nat,n=(m:Int):=⟨n.toNat,by omega⟩
 refine(h m (by omega) G w σ hS).mono ?_
 rintro e w' ⟨rfl,hB⟩
 obtain⟨f1,f2⟩:=vq hS hB
 refine⟨G,f1,f2,[.string ⟨(Go.Lib.decDigits m).toArray⟩],rfl,by simp,fun i c x hc hx=>?_⟩
 match i with
 |0=>simp at hc hx;subst hc;subst hx;exact⟨.str _,fun ho=>by simp at ho⟩
 |i+1=>simp at hc
end Go.Ab
end
noncomputable section
namespace Go.Proofs
open Go.RowKit Go.Ab
set_option maxRecDepth 100000
set_option maxHeartbeats 1000000
theorem Mk.Kz (u:Nat) (w:World):(convert 106 9 (.slice (some ⟨w.heap.size,0,none⟩) 1 1)).run Tryz.prog (w.alloc (.cells #[.int .u8 (48+(u:Int)%10)] 5))=.ok (.string ⟨#[UInt8.ofNat (48+u%10)]⟩) (w.alloc (.cells #[.int .u8 (48+(u:Int)%10)] 5)):=by
 have h:=run_convert_bytes_back (P:=Tryz.prog) (w.alloc (.cells #[.int .u8 (48+(u:Int)%10)] 5)) 106 9 5 ⟨w.heap.size,0,none⟩ 1 [UInt8.ofNat (48+u%10)] Tryz.underlying106 Tryz.underlying5 Tryz.underlying9 (fun j hj=>by
  have hj0:j=0:=by simpa using hj
  subst hj0
  have:((UInt8.ofNat (48+u%10)).toNat:Int)=48+(u:Int)%10:=by
   rw[UInt8.toNat_ofNat']
   omega
  simp only[List.getElem_cons_zero,this]
  exact Uu rfl)
 exact h
theorem PZ:∀(k u:Nat),u≤k→(Lib.decDigits u).length≤u+1
 |0,u,h=>by rw[Lib.decDigits,dif_pos (by omega)];simp
 |k+1,u,h=>by
  rw[Lib.decDigits]
  split
  ·simp
  ·have:=PZ k (u / 10) (by omega)
   simp only[List.length_append,List.length_cons,List.length_nil]
   omega
theorem Mk.Rk:∀(k u:Nat),u≤k→u<4611686018427387904→∀w:World,Calls Tryz.prog 178 #[.int .i64 u] w (Mk.Zk w (Lib.decDigits u)):=by
 intro k
 induction k with
 |zero=>
  intro u hk hu w
  have Xm:=Mk.Kz u w
  have aG:(u:Int)<10:=by omega
  have hd:Lib.decDigits u=[UInt8.ofNat (48+u%10)]:=by rw[Lib.decDigits,dif_pos (by omega),Nat.mod_eq_of_lt (by omega)]
  rw[hd]
  generalize UInt8.ofNat (48+u%10)=c at Xm
  clear hd
  go_enter Tryz.func178,Tryz.ntmps178
  go_wp2_with fail
  go_ret
  exact⟨rfl,(Below.refl _ _).alloc (Nat.le_refl _) _⟩
 |succ k ih=>
  intro u hk hu w
  have Xm:=Mk.Kz u w
  by_cases aG:u<10
  ·have hd:Lib.decDigits u=[UInt8.ofNat (48+u%10)]:=by rw[Lib.decDigits,dif_pos (by omega),Nat.mod_eq_of_lt (by omega)]
   rw[hd]
   have rB:(u:Int)<10:=by omega
   generalize UInt8.ofNat (48+u%10)=c at Xm
   clear hd ih
   go_enter Tryz.func178,Tryz.ntmps178
   go_wp2_with fail
   go_ret
   exact⟨rfl,(Below.refl _ _).alloc (Nat.le_refl _) _⟩
  ·have hd:Lib.decDigits u=Lib.decDigits (u / 10)++[UInt8.ofNat (48+u%10)]:=by rw[Lib.decDigits,dif_neg (by omega)]
   have rB:¬(u:Int)<10:=by omega
   have hq:=ih (u / 10) (by omega) (by omega)
   have e:((u / 10:Nat):Int)=(u:Int) / 10:=by omega
   rw[e]at hq
   rw[hd]
   generalize UInt8.ofNat (48+u%10)=c at Xm
   have hlen:=PZ (u / 10) (u / 10) (Nat.le_refl _)
   have ab2:(Lib.decDigits (u / 10)).length+1≤9223372036854775807:=by omega
   clear hlen
   generalize Lib.decDigits (u / 10)=ds at hq ab2
   clear ih e hd
   go_enter Tryz.func178,Tryz.ntmps178
   go_wp2_with (go_at_call 178;refine(hq _).mono ?_)
   rintro e w2 ⟨rfl,hB⟩
   have hB':Hid (Below w.heap.size w w2):=((Below.refl _ _).alloc (Nat.le_refl _) _).trans (hB.mono (by simp))
   clear hB hq Xm
   go_wp2_with fail
   go_ret
   refine⟨?_,hB'.out⟩
   have:(⟨ds.toArray⟩++⟨#[c]⟩:ByteArray)=⟨(ds++[c]).toArray⟩:=by apply ByteArray.ext;simp
   rw[this]
   rfl
end Go.Proofs
namespace Go.Ab
open Go.RowKit Go.Proofs
theorem Nr {C:Ctx} (ig:∀(args:Array Value) (w:World),(callFunc 178 args).run Tryz.prog w=.ok (.enter 178 args) w):
  ji Tryz.prog C (fun g args σ=>if g=178 then Mk.C0 args σ else none):=
 Mk.Ut ig fun n hn G w σ hS=>Mk.Rk n n (Nat.le_refl _) hn w
end Go.Ab
end
noncomputable section
namespace Go.Ab
def Gh.held (G:Gh) (g:Nat) (p:Place):Gh:={G with owner:=fun i=>if i=g then some p else G.owner i}
noncomputable section
variable {gl:Nat→Option (List V)} {G:Gh} {w w':World} {σ:az} {b j g:Nat} {cs:List Cell} {c':Cell} {x':Value}
theorem dR.hold (hS:dR gl G w σ) (hb:σ[b]?=some cs) (hj:j<cs.length) (hg:G.ah g=0) (Hs:G.owner g=some (.gc b j)∨w.heap.size≤g) (Tb:g<w'.heap.size)
  (jR:∀cv el fr,w.heap[G.μ b]?=some (.cells cv el fr)→w'.heap[G.μ b]?=some (.cells (cv.setIfInBounds j x') el fr))
  (CS:∀i,i<w.heap.size→i≠G.μ b→¬(G.ah i=0∧G.owner i=some (.gc b j))→w'.heap[i]?=w.heap[i]?)
  (W8:w'.os=w.os) (htp:w'.tape=w.tape) (Zt:w'.output=w.output) (iM:w.heap.size≤w'.heap.size) (aaw:x'.oneCell'=true)
  (hR:Ext G w (G.held g (.gc b j)) w'→je (G.held g (.gc b j)) w' (.gc b j) c' x'):
  dR gl (G.held g (.gc b j)) w' (σ.set b (cs.set j c'))∧Ext G w (G.held g (.gc b j)) w':=by
 have eN:=(List.getElem?_eq_some_iff.1 hb).1
 obtain⟨cv,el,k1,k2,k3,k4,k5⟩:=hS.eZ b cs hb
 have hmu:=(Array.getElem?_eq_some_iff.1 k1).1
 have Zv:G.μ b≠g:=by
  rintro rfl
  rcases Hs with h|h
  ·rw[k3]at h;simp at h
  ·omega
 have ja:∀i,i≠g→(G.held g (.gc b j)).owner i=G.owner i:=fun i hi=>if_neg hi
 have hog:(G.held g (.gc b j)).owner g=some (.gc b j):=if_pos rfl
 have JO:∀i o,o<G.ah i→fE w' i o=fE w i o:=fun i o ho=>by
  refine eH (CS i (vm hS.wf ho) ?_ ?_) o
  ·rintro rfl;omega
  ·rintro⟨h,_⟩;omega
 have e:Ext G w (G.held g (.gc b j)) w':=⟨Nat.le_refl _,fun _ _=>rfl,fun _ _=>rfl,fun _=>Nat.le_refl _,JO,W8,htp,Zt,iM,fun i hi ho=>by
  have h1:i≠G.μ b:=by rintro rfl;rw[k3]at ho;simp at ho
  have h2:i≠g:=by
   rintro rfl
   rcases Hs with h|h
   ·rw[h]at ho;simp at ho
   ·omega
  exact⟨CS i hi h1 (by rw[ho];simp),rfl,(ja i h2).trans ho⟩⟩
 refine⟨?_,e⟩
 have CT:∀i p,G.owner i=some p→p≠.eZ b→p≠.gc b j→w'.heap[i]?=w.heap[i]?∧(G.held g (.gc b j)).ah i=G.ah i∧(G.held g (.gc b j)).owner i=some p:=fun i p hp h1 h2=>by
  have hi:=fV hS.wf hp
  have eJ:i≠g:=by
   rintro rfl
   rcases Hs with h|h
   ·rw[hp]at h;exact h2 (Option.some.inj h)
   ·omega
  refine⟨CS i hi ?_ (fun h=>h2 (Option.some.inj (hp.symm.trans h.2))),rfl,(ja i eJ).trans hp⟩
  rintro rfl
  rw[k3]at hp
  exact h1 (Option.some.inj hp).symm
 have Ui:=jR cv el _ k1
 refine⟨fun i hi=>⟨(hS.wf i (by omega)).1,(ja i (by omega)).trans (hS.wf i (by omega)).2⟩,fun q qs hq=>(hS.bN q qs hq).mono e,by rw[List.length_set];exact hS.N,fun b' jI=>?_,fun b' ds jI=>?_,hS.PE.mono e⟩
 ·rw[List.length_set]at jI
  obtain⟨XU,fr,h1⟩:=hS.typed b' jI
  by_cases xb:b'=b
  ·subst xb
   exact⟨_,fr,jR _ _ _ h1⟩
  ·obtain⟨_,_,_,_,h3,_⟩:=hS.eZ b' σ[b'] (List.getElem?_eq_getElem jI)
   exact⟨XU,fr,by rw[show(G.held g (.gc b j)).μ=G.μ from rfl,(CT _ _ h3 (by simpa using xb) (by simp)).1];exact h1⟩
 ·by_cases xb:b'=b
  ·subst xb
   rw[List.getElem?_set_self eN]at jI
   obtain rfl:=Option.some.inj jI
   refine⟨_,el,Ui,by simpa using k2,(ja _ Zv).trans k3,k4,fun j' c x hc hx=>?_⟩
   by_cases Zu:j'=j
   ·subst Zu
    rw[List.getElem?_set_self hj]at hc
    obtain rfl:=Option.some.inj hc
    rw[Array.getElem?_setIfInBounds,if_pos rfl,if_pos (by omega)]at hx
    obtain rfl:=Option.some.inj hx
    exact⟨hR e,aaw⟩
   ·rw[List.getElem?_set_ne (fun h=>Zu h.symm)]at hc
    rw[Array.getElem?_setIfInBounds,if_neg (fun h=>Zu h.symm)]at hx
    refine⟨(k5 j' c x hc hx).1.move e fun _ i hi=>CT i _ hi (by simp) (by simpa using Zu),(k5 j' c x hc hx).2⟩
  ·rw[List.getElem?_set_ne (fun h=>xb h.symm)]at jI
   exact(hS.eZ b' ds jI).move (fl:=fun p=>p≠.eZ b∧p≠.gc b j) e ⟨fun i p hp hf=>CT i p hp hf.1 hf.2⟩ ⟨by simpa using xb,by simp⟩ fun j' v _=>⟨by simp,by simp[xb]⟩
end
end Go.Ab
end
noncomputable section
namespace Go.Ab
open Go.RowKit Go.MapKept
def Mk.iC (m:List ByteArray×List (List V)) (s:ByteArray) (x:List V):List ByteArray×List (List V):=
 match m.1.idxOf? s with
 |some i=>(m.1,m.2.set i x)
 |none=>(m.1++[s],m.2++[x])
def Mk.nC (m:List ByteArray×List (List V)) (s:ByteArray):Option (List V):=(m.1.idxOf? s).bind fun i=>m.2[i]?
theorem rP (s:ByteArray):∀(l:List MapEntry) (ks:List ByteArray) (i:Nat),l.map (fun e=>e.key)=ks.map (fun s=>Value.string s)→
    (ks.idxOf? s=none∧Instr.findNow .string (.string s) l i=some none)∨∃j e,ks.idxOf? s=some j∧l[j]?=some e∧e.key=.string s∧Instr.findNow .string (.string s) l i=some (some (i+j,e.val))
  |[],ks,i,h=>by
   cases ks with
   |nil=>exact .inl ⟨rfl,rfl⟩
   |cons p ks=>simp at h
  |e::l,ks,i,h=>by
   cases ks with
   |nil=>simp at h
   |cons k ks=>
    simp only[List.map_cons,List.cons.injEq]at h
    obtain⟨h1,h3⟩:=h
    simp only[Instr.findNow,h1,Instr.sameNow,List.idxOf?_cons]
    by_cases hsk:s=k
    · subst hsk
      have hb:(s==s)=true:=(bytes_beq s s).2 rfl
      rw[if_pos hb,hb]
      exact .inr ⟨0,e,rfl,rfl,h1,rfl⟩
    · have jc:(s==k)=false:=by rw[Bool.eq_false_iff];exact fun h=>hsk ((bytes_beq s k).1 h)
      have vu:(k==s)=false:=by rw[Bool.eq_false_iff];exact fun h=>hsk ((bytes_beq k s).1 h).symm
      rw[jc,vu]
      rcases rP s l ks (i+1) h3 with⟨a1,a2⟩|⟨j,e',a1,a2,a3,a4⟩
      · exact .inl ⟨by simp[a1],a2⟩
      · refine .inr ⟨j+1,e',by simp[a1],a2,a3,?_⟩
        simp only[a4]
        rw[show i+1+j=i+(j+1) by omega]
noncomputable section
variable {P:Program} {w:World} {ops:Array Oper} {rest:List Oper} {o:Oper} {a:Act} {Q:Exit→Act→World→Prop} {k e t:TypeId} {b:Nat} {bY:Array MapEntry} {clock:Nat} {ks:List ByteArray} {s:ByteArray} {x m vo:Operand} {val:Value}
theorem Gg (hg:o.guard=none) (Tn:o.op=.lookup t m x false) (hk:P.underlying k=some .string) (ht:P.underlying t=some (.map k e)) (hz:(zeroValue e).run P w=.ok (.pointer none) w)
  (hm:a.eval m=.map (some b)) (hb:w.heap[b]?=some (.map bY clock)) (hks:bY.toList.map (fun e=>e.key)=ks.map (fun s=>Value.string s)) (hx:a.eval x=.string s)
  (hn:ks.idxOf? s=none→wpList P ops Q rest (a.put o.dst (.pointer none)) w)
  (hs:∀j e,ks.idxOf? s=some j→bY[j]?=some e→wpList P ops Q rest (a.put o.dst e.val) w):wpList P ops Q (o::rest) a w:=by
 refine wpList_plain hg fun K' hK'=>?_
 have hck:∀em,(Instr.checkKey em 10000 k (.string s)).run P w=.ok () w:=fun em=>by
  rw[show(10000:Nat)=9999+1 from rfl,Instr.checkKey,Sem.run_bind,aK hk]
  rfl
 have Hs:(getObj b).run P w=.ok (.map bY clock) w:=MapKept.run_getObj_map hb
 unfold Oper.wp
 rcases rP s bY.toList ks 0 hks with⟨h1,h2⟩|⟨j,e',h1,h2,h4,h3⟩
 ·have hfk:=run_findKey (P:=P) (w:=w) hk h2
  simp only[execOp,Tn,Instr.lookup,hx,hm,Sem.run_bind,aK ht,Result.andThen_ok,Hs,Sem.run_pure,hck,hfk]
  simp[hz]
  exact hK' _ _ (hn h1)
 ·have hfk:=run_findKey (P:=P) (w:=w) hk h3
  simp only[execOp,Tn,Instr.lookup,hx,hm,Sem.run_bind,aK ht,Result.andThen_ok,Hs,Sem.run_pure,hck,hfk]
  simp
  exact hK' _ _ (hs j e' h1 (by simpa using h2))
def dT (bY:Array MapEntry) (clock:Nat) (ks:List ByteArray) (s:ByteArray) (val:Value):Obj:=match ks.idxOf? s with
 |some j=>.map (bY.modify j fun e=>{e with key:=.string s,val:=val}) clock
 |none=>.map (bY.push {key:=.string s,val:=val,born:=clock}) (clock+1)
end
instance :LawfulBEq ByteArray where
 eq_of_beq h:=(bytes_beq _ _).1 h
 rfl:=(bytes_beq _ _).2 rfl
theorem Rl {ks:List ByteArray} {s:ByteArray} (h:ks.idxOf? s=none):s∉ks:=by
 intro hm
 rw[List.idxOf?_eq_none_iff]at h
 exact h hm
noncomputable section
variable {G G':Gh} {w w':World} {ks:List ByteArray} {es:List (List V)} {b:Nat} {bY:Array MapEntry} {clock:Nat} {s:ByteArray} {x:List V} {val:Value}
theorem xg.put (h:xg G w ks es b) (hb:w.heap[b]?=some (.map bY clock)) (jI:w'.heap[b]?=some (dT bY clock ks s val)) (hr:∀{v c},Rel G w v c→Rel G' w' v c) (hx:Rel G' w' (.eL x.length x 0) val) (h1:val.oneCell'=true):
  xg G' w' (Mk.iC (ks,es) s x).1 (Mk.iC (ks,es) s x).2 b:=by
 obtain⟨ab3,aaH,k1,k2,k3,k5,k4⟩:=h
 rw[hb]at k1
 obtain⟨rfl,rfl⟩:bY=ab3∧clock=aaH:=by simpa using k1
 have hlen:bY.size=ks.length:=by have:=congrArg List.length k2;simpa using this
 unfold dT at jI
 unfold Mk.iC
 cases hi:ks.idxOf? s with
 |none=>
  simp only[hi]at jI ⊢
  refine⟨_,_,jI,?_,by simp[k3],?_,fun i y e hy he=>?_⟩
  ·simp only[Array.toList_push,List.map_append,k2,List.map_cons,List.map_nil]
  ·rw[List.nodup_append]
   exact⟨k5,by simp,fun a ha c hc=>by rw[List.mem_singleton]at hc;subst hc;rintro rfl;exact Rl hi ha⟩
  ·by_cases aG:i<es.length
   ·rw[List.getElem?_append_left aG]at hy
    rw[Array.getElem?_push,if_neg (by omega)]at he
    exact⟨hr (k4 i y e hy he).1,(k4 i y e hy he).2⟩
   ·rw[List.getElem?_append_right (by omega)]at hy
    obtain⟨a1,a2⟩:=List.getElem?_eq_some_iff.1 hy
    simp only[List.length_singleton]at a1
    have h0:i - es.length=0:=by omega
    simp only[h0,List.getElem_cons_zero]at a2
    subst a2
    rw[Array.getElem?_push,if_pos (by omega)]at he
    obtain rfl:=Option.some.inj he
    exact⟨hx,h1⟩
 |some j=>
  simp only[hi]at jI ⊢
  refine⟨_,_,jI,?_,by simpa using k3,k5,fun i y e hy he=>?_⟩
  ·rw[←k2]
   apply modify_keys
   intro e he
   have hk:(bY.toList.map (fun e=>e.key))[j]?=some e.key:=by rw[List.getElem?_map];simp[he]
   rw[k2,List.getElem?_map]at hk
   obtain⟨q,hq,Uv⟩:=Option.map_eq_some_iff.1 hk
   have hjq:ks[j]?=some s:=by
    obtain⟨aG,hh⟩:=List.findIdx?_eq_some_iff_getElem.1 hi
    have:=(bytes_beq _ _).1 hh.1
    rw[List.getElem?_eq_getElem aG,this]
   rw[hjq]at hq
   obtain rfl:=Option.some.inj hq
   exact Uv
  ·rw[Array.getElem?_modify]at he
   by_cases hij:j=i
   ·subst hij
    rw[if_pos rfl]at he
    obtain⟨e0,he0,rfl⟩:=Option.map_eq_some_iff.1 he
    have aG:=(List.getElem?_eq_some_iff.1 hy).1
    rw[List.length_set]at aG
    rw[List.getElem?_set_self aG]at hy
    obtain rfl:=Option.some.inj hy
    exact⟨hx,h1⟩
   ·rw[if_neg hij]at he
    rw[List.getElem?_set_ne hij]at hy
    exact⟨hr (k4 i y e hy he).1,(k4 i y e hy he).2⟩
end
end Go.Ab
end
noncomputable section
namespace Go.Ab
open Go.RowKit
def Mk.uO (v:V):Option (List V):=match v with
 |.agg [.int .i64 k,.int .i64 n,.str s,.slice k1 e1 l1,.slice k2 e2 l2]=>some [.int .i64 k,.int .i64 n,.str s,.slice k1 e1 l1,.slice k2 e2 l2]
 |_=>none
def Mk.rowOf (k:Nat) (e:TypeId) (c:Cell):Option (List (List V)):=match c with
 |(.row k' e' es,true)=>if k'=k∧e'=e∧es.length<100000000 then some es else none
 |(.lit (.slice none 0 0),_)=>some []
 |_=>none
structure CW (G:Gh) (w:World) (k:Nat) (e:TypeId) (es:List (List V)) (x:Value) (xs:List Value):Prop where
 own:w.ownsRow 0 e k x es.length xs
 len:∀y∈es,y.length=k
 rel:∀(i j:Nat) (y:List V) (v:V),es[i]?=some y→y[j]?=some v→∃c,xs[i*k+j]?=some c∧c.oneCell'=true∧Rel G w v c
structure xr (G:Gh) (w:World) (p:Place) (k:Nat) (e:TypeId) (es:List (List V)) (x:Value) (xs:List Value):Prop where
 row:CW G w k e es x xs
 eZ:∀i,x.ownBlock=some i→G.owner i=some p∧G.ah i=0
noncomputable section
variable {G G':Gh} {w w':World} {p:Place} {k:Nat} {e:TypeId} {es:List (List V)} {x x':Value} {xs ys:List Value} {c:Cell}
theorem Ig (h:je G w p c x) (hc:Mk.rowOf k e c=some es):∃xs,xr G w p k e es x xs:=by
 obtain⟨h1,h2⟩:=h
 unfold Mk.rowOf at hc
 split at hc
 ·rename_i k' e' es'
  split at hc
  ·rename_i hh
   obtain⟨rfl,rfl,_⟩:=hh
   obtain rfl:=Option.some.inj hc
   have h3:=h2 rfl
   simp only at h1 h3
   cases h1 with
   |row _ _ _ a n cap hn ha=>
    cases a with
    |none=>
     obtain⟨rfl,rfl⟩:=ha rfl
     subst hn
     exact⟨[],⟨⟨by simp,.inl ⟨rfl,rfl⟩⟩,by simp,fun i j y v hy=>by simp at hy⟩,fun i hi=>by simp[Value.ownBlock]at hi⟩
    |some a=>
     obtain⟨g1,g2,xs,g3,g4,g5⟩:=h3
     exact⟨xs,⟨g3,g4,g5⟩,fun i hi=>by obtain rfl:=Option.some.inj hi;exact⟨g1,g2⟩⟩
  ·simp at hc
 ·obtain rfl:=Option.some.inj hc
  simp only at h1
  cases h1 with
  |lit=>exact⟨[],⟨⟨by simp,.inl ⟨rfl,rfl⟩⟩,by simp,fun i j y v hy=>by simp at hy⟩,fun i hi=>by simp[Value.ownBlock]at hi⟩
 ·simp at hc
theorem xr.XV (h:xr G w p k e es x xs):je G w p (.row k e es,true) x:=by
 obtain⟨⟨h1,h2,h3⟩,h4⟩:=h
 rcases h1.2 with⟨rfl,h0⟩|⟨g,cap,cur,rfl,q⟩
 ·have:es=[]:=List.length_eq_zero_iff.1 h0
  subst this
  exact⟨.row k e [] none 0 0 rfl fun _=>⟨rfl,rfl⟩,fun _=>trivial⟩
 ·exact⟨.row k e es _ _ _ rfl fun h=>by simp at h,fun _=>⟨(h4 g rfl).1,(h4 g rfl).2,xs,h1,h2,h3⟩⟩
theorem xr.one (h:xr G w p k e es x xs):x.oneCell'=true:=by
 rcases h.row.own.2 with⟨rfl,_⟩|⟨g,cap,cur,rfl,_⟩<;>rfl
theorem CW.snoc {y:List V} (h:CW G w k e es x xs) (f:∀v c,Rel G w v c→Rel G' w' v c) (ho:w'.ownsRow 0 e k x' (es.length+1) (xs++ys)) (hy:y.length=k) (hl:ys.length=k)
  (hr:∀(j:Nat) (v:V),y[j]?=some v→∃c,ys[j]?=some c∧c.oneCell'=true∧Rel G' w' v c):CW G' w' k e (es++[y]) x' (xs++ys):=by
 have Xo:=h.own.1
 refine⟨by rw[List.length_append,List.length_singleton];exact ho,fun z hz=>?_,fun i j z v hz hv=>?_⟩
 ·rw[List.mem_append,List.mem_singleton]at hz
  rcases hz with hz|rfl
  ·exact h.len z hz
  ·exact hy
 ·by_cases hi:i<es.length
  ·rw[List.getElem?_append_left hi]at hz
   obtain⟨c,q1,q2,q3⟩:=h.rel i j z v hz hv
   exact⟨c,by rw[List.getElem?_append_left (List.getElem?_eq_some_iff.1 q1).1];exact q1,q2,f _ _ q3⟩
  ·rw[List.getElem?_append_right (by omega)]at hz
   obtain⟨a1,a2⟩:=List.getElem?_eq_some_iff.1 hz
   simp only[List.length_singleton]at a1
   have h0:i - es.length=0:=by omega
   simp only[h0,List.getElem_cons_zero]at a2
   subst a2
   obtain rfl:i=es.length:=by omega
   obtain⟨c,q1,q2,q3⟩:=hr j v hv
   exact⟨c,by rw[List.getElem?_append_right (by omega),Xo,show es.length*k+j - es.length*k=j by omega];exact q1,q2,q3⟩
theorem CW.take {g n cap:Nat} (h:CW G w k e es (.slice (some ⟨g,0,none⟩) es.length cap) xs) (hn:n≤es.length):CW G w k e (es.take n) (.slice (some ⟨g,0,none⟩) n cap) (xs.take (n*k)):=by
 obtain⟨h1,h2,h3⟩:=h
 rcases h1.2 with⟨q,_⟩|⟨g',J3,cur,q,q1,q2,q3,q4,q5,q6⟩
 ·simp at q
 ·obtain⟨q7,_,rfl⟩:=Value.slice.inj q
  obtain rfl:g=g':=by injection q7 with h;injection h
  have hm:n*k≤es.length*k:=Nat.mul_le_mul_right k hn
  have hl:(es.take n).length=n:=by rw[List.length_take];omega
  refine⟨?_,fun y hy=>h2 y (List.mem_of_mem_take hy),fun i j y v hy hv=>?_⟩
  ·rw[hl]
   refine⟨by rw[List.length_take,h1.1];omega,.inr ⟨g,cap,cur,rfl,q1,q2,by omega,q4,q5,?_⟩⟩
   rw[←q6,List.take_take,Nat.min_eq_left hm]
  ·have hi:i<n:=by have:=(List.getElem?_eq_some_iff.1 hy).1;omega
   rw[List.getElem?_take,if_pos hi]at hy
   obtain⟨c,p1,p2,p3⟩:=h3 i j y v hy hv
   have hj:j<k:=by have:=(List.getElem?_eq_some_iff.1 hv).1;rw[h2 y (List.mem_of_getElem? hy)]at this;exact this
   have:(i+1)*k≤n*k:=Nat.mul_le_mul_right k (by omega)
   rw[Nat.succ_mul]at this
   exact⟨c,by rw[List.getElem?_take,if_pos (by omega)];exact p1,p2,p3⟩
theorem CW.move (h:CW G w k e es x xs) (f:∀v c,Rel G w v c→Rel G' w' v c) (hb:∀i,x.ownBlock=some i→w'.heap[i]?=w.heap[i]?):CW G' w' k e es x xs:=by
 refine⟨⟨h.own.1,?_⟩,h.len,fun i j y v hy hv=>?_⟩
 ·rcases h.own.2 with h|⟨g,cap,cur,q1,q2,q3,q4⟩
  ·exact .inl h
  ·exact .inr ⟨g,cap,cur,q1,q2,(hb g (by rw[q1];rfl)).trans q3,q4⟩
 ·obtain⟨c,q1,q2,q3⟩:=h.rel i j y v hy hv
  exact⟨c,q1,q2,f _ _ q3⟩
end
end Go.Ab
end
noncomputable section
namespace Go.Ab
def Mk.rO (b:Nat) (σ:az):Option (List Cell×List (List V)):=(σ[b]?).bind fun cs=>if cs.length=18 then(cs[16]?).bind fun c=>(Mk.rowOf 5 53 c).bind fun es=>some (cs,es)else none
def Mk.tL (args:List Cell) (σ:az):Option aQ:=match args with
 |[(.ptr t b o,_),(v,_)]=>if t=305∧o=0 then(Mk.rO b σ).bind fun p=>(Mk.uO v).bind fun x=>some (.ret [],σ.set b (p.1.set 16 (.row 5 53 (p.2++[x]),true)))else none
 |_=>none
def Mk.Rg (a t:List V):List V:=[.int .i64 5,.int .i64 0,.str (ByteArray.mk #[]),.slice 3 120 [],.slice 5 53 [a,t]]
def Mk.AV (l:List V):Bool:=match l with
 |[.int .i64 _,.int .i64 _,.str _,.slice _ _ _,.slice _ _ _]=>true
 |_=>false
def Mk.kF (args:List Cell) (σ:az):Option aQ:=match args with
 |[(.ptr t b o,_),(v,_),(.int .i64 n,_)]=>if t=305∧o=0∧0≤n then(Mk.rO b σ).bind fun p=>(Mk.uO v).bind fun x=>
  if n.toNat≤p.2.length∧(p.2.drop n.toNat).all Mk.AV=true then some (.ret [(.agg ((p.2.drop n.toNat).foldr Mk.Rg x),false)],σ.set b (p.1.set 16 (.row 5 53 (p.2.take n.toNat),true)))else none else none
 |_=>none
def Mk.xo (v:V):Option (List V):=match v with
 |.agg [.int .i64 k,.str n,.slice p0 p1 p2,.int .i64 k1,.int .i64 m1,.str n1,.slice a0 a1 a2,.slice b0 b1 b2,.int .i64 k2,.int .i64 m2,.str n2,.slice c0 c1 c2,.slice d0 d1 d2,.int .i64 ar,.slice 6 60 cs]=>
  some [.int .i64 k,.str n,.slice p0 p1 p2,.int .i64 k1,.int .i64 m1,.str n1,.slice a0 a1 a2,.slice b0 b1 b2,.int .i64 k2,.int .i64 m2,.str n2,.slice c0 c1 c2,.slice d0 d1 d2,.int .i64 ar,.slice 6 60 cs]
 |_=>none
def Mk.bR (w:Int) (ps:V) (t:List V) (n:Int):List V:=[.int .i64 w,.any,ps]++t++[.int .i64 n]
def Mk.uM (b:Nat) (σ:az):Option (List (List V)×List ByteArray×List (List V)):=match σ[b]? with
 |some [c,(.jM ks es,true)]=>(Mk.rowOf 15 56 c).bind fun ds=>some (ds,ks,es)
 |_=>none
def Mk.tA (args:List Cell) (σ:az):Option aQ:=match args with
 |[]=>some (.ret [(.ptr 82 σ.length 0,false)],σ++[[(.lit (.slice none 0 0),false),(.jM [] [],true)]])
 |_=>none
def Mk.ic (ps:V):Nat→List (List V)→List ByteArray×List (List V)→Option (List ByteArray×List (List V))
 |_,[],m=>some m
 |i,[.str s,.int .i64 k,.int .i64 n,.str q,.slice a0 a1 a2,.slice b0 b1 b2]::cs,m=>Mk.ic ps (i+1) cs (Mk.iC m s (Mk.bR 3 ps [.int .i64 k,.int .i64 n,.str q,.slice a0 a1 a2,.slice b0 b1 b2] i))
 |_,_::_,_=>none
def Mk.fp:ByteArray:=ByteArray.mk #[46,114,101,99]
def Mk.rK (x:List V) (zb:V) (rt:List V) (m:List ByteArray×List (List V)):Option (List ByteArray×List (List V)):=match x with
  |[.int .i64 k,.str n,ps,a,b,c,d,e,_,_,_,_,_,_,.slice _ _ cs]=>
   if 0≤k∧k≤3∧n.size<1000∧cs.length<100000000 then
     (if k=3 then(Mk.ic ps 0 cs (Mk.iC m n (Mk.bR 2 ps [a,b,c,d,e] 0))).map fun m'=>Mk.iC m' (n++Mk.fp) (Mk.bR 4 zb rt 0)
      else some (Mk.iC m n (Mk.bR (if k=2 then 1 else 0) ps [a,b,c,d,e] 0)))else none
  |_=>none
def Mk.ts (args:List Cell) (σ:az):Option aQ:=match args with
 |[(.ptr t b o,_),(v,_),(.slice q0 q1 q2,_),(rt,_)]=>if t=82∧o=0 then(Mk.uM b σ).bind fun p=>(Mk.xo v).bind fun x=>(Mk.uO rt).bind fun y=>
  (Mk.rK x (.slice q0 q1 q2) y p.2).bind fun m=>some (.ret [],σ.set b [(.row 15 56 (p.1++[x]),true),(.jM m.1 m.2,true)])else none
 |_=>none
def Mk.mC (args:List Cell) (σ:az):Option aQ:=match args with
 |[(.ptr t b o,_),(.str s,_)]=>if t=82∧o=0 then(Mk.uM b σ).bind fun p=>some (.ret [(.bool (Mk.nC p.2 s).isSome,false)],σ)else none
 |_=>none
def Mk.tmZ:V:=.agg [.int .i64 0,.int .i64 0,.str (ByteArray.mk #[]),.slice 3 120 [],.slice 5 53 []]
def Mk.oR (args:List Cell) (σ:az):Option aQ:=match args with
 |[(.ptr t b o,_),(.str s,_)]=>if t=82∧o=0 then(Mk.uM b σ).bind fun p=>match Mk.nC p.2 s with
  |some [.int .i64 _,.any,.slice q0 q1 q2,.int .i64 k,.int .i64 n,.str q,.slice a0 a1 a2,.slice b0 b1 b2,.int .i64 _]=>some (.ret [(.slice q0 q1 q2,false),(.agg [.int .i64 k,.int .i64 n,.str q,.slice a0 a1 a2,.slice b0 b1 b2],false),(.bool true,false)],σ)
  |some _=>none
  |none=>some (.ret [(.slice 1 9 [],false),(Mk.tmZ,false),(.bool false,false)],σ)else none
 |_=>none
def Mk.mD (args:List Cell) (σ:az):Option aQ:=match args with
 |[(.ptr t b o,_)]=>if t=82∧o=0 then(Mk.uM b σ).bind fun p=>some (.ret [(.slice 15 56 p.1,false)],σ)else none
 |_=>none
end Go.Ab
end
noncomputable section
set_option maxRecDepth 100000
namespace Go.Ab.Mk
open Go.Proofs Go.Ab
open List (getD)
open IntKind (wrap)
def TL:List (TypeId×TI):=[
 (0,⟨(.tuple 0),1,0,[V.any]⟩),
 (3,⟨(.int .i64),1,8,[(V.int .i64 (0:Int))]⟩),
 (4,⟨.bool,1,1,[V.bool false]⟩),
 (5,⟨(.int .u8),1,1,[(V.int .u8 (0:Int))]⟩),
 (9,⟨.string,1,16,[V.str ⟨#[]⟩]⟩),
 (22,⟨(.slice 28),1,24,[V.slice 6 28 []]⟩),
 (24,⟨(.slice 34),1,24,[V.slice 8 34 []]⟩),
 (28,⟨(.struct [(0,3),(1,9),(2,9),(3,9),(4,3),(5,3)]),6,72,[(V.int .i64 (0:Int)),V.str ⟨#[]⟩,V.str ⟨#[]⟩,V.str ⟨#[]⟩,(V.int .i64 (0:Int)),(V.int .i64 (0:Int))]⟩),
 (29,⟨(.pointer 82),1,8,[V.kc]⟩),
 (30,⟨(.pointer 49),1,8,[V.kc]⟩),
 (32,⟨(.struct [(0,29),(1,30)]),2,16,[V.kc,V.kc]⟩),
 (34,⟨(.struct [(0,28),(6,32)]),8,88,[(V.int .i64 (0:Int)),V.str ⟨#[]⟩,V.str ⟨#[]⟩,V.str ⟨#[]⟩,(V.int .i64 (0:Int)),(V.int .i64 (0:Int)),V.kc,V.kc]⟩),
 (45,⟨(.slice 9),1,24,[V.slice 1 9 []]⟩),
 (47,⟨(.slice 58),1,24,[V.slice 21 58 []]⟩),
 (49,⟨(.struct [(0,47),(1,4)]),2,32,[V.slice 21 58 [],V.bool false]⟩),
 (50,⟨(.slice 120),1,24,[V.slice 3 120 []]⟩),
 (51,⟨(.slice 53),1,24,[V.slice 5 53 []]⟩),
 (53,⟨(.struct [(0,3),(1,3),(2,9),(3,50),(4,51)]),5,80,[(V.int .i64 (0:Int)),(V.int .i64 (0:Int)),V.str ⟨#[]⟩,V.slice 3 120 [],V.slice 5 53 []]⟩),
 (54,⟨(.slice 60),1,24,[V.slice 6 60 []]⟩),
 (56,⟨(.struct [(0,3),(1,9),(2,45),(3,53),(8,53),(13,3),(14,54)]),15,240,[(V.int .i64 (0:Int)),V.str ⟨#[]⟩,V.slice 1 9 [],(V.int .i64 (0:Int)),(V.int .i64 (0:Int)),V.str ⟨#[]⟩,V.slice 3 120 [],V.slice 5 53 [],(V.int .i64 (0:Int)),(V.int .i64 (0:Int)),V.str ⟨#[]⟩,V.slice 3 120 [],V.slice 5 53 [],(V.int .i64 (0:Int)),V.slice 6 60 []]⟩),
 (58,⟨(.struct [(0,56),(15,45),(16,53)]),21,344,[(V.int .i64 (0:Int)),V.str ⟨#[]⟩,V.slice 1 9 [],(V.int .i64 (0:Int)),(V.int .i64 (0:Int)),V.str ⟨#[]⟩,V.slice 3 120 [],V.slice 5 53 [],(V.int .i64 (0:Int)),(V.int .i64 (0:Int)),V.str ⟨#[]⟩,V.slice 3 120 [],V.slice 5 53 [],(V.int .i64 (0:Int)),V.slice 6 60 [],V.slice 1 9 [],(V.int .i64 (0:Int)),(V.int .i64 (0:Int)),V.str ⟨#[]⟩,V.slice 3 120 [],V.slice 5 53 []]⟩),
 (60,⟨(.struct [(0,9),(1,53)]),6,96,[V.str ⟨#[]⟩,(V.int .i64 (0:Int)),(V.int .i64 (0:Int)),V.str ⟨#[]⟩,V.slice 3 120 [],V.slice 5 53 []]⟩),
 (61,⟨(.tuple 3),1,0,[V.any]⟩),
 (66,⟨(.slice 56),1,24,[V.slice 15 56 []]⟩),
 (76,⟨(.struct [(0,3),(1,3)]),2,16,[(V.int .i64 (0:Int)),(V.int .i64 (0:Int))]⟩),
 (78,⟨(.tuple 3),1,0,[V.any]⟩),
 (89,⟨(.tuple 3),1,0,[V.any]⟩),
 (113,⟨(.tuple 2),1,0,[V.any]⟩),
 (120,⟨(.struct [(0,3),(1,9),(2,50)]),3,48,[(V.int .i64 (0:Int)),V.str ⟨#[]⟩,V.slice 3 120 []]⟩),
 (200,⟨(.pointer 202),1,8,[V.kc]⟩),
 (202,⟨(.struct [(0,9),(1,3),(2,76)]),4,40,[V.str ⟨#[]⟩,(V.int .i64 (0:Int)),(V.int .i64 (0:Int)),(V.int .i64 (0:Int))]⟩),
 (203,⟨(.tuple 3),1,0,[V.any]⟩),
 (206,⟨(.tuple 3),1,0,[V.any]⟩),
 (210,⟨(.slice 3),1,24,[V.slice 1 3 []]⟩),
 (233,⟨(.tuple 2),1,0,[V.any]⟩),
 (253,⟨(.tuple 2),1,0,[V.any]⟩),
 (258,⟨(.tuple 2),1,0,[V.any]⟩),
 (261,⟨(.tuple 2),1,0,[V.any]⟩),
 (298,⟨(.tuple 3),1,0,[V.any]⟩),
 (303,⟨(.pointer 305),1,8,[V.kc]⟩),
 (305,⟨(.struct [(0,56),(15,3),(16,51),(17,3)]),18,280,[(V.int .i64 (0:Int)),V.str ⟨#[]⟩,V.slice 1 9 [],(V.int .i64 (0:Int)),(V.int .i64 (0:Int)),V.str ⟨#[]⟩,V.slice 3 120 [],V.slice 5 53 [],(V.int .i64 (0:Int)),(V.int .i64 (0:Int)),V.str ⟨#[]⟩,V.slice 3 120 [],V.slice 5 53 [],(V.int .i64 (0:Int)),V.slice 6 60 [],(V.int .i64 (0:Int)),V.lit (.slice none 0 0),(V.int .i64 (0:Int))]⟩),
 (306,⟨(.tuple 2),1,0,[V.any]⟩),
 (330,⟨(.pointer 332),1,8,[V.kc]⟩),
 (332,⟨(.struct [(0,3),(1,3),(2,4),(3,3),(4,3)]),5,40,[(V.int .i64 (0:Int)),(V.int .i64 (0:Int)),V.bool false,(V.int .i64 (0:Int)),(V.int .i64 (0:Int))]⟩),
 (343,⟨(.tuple 2),1,0,[V.any]⟩)]
noncomputable def Ns:=fD Tryz.f3 {bI:=kp [(0,[3,4])],ep:=[18]}
noncomputable def Uw:=fD Tryz.f5 {ep:=[]}
noncomputable def Ik:=fD Tryz.f6 {bI:=kp [(0,[0,1,5,6,7])],cW:=[38],ep:=[21,22,27,28,33,34,41],roots:=[(6,6)],ord:=kp [(9,List.range 10)]}
noncomputable def zh:=fD Tryz.f7 {bI:=kp [(6,[1,16,17]),(4,[1,3,7]),(2,[1,3,4,5,6,113,114,115,118,119,122,123,124,125,126,127,128]),(0,[1,3,4,113,114,115,118,119,122,123,124,125,126,127,128])],cW:=[44,59],rE:=[(22,0)],ep:=[41,42,63,64,80,92,103,152,161,162],roots:=[(1,1),(5,5),(9,9),(12,12),(19,1),(20,1),(24,1),(25,1),(34,1),(35,1),(45,5),(47,5),(53,5),(60,5),(75,1),(76,1),(87,1),(88,1),(98,1),(99,1),(130,1),(131,1),(136,1),(137,1),(154,1),(155,1)],rows:=[74,86],ord:=kp [(14,[12,0,1,2,3,4,5,6,7,8,9,10,11,13,14,15]),(15,[12,0,1,2,3,4,5,6,7,8,9,10,11,13,14,15]),(16,List.range 9),(26,List.range 16)]}
noncomputable def Ux:=fD Tryz.f13 {PL:=[15],roots:=[(2,2),(5,5)]}
noncomputable def C1:=fD Tryz.f14 {bI:=kp [(0,[0,3,4,5])],cW:=[31,35]}
noncomputable def P0:=fD Tryz.f16 {ep:=[30,31],roots:=[(5,5),(8,8),(23,8),(24,8),(26,8),(27,8),(35,8),(37,8),(39,8),(40,8),(42,8),(43,8)],ord:=kp [(6,List.range 13),(8,List.range 7),(9,List.range 9)]}
noncomputable def vH:=fD Tryz.f18 {bI:=kp [(0,[0,1,5])],ep:=[19,23],ord:=kp [(6,List.range 9)]}
noncomputable def Gj:=fD Tryz.f19 {roots:=[(2,2),(3,3)]}
noncomputable def tM:=fD Tryz.f21 {bI:=kp [(2,[2,3,6,114]),(0,[2,3,5,88,89,90,91,92,93,94,95,96,97,98,99,100,114])],ep:=[57,62,75,76,81,82,91,92,97,98],roots:=[(2,2),(3,3),(10,2),(12,3),(16,2),(18,3),(23,2),(25,3),(30,2),(33,3),(39,2),(42,3),(48,2),(54,2),(59,3),(66,2),(72,2),(78,3),(88,2),(94,3),(102,2),(104,3),(107,2),(109,3)],ord:=kp [(6,List.range 11),(11,List.range 14),(12,List.range 17)]}
noncomputable def Uy:=fD Tryz.f26 {roots:=[(6,6),(8,8),(14,8)],ord:=kp [(3,[0,1,2,3])]}
noncomputable def Il:=fD Tryz.f27 {bI:=kp [(0,[0,2,3,4])],ep:=[26,27,35,36,60,61,68,69,76,77],roots:=[(2,2)],ord:=kp [(11,List.range 26)]}
noncomputable def findD:=fD Tryz.f28 {bI:=kp [(2,[0,1,5,7,8,9,67,68,69,70,71]),(0,[0,1,5,7])],ep:=[24,25,38,50,51,60,78],roots:=[(5,5),(8,8),(27,8),(31,8),(41,8),(47,8),(63,8),(67,8)],ord:=kp [(6,List.range 12),(11,List.range 11),(13,List.range 10)]}
noncomputable def Im:=fD Tryz.f29 {bI:=kp [(2,[2,3,4,9]),(0,[2,3,4,7])],ep:=[58,63,74,79,94,99],roots:=[(3,3),(4,4),(11,3),(13,4),(17,3),(19,4),(24,3),(26,4),(31,3),(34,4),(40,3),(43,4),(49,3),(55,3),(60,4),(71,3),(76,4),(85,3),(91,3),(96,4)],ord:=kp [(6,List.range 12),(8,List.range 12),(14,List.range 13)]}
noncomputable def C2:=fD Tryz.f42 {roots:=[(3,3)]}
noncomputable def Io:=fD Tryz.f43 {bI:=kp [(0,[0,1,6,7,8])],cW:=[10],PL:=[11],ep:=[21],roots:=[(6,6)]}
noncomputable def zi:=fD Tryz.f44 {bI:=kp [(0,[1,5,6])],ep:=[30,31],roots:=[(1,1),(7,1),(10,1),(18,1),(27,1)]}
noncomputable def pS:=fD Tryz.f45 {bI:=kp [(2,[1,5]),(0,[1,3])],ep:=[17,32],roots:=[(1,1),(8,1),(14,1),(23,1),(29,1)]}
noncomputable def vI:=fD Tryz.f46 {bI:=kp [(0,[2,3,5])],ep:=[38,43],roots:=[(2,2),(3,3),(7,2),(9,3),(13,2),(15,3),(20,2),(23,3),(29,2),(35,2),(40,3)],ord:=kp [(6,List.range 12)]}
noncomputable def Uz:=fD Tryz.f47 {roots:=[(2,2),(3,3)]}
noncomputable def zj:=fD Tryz.f71 {bI:=kp [(0,[3,4,5])],cW:=[34],PL:=[12],roots:=[(3,3),(9,9)],ord:=kp [(9,List.range 6)]}
noncomputable def Zy:=fD Tryz.f72 {cW:=[28,48],roots:=[(4,4),(8,8),(11,4)],ord:=kp [(4,List.range 14),(8,List.range 12)]}
noncomputable def rQ:=fD Tryz.f73 {bI:=kp [(0,[1,2,5,6])],ep:=[23],roots:=[(2,2),(9,2),(20,2)]}
noncomputable def KA:=fD Tryz.f74 {bI:=kp [(4,[2,3,5,7,8,10,11,12,13]),(2,[2,3,5,7,8,10]),(0,[2,3,5,7,8,9])],cW:=[46],rE:=[(16,0),(17,0)],ep:=[50],roots:=[(2,2),(3,3)],ord:=kp [(1,[0,1,2,3,4]),(2,[0,3,1,2,4,5,6]),(19,[0,1,2,4,5,6,3,7,8])]}
noncomputable def xt:=fD Tryz.f112 {bI:=kp [(3,[0,5,6]),(5,[0,5,6,7,148,149,150,151,154,155,156,157,158,159,160,161,162,163,164,165,166]),(0,[0,5,73,74,86,87,88,89,90,91,92,105,106,107,108,109,110,120,121,122,123,124,125,126,129,130,131,132,133,134,135,148,149,150,151,154,155,156,157,158,159,160,161,162,163,164,165,166])]}
noncomputable def C3:=fD Tryz.f113 {bI:=kp [(3,[0,2,6]),(1,[0,2,6,73,74,77,78,79,82,83,84,87,88,89,113,114,115,116,117,118,121,122,123])],cW:=[19,53,138],roots:=[(2,2),(6,6),(10,10),(27,6),(30,6),(33,6),(38,6),(52,6),(58,6),(61,6),(99,6),(102,6),(103,6),(108,6),(109,6),(134,10),(137,6),(142,6)],ord:=kp [(17,List.range 8)]}
noncomputable def tN:=fD Tryz.f114 {bI:=kp [(6,[4,7,22,26,27]),(4,[2,4,7,19,22,23,24]),(2,[0,2,4,7,9,11,18,110,111,112,126,127,130,131,132,133]),(0,[0,2,4,7,9,10,18,76,110,111,112,126,127,130,131,132,133])],cW:=[39,48,140,146,158,224],PL:=[141],ep:=[43,44,63,68,117,183],roots:=[(4,4),(7,7),(15,15),(18,18),(19,19),(29,4),(33,4),(40,4),(49,4),(79,4),(86,4),(88,4),(98,4),(101,4),(106,4),(110,18),(115,18),(130,4),(137,4),(159,4),(161,4),(163,4),(172,4),(180,4),(207,4),(214,4),(225,4)],ord:=kp [(11,List.range 9),(31,[0,1,2,3,5,6,7,8,4,9,10,11,12]),(32,List.range 18),(36,List.range 12),(43,List.range 9)]}
noncomputable def UA:=fD Tryz.f115 {roots:=[(4,4),(9,9),(11,11),(13,4),(17,4),(23,4),(25,4),(34,4),(41,4),(43,4),(54,4)]}
noncomputable def C4:=fD Tryz.f116 {bI:=kp [(0,[1,2,6])],cW:=[16,21,34,36],rE:=[(35,0)],ep:=[32],roots:=[(2,2),(7,2),(10,2),(17,2),(23,2),(29,2)],own:=[1]}
noncomputable def Nt:=fD Tryz.f117 {bI:=kp [(0,[1,3,4])],ep:=[19],roots:=[(1,1),(5,1),(9,1),(16,1)]}
noncomputable def Ip:=fD Tryz.f118 {bI:=kp [(1,[1,2,3,7])],ep:=[18,34,41,45,52],roots:=[(3,3),(10,3),(16,3),(36,3),(43,3),(50,3),(57,3)],ord:=kp [(10,List.range 7)]}
noncomputable def Gl:=fD Tryz.f159 {ep:=[]}
noncomputable def UB:=fD Tryz.f160 {ep:=[]}
noncomputable def UC:=fD Tryz.f161 {ep:=[]}
noncomputable def UD:=fD Tryz.f162 {ep:=[]}
noncomputable def UE:=fD Tryz.f163 {ep:=[]}
noncomputable def UF:=fD Tryz.f164 {ep:=[]}
noncomputable def Iq:=fD Tryz.f165 {bI:=kp [(0,[0,3,4])]}
noncomputable def C5:=fD Tryz.f166 {bI:=kp [(5,[0,2,11,12,13]),(3,[0,2,11,12]),(0,[0,2,6,7,9,10,105,106,107])],cW:=[82,87,110,124],ep:=[68],roots:=[(2,2),(11,11),(86,11),(92,11),(97,11),(109,11),(115,11),(123,11),(129,11)],ord:=kp [(25,List.range 8),(31,List.range 8),(37,List.range 8)]}
noncomputable def P1:=fD Tryz.f167 {roots:=[(6,6)]}
noncomputable def Nu:=fD Tryz.f168 {bI:=kp [(0,[0,1,5])],ep:=[14]}
noncomputable def Nv:=fD Tryz.f169 {bI:=kp [(0,[0,3])],ep:=[13],ord:=kp [(4,List.range 9)]}
noncomputable def P2:=fD Tryz.f170 {ep:=[47],roots:=[(8,8),(10,10),(12,12),(14,14),(41,14),(45,14)]}
noncomputable def aaI:=fD Tryz.f171 {bI:=kp [(0,[1,3])],ep:=[11],roots:=[(1,1),(4,1),(9,1)]}
noncomputable def UG:=fD Tryz.f172 {bI:=kp [(0,[1,2,4,5])],ep:=[13],roots:=[(2,2),(4,4),(11,2)]}
noncomputable def P3:=fD Tryz.f173 {roots:=[(1,1)]}
noncomputable def UH:=fD Tryz.f174 {roots:=[(1,1),(3,3)]}
noncomputable def Ir:=fD Tryz.f175 {bI:=kp [(2,[0,3,5,7,10,15,16,22,23]),(0,[0,3,5,7,8,10,15,16,17,18])],rE:=[(120,0)],ep:=[59,63,76,80,101,123],roots:=[(7,7),(8,8),(10,10),(13,13),(16,16),(17,17),(24,24),(27,7),(29,8),(38,8),(42,7),(45,8),(47,7),(50,7),(57,16),(61,17),(74,16),(78,17),(82,8),(92,8),(99,16),(104,7),(121,16)],rows:=[55],ord:=kp [(12,List.range 16),(19,[0,1,2,4,5,6,3,7,8])]}
noncomputable def BT:=fD Tryz.f176 {bI:=kp [(2,[0,3,5,11,12,14,15,16,17,20,21]),(0,[0,3,5,11,12,14,15,16,87,88,89,90,91,92,93,94,95,96,97,98,99,100,101,102,103,104])],rE:=[(110,0)],ep:=[37,38,56,89,90,96,97,113],roots:=[(5,5),(6,6),(11,11),(13,13),(17,17),(18,18),(26,5),(31,5),(35,5),(54,11),(59,5),(64,5),(77,5),(111,11)]}
noncomputable def zk:=fD Tryz.f177 {bI:=kp [(0,[1,3,6,7,8,9,14])],PL:=[20],ep:=[76],roots:=[(3,3),(5,5),(6,6),(8,8),(10,10),(12,12),(13,13),(15,15),(16,16),(23,3),(25,3),(40,3),(51,3),(66,3),(73,3),(93,3),(107,3)],rows:=[58],ord:=kp [(6,[6,0,1,3,4,2,5,7]),(16,[12,0,1,2,3,4,5,7,8,9,10,6,11,13]),(17,[0,1,2,3])]}
noncomputable def P4:=fD Tryz.f179 {roots:=[(8,8),(10,10),(12,12)]}
noncomputable def Zz:=fD Tryz.f180 {roots:=[(5,5),(6,6)]}
noncomputable def P5:=fD Tryz.f212 {ep:=[]}
noncomputable def P6:=fD Tryz.f213 {cW:=[68,70,79],roots:=[(2,2),(11,11),(69,11),(75,11),(78,11),(84,11)],ord:=kp [(26,List.range 8),(28,List.range 8)]}
noncomputable def UI:=fD Tryz.f214 {PL:=[13],roots:=[(4,4),(6,6),(10,10)],ord:=kp [(5,List.range 8)]}
noncomputable def P7:=fD Tryz.f215 {PL:=[15],roots:=[(5,5),(6,6),(11,11),(12,12)]}
noncomputable def resultD:=fD Tryz.f216 {bI:=kp [(2,[3,5,10,12]),(0,[3,5,9,10,11,86,87,88,89,90,91,92,93,94,95,96,97,98,99,100,101,102,103,117])],ep:=[57,58,65,66,71,88,89,95,96,107],roots:=[(4,4),(5,5),(9,9),(19,9),(23,9),(25,5),(32,5),(39,9),(42,5),(48,9),(54,9),(62,9),(68,5),(82,5),(109,5),(113,5)],ord:=kp [(7,List.range 21),(14,List.range 8)]}
noncomputable def vK:=fD Tryz.f217 {bI:=kp [(0,[0,3,4,6,8,9,12,16,17,18])],ep:=[40,48],roots:=[(8,8),(9,9),(12,12),(17,17),(22,22),(26,8),(38,17),(42,8),(46,17),(65,8)],ord:=kp [(8,List.range 8)]}
noncomputable def Gm:=fD Tryz.f218 {cW:=[6,9],roots:=[(3,3)]}
noncomputable def BU:=fD Tryz.f219 {bI:=kp [(2,[1,2,4,5,6]),(0,[1,2,4])],cW:=[10,28],ep:=[13,19,31],roots:=[(1,1),(2,2),(7,1),(11,1),(17,1)]}
noncomputable def zl:=fD Tryz.f220 {bI:=kp [(0,[0,2,3,5,8,10])],ep:=[20,36],roots:=[(5,5),(8,8),(11,11),(18,5),(34,5)],rows:=[28]}
noncomputable def rR:=fD Tryz.f221 {bI:=kp [(0,[0,2,4,6,7])],ep:=[18],roots:=[(4,4),(6,6)],ord:=kp [(4,List.range 9)]}
noncomputable def Gn:=fD Tryz.f222 {roots:=[(4,4)]}
noncomputable def UJ:=fD Tryz.f225 {roots:=[(1,1),(2,2)]}
noncomputable def oU:=fD Tryz.f226 {bI:=kp [(4,[0,3,4,5,11,16,17,18]),(2,[0,3,4,5,8,9,10,11,12]),(0,[0,3,4,5,6,7])],cW:=[33],ep:=[62,92,98,126],roots:=[(3,3),(4,4),(8,8),(10,10),(13,13),(15,15),(17,17),(37,3),(60,8),(96,8),(134,3)],rows:=[22],ord:=kp [(7,[8,0,1,2,3,4,5,6,7,9]),(14,List.range 8),(16,List.range 24),(23,List.range 10),(24,[0,1,2,3,4,6,5,7,8,9])]}
noncomputable def UK:=fD Tryz.f227 {roots:=[(4,4)],rows:=[8]}
noncomputable def ZA:=fD Tryz.f228 {roots:=[(2,2),(3,3),(4,4)]}
noncomputable def ZB:=fD Tryz.f229 {roots:=[(2,2)]}
noncomputable def It:=fD Tryz.f230 {bI:=kp [(1,[0,1,8,10,13,14,16])],rE:=[(160,0),(205,0)],ep:=[51,61,70,105,142,158,163,175,187,203,208,229,245,259,270,274],roots:=[(8,8),(10,10),(14,14),(18,18),(19,19),(21,21),(22,22),(24,24),(25,25),(27,27),(28,28),(34,8),(38,8),(48,8),(53,8),(59,8),(68,8),(79,8),(90,8),(96,8),(102,8),(115,8),(140,8),(156,8),(161,8),(173,8),(185,8),(201,8),(206,8),(227,8),(243,8),(257,8),(268,8),(272,8)],rows:=[152,197],ord:=kp [(7,List.range 15),(35,[17,0,1,2,3,4,5,6,8,9,10,11,12,7,13,14,15,16,18,19]),(38,List.range 8),(43,[17,0,1,2,3,4,5,6,8,9,10,11,12,7,13,14,15,16,18,19]),(53,List.range 9),(56,[10,0,1,2,3,4,5,6,7,8,9,11])]}
noncomputable def BV:=fD Tryz.f231 {bI:=kp [(2,[1,2,5,8]),(0,[1,2,5,6,40,41,42])],ep:=[25,49],roots:=[(2,2),(11,2),(22,2),(35,2),(46,2)]}
noncomputable def Nw:=fD Tryz.f246 {bI:=kp [(0,[0,2,4,6])],ep:=[50,53,73,77],roots:=[(4,4),(6,6),(7,7),(12,12),(15,15),(34,7),(48,7),(71,7),(75,7),(90,7),(99,12),(100,12),(103,7),(114,12),(115,12),(117,12),(118,12),(120,7),(132,12),(135,7)],ord:=kp [(10,[0,1,2,3,4,5,6,7,9,10,8,11,12]),(16,[0,1,2,3,4,5,6,7,8,10,9,11,12])]}
noncomputable def xu:=fD Tryz.f247 {bI:=kp [(2,[0,2,4,6,7,13,14]),(0,[0,2,6,7,8,9,10])],cW:=[108],ep:=[77,101],roots:=[(4,4),(6,6),(8,8),(11,11),(15,15),(59,4),(90,4),(98,4)]}
noncomputable def Nx:=fD Tryz.f248 {bI:=kp [(0,[1,2,3,4,6,31,32,33,34,35,36,56,57,58,61])],cW:=[15],ep:=[19,33,34,41,45,49,66],roots:=[(1,1),(2,2),(5,5),(6,6),(9,1),(16,1),(27,1),(31,1),(39,1),(43,5),(47,5),(52,6),(56,6),(64,5)],ord:=kp [(14,List.range 7)]}
noncomputable def C6:=fD Tryz.f249 {roots:=[(2,2),(3,3)]}
noncomputable def UL:=fD Tryz.f250 {bI:=kp [(0,[1,2,5])],ep:=[26],roots:=[(2,2),(7,2),(11,2),(17,2),(23,2)]}
noncomputable def zm:=fD Tryz.f251 {bI:=kp [(0,[0,2,4,6,7])],ep:=[19],roots:=[(4,4),(6,6)],ord:=kp [(4,[0,1,2,3,4,5,7,6,8,9,10])]}
noncomputable def KB:=fD Tryz.f252 {cW:=[6,9]}
noncomputable def UM:=fD Tryz.f253 {bI:=kp [(0,[0,3,4])],cW:=[11],ep:=[14]}
noncomputable def ab4:=fD Tryz.f254 {roots:=[(2,2),(3,3),(4,4)]}
noncomputable def Iu:=fD Tryz.f255 {bI:=kp [(0,[0,2,3,8,9,12,14,15,16])],ep:=[58],roots:=[(5,5),(8,8),(11,11),(13,13),(15,15)],rows:=[20],ord:=kp [(9,List.range 10),(10,[0,1,2,3,5,6,7,8,4,9,10,11])]}
noncomputable def Ny:=fD Tryz.f256 {bI:=kp [(0,[1,2,3,6,7,8])],cW:=[36],ep:=[40],roots:=[(3,3),(6,6),(10,3),(13,3),(17,3),(24,3),(37,3)]}
noncomputable def zn:=fD Tryz.f257 {bI:=kp [(0,[1,5,6])],rE:=[(9,0)],ep:=[18],roots:=[(2,2)]}
noncomputable def vL:=fD Tryz.f258 {bI:=kp [(0,[0,2,3,5,8,9,10,11,39,40,41,42,43,44])],ep:=[24],roots:=[(5,5),(8,8)]}
noncomputable def Gp:=fD Tryz.f259 {ep:=[24,56,70,81,85],roots:=[(8,8),(10,10),(12,12),(14,14),(16,16),(17,17),(22,8),(46,14),(54,8),(68,14),(79,14),(83,8)],ord:=kp [(12,List.range 9),(15,[10,0,1,2,3,4,5,6,7,8,9,11])]}
noncomputable def Gq:=fD Tryz.f260 {roots:=[(4,4),(5,5),(6,6)]}
noncomputable def Gr:=fD Tryz.f266 {ord:=kp [(1,List.range 9)]}
noncomputable def Iv:=fD Tryz.f267 {bI:=kp [(0,[1,2,4,5])],ep:=[15],roots:=[(2,2),(4,4)],ord:=kp [(4,List.range 7)]}
noncomputable def KC:=fD Tryz.f268 {roots:=[(4,4)]}
noncomputable def KD:=fD Tryz.f269 {bI:=kp [(4,[0,2,10,25,31,265,266]),(2,[0,2,6,10,12,13,14,16,20,25,27,28,29,265,266]),(0,[0,2,6,10,12,13,14,16,19,20,23,25,26,206,265,266])],cW:=[167,232],ep:=[62,78,135,136,152,164,176,177,197,220,225,235,241,254],roots:=[(6,6),(8,8),(10,10),(12,12),(18,18),(19,19),(22,22),(25,25),(28,28),(33,8),(35,12),(37,12),(40,12),(107,19),(113,19),(122,22),(123,22),(125,12),(132,12),(173,12),(179,12),(181,19),(195,28),(199,12),(218,28),(239,28)],ord:=kp [(8,[0,1,4,5,6,7,2,3,8,9,10]),(27,List.range 7),(30,[12,0,1,2,3,4,5,6,7,8,9,10,11,13]),(36,List.range 8),(38,List.range 22),(45,List.range 7)]}
noncomputable def ZC:=fD Tryz.f270 {roots:=[(5,5),(8,8),(11,11)]}
noncomputable def UN:=fD Tryz.f271 {roots:=[(2,2),(4,4),(5,2),(7,2),(9,2),(11,2)]}
noncomputable def Iw:=fD Tryz.f272 {bI:=kp [(0,[1,2,5])],ep:=[31],roots:=[(2,2),(8,2),(11,2),(16,2),(28,2)]}
noncomputable def KE:=fD Tryz.f273 {roots:=[(2,2),(3,3),(4,4)]}
noncomputable def UO:=fD Tryz.f274 {roots:=[(2,2),(5,2),(10,2)]}
noncomputable def tO:=fD Tryz.f275 {bI:=kp [(2,[1,3,6]),(0,[1,3,4])],ep:=[18,34],roots:=[(1,1),(9,1),(15,1),(25,1),(31,1)]}
noncomputable def xw:=fD Tryz.f276 {bI:=kp [(2,[1,2,3,6,7,9]),(0,[1,2,3,6,7,8])],cW:=[16,25,45],ep:=[29,49],roots:=[(3,3),(6,6),(7,7),(10,3),(12,3),(14,3),(18,3),(24,7),(26,3),(36,7),(38,3),(44,7),(46,3),(56,7)],ord:=kp [(5,List.range 14),(9,List.range 14)]}
noncomputable def ZD:=fD Tryz.f277 {roots:=[(2,2),(3,3)]}
noncomputable def C7:=fD Tryz.f279 {roots:=[(2,2)]}
noncomputable def AW:=fD Tryz.f280 {bI:=kp [(10,[14,17,21,26]),(8,[14,16,17,21,24,25]),(6,[13,14,16,17,20,21,23]),(4,[2,3,13,14,16,17,20,21,22]),(2,[0,2,3,8,11,13,14,16,17,18]),(0,[0,2,3,5,8,11,13,14,15])],cW:=[50],ep:=[38,53,59,83,98,125],roots:=[(8,8),(11,11),(13,13),(14,14),(19,19),(21,21),(24,24),(51,11),(57,11)],ord:=kp [(4,List.range 10),(19,List.range 9),(23,List.range 7),(28,[0,1,2,3,4]),(33,List.range 7)]}
noncomputable def C8:=fD Tryz.f281 {bI:=kp [(0,[2,3,4,6,7,8])],cW:=[42],ep:=[46],roots:=[(3,3),(4,4),(6,6),(10,3),(13,3),(20,3),(24,3),(30,3),(43,3)],ord:=kp [(14,List.range 12)]}
noncomputable def vM:=fD Tryz.f282 {bI:=kp [(0,[1,3,4])],ep:=[19],roots:=[(1,1),(6,1),(10,1),(16,1)]}
noncomputable def BW:=fD Tryz.f283 {bI:=kp [(2,[1,2,3,6,8,9]),(0,[1,2,3,6,7])],cW:=[35,44],ep:=[21,28,48],roots:=[(3,3),(6,6),(8,8),(10,3),(23,3),(31,3),(33,3),(37,3),(43,8),(45,3),(55,8)],ord:=kp [(5,List.range 7),(12,List.range 14)]}
noncomputable def Nz:=fD Tryz.f284 {bI:=kp [(0,[1,2,5,6])],ep:=[34],roots:=[(2,2),(9,2),(13,2),(19,2),(31,2)]}
noncomputable def ZE:=fD Tryz.f285 {roots:=[(2,2),(3,3),(4,4)]}
def FL:List (FuncId×oO):=[(3,Ns),(5,Uw),(6,Ik),(7,zh),(13,Ux),(14,C1),(16,P0),(18,vH),(19,Gj),(21,tM),(26,Uy),(27,Il),(28,findD),(29,Im),(42,C2),(43,Io),(44,zi),(45,pS),(46,vI),(47,Uz),(71,zj),(72,Zy),(73,rQ),(74,KA),(112,xt),(113,C3),(114,tN),(115,UA),(116,C4),(117,Nt),(118,Ip),(159,Gl),(160,UB),(161,UC),(162,UD),(163,UE),(164,UF),(165,Iq),(166,C5),(167,P1),(168,Nu),(169,Nv),(170,P2),(171,aaI),(172,UG),(173,P3),(174,UH),(175,Ir),(176,BT),(177,zk),(179,P4),(180,Zz),(212,P5),(213,P6),(214,UI),(215,P7),(216,resultD),(217,vK),(218,Gm),(219,BU),(220,zl),(221,rR),(222,Gn),(225,UJ),(226,oU),(227,UK),(228,ZA),(229,ZB),(230,It),(231,BV),(246,Nw),(247,xu),(248,Nx),(249,C6),(250,UL),(251,zm),(252,KB),(253,UM),(254,ab4),(255,Iu),(256,Ny),(257,zn),(258,vL),(259,Gp),(260,Gq),(266,Gr),(267,Iv),(268,KC),(269,KD),(270,ZC),(271,UN),(272,Iw),(273,KE),(274,UO),(275,tO),(276,xw),(277,ZD),(279,C7),(280,AW),(281,C8),(282,vM),(283,BW),(284,Nz),(285,ZE)]
def C:Ctx:={T:=look TL,bN:=fun g=>if g=4 then some [V.slice 1 9 [[V.str ⟨#[]⟩],[V.str ⟨#[115,111,114,116]⟩],[V.str ⟨#[99,111,110,115,116]⟩],[V.str ⟨#[97,112,112]⟩],[V.str ⟨#[108,97,109]⟩],[V.str ⟨#[112,105]⟩],[V.str ⟨#[108,101,116]⟩]]]else none,ext:=fun f=>if f=178 then some Mk.C0 else if f=223 then some Mk.tL else if f=224 then some Mk.kF else if f=12 then some Mk.tA else if f=36 then some Mk.ts else if f=15 then some Mk.oR else if f=17 then some Mk.mC else if f=20 then some Mk.mD else none,Fi:=KF FL}
abbrev bS (m:FuncId) (args:List Cell) (f:RR):Prop:=∀⦃σ:az⦄ ⦃r:aQ⦄,f σ=some r→ah C m args σ=some r
theorem bV (d:oO) (n:Nat) {m:FuncId} {args:List Cell} {f:RR} (h:(C.ext m,C.Fi m)=(none,some d):=by kernel_rfl) (e:∀σ,J7 C d (ah C) n (gG d.hints.own 0 args) σ=f σ:=by intro _;kernel_rfl):bS m args f:=fun _ _ h'=>aaJ (congrArg Prod.fst h) (congrArg Prod.snd h) n ((e _).trans h')
theorem Ya:∀t i,C.T t=some i→Mw Tryz.prog t i:=look_ok (by kernel_rfl)
abbrev fqP (f:FuncId) (d:oO):Prop:=Tryz.prog.funcs[f]?=some d.fn∧d.fn.body=some d.code∧∀(args:Array Value) (w:World),(callFunc f args).run Tryz.prog w=.ok (.enter f args) w
theorem fq {f:FuncId} {d:oO} {L:List (FuncId×oO)} (h1:Tryz.prog.funcs[f]?=some d.fn) (h3:∀(args:Array Value) (w:World),(callFunc f args).run Tryz.prog w=.ok (.enter f args) w) (h:∀p∈L,fqP p.1 p.2) (h2:d.fn.body=some d.code:=by kernel_rfl):∀p∈(f,d)::L,fqP p.1 p.2:=fun p hp=>by
 rcases List.mem_cons.1 hp with e|e
 · rw[e];exact⟨h1,h2,h3⟩
 · exact h p e
theorem ab5:dN Tryz.prog C where
 mixed:=by kernel_rfl
 T:=Ya
 Fi:=C9 (P:=Tryz.prog) (L:=FL) (fq Tryz.func3 Tryz.call3<|fq Tryz.func5 Tryz.call5<|fq Tryz.func6 Tryz.call6<|fq Tryz.func7 Tryz.call7<|fq Tryz.func13 Tryz.call13<|fq Tryz.func14 Tryz.call14<|fq Tryz.func16 Tryz.call16<|fq Tryz.func18 Tryz.call18<|fq Tryz.func19 Tryz.call19<|fq Tryz.func21 Tryz.call21<|fq Tryz.func26 Tryz.call26<|fq Tryz.func27 Tryz.call27<|fq Tryz.func28 Tryz.call28<|fq Tryz.func29 Tryz.call29<|fq Tryz.func42 Tryz.call42<|fq Tryz.func43 Tryz.call43<|fq Tryz.func44 Tryz.call44<|fq Tryz.func45 Tryz.call45<|fq Tryz.func46 Tryz.call46<|fq Tryz.func47 Tryz.call47<|fq Tryz.func71 Tryz.call71<|fq Tryz.func72 Tryz.call72<|fq Tryz.func73 Tryz.call73<|fq Tryz.func74 Tryz.call74<|fq Tryz.func112 Tryz.call112<|fq Tryz.func113 Tryz.call113<|fq Tryz.func114 Tryz.call114<|fq Tryz.func115 Tryz.call115<|fq Tryz.func116 Tryz.call116<|fq Tryz.func117 Tryz.call117<|fq Tryz.func118 Tryz.call118<|fq Tryz.func159 Tryz.call159<|fq Tryz.func160 Tryz.call160<|fq Tryz.func161 Tryz.call161<|fq Tryz.func162 Tryz.call162<|fq Tryz.func163 Tryz.call163<|fq Tryz.func164 Tryz.call164<|fq Tryz.func165 Tryz.call165<|fq Tryz.func166 Tryz.call166<|fq Tryz.func167 Tryz.call167<|fq Tryz.func168 Tryz.call168<|fq Tryz.func169 Tryz.call169<|fq Tryz.func170 Tryz.call170<|fq Tryz.func171 Tryz.call171<|fq Tryz.func172 Tryz.call172<|fq Tryz.func173 Tryz.call173<|fq Tryz.func174 Tryz.call174<|fq Tryz.func175 Tryz.call175<|fq Tryz.func176 Tryz.call176<|fq Tryz.func177 Tryz.call177<|fq Tryz.func179 Tryz.call179<|fq Tryz.func180 Tryz.call180<|fq Tryz.func212 Tryz.call212<|fq Tryz.func213 Tryz.call213<|fq Tryz.func214 Tryz.call214<|fq Tryz.func215 Tryz.call215<|fq Tryz.func216 Tryz.call216<|fq Tryz.func217 Tryz.call217<|fq Tryz.func218 Tryz.call218<|fq Tryz.func219 Tryz.call219<|fq Tryz.func220 Tryz.call220<|fq Tryz.func221 Tryz.call221<|fq Tryz.func222 Tryz.call222<|fq Tryz.func225 Tryz.call225<|fq Tryz.func226 Tryz.call226<|fq Tryz.func227 Tryz.call227<|fq Tryz.func228 Tryz.call228<|fq Tryz.func229 Tryz.call229<|fq Tryz.func230 Tryz.call230<|fq Tryz.func231 Tryz.call231<|fq Tryz.func246 Tryz.call246<|fq Tryz.func247 Tryz.call247<|fq Tryz.func248 Tryz.call248<|fq Tryz.func249 Tryz.call249<|fq Tryz.func250 Tryz.call250<|fq Tryz.func251 Tryz.call251<|fq Tryz.func252 Tryz.call252<|fq Tryz.func253 Tryz.call253<|fq Tryz.func254 Tryz.call254<|fq Tryz.func255 Tryz.call255<|fq Tryz.func256 Tryz.call256<|fq Tryz.func257 Tryz.call257<|fq Tryz.func258 Tryz.call258<|fq Tryz.func259 Tryz.call259<|fq Tryz.func260 Tryz.call260<|fq Tryz.func266 Tryz.call266<|fq Tryz.func267 Tryz.call267<|fq Tryz.func268 Tryz.call268<|fq Tryz.func269 Tryz.call269<|fq Tryz.func270 Tryz.call270<|fq Tryz.func271 Tryz.call271<|fq Tryz.func272 Tryz.call272<|fq Tryz.func273 Tryz.call273<|fq Tryz.func274 Tryz.call274<|fq Tryz.func275 Tryz.call275<|fq Tryz.func276 Tryz.call276<|fq Tryz.func277 Tryz.call277<|fq Tryz.func279 Tryz.call279<|fq Tryz.func280 Tryz.call280<|fq Tryz.func281 Tryz.call281<|fq Tryz.func282 Tryz.call282<|fq Tryz.func283 Tryz.call283<|fq Tryz.func284 Tryz.call284<|fq Tryz.func285 Tryz.call285<|fun _ h=>nomatch h)
 pure:=by
  refine C9 (P:=Tryz.prog) (Q:=fun _ d=>∀g,d.hints.F2.contains g=true→∃s,C.ext g=some s∧∀args vs,s args []=some (.ret vs,[])→∀σ,s args σ=some (.ret vs,σ)) (L:=FL) ?_
  intro p hp
  simp only[FL,List.mem_cons,List.not_mem_nil,or_false]at hp
  rcases hp with rfl|rfl|rfl|rfl|rfl|rfl|rfl|rfl|rfl|rfl|rfl|rfl|rfl|rfl|rfl|rfl|rfl|rfl|rfl|rfl|rfl|rfl|rfl|rfl|rfl|rfl|rfl|rfl|rfl|rfl|rfl|rfl|rfl|rfl|rfl|rfl|rfl|rfl|rfl|rfl|rfl|rfl|rfl|rfl|rfl|rfl|rfl|rfl|rfl|rfl|rfl|rfl|rfl|rfl|rfl|rfl|rfl|rfl|rfl|rfl|rfl|rfl|rfl|rfl|rfl|rfl|rfl|rfl|rfl|rfl|rfl|rfl|rfl|rfl|rfl|rfl|rfl|rfl|rfl|rfl|rfl|rfl|rfl|rfl|rfl|rfl|rfl|rfl|rfl|rfl|rfl|rfl|rfl|rfl|rfl|rfl|rfl|rfl|rfl|rfl|rfl|rfl|rfl|rfl
  ·intro g hg;exact absurd hg (by show ¬([]:List FuncId).contains g=true;simp)
  ·intro g hg;exact absurd hg (by show ¬([]:List FuncId).contains g=true;simp)
  ·intro g hg;exact absurd hg (by show ¬([]:List FuncId).contains g=true;simp)
  ·intro g hg;exact absurd hg (by show ¬([]:List FuncId).contains g=true;simp)
  ·intro g hg;exact absurd hg (by show ¬([]:List FuncId).contains g=true;simp)
  ·intro g hg;exact absurd hg (by show ¬([]:List FuncId).contains g=true;simp)
  ·intro g hg;exact absurd hg (by show ¬([]:List FuncId).contains g=true;simp)
  ·intro g hg;exact absurd hg (by show ¬([]:List FuncId).contains g=true;simp)
  ·intro g hg;exact absurd hg (by show ¬([]:List FuncId).contains g=true;simp)
  ·intro g hg;exact absurd hg (by show ¬([]:List FuncId).contains g=true;simp)
  ·intro g hg;exact absurd hg (by show ¬([]:List FuncId).contains g=true;simp)
  ·intro g hg;exact absurd hg (by show ¬([]:List FuncId).contains g=true;simp)
  ·intro g hg;exact absurd hg (by show ¬([]:List FuncId).contains g=true;simp)
  ·intro g hg;exact absurd hg (by show ¬([]:List FuncId).contains g=true;simp)
  ·intro g hg;exact absurd hg (by show ¬([]:List FuncId).contains g=true;simp)
  ·intro g hg;exact absurd hg (by show ¬([]:List FuncId).contains g=true;simp)
  ·intro g hg;exact absurd hg (by show ¬([]:List FuncId).contains g=true;simp)
  ·intro g hg;exact absurd hg (by show ¬([]:List FuncId).contains g=true;simp)
  ·intro g hg;exact absurd hg (by show ¬([]:List FuncId).contains g=true;simp)
  ·intro g hg;exact absurd hg (by show ¬([]:List FuncId).contains g=true;simp)
  ·intro g hg;exact absurd hg (by show ¬([]:List FuncId).contains g=true;simp)
  ·intro g hg;exact absurd hg (by show ¬([]:List FuncId).contains g=true;simp)
  ·intro g hg;exact absurd hg (by show ¬([]:List FuncId).contains g=true;simp)
  ·intro g hg;exact absurd hg (by show ¬([]:List FuncId).contains g=true;simp)
  ·intro g hg;exact absurd hg (by show ¬([]:List FuncId).contains g=true;simp)
  ·intro g hg;exact absurd hg (by show ¬([]:List FuncId).contains g=true;simp)
  ·intro g hg;exact absurd hg (by show ¬([]:List FuncId).contains g=true;simp)
  ·intro g hg;exact absurd hg (by show ¬([]:List FuncId).contains g=true;simp)
  ·intro g hg;exact absurd hg (by show ¬([]:List FuncId).contains g=true;simp)
  ·intro g hg;exact absurd hg (by show ¬([]:List FuncId).contains g=true;simp)
  ·intro g hg;exact absurd hg (by show ¬([]:List FuncId).contains g=true;simp)
  ·intro g hg;exact absurd hg (by show ¬([]:List FuncId).contains g=true;simp)
  ·intro g hg;exact absurd hg (by show ¬([]:List FuncId).contains g=true;simp)
  ·intro g hg;exact absurd hg (by show ¬([]:List FuncId).contains g=true;simp)
  ·intro g hg;exact absurd hg (by show ¬([]:List FuncId).contains g=true;simp)
  ·intro g hg;exact absurd hg (by show ¬([]:List FuncId).contains g=true;simp)
  ·intro g hg;exact absurd hg (by show ¬([]:List FuncId).contains g=true;simp)
  ·intro g hg;exact absurd hg (by show ¬([]:List FuncId).contains g=true;simp)
  ·intro g hg;exact absurd hg (by show ¬([]:List FuncId).contains g=true;simp)
  ·intro g hg;exact absurd hg (by show ¬([]:List FuncId).contains g=true;simp)
  ·intro g hg;exact absurd hg (by show ¬([]:List FuncId).contains g=true;simp)
  ·intro g hg;exact absurd hg (by show ¬([]:List FuncId).contains g=true;simp)
  ·intro g hg;exact absurd hg (by show ¬([]:List FuncId).contains g=true;simp)
  ·intro g hg;exact absurd hg (by show ¬([]:List FuncId).contains g=true;simp)
  ·intro g hg;exact absurd hg (by show ¬([]:List FuncId).contains g=true;simp)
  ·intro g hg;exact absurd hg (by show ¬([]:List FuncId).contains g=true;simp)
  ·intro g hg;exact absurd hg (by show ¬([]:List FuncId).contains g=true;simp)
  ·intro g hg;exact absurd hg (by show ¬([]:List FuncId).contains g=true;simp)
  ·intro g hg;exact absurd hg (by show ¬([]:List FuncId).contains g=true;simp)
  ·intro g hg;exact absurd hg (by show ¬([]:List FuncId).contains g=true;simp)
  ·intro g hg;exact absurd hg (by show ¬([]:List FuncId).contains g=true;simp)
  ·intro g hg;exact absurd hg (by show ¬([]:List FuncId).contains g=true;simp)
  ·intro g hg;exact absurd hg (by show ¬([]:List FuncId).contains g=true;simp)
  ·intro g hg;exact absurd hg (by show ¬([]:List FuncId).contains g=true;simp)
  ·intro g hg;exact absurd hg (by show ¬([]:List FuncId).contains g=true;simp)
  ·intro g hg;exact absurd hg (by show ¬([]:List FuncId).contains g=true;simp)
  ·intro g hg;exact absurd hg (by show ¬([]:List FuncId).contains g=true;simp)
  ·intro g hg;exact absurd hg (by show ¬([]:List FuncId).contains g=true;simp)
  ·intro g hg;exact absurd hg (by show ¬([]:List FuncId).contains g=true;simp)
  ·intro g hg;exact absurd hg (by show ¬([]:List FuncId).contains g=true;simp)
  ·intro g hg;exact absurd hg (by show ¬([]:List FuncId).contains g=true;simp)
  ·intro g hg;exact absurd hg (by show ¬([]:List FuncId).contains g=true;simp)
  ·intro g hg;exact absurd hg (by show ¬([]:List FuncId).contains g=true;simp)
  ·intro g hg;exact absurd hg (by show ¬([]:List FuncId).contains g=true;simp)
  ·intro g hg;exact absurd hg (by show ¬([]:List FuncId).contains g=true;simp)
  ·intro g hg;exact absurd hg (by show ¬([]:List FuncId).contains g=true;simp)
  ·intro g hg;exact absurd hg (by show ¬([]:List FuncId).contains g=true;simp)
  ·intro g hg;exact absurd hg (by show ¬([]:List FuncId).contains g=true;simp)
  ·intro g hg;exact absurd hg (by show ¬([]:List FuncId).contains g=true;simp)
  ·intro g hg;exact absurd hg (by show ¬([]:List FuncId).contains g=true;simp)
  ·intro g hg;exact absurd hg (by show ¬([]:List FuncId).contains g=true;simp)
  ·intro g hg;exact absurd hg (by show ¬([]:List FuncId).contains g=true;simp)
  ·intro g hg;exact absurd hg (by show ¬([]:List FuncId).contains g=true;simp)
  ·intro g hg;exact absurd hg (by show ¬([]:List FuncId).contains g=true;simp)
  ·intro g hg;exact absurd hg (by show ¬([]:List FuncId).contains g=true;simp)
  ·intro g hg;exact absurd hg (by show ¬([]:List FuncId).contains g=true;simp)
  ·intro g hg;exact absurd hg (by show ¬([]:List FuncId).contains g=true;simp)
  ·intro g hg;exact absurd hg (by show ¬([]:List FuncId).contains g=true;simp)
  ·intro g hg;exact absurd hg (by show ¬([]:List FuncId).contains g=true;simp)
  ·intro g hg;exact absurd hg (by show ¬([]:List FuncId).contains g=true;simp)
  ·intro g hg;exact absurd hg (by show ¬([]:List FuncId).contains g=true;simp)
  ·intro g hg;exact absurd hg (by show ¬([]:List FuncId).contains g=true;simp)
  ·intro g hg;exact absurd hg (by show ¬([]:List FuncId).contains g=true;simp)
  ·intro g hg;exact absurd hg (by show ¬([]:List FuncId).contains g=true;simp)
  ·intro g hg;exact absurd hg (by show ¬([]:List FuncId).contains g=true;simp)
  ·intro g hg;exact absurd hg (by show ¬([]:List FuncId).contains g=true;simp)
  ·intro g hg;exact absurd hg (by show ¬([]:List FuncId).contains g=true;simp)
  ·intro g hg;exact absurd hg (by show ¬([]:List FuncId).contains g=true;simp)
  ·intro g hg;exact absurd hg (by show ¬([]:List FuncId).contains g=true;simp)
  ·intro g hg;exact absurd hg (by show ¬([]:List FuncId).contains g=true;simp)
  ·intro g hg;exact absurd hg (by show ¬([]:List FuncId).contains g=true;simp)
  ·intro g hg;exact absurd hg (by show ¬([]:List FuncId).contains g=true;simp)
  ·intro g hg;exact absurd hg (by show ¬([]:List FuncId).contains g=true;simp)
  ·intro g hg;exact absurd hg (by show ¬([]:List FuncId).contains g=true;simp)
  ·intro g hg;exact absurd hg (by show ¬([]:List FuncId).contains g=true;simp)
  ·intro g hg;exact absurd hg (by show ¬([]:List FuncId).contains g=true;simp)
  ·intro g hg;exact absurd hg (by show ¬([]:List FuncId).contains g=true;simp)
  ·intro g hg;exact absurd hg (by show ¬([]:List FuncId).contains g=true;simp)
  ·intro g hg;exact absurd hg (by show ¬([]:List FuncId).contains g=true;simp)
  ·intro g hg;exact absurd hg (by show ¬([]:List FuncId).contains g=true;simp)
  ·intro g hg;exact absurd hg (by show ¬([]:List FuncId).contains g=true;simp)
  ·intro g hg;exact absurd hg (by show ¬([]:List FuncId).contains g=true;simp)
  ·intro g hg;exact absurd hg (by show ¬([]:List FuncId).contains g=true;simp)
  ·intro g hg;exact absurd hg (by show ¬([]:List FuncId).contains g=true;simp)
end Go.Ab.Mk
end
