/- Operations that read and write cells, and calls: the abstract one is met by the real one. -/
import Derived.Test.YtcjofhikcokhfaaGreatDoorAbFill
import Derived.Laws.BytesString
import Derived.Lib.ConvBytes
import Derived.Laws.AppendOwn
import Derived.MapKept
import Derived.Laws.Strings
set_option linter.unusedSimpArgs false
set_option linter.unusedVariables false
set_option linter.deprecated false
section
namespace Go.Ab
section
variable {P:Program} {C:Ctx} {H:Hints} {G:Gh} {lam:Nat→Nat} {a:Act} {w:World} {st:St}
theorem FU {o:Oper} {t:TypeId} {x:Operand} (h:Inv C.bN G lam a w st) (iS:(execOp a.eval o).run P w=.ok (.value (a.eval x)) w) (hc:bj H o=dE x):
  gj P C H G lam a w st o (rA (cf C st.au t x)):=by
 cases hv:cf C st.au t x with
 |dead=>exact gj.pure h _ iS fun _=>trivial
 |eK r of=>exact gj.pure h _ iS fun _=>kr h hv
 |oH cs=>
  refine gj.pure h _ iS fun d=>?_
  have:=pE h t x d
  rw[hv]at this
  exact this
 |val v ow=>
  obtain⟨h1,h2⟩:=gX h hv
  cases ow with
  |false=>exact gj.pure h _ iS fun _=>⟨h1,fun ho=>by simp at ho⟩
  |true=>
   rcases h2 rfl with⟨r,rfl,h3⟩|h3
   ·obtain⟨G',e1,e2,e3,e4⟩:=(h.clear (bj H o)).token (q:=.ry (o.dst.getD 0)) h3 (eE _ _ (by rw[hc];simp[dE])) (by simp) (by simp)
    exact⟨_,w,G',iS,e1,e2,fun d hd=>⟨h1.mono e1,fun _=>by rw[hd]at e3;exact e3⟩⟩
   ·exact gj.pure h _ iS fun _=>⟨h1,fun _=>h3 _⟩
theorem ai {α β:Type} {x:Option α} {f:α→Option β} {y:β} (h:x.bind f=some y):∃a,x=some a∧f a=some y:=Option.bind_eq_some_iff.1 h
theorem Tj (h:Inv C.bN G lam a w st) {o:Oper} {x:Operand} {y:RV} (ho:o.op=.move x) (ha:act C H o st.au=some (.val y)):gj P C H G lam a w st o y:=by
 simp only[act,ho]at ha
 have iS:(execOp a.eval o).run P w=.ok (.value (a.eval x)) w:=by simp[execOp,ho]
 split at ha
 ·rename_i hs
  obtain rfl:=lM.val.inj (Option.some.inj ha)
  exact FU h iS (by simp[bj,ho,hs])
 ·obtain rfl:=lM.val.inj (Option.some.inj ha)
  exact gj.pure h _ iS fun d=>pE h _ x d
theorem Mt (h:Inv C.bN G lam a w st) {o:Oper} {x:Operand} {y:RV} (ho:o.op=.assign x) (ha:act C H o st.au=some (.val y)):gj P C H G lam a w st o y:=by
 simp only[act,ho]at ha
 obtain rfl:=lM.val.inj (Option.some.inj ha)
 exact FU h (by simp[execOp,ho]) (by simp[bj,ho])
theorem Tk (h:Inv C.bN G lam a w st) {o:Oper} {c x z:Operand} {y:RV} (ho:o.op=.pick c x z) (ha:act C H o st.au=some (.val y)):gj P C H G lam a w st o y:=by
 simp only[act,ho]at ha
 obtain⟨v,hv,ha⟩:=ai ha
 obtain⟨b,hb,ha⟩:=ai ha
 obtain rfl:=lM.val.inj (Option.some.inj ha)
 have hc:=BL h hv hb
 refine gj.pure h (if b then a.eval x else a.eval z) (by simp[execOp,ho,hc,asBool]) fun d=>?_
 cases b
 ·exact pE h _ z d
 ·exact pE h _ x d
theorem sZ {o:Oper} {op:BinOp} {t u:TypeId} {x y:Operand} {c:Value} {w':World} (ho:o.op=.binOp op t x y u)
  (h:(do eqGuard op t x y (a.eval x) (a.eval y);binOp op t (a.eval x) (a.eval y):Sem Value).run P w=.ok c w'):(execOp a.eval o).run P w=.ok (.value c) w':=by
 simp only[execOp,ho]
 rw[Sem.run_bind,h]
 rfl
theorem Mu {v:V} {c:Value} {b:Bool} (h:Rel G w v c) (hb:v.mH=some b):(c=.pointer none∧b=true)∨∃p,c=.pointer (some p)∧b=false:=by
 cases h<;>simp[V.mH]at hb<;>subst hb<;>simp
theorem Hm {v:V} {c:Value} {b:Bool} (h:Rel G w v c) (hb:v.wU=some b):(c=.nilIface∧b=true)∨∃t x,c=.iface t x∧b=false:=by
 cases h<;>simp[V.wU]at hb<;>subst hb<;>simp
theorem yP {t:TypeId} {x y:Value} {d:TypeDesc} (hd:P.underlying t=some d) (b:Bool) (h:(match d,x,y with
  |.bool,.bool a,.bool b'=>some (a==b')
  |.pointer _,.pointer none,.pointer none=>some true
  |.pointer _,.pointer (some _),.pointer none=>some false
  |.interface _,.nilIface,.nilIface=>some true
  |.interface _,.iface _ _,.nilIface=>some false
  |_,_,_=>none)=some b):(Op.equal t x y).run P w=.ok b w:=by
 have e:Op.equal t x y=Op.equalIn (9999+1) t x y:=rfl
 rw[e,Op.equalIn,Sem.run_bind,aK hd,Result.andThen_ok]
 split at h<;>simp at h<;>subst h<;>simp
theorem QC {x:Operand} (h:Hn x=true):x=.const (.pointer none):=by
 unfold Hn at h;split at h<;>simp_all
theorem QD {x:Operand} (h:Ho x=true):x=.const .nilIface:=by
 unfold Ho at h;split at h<;>simp_all
theorem Ce {o:Oper} {op:BinOp} {t u:TypeId} {x z:Operand} {v:V} {b:Bool} (ho:o.op=.binOp op t x z u) (h:Inv C.bN G lam a w st) (hv:JT op b=some v)
  (hg:∀op',op'=BinOp.eql∨op'=BinOp.neq→(eqGuard op' t x z (a.eval x) (a.eval z)).run P w=.ok () w∧(Go.binOp .eql t (a.eval x) (a.eval z))=(do pure (.bool (←Op.equal t (a.eval x) (a.eval z))))∧
   (Go.binOp .neq t (a.eval x) (a.eval z))=(do pure (.bool (!(←Op.equal t (a.eval x) (a.eval z)))))) (he:(Op.equal t (a.eval x) (a.eval z)).run P w=.ok b w):gj P C H G lam a w st o (.val v false):=by
 cases op<;>simp only[JT,Option.some.injEq,reduceCtorEq]at hv
 ·subst hv
  obtain⟨h1,h2,_⟩:=hg .eql (.inl rfl)
  refine gj.val h _ (sZ ho (c:=.bool b) ?_) (.bool _)
  rw[Sem.run_bind,h1,Result.andThen_ok,h2]
  simp[he]
 ·subst hv
  obtain⟨h1,_,h2⟩:=hg .neq (.inr rfl)
  refine gj.val h _ (sZ ho (c:=.bool !b) ?_) (.bool _)
  rw[Sem.run_bind,h1,Result.andThen_ok,h2]
  simp[he]
theorem QG (hC:dN P C) (h:Inv C.bN G lam a w st) {o:Oper} {op:BinOp} {t u:TypeId} {x z:Operand} {y:RV} (ho:o.op=.binOp op t x z u) (ha:act C H o st.au=some (.val y)):gj P C H G lam a w st o y:=by
 simp only[act,ho]at ha
 obtain⟨v,hv,ha⟩:=ai ha
 obtain rfl:=lM.val.inj (Option.some.inj ha)
 unfold Mv at hv
 obtain⟨i,hi,hq⟩:=ai hv
 clear hv
 obtain⟨d,hd,hk⟩:=(hC.T t i hi).desc
 split at hq
 ·rename_i k uv
  obtain⟨v1,e1,hv⟩:=ai hq
  obtain⟨v2,e2,hv⟩:=ai hv
  obtain⟨m,e3,hv⟩:=ai hv
  obtain⟨n,e4,hv⟩:=ai hv
  obtain⟨c,kt,pD⟩:=Xi (P:=P) (G:=G) (w:=w) (t:=t) (x:=x) (y:=z) hv
  rw[←mI h e1 e3,←mI h e2 e4]at kt
  exact gj.val h c (sZ ho kt) pD
 ·obtain⟨v1,e1,hv⟩:=ai hq
  obtain⟨v2,e2,hv⟩:=ai hv
  obtain⟨m,e3,hv⟩:=ai hv
  obtain⟨n,e4,hv⟩:=ai hv
  obtain⟨c,kt,pD⟩:=Xj (P:=P) (G:=G) (w:=w) (t:=t) (x:=x) (y:=z) hv
  rw[←vr h e1 e3,←vr h e2 e4]at kt
  exact gj.val h c (sZ ho kt) pD
 ·rename_i uv
  rw[uv]at hk
  obtain rfl:=Tl hk
  obtain⟨v1,e1,hv⟩:=ai hq
  obtain⟨v2,e2,hv⟩:=ai hv
  obtain⟨m,e3,hv⟩:=ai hv
  obtain⟨n,e4,hv⟩:=ai hv
  have f1:=BL h e1 e3
  have f2:=BL h e2 e4
  refine Ce ho h hv (fun op' Tn=>?_) ?_
  ·rw[f1,f2]
   rcases Tn with rfl|rfl<;>exact⟨by simp[eqGuard],rfl,rfl⟩
  ·rw[f1,f2]
   exact yP hd _ rfl
 ·rename_i e uv
  rw[uv]at hk
  obtain rfl:=JU hk
  split at hq
  ·rename_i hn
   have hz:=QC hn
   subst hz
   obtain⟨v1,e1,hv⟩:=ai hq
   obtain⟨b,e2,hv⟩:=ai hv
   have hr:=Mu (fW h e1) e2
   refine Ce ho h hv (fun op' Tn=>?_) ?_
   ·rcases hr with⟨f1,rfl⟩|⟨p,f1,rfl⟩<;>rw[f1]<;>rcases Tn with rfl|rfl<;>exact⟨by simp[Act.eval,eqGuard],rfl,rfl⟩
   ·rcases hr with⟨f1,rfl⟩|⟨p,f1,rfl⟩<;>rw[f1]<;>exact yP hd _ rfl
  ·simp at hq
 ·rename_i uv
  rw[uv]at hk
  obtain⟨ms,rfl⟩:=QH hk
  split at hq
  ·rename_i hn
   have hz:=QD hn
   subst hz
   obtain⟨v1,e1,hv⟩:=ai hq
   obtain⟨b,e2,hv⟩:=ai hv
   have hr:=Hm (fW h e1) e2
   refine Ce ho h hv (fun op' Tn=>?_) ?_
   ·rcases hr with⟨f1,rfl⟩|⟨p,y,f1,rfl⟩<;>rw[f1]<;>rcases Tn with rfl|rfl<;>exact⟨by simp[Act.eval,eqGuard],rfl,rfl⟩
   ·rcases hr with⟨f1,rfl⟩|⟨p,y,f1,rfl⟩<;>rw[f1]<;>exact yP hd _ rfl
  ·simp at hq
 ·simp at hq
end
end Go.Ab
end
section
namespace Go.Ab
section
variable {P:Program} {C:Ctx} {H:Hints} {G:Gh} {lam:Nat→Nat} {a:Act} {w:World} {st:St}
theorem To (h:Inv C.bN G lam a w st) {o:Oper} {op:UnOp} {t:TypeId} {x:Operand} {y:RV} (ho:o.op=.unOp op t x) (ha:act C H o st.au=some (.val y)):gj P C H G lam a w st o y:=by
 simp only[act,ho]at ha
 obtain⟨v,hv,hq⟩:=ai ha
 clear ha
 cases op<;>simp only[reduceCtorEq]at hq
 ·obtain⟨n,hn,hq⟩:=ai hq
  obtain rfl:=lM.val.inj (Option.some.inj hq)
  refine gj.val h (.int .i64 (IntKind.i64.wrap (0 - n))) ?_ (.int _ _)
  simp[execOp,ho,mI h hv hn,Op.unary,Op.intArith]
 ·obtain⟨b,hb,hq⟩:=ai hq
  obtain rfl:=lM.val.inj (Option.some.inj hq)
  refine gj.val h (.bool !b) ?_ (.bool _)
  simp[execOp,ho,BL h hv hb,Op.unary]
theorem oI (w:World) (e:TypeId) (s:ByteArray):Lib.bytesWorld w e s=w.drew.alloc (.cells (Lib.bytesCells w e s) e ((Lib.bytesCells w e s).size,(Lib.bytesCells w e s).size+1)):=by
 have key:∀(h:Array Obj) (o:Obj) (f:Obj→Obj),(h.push o).modify h.size f=h.push (f o):=by
  intro h o f
  apply Array.ext_getElem?
  intro i
  rw[Array.getElem?_modify,Array.getElem?_push,Array.getElem?_push]
  by_cases hi:i=h.size
  ·subst hi;simp
  ·simp[hi,Ne.symm hi]
 have h0:=key w.heap
 unfold Lib.bytesWorld World.freeze World.alloc World.drew
 simp only[Nat.one_ne_zero,if_false,h0,beq_self_eq_true,if_true]
theorem QI (w:World) (e:TypeId) (s:ByteArray) {G':Gh} (hl:s.size≤G'.ah w.heap.size):Rel G' (Lib.bytesWorld w e s) (.slice 1 e (fM s)) (.slice (some ⟨w.heap.size,0,none⟩) s.size (grownCap w s.size 0 e)):=by
 have hlen:(fM s).length=s.size:=by simp[fM]
 have:=Rel.slice (G:=G') (w:=Lib.bytesWorld w e s) 1 e (fM s) w.heap.size 0 (grownCap w s.size 0 e) (s.data.toList.map fun b=>[Value.int .u8 b.toNat])
  (by simp[fM]) (by rw[hlen];exact grownCap_ge w s.size 0 e) (by rw[hlen];omega) (fun i x hx=>by
   simp only[fM,List.getElem?_map,Option.map_eq_some_iff]at hx
   obtain⟨b,_,rfl⟩:=hx
   rfl) (fun i x hx=>by
   simp only[List.getElem?_map,Option.map_eq_some_iff]at hx
   obtain⟨b,_,rfl⟩:=hx
   rfl) (fun i j x c hx hc=>by
   simp only[List.getElem?_map,Option.map_eq_some_iff]at hx
   obtain⟨b,hb,rfl⟩:=hx
   match j with
   |0=>
    simp at hc
    subst hc
    have hi:i<s.size:=by
     have:=(List.getElem?_eq_some_iff.1 hb).1
     simpa using this
    refine⟨?_,rfl⟩
    have:=Lib.bytesWorld_cell w e s i hi
    rw[show 0+i*1+0=i by omega,this]
    simp[List.getD,hb]
   |j+1=>simp at hc) (fun i j x y v c hx hy hv hc=>by
   simp only[fM,List.getElem?_map,Option.map_eq_some_iff]at hx hy
   obtain⟨b,hb,rfl⟩:=hx
   obtain⟨b',jI,rfl⟩:=hy
   rw[hb]at jI
   obtain rfl:=Option.some.inj jI
   match j with
   |0=>simp at hv hc;subst hv;subst hc;exact .int _ _
   |j+1=>simp at hc)
 rw[hlen]at this
 exact this
theorem JV (hC:dN P C) (h:Inv C.bN G lam a w st) {o:Oper} {s d:TypeId} {x:Operand} {y:RV} (ho:o.op=.convert s d x) (ha:act C H o st.au=some (.val y)):gj P C H G lam a w st o y:=by
 simp only[act,ho]at ha
 obtain⟨i,hi,h1⟩:=ai ha
 obtain⟨j,hj,h2⟩:=ai h1
 clear ha h1
 obtain⟨d1,mJ,jG⟩:=(hC.T s i hi).desc
 obtain⟨d2,Tp,lK⟩:=(hC.T d j hj).desc
 split at h2
 ·rename_i k k' e1 e2
  rw[e1]at jG
  rw[e2]at lK
  obtain rfl:=Hp jG
  obtain rfl:=Hp lK
  obtain⟨v,hv,h3⟩:=ai h2
  obtain⟨n,hn,h4⟩:=ai h3
  obtain rfl:=lM.val.inj (Option.some.inj h4)
  refine gj.val h (.int k' (k'.wrap n)) ?_ (.int _ _)
  simp[execOp,ho,mI h hv hn,Go.convert,aK mJ,aK Tp,Conv.intToInt]
 ·rename_i e e1 e2
  rw[e1]at jG
  rw[e2]at lK
  obtain rfl:=ku jG
  obtain rfl:=jo lK
  obtain⟨ei,yL,h3⟩:=ai h2
  obtain⟨d3,hd3,lL⟩:=(hC.T e ei yL).desc
  split at h3
  case h_2=>simp at h3
  rename_i e3
  rw[e3]at lL
  obtain rfl:=Hp lL
  obtain⟨v,hv,h4⟩:=ai h3
  obtain⟨s',hs,h5⟩:=ai h4
  obtain rfl:=lM.val.inj (Option.some.inj h5)
  have hwf:WF G w.drew:=h.bP.wf
  refine⟨.slice (some ⟨w.heap.size,0,none⟩) s'.size (grownCap w s'.size 0 e),Lib.bytesWorld w e s',G.new w.drew s'.size none,?_,?_,?_,fun dd _=>⟨?_,fun ho=>by simp at ho⟩⟩
  ·simp only[execOp,ho,vr h hv hs,Sem.run_bind,Lib.run_convert_string_bytes w s d e s' mJ Tp hd3]
   rfl
  ·rw[oI]
   exact Ext.trans (w1:=w.drew) (Ext.same rfl rfl rfl rfl) (Ext.alloc hwf _ _ _)
  ·rw[oI]
   exact((h.same (w':=w.drew) rfl rfl rfl rfl).alloc _ s'.size none).clear _
  ·exact QI w e s' (by simp[Gh.new,lX])
 ·simp at h2
theorem wV (hC:dN P C) (h:Inv C.bN G lam a w st) {o:Oper} {t:TypeId} {x:Operand} {y:RV} (ho:o.op=.makeInterface t x) (ha:act C H o st.au=some (.val y)):gj P C H G lam a w st o y:=by
 simp only[act,ho]at ha
 obtain⟨i,hi,h1⟩:=ai ha
 clear ha
 obtain⟨d1,mJ,jG⟩:=(hC.T t i hi).desc
 split at h1
 ·simp at h1
 ·rename_i eJ
  obtain⟨v,hv,h2⟩:=ai h1
  obtain rfl:=lM.val.inj (Option.some.inj h2)
  refine gj.val h (.iface t (a.eval x)) ?_ (.iface _ _ _ (fW h hv))
  have:∀ms,d1≠.interface ms:=by
   rintro ms rfl
   generalize i.kind=k at eJ jG
   cases k<;>simp_all [Cf]
  simp only[execOp,ho,Instr.makeInterface,Sem.run_bind,aK mJ,Result.andThen_ok]
  cases d1<;>first|rfl|(exact absurd rfl (this _))
theorem Hq (h:Inv C.bN G lam a w st) {o:Oper} {x:Operand} {y:RV} (ho:o.op=.nilCheck x) (ha:act C H o st.au=some (.val y)):gj P C H G lam a w st o y:=by
 simp only[act,ho]at ha
 split at ha
 ·rename_i r of hx
  obtain rfl:=lM.val.inj (Option.some.inj ha)
  have:=kr h hx
  exact gj.pure h _ (by simp[execOp,ho,this]) fun _=>rfl
 ·rename_i v ow hx
  obtain⟨u,hu,h1⟩:=ai ha
  obtain rfl:=lM.val.inj (Option.some.inj h1)
  have hr:=(gX h hx).1
  generalize hc:a.eval x=c at hr
  cases hr with
  |ptr t0 b o' hb ht=>
   simp[V.kv]at hu;subst hu
   exact gj.val h (.pointer (some ⟨G.μ b,o',none⟩)) (by simp[execOp,ho,hc]) (.ptr _ _ _ hb ht)
  |eL k e o' b off cs g1 g2 g3 g4 g5=>
   simp[V.kv]at hu;subst hu
   exact gj.val h (.pointer (some ⟨b,off+o',none⟩)) (by simp[execOp,ho,hc]) (.eL k e o' b off cs g1 g2 g3 g4 g5)
  |func fn first cap f c' g1 g2 g3 g4=>
   cases fn<;>simp[V.kv]at hu
   subst hu
   exact gj.val h (.func (.func _) f.toArray c'.toArray) (by simp[execOp,ho,hc]) (.func _ first cap f c' g1 g2 g3 g4)
  |_=>simp[V.kv]at hu
 ·simp at ha
theorem pF (h:Inv C.bN G lam a w st):∀(l:List (Operand×TypeId)) (cs:List Cell),fF C st.au l=some cs→cs.length=l.length∧
  ∀(i:Nat) c x,cs[i]?=some c→l[i]?=some x→Rel G w c.1 (a.eval x.1)∧(c.2=true→(∃r,x.1=.tmp r∧Own G w (.ry r) c.1 (a.eval x.1))∨∀p,Own G w p c.1 (a.eval x.1))
 |[],cs,hc=>by simp[fF]at hc;subst hc;simp
 |(x,t)::rest,cs,hc=>by
  simp only[fF]at hc
  obtain⟨c,h1,hc⟩:=ai hc
  obtain⟨ta,h2,hc⟩:=ai hc
  obtain rfl:=Option.some.inj hc
  obtain⟨e1,e2⟩:=pF h rest ta h2
  refine⟨by simp[e1],fun i c' y hi hy=>?_⟩
  cases i with
  |zero=>
   simp at hi hy
   subst hi;subst hy
   exact Tq h h1
  |succ i=>
   simp at hi hy
   exact e2 i c' y hi hy
theorem Hr (h:Inv C.bN G lam a w st) {o:Oper} {fn:Fn} {fi ca:Array Operand} {y:RV} (ho:o.op=.makeFunc fn fi ca) (ha:act C H o st.au=some (.val y)):gj P C H G lam a w st o y:=by
 simp only[act,ho]at ha
 split at ha
 ·rename_i hs
  obtain⟨cs,hcs,h1⟩:=ai ha
  obtain rfl:=lM.val.inj (Option.some.inj h1)
  obtain⟨e1,e2⟩:=pF h _ _ hcs
  have WW:fi=#[]:=by simpa using hs
  refine gj.val h (.func fn ([]:List Value).toArray (ca.toList.map a.eval).toArray) ?_ (.func fn [] _ [] _ rfl (by simp[e1]) (by simp) fun i v x hv hx=>?_)
  ·subst WW
   simp[execOp,ho,Instr.makeFunc]
   apply Array.ext'
   simp
  ·simp only[List.getElem?_map,Option.map_eq_some_iff]at hv hx
   obtain⟨c,hc,rfl⟩:=hv
   obtain⟨z,hz,rfl⟩:=hx
   exact(e2 i c (z,0) hc (by simp[hz])).1
 ·simp at ha
theorem Fc (hC:dN P C) (h:Inv C.bN G lam a w st) {o:Oper} {s:TypeId} {x:Operand} {f:Nat} {y:RV} (ho:o.op=.fieldAddr s x f) (ha:act C H o st.au=some (.val y)):gj P C H G lam a w st o y:=by
 simp only[act,ho]at ha
 obtain⟨i,hi,h1⟩:=ai ha
 clear ha
 obtain⟨d1,mJ,jG⟩:=(hC.T s i hi).desc
 split at h1
 ·rename_i fs JW
  rw[JW]at jG
  obtain⟨fields,rfl,hm⟩:=vt jG
  obtain⟨p,hp,h2⟩:=ai h1
  obtain⟨fi,WW,h3⟩:=ai h2
  clear h1 h2
  split at h3
  ·simp at h3
  ·rename_i iM
   rw[←hm,List.getElem?_map,Option.map_eq_some_iff]at hp
   obtain⟨fd,Mq,rfl⟩:=hp
   have aad:fields[f]?=some fd:=by simpa using Mq
   have key:∀b of,a.eval x=.pointer (some ⟨b,of,none⟩)→(execOp a.eval o).run P w=.ok (.value (.pointer (some ⟨b,of+fd.offset,none⟩))) w:=by
    intro b of hx
    simp[execOp,ho,Instr.fieldAt,aK mJ,aad,hx,Instr.sureAddr,fieldPlace,cZ (hC.T _ _ WW),iM,add_plain]
   split at h3
   ·rename_i r of hx
    obtain rfl:=lM.val.inj (Option.some.inj h3)
    exact gj.pure h _ (key _ _ (kr h hx)) fun _=>rfl
   ·rename_i v ow hx
    obtain⟨u,hu,h4⟩:=ai h3
    have hu:=cL hu
    obtain rfl:=lM.val.inj (Option.some.inj h4)
    have hr:=(gX h hx).1
    generalize hc:a.eval x=c at hr
    cases hr with
    |ptr t0 b o' hb ht=>exact gj.val h _ (key _ _ hc) (.ptr _ _ _ hb ht)
    |eL k e of b off cs g1 g2 g3 g4 g5=>
     have:=key _ _ hc
     rw[Nat.add_assoc]at this
     exact gj.val h _ this (.eL k e (of+fd.offset) b off cs g1 g2 g3 g4 g5)
    |_=>simp[V.oJ]at hu
   ·simp at h3
 ·simp at h1
theorem Fe (hC:dN P C) (h:Inv C.bN G lam a w st) {o:Oper} {t:TypeId} {x ix:Operand} {y:RV} (ho:o.op=.indexAddr t x ix) (ha:act C H o st.au=some (.val y)):gj P C H G lam a w st o y:=by
 simp only[act,ho]at ha
 obtain⟨i,hi,h1⟩:=ai ha
 clear ha
 obtain⟨d1,mJ,jG⟩:=(hC.T t i hi).desc
 split at h1
 ·rename_i e uv
  rw[uv]at jG
  obtain rfl:=jo jG
  obtain⟨ei,yL,h2⟩:=ai h1
  obtain⟨v,hv,h3⟩:=ai h2
  obtain⟨es,uw,h4⟩:=ai h3
  obtain⟨wv,hw,h5⟩:=ai h4
  obtain⟨n,hn,h6⟩:=ai h5
  obtain⟨u,hu,h7⟩:=ai h6
  clear h1 h2 h3 h4 h5 h6
  have hu:=cL hu
  simp only[Bool.and_eq_true,decide_eq_true_eq]at hu
  obtain rfl:=lM.val.inj (Option.some.inj h7)
  have QJ:=mI h hw hn
  obtain⟨hr,_⟩:=nG uw (fW h hv)
  rcases oK hr with⟨rfl,_⟩|⟨b,off,cap,cs,hc,g1,g2,g3,g4,g5,g6,g7⟩
  ·simp at hu;omega
  ·have aG:n.toNat<es.length:=by omega
   have rB:n.toNat<cs.length:=by omega
   refine gj.val h (.pointer (some ⟨b,off+n.toNat*ei.size+0,none⟩)) ?_ (.eL ei.size _ 0 b (off+n.toNat*ei.size) cs[n.toNat] ?_ ?_ ?_ ?_ ?_)
   ·simp[execOp,ho,Instr.indexAt,QJ,asIntOf,aK mJ,hc,cZ (hC.T _ _ yL),hu,add_plain]
   ·rw[List.getD_eq_getElem?_getD,List.getElem?_eq_getElem aG];exact g4 _ _ (List.getElem?_eq_getElem aG)
   ·exact g5 _ _ (List.getElem?_eq_getElem rB)
   ·have:(n.toNat+1)*ei.size≤es.length*ei.size:=Nat.mul_le_mul_right _ (by omega)
    rw[Nat.succ_mul]at this
    omega
   ·intro j c hj
    exact g6 _ j _ c (List.getElem?_eq_getElem rB) hj
   ·intro j v c hv hj
    rw[List.getD_eq_getElem?_getD,List.getElem?_eq_getElem aG]at hv
    exact g7 _ j _ _ v c (List.getElem?_eq_getElem aG) (List.getElem?_eq_getElem rB) hv hj
 ·rename_i len e uv
  rw[uv]at jG
  obtain rfl:=(oL jG)
  obtain⟨ei,yL,h2⟩:=ai h1
  obtain⟨p,hp,h3⟩:=ai h2
  obtain⟨u1,WX,h4⟩:=ai h3
  obtain⟨wv,hw,h5⟩:=ai h4
  obtain⟨n,hn,h6⟩:=ai h5
  obtain⟨u,hu,h7⟩:=ai h6
  clear h1 h2 h3 h4 h5 h6
  have hu:=cL hu
  have WX:=cL WX
  simp only[Bool.and_eq_true,decide_eq_true_eq]at hu
  obtain rfl:=lM.val.inj (Option.some.inj h7)
  have QJ:=mI h hw hn
  have hr:=fW h hp
  have key:∀b of,a.eval x=.pointer (some ⟨b,of,none⟩)→(execOp a.eval o).run P w=.ok (.value (.pointer (some ⟨b,of+n.toNat*ei.size,none⟩))) w:=by
   intro b of hx
   simp[execOp,ho,Instr.indexAt,QJ,asIntOf,aK mJ,hx,Instr.sureAddr,cZ (hC.T _ _ yL),hu,add_plain]
  generalize hc:a.eval x=c at hr
  cases hr with
  |ptr t0 b o' hb ht=>exact gj.val h _ (key _ _ hc) (.ptr _ _ _ hb ht)
  |eL k e' of b off cs g1 g2 g3 g4 g5=>
   have:=key _ _ hc
   rw[Nat.add_assoc]at this
   exact gj.val h _ this (.eL k e' (of+n.toNat*ei.size) b off cs g1 g2 g3 g4 g5)
  |_=>simp[V.oJ]at WX
 ·simp at h1
end
end Go.Ab
end
section
namespace Go.Ab
section
variable {P:Program} {C:Ctx} {H:Hints} {G:Gh} {lam:Nat→Nat} {a:Act} {w:World} {st:St}
theorem FV {n i:Nat} {f:Nat→V} {v:V} (h:((List.range n).map f)[i]?=some v):i<n∧v=f i:=by
 obtain⟨h1,h2⟩:=List.getElem?_eq_some_iff.1 h
 simp at h1 h2
 exact⟨h1,h2.symm⟩
theorem Tr {cs:List V} {xs:List Value} (h1:xs.length=cs.length) (h2:∀(i:Nat) (x:Value),xs[i]?=some x→x.oneCell'=true) (h3:∀(i:Nat) (v:V) (x:Value),cs[i]?=some v→xs[i]?=some x→Rel G w v x)
  (off n:Nat) (hn:off+n≤cs.length):Rel G w (.agg ((List.range n).map fun j=>(V.agg cs).cell (off+j))) (.agg ((xs.drop off).take n).toArray):=by
 refine .agg _ _ (by simp;omega) (fun i x hx=>?_) (fun i v x hv hx=>?_)
 ·rw[List.getElem?_take]at hx
  split at hx
  ·rw[List.getElem?_drop]at hx;exact h2 _ x hx
  ·simp at hx
 ·obtain⟨hi,rfl⟩:=FV hv
  rw[List.getElem?_take,if_pos hi,List.getElem?_drop]at hx
  have aG:off+i<cs.length:=by omega
  simp only[V.cell,List.getD_eq_getElem?_getD,List.getElem?_eq_getElem aG,Option.getD_some]
  exact h3 (off+i) _ x (List.getElem?_eq_getElem aG) hx
theorem JX {t:TypeId} {i:TI} (h:Mw P t i) {cs:List V} {xs:List Value} (h1:xs.length=cs.length) (h2:∀(i:Nat) (x:Value),xs[i]?=some x→x.oneCell'=true) (h3:∀(i:Nat) (v:V) (x:Value),cs[i]?=some v→xs[i]?=some x→Rel G w v x)
  (off:Nat) (hn:off+i.size≤cs.length) (hs:i.agg=false→0<i.size):
  ∃c,(part t xs.toArray off).run P w=.ok c w∧Rel G w (if i.agg then .agg ((List.range i.size).map fun j=>(V.agg cs).cell (off+j))else(V.agg cs).cell off) c:=by
 simp only[part,Sem.run_bind,wW h,Result.andThen_ok]
 cases hi:i.agg with
 |true=>
  refine⟨_,?_,Tr h1 h2 h3 off i.size hn⟩
  simp only[if_true,Sem.run_bind,cZ h,Result.andThen_ok,Sem.run_pure]
  congr 2
  apply Array.ext'
  simp[List.extract_eq_drop_take]
 |false=>
  have aG:off<cs.length:=by have:=hs hi;omega
  have rB:off<xs.length:=by omega
  refine⟨xs[off],?_,?_⟩
  ·simp[rB]
  ·simp only[Bool.false_eq_true,if_false,V.cell,List.getD_eq_getElem?_getD,List.getElem?_eq_getElem aG,Option.getD_some]
   exact h3 off _ _ (List.getElem?_eq_getElem aG) (List.getElem?_eq_getElem rB)
theorem JY {v:V} {c:Value} {n:Nat} (h:Rel G w v c) (hf:v.fits true n=true):∃cs,∃xs:List Value,v=.agg cs∧c=.agg xs.toArray∧cs.length=n∧xs.length=cs.length∧
  (∀(i:Nat) (x:Value),xs[i]?=some x→x.oneCell'=true)∧(∀(i:Nat) (v:V) (x:Value),cs[i]?=some v→xs[i]?=some x→Rel G w v x):=by
 cases h<;>simp[V.fits]at hf
 exact⟨_,_,rfl,rfl,hf,‹_›,‹_›,‹_›⟩
theorem QK (hC:dN P C) (h:Inv C.bN G lam a w st) {o:Oper} {t:TypeId} {x:Operand} {f:Nat} {y:RV} (ho:o.op=.field t x f) (ha:act C H o st.au=some (.val y)):gj P C H G lam a w st o y:=by
 simp only[act,ho]at ha
 obtain⟨i,hi,h1⟩:=ai ha
 clear ha
 obtain⟨d1,mJ,jG⟩:=(hC.T t i hi).desc
 split at h1
 ·rename_i fs JW
  rw[JW]at jG
  obtain⟨fields,rfl,hm⟩:=vt jG
  obtain⟨p,hp,h2⟩:=ai h1
  obtain⟨fi,WW,h3⟩:=ai h2
  obtain⟨v,hv,h4⟩:=ai h3
  obtain⟨u,hu,h5⟩:=ai h4
  clear h1 h2 h3 h4
  have hu:=cL hu
  simp only[Bool.and_eq_true,decide_eq_true_eq]at hu
  rw[←hm,List.getElem?_map,Option.map_eq_some_iff]at hp
  obtain⟨fd,Mq,rfl⟩:=hp
  have aad:fields[f]?=some fd:=by simpa using Mq
  obtain⟨cs,xs,rfl,hx,g0,g1,g2,g3⟩:=JY (fW h hv) hu.1.1
  obtain⟨c,kt,pD⟩:=JX (P:=P) (hC.T _ _ WW) g1 g2 g3 fd.offset (by rw[g0];exact hu.1.2) (fun hh=>by simpa[hh]using hu.2)
  have iS:(execOp a.eval o).run P w=.ok (.value c) w:=by
   simp[execOp,ho,Instr.field,aK mJ,aad,hx,asAgg,kt]
  split at h5
  ·rename_i Mx
   obtain rfl:=lM.val.inj (Option.some.inj h5)
   rw[if_pos Mx]at pD
   exact gj.val h c iS pD
  ·rename_i Mx
   obtain rfl:=lM.val.inj (Option.some.inj h5)
   rw[if_neg Mx]at pD
   exact gj.val h c iS pD
 ·simp at h1
theorem QL (hC:dN P C) (h:Inv C.bN G lam a w st) {o:Oper} {t:TypeId} {x ix:Operand} {y:RV} (ho:o.op=.index t x ix) (ha:act C H o st.au=some (.val y)):gj P C H G lam a w st o y:=by
 simp only[act,ho]at ha
 obtain⟨i,hi,h1⟩:=ai ha
 clear ha
 obtain⟨d1,mJ,jG⟩:=(hC.T t i hi).desc
 split at h1
 ·rename_i uv
  rw[uv]at jG
  obtain rfl:=ku jG
  obtain⟨v,hv,h2⟩:=ai h1
  obtain⟨s,hs,h3⟩:=ai h2
  obtain⟨wv,hw,h4⟩:=ai h3
  obtain⟨n,hn,h5⟩:=ai h4
  obtain⟨u,hu,h6⟩:=ai h5
  clear h1 h2 h3 h4 h5
  have hu:=cL hu
  simp only[Bool.and_eq_true,decide_eq_true_eq]at hu
  obtain rfl:=lM.val.inj (Option.some.inj h6)
  have QJ:=mI h hw hn
  have aG:n.toNat<s.size:=by omega
  refine gj.val h (.int .u8 (av s n.toNat)) ?_ (.int _ _)
  have hb:s[n.toNat]?=some s[n.toNat]:=getElem?_pos s n.toNat aG
  have vu:av s n.toNat=(s[n.toNat].toNat:Int):=by
   unfold av
   rw[List.getD_eq_getElem?_getD,List.getElem?_eq_getElem (by simpa using aG)]
   rfl
  simp only[execOp,ho,Instr.index,QJ,asIntOf,vr h hv hs,Sem.run_bind,Sem.run_pure,Result.andThen_ok,aK mJ,if_pos hu.1,hb,vu]
 ·rename_i len e uv
  rw[uv]at jG
  obtain rfl:=oL jG
  obtain⟨ei,yL,h2⟩:=ai h1
  split at h2
  ·simp at h2
  ·rename_i Mx
   split at h2
   ·simp at h2
   ·rename_i iM
    obtain⟨v,hv,h3⟩:=ai h2
    obtain⟨u1,WX,h4⟩:=ai h3
    obtain⟨wv,hw,h5⟩:=ai h4
    obtain⟨n,hn,h6⟩:=ai h5
    obtain⟨u,hu,h7⟩:=ai h6
    clear h1 h2 h3 h4 h5 h6
    have hu:=cL hu
    have WX:=cL WX
    simp only[Bool.and_eq_true,decide_eq_true_eq]at hu
    obtain rfl:=lM.val.inj (Option.some.inj h7)
    have QJ:=mI h hw hn
    obtain⟨cs,xs,rfl,hx,g0,g1,g2,g3⟩:=JY (fW h hv) WX
    have iM:ei.size=1:=by simpa using iM
    obtain⟨c,kt,pD⟩:=JX (P:=P) (hC.T _ _ yL) g1 g2 g3 n.toNat (by rw[g0,iM];omega) (fun _=>by omega)
    rw[if_neg Mx]at pD
    refine gj.val h c ?_ pD
    simp[execOp,ho,Instr.index,QJ,asIntOf,hx,aK mJ,hu,cZ (hC.T _ _ yL),iM,kt]
 ·simp at h1
theorem wX (s:ByteArray):∀(l:List MapEntry) (es:List (ByteArray×Int)) (i:Nat),l.map (fun e=>(e.key,e.val))=es.map (fun p=>(Value.string p.1,Value.int .i64 p.2))→
    ∃r,Instr.findNow .string (.string s) l i=some r∧((∃j,r=some (j,.int .i64 (pG es s)))∨(r=none∧pG es s=0))
  |[],es,i,h=>by
   cases es with
   |nil=>exact⟨none,rfl,.inr ⟨rfl,rfl⟩⟩
   |cons p es=>simp at h
  |e::l,es,i,h=>by
   cases es with
   |nil=>simp at h
   |cons p es=>
    obtain⟨k,n⟩:=p
    simp only[List.map_cons,List.cons.injEq,Prod.mk.injEq]at h
    obtain⟨⟨h1,h2⟩,h3⟩:=h
    have hb:(s==k)=(s.toList==k.toList):=by
      rw[Bool.eq_iff_iff,Go.MapKept.bytes_beq,beq_iff_eq,Go.ByteArray.toList_eq,Go.ByteArray.toList_eq]
      exact⟨fun h=>by rw[h],fun h=>ByteArray.ext (Array.toList_inj.1 h)⟩
    simp only[Instr.findNow,h1,h2,Instr.sameNow,pG]
    rw[hb]
    cases s.toList==k.toList with
    |true=>exact⟨_,rfl,.inl ⟨i,rfl⟩⟩
    |false=>exact wX s l es (i+1) h3
theorem My (hC:dN P C) (h:Inv C.bN G lam a w st) {o:Oper} {t:TypeId} {x ix:Operand} {ok:Bool} {y:RV} (ho:o.op=.lookup t x ix ok) (ha:act C H o st.au=some (.val y)):gj P C H G lam a w st o y:=by
 simp only[act,ho]at ha
 obtain⟨i,hi,h1⟩:=ai ha
 clear ha
 obtain⟨d1,mJ,jG⟩:=(hC.T t i hi).desc
 split at h1
 ·rename_i k e uv
  rw[uv]at jG
  obtain rfl:=Xk jG
  obtain⟨ki,PF,h2⟩:=ai h1
  obtain⟨ei,yL,h3⟩:=ai h2
  obtain⟨d2,Tp,lK⟩:=(hC.T k ki PF).desc
  split at h3
  ·rename_i ac8 ac9
   rw[ac8]at lK
   obtain rfl:=ku lK
   obtain⟨info,g1,g2⟩:=(hC.T e ei yL).abH _ ac9
   obtain⟨v,hv,h4⟩:=ai h3
   obtain⟨es,uw,h5⟩:=ai h4
   obtain⟨wv,hw,h6⟩:=ai h5
   obtain⟨s,hs,h7⟩:=ai h6
   obtain rfl:=lM.val.inj (Option.some.inj h7)
   have QJ:=vr h hw hs
   have hx:=fW h hv
   have hzv:(zeroValue e).run P w=.ok (.int .i64 0) w:=by simp[zeroValue,fA g1,g2]
   generalize hxe:a.eval x=xv at hx
   refine gj.val h (.int .i64 (pG es s)) ?_ (.int _ _)
   cases hx with
   |map es' b bY clock m1 m2 m4=>
    have m3:=Ts m2
    obtain rfl:es'=es:=by simpa[V.PG]using uw
    obtain⟨r,f1,f2⟩:=wX s bY.toList es' 0 m4
    have hck:∀em,(Instr.checkKey em 10000 k (.string s)).run P w=.ok () w:=fun em=>by
     rw[show(10000:Nat)=9999+1 from rfl,Instr.checkKey,Sem.run_bind,aK Tp]
     rfl
    have hfk:(Instr.findKey k (.string s) bY.toList).run P w=.ok r w:=by
     rw[Instr.findKey,Sem.run_bind,aK Tp,Result.andThen_ok,f1]
     rfl
    have Hs:(getObj b).run P w=.ok (.map bY clock) w:=by simp only[getObj,Sem.run,m3]
    simp only[execOp,ho,Instr.lookup,QJ,hxe,Sem.run_bind,aK mJ,Result.andThen_ok,Hs,Sem.run_pure,hck,hfk]
    rcases f2 with⟨j,rfl⟩|⟨rfl,f3⟩
    ·simp
    ·simp[hzv,f3]
   |_=>simp[V.PG]at uw
  ·simp at h3
 ·simp at h1
theorem Xl (hC:dN P C) (h:Inv C.bN G lam a w st) {o:Oper} {c:Call} {y:RV} (ho:o.op=.call c) (hb:c.callee=.builtin .len) (ha:act C H o st.au=some (.val y)):gj P C H G lam a w st o y:=by
 simp only[act,ho,hb]at ha
 split at ha
 ·rename_i x t hx ht
  obtain⟨i,hi,h1⟩:=ai ha
  clear ha
  obtain⟨d1,mJ,jG⟩:=(hC.T t i hi).desc
  have hxa:c.args=#[x]:=Array.ext' (by simp[hx])
  have hta:c.argTypes=#[t]:=Array.ext' (by simp[ht])
  have key:∀r,(Builtin.len_ #[t] o.type #[a.eval x]).run P w=.ok r w→(execOp a.eval o).run P w=.ok (.value r) w:=by
   intro r hr
   simp[execOp,ho,resolve,hb,hxa,hta,invoke,builtin,hr]
  split at h1
  ·rename_i uv
   rw[uv]at jG
   obtain rfl:=ku jG
   obtain⟨v,hv,h2⟩:=ai h1
   obtain⟨s,hs,h3⟩:=ai h2
   obtain rfl:=lM.val.inj (Option.some.inj h3)
   refine gj.val h _ (key (.int .i64 s.size) ?_) (.int _ _)
   simp[Builtin.len_,aK mJ,vr h hv hs,goInt]
  ·rename_i e uv
   rw[uv]at jG
   obtain rfl:=jo jG
   obtain⟨ei,yL,h2⟩:=ai h1
   split at h2
   ·obtain⟨v,hv,h3⟩:=ai h2
    obtain⟨n,uw,h4⟩:=ai h3
    obtain rfl:=lM.val.inj (Option.some.inj h4)
    have hr:=fW h hv
    cases v with
    |row k et es=>
     simp only[V.rowLen,Option.some.injEq]at uw
     subst uw
     generalize Xm:a.eval x=cv at hr
     cases hr with
     |row _ _ _ ad m cap hm=>
      refine gj.val h _ (key (.int .i64 es.length) ?_) (.int _ _)
      cases ad<;>simp[Builtin.len_,aK mJ,Xm,goInt,hm]
    |lit c=>
     simp only[V.rowLen]at uw
     split at uw
     ·rename_i heq
      exact V.noConfusion heq
     ·rename_i heq
      obtain rfl:=Option.some.inj uw
      obtain rfl:=V.lit.inj heq
      generalize Xm:a.eval x=cv at hr
      cases hr
      refine gj.val h _ (key (.int .i64 (0:Nat)) ?_) (.int _ _)
      simp[Builtin.len_,aK mJ,Xm,goInt]
     ·simp at uw
    |_=>simp[V.rowLen]at uw
   ·obtain⟨v,hv,h3⟩:=ai h2
    obtain⟨es,uw,h4⟩:=ai h3
    obtain rfl:=lM.val.inj (Option.some.inj h4)
    obtain⟨hr,_⟩:=nG uw (fW h hv)
    refine gj.val h _ (key (.int .i64 es.length) ?_) (.int _ _)
    rcases oK hr with⟨rfl,hc⟩|⟨b,off,cap,cs,hc,_⟩<;>simp[Builtin.len_,aK mJ,hc,goInt]
  ·rename_i n e uv
   rw[uv]at jG
   obtain rfl:=oL jG
   obtain rfl:=lM.val.inj (Option.some.inj h1)
   refine gj.val h _ (key (.int .i64 n) ?_) (.int _ _)
   simp[Builtin.len_,aK mJ,goInt]
  ·simp at h1
 ·simp at ha
theorem Xn (h:Inv C.bN G lam a w st) {o:Oper} {c:Call} {y:RV} (ho:o.op=.call c) (hb:c.callee=.builtin .max) (ha:act C H o st.au=some (.val y)):gj P C H G lam a w st o y:=by
 simp only[act,ho,hb]at ha
 split at ha
 ·rename_i x z hx
  obtain⟨v,hv,h1⟩:=ai ha
  obtain⟨m,hm,h2⟩:=ai h1
  obtain⟨v',QM,h3⟩:=ai h2
  obtain⟨n,hn,h4⟩:=ai h3
  obtain rfl:=lM.val.inj (Option.some.inj h4)
  have hxa:c.args=#[x,z]:=Array.ext' (by simp[hx])
  refine gj.val h (.int .i64 (if m<n then n else m)) ?_ (.int _ _)
  simp[execOp,ho,resolve,hb,hxa,invoke,builtin,Builtin.max_,Builtin.max2,mI h hv hm,mI h QM hn]
 ·simp at ha
theorem JZ (h:Inv C.bN G lam a w st) {x:Option Operand} {d n:Int} (hx:iN C st.au x d=some n):(x=none∧n=d)∨∃y,x=some y∧a.eval y=.int .i64 n:=by
 cases x with
 |none=>simp[iN]at hx;exact .inl ⟨rfl,hx.symm⟩
 |some y=>
  simp only[iN]at hx
  obtain⟨v,h1,h2⟩:=ai hx
  exact .inr ⟨y,rfl,mI h h1 h2⟩
theorem wY {k:Nat} {et:TypeId} {es:List (List V)} {b off cap:Nat} (h:Rel G w (.slice k et es) (.slice (some ⟨b,off,none⟩) es.length cap)) {l r c':Nat} (hl:l≤r) (hr:r≤es.length) (hc:r - l≤c'):
  Rel G w (.slice k et ((es.take r).drop l)) (.slice (some ⟨b,off+l*k,none⟩) (r - l) c'):=by
 cases h with
 |slice _ _ _ _ _ _ cs h1 h2 h3 h4 h5 h6 h7=>
  have hlen:((es.take r).drop l).length=r - l:=by simp;omega
  have sub:∀(i:Nat) (e:List V),((es.take r).drop l)[i]?=some e→es[l+i]?=some e:=by
   intro i e he
   rw[List.getElem?_drop,List.getElem?_take]at he
   split at he
   ·exact he
   ·simp at he
  have aae:∀(i:Nat) (e:List Value),((cs.take r).drop l)[i]?=some e→cs[l+i]?=some e:=by
   intro i e he
   rw[List.getElem?_drop,List.getElem?_take]at he
   split at he
   ·exact he
   ·simp at he
  have:=Rel.slice (G:=G) (w:=w) k et ((es.take r).drop l) b (off+l*k) c' ((cs.take r).drop l) (by simp;omega) (by rw[hlen];exact hc) (by
    rw[hlen]
    have:(r - l)*k+l*k=r*k:=by rw[←Nat.add_mul];congr 1;omega
    have h9:r*k≤es.length*k:=Nat.mul_le_mul_right _ hr
    omega)
   (fun i e he=>h4 _ e (sub i e he)) (fun i x hx=>h5 _ x (aae i x hx))
   (fun i j x c hx hc=>by
    have:=h6 (l+i) j x c (aae i x hx) hc
    rw[Nat.add_mul]at this
    rw[show off+l*k+i*k+j=off+(l*k+i*k)+j by omega]
    exact this)
   (fun i j e x v c he hx hv hc=>h7 (l+i) j e x v c (sub i e he) (aae i x hx) hv hc)
  rw[hlen]at this
  exact this
theorem gY {x:Value} {y:Nat} {code:BoundsCode} {n:Int} (hx:x=.int .i64 n) (h0:0≤n) (h1:n≤y):(Instr.sliceBound x y code).run P w=.ok n.toNat w:=by
 subst hx
 simp[Instr.sliceBound,asIntOf,h0,h1]
theorem lN {isS:Bool} {len cap:Nat} {lo hi:Option Value} {l r:Int} (hl:(lo=none∧l=0)∨lo=some (.int .i64 l)) (hr:(hi=none∧r=len)∨hi=some (.int .i64 r))
  (h0:0≤l) (h1:l≤r) (h2:r≤cap):(Instr.sliceBounds isS len cap lo hi none).run P w=.ok (l.toNat,r.toNat,cap) w:=by
 have e1:∀code,(Instr.sliceBound (.int .i64 r) cap code).run P w=.ok r.toNat w:=fun code=>gY rfl (by omega) h2
 have e2:∀code,(Instr.sliceBound (.int .i64 l) r.toNat code).run P w=.ok l.toNat w:=fun code=>gY rfl h0 (by omega)
 rcases hl with⟨rfl,rfl⟩|rfl<;>rcases hr with⟨rfl,rfl⟩|rfl
 ·simp[Instr.sliceBounds]
 ·simp[Instr.sliceBounds,e1]
 ·simp only[Int.toNat_natCast]at e2
  simp[Instr.sliceBounds,e2]
 ·simp[Instr.sliceBounds,e1,e2]
theorem yQ {isS:Bool} {len cap:Nat} {lo:Option Value} {l r:Int} (hl:(lo=none∧l=0)∨lo=some (.int .i64 l))
  (h0:0≤l) (h1:l≤r) (h2:r≤cap):(Instr.sliceBounds isS len cap lo (some (.int .i64 r)) (some (.int .i64 r))).run P w=.ok (l.toNat,r.toNat,r.toNat) w:=by
 have e1:∀code,(Instr.sliceBound (.int .i64 r) cap code).run P w=.ok r.toNat w:=fun code=>gY rfl (by omega) h2
 have e3:∀code,(Instr.sliceBound (.int .i64 r) r.toNat code).run P w=.ok r.toNat w:=fun code=>gY rfl (by omega) (by omega)
 have e2:∀code,(Instr.sliceBound (.int .i64 l) r.toNat code).run P w=.ok l.toNat w:=fun code=>gY rfl h0 (by omega)
 rcases hl with⟨rfl,rfl⟩|rfl
 ·simp[Instr.sliceBounds,e1,e3]
 ·simp[Instr.sliceBounds,e1,e2,e3]
theorem pH (h:Inv C.bN G lam a w st) {x:Option Operand} {d n:Int} (hx:iN C st.au x d=some n):(x.map a.eval=none∧n=d)∨x.map a.eval=some (.int .i64 n):=by
 rcases JZ h hx with⟨rfl,rfl⟩|⟨y,rfl,hy⟩
 ·exact .inl ⟨rfl,rfl⟩
 ·exact .inr (by simp[hy])
theorem QN (hC:dN P C) (h:Inv C.bN G lam a w st) {o:Oper} {t:TypeId} {x:Operand} {lo hi mx:Option Operand} {y:RV} (ho:o.op=.slice t x lo hi mx) (ha:act C H o st.au=some (.val y)):gj P C H G lam a w st o y:=by
 simp only[act,ho]at ha
 obtain⟨i,Ht,h1⟩:=ai ha
 clear ha
 obtain⟨d1,mJ,jG⟩:=(hC.T t i Ht).desc
 split at h1
 ·rename_i uv
  rw[uv]at jG
  obtain rfl:=ku jG
  split at h1
  ·simp at h1
  ·rename_i hmx
   have hmx:mx=none:=by simpa using hmx
   subst hmx
   obtain⟨v,hv,h2⟩:=ai h1
   obtain⟨s,hs,h3⟩:=ai h2
   obtain⟨l,hl,h4⟩:=ai h3
   obtain⟨r,hr,h5⟩:=ai h4
   obtain⟨u,hu,h6⟩:=ai h5
   clear h1 h2 h3 h4 h5
   have hu:=cL hu
   simp only[Bool.and_eq_true,decide_eq_true_eq]at hu
   obtain rfl:=lM.val.inj (Option.some.inj h6)
   refine gj.val h (.string (s.extract l.toNat r.toNat)) ?_ (.str _)
   have n8:=vr h hv hs
   have hb:=lN (P:=P) (w:=w) (isS:=false) (len:=s.size) (cap:=s.size) (pH h hl) (pH h hr) hu.1.1 hu.1.2 hu.2
   simp only[execOp,ho,Instr.sliceAt,Instr.slice,Sem.run_bind,aK mJ,Result.andThen_ok,n8,Option.map_none,hb]
   simp[hb]
 ·rename_i e uv
  rw[uv]at jG
  obtain rfl:=jo jG
  obtain⟨ei,yL,h2⟩:=ai h1
  obtain⟨v,hv,h3⟩:=ai h2
  obtain⟨es,uw,h4⟩:=ai h3
  obtain⟨l,hl,h5⟩:=ai h4
  obtain⟨r,hr,h6⟩:=ai h5
  obtain⟨u,hu,h7⟩:=ai h6
  clear h1 h2 h3 h4 h5 h6
  have hu:=cL hu
  simp only[Bool.and_eq_true,decide_eq_true_eq]at hu
  obtain⟨hrel,_⟩:=nG uw (fW h hv)
  -- the real value's parts
  have key:∀(m:Nat→Nat),(∀cap,(Instr.sliceBounds true es.length cap (lo.map a.eval) (hi.map a.eval) (mx.map a.eval)).run P w=.ok (l.toNat,r.toNat,m cap) w∨¬es.length≤cap)→(∀cap,es.length≤cap→r.toNat≤m cap)→(m 0=0∨es≠[])→
    ∃c,(execOp a.eval o).run P w=.ok (.value c) w∧Rel G w (.slice ei.size e ((es.take r.toNat).drop l.toNat)) c∧∀ao n cap,c=.slice ao n cap→∃aaf,es.length≤aaf∧n=r.toNat - l.toNat∧cap=m aaf - l.toNat:=by
   intro m hm hm2 hm3
   have iM:=cZ (w:=w) (hC.T _ _ yL)
   rcases oK hrel with⟨rfl,hc⟩|⟨b,off,cap,cs,hc,g1,g2,g3,g4,g5,g6,g7⟩
   ·have hb:=(hm 0).resolve_right (by simp)
    have hl0:l.toNat=0:=by simp at hu;omega
    have hr0:r.toNat=0:=by simp at hu;omega
    have Tt:m 0=0:=hm3.resolve_right (by simp)
    refine⟨.slice none 0 0,?_,by rw[hl0,hr0];exact .rh _ _,fun ao n cp hh=>⟨0,by simp,?_,?_⟩⟩
    ·rw[hl0,hr0,Tt]at hb
     simp only[List.length_nil]at hb
     simp[execOp,ho,Instr.sliceAt,Instr.slice,aK mJ,hc,hb,iM]
    ·simp at hh;omega
    ·simp at hh;omega
   ·have hb:=(hm cap).resolve_right (by omega)
    have Tu:=hm2 cap g2
    have Zl:=hrel
    rw[hc]at Zl
    have aag:=wY Zl (l:=l.toNat) (r:=r.toNat) (c':=m cap - l.toNat) (by omega) (by omega) (by omega)
    by_cases hml:m cap=l.toNat
    ·refine⟨.slice (some ⟨b,off,none⟩) (r.toNat - l.toNat) (m cap - l.toNat),?_,?_,fun ao n cp hh=>⟨cap,g2,?_,?_⟩⟩
     ·simp[execOp,ho,Instr.sliceAt,Instr.slice,aK mJ,hc,hb,iM,hml]
     ·have h0:r.toNat - l.toNat=0:=by omega
      have he:(es.take r.toNat).drop l.toNat=[]:=by apply List.drop_eq_nil_of_le;simp;omega
      rw[he,h0]
      have:=Rel.slice (G:=G) (w:=w) ei.size e [] b off (m cap - l.toNat) [] rfl (by simp) (by simp;omega) (by simp) (by simp) (by simp) (by simp)
      simpa using this
     ·simp at hh;omega
     ·simp at hh;omega
    ·refine⟨.slice (some ⟨b,off+l.toNat*ei.size,none⟩) (r.toNat - l.toNat) (m cap - l.toNat),?_,aag,fun ao n cp hh=>⟨cap,g2,?_,?_⟩⟩
     ·simp[execOp,ho,Instr.sliceAt,Instr.slice,aK mJ,hc,hb,iM,hml,add_plain]
     ·simp at hh;omega
     ·simp at hh;omega
  split at h7
  ·obtain rfl:=lM.val.inj (Option.some.inj h7)
   obtain⟨c,k1,k2,_⟩:=key (fun cap=>cap) (fun cap=>by
    by_cases mK:es.length≤cap
    ·exact .inl (lN (pH h hl) (pH h hr) hu.1.1 hu.1.2 (by omega))
    ·exact .inr mK) (fun cap mK=>by omega) (.inl rfl)
   exact gj.val h c k1 k2
  ·rename_i q
   split at h7
   case isFalse=>simp at h7
   rename_i hhi
   obtain⟨m,hm,h8⟩:=ai h7
   obtain⟨u2,hu2,h9⟩:=ai h8
   have hrm:=of_decide_eq_true (cL hu2)
   subst hrm
   obtain rfl:=lM.val.inj (Option.some.inj h9)
   obtain⟨p,rfl⟩:=Option.isSome_iff_exists.1 hhi
   have e1:(some p).map a.eval=some (.int .i64 r):=by
    rcases pH h hr with⟨h1,_⟩|h1
    ·simp at h1
    ·exact h1
   have e2:(some q).map a.eval=some (.int .i64 r):=by
    rcases pH h hm with⟨h1,_⟩|h1
    ·simp at h1
    ·exact h1
   obtain⟨c,k1,k2,k3⟩:=key (fun _=>r.toNat) (fun cap=>by
    by_cases mK:es.length≤cap
    ·left
     rw[e1,e2]
     exact yQ (pH h hl) hu.1.1 hu.1.2 (by omega)
    ·exact .inr mK) (fun cap mK=>Nat.le_refl _) (by
    by_cases h0:es=[]
    ·left;subst h0;simp at hu;omega
    ·exact .inr h0)
   refine gj.pure h c k1 fun _=>⟨.full _ _ _ _ k2 fun a n cap hc=>?_,fun _=>trivial⟩
   obtain⟨aaf,_,g1,g2⟩:=k3 a n cap hc
   omega
 ·rename_i n e uv
  rw[uv]at jG
  obtain rfl:=oL jG
  obtain⟨ei,yL,h2⟩:=ai h1
  split at h2
  ·simp at h2
  ·rename_i eJ
   have hmx:mx=none:=by
    cases mx with
    |none=>rfl
    |some _=>exact absurd (.inl rfl) eJ
   subst hmx
   have uw:ei.size=1:=by
    by_cases h0:ei.size=1
    ·exact h0
    ·exact absurd (.inr h0) eJ
   obtain⟨v,hv,h3⟩:=ai h2
   obtain⟨vs,Cg,h4⟩:=ai h3
   obtain⟨l,hl,h5⟩:=ai h4
   obtain⟨r,hr,h6⟩:=ai h5
   obtain⟨u,hu,h7⟩:=ai h6
   clear h1 h2 h3 h4 h5 h6
   have hu:=cL hu
   simp only[Bool.and_eq_true,decide_eq_true_eq]at hu
   obtain rfl:=lM.val.inj (Option.some.inj h7)
   have iM:=cZ (w:=w) (hC.T _ _ yL)
   have hvr:=fW h hv
   unfold V.Tv at Cg
   split at Cg
   case h_2=>simp at Cg
   split at Cg
   case isFalse=>simp at Cg
   rename_i k0 e0 o0 hko
   obtain⟨rfl,rfl⟩:=hko
   obtain rfl:=Option.some.inj Cg
   generalize hxe:a.eval x=xv at hvr
   cases hvr with
   |eL _ _ _ b off cs g1 g2 g3 g4 g5=>
   have Ch:Rel G w (.slice 1 e (e0.map fun v=>[v])) (.slice (some ⟨b,off,none⟩) (e0.map fun v=>[v]).length k0):=by
    refine Rel.slice 1 e _ b off k0 (cs.map fun c=>[c]) (by simp[g1,g2]) (by simp[g1]) (by simp[g1];omega) (fun i y hy=>?_) (fun i y hy=>?_) (fun i j y c hy hc=>?_) (fun i j y z v c hy hz hv hc=>?_)
    ·simp only[List.getElem?_map,Option.map_eq_some_iff]at hy
     obtain⟨_,_,rfl⟩:=hy;rfl
    ·simp only[List.getElem?_map,Option.map_eq_some_iff]at hy
     obtain⟨_,_,rfl⟩:=hy;rfl
    ·simp only[List.getElem?_map,Option.map_eq_some_iff]at hy
     obtain⟨c',tb,rfl⟩:=hy
     match j with
     |0=>simp at hc;subst hc;simpa using g4 i _ tb
     |j+1=>simp at hc
    ·simp only[List.getElem?_map,Option.map_eq_some_iff]at hy hz
     obtain⟨v',QM,rfl⟩:=hy
     obtain⟨c',tb,rfl⟩:=hz
     match j with
     |0=>simp at hc hv;subst hc;subst hv;exact g5 i _ _ QM tb
     |j+1=>simp at hc
   have aag:=wY Ch (l:=l.toNat) (r:=r.toNat) (c':=k0 - l.toNat) (by omega) (by simp[g1];omega) (by omega)
   have hb:=lN (P:=P) (w:=w) (isS:=false) (len:=k0) (cap:=k0) (pH h hl) (pH h hr) hu.1.1.1 hu.1.1.2 hu.1.2
   have eJ:¬k0=l.toNat:=by omega
   refine gj.val h (.slice (some ⟨b,off+l.toNat*1,none⟩) (r.toNat - l.toNat) (k0 - l.toNat)) ?_ aag
   rw[uw]at iM
   simp[execOp,ho,Instr.sliceAt,Instr.sureAddr,aK mJ,hxe,hb,iM,eJ,add_plain]
 ·simp at h1
end
end Go.Ab
end
section
namespace Go.Ab
section
variable {P:Program} {C:Ctx} {H:Hints} {G:Gh} {lam:Nat→Nat} {a:Act} {w:World} {st:St}
theorem mapM_some' {α β:Type} {f:α→Option β}:∀(l:List α),(∀x,x∈l→(f x).isSome=true)→∃r,l.mapM f=some r∧r.length=l.length∧∀(i:Nat) x,l[i]?=some x→r[i]?=f x
 |[],_=>⟨[],rfl,rfl,by simp⟩
 |x::l,h=>by
  obtain⟨r,h1,h2,h3⟩:=mapM_some' l fun y hy=>h y (by simp[hy])
  obtain⟨y,hy⟩:=Option.isSome_iff_exists.1 (h x (by simp))
  refine⟨y::r,by simp[List.mapM_cons,hy,h1],by simp[h2],fun i z hz=>?_⟩
  cases i with
  |zero=>simp at hz;subst hz;simp[hy]
  |succ i=>simp at hz;simpa using h3 i z hz
theorem QO (hC:dN P C) (h:Inv C.bN G lam a w st) {o:Oper} {t:TypeId} {parts:Array (Nat×Operand)} {y:RV} (ho:o.op=.build t parts) (ha:act C H o st.au=some (.val y)):gj P C H G lam a w st o y:=by
 simp only[act,ho]at ha
 obtain⟨i,hi,h1⟩:=ai ha
 clear ha
 have hT:=hC.T t i hi
 obtain⟨d1,mJ,jG⟩:=hT.desc
 have fin:∀(cs:List V) (xs:Array Value) (ow:Bool),P.built t (parts.toList.map fun x=>(x.1,a.eval x.2))=some xs→fX G w cs xs.toList→(ow=true→rC cs xs.toList)→gj P C H G lam a w st o (.val (.agg cs) ow):=by
  intro cs xs ow hb hc ht
  refine gj.pure h (.agg xs) ?_ fun d=>⟨?_,fun ho=>by intro i k et x hx hy;exact ht ho i k et x hx (by simpa using hy)⟩
  ·rw[←FW]at hb
   simp[execOp,ho,run_build w t _ xs hb]
  ·have:=Rel.agg (G:=G) (w:=w) cs xs.toList hc.1 (fun i x hx=>by
    have aG:i<cs.length:=by rw[←hc.1];exact(List.getElem?_eq_some_iff.1 hx).1
    exact(hc.2 i _ x (List.getElem?_eq_getElem aG) hx).2) (fun i v x hv hx=>(hc.2 i v x hv hx).1)
   simpa using this
 split at h1
 ·rename_i fs JW
  rw[JW]at jG
  obtain⟨fields,rfl,hm⟩:=vt jG
  obtain⟨info,z,e1,e2,e3,e4,e5⟩:=wZ hT (by simp[JW]) G w
  split at h1
  ·rename_i gZ
   obtain⟨cs,hcs,h2⟩:=ai h1
   obtain rfl:=lM.val.inj (Option.some.inj h2)
   have PH:∀x,x∈fields.toList→((P.info? x.type).map fun i=>(x.offset,i.size)).isSome=true:=by
    intro x hx
    rw[List.all_eq_true]at gZ
    have:=gZ (x.offset,x.type) (by rw[←hm];exact List.mem_map.2 ⟨x,hx,rfl⟩)
    obtain⟨ti,hti⟩:=Option.isSome_iff_exists.1 this
    obtain⟨inf,Tw,_⟩:=(hC.T _ _ hti).info
    simp[Tw]
   obtain⟨places,p1,p2,p3⟩:=mapM_some' fields.toList PH
   obtain⟨QQ,f1,f2,_,f4⟩:=BM h _ (places.toArray[·]?) (fun j p hp=>by
    obtain⟨q,hq,hp⟩:=ai hp
    simp only[Option.map_eq_some_iff]at hp
    obtain⟨fi,WW,rfl⟩:=hp
    rw[←hm,List.getElem?_map,Option.map_eq_some_iff]at hq
    obtain⟨fd,Mq,rfl⟩:=hq
    obtain⟨inf,Tw,iM,_⟩:=(hC.T _ _ WW).info
    have:=p3 j fd Mq
    simp only[Tw,Option.map_some,iM]at this
    simpa using this) parts.toList i.zero cs z.cells hcs e3
   exact fin cs QQ _ (by simp only[Program.built,e1,mJ,e2,p1];exact f1) f2 fun ho=>f4 (by simp only[Bool.and_eq_true]at ho;exact ho.2) e5
  ·simp at h1
 ·rename_i len e uv
  rw[uv]at jG
  obtain rfl:=oL jG
  obtain⟨info,z,e1,e2,e3,e4,e5⟩:=wZ hT (by simp[uv]) G w
  obtain⟨ei,yL,h2⟩:=ai h1
  obtain⟨cs,hcs,h3⟩:=ai h2
  obtain rfl:=lM.val.inj (Option.some.inj h3)
  obtain⟨inf,Tw,iM,_⟩:=(hC.T _ _ yL).info
  obtain⟨QQ,f1,f2,_,f4⟩:=BM h _ (fun j=>some (j*inf.size,inf.size)) (fun j p hp=>by
   simp only[Option.some.injEq]at hp
   subst hp
   simp[iM]) parts.toList i.zero cs z.cells hcs e3
  exact fin cs QQ false (by simp only[Program.built,e1,mJ,e2,Tw];exact f1) f2 (by simp)
 ·simp at h1
theorem Tx {k:Nat} {e:List V} {o n:Nat} {ag:Bool} {v:V} (h:bu [] (.eL k e o) ag n=some v):o+n≤k∧((ag=true∧v=.agg ((List.range n).map fun i=>e.getD (o+i) .any))∨(ag=false∧n=1∧v=e.getD o .any)):=by
 simp only[bu]at h
 split at h
 ·rename_i h1
  refine⟨h1,?_⟩
  split at h
  ·rename_i h2
   exact .inl ⟨h2,(Option.some.inj h).symm⟩
  ·rename_i h2
   split at h
   ·exact .inr ⟨by simpa using h2,‹_›,(Option.some.inj h).symm⟩
   ·simp at h
 ·simp at h
theorem Ci {t:TypeId} {i:TI} (hT:Mw P t i) (b o:Nat) (f:Nat→V) (xs:List Value) (hl:xs.length=i.size)
  (h:∀(j:Nat) x,xs[j]?=some x→w.cell? ⟨b,o+j,none⟩=some x∧x.oneCell'=true∧Rel G w (f j) x) (hs:i.agg=false→i.size=1):
  ∃c,(loadVar t ⟨b,o,none⟩).run P w=.ok c w∧Rel G w (if i.agg then .agg ((List.range i.size).map f)else f 0) c:=by
 refine⟨_,mL hT b o xs hl (fun j c hc=>(h j c hc).1) hs,?_⟩
 cases Mx:i.agg with
 |true=>
  simp only[if_true]
  refine .agg _ _ (by simp[hl]) (fun j x hx=>(h j x hx).2.1) (fun j v x hv hx=>?_)
  obtain⟨_,rfl⟩:=FV hv
  exact(h j x hx).2.2
 |false=>
  simp only[Bool.false_eq_true,if_false]
  have:=hs Mx
  match xs,hl with
  |[x],_=>exact(h 0 x rfl).2.2
  |[],hl=>simp at hl;omega
  |_::_::_,hl=>simp at hl;omega
theorem uE {t:TypeId} {i:TI} (hT:Mw P t i) {k:Nat} {e:List V} {o:Nat} {c:Value} (hr:Rel G w (.eL k e o) c) {v:V} {σ:az} (hv:bu σ (.eL k e o) i.agg i.size=some v):
    ∃x,(Instr.loadAt t c).run P w=.ok x w∧Rel G w v x:=by
  have QM:bu [] (.eL k e o) i.agg i.size=some v:=hv
  obtain⟨h1,h2⟩:=Tx QM
  cases hr with
  |eL _ _ _ b off cs g1 g2 g3 g4 g5=>
   have gE:∀j,j<i.size→∃x,cs[o+j]?=some x:=fun j hj=>⟨_,List.getElem?_eq_getElem (by omega)⟩
   obtain⟨x,e1,e2⟩:=Ci (P:=P) (G:=G) (w:=w) hT b (off+o) (fun j=>e.getD (o+j) .any) ((cs.drop o).take i.size) (by simp;omega) (fun j x hx=>by
     rw[List.getElem?_take]at hx
     split at hx
     · rw[List.getElem?_drop]at hx
       obtain⟨q1,q2⟩:=g4 _ x hx
       refine⟨by rw[Nat.add_assoc];exact q1,q2,?_⟩
       have aG:o+j<e.length:=by omega
       rw[List.getD_eq_getElem?_getD,List.getElem?_eq_getElem aG]
       exact g5 _ _ x (List.getElem?_eq_getElem aG) hx
     · simp at hx) (fun hh=>by rcases h2 with⟨h2,_⟩|⟨_,h2,_⟩;· simp[hh]at h2
                               · exact h2)
   refine⟨x,by simp[Instr.loadAt,Instr.sureAddr,e1],?_⟩
   rcases h2 with⟨q1,rfl⟩|⟨q1,q2,rfl⟩
   · rw[if_pos q1]at e2;exact e2
   · rw[if_neg (by simp[q1])]at e2;exact e2
theorem Ty (hC:dN P C) (h:Inv C.bN G lam a w st) {o:Oper} {t:TypeId} {x:Operand} {y:RV} (ho:o.op=.load t x) (ha:act C H o st.au=some (.val y)):gj P C H G lam a w st o y:=by
 simp only[act,ho]at ha
 obtain⟨i,hi,h1⟩:=ai ha
 clear ha
 split at h1
 ·simp at h1
 ·rename_i k e of ow _ hx
  obtain⟨v,hv,h2⟩:=ai h1
  obtain rfl:=lM.val.inj (Option.some.inj h2)
  obtain⟨c,e1,e2⟩:=uE (P:=P) (hC.T t i hi) (gX h hx).1 hv
  exact gj.val h c (by simp[execOp,ho,e1]) e2
 ·split at h1
  ·split at h1<;>simp at h1
  ·simp at h1
 ·simp at h1
theorem lO (n:Nat) (z:List V):(iT n z).length=n*z.length:=by
 induction n with
 |zero=>simp[iT]
 |succ n ih=>simp[iT,ih,Nat.succ_mul,Nat.add_comm]
theorem Hu (n:Nat) (z:List V) (i:Nat) (h:i<n*z.length):(iT n z)[i]?=z[i%z.length]?:=by
 induction n generalizing i with
 |zero=>simp at h
 |succ n ih=>
  simp only[iT]
  by_cases hi:i<z.length
  ·rw[List.getElem?_append_left hi,Nat.mod_eq_of_lt hi]
  ·rw[List.getElem?_append_right (by omega)]
   rw[Nat.succ_mul]at h
   rw[ih _ (by omega),Nat.mod_eq_sub_mod (a:=i) (by omega)]
theorem Ff (k n:Nat) (l:List V):(chunks k n l).length=n:=by
 induction n generalizing l with
 |zero=>rfl
 |succ n ih=>simp[chunks,ih]
theorem Cj (k n:Nat) (l:List V) (i:Nat) (e:List V) (h:(chunks k n l)[i]?=some e):e=(l.drop (i*k)).take k:=by
 induction n generalizing l i with
 |zero=>simp[chunks]at h
 |succ n ih=>
  cases i with
  |zero=>simp[chunks]at h;simp[h]
  |succ i=>
   simp only[chunks,List.getElem?_cons_succ]at h
   rw[ih _ _ h,List.drop_drop,Nat.succ_mul,Nat.add_comm]
theorem Mz {k n:Nat} {cs:List V} {xs:Array Value} (h:fX G w cs xs.toList) (wf:WF G w) (el:TypeId) (hl:cs.length=n*k) (po:Option Place) (et:TypeId):
  Rel (G.new w (n*k) po) (w.alloc (.cells xs el)) (.slice k et (chunks k n cs)) (.slice (some ⟨w.heap.size,0,none⟩) n n):=by
 have hx:=Ext.alloc wf (.cells xs el) (n*k) po
 have hlen:=h.1
 simp only[Array.length_toList]at hlen
 have gE:=Ff k n cs
 have key:∀i,i<n→i*k+k≤n*k:=by
  intro i hi
  have:(i+1)*k≤n*k:=Nat.mul_le_mul_right _ (by omega)
  rw[Nat.succ_mul]at this
  exact this
 have:=Rel.slice (G:=G.new w (n*k) po) (w:=w.alloc (.cells xs el)) k et (chunks k n cs) w.heap.size 0 n ((List.range n).map fun i=>(xs.toList.drop (i*k)).take k)
  (by simp[gE]) (by rw[gE];exact Nat.le_refl _) (by rw[gE];show _≤lX G.ah w.heap.size (n*k) w.heap.size;simp) (fun i e he=>by
   have hi:i<n:=by rw[←gE];exact(List.getElem?_eq_some_iff.1 he).1
   rw[Cj k n cs i e he]
   have:=key i hi
   simp;omega) (fun i x hx=>by
   obtain⟨hi,hx⟩:=List.getElem?_eq_some_iff.1 hx
   simp at hi hx
   subst hx
   have:=key i hi
   simp;omega) (fun i j x c hx hc=>by
   obtain⟨hi,hx⟩:=List.getElem?_eq_some_iff.1 hx
   simp at hi hx
   subst hx
   rw[List.getElem?_take]at hc
   split at hc
   ·rw[List.getElem?_drop]at hc
    simp only[Array.getElem?_toList]at hc
    refine⟨by rw[World.cell?_alloc_new,Nat.zero_add];exact hc,?_⟩
    have aG:i*k+j<cs.length:=by have:=key i hi;omega
    exact(h.2 _ _ c (List.getElem?_eq_getElem aG) (by simpa using hc)).2
   ·simp at hc) (fun i j e x v c he w7 hv hc=>by
   obtain⟨hi,w7⟩:=List.getElem?_eq_some_iff.1 w7
   simp at hi w7
   subst w7
   rw[Cj k n cs i e he]at hv
   rw[List.getElem?_take]at hc hv
   split at hc
   ·rw[if_pos ‹_›,List.getElem?_drop]at hv
    rw[List.getElem?_drop]at hc
    exact((h.2 _ v c hv (by simpa using hc)).1).mono hx
   ·simp at hc)
 rw[gE]at this
 exact this
theorem Ck (hC:dN P C) (h:Inv C.bN G lam a w st) {o:Oper} {t:TypeId} {n:Nat} {parts:Array (Nat×Operand)} {y:RV} (ho:o.op=.buildSlice t n parts) (ha:act C H o st.au=some (.val y)):gj P C H G lam a w st o y:=by
 simp only[act,ho]at ha
 obtain⟨i,hi,h1⟩:=ai ha
 clear ha
 have hT:=hC.T t i hi
 obtain⟨d1,mJ,jG⟩:=hT.desc
 split at h1
 ·rename_i e uv
  rw[uv]at jG
  obtain rfl:=jo jG
  obtain⟨ei,yL,h2⟩:=ai h1
  split at h2
  ·rename_i hle
   obtain⟨cs,hcs,h3⟩:=ai h2
   obtain rfl:=lM.val.inj (Option.some.inj h3)
   have hTe:=hC.T e ei yL
   by_cases rD:∃m,ei.kind=.tuple m
   ·obtain⟨m,hm⟩:=rD
    have:=hle.2
    simp[TI.kZ,hm]at this
   ·have hle:=hle.1
    obtain⟨info,z,e1,e2,e3,e4,_⟩:=wZ hTe (fun m hm=>rD ⟨m,hm⟩) G w
    have hzl:z.cells.size=ei.size:=by have:=e3.1;simp only[Array.length_toList]at this;omega
    have hz:fX G w (iT n ei.zero) (((Array.range (n*ei.size)).map (fun j=>(if n*ei.size=0 then#[]else z.cells)[j%(if n*ei.size=0 then#[]else z.cells).size]!)).toList):=by
     refine⟨by simp[lO,e4],fun j v x hv hx=>?_⟩
     obtain⟨hj,hx⟩:=List.getElem?_eq_some_iff.1 hx
     simp at hj
     have eJ:¬n*ei.size=0:=by omega
     simp[eJ]at hx
     rw[Hu _ _ _ (by rw[e4];exact hj)]at hv
     rw[e4]at hv
     have Tz:0<ei.size:=Nat.pos_of_ne_zero (fun h0=>eJ (by rw[h0];simp))
     have ada:j%ei.size<z.cells.size:=by rw[hzl];exact Nat.mod_lt _ Tz
     refine e3.2 (j%ei.size) v x hv ?_
     rw[←hx,hzl]
     simp[ada]
    obtain⟨QQ,f1,f2,f3,_⟩:=BM h (fun j=>some (j*ei.size,ei.size,e)) (fun j=>some (j*ei.size,ei.size)) (fun j p hp=>by
     simp only[Option.some.injEq]at hp;subst hp;rfl) parts.toList (iT n ei.zero) cs _ hcs hz
    have MA:=Mz (k:=ei.size) (n:=n) f2 h.bP.wf e (by rw[f3,lO,e4]) (some (.ry (o.dst.getD 0))) e
    have Xo:n*ei.size≤QQ.size:=by have:=f2.1;simp only[Array.length_toList]at this;rw[this,f3,lO,e4];exact Nat.le_refl _
    refine⟨.slice (some ⟨w.heap.size,0,none⟩) n n,w.alloc (.cells QQ e),G.new w (n*ei.size) (some (.ry (o.dst.getD 0))),?_,Ext.alloc h.bP.wf _ _ _,(h.alloc _ _ _).clear _,fun d hd=>⟨MA,fun _=>⟨rfl,rfl,by show lX G.owner w.heap.size _ w.heap.size=_;rw[hd];simp,by show lX G.ah w.heap.size _ w.heap.size=_;simp,QQ,(0,0),heap_alloc_new _ _,Xo,Nat.zero_le _⟩⟩⟩
    have hzv:(zeroValue e).run P w=.ok z w:=by simp[zeroValue,fA e1,e2]
    have adb:¬n*ei.size>2^24:=by omega
    simp only[execOp,ho,Instr.buildSlice,Sem.run_bind,aK mJ,Result.andThen_ok,cZ hTe,if_neg adb,FW]
    by_cases eJ:n*ei.size=0
    ·have h0:∀f:Nat→Value,(Array.range (n*ei.size)).map f=#[]:=by intro f;rw[eJ];simp
     rw[h0]at f1
     simp only[h0]
     simp[eJ,f1,newRow]
    ·simp only[eJ,if_false]at f1 ⊢
     simp only[Sem.run_bind,hzv,Result.andThen_ok,Sem.run_pure,f1]
     simp[newRow]
  ·simp at h2
 ·simp at h1
end
end Go.Ab
end
section
namespace Go.Ab
section
variable {P:Program} {C:Ctx} {H:Hints} {G:Gh} {lam:Nat→Nat} {a:Act} {w:World} {st:St}
theorem jJ {k:Nat}:∀{es:List (List Value)},(∀(i:Nat) (e:List Value),es[i]?=some e→e.length=k)→es.flatten.length=es.length*k
 |[],_=>by simp
 |e::es,h=>by
  have h0:=h 0 e rfl
  have:=jJ (k:=k) (es:=es) (fun i e he=>h (i+1) e (by simpa using he))
  simp[h0,this,Nat.succ_mul,Nat.add_comm]
theorem oM {k:Nat}:∀{es:List (List Value)},(∀(i:Nat) (e:List Value),es[i]?=some e→e.length=k)→∀(i j:Nat) x c,es[i]?=some x→x[j]?=some c→es.flatten[i*k+j]?=some c
 |[],_,_,_,_,_,h,_=>by simp at h
 |e::es,hk,i,j,x,c,h,hc=>by
  have h0:=hk 0 e rfl
  cases i with
  |zero=>
   simp at h
   subst h
   have hj:j<e.length:=(List.getElem?_eq_some_iff.1 hc).1
   simp only[List.flatten_cons,Nat.zero_mul,Nat.zero_add]
   rw[List.getElem?_append_left hj];exact hc
  |succ i=>
   simp at h
   have:=oM (k:=k) (es:=es) (fun i e he=>hk (i+1) e (by simpa using he)) i j x c h hc
   simp only[List.flatten_cons]
   rw[List.getElem?_append_right (by rw[h0,Nat.succ_mul];omega),h0]
   rw[show(i+1)*k+j - k=i*k+j by rw[Nat.succ_mul];omega]
   exact this
theorem oN {k:Nat}:∀{es:List (List Value)},(∀(i:Nat) (e:List Value),es[i]?=some e→e.length=k)→∀(p:Nat) c,es.flatten[p]?=some c→∃i j x,p=i*k+j∧es[i]?=some x∧x[j]?=some c
 |[],_,_,_,h=>by simp at h
 |e::es,hk,p,c,h=>by
  have h0:=hk 0 e rfl
  simp only[List.flatten_cons]at h
  by_cases hp:p<e.length
  ·rw[List.getElem?_append_left hp]at h
   exact⟨0,p,e,by omega,rfl,h⟩
  ·rw[List.getElem?_append_right (by omega)]at h
   obtain⟨i,j,x,h1,h2,h3⟩:=oN (k:=k) (es:=es) (fun i e he=>hk (i+1) e (by simpa using he)) _ c h
   exact⟨i+1,j,x,by rw[Nat.succ_mul];omega,by simpa using h2,h3⟩
theorem AF {k:Nat} {et:TypeId} {es:List (List V)} {c:Value} (h:Rel G w (.slice k et es) c):∃ao n cap,∃cs:List (List Value),c=.slice ao n cap∧n=es.length∧cs.length=es.length∧
  (∀(i:Nat) (e:List V),es[i]?=some e→e.length=k)∧(∀(i:Nat) (x:List Value),cs[i]?=some x→x.length=k)∧
  (∀(i j:Nat) (x:List Value) (c:Value),cs[i]?=some x→x[j]?=some c→c.oneCell'=true)∧
  (∀(i j:Nat) (e:List V) (x:List Value) (v:V) (c:Value),es[i]?=some e→cs[i]?=some x→e[j]?=some v→x[j]?=some c→Rel G w v c)∧
  (∀w':World,w'.heap=w.heap→(Builtin.firstCells k n c).run P w'=.ok cs.flatten.toArray w'):=by
 rcases oK h with⟨rfl,rfl⟩|⟨b,off,cap,cs,hc,g1,g2,g3,g4,g5,g6,g7⟩
 ·exact⟨none,0,0,[],rfl,rfl,rfl,by simp,by simp,by simp,by simp,fun w' _=>by simp[Builtin.firstCells]⟩
 ·refine⟨_,_,cap,cs,hc,rfl,g1,g4,g5,fun i j x c hx hc=>(g6 i j x c hx hc).2,g7,fun w' hw'=>?_⟩
  subst hc
  simp only[Builtin.firstCells]
  have:=run_loadCells_list (P:=P) w' ⟨b,off,none⟩ cs.flatten (fun p v hp=>by
   obtain⟨i,j,x,rfl,h2,h3⟩:=oN g5 p v hp
   rw[add_plain,←Nat.add_assoc]
   have:=(g6 i j x v h2 h3).1
   simp only[World.cell?]at this ⊢
   rw[hw'];exact this)
  rw[jJ g5,g1]at this
  exact this
theorem MB (Hv cap:Nat) (h:cap<Hv):Builtin.nextslicecap Hv cap≤Hv+Hv / 4+1024:=by
 unfold Builtin.nextslicecap
 split
 ·omega
 ·split
  ·omega
  ·have key:∀(r c:Nat),c≤Hv+Hv / 4+1024→Builtin.growBy Hv r c≤Hv+Hv / 4+1024:=by
    intro r
    induction r with
    |zero=>intro c hc;exact hc
    |succ r ih=>
     intro c hc
     simp only[Builtin.growBy]
     split
     ·exact hc
     ·exact ih _ (by omega)
   exact key _ _ (by omega)
theorem Cl (z:Array Value) (n:Nat):(Builtin.zeroCells z n).size=n*z.size:=by simp[Builtin.zeroCells]
theorem Cm {k:Nat} {et:TypeId} {es xs:List (List V)} {cs ds:List (List Value)} {b cap:Nat} {off:Nat} (a1:cs.length=es.length) (b1:ds.length=xs.length)
  (a2:∀(i:Nat) (e:List V),es[i]?=some e→e.length=k) (b2:∀(i:Nat) (e:List V),xs[i]?=some e→e.length=k)
  (a3:∀(i:Nat) (x:List Value),cs[i]?=some x→x.length=k) (b3:∀(i:Nat) (x:List Value),ds[i]?=some x→x.length=k)
  (a5:∀(i j:Nat) (e:List V) (x:List Value) (v:V) (c:Value),es[i]?=some e→cs[i]?=some x→e[j]?=some v→x[j]?=some c→Rel G w v c)
  (b5:∀(i j:Nat) (e:List V) (x:List Value) (v:V) (c:Value),xs[i]?=some e→ds[i]?=some x→e[j]?=some v→x[j]?=some c→Rel G w v c)
  (mK:es.length+xs.length≤cap) (Hw:off+(es.length+xs.length)*k≤G.ah b)
  (hc:∀(i j:Nat) x c,cs[i]?=some x→x[j]?=some c→w.cell? ⟨b,off+i*k+j,none⟩=some c∧c.oneCell'=true)
  (hd:∀(i j:Nat) x c,ds[i]?=some x→x[j]?=some c→w.cell? ⟨b,off+(es.length+i)*k+j,none⟩=some c∧c.oneCell'=true):
  Rel G w (.slice k et (es++xs)) (.slice (some ⟨b,off,none⟩) (es.length+xs.length) cap):=by
 have:=Rel.slice (G:=G) (w:=w) k et (es++xs) b off cap (cs++ds) (by simp[a1,b1]) (by simpa using mK) (by simpa using Hw)
  (fun i e he=>by
   by_cases hi:i<es.length
   ·rw[List.getElem?_append_left hi]at he;exact a2 i e he
   ·rw[List.getElem?_append_right (by omega)]at he;exact b2 _ e he)
  (fun i e he=>by
   by_cases hi:i<cs.length
   ·rw[List.getElem?_append_left hi]at he;exact a3 i e he
   ·rw[List.getElem?_append_right (by omega)]at he;exact b3 _ e he)
  (fun i j x c hx Fg=>by
   by_cases hi:i<cs.length
   ·rw[List.getElem?_append_left hi]at hx;exact hc i j x c hx Fg
   ·rw[List.getElem?_append_right (by omega)]at hx
    have:=hd _ j x c hx Fg
    rw[show es.length+(i - cs.length)=i by omega]at this
    exact this)
  (fun i j e x v c he hx hv Fg=>by
   by_cases hi:i<es.length
   ·rw[List.getElem?_append_left hi]at he
    rw[List.getElem?_append_left (by omega)]at hx
    exact a5 i j e x v c he hx hv Fg
   ·rw[List.getElem?_append_right (by omega)]at he
    rw[List.getElem?_append_right (by omega),a1]at hx
    exact b5 _ j e x v c he hx hv Fg)
 simpa using this
theorem quarter (s:Nat):4*(s+s / 4+1024)≤5*s+4096:=by omega
theorem MC {s y nc:Nat} (h:5*s*y+2^24≤2^50) (hb:y≤4096) (hnc:nc≤s+s / 4+1024):¬nc*y>2^48:=by
 have h1:nc*y≤(s+s / 4+1024)*y:=Nat.mul_le_mul_right _ hnc
 have h20:=quarter s
 have h2:4*(s+s / 4+1024)*y≤(5*s+4096)*y:=Nat.mul_le_mul_right y h20
 rw[Nat.mul_assoc]at h2
 rw[Nat.add_mul (5*s)]at h2
 have h4:4096*y≤16777216:=Nat.le_trans (Nat.mul_le_mul_left _ hb) (by decide)
 have e1:(2:Nat)^24=16777216:=by decide
 have e2:(2:Nat)^50=1125899906842624:=by decide
 have e3:(2:Nat)^48=281474976710656:=by decide
 rw[e1,e2]at h
 rw[e3]
 omega
theorem AG (hC:dN P C) (h:Inv C.bN G lam a w st) {o:Oper} {c:Call} (ho:o.op=.call c) (hb:c.callee=.builtin .append) {x z:Operand} {t u e:TypeId} {d2:TypeDesc} {ei:TI} {v:V} {es xs:List (List V)} {m:Nat} {ds:List (List Value)}
  (hx:c.args.toList=[x,z]) (ht:c.argTypes.toList=[t,u]) (mJ:P.underlying t=some (.slice e)) (Tp:P.underlying u=some d2) (S6:(∃e',d2=.slice e')∨d2=.string) (yL:C.T e=some ei) (pI:ei.bytes≤4096) (JM:0<ei.bytes) (rD:ei.kZ=false)
  (hv:cf C st.au t x=.val v true) (uw:v.kj ei.size e=some es) (Ch:v.isFull=true→0<xs.length) (cC:5*(es.length+xs.length)*ei.bytes+2^24≤2^50) (hm:m=xs.length) (b1:ds.length=xs.length)
  (b2:∀(i:Nat) (e:List V),xs[i]?=some e→e.length=ei.size) (b3:∀(i:Nat) (x:List Value),ds[i]?=some x→x.length=ei.size)
  (b4:∀(i j:Nat) (x:List Value) (c:Value),ds[i]?=some x→x[j]?=some c→c.oneCell'=true)
  (b5:∀(i j:Nat) (e:List V) (x:List Value) (v:V) (c:Value),xs[i]?=some e→ds[i]?=some x→e[j]?=some v→x[j]?=some c→Rel G w v c)
  (TA:∀w':World,(Builtin.lenOf (a.eval z)).run P w'=.ok m w') (b6:∀w':World,w'.heap=w.heap→(Builtin.firstCells ei.size m (a.eval z)).run P w'=.ok ds.flatten.toArray w'):
  gj P C H G lam a w st o (.val (.slice ei.size e (es++xs)) true):=by
 have hxa:c.args=#[x,z]:=Array.ext' (by simp[hx])
 have hta:c.argTypes=#[t,u]:=Array.ext' (by simp[ht])
 have hTe:=hC.T e ei yL
 obtain⟨BN,ja⟩:=gX h hv
 obtain⟨MD,Cg⟩:=QR uw BN
 obtain⟨ao,n,cap,cs,kt,hn,a1,a2,a3,a4,a5,a6⟩:=AF (P:=P) MD
 have TB:(bj H o)=dE x:=by simp[bj,ho,hb,hx]
 -- the run, up to where the two ways part
 obtain⟨info,J0,ael,ade⟩:=hTe.info
 have J2:=cZ (w:=w) hTe
 have aah:=aK (w:=w) mJ
 have aai:=aK (w:=w) Tp
 rw[kt]at a6
 have a7:=a6
 have b7:=b6
 replace a6:=a6 w rfl
 replace b6:=b6 w rfl
 have FX:=jJ b3
 rw[b1]at FX
 have Cn:=jJ a3
 rw[a1]at Cn
 have Xp:∀r w1,(Builtin.append_ #[t,u] o.type #[a.eval x,a.eval z]).run P w=.ok r w1→(execOp a.eval o).run P w=.ok (.value r) w1:=by
  intro r w1 hr
  simp[execOp,ho,resolve,hb,hxa,hta,invoke,builtin,hr]
 by_cases TC:n+m≤cap
 · -- in place
  by_cases Tt:m=0
  ·have adf:xs=[]:=by cases xs with|nil=>rfl|cons _ _=>simp at hm;omega
   subst adf
   have adg:ds=[]:=by cases ds with|nil=>rfl|cons _ _=>simp at b1
   subst adg
   subst Tt
   have iS:(Builtin.append_ #[t,u] o.type #[a.eval x,a.eval z]).run P w=.ok (a.eval x) w:=by
    rw[kt]
    simp only[Builtin.append_]
    rcases S6 with⟨e',rfl⟩|rfl<;>(simp[aah,aai,J2,TA,show n≤cap by omega,b6];cases ao<;>simp[storeCells])
   rw[List.append_nil]
   have ho1:∀p,Own G w p v (a.eval x)→Own G w p (.slice ei.size e es) (a.eval x):=by
    intro p hp
    rcases Cg with rfl|⟨rfl,rfl⟩|⟨hf,_⟩
    ·exact hp
    ·have:a.eval x=.slice none 0 0:=by
      generalize a.eval x=q at BN
      cases BN;rfl
     rw[this];trivial
    ·have:=Ch hf
     simp at this
   rcases ja rfl with⟨r,rfl,h3⟩|h3
   ·obtain⟨G',e1,e2,e3,e4⟩:=(h.clear (bj H o)).token (q:=.ry (o.dst.getD 0)) (ho1 _ h3) (eE _ _ (by rw[TB];simp[dE])) (by simp) (by simp)
    exact⟨_,w,G',Xp _ _ iS,e1,e2,fun d hd=>⟨MD.mono e1,fun _=>by rw[hd]at e3;exact e3⟩⟩
   ·exact gj.pure h _ (Xp _ _ iS) fun _=>⟨MD,fun _=>ho1 _ (h3 _)⟩
  · -- there is something to append
   have eJ:n≠cap:=by omega
   have aaj:∃r k0 e0 Zm,x=.tmp r∧v=.slice k0 e0 Zm∧Own G w (.ry r) v (a.eval x):=by
    have hv1:∃k0 e0 Zm,v=.slice k0 e0 Zm:=by
     rcases Cg with rfl|⟨rfl,rfl⟩|⟨_,hf⟩
     ·exact⟨_,_,_,rfl⟩
     ·exfalso
      have:a.eval x=.slice none 0 0:=by
       generalize a.eval x=q at BN
       cases BN;rfl
      rw[kt]at this
      simp at this
      omega
     ·exact absurd (hf _ _ _ kt) eJ
    obtain⟨k0,e0,Zm,rfl⟩:=hv1
    rcases ja rfl with⟨r,rfl,h3⟩|h3
    ·exact⟨r,k0,e0,Zm,rfl,rfl,h3⟩
    ·exfalso
     have p1:=h3 (.ry 0)
     have p2:=h3 (.ry 1)
     rw[kt]at p1 p2
     cases ao with
     |none=>
      rw[kt]at BN
      cases BN
      omega
     |some ad=>
      obtain⟨_,_,p1,_⟩:=p1
      obtain⟨_,_,p2,_⟩:=p2
      rw[p1]at p2;simp at p2
   obtain⟨r,k0,e0,Zm,rfl,rfl,h3⟩:=aaj
   have hk0:k0=ei.size∧e0=e∧Zm=es:=by
    rcases Cg with hh|⟨hh,_⟩|⟨hh,_⟩
    ·simp at hh;exact hh
    ·simp at hh
    ·simp[V.isFull]at hh
   obtain⟨rfl,rfl,rfl⟩:=hk0
   rw[kt]at h3 MD
   cases ao with
   |none=>cases MD;omega
   |some ad=>
    obtain⟨q1,q2,q3,q4,cv,fr,q5,q6,q7⟩:=h3
    ·obtain⟨b,of,sp⟩:=ad
     simp only at q1 q2 q3 q4 q5
     subst q1;subst q2
     have TD:(n+m)*ei.size≤cap*ei.size:=Nat.mul_le_mul_right _ TC
     have ME:=k9 (P:=P) ds.flatten w b (n*ei.size) 0 cv e0 fr q5 (by rw[FX,←hm,Nat.add_zero,←Nat.add_mul];omega) (by omega) (fun y hy=>by
      obtain⟨p,hp,hy⟩:=List.mem_iff_getElem.1 hy
      obtain⟨i1,j1,x1,_,Xq,WY⟩:=oN b3 p y (by rw[List.getElem?_eq_getElem hp,hy])
      exact b4 i1 j1 x1 y Xq WY)
     simp only[Nat.add_zero]at ME
     have iS:(Builtin.append_ #[t,u] o.type #[a.eval (.tmp r),a.eval z]).run P w=.ok (.slice (some ⟨b,0,none⟩) (n+m) cap) (putCells w b (n*ei.size) ds.flatten):=by
      rw[kt]
      simp only[Builtin.append_]
      rcases S6 with⟨e',rfl⟩|rfl<;>simp[aah,aai,J2,TA,TC,b6,add_plain,ME]
     have hh:=n9 w b (n*ei.size) ds.flatten
     obtain⟨z1,z2,z3,z4⟩:=uF w b (n*ei.size) ds.flatten
     have TE:(putCells w b (n*ei.size) ds.flatten).heap[b]?=some (.cells (ri cv (n*ei.size) ds.flatten) e0 fr):=by rw[hh,if_pos rfl,q5];rfl
     have jb:∀i,i≠b→(putCells w b (n*ei.size) ds.flatten).heap[i]?=w.heap[i]?:=fun i hi=>by rw[hh,if_neg hi]
     have hbound:n*ei.size+ds.flatten.length≤cv.size:=by rw[FX,←hm,←Nat.add_mul];omega
     have MF:∀p,(putCells w b (n*ei.size) ds.flatten).cell? ⟨b,p,none⟩=if n*ei.size≤p∧p<n*ei.size+ds.flatten.length then ds.flatten[p - n*ei.size]? else w.cell? ⟨b,p,none⟩:=by
      intro p
      rw[aj TE,w8 _ _ _ _ hbound,aj q5]
     have Fh:=fV h.bP.wf q3
     let G':Gh:={G with ah:=lX G.ah b ((n+m)*ei.size),owner:=lX G.owner b (some (.ry (o.dst.getD 0)))}
     have hE:Ext G w G' (putCells w b (n*ei.size) ds.flatten):=by
      refine⟨Nat.le_refl _,fun _ _=>rfl,fun _ _=>rfl,fun i=>?_,fun i p hp=>?_,z2,z3,z4,by rw[z1];exact Nat.le_refl _,fun i hi Xr=>?_⟩
      ·show _≤lX G.ah b _ i
       by_cases hi:i=b
       ·subst hi;simp only[jK];rw[q4];exact Nat.mul_le_mul_right _ (by omega)
       ·rw[bB _ _ hi];exact Nat.le_refl _
      ·by_cases hi:i=b
       ·subst hi
        refine FY ?_ (fun es c=>by rw[q5];simp) (fun es c=>by rw[TE];simp)
        rw[MF,if_neg (by rw[q4]at hp;omega)]
       ·exact eH (jb i hi) _
      ·have Ht:i≠b:=by rintro rfl;rw[q3]at Xr;simp at Xr
       exact⟨jb i Ht,bB _ _ Ht,by show lX G.owner b _ i=_;rw[bB _ _ Ht];exact Xr⟩
     have hWF:WF G' (putCells w b (n*ei.size) ds.flatten):=by
      intro i hi
      rw[z1]at hi
      have Ht:i≠b:=by omega
      obtain⟨w1,w2⟩:=h.bP.wf i hi
      exact⟨(bB _ _ Ht).trans w1,(bB _ _ Ht).trans w2⟩
     have Xs:=eE (st:=st) (bj H o) r (by rw[TB];simp[dE])
     have aak:Inv C.bN G' lam a (putCells w b (n*ei.size) ds.flatten) (st.clear (bj H o)):=by
      refine(h.clear _).move hE ⟨fun i p hp hf=>?_⟩ hWF rfl
      have Ht:i≠b:=by
       rintro rfl
       rw[q3]at hp
       obtain rfl:=Option.some.inj hp
       rcases hf with hf|⟨r',WZ⟩|⟨b',jI⟩
       ·exact Xs hf
       ·simp at WZ
       ·simp at jI
      exact⟨jb i Ht,bB _ _ Ht,by show lX G.owner b _ i=_;rw[bB _ _ Ht];exact hp⟩
     have aal:Rel G' (putCells w b (n*ei.size) ds.flatten) (.slice ei.size e0 (Zm++xs)) (.slice (some ⟨b,0,none⟩) (n+m) cap):=by
      have:=Cm (et:=e0) (G:=G') (w:=putCells w b (n*ei.size) ds.flatten) (k:=ei.size) (b:=b) (off:=0) (cap:=cap) a1 b1 a2 b2 a3 b3
       (fun i j e y v c w1 w2 w3 w4=>(a5 i j e y v c w1 w2 w3 w4).mono hE) (fun i j e y v c w1 w2 w3 w4=>(b5 i j e y v c w1 w2 w3 w4).mono hE) (by omega) (by show _≤lX G.ah b _ b;rw[jK,hn,hm];omega)
       (fun i j y c hy hc=>by
        refine⟨?_,a4 i j y c hy hc⟩
        have hi:i<n:=by rw[hn,←a1];exact(List.getElem?_eq_some_iff.1 hy).1
        have hj:j<ei.size:=by rw[←a3 i y hy];exact(List.getElem?_eq_some_iff.1 hc).1
        have aG:i*ei.size+j<n*ei.size:=by
         have:(i+1)*ei.size≤n*ei.size:=Nat.mul_le_mul_right _ hi
         rw[Nat.succ_mul]at this;omega
        rw[MF,if_neg (by omega),Nat.zero_add]
        have rj:=oM a3 i j y c hy hc
        rcases oK MD with⟨_,hh0⟩|⟨b',adh,J3,ta,tb,g1,g2,g3,g4,g5,g6,g7⟩
        ·simp at hh0
        ·simp at tb
         obtain⟨⟨rfl,rfl⟩,_,rfl⟩:=tb
         have a6':(Builtin.firstCells ei.size n (.slice (some ⟨b,0,none⟩) n cap)).run P w=.ok ta.flatten.toArray w:=by
          simp only[Builtin.firstCells]
          have:=run_loadCells_list (P:=P) w ⟨b,0,none⟩ ta.flatten (fun p v hp=>by
           obtain⟨i1,j1,x1,rfl,Xq,WY⟩:=oN g5 p v hp
           rw[add_plain,←Nat.add_assoc]
           exact(g6 i1 j1 x1 v Xq WY).1)
          rw[jJ g5,g1,←hn]at this
          exact this
         rw[a6']at a6
         have w9:ta.flatten=cs.flatten:=by simpa using a6
         rw[←w9]at rj
         obtain⟨i1,j1,x1,E9,Xq,WY⟩:=oN g5 _ c rj
         have:=(g6 i1 j1 x1 c Xq WY).1
         rw[Nat.zero_add,←E9]at this
         exact this)
       (fun i j y c hy hc=>by
        refine⟨?_,b4 i j y c hy hc⟩
        have rj:=oM b3 i j y c hy hc
        have aG:=(List.getElem?_eq_some_iff.1 rj).1
        rw[MF,←hn,Nat.zero_add,Nat.add_mul,Nat.add_assoc,if_pos (by omega),Nat.add_sub_cancel_left]
        exact rj)
      rw[←hn,←hm]at this
      exact this
     refine⟨_,_,G',Xp _ _ iS,hE,aak,fun d hd=>⟨aal,fun _=>⟨rfl,rfl,?_,?_,_,fr,TE,?_,?_⟩⟩⟩
     ·show lX G.owner b _ b=_
      rw[hd];simp
     ·show lX G.ah b _ b=_
      simp
     ·rw[FZ];exact q6
     ·exact Nat.le_trans q7 (Nat.mul_le_mul_right _ (by omega))
 · -- a new row
  have abI:∀m,ei.kind≠.tuple m:=by
   intro m0 Tt
   simp[TI.kZ,Tt]at rD
  obtain⟨aee,zv,w1,w2,w3,w4⟩:=wZ hTe abI G w
  have hzs:zv.cells.size=ei.size:=by have:=w3.1;simp only[Array.length_toList]at this;omega
  have hnc:=MB (n+m) cap (by omega)
  have Xt:¬Builtin.nextslicecap (n+m) cap*info.bytes>2^48:=by
   rw[ade]
   rw[←hn,←hm]at cC
   exact MC cC pI hnc
  have jc:¬info.bytes=0:=by omega
  generalize hT0:w.tape w.drawn (.appendCap (n+m) cap e)=T0
  let N:=(Question.appendCap (n+m) cap e).cut T0
  have hN:n+m≤N:=Nat.le_add_right _ _
  have hti:∀w:World,(typeInfo e).run P w=.ok info w:=fun w=>fA (w:=w) J0
  have hzv:∀w:World,(zeroValue e).run P w=.ok zv w:=fun w=>by simp[zeroValue,fA w1,w2]
  let row:Array Value:=cs.flatten.toArray++ds.flatten.toArray++Builtin.zeroCells zv.cells (N - (n+m))
  have iS:(Builtin.append_ #[t,u] o.type #[a.eval x,a.eval z]).run P w=.ok (.slice (some ⟨w.heap.size,0,none⟩) (n+m) N) (w.drew.alloc (.cells row e)):=by
   rw[kt]
   simp only[Builtin.append_]
   have Xu:(Question.appendCap (n+m) cap e).forced=false:=rfl
   rcases S6 with⟨e',rfl⟩|rfl<;>simp[aah,aai,J2,TA,TC,hti,jc,Xt,Xu,run_choose,a7 w.drew rfl,b7 w.drew rfl,hzv,newRow,row,N,hT0]
  have hrl:row.size=n*ei.size+m*ei.size+(N - (n+m))*ei.size:=by
   simp only[row,Array.size_append,List.size_toArray,Cn,FX,Cl,hzs,hn,hm]
  have abJ:∀p,p<n*ei.size→row[p]?=cs.flatten[p]?:=by
   intro p hp
   rw[hn,←Cn]at hp
   simp only[row]
   rw[Array.getElem?_append_left (by simp only[List.size_toArray,Array.size_append];omega),Array.getElem?_append_left (by simp only[List.size_toArray];exact hp)]
   simp
  have abK:∀p,p<m*ei.size→row[n*ei.size+p]?=ds.flatten[p]?:=by
   intro p hp
   rw[hm,←FX]at hp
   rw[hn,←Cn]
   simp only[row]
   rw[Array.getElem?_append_left (by simp only[List.size_toArray,Array.size_append];omega),Array.getElem?_append_right (by simp only[List.size_toArray];omega)]
   simp
  have hdr:Ext G w G w.drew:=Ext.same rfl rfl rfl rfl
  have PI:=Ext.alloc (w:=w.drew) h.bP.wf (.cells row e) ((n+m)*ei.size) (some (.ry (o.dst.getD 0)))
  have hE:=hdr.trans PI
  have aak:=((h.same (w':=w.drew) rfl rfl rfl rfl).alloc (.cells row e) ((n+m)*ei.size) (some (.ry (o.dst.getD 0)))).clear (bj H o)
  have abL:w.drew.heap.size=w.heap.size:=rfl
  have xa:=heap_alloc_new w.drew (.cells row e)
  have aal:Rel (G.new w.drew ((n+m)*ei.size) (some (.ry (o.dst.getD 0)))) (w.drew.alloc (.cells row e)) (.slice ei.size e (es++xs)) (.slice (some ⟨w.heap.size,0,none⟩) (n+m) N):=by
   have:=Cm (et:=e) (G:=G.new w.drew ((n+m)*ei.size) (some (.ry (o.dst.getD 0)))) (w:=w.drew.alloc (.cells row e)) (k:=ei.size) (b:=w.heap.size) (off:=0) (cap:=N) a1 b1 a2 b2 a3 b3
    (fun i j e y v c w1 w2 w3 w4=>(a5 i j e y v c w1 w2 w3 w4).mono hE) (fun i j e y v c w1 w2 w3 w4=>(b5 i j e y v c w1 w2 w3 w4).mono hE) (by rw[←hn,←hm];exact hN)
    (by show _≤lX G.ah w.heap.size _ w.heap.size;rw[jK,hn,hm];omega)
    (fun i j y c hy hc=>by
     refine⟨?_,a4 i j y c hy hc⟩
     have rj:=oM a3 i j y c hy hc
     have aG:=(List.getElem?_eq_some_iff.1 rj).1
     have:=aj xa (0+i*ei.size+j)
     rw[abL]at this
     rw[this,Nat.zero_add,abJ _ (by rw[hn,←Cn];exact aG)]
     exact rj)
    (fun i j y c hy hc=>by
     refine⟨?_,b4 i j y c hy hc⟩
     have rj:=oM b3 i j y c hy hc
     have aG:=(List.getElem?_eq_some_iff.1 rj).1
     have:=aj xa (0+(es.length+i)*ei.size+j)
     rw[abL]at this
     rw[this,Nat.zero_add,←hn,Nat.add_mul,Nat.add_assoc,abK _ (by rw[hm,←FX];exact aG)]
     exact rj)
   rw[←hn,←hm]at this
   exact this
  refine⟨_,_,_,Xp _ _ iS,hE,aak,fun d hd=>⟨aal,fun _=>⟨rfl,rfl,?_,?_,row,(0,0),xa,?_,Nat.zero_le _⟩⟩⟩
  ·show lX G.owner w.heap.size _ w.heap.size=_
   rw[hd];simp
  ·show lX G.ah w.heap.size _ w.heap.size=_
   simp
  ·rw[hrl,←Nat.add_mul,←Nat.add_mul]
   exact Nat.mul_le_mul_right _ (by omega)
theorem J4 (s:ByteArray):(fM s).length=s.size∧(∀(i:Nat) (e:List V),(fM s)[i]?=some e→e.length=1)∧
  ∃ds:List (List Value),ds.length=(fM s).length∧(∀(i:Nat) (x:List Value),ds[i]?=some x→x.length=1)∧(∀(i j:Nat) (x:List Value) (c:Value),ds[i]?=some x→x[j]?=some c→c.oneCell'=true)∧
   (∀(G:Gh) (w:World) (i j:Nat) (e:List V) (x:List Value) (v:V) (c:Value),(fM s)[i]?=some e→ds[i]?=some x→e[j]?=some v→x[j]?=some c→Rel G w v c)∧
   ∀(P:Program) (w:World),(Builtin.firstCells 1 s.size (.string s)).run P w=.ok ds.flatten.toArray w:=by
 refine⟨by simp[fM],fun i e he=>?_,s.data.toList.map fun b=>[Value.int .u8 b.toNat],by simp[fM],fun i x hx=>?_,fun i j x c hx hc=>?_,fun G w i j e x v c he hx hv hc=>?_,fun P w=>?_⟩
 ·simp only[fM,List.getElem?_map,Option.map_eq_some_iff]at he
  obtain⟨b,_,rfl⟩:=he
  rfl
 ·simp only[List.getElem?_map,Option.map_eq_some_iff]at hx
  obtain⟨b,_,rfl⟩:=hx
  rfl
 ·simp only[List.getElem?_map,Option.map_eq_some_iff]at hx
  obtain⟨b,_,rfl⟩:=hx
  match j with
  |0=>simp at hc;subst hc;rfl
  |j+1=>simp at hc
 ·simp only[fM,List.getElem?_map,Option.map_eq_some_iff]at he hx
  obtain⟨b,hb,rfl⟩:=he
  obtain⟨b',jI,rfl⟩:=hx
  rw[hb]at jI
  obtain rfl:=Option.some.inj jI
  match j with
  |0=>simp at hv hc;subst hv;subst hc;exact .int _ _
  |j+1=>simp at hc
 ·have hex:(s.extract 0 s.size).data=s.data:=by
   have:s.extract 0 s.size=s:=ByteArray.extract_zero_size
   rw[this]
  simp only[Builtin.firstCells,hex,Sem.run_pure]
  congr 1
  apply Array.ext'
  simp[←List.flatMap_def]
  exact List.map_eq_flatMap
theorem MG (hC:dN P C) (h:Inv C.bN G lam a w st) {o:Oper} {c:Call} {y:RV} (ho:o.op=.call c) (hb:c.callee=.builtin .append) (ha:act C H o st.au=some (.val y)):gj P C H G lam a w st o y:=by
 simp only[act,ho,hb]at ha
 split at ha
 case h_2=>simp at ha
 rename_i x z t u hx ht
 obtain⟨i,hi,h1⟩:=ai ha
 obtain⟨j,hj,h2⟩:=ai h1
 clear ha h1
 obtain⟨d1,mJ,jG⟩:=(hC.T t i hi).desc
 obtain⟨d2,Tp,lK⟩:=(hC.T u j hj).desc
 split at h2
 ·rename_i e e' PF hkj
  rw[PF]at jG
  rw[hkj]at lK
  obtain rfl:=jo jG
  obtain rfl:=jo lK
  obtain⟨ei,yL,h3⟩:=ai h2
  obtain⟨ei',aem,h4⟩:=ai h3
  clear h2 h3
  split at h4
  case isFalse=>simp at h4
  rename_i uG
  obtain⟨iM,pI,JM,rD⟩:=uG
  split at h4
  case h_2=>simp at h4
  rename_i v hv
  obtain⟨es,uw,h5⟩:=ai h4
  obtain⟨wv,hwv,h6⟩:=ai h5
  obtain⟨xs,hxs,h7⟩:=ai h6
  obtain⟨u0,hu,h8⟩:=ai h7
  clear h4 h5 h6 h7
  have cC:=cL hu
  rw[Bool.and_eq_true]at cC
  obtain⟨rj,cC⟩:=cC
  have Ch:v.isFull=true→0<xs.length:=by
   intro hf
   rw[hf]at rj
   simpa using rj
  obtain rfl:=lM.val.inj (Option.some.inj h8)
  obtain⟨QS,_⟩:=nG hxs (fW h hwv)
  obtain⟨ao',m,J3,ds,pD,hm,b1,b2,b3,b4,b5,b6⟩:=AF (P:=P) QS
  exact AG hC h ho hb hx ht mJ Tp (.inl ⟨e',rfl⟩) yL pI JM rD hv uw Ch (room_le cC pI) hm b1 b2 b3 b4 b5 (fun w'=>by rw[pD];simp[Builtin.lenOf]) b6
 ·rename_i e PF hkj
  rw[PF]at jG
  rw[hkj]at lK
  obtain rfl:=jo jG
  obtain rfl:=ku lK
  obtain⟨ei,yL,h4⟩:=ai h2
  clear h2
  split at h4
  case isFalse=>simp at h4
  rename_i uG
  obtain⟨iM,pI,JM,rD⟩:=uG
  split at h4
  case h_2=>simp at h4
  rename_i v hv
  obtain⟨es,uw,h5⟩:=ai h4
  obtain⟨wv,hwv,h6⟩:=ai h5
  obtain⟨s,hxs,h7⟩:=ai h6
  obtain⟨u0,hu,h8⟩:=ai h7
  clear h4 h5 h6 h7
  have cC:=cL hu
  obtain rfl:=lM.val.inj (Option.some.inj h8)
  have hr:=fW h hwv
  rw[Co hxs]at hr
  have hz:=PJ hr
  obtain⟨k1,k2,ds,k3,k4,k5,k6,k7⟩:=J4 s
  have aen:v.asSlice ei.size e=some es:=by rw[iM];exact uw
  have adi:v.kj ei.size e=some es:=by
   cases v<;>simp_all [V.asSlice,V.kj]
  have Ch:v.isFull=true→0<(fM s).length:=by
   intro hf
   cases v<;>simp_all [V.asSlice,V.isFull]
  have:=AG (H:=H) (xs:=fM s) (m:=s.size) (ds:=ds) hC h ho hb hx ht mJ Tp (.inr rfl) yL pI JM rD hv adi Ch (by rw[k1];exact room_le cC pI) k1.symm k3 (by rw[iM];exact k2) (by rw[iM];exact k4) k5 (k6 G w) (fun w'=>by rw[hz];simp[Builtin.lenOf]) (fun w' _=>by rw[hz,iM];exact k7 P w')
  rw[iM]at this
  exact this
 ·simp at h2
end
end Go.Ab
end
section
namespace Go.Ab
section
variable {P:Program} {C:Ctx} {H:Hints} {G:Gh} {lam:Nat→Nat} {a:Act} {w:World} {st:St}
def NP (C:Ctx) (G:Gh) (w:World) (out:Out) (a':Act) (w':World):Prop:=∃cN G' iu,out=.next cN∧Ext G w G' w'∧Inv C.bN G' iu a' w' cN
def QP (C:Ctx) (G:Gh) (w:World) (out:Out) (e:Exit) (a':Act) (w':World):Prop:=
 ∃v cN c G',out=.fB v cN∧e=.panic [{v:=c,recovered:=false}]∧Rel G' w' v c∧Ext G w G' w'∧dR C.bN G' w' cN.bP∧a'.defers=[]
theorem Bu (cs:List Cell) (o:Nat) (xs:List Cell):(setCells cs o xs).length=cs.length:=by
 induction xs generalizing cs o with
 |nil=>rfl
 |cons x xs ih=>simp[setCells,ih]
theorem Hx (cs:List Cell) (o:Nat) (xs:List Cell) (j:Nat) (h:o+xs.length≤cs.length):
  (setCells cs o xs)[j]?=if o≤j∧j<o+xs.length then xs[j - o]? else cs[j]?:=by
 induction xs generalizing cs o with
 |nil=>simp[setCells];intro h1 h2;omega
 |cons x xs ih=>
  simp only[List.length_cons]at h
  rw[setCells,ih (cs.set o x) (o+1) (by simp;omega)]
  by_cases h1:o+1≤j∧j<o+1+xs.length
  ·rw[if_pos h1,if_pos (by simp;omega),show j - o=(j - (o+1))+1 by omega,List.getElem?_cons_succ]
  ·rw[if_neg h1]
   by_cases h2:j=o
   ·subst h2
    rw[if_pos (by simp),List.getElem?_set]
    simp;omega
   ·rw[if_neg (by simp;omega),List.getElem?_set,if_neg (by omega)]
theorem AH {r0:Nat} {p:Place} {q:Nat→Place} {cs:List Cell} (wf:WF G w) (h:lf G w r0 p q cs) (hpq:∀j,q j≠p) (o:Nat) (vs:List Value) (ns:List Cell) (hl:vs.length=ns.length) (ho:o+ns.length≤cs.length)
  (hv:∀(j:Nat) c x,ns[j]?=some c→vs[j]?=some x→je G w (q (o+j)) c x∧x.oneCell'=true):
  (storeCells ⟨r0,o,none⟩ vs).run P w=.ok () (putCells w r0 o vs)∧Ext G w G (putCells w r0 o vs)∧(∀fl:Place→Prop,¬fl p→mM G w G (putCells w r0 o vs) fl)∧WF G (putCells w r0 o vs)∧
  lf G (putCells w r0 o vs) r0 p q (setCells cs o ns):=by
 obtain⟨cv,el,h1,h2,h3,h4,h5⟩:=h
 have hh:=n9 w r0 o vs
 obtain⟨z1,z2,z3,z4⟩:=uF w r0 o vs
 have xa:(putCells w r0 o vs).heap[r0]?=some (.cells (ri cv o vs) el (0,0)):=by rw[hh,if_pos rfl,h1];rfl
 have jb:∀i,i≠r0→(putCells w r0 o vs).heap[i]?=w.heap[i]?:=fun i hi=>by rw[hh,if_neg hi]
 have hE:Ext G w G (putCells w r0 o vs):=by
  refine⟨Nat.le_refl _,fun _ _=>rfl,fun _ _=>rfl,fun _=>Nat.le_refl _,fun b o' Xr=>?_,z2,z3,z4,by rw[z1];exact Nat.le_refl _,fun i _ hi=>⟨jb i ?_,rfl,hi⟩⟩
  ·have hb:b≠r0:=by rintro rfl;rw[h4]at Xr;omega
   exact eH (jb b hb) _
  ·rintro rfl;rw[h3]at hi;simp at hi
 refine⟨?_,hE,fun fl hf=>⟨fun i p' Bv hf'=>⟨jb i ?_,rfl,Bv⟩⟩,fun i hi=>wf i (by rw[z1]at hi;exact hi),ri cv o vs,el,xa,by rw[FZ,Bu];exact h2,h3,h4,fun j c x hc hx=>?_⟩
 ·have:=k9 (P:=P) vs w r0 o 0 cv el (0,0) h1 (by omega) (Nat.zero_le _) (fun v QM=>by
   obtain⟨j,hj,hvj⟩:=List.mem_iff_getElem.1 QM
   have W0:j<ns.length:=by omega
   exact(hv j _ v (List.getElem?_eq_getElem W0) (by rw[List.getElem?_eq_getElem hj,hvj])).2)
  simpa using this
 ·rintro rfl
  rw[h3]at Bv
  obtain rfl:=Option.some.inj Bv
  exact hf hf'
 ·rw[Hx _ _ _ _ ho]at hc
  rw[w8 _ _ _ _ (by omega)]at hx
  have tr:∀{c:Cell} {x:Value},je G w (q j) c x→je G (putCells w r0 o vs) (q j) c x:=fun Xv=>
   Xv.move hE fun _ i hi=>⟨jb i (by rintro rfl;rw[h3]at hi;exact hpq j (Option.some.inj hi).symm),rfl,hi⟩
  by_cases hj:o≤j∧j<o+ns.length
  ·rw[if_pos hj]at hc
   rw[if_pos (by omega)]at hx
   obtain⟨e1,e2⟩:=hv _ c x hc hx
   rw[show o+(j - o)=j by omega]at e1
   exact⟨tr e1,e2⟩
  ·rw[if_neg hj]at hc
   rw[if_neg (by omega)]at hx
   obtain⟨e1,e2⟩:=h5 j c x hc hx
   exact⟨tr e1,e2⟩
theorem vv {v:V} {c:Value} {ag ow:Bool} {n:Nat} (h:Rel G w v c) (hf:v.fits ag n=true) (q:Nat→Place) (hq:ow=true→Own G w (q 0) v c):
  (fY v ow ag n).length=n∧c.cells.toList.length=n∧∀(j:Nat) d x,(fY v ow ag n)[j]?=some d→c.cells.toList[j]?=some x→je G w (q j) d x∧x.oneCell'=true:=by
 obtain⟨⟨e1,e2⟩,e3,e4⟩:=vw h hf
 cases ag with
 |true=>
  simp only[fY,kx,if_true]at*
  refine⟨by simp,by simp[e3],fun j d x hd hx=>?_⟩
  obtain⟨hj,hd⟩:=List.getElem?_eq_some_iff.1 hd
  simp at hj hd
  subst hd
  obtain⟨g1,g2⟩:=e2 j (v.cell j) x (by simp[hj]) hx
  refine⟨⟨g1,fun ho=>?_⟩,g2⟩
  simp only[Bool.and_eq_true]at ho
  have ja:=hq ho.1
  rcases Cp h hf with⟨_,cs,xs,rfl,rfl,h1,h2⟩|⟨hh,_⟩
  ·have hc:cs[j]?=some ((V.agg cs).cell j):=by
    have aG:j<cs.length:=by omega
    simp[V.cell,aG]
   show Own G w (q j) ((V.agg cs).cell j) x
   obtain⟨k,et,hk⟩:∃k et,(V.agg cs).cell j=.slice k et []:=by
    have:=ho.2
    unfold V.gh at this
    split at this
    ·rename_i k et hv;exact⟨k,et,hv⟩
    ·simp at this
   have ht:PK x:=ja j k et x (by rw[hc,hk]) (by simpa[Value.cells]using hx)
   rw[hk]
   unfold Own
   split
   ·exact ht.elim
   all_goals first|contradiction|trivial
  ·simp at hh
 |false=>
  simp only[fY,kx,Bool.false_eq_true,if_false]at*
  refine⟨by simpa using e4,by simp[e3],fun j d x hd hx=>?_⟩
  cases j with
  |succ j=>simp at hd
  |zero=>
   simp at hd
   subst hd
   obtain⟨g1,g2⟩:=e2 0 v x (by simp) hx
   refine⟨⟨g1,fun ho=>?_⟩,g2⟩
   have w7:x=c:=by
    rcases Cp h hf with⟨hh,_⟩|⟨_,_,h1⟩
    ·simp at hh
    ·have hc:c.cells=#[c]:=by cases c<;>simp_all [Value.cells,Value.oneCell']
     rw[hc]at hx;simp at hx;exact hx.symm
   subst w7
   exact hq ho
theorem vx {o:Oper} {t:TypeId} {x:Operand} {c:Cell} (h:Inv C.bN G lam a w st) (hc:ck C st.au t x=some c) (gE:(bj H o)=dE x) (q:Place):
  ∃G',Ext G w G' w∧Inv C.bN G' lam a w (st.clear (bj H o))∧Rel G' w c.1 (a.eval x)∧(c.2=true→Own G' w q c.1 (a.eval x))∧G'.N=G.N:=by
 obtain⟨h1,h2⟩:=Tq h hc
 cases hb:c.2 with
 |false=>exact⟨G,Ext.refl _ _,h.clear _,h1,fun ho=>by simp at ho,rfl⟩
 |true=>
  rcases h2 hb with⟨r,rfl,h3⟩|h3
  ·obtain⟨G',e1,e2,e3,e4⟩:=(h.clear (bj H o)).token (q:=q) h3 (eE _ _ (by rw[gE];simp[dE])) (by simp) (by simp)
   exact⟨G',e1,e2,h1.mono e1,fun _=>e3,e4⟩
  ·exact⟨G,Ext.refl _ _,h.clear _,h1,fun _=>h3 q,rfl⟩
theorem J5 {cs:List Cell} {o n:Nat} {ag:Bool} {v:V} (h:dX cs o n ag=some v):o+n≤cs.length∧((ag=true∧v=.agg ((List.range n).map fun i=>(cs.getD (o+i) bZ).1))∨(ag=false∧n=1∧v=(cs.getD o bZ).1)):=by
 simp only[dX]at h
 split at h
 ·rename_i h1
  refine⟨h1,?_⟩
  split at h
  ·exact .inl ⟨‹_›,(Option.some.inj h).symm⟩
  ·split at h
   ·exact .inr ⟨by simpa using ‹¬ag=true›,‹_›,(Option.some.inj h).symm⟩
   ·simp at h
 ·simp at h
theorem vy {t:TypeId} {i:TI} (hT:Mw P t i) {r0:Nat} {p:Place} {q:Nat→Place} {cs:List Cell} (h:lf G w r0 p q cs∨cs=[]) {o:Nat} {v:V} (hv:dX cs o i.size i.agg=some v):
    ∃x,(loadVar t ⟨r0,o,none⟩).run P w=.ok x w∧Rel G w v x:=by
  obtain⟨h1,h2⟩:=J5 hv
  rcases h with⟨cv,el,g1,g2,g3,g4,g5⟩|rfl
  · obtain⟨x,e1,e2⟩:=Ci (P:=P) (G:=G) (w:=w) hT r0 o (fun j=>(cs.getD (o+j) bZ).1) ((cv.toList.drop o).take i.size) (by simp;omega) (fun j x hx=>by
      rw[List.getElem?_take]at hx
      split at hx
      · rw[List.getElem?_drop]at hx
        have w7:cv[o+j]?=some x:=by simpa using hx
        have aG:o+j<cs.length:=by omega
        rw[List.getD_eq_getElem?_getD,List.getElem?_eq_getElem aG]
        obtain⟨w1,w2⟩:=g5 (o+j) _ x (List.getElem?_eq_getElem aG) w7
        exact⟨by rw[aj g1];exact w7,w2,w1.1⟩
      · simp at hx) (fun hh=>by rcases h2 with⟨h2,_⟩|⟨_,h2,_⟩;· simp[hh]at h2
                                · exact h2)
    refine⟨x,e1,?_⟩
    rcases h2 with⟨q1,rfl⟩|⟨q1,q2,rfl⟩
    · rw[if_pos q1]at e2;exact e2
    · rw[if_neg (by simp[q1])]at e2;exact e2
  · simp only[List.length_nil]at h1
    have h0:i.size=0:=by omega
    rcases h2 with⟨q1,rfl⟩|⟨q1,q2,rfl⟩
    · refine⟨.agg #[],?_,?_⟩
      · have:=mL (w:=w) hT r0 o [] (by simp[h0]) (by simp) (fun hh=>by simp[hh]at q1)
        rw[if_pos q1]at this
        exact this
      · rw[h0]
        exact .agg [] [] rfl (by simp) (by simp)
    · omega
theorem BO (h:Inv C.bN G lam a w st) (r:Nat):lf G w (lam r) (.box r) (fun j=>.lc r j) (st.bC.getD r [])∨st.bC.getD r []=[]:=by
 rw[List.getD_eq_getElem?_getD]
 cases hl:st.bC[r]? with
 |none=>exact .inr rfl
 |some cs=>
  by_cases hcs:cs=[]
  ·exact .inr hcs
  ·exact .inl (h.bC r cs hl hcs)
theorem Inv.od (h:Inv C.bN G lam a w st) {r:Nat} {w':World} {cs:List Cell} (e:Ext G w G w') (k:mM G w G w' (fun p=>p≠.box r)) (wf:WF G w') (hb:lf G w' (lam r) (.box r) (fun j=>.lc r j) cs):
    Inv C.bN G lam a w' {st with bC:=st.bC.set r cs} where
  defers:=h.defers
  len:=h.len
  jL:=by simp[h.jL]
  au r' x hx:=(h.au r' x hx).move e k (fun v hv=>by simp) (fun cs i v hv hi=>by simp)
  bC r' ta hc eJ:=by
    simp only[List.getElem?_set]at hc
    split at hc
    · rename_i hr
      subst hr
      split at hc
      · obtain rfl:=Option.some.inj hc;exact hb
      · simp at hc
    · rename_i hr
      exact(h.bC r' ta hc eJ).move e k (by simp;exact fun hh=>hr hh.symm) (fun j v hv=>by simp)
  bP:=h.bP.move e k wf rfl (fun b _=>by simp) (fun b cs j v hb hv=>by simp)
theorem Inv.iO (h:Inv C.bN G lam a w st) {b:Nat} {w':World} {cs:List Cell} (hb:b<st.bP.length) (e:Ext G w G w') (k:mM G w G w' (fun p=>p≠.eZ b)) (wf:WF G w') (hk:lf G w' (G.μ b) (.eZ b) (fun j=>.gc b j) cs) (ht:∃cv fr,w'.heap[G.μ b]?=some (.cells cv (G.ty b) fr)):
    Inv C.bN G lam a w' {st with bP:=st.bP.set b cs} where
  defers:=h.defers
  len:=h.len
  jL:=h.jL
  au r' x hx:=(h.au r' x hx).move e k (fun v hv=>by simp) (fun cs i v hv hi=>by simp)
  bC r' ta hc eJ:=(h.bC r' ta hc eJ).move e k (by simp) (fun j v hv=>by simp)
  bP:=by
    refine⟨wf,fun g cs hg=>(h.bP.bN g cs hg).mono e,by simp[h.bP.N],fun b' jI=>?_,fun b' ta hc=>?_,h.bP.PE.mono e⟩
    · simp only[List.length_set]at jI
      by_cases xb:b'=b
      · subst xb;exact ht
      · obtain⟨cv,fr,h1⟩:=h.bP.typed b' jI
        obtain⟨_,_,_,_,h3,_⟩:=h.bP.eZ b' st.bP[b'] (List.getElem?_eq_getElem jI)
        exact⟨cv,fr,by rw[(k.blocks _ _ h3 (by simp;exact xb)).1];exact h1⟩
    simp only[List.getElem?_set]at hc
    split at hc
    · rename_i hr
      subst hr
      obtain rfl:=Option.some.inj hc
      exact hk
    · rename_i hr
      exact(h.bP.eZ b' ta hc).move e k (by simp;exact fun hh=>hr hh.symm) (fun j v hv=>by simp)
end
end Go.Ab
end
