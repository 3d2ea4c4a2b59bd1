/- Regions: the abstract run is met by the real one. -/
import Derived.Test.YtcjofhikcokhfaaGreatDoorAbEff
import Derived.Test.YtcjofhikcokhfaaGreatDoorAbFill
set_option linter.unusedSimpArgs false
set_option linter.unusedVariables false
set_option linter.deprecated false
section
namespace Go.Ab
def D0 (G:Gh) (w:World) (e:End) (en:Ending):Prop:=
 match e with
 |.ret vs=>∃cs:List Value,cs.length=vs.length∧en=.returned (if h:cs.toArray.size=1 then cs.toArray[0]else .tuple cs.toArray)∧∀(i:Nat) c x,vs[i]?=some c→cs[i]?=some x→je G w (.res i) c x
 |.fB v=>∃c,en=.panicked [{v:=c,recovered:=false}]∧Rel G w v c
def Clean (G:Gh) (n:Nat):Prop:=∀i p,G.owner i=some p→(∃b,p=.eZ b)∨(∃b o,p=.gc b o)∨∃r,r<n∧p=.ry r
def ji (P:Program) (C:Ctx) (call:af):Prop:=
 ∀f args σ r,call f args σ=some r→(∀(vals:Array Value) (w:World),(callFunc f vals).run P w=.ok (.enter f vals) w)∧
  ∀(G:Gh) (w:World) (vals:List Value),dR C.bN G w σ→Clean G args.length→vals.length=args.length→(∀(i:Nat) c x,args[i]?=some c→vals[i]?=some x→je G w (.ry i) c x)→
   Calls P f vals.toArray w fun en w'=>∃G',Ext G w G' w'∧dR C.bN G' w' r.2∧D0 G' w' r.1 en
section
variable {P:Program} {C:Ctx} {H:Hints} {call:af} {G:Gh} {lam:Nat→Nat} {a:Act} {w:World} {st:St}
theorem upon_value {o:Oper} {K:Act→World→Prop} {Q:Exit→Act→World→Prop} {c:Value} {w':World} (h:(execOp a.eval o).run P w=.ok (.value c) w') (hk:K (a.put o.dst c) w'):o.wp P a w K Q:=by
 unfold Oper.wp
 rw[h]
 exact hk
theorem wz {o:Oper} {K:Act→World→Prop} {Q:Exit→Act→World→Prop} {w':World} (h:(execOp a.eval o).run P w=.ok .skip w') (hk:K (a.put o.dst undef) w'):o.wp P a w K Q:=by
 unfold Oper.wp
 rw[h]
 exact hk
def kM (P:Program) (C:Ctx) (o:Oper) (st:St) (out:Out):Prop:=
 ∀G lam a w,Inv C.bN G lam a w st→o.wp P a w (NP C G w out) (QP C G w out)
theorem R6 (o:Oper) (x:RV) (h:∀G lam a w,Inv C.bN G lam a w st→gj P C H G lam a w st o x):kM P C o st (.next ((st.clear (bj H o)).put o.dst x)):=by
 intro G lam a w hI
 obtain⟨c,w',G',h1,h2,h3,h4⟩:=h G lam a w hI
 exact upon_value h1 ⟨_,G',lam,rfl,h2,h3.put o.dst x c h4⟩
theorem YK (hC:dN P C) {o:Oper} {x:RV} (ha:act C H o st.au=some (.val x)) (G:Gh) (lam:Nat→Nat) (a:Act) (w:World) (h:Inv C.bN G lam a w st):gj P C H G lam a w st o x:=by
 cases ho:o.op with
 |move y=>exact Tj h ho ha
 |assign y=>exact Mt h ho ha
 |pick c y z=>exact Tk h ho ha
 |build t parts=>exact QO hC h ho ha
 |buildSlice t n parts=>exact Ck hC h ho ha
 |load t y=>exact Ty hC h ho ha
 |nilCheck y=>exact Hq h ho ha
 |binOp op t y z u=>exact QG hC h ho ha
 |unOp op t y=>exact To h ho ha
 |convert s d y=>exact JV hC h ho ha
 |makeInterface t y=>exact wV hC h ho ha
 |makeFunc fn f c=>exact Hr h ho ha
 |slice t y l hh m=>exact QN hC h ho ha
 |fieldAddr t y f=>exact Fc hC h ho ha
 |field t y f=>exact QK hC h ho ha
 |indexAddr t y i=>exact Fe hC h ho ha
 |index t y i=>exact QL hC h ho ha
 |lookup t y i k=>exact My hC h ho ha
 |call c=>
  cases hb:c.callee with
  |builtin b=>
   cases b
   case append=>exact MG hC h ho hb ha
   case len=>exact Xl hC h ho hb ha
   case max=>exact Xn h ho hb ha
   all_goals (simp[act,ho,hb]at ha)
  |invoke r m=>simp[act,ho,hb]at ha
  |value g=>
   simp only[act,ho,hb]at ha
   obtain⟨v,_,ha⟩:=ai ha
   obtain⟨f,_,ha⟩:=ai ha
   split at ha
   ·obtain⟨args,_,ha⟩:=ai ha;split at ha<;>simp at ha
   ·simp at ha
 |alloc t=>
  simp only[act,ho]at ha
  obtain⟨i,_,ha⟩:=ai ha
  split at ha
  ·simp at ha
  ·split at ha<;>simp at ha
 |box t y=>
  simp only[act,ho]at ha
  obtain⟨i,_,ha⟩:=ai ha
  obtain⟨c,_,ha⟩:=ai ha
  obtain⟨u,_,ha⟩:=ai ha
  split at ha<;>simp at ha
 |store t y z=>
  simp only[act,ho]at ha
  obtain⟨i,_,ha⟩:=ai ha
  obtain⟨c,_,ha⟩:=ai ha
  obtain⟨u,_,ha⟩:=ai ha
  split at ha<;>simp at ha
 |extract t i=>
  simp only[act,ho]at ha
  split at ha
  ·rename_i r
   split at ha
   ·split at ha
    ·rename_i cs hcs
     split at ha
     ·rename_i c hc
      obtain rfl:=lM.val.inj (Option.some.inj ha)
      have hr:=jO h r
      rw[hcs]at hr
      obtain⟨xs,e1,e2,e3⟩:=hr
      have hi:i<xs.length:=by rw[e2];exact(List.getElem?_eq_some_iff.1 hc).1
      have hx:xs[i]?=some xs[i]:=List.getElem?_eq_getElem hi
      refine gj.val h _ ?_ (e3 i c _ hc hx).1
      simp[execOp,ho,e1,Instr.extract,hx]
     ·simp at ha
    ·simp at ha
   ·simp at ha
  ·simp at ha
 |panic y=>
  simp only[act,ho]at ha
  obtain⟨i,_,ha⟩:=ai ha
  obtain⟨c,_,ha⟩:=ai ha
  simp at ha
 |_=>simp[act,ho]at ha
theorem nr {au:List RV} {t:TypeId} {y:Operand} {r of:Nat} (h:cf C au t y=.eK r of):∃a,y=.tmp a∧au.getD a .dead=.eK r of:=by
 cases y with
 |tmp a=>exact⟨a,rfl,h⟩
 |const c=>simp only[cf]at h;split at h<;>(try split at h)<;>(try split at h)<;>simp at h
 |global g=>simp only[cf]at h;split at h<;>simp at h
 |func f=>simp[cf]at h
theorem sz {au:List RV} {t:TypeId} {y:Operand} {r of:Nat} (h:rA (cf C au t y)=.eK r of∨xc (cf C au t y)=.eK r of):∃a of',au.getD a .dead=.eK r of':=by
 cases hv:cf C au t y with
 |eK r' of'=>
  rw[hv]at h
  obtain⟨a,_,h2⟩:=nr hv
  simp[rA,xc]at h
  exact⟨a,of',by rw[h2,h.1]⟩
 |_=>rw[hv]at h;simp[rA,xc]at h
theorem Lw {g:Operand} (h:yS H g=true):∃f,g=.func f∧H.F2.contains f=true:=by
 cases g with
 |func f=>exact⟨f,rfl,h⟩
 |_=>simp[yS]at h
theorem iH {o:Oper} {e:lM} {au:List RV} (ha:act C H o au=some e):match e with
    |.val x=>∀r of,x=.eK r of→∃a of',au.getD a .dead=.eK r of'
    |.xd r of n ag sl=>∃t y i,o.op=.load t y∧C.T t=some i∧cf C au 0 y=.eK r of∧n=i.size∧ag=i.agg∧sl=o.dst.any H.cW.contains
    |.vz p n ag=>∃t y i ow,o.op=.load t y∧C.T t=some i∧cf C au 0 y=.val p ow∧n=i.size∧ag=i.agg
    |.nH p=>∃t y i ow,o.op=.load t y∧C.T t=some i∧cf C au 0 y=.val p ow∧i.size=1∧i.agg=false
    |.xe r of cs=>∃t y z i c,o.op=.store t y z∧C.T t=some i∧ck C au t z=some c∧c.1.fits i.agg i.size=true∧cf C au 0 y=.eK r of∧cs=fY c.1 c.2 i.agg i.size
    |.yR p cs=>∃t y z i c ow,o.op=.store t y z∧C.T t=some i∧ck C au t z=some c∧c.1.fits i.agg i.size=true∧cf C au 0 y=.val p ow∧cs=fY c.1 c.2 i.agg i.size
    |.rl cs=>(∃t i,o.op=.alloc t∧C.T t=some i∧i.kZ=false∧cs=i.zero.map fun v=>(v,v.HD))∨∃t x i c,o.op=.box t x∧C.T t=some i∧ck C au t x=some c∧c.1.fits i.agg i.size=true∧cs=fY c.1 c.2 i.agg i.size
    |.vA tt cs=>((∃t i,o.op=.alloc t∧C.T t=some i∧i.kZ=false∧cs=i.zero.map fun v=>(v,v.HD))∨∃t x i c,o.op=.box t x∧C.T t=some i∧ck C au t x=some c∧c.1.fits i.agg i.size=true∧cs=fY c.1 c.2 i.agg i.size)∧(o.op=.alloc tt∨∃x,o.op=.box tt x)
    |.gR r i=>o.op=.extract (.tmp r) i
    |.call f args n=>∃c g gv first cap as,o.op=.call c∧c.callee=.value g∧vk C au 0 g=some gv∧gv=.func (.func f) first cap∧c.args.size=c.argTypes.size∧distinct (c.args.toList.flatMap dE)=true∧
        fF C au (c.args.toList.zip c.argTypes.toList)=some as∧args=first.map (fun v=>(v,false))++as++cap.map (fun v=>(v,false))∧n=MI C o.type∧yS H g=false
    |.qJ f args n=>(∃c g gv first cap as,o.op=.call c∧c.callee=.value g∧vk C au 0 g=some gv∧gv=.func (.func f) first cap∧c.args.size=c.argTypes.size∧distinct (c.args.toList.flatMap dE)=true∧
        fF C au (c.args.toList.zip c.argTypes.toList)=some as∧args=first.map (fun v=>(v,false))++as++cap.map (fun v=>(v,false))∧n=MI C o.type)∧H.F2.contains f=true
    |.fB v=>∃x,o.op=.panic x∧vk C au 0 x=some v∧∃t u,v=.iface t u:=by
  cases ho:o.op with
  |load t y=>
   simp only[act,ho]at ha
   obtain⟨i,hi,ha⟩:=ai ha
   split at ha
   · obtain rfl:=Option.some.inj ha
     exact⟨t,y,i,rfl,hi,‹_›,rfl,rfl,rfl⟩
   · obtain⟨v,_,ha⟩:=ai ha;obtain rfl:=Option.some.inj ha;exact fun _ _ hx=>nomatch hx
   · split at ha
     · split at ha
       · simp at ha
       · rename_i hh
         obtain rfl:=Option.some.inj ha
         simp at hh
         exact⟨t,y,i,_,rfl,hi,‹_›,hh.2,hh.1⟩
     · obtain rfl:=Option.some.inj ha
       exact⟨t,y,i,_,rfl,hi,‹_›,rfl,rfl⟩
   · simp at ha
  |store t y z=>
   simp only[act,ho]at ha
   obtain⟨i,hi,ha⟩:=ai ha
   obtain⟨c,hc,ha⟩:=ai ha
   obtain⟨u,hu,ha⟩:=ai ha
   split at ha
   · obtain rfl:=Option.some.inj ha
     exact⟨t,y,z,i,c,rfl,hi,hc,cL hu,‹_›,rfl⟩
   · obtain rfl:=Option.some.inj ha
     exact⟨t,y,z,i,c,_,rfl,hi,hc,cL hu,‹_›,rfl⟩
   · simp at ha
  |alloc t=>
   simp only[act,ho]at ha
   obtain⟨i,hi,ha⟩:=ai ha
   split at ha
   · simp at ha
   · rename_i rD
     have rD:i.kZ=false:=by simpa using rD
     split at ha<;>(obtain rfl:=Option.some.inj ha;first|exact .inl ⟨t,i,rfl,hi,rD,rfl⟩|exact⟨.inl ⟨t,i,rfl,hi,rD,rfl⟩,.inl rfl⟩)
  |box t y=>
   simp only[act,ho]at ha
   obtain⟨i,hi,ha⟩:=ai ha
   obtain⟨c,hc,ha⟩:=ai ha
   obtain⟨u,hu,ha⟩:=ai ha
   split at ha<;>(obtain rfl:=Option.some.inj ha;first|exact .inr ⟨t,y,i,c,rfl,hi,hc,cL hu,rfl⟩|exact⟨.inr ⟨t,y,i,c,rfl,hi,hc,cL hu,rfl⟩,.inr ⟨y,rfl⟩⟩)
  |extract t i=>
   simp only[act,ho]at ha
   split at ha
   · split at ha
     · split at ha
       · split at ha
         · obtain rfl:=Option.some.inj ha;exact fun _ _ hx=>nomatch hx
         · simp at ha
       · simp at ha
     · obtain rfl:=Option.some.inj ha;rfl
   · simp at ha
  |panic y=>
   simp only[act,ho]at ha
   obtain⟨v,hv,ha⟩:=ai ha
   obtain⟨u,hu,ha⟩:=ai ha
   obtain rfl:=Option.some.inj ha
   cases v<;>simp[V.Hz]at hu
   subst hu
   exact⟨y,rfl,hv,_,_,rfl⟩
  |call c=>
   cases hb:c.callee with
   |builtin b=>
    cases b
    case len=>
      simp only[act,ho,hb]at ha
      split at ha
      · obtain⟨i,hi,ha⟩:=ai ha
        split at ha
        · obtain⟨_,_,ha⟩:=ai ha
          obtain⟨_,_,ha⟩:=ai ha
          obtain rfl:=Option.some.inj ha;exact fun _ _ hx=>nomatch hx
        · obtain⟨_,_,ha⟩:=ai ha
          split at ha
          all_goals
            obtain⟨_,_,ha⟩:=ai ha
            obtain⟨_,_,ha⟩:=ai ha
            obtain rfl:=Option.some.inj ha;exact fun _ _ hx=>nomatch hx
        · obtain rfl:=Option.some.inj ha;exact fun _ _ hx=>nomatch hx
        · simp at ha
      · simp at ha
    case max=>
      simp only[act,ho,hb]at ha
      split at ha
      · obtain⟨_,_,ha⟩:=ai ha
        obtain⟨_,_,ha⟩:=ai ha
        obtain⟨_,_,ha⟩:=ai ha
        obtain⟨_,_,ha⟩:=ai ha
        obtain rfl:=Option.some.inj ha;exact fun _ _ hx=>nomatch hx
      · simp at ha
    case append=>
      simp only[act,ho,hb]at ha
      split at ha
      · obtain⟨_,_,ha⟩:=ai ha
        obtain⟨_,_,ha⟩:=ai ha
        split at ha
        · obtain⟨_,_,ha⟩:=ai ha
          obtain⟨_,_,ha⟩:=ai ha
          split at ha
          · split at ha
            · obtain⟨_,_,ha⟩:=ai ha
              obtain⟨_,_,ha⟩:=ai ha
              obtain⟨_,_,ha⟩:=ai ha
              obtain⟨_,_,ha⟩:=ai ha
              obtain rfl:=Option.some.inj ha;exact fun _ _ hx=>nomatch hx
            · simp at ha
          · simp at ha
        · obtain⟨_,_,ha⟩:=ai ha
          split at ha
          · split at ha
            · obtain⟨_,_,ha⟩:=ai ha
              obtain⟨_,_,ha⟩:=ai ha
              obtain⟨_,_,ha⟩:=ai ha
              obtain⟨_,_,ha⟩:=ai ha
              obtain rfl:=Option.some.inj ha;exact fun _ _ hx=>nomatch hx
            · simp at ha
          · simp at ha
        · simp at ha
      · simp at ha
    all_goals (simp[act,ho,hb]at ha)
   |invoke r m=>simp[act,ho,hb]at ha
   |value g=>
    simp only[act,ho,hb]at ha
    obtain⟨gv,hg,ha⟩:=ai ha
    obtain⟨f,hf,ha⟩:=ai ha
    split at ha
    · rename_i hc
      obtain⟨as,has,ha⟩:=ai ha
      have:gv=.func (.func f.1) f.2.1 f.2.2:=by
        cases gv<;>simp[V.Hy]at hf
        rename_i fn _ _
        cases fn<;>simp[V.Hy]at hf
        subst hf;rfl
      split at ha
      · rename_i hp
        obtain rfl:=Option.some.inj ha
        refine⟨⟨c,g,gv,f.2.1,f.2.2,as,rfl,hb,hg,this,hc.1,hc.2,has,rfl,rfl⟩,?_⟩
        obtain⟨f0,rfl,hp0⟩:=Lw hp
        have h0:gv=.func (.func f0) [] []:=by
          simp only[vk,cf,Option.some.injEq]at hg
          exact hg.symm
        rw[this]at h0
        injection h0 with h1
        injection h1 with h2
        rw[h2];exact hp0
      · rename_i hp
        obtain rfl:=Option.some.inj ha
        exact⟨c,g,gv,f.2.1,f.2.2,as,rfl,hb,hg,this,hc.1,hc.2,has,rfl,rfl,hp⟩
    · simp at ha
  |move y=>
   simp only[act,ho]at ha
   split at ha
   · obtain rfl:=Option.some.inj ha;exact fun r of h=>sz (.inl h)
   · obtain rfl:=Option.some.inj ha;exact fun r of h=>sz (.inr h)
  |assign y=>simp only[act,ho]at ha;obtain rfl:=Option.some.inj ha;exact fun r of h=>sz (.inl h)
  |pick c y z=>
   simp only[act,ho]at ha
   obtain⟨_,_,ha⟩:=ai ha
   obtain⟨b,_,ha⟩:=ai ha
   obtain rfl:=Option.some.inj ha
   cases b
   · exact fun r of h=>sz (.inr h)
   · exact fun r of h=>sz (.inr h)
  |build t parts=>
   simp only[act,ho]at ha
   obtain⟨_,_,ha⟩:=ai ha
   split at ha
   · split at ha
     · obtain⟨_,_,ha⟩:=ai ha;obtain rfl:=Option.some.inj ha;exact fun _ _ hx=>nomatch hx
     · simp at ha
   · obtain⟨_,_,ha⟩:=ai ha
     obtain⟨_,_,ha⟩:=ai ha
     obtain rfl:=Option.some.inj ha;exact fun _ _ hx=>nomatch hx
   · simp at ha
  |buildSlice t n parts=>
   simp only[act,ho]at ha
   obtain⟨_,_,ha⟩:=ai ha
   split at ha
   · obtain⟨_,_,ha⟩:=ai ha
     split at ha
     · obtain⟨_,_,ha⟩:=ai ha;obtain rfl:=Option.some.inj ha;exact fun _ _ hx=>nomatch hx
     · simp at ha
   · simp at ha
  |nilCheck y=>
   simp only[act,ho]at ha
   split at ha
   · rename_i hx
     obtain rfl:=Option.some.inj ha
     obtain⟨a,_,h2⟩:=nr hx
     exact fun r of h=>by cases h;exact⟨a,_,h2⟩
   · obtain⟨_,_,ha⟩:=ai ha;obtain rfl:=Option.some.inj ha;exact fun _ _ hx=>nomatch hx
   · simp at ha
  |binOp op t y z u=>simp only[act,ho]at ha;obtain⟨_,_,ha⟩:=ai ha;obtain rfl:=Option.some.inj ha;exact fun _ _ hx=>nomatch hx
  |unOp op t y=>
   simp only[act,ho]at ha
   obtain⟨_,_,ha⟩:=ai ha
   split at ha
   · obtain⟨_,_,ha⟩:=ai ha;obtain rfl:=Option.some.inj ha;exact fun _ _ hx=>nomatch hx
   · obtain⟨_,_,ha⟩:=ai ha;obtain rfl:=Option.some.inj ha;exact fun _ _ hx=>nomatch hx
   · simp at ha
  |convert s d y=>
   simp only[act,ho]at ha
   obtain⟨_,_,ha⟩:=ai ha
   obtain⟨_,_,ha⟩:=ai ha
   split at ha
   · obtain⟨_,_,ha⟩:=ai ha
     obtain⟨_,_,ha⟩:=ai ha
     obtain rfl:=Option.some.inj ha;exact fun _ _ hx=>nomatch hx
   · obtain⟨_,_,ha⟩:=ai ha
     split at ha
     · obtain⟨_,_,ha⟩:=ai ha
       obtain⟨_,_,ha⟩:=ai ha
       obtain rfl:=Option.some.inj ha;exact fun _ _ hx=>nomatch hx
     · simp at ha
   · simp at ha
  |makeInterface t y=>
   simp only[act,ho]at ha
   obtain⟨_,_,ha⟩:=ai ha
   split at ha
   · simp at ha
   · obtain⟨_,_,ha⟩:=ai ha;obtain rfl:=Option.some.inj ha;exact fun _ _ hx=>nomatch hx
  |makeFunc fn f c=>
   simp only[act,ho]at ha
   split at ha
   · obtain⟨_,_,ha⟩:=ai ha;obtain rfl:=Option.some.inj ha;exact fun _ _ hx=>nomatch hx
   · simp at ha
  |slice t y l hh m=>
   simp only[act,ho]at ha
   obtain⟨_,_,ha⟩:=ai ha
   split at ha
   · split at ha
     · simp at ha
     · obtain⟨_,_,ha⟩:=ai ha
       obtain⟨_,_,ha⟩:=ai ha
       obtain⟨_,_,ha⟩:=ai ha
       obtain⟨_,_,ha⟩:=ai ha
       obtain⟨_,_,ha⟩:=ai ha
       obtain rfl:=Option.some.inj ha;exact fun _ _ hx=>nomatch hx
   · obtain⟨_,_,ha⟩:=ai ha
     obtain⟨_,_,ha⟩:=ai ha
     obtain⟨_,_,ha⟩:=ai ha
     obtain⟨_,_,ha⟩:=ai ha
     obtain⟨_,_,ha⟩:=ai ha
     obtain⟨_,_,ha⟩:=ai ha
     split at ha
     · obtain rfl:=Option.some.inj ha;exact fun _ _ hx=>nomatch hx
     · split at ha
       · obtain⟨_,_,ha⟩:=ai ha
         obtain⟨_,_,ha⟩:=ai ha
         obtain rfl:=Option.some.inj ha;exact fun _ _ hx=>nomatch hx
       · simp at ha
   · obtain⟨_,_,ha⟩:=ai ha
     split at ha
     · simp at ha
     · obtain⟨_,_,ha⟩:=ai ha
       obtain⟨_,_,ha⟩:=ai ha
       obtain⟨_,_,ha⟩:=ai ha
       obtain⟨_,_,ha⟩:=ai ha
       obtain⟨_,_,ha⟩:=ai ha
       obtain rfl:=Option.some.inj ha;exact fun _ _ hx=>nomatch hx
   · simp at ha
  |fieldAddr t y f=>
   simp only[act,ho]at ha
   obtain⟨_,_,ha⟩:=ai ha
   split at ha
   · obtain⟨_,_,ha⟩:=ai ha
     obtain⟨_,_,ha⟩:=ai ha
     split at ha
     · simp at ha
     · split at ha
       · rename_i hx
         obtain rfl:=Option.some.inj ha
         obtain⟨a,_,h2⟩:=nr hx
         exact fun r of h=>by cases h;exact⟨a,_,h2⟩
       · obtain⟨_,_,ha⟩:=ai ha;obtain rfl:=Option.some.inj ha;exact fun _ _ hx=>nomatch hx
       · simp at ha
   · simp at ha
  |field t y f=>
   simp only[act,ho]at ha
   obtain⟨_,_,ha⟩:=ai ha
   split at ha
   · obtain⟨_,_,ha⟩:=ai ha
     obtain⟨_,_,ha⟩:=ai ha
     obtain⟨_,_,ha⟩:=ai ha
     obtain⟨_,_,ha⟩:=ai ha
     split at ha<;>(obtain rfl:=Option.some.inj ha;exact fun _ _ hx=>nomatch hx)
   · simp at ha
  |indexAddr t y i=>
   simp only[act,ho]at ha
   obtain⟨_,_,ha⟩:=ai ha
   split at ha
   · obtain⟨_,_,ha⟩:=ai ha
     obtain⟨_,_,ha⟩:=ai ha
     obtain⟨_,_,ha⟩:=ai ha
     obtain⟨_,_,ha⟩:=ai ha
     obtain⟨_,_,ha⟩:=ai ha
     obtain⟨_,_,ha⟩:=ai ha
     obtain rfl:=Option.some.inj ha;exact fun _ _ hx=>nomatch hx
   · obtain⟨_,_,ha⟩:=ai ha
     obtain⟨_,_,ha⟩:=ai ha
     obtain⟨_,_,ha⟩:=ai ha
     obtain⟨_,_,ha⟩:=ai ha
     obtain⟨_,_,ha⟩:=ai ha
     obtain⟨_,_,ha⟩:=ai ha
     obtain rfl:=Option.some.inj ha;exact fun _ _ hx=>nomatch hx
   · simp at ha
  |lookup t y i k=>
   simp only[act,ho]at ha
   obtain⟨_,_,ha⟩:=ai ha
   split at ha
   · obtain⟨_,_,ha⟩:=ai ha
     obtain⟨_,_,ha⟩:=ai ha
     split at ha
     · obtain⟨_,_,ha⟩:=ai ha
       obtain⟨_,_,ha⟩:=ai ha
       obtain⟨_,_,ha⟩:=ai ha
       obtain⟨_,_,ha⟩:=ai ha
       obtain rfl:=Option.some.inj ha;exact fun _ _ hx=>nomatch hx
     · simp at ha
   · simp at ha
  |index t y i=>
   simp only[act,ho]at ha
   obtain⟨_,_,ha⟩:=ai ha
   split at ha
   · obtain⟨_,_,ha⟩:=ai ha
     obtain⟨_,_,ha⟩:=ai ha
     obtain⟨_,_,ha⟩:=ai ha
     obtain⟨_,_,ha⟩:=ai ha
     obtain⟨_,_,ha⟩:=ai ha
     obtain rfl:=Option.some.inj ha;exact fun _ _ hx=>nomatch hx
   · obtain⟨_,_,ha⟩:=ai ha
     split at ha
     · simp at ha
     · split at ha
       · simp at ha
       · obtain⟨_,_,ha⟩:=ai ha
         obtain⟨_,_,ha⟩:=ai ha
         obtain⟨_,_,ha⟩:=ai ha
         obtain⟨_,_,ha⟩:=ai ha
         obtain⟨_,_,ha⟩:=ai ha
         obtain rfl:=Option.some.inj ha;exact fun _ _ hx=>nomatch hx
   · simp at ha
  |_=>simp[act,ho]at ha
theorem B5 {o:Oper} (h:bj H o=[]):st.clear (bj H o)=st:=by rw[h];rfl
theorem zV {cs:List Cell} {o:Nat} (h:o<cs.length):cs.getD o bZ=cs[o]:=by rw[List.getD_eq_getElem?_getD,List.getElem?_eq_getElem h];rfl
theorem VT {l:List (List Cell)} {r:Nat} (h:l.getD r []≠[]):r<l.length∧l[r]?=some (l.getD r []):=by
 have aG:r<l.length:=by
  rcases Nat.lt_or_ge r l.length with hh|hh
  ·exact hh
  ·exfalso;apply h;rw[List.getD_eq_getElem?_getD,List.getElem?_eq_none hh];rfl
 exact⟨aG,by rw[List.getD_eq_getElem?_getD,List.getElem?_eq_getElem aG];rfl⟩
theorem Gz {t:TypeId} {i:TI} (hT:Mw P t i) {r0:Nat} {p:Place} {q:Nat→Place} {cs:List Cell} (h:lf G w r0 p q cs) {o:Nat} (aG:o<cs.length) (hn:i.size=1) (Mx:i.agg=false):
  ∃x,(loadVar t ⟨r0,o,none⟩).run P w=.ok x w∧je G w (q o) (cs.getD o bZ) x:=by
 obtain⟨cv,el,g1,g2,g3,g4,g5⟩:=h
 have rB:o<cv.size:=by omega
 obtain⟨e1,_⟩:=g5 o _ _ (List.getElem?_eq_getElem aG) (Array.getElem?_eq_getElem rB)
 refine⟨cv[o],?_,by rw[zV aG];exact e1⟩
 have:=mL (w:=w) hT r0 o [cv[o]] (by simp[hn]) (fun j c hj=>by
  cases j with
  |zero=>simp at hj;subst hj;rw[aj g1];simp
  |succ j=>simp at hj) (fun _=>hn)
 rw[Mx]at this
 simpa using this
theorem VU {r0:Nat} {p:Place} {q:Nat→Place} {cs:List Cell} (h:lf G w r0 p q cs) {o:Nat} (aG:o<cs.length):lf G w r0 p q (cs.set o ((cs.getD o bZ).1,false)):=by
 obtain⟨cv,el,g1,g2,g3,g4,g5⟩:=h
 refine⟨cv,el,g1,by simpa using g2,g3,g4,fun j c x hc hx=>?_⟩
 rw[List.getElem?_set]at hc
 split at hc
 ·rename_i hj
  subst hj
  obtain⟨e1,e2⟩:=g5 o _ x (List.getElem?_eq_getElem aG) hx
  obtain rfl:=Option.some.inj hc
  rw[zV aG]
  exact⟨⟨e1.1,fun ho=>by simp at ho⟩,e2⟩
 ·exact g5 j c x hc hx
theorem VV (hC:dN P C) {o:Oper} {r of n:Nat} {ag sl:Bool} (ha:act C H o st.au=some (.xd r of n ag sl)) {K:Out→Option aQ} {res:aQ}
  (hk:apply H call o.dst (st.clear (bj H o)) K (.xd r of n ag sl)=some res):∃out,K out=some res∧kM P C o st out:=by
 obtain⟨t,y,i,ho,hi,hy,rfl,rfl,ZY⟩:=iH ha
 have hT:=hC.T t i hi
 rw[B5 (by simp[bj,ho])]at hk
 simp only[apply]at hk
 split at hk
 ·split at hk
  ·rename_i uG
   obtain⟨aG,Ta,Mx⟩:=uG
   split at hk
   ·rename_i rj
    refine⟨_,hk,fun G lam a w h=>?_⟩
    have eJ:st.bC.getD r []≠[]:=by intro hh;rw[hh]at aG;simp at aG
    have hB:=(BO h r).resolve_right eJ
    obtain⟨adA,BA⟩:=VT eJ
    obtain⟨x,e1,e2⟩:=Gz (P:=P) hT hB aG Ta Mx
    have hI':=h.od (Ext.refl _ _) ⟨fun i p hp _=>⟨rfl,rfl,hp⟩⟩ h.bP.wf (VU hB aG)
    have Xs:¬St.th {st with bC:=st.bC.set r ((st.bC.getD r []).set of (((st.bC.getD r []).getD of bZ).1,false))} (.lc r of):=by
     rintro⟨cs,v,hcs,hv⟩
     simp only[List.getElem?_set,if_true,if_pos adA,Option.some.injEq]at hcs
     subst hcs
     rw[List.getElem?_set]at hv
     simp at hv
    obtain⟨G',x1,x2,x3,x4⟩:=hI'.token (q:=.ry (o.dst.getD 0)) (e2.2 rj) Xs (by simp) (by simp)
    refine upon_value (c:=x) (w':=w) (by simp[execOp,ho,Instr.loadAt,Instr.sureAddr,kr h hy,e1]) ⟨_,G',lam,rfl,x1,x2.put o.dst _ _ fun d hd=>⟨e2.1.mono x1,fun _=>?_⟩⟩
    rw[hd]at x3;exact x3
   ·simp at hk
  ·simp at hk
 ·obtain⟨v,hv,hk⟩:=ai hk
  refine⟨_,hk,fun G lam a w h=>?_⟩
  obtain⟨x,e1,e2⟩:=vy (P:=P) hT (BO h r) hv
  exact upon_value (c:=x) (w':=w) (by simp[execOp,ho,Instr.loadAt,Instr.sureAddr,kr h hy,e1]) ⟨_,G,lam,rfl,Ext.refl _ _,h.put o.dst _ x fun d _=>⟨e2,fun hh=>by simp at hh⟩⟩
theorem Jf (h:Inv C.bN G lam a w st) {b:Nat} {cs:List Cell} (hb:st.bP[b]?=some cs):lf G w (G.μ b) (.eZ b) (fun j=>.gc b j) cs∧b<st.bP.length:=
 ⟨h.bP.eZ b cs hb,(List.getElem?_eq_some_iff.1 hb).1⟩
theorem DZ (hC:dN P C) (h:Inv C.bN G lam a w st) {t:TypeId} {i:TI} (hi:C.T t=some i) {p:V} {c:Value} (hp:Rel G w p c) {v:V} (hv:bu st.bP p i.agg i.size=some v):
  ∃x,(Instr.loadAt t c).run P w=.ok x w∧Rel G w v x:=by
 have hT:=hC.T t i hi
 cases p with
 |ptr tt b o=>
  cases hp
  simp only[bu]at hv
  obtain⟨cs,hcs,hv⟩:=ai hv
  obtain⟨x,e1,e2⟩:=vy (P:=P) hT (.inl (Jf h hcs).1) hv
  exact⟨x,by simp[Instr.loadAt,Instr.sureAddr,e1],e2⟩
 |eL k e o=>exact uE hT hp hv
 |_=>simp[bu]at hv
theorem VW (hC:dN P C) {o:Oper} {p:V} {n:Nat} {ag:Bool} (ha:act C H o st.au=some (.vz p n ag)) {K:Out→Option aQ} {res:aQ}
  (hk:apply H call o.dst (st.clear (bj H o)) K (.vz p n ag)=some res):∃out,K out=some res∧kM P C o st out:=by
 obtain⟨t,y,i,ow,ho,hi,hy,rfl,rfl⟩:=iH ha
 rw[B5 (by simp[bj,ho])]at hk
 simp only[apply]at hk
 obtain⟨v,hv,hk⟩:=ai hk
 refine⟨_,hk,fun G lam a w h=>?_⟩
 obtain⟨x,e1,e2⟩:=DZ hC h hi (gX h hy).1 hv
 exact upon_value (c:=x) (w':=w) (by simp[execOp,ho,e1]) ⟨_,G,lam,rfl,Ext.refl _ _,h.put o.dst _ x fun d _=>⟨e2,fun hh=>by simp at hh⟩⟩
theorem R7 (hC:dN P C) {o:Oper} {p:V} (ha:act C H o st.au=some (.nH p)) {K:Out→Option aQ} {res:aQ}
  (hk:apply H call o.dst (st.clear (bj H o)) K (.nH p)=some res):∃out,K out=some res∧kM P C o st out:=by
 obtain⟨t,y,i,ow,ho,hi,hy,hn,Mx⟩:=iH ha
 have hT:=hC.T t i hi
 rw[B5 (by simp[bj,ho])]at hk
 simp only[apply]at hk
 obtain⟨v,hv,hk⟩:=ai hk
 cases p with
 |ptr tt b of=>
  simp only[fk]at hv
  obtain⟨cs,hcs,hv⟩:=ai hv
  split at hv
  ·rename_i aG
   split at hv
   ·rename_i rj
    obtain rfl:=Option.some.inj hv
    refine⟨_,hk,fun G lam a w h=>?_⟩
    obtain⟨hB,Fh⟩:=Jf h hcs
    obtain⟨x,e1,e2⟩:=Gz (P:=P) hT hB aG hn Mx
    have hI':=h.iO Fh (Ext.refl _ _) ⟨fun i p hp _=>⟨rfl,rfl,hp⟩⟩ h.bP.wf (VU hB aG) (h.bP.typed b Fh)
    have Xs:¬St.th {st with bP:=st.bP.set b (cs.set of ((cs.getD of bZ).1,false))} (.gc b of):=by
     rintro⟨ta,v',FH,QM⟩
     simp only[List.getElem?_set,if_true,if_pos Fh,Option.some.injEq]at FH
     subst FH
     rw[List.getElem?_set]at QM
     simp at QM
    obtain⟨G',x1,x2,x3,x4⟩:=hI'.token (q:=.ry (o.dst.getD 0)) (e2.2 rj) Xs (by simp) (by simp)
    have Xc:a.eval y=.pointer (some ⟨G.μ b,of,none⟩):=by
     have:=(gX h hy).1
     generalize a.eval y=c at this
     cases this;rfl
    refine upon_value (c:=x) (w':=w) (by simp[execOp,ho,Instr.loadAt,Instr.sureAddr,Xc,e1]) ⟨_,G',lam,rfl,x1,x2.put o.dst _ _ fun d hd=>⟨e2.1.mono x1,fun _=>?_⟩⟩
    rw[hd]at x3;exact x3
   ·simp at hv
  ·simp at hv
 |_=>simp[fk]at hv
theorem D3 {t:TypeId} {i:TI} {v:V} {c:Value} (h:Rel G w v c) (hf:v.fits i.agg i.size=true):c.cells.size=i.size:=(vw h hf).2.1
theorem VX (hC:dN P C) {o:Oper} {r of:Nat} {cs:List Cell} (ha:act C H o st.au=some (.xe r of cs)) {K:Out→Option aQ} {res:aQ}
  (hk:apply H call o.dst (st.clear (bj H o)) K (.xe r of cs)=some res):∃out,K out=some res∧kM P C o st out:=by
 obtain⟨t,y,z,i,c,ho,hi,hc,hf,hy,rfl⟩:=iH ha
 have hT:=hC.T t i hi
 have gE:bj H o=dE z:=by simp[bj,ho]
 simp only[apply]at hk
 have hlc:(st.clear (bj H o)).bC=st.bC:=rfl
 rw[hlc]at hk
 split at hk
 ·rename_i hle
  refine⟨_,hk,fun G lam a w h=>?_⟩
  have Xc:=kr h hy
  obtain⟨G1,x1,x2,x3,x4,x5⟩:=vx h hc gE (.lc r of)
  obtain⟨k1,k2,k3⟩:=vv x3 hf (fun j=>.lc r (of+j)) (fun h1=>x4 h1)
  have iM:=D3 (t:=t) x3 hf
  by_cases h0:i.size=0
  · -- nothing is written
   have yX:fY c.1 c.2 i.agg i.size=[]:=by apply List.eq_nil_of_length_eq_zero;rw[k1];exact h0
   have lQ:(a.eval z).cells.toList=[]:=by apply List.eq_nil_of_length_eq_zero;rw[k2];exact h0
   refine wz (w':=w) ?_ ⟨_,G1,lam,rfl,x1,?_⟩
   ·simp[execOp,ho,Instr.storeAt,Xc,Instr.sureAddr,storeVar,cZ hT,iM,lQ,storeCells]
   ·rw[yX]
    have:st.bC.set r (setCells (st.bC.getD r []) of [])=st.bC:=by
     simp only[setCells]
     apply List.ext_getElem?
     intro j
     rw[List.getElem?_set]
     split
     ·rename_i hj
      subst hj
      split
      ·rename_i aG
       rw[List.getD_eq_getElem?_getD,List.getElem?_eq_getElem aG];rfl
      ·rename_i aG;rw[List.getElem?_eq_none (by omega)]
     ·rfl
    rw[this]
    exact x2.put o.dst _ _ fun _ _=>trivial
  ·have eJ:st.bC.getD r []≠[]:=by
    intro hh
    rw[hh,k1]at hle
    simp only[List.length_nil]at hle
    omega
   have hB:=(BO x2 r).resolve_right eJ
   rw[hlc]at hB
   obtain⟨w1,w2,w3,w4,w5⟩:=AH (P:=P) x2.bP.wf hB (by simp) of (a.eval z).cells.toList (fY c.1 c.2 i.agg i.size) (by rw[k1,k2]) hle k3
   have hI:=x2.od w2 (w3 _ (by simp)) w4 w5
   refine wz (w':=putCells w (lam r) of (a.eval z).cells.toList) ?_ ⟨_,G1,lam,rfl,x1.trans w2,hI.put o.dst _ _ fun _ _=>trivial⟩
   simp[execOp,ho,Instr.storeAt,Xc,Instr.sureAddr,storeVar,cZ hT,iM,w1]
 ·simp at hk
theorem VY (hC:dN P C) {o:Oper} {p:V} {cs:List Cell} (ha:act C H o st.au=some (.yR p cs)) {K:Out→Option aQ} {res:aQ}
  (hk:apply H call o.dst (st.clear (bj H o)) K (.yR p cs)=some res):∃out,K out=some res∧kM P C o st out:=by
 obtain⟨t,y,z,i,c,ow,ho,hi,hc,hf,hy,rfl⟩:=iH ha
 have hT:=hC.T t i hi
 have gE:bj H o=dE z:=by simp[bj,ho]
 simp only[apply]at hk
 obtain⟨σ,wR,hk⟩:=ai hk
 refine⟨_,hk,fun G lam a w h=>?_⟩
 have hlc:(st.clear (bj H o)).bP=st.bP:=rfl
 rw[hlc]at wR
 cases p with
 |ptr tt b of=>
  simp only[aV]at wR
  obtain⟨cs,hcs,wR⟩:=ai wR
  split at wR
  ·rename_i hle
   obtain rfl:=Option.some.inj wR
   have Xc:a.eval y=.pointer (some ⟨G.μ b,of,none⟩):=by
    have:=(gX h hy).1
    generalize a.eval y=c at this
    cases this;rfl
   obtain⟨G1,x1,x2,x3,x4,x5⟩:=vx h hc gE (.gc b of)
   obtain⟨k1,k2,k3⟩:=vv x3 hf (fun j=>.gc b (of+j)) (fun h1=>x4 h1)
   have iM:=D3 (t:=t) x3 hf
   have Fh:b<st.bP.length:=(List.getElem?_eq_some_iff.1 hcs).1
   have Ms:G1.μ b=G.μ b:=x1.μ b (by rw[h.bP.N];exact Fh)
   obtain⟨hB,_⟩:=Jf x2 (b:=b) (cs:=cs) hcs
   obtain⟨w1,w2,w3,w4,w5⟩:=AH (P:=P) x2.bP.wf hB (by simp) of (a.eval z).cells.toList (fY c.1 c.2 i.agg i.size) (by rw[k1,k2]) hle k3
   have htt:∃cv fr,(putCells w (G1.μ b) of (a.eval z).cells.toList).heap[G1.μ b]?=some (.cells cv (G1.ty b) fr):=by
    obtain⟨cv,fr,q1⟩:=x2.bP.typed b Fh
    rw[n9,if_pos rfl,q1]
    exact⟨_,_,rfl⟩
   have hI:=x2.iO (b:=b) Fh w2 (w3 _ (by simp)) w4 w5 htt
   refine wz (w':=putCells w (G1.μ b) of (a.eval z).cells.toList) ?_ ⟨_,G1,lam,rfl,x1.trans w2,hI.put o.dst _ _ fun _ _=>trivial⟩
   rw[Ms]at w1 ⊢
   simp[execOp,ho,Instr.storeAt,Xc,Instr.sureAddr,storeVar,cZ hT,iM,w1]
  ·simp at wR
 |_=>simp[aV]at wR
end
end Go.Ab
end
section
namespace Go.Ab
section
variable {P:Program} {C:Ctx} {H:Hints} {call:af} {G:Gh} {lam:Nat→Nat} {a:Act} {w:World} {st:St}
theorem D4 {p:Place} {c:Cell} {x:Value} (wf:WF G w) (h:je G w p c x) {G':Gh} {o:Obj} (e:Ext G w G' (w.alloc o)) (hl:∀i,i<w.heap.size→G'.ah i=G.ah i∧G'.owner i=G.owner i):je G' (w.alloc o) p c x:=
 h.move e fun _ i hi=>by
  have:=fV wf hi
  obtain⟨h1,h2⟩:=hl i this
  exact⟨aO this,h1,by rw[h2];exact hi⟩
theorem Inv.aaZ (h:Inv C.bN G lam a w st) {d:Nat} (wQ:∀(r:Nat) x,st.au[r]?=some x→rF d x=false) (cs:List Cell) (xs:Array Value) (el:TypeId) (hl:xs.size=cs.length)
  (hx:∀(j:Nat) c x,cs[j]?=some c→xs[j]?=some x→je G w (.lc d j) c x∧x.oneCell'=true):
  Ext G w (G.new w 0 (some (.box d))) (w.alloc (.cells xs el))∧Inv C.bN (G.new w 0 (some (.box d))) (lX lam d w.heap.size) a (w.alloc (.cells xs el)) {st with bC:=st.bC.set d cs}:=by
 have hE:=Ext.alloc h.bP.wf (.cells xs el) 0 (some (.box d))
 have hI:=h.alloc (.cells xs el) 0 (some (.box d))
 refine⟨hE,hI.defers,hI.len,by simpa using hI.jL,fun r x hr=>?_,fun r ta hc eJ=>?_,hI.bP⟩
 ·have:=hI.au r x hr
  have hn:=wQ r x hr
  cases x with
  |eK r' o'=>
   simp[rF]at hn
   simp only[vD]at this ⊢
   rw[bB _ _ hn]
   exact this
  |dead=>trivial
  |val v ow=>exact this
  |oH cs=>exact this
 ·simp only[List.getElem?_set]at hc
  split at hc
  ·rename_i hd
   subst hd
   split at hc
   ·obtain rfl:=Option.some.inj hc
    rw[jK]
    refine⟨xs,el,heap_alloc_new _ _,hl,by show lX G.owner _ _ _=_;simp,by show lX G.ah _ _ _=_;simp,fun j c x hc w7=>?_⟩
    obtain⟨e1,e2⟩:=hx j c x hc w7
    exact⟨D4 h.bP.wf e1 hE fun i hi=>⟨bB _ _ (by omega),bB _ _ (by omega)⟩,e2⟩
   ·simp at hc
  ·rename_i hd
   rw[bB _ _ (fun hh=>hd hh.symm)]
   exact hI.bC r ta hc eJ
theorem Inv.Uf (h:Inv C.bN G lam a w st) (cs:List Cell) (xs:Array Value) (el:TypeId) (hl:xs.size=cs.length)
  (hx:∀(j:Nat) c x,cs[j]?=some c→xs[j]?=some x→je G w (.gc st.bP.length j) c x∧x.oneCell'=true):
  ∃G',Ext G w G' (w.alloc (.cells xs el))∧Inv C.bN G' lam a (w.alloc (.cells xs el)) {st with bP:=st.bP++[cs]}∧G'.N=st.bP.length+1∧G'.μ st.bP.length=w.heap.size∧G'.ty st.bP.length=el:=by
 let G1:=G.new w 0 (some (.eZ st.bP.length))
 let G':Gh:={G1 with N:=st.bP.length+1,μ:=lX G.μ st.bP.length w.heap.size,ty:=lX G.ty st.bP.length el}
 have hN:=h.bP.N
 have hE0:=Ext.alloc h.bP.wf (.cells xs el) 0 (some (.eZ st.bP.length))
 have hE:Ext G w G' (w.alloc (.cells xs el)):=
  ⟨by show G.N≤st.bP.length+1;omega,fun b hb=>bB _ _ (by omega),fun b hb=>bB _ _ (by omega),hE0.ah,hE0.fE,rfl,rfl,rfl,hE0.size,hE0.rv⟩
 have hK:∀fl:Place→Prop,mM G w G' (w.alloc (.cells xs el)) fl:=fun fl=>⟨fun i q hq _=>by
  have:=fV h.bP.wf hq
  exact⟨aO this,bB _ _ (by omega),by show lX G.owner _ _ i=_;rw[bB _ _ (by omega)];exact hq⟩⟩
 have hWF:WF G' (w.alloc (.cells xs el)):=fun i hi=>h.bP.wf.alloc (.cells xs el) 0 (some (.eZ st.bP.length)) i hi
 refine⟨G',hE,⟨h.defers,h.len,h.jL,fun r x hr=>(h.au r x hr).move hE (hK fun _=>True) (fun _ _=>trivial) (fun _ _ _ _ _=>trivial),
  fun r ta hc eJ=>(h.bC r ta hc eJ).move hE (hK fun _=>True) trivial (fun _ _ _=>trivial),hWF,fun g cs hg=>(h.bP.bN g cs hg).mono hE,by simp[G'],fun b hb=>?_,fun b ta hb=>?_,h.bP.PE.mono hE⟩,rfl,by simp[G'],by simp[G']⟩
 ·show ∃cv fr,(w.alloc (.cells xs el)).heap[lX G.μ st.bP.length w.heap.size b]?=some (.cells cv (lX G.ty st.bP.length el b) fr)
  by_cases aG:b<st.bP.length
  ·rw[bB _ _ (by omega),bB _ _ (by omega)]
   obtain⟨cv,fr,q1⟩:=h.bP.typed b aG
   obtain⟨_,_,_,_,q3,_⟩:=h.bP.eZ b st.bP[b] (List.getElem?_eq_getElem aG)
   exact⟨cv,fr,by rw[aO (fV h.bP.wf q3)];exact q1⟩
  ·have JM:b=st.bP.length:=by simp at hb;omega
   subst JM
   rw[jK,jK]
   exact⟨xs,_,heap_alloc_new _ _⟩
 by_cases aG:b<st.bP.length
 ·rw[List.getElem?_append_left aG]at hb
  show lf G' _ (lX G.μ st.bP.length w.heap.size b) _ _ _
  rw[bB _ _ (by omega)]
  exact(h.bP.eZ b ta hb).move hE (hK fun _=>True) trivial (fun _ _ _=>trivial)
 ·rw[List.getElem?_append_right (by omega)]at hb
  have JM:b=st.bP.length:=by
   have:=(List.getElem?_eq_some_iff.1 hb).1
   simp at this;omega
  subst JM
  simp at hb
  subst hb
  show lf G' _ (lX G.μ st.bP.length w.heap.size st.bP.length) _ _ _
  rw[jK]
  refine⟨xs,el,heap_alloc_new _ _,hl,by show lX G.owner _ _ _=_;simp,by show lX G.ah _ _ _=_;simp,fun j c x hc w7=>?_⟩
  obtain⟨e1,e2⟩:=hx j c x hc w7
  exact⟨D4 h.bP.wf e1 hE fun i hi=>⟨bB _ _ (by omega),bB _ _ (by omega)⟩,e2⟩
theorem A3 (hC:dN P C) {o:Oper} {cs:List Cell} (h:Inv C.bN G lam a w st) (hc:(∃t i,o.op=.alloc t∧C.T t=some i∧i.kZ=false∧cs=i.zero.map fun v=>(v,v.HD))∨∃t x i c,o.op=.box t x∧C.T t=some i∧ck C st.au t x=some c∧c.1.fits i.agg i.size=true∧cs=fY c.1 c.2 i.agg i.size) (q:Nat→Place):
    ∃xs el G1,(execOp a.eval o).run P w=.ok (.value (.pointer (some ⟨w.heap.size,0,none⟩))) (w.alloc (.cells xs el))∧xs.size=cs.length∧Ext G w G1 w∧Inv C.bN G1 lam a w (st.clear (bj H o))∧G1.N=G.N∧
     (∀(j:Nat) c x,cs[j]?=some c→xs[j]?=some x→je G1 w (q j) c x∧x.oneCell'=true)∧(o.op=.alloc el∨∃x,o.op=.box el x):=by
  rcases hc with⟨t,i,ho,hi,rD,rfl⟩|⟨t,x,i,c,ho,hi,hck,hf,rfl⟩
  · have hT:=hC.T t i hi
    rcases hT.zero with⟨n,hn⟩|⟨info,z,e1,e2,e3,e4,e5⟩
    · simp[TI.kZ,hn]at rD
    · refine⟨z.cells,t,G,?_,by simp only[Array.length_toList]at e3;simp[e3],Ext.refl _ _,h.clear _,rfl,fun j c x hc hx=>?_,.inl ho⟩
      · have hz:(zeroValue t).run P w=.ok z w:=by simp[zeroValue,fA e1,e2]
        simp[execOp,ho,Instr.alloc,hz,newVar,newRow]
      · simp only[List.getElem?_map,Option.map_eq_some_iff]at hc
        obtain⟨v,hv,rfl⟩:=hc
        obtain⟨w1,w2,w3⟩:=Cx (e5 j v x hv (by simpa using hx)) G w
        exact⟨⟨w1,fun _=>w2 _⟩,w3⟩
  · have gE:bj H o=dE x:=by simp[bj,ho]
    obtain⟨G1,x1,x2,x3,x4,x5⟩:=vx h hck gE (q 0)
    obtain⟨k1,k2,k3⟩:=vv x3 hf q (fun h1=>x4 h1)
    refine⟨(a.eval x).cells,t,G1,by simp[execOp,ho,Instr.box,newVar,newRow],by rw[k1];simpa using k2,x1,x2,x5,fun j c x hc hx=>k3 j c x hc (by simpa using hx),.inr ⟨x,ho⟩⟩
theorem VZ (hC:dN P C) {o:Oper} {cs:List Cell} (ha:act C H o st.au=some (.rl cs)) {K:Out→Option aQ} {res:aQ}
  (hk:apply H call o.dst (st.clear (bj H o)) K (.rl cs)=some res):∃out,K out=some res∧kM P C o st out:=by
 have hinv:=iH ha
 simp only[apply]at hk
 split at hk
 ·rename_i d hd
  split at hk
  ·rename_i uG
   obtain⟨aG,eJ,gZ⟩:=uG
   refine⟨_,hk,fun G lam a w h=>?_⟩
   obtain⟨xs,el,G1,r1,r2,r3,r4,r5,r6,_⟩:=A3 (P:=P) (H:=H) hC h hinv (fun j=>.lc d j)
   obtain⟨y1,y2⟩:=r4.aaZ (d:=d) (fun r x hx=>by
    rw[List.all_eq_true]at gZ
    have:=gZ x (List.mem_iff_getElem?.2 ⟨r,hx⟩)
    simpa using this) cs xs el r2 r6
   refine upon_value r1 ⟨_,_,lX lam d w.heap.size,rfl,r3.trans y1,?_⟩
   rw[hd]
   exact y2.put (some d) (.eK d 0) _ fun d' D5=>by simp[vD]
  ·simp at hk
 ·simp at hk
theorem V0 (hC:dN P C) {o:Oper} {t:TypeId} {cs:List Cell} (ha:act C H o st.au=some (.vA t cs)) {K:Out→Option aQ} {res:aQ}
  (hk:apply H call o.dst (st.clear (bj H o)) K (.vA t cs)=some res):∃out,K out=some res∧kM P C o st out:=by
 have hinv:=iH ha
 simp only[apply]at hk
 split at hk
 ·rename_i d hd
  refine⟨_,hk,fun G lam a w h=>?_⟩
  obtain⟨xs,el,G1,r1,r2,r3,r4,r5,r6,r7⟩:=A3 (P:=P) (H:=H) hC h hinv.1 (fun j=>.gc st.bP.length j)
  have XM:el=t:=by
   rcases hinv.2 with e1|⟨_,e1⟩<;>rcases r7 with e2|⟨_,e2⟩<;>(rw[e1]at e2;cases e2)<;>rfl
  obtain⟨G',y1,y2,y3,y4,y5⟩:=r4.Uf cs xs el r2 r6
  refine upon_value r1 ⟨_,G',lam,rfl,r3.trans y1,?_⟩
  rw[hd]
  refine y2.put (some d) (.val (.ptr t st.bP.length 0) false) _ fun d' D5=>⟨?_,fun ho=>by simp at ho⟩
  have hs:(st.clear (bj H o)).bP.length=st.bP.length:=rfl
  rw[hs]at y3 y4 y5
  rw[←y4]
  exact .ptr _ _ _ (by omega) (y5.trans XM)
 ·simp at hk
theorem Lx {o:Oper} {r i:Nat} (ha:act C H o st.au=some (.gR r i)) {K:Out→Option aQ} {res:aQ}
  (hk:apply H call o.dst (st.clear (bj H o)) K (.gR r i)=some res):∃out,K out=some res∧kM P C o st out:=by
 have ho:=iH ha
 simp only at ho
 rw[B5 (by simp[bj,ho])]at hk
 simp only[apply]at hk
 split at hk
 ·rename_i cs hcs
  split at hk
  ·rename_i c hc
   refine⟨_,hk,fun G lam a w h=>?_⟩
   have hr:=jO h r
   rw[hcs]at hr
   obtain⟨xs,e1,e2,e3⟩:=hr
   have hi:i<xs.length:=by rw[e2];exact(List.getElem?_eq_some_iff.1 hc).1
   have hx:xs[i]?=some xs[i]:=List.getElem?_eq_getElem hi
   have Xv:=e3 i c _ hc hx
   have iS:(execOp a.eval o).run P w=.ok (.value xs[i]) w:=by
    simp[execOp,ho,e1,Instr.extract,hx]
   -- the token leaves the tuple
   have hI':Inv C.bN G lam a w (st.cD r (.oH (cs.set i (c.1,false)))):=by
    have:=h.put none (.dead) undef (by simp)
    refine⟨h.defers,by simp[St.cD,h.len],by simp[St.cD,h.jL],fun r' x w7=>?_,h.bC,h.bP⟩
    simp only[St.cD,List.getElem?_set]at w7
    split at w7
    ·rename_i WZ
     subst WZ
     split at w7
     ·obtain rfl:=Option.some.inj w7
      refine⟨xs,e1,by simp[e2],fun j y v hy hv=>?_⟩
      rw[List.getElem?_set]at hy
      split at hy
      ·rename_i hj
       subst hj
       split at hy
       ·obtain rfl:=Option.some.inj hy
        exact⟨(e3 i c v hc hv).1,fun ho=>by simp at ho⟩
       ·simp at hy
      ·exact e3 j y v hy hv
     ·simp at w7
    ·exact h.au r' x w7
   obtain⟨v,ow⟩:=c
   cases ow with
   |false=>exact upon_value iS ⟨_,G,lam,rfl,Ext.refl _ _,hI'.put o.dst _ _ fun d _=>⟨Xv.1,fun ho=>by simp at ho⟩⟩
   |true=>
    have Xs:¬St.th (st.cD r (.oH (cs.set i (v,false)))) (.oH r i):=by
     rintro⟨ta,v',FH,QM⟩
     simp only[St.cD,List.getElem?_set,if_true]at FH
     split at FH
     ·simp at FH
      subst FH
      rw[List.getElem?_set]at QM
      simp at QM
     ·simp at FH
    obtain⟨G',x1,x2,x3,x4⟩:=hI'.token (q:=.ry (o.dst.getD 0)) (Xv.2 rfl) Xs (by simp) (by simp)
    refine upon_value iS ⟨_,G',lam,rfl,x1,x2.put o.dst _ _ fun d hd=>⟨Xv.1.mono x1,fun _=>?_⟩⟩
    rw[hd]at x3;exact x3
  ·simp at hk
 ·simp at hk
theorem YL {o:Oper} {v:V} (ha:act C H o st.au=some (.fB v)) {K:Out→Option aQ} {res:aQ}
  (hk:apply H call o.dst (st.clear (bj H o)) K (.fB v)=some res):∃out,K out=some res∧kM P C o st out:=by
 obtain⟨x,ho,hv,t,u,rfl⟩:=iH ha
 simp only[apply]at hk
 refine⟨_,hk,fun G lam a w h=>?_⟩
 have hr:=fW h hv
 have BQ:(st.clear (bj H o)).bP=st.bP:=rfl
 generalize hc:a.eval x=c at hr
 cases hr with
 |iface _ _ c hu=>
  unfold Oper.wp
  have:(execOp a.eval o).run P w=.halt (.panic (.iface t c)) w:=by
   simp[execOp,ho,hc,Instr.panic]
  rw[this]
  exact⟨_,_,.iface t c,G,rfl,rfl,.iface _ _ _ hu,Ext.refl _ _,h.bP,h.defers⟩
theorem fx {G:Gh} {w:World} {v:V} {c:Value} (h:Rel G w v c) (o:Nat→Option Place):Rel {G with owner:=o} w v c:=by
 induction h with
 |any c h=>exact .any c h
 |bool b=>exact .bool b
 |int k n=>exact .int k n
 |str s=>exact .str s
 |kc=>exact .kc
 |ptr t b o hb ht=>exact .ptr (G:={G with owner:=_}) t b o hb ht
 |eL k e o b off cs h1 h2 h3 h4 _ ih=>exact .eL k e o b off cs h1 h2 h3 h4 ih
 |pJ=>exact .pJ
 |rh k e=>exact .rh k e
 |slice k et es b off c cs h1 h2 h3 h4 h5 h6 _ ih=>exact .slice k et es b off c cs h1 h2 h3 h4 h5 h6 ih
 |func fn first cap f c h1 h2 _ _ Xx Xy=>exact .func fn first cap f c h1 h2 Xx Xy
 |nilFunc=>exact .nilFunc
 |iface t v c _ ih=>exact .iface t v c ih
 |nilIface=>exact .nilIface
 |agg cs xs h1 h2 _ ih=>exact .agg cs xs h1 h2 ih
 |lit c h=>exact .lit c h
 |full k et es c _ h2 ih=>exact .full k et es c ih h2
 |map es b bY clock h1 h2 h3=>exact .map es b bY clock h1 h2 h3
 |row k et es a n cap h1 h2=>exact .row k et es a n cap h1 h2
 |jM ks es b=>exact .jM ks es b
theorem YM {v:V} {c:Value} (h:∀p,Own G w p v c) (G':Gh) (w':World) (q:Place):Own G' w' q v c:=by
 rcases(h (.box 0)).cut with h0|_
 ·exact h0 _ _ _
 ·unfold Own at h ⊢
  split
  ·obtain⟨_,_,h0,_⟩:=h (.box 0)
   obtain⟨_,_,h1,_⟩:=h (.box 1)
   rw[h0]at h1;simp at h1
  ·obtain⟨h0,_⟩:=h (.box 0)
   obtain⟨h1,_⟩:=h (.box 1)
   rw[h0]at h1;simp at h1
  ·obtain⟨h0,_⟩:=h (.box 0)
   obtain⟨h1,_⟩:=h (.box 1)
   rw[h0]at h1;simp at h1
  ·exact h (.box 0)
  ·trivial
def ij:List Operand→Nat→Option Nat
  |[],_=>none
  |x::xs,t=>match x with
   |.tmp r=>if r=t then some 0 else(ij xs t).map (·+1)
   |_=>(ij xs t).map (·+1)
theorem GA:∀{l:List Operand} {t k:Nat},ij l t=some k→k<l.length
  |[],_,_,h=>by simp[ij]at h
  |x::xs,t,k,h=>by
   simp only[ij]at h
   have key:(ij xs t).map (·+1)=some k→k<(x::xs).length:=by
     intro h
     obtain⟨j,hj,rfl⟩:=Option.map_eq_some_iff.1 h
     have:=GA hj
     simp;omega
   cases x with
   |tmp r=>
    simp only at h
    split at h
    · simp at h;subst h;simp
    · exact key h
   |_=>exact key h
theorem wA:∀{l:List Operand} {t k:Nat},ij l t=some k→(l.flatMap dE).contains t=true
  |[],_,_,h=>by simp[ij]at h
  |x::xs,t,k,h=>by
   simp only[ij]at h
   have key:(ij xs t).map (·+1)=some k→((x::xs).flatMap dE).contains t=true:=by
     intro h
     obtain⟨j,hj,rfl⟩:=Option.map_eq_some_iff.1 h
     have:=wA hj
     simp only[List.contains_iff_mem]at this ⊢
     simp only[List.flatMap_cons,List.mem_append]
     exact .inr this
   cases x with
   |tmp r=>
    simp only at h
    split at h
    · rename_i hr
      simp[dE,hr]
    · exact key h
   |_=>exact key h
theorem GB:∀{l:List Operand} {t k:Nat},distinct (l.flatMap dE)=true→l[k]?=some (.tmp t)→ij l t=some k
 |[],_,_,_,h=>by simp at h
 |x::xs,t,k,hd,h=>by
  cases k with
  |zero=>
   simp at h
   subst h
   simp[ij]
  |succ k=>
   simp at h
   have D5:distinct (xs.flatMap dE)=true:=by
    cases x with
    |tmp r=>simp[dE,distinct]at hd;exact hd.2
    |_=>simpa[dE]using hd
   have ih:=GB D5 h
   cases x with
   |tmp r=>
    have eJ:r≠t:=by
     rintro rfl
     have hm:=wA ih
     simp[dE,distinct]at hd
     simp only[List.contains_iff_mem,List.mem_flatMap]at hm
     obtain⟨y,hy,Ie⟩:=hm
     exact hd.1 y hy Ie
    simp[ij,eJ,ih]
   |_=>simp[ij,ih]
def cI (o:Nat→Option Place) (args:List Operand) (n:Nat):Nat→Option Place:=fun i=>match o i with
 |some (.eZ b)=>some (.eZ b)
 |some (.gc b j)=>some (.gc b j)
 |some (.ry t)=>(ij args t).map fun k=>.ry (n+k)
 |_=>none
def pe (d n:Nat):Option Place→Option Place
 |some (.eZ b)=>some (.eZ b)
 |some (.gc b j)=>some (.gc b j)
 |some (.res j)=>some (if n=1 then .ry d else .oH d j)
 |_=>none
theorem GD (dW:ji P C call) {o:Oper} {f:FuncId} {args:List Cell} {n:Nat} (ha:∃c g gv first cap as,o.op=.call c∧c.callee=.value g∧vk C st.au 0 g=some gv∧gv=.func (.func f) first cap∧c.args.size=c.argTypes.size∧distinct (c.args.toList.flatMap dE)=true∧
    fF C st.au (c.args.toList.zip c.argTypes.toList)=some as∧args=first.map (fun v=>(v,false))++as++cap.map (fun v=>(v,false))∧n=MI C o.type) {K:Out→Option aQ} {res:aQ}
  (hk:apply H call o.dst (st.clear (bj H o)) K (.call f args n)=some res):∃out,K out=some res∧kM P C o st out:=by
 obtain⟨c,g,gv,first,cap,as,ho,hb,hg,rfl,iM,acs,has,CN,hn⟩:=ha
 have gE:bj H o=c.args.toList.flatMap dE:=by simp[bj,ho,hb]
 simp only[apply]at hk
 have adB:(st.clear (bj H o)).bP=st.bP:=rfl
 rw[adB]at hk
 cases hr:call f args st.bP with
 |none=>rw[hr]at hk;simp at hk
 |some r=>
  rw[hr]at hk
  simp only at hk
  obtain⟨adC,aa0⟩:=dW f args st.bP r hr
  -- what is common to both ends
  have common:∀G lam a w,Inv C.bN G lam a w st→∀(K':Act→World→Prop) (Q':Exit→Act→World→Prop),
    (∀en w' G' Gc,Gc={G with owner:=cI G.owner c.args.toList first.length}→Ext G w Gc w→Ext Gc w G' w'→dR C.bN G' w' r.2→D0 G' w' r.1 en→
     match en with
     |.returned v=>K' (a.put o.dst v) w'
     |.panicked chain=>Q' (.panic chain) a w'
     |.outgrown=>LetsOut Q')→o.wp P a w K' Q':=by
   intro G lam a w h K' Q' uA
   have hgr:=fW h hg
   generalize S8:a.eval g=aey at hgr
   cases hgr with
   |func _ _ _ fv cv f1 f2 f3 f4=>
    obtain⟨k1,k2⟩:=pF h _ _ has
    let Gc:Gh:={G with owner:=cI G.owner c.args.toList first.length}
    have YN:∀i,G.owner i=none→Gc.owner i=none:=fun i hi=>by simp[Gc,cI,hi]
    have hEc:Ext G w Gc w:=⟨Nat.le_refl _,fun _ _=>rfl,fun _ _=>rfl,fun _=>Nat.le_refl _,fun _ _ _=>rfl,rfl,rfl,rfl,Nat.le_refl _,fun i _ hi=>⟨rfl,rfl,YN i hi⟩⟩
    have hlz:(c.args.toList.zip c.argTypes.toList).length=c.args.size:=by simp[iM]
    have hlen:as.length=c.args.size:=by rw[k1,hlz]
    have hS:dR C.bN Gc w st.bP:=by
     refine⟨fun i hi=>⟨(h.bP.wf i hi).1,YN i (h.bP.wf i hi).2⟩,fun g cs hg=>(h.bP.bN g cs hg).mono hEc,h.bP.N,h.bP.typed,fun b cs gg=>?_,h.bP.PE.mono hEc⟩
     obtain⟨cvv,el,g1,g2,g3,g4,g5⟩:=h.bP.eZ b cs gg
     refine⟨cvv,el,g1,g2,by show cI G.owner _ _ (G.μ b)=_;simp[cI,g3],g4,fun j cc x hc hx=>?_⟩
     obtain⟨e1,e2⟩:=g5 j cc x hc hx
     exact⟨e1.move hEc fun _ i hi=>⟨rfl,rfl,by show cI _ _ _ _=_;simp[cI,hi]⟩,e2⟩
    have aa1:Clean Gc args.length:=by
     intro i p hp
     have Bv:cI G.owner c.args.toList first.length i=some p:=hp
     unfold cI at Bv
     split at Bv
     ·simp at Bv;exact .inl ⟨_,Bv.symm⟩
     ·simp at Bv;exact .inr (.inl ⟨_,_,Bv.symm⟩)
     ·obtain⟨k,W5,rfl⟩:=Option.map_eq_some_iff.1 Bv
      refine .inr (.inr ⟨_,?_,rfl⟩)
      have:=GA W5
      rw[CN];simp[hlen]
      simp at this;omega
     ·simp at Bv
    have acu:(fv++c.args.toList.map a.eval++cv).length=args.length:=by rw[CN];simp[f1,f2,hlen]
    have Xv:∀(i:Nat) cc x,args[i]?=some cc→(fv++c.args.toList.map a.eval++cv)[i]?=some x→je Gc w (.ry i) cc x:=by
     intro i cc x hc hx
     rw[CN]at hc
     by_cases c1:i<first.length
     ·rw[List.append_assoc,List.getElem?_append_left (by simpa using c1)]at hc
      rw[List.append_assoc,List.getElem?_append_left (by omega)]at hx
      rw[List.getElem?_map,Option.map_eq_some_iff]at hc
      obtain⟨v,hv,rfl⟩:=hc
      exact⟨(f3 i v x hv hx).mono hEc,fun ho=>by simp at ho⟩
     ·by_cases c2:i<first.length+as.length
      ·rw[List.getElem?_append_left (by simp;omega),List.getElem?_append_right (by simp;omega)]at hc
       rw[List.getElem?_append_left (by simp;omega),List.getElem?_append_right (by omega),f1]at hx
       simp only[List.length_map]at hc
       rw[List.getElem?_map,Option.map_eq_some_iff]at hx
       obtain⟨y,hy,rfl⟩:=hx
       have hyi:i - first.length<c.argTypes.toList.length:=by
        have:=(List.getElem?_eq_some_iff.1 hy).1
        simp at this ⊢;omega
       have hz:(c.args.toList.zip c.argTypes.toList)[i - first.length]?=some (y,c.argTypes.toList[i - first.length]):=by
        rw[List.getElem?_zip_eq_some]
        exact⟨hy,List.getElem?_eq_getElem hyi⟩
       obtain⟨e1,e2⟩:=k2 _ cc _ hc hz
       refine⟨e1.mono hEc,fun YO=>?_⟩
       rcases e2 YO with⟨t,ht,e3⟩|e3
       ·simp only at ht e3
        subst ht
        refine e3.move (fun hr=>fx hr _) fun j hj=>⟨rfl,rfl,?_⟩
        show cI _ _ _ _=_
        simp[cI,hj,GB acs hy]
        omega
       ·exact YM e3 _ _ _
      ·rw[List.getElem?_append_right (by simp;omega)]at hc
       rw[List.getElem?_append_right (by simp;omega)]at hx
       simp only[List.length_append,List.length_map]at hc hx
       rw[List.getElem?_map,Option.map_eq_some_iff]at hc
       obtain⟨v,hv,rfl⟩:=hc
       refine⟨(f4 _ v x hv ?_).mono hEc,fun ho=>by simp at ho⟩
       rw[←hx]
       congr 1
       simp[f1,hlen]
    have hC:=aa0 Gc w _ hS aa1 acu Xv
    unfold Oper.wp
    have iS:(execOp a.eval o).run P w=.ok (.enter f (fv++c.args.toList.map a.eval++cv).toArray) w:=by
     have Lq:fv.toArray++c.args.map a.eval++cv.toArray=(fv++c.args.toList.map a.eval++cv).toArray:=by
      apply Array.ext';simp
     simp[execOp,ho,resolve,hb,S8,Deferred.ofValue,invoke,adC]
    rw[iS]
    exact hC.mono fun en w' ⟨G',x1,x2,x3⟩=>by
     have:=uA en w' G' Gc rfl hEc x1 x2 x3
     cases en<;>exact this
  cases BN:r.1 with
  |fB v=>
   rw[BN]at hk
   simp only at hk
   refine⟨_,hk,fun G lam a w h=>common G lam a w h _ _ fun en w' G' Gc hGc e1 e2 e3 e4=>?_⟩
   rw[BN]at e4
   obtain⟨cc,rfl,Fg⟩:=e4
   exact⟨v,_,cc,G',rfl,rfl,Fg,e1.trans e2,e3,h.defers⟩
  |ret vs=>
   rw[BN]at hk
   simp only at hk
   split at hk
   ·rename_i hvn
    obtain⟨x,hx,hk⟩:=ai hk
    refine⟨_,hk,fun G lam a w h=>common G lam a w h _ _ fun en w' G' Gc hGc e1 e2 e3 e4=>?_⟩
    rw[BN]at e4
    obtain⟨cs,hcs,rfl,hrel⟩:=e4
    simp only
    -- the ghost behind the call
    let d:=o.dst.getD 0
    let G2:Gh:={G' with owner:=fun i=>if i<w.heap.size∧Gc.owner i=none then G.owner i else pe d n (G'.owner i)}
    have acv:Gc.owner=cI G.owner c.args.toList first.length:=by rw[hGc]
    have adD:Gc.ah=G.ah:=by rw[hGc]
    have aez:Gc.μ=G.μ:=by rw[hGc]
    have aeA:Gc.N=G.N:=by rw[hGc]
    have YN:∀i,G.owner i=none→Gc.owner i=none:=fun i hi=>by rw[acv];simp[cI,hi]
    have hE:Ext G w G2 w':=by
     have ht:=e1.trans e2
     refine⟨ht.N,ht.μ,ht.ty,ht.ah,ht.fE,ht.os,ht.tape,ht.output,ht.size,fun i hi Xr=>?_⟩
     obtain⟨q1,q2,_⟩:=ht.rv i hi Xr
     refine⟨q1,q2,?_⟩
     show(if i<w.heap.size∧Gc.owner i=none then G.owner i else _)=none
     rw[if_pos ⟨hi,YN i Xr⟩,Xr]
    -- what is the frame's own stays
    have VJ:∀i p,G.owner i=some p→cI G.owner c.args.toList first.length i=none→w'.heap[i]?=w.heap[i]?∧G2.ah i=G.ah i∧G2.owner i=some p:=by
     intro i p hp hco
     have hi:=fV h.bP.wf hp
     rw[←acv]at hco
     obtain⟨q1,q2,_⟩:=e2.rv i hi hco
     refine⟨q1,by show G'.ah i=_;rw[q2,adD],?_⟩
     show(if i<w.heap.size∧Gc.owner i=none then G.owner i else _)=some p
     rw[if_pos ⟨hi,hco⟩,hp]
    let fl:Place→Prop:=fun p=>match p with
     |.ry t=>(c.args.toList.flatMap dE).contains t=false
     |.oH _ _=>True
     |.lc _ _=>True
     |.box _=>True
     |_=>False
    have ZZ:mM G w G2 w' fl:=by
     refine⟨fun i p hp rj=>VJ i p hp ?_⟩
     cases p with
     |ry t=>
      have acw:(c.args.toList.flatMap dE).contains t=false:=rj
      have:ij c.args.toList t=none:=by
       cases hai:ij c.args.toList t with
       |none=>rfl
       |some k=>rw[wA hai]at acw;simp at acw
      simp[cI,hp,this]
     |oH=>simp[cI,hp]
     |lc=>simp[cI,hp]
     |box=>simp[cI,hp]
     |gc=>exact rj.elim
     |eZ=>exact rj.elim
     |res=>exact rj.elim
    -- what the callee's ghost says, read by the caller
    have Z0:∀i p,G'.owner i=some p→G2.owner i=pe d n (some p):=by
     intro i p hp
     show(if i<w.heap.size∧Gc.owner i=none then G.owner i else _)=_
     rw[if_neg,hp]
     rintro⟨q1,q2⟩
     obtain⟨_,_,q3⟩:=e2.rv i q1 q2
     rw[hp]at q3;simp at q3
    have V1:∀{p q:Place} {cc:Cell} {y:Value},je G' w' p cc y→pe d n (some p)=some q→je G2 w' q cc y:=by
     intro p q cc y Fg hpq
     exact⟨fx Fg.1 _,fun ho=>(Fg.2 ho).move (fun hr=>fx hr _) fun i hi=>⟨rfl,rfl,by rw[Z0 i p hi,hpq]⟩⟩
    have hS2:dR C.bN G2 w' r.2:=by
     refine⟨fun i hi=>⟨(e3.wf i hi).1,?_⟩,fun g cs hg=>fx (e3.bN g cs hg) _,e3.N,e3.typed,fun b cs gg=>?_,fun g cs hg=>(by
      obtain⟨k1,k2,k3⟩:=e3.PE g cs hg
      refine⟨?_,k2,k3⟩
      show(if g<w.heap.size∧Gc.owner g=none then G.owner g else _)=none
      split
      ·exact(h.bP.PE g cs hg).1
      ·rw[k1];rfl)⟩
     ·show(if i<w.heap.size∧Gc.owner i=none then G.owner i else _)=none
      rw[if_neg (by have:=e2.size;omega),(e3.wf i hi).2]
      rfl
     ·obtain⟨cvv,el,g1,g2,g3,g4,g5⟩:=e3.eZ b cs gg
      exact⟨cvv,el,g1,g2,by rw[Z0 _ _ g3];rfl,g4,fun j cc x hc hx=>⟨V1 (g5 j cc x hc hx).1 rfl,(g5 j cc x hc hx).2⟩⟩
    have hI:=h.clear (bj H o)
    have hI2:Inv C.bN G2 lam a w' {st.clear (bj H o)with bP:=r.2}:=by
     refine⟨h.defers,hI.len,hI.jL,fun r' y hy=>(hI.au r' y hy).move hE ZZ (fun v hv=>?_) (fun _ _ _ _ _=>trivial),fun r' ta hc eJ=>(hI.bC r' ta hc eJ).move hE ZZ trivial (fun _ _ _=>trivial),hS2⟩
     subst hv
     show(c.args.toList.flatMap dE).contains r'=false
     cases aa0:(c.args.toList.flatMap dE).contains r' with
     |false=>rfl
     |true=>
      exfalso
      exact eE (st:=st) (bj H o) r' (by rw[gE];exact aa0) ⟨v,hy⟩
    refine⟨_,G2,lam,rfl,hE,hI2.put o.dst (Cr H o.dst n vs) _ fun d' D5=>?_⟩
    have S6:d=d':=by show o.dst.getD 0=d';rw[D5];rfl
    have gZ:=cL hx
    unfold pK at gZ
    rw[List.all_eq_true]at gZ
    generalize hx0:Cr H o.dst n vs=x
    have hx:=hx0
    unfold Cr at hx
    have V2:∀i,i<n→Xw H o.dst i=true→(vs.getD i bZ).2=true:=by
     intro i hi hf
     have:=gZ i (List.mem_range.2 hi)
     simpa[hf]using this
    by_cases Ta:n=1
    ·rw[if_pos Ta]at hx
     subst hx
     match vs,cs,hvn,hcs with
     |[c0],[x0],_,_=>
      have:=hrel 0 c0 x0 rfl rfl
      have hc:=V1 (q:=.ry d) this (by simp[pe,Ta])
      rw[S6]at hc
      refine⟨hc.1,fun ho=>hc.2 ?_⟩
      exact V2 0 (by omega) ho
     |[],_,hvn,_=>simp at hvn;omega
     |_::_::_,_,hvn,_=>simp at hvn;omega
     |[_],[],_,hcs=>simp at hcs
     |[_],_::_::_,_,hcs=>simp at hcs
    ·rw[if_neg Ta]at hx
     subst hx
     refine⟨cs,?_,by simp[hcs,hvn],fun i y v hy hv=>?_⟩
     ·rw[dif_neg (by simp;omega)]
     ·obtain⟨hi,hy⟩:=List.getElem?_eq_some_iff.1 hy
      simp at hi hy
      subst hy
      have hiv:i<vs.length:=by omega
      have hgd:vs.getD i bZ=vs[i]:=zV hiv
      have:=hrel i vs[i] v (List.getElem?_eq_getElem hiv) hv
      have hc:=V1 (q:=.oH d i) this (by simp[pe,Ta])
      rw[S6]at hc
      rw[←hgd]at hc
      simp only[List.getD_eq_getElem?_getD]at hc V2
      exact⟨hc.1,fun ho=>hc.2 (V2 i hi ho)⟩
   ·simp at hk
end
end Go.Ab
end
section
namespace Go.Ab
section
variable {C:Ctx} {H:Hints} {call:af}
def Compat (H:Hints) (o:Oper):lM→Prop
 |.val _=>True
 |.xd r _ _ _ cW=>(ux H o).has r=true∧(cW=true→(oP H o).has r=true)
 |.xe r _ _=>(ux H o).has r=true∧(oP H o).has r=true
 |.rl _=>Ct H o=true
 |.vz ..=>yV H o=true
 |.gR r _=>r∈lP H o
 |.qJ ..=>True
 |_=>oQ H o=true
theorem GF {a r of:Nat} {au:List RV} (hc:gT H (.tmp a)=.loc) (hr:au.getD a .dead=.eK r of) (hk:(match assoc H.roots a with|some q=>isRoot q (au.getD a .dead)|none=>true)=true):(F6 H (.tmp a)).has r=true:=by
 have hl:H.lp.contains a=true:=by
  simp only[gT]at hc
  split at hc
  ·assumption
  ·split at hc<;>simp at hc
 simp only[F6,hl,if_true]
 cases hq:assoc H.roots a with
 |none=>rfl
 |some q=>
  rw[hq,hr]at hk
  simp[isRoot]at hk
  simp[LF.has,hk]
theorem DW {o:Oper} {e:lM} {au:List RV} (ha:act C H o au=some e) (hk:jg H o au=true):Compat H o e:=by
 have hi:=iH ha
 cases e with
 |val x=>trivial
 |xd r of n ag sl=>
  obtain⟨t,y,i,ho,hT,hy,rfl,rfl,rfl⟩:=hi
  obtain⟨a,rfl,hr⟩:=nr hy
  simp only[act,ho]at ha
  obtain⟨i',_,ha⟩:=ai ha
  simp only[jg,ho]at hk
  have hc:gT H (.tmp a)=.loc:=by
   split at ha
   ·assumption
   ·obtain⟨v,_,ha⟩:=ai ha;simp at ha
   ·split at ha
    ·split at ha<;>simp at ha
    ·simp at ha
   ·simp at ha
  have:=GF hc hr hk
  exact⟨by simp only[ux,ho];exact this,fun hs=>by simp only[oP,ho,hs,if_true];exact this⟩
 |xe r of cs=>
  obtain⟨t,y,z,i,c,ho,hT,_,_,hy,rfl⟩:=hi
  obtain⟨a,rfl,hr⟩:=nr hy
  simp only[act,ho]at ha
  obtain⟨i',_,ha⟩:=ai ha
  obtain⟨c',_,ha⟩:=ai ha
  obtain⟨u',_,ha⟩:=ai ha
  simp only[jg,ho]at hk
  have hc:gT H (.tmp a)=.loc:=by
   split at ha
   ·assumption
   ·simp at ha
   ·simp at ha
  have:=GF hc hr hk
  exact⟨by simp only[ux,ho];exact this,by simp only[oP,ho];exact this⟩
 |rl cs=>
  rcases hi with⟨t,i,ho,_⟩|⟨t,x,i,c,ho,_⟩
  ·simp only[act,ho]at ha
   obtain⟨i',_,ha⟩:=ai ha
   split at ha
   ·simp at ha
   ·split at ha
    ·simp at ha
    ·rename_i eJ;simpa[Compat,Ct,ho]using eJ
  ·simp only[act,ho]at ha
   obtain⟨i',_,ha⟩:=ai ha
   obtain⟨c',_,ha⟩:=ai ha
   obtain⟨u',_,ha⟩:=ai ha
   split at ha
   ·simp at ha
   ·rename_i eJ;simpa[Compat,Ct,ho]using eJ
 |vz p n ag=>
  obtain⟨t,y,i,ow,ho,_⟩:=hi
  simp only[act,ho]at ha
  obtain⟨i',_,ha⟩:=ai ha
  split at ha
  ·simp at ha
  ·obtain⟨v,_,ha⟩:=ai ha;simp at ha
  ·rename_i hc _
   simp[Compat,yV,ho,hc]
  ·simp at ha
 |nH p=>
  obtain⟨t,y,i,ow,ho,_⟩:=hi
  simp only[act,ho]at ha
  obtain⟨i',_,ha⟩:=ai ha
  split at ha
  ·simp at ha
  ·obtain⟨v,_,ha⟩:=ai ha;simp at ha
  ·rename_i hc _
   split at ha
   ·rename_i hs
    simp only[Compat,oQ,ho,hc,hs];rfl
   ·simp at ha
  ·simp at ha
 |yR p cs=>
  obtain⟨t,y,z,i,c,ow,ho,_⟩:=hi
  simp only[act,ho]at ha
  obtain⟨i',_,ha⟩:=ai ha
  obtain⟨c',_,ha⟩:=ai ha
  obtain⟨u',_,ha⟩:=ai ha
  split at ha
  ·simp at ha
  ·rename_i hc _
   simp only[Compat,oQ,ho,hc];rfl
  ·simp at ha
 |vA t cs=>
  rcases hi with⟨t,i,ho,_⟩|⟨t,x,i,c,ho,_⟩<;>simp[Compat,oQ,ho]
 |gR r i=>
  simp only at hi
  have MA:isRow H (.tmp r)≠true:=fun MA=>by
   simp only[act,hi,if_pos MA]at ha
   split at ha
   ·split at ha
    ·simp at ha
    ·simp at ha
   ·simp at ha
  simp only[Compat,lP,hi,if_neg MA,dE]
  simp
 |call f args n=>
  obtain⟨c,g,gv,first,cap,as,ho,adE,_,_,_,_,_,_,_,hp⟩:=hi
  simp[Compat,oQ,ho,adE,hp]
 |qJ f args n=>trivial
 |fB v=>
  obtain⟨x,ho,_⟩:=hi
  simp[Compat,oQ,ho]
def dm (H:Hints) (call:af) (dst:Option Nat) (st:St):lM→Option Out
 |.val x=>some (.next (st.put dst x))
 |.xd r o n agg cW=>if cW then
    (if o<(st.bC.getD r []).length∧n=1∧agg=false then
     (if ((st.bC.getD r []).getD o bZ).2 then some (.next ({st with bC:=st.bC.set r ((st.bC.getD r []).set o (((st.bC.getD r []).getD o bZ).1,false))}.put dst (.val ((st.bC.getD r []).getD o bZ).1 true)))else none)else none)
  else(dX (st.bC.getD r []) o n agg).bind fun v=>some (.next (st.put dst (.val v false)))
 |.xe r o cs=>if o+cs.length≤(st.bC.getD r []).length then some (.next ({st with bC:=st.bC.set r (setCells (st.bC.getD r []) o cs)}.put dst .dead))else none
 |.rl cs=>match dst with
  |some d=>if d<st.bC.length∧cs.length≠0∧(st.au.all fun x=>!rF d x)=true then some (.next ({st with bC:=st.bC.set d cs}.cD d (.eK d 0)))else none
  |none=>none
 |.vz p n agg=>(bu st.bP p agg n).bind fun v=>some (.next (st.put dst (.val v false)))
 |.nH p=>(fk st.bP p).bind fun v=>some (.next ({st with bP:=v.2}.put dst (.val v.1 true)))
 |.yR p cs=>(aV st.bP p cs).bind fun σ=>some (.next ({st with bP:=σ}.put dst .dead))
 |.vA t cs=>match dst with
  |some d=>some (.next ({st with bP:=st.bP++[cs]}.cD d (.val (.ptr t st.bP.length 0) false)))
  |none=>none
 |.gR r i=>match st.au.getD r .dead with
  |.oH cs=>match cs[i]? with
   |some c=>some (.next ((st.cD r (.oH (cs.set i (c.1,false)))).put dst (.val c.1 c.2)))
   |none=>none
  |_=>none
 |.call f args n=>match call f args st.bP with
  |none=>none
  |some r=>match r.1 with
   |.ret vs=>if vs.length=n then(bz (pK H dst n vs)).bind fun _=>some (.next ({st with bP:=r.2}.put dst (Cr H dst n vs)))else none
   |.fB v=>some (.fB v {st with bP:=r.2})
 |.qJ f args n=>(yT (call f args [])).bind fun vs=>if vs.length=n then(bz (pK H dst n vs)).bind fun _=>some (.next (st.put dst (Cr H dst n vs)))else none
 |.fB v=>some (.fB v st)
theorem V3 (dst:Option Nat) (st:St) (K:Out→Option aQ) (e:lM):apply H call dst st K e=(dm H call dst st e).bind K:=by
 cases e<;>simp only[apply,dm]<;>(try rfl)
 case xd=>split<;>(try split)<;>(try split)<;>(first|rfl|(cases dX _ _ _ _<;>rfl))
 case xe=>split<;>rfl
 case rl=>
  cases dst with
  |none=>rfl
  |some d=>simp only;split<;>rfl
 case vz=>cases bu _ _ _ _<;>rfl
 case nH=>cases fk _ _<;>rfl
 case yR=>cases aV _ _ _<;>rfl
 case vA=>cases dst<;>rfl
 case gR r i=>
  cases st.au.getD r .dead<;>try rfl
  rename_i cs
  simp only
  cases cs[i]?<;>rfl
 case call f args n=>
  cases call f args st.bP with
  |none=>rfl
  |some r=>
   simp only
   cases r.1 with
   |fB v=>rfl
   |ret vs=>
    simp only
    split
    ·cases bz (pK H dst n vs)<;>rfl
    ·rfl
 case qJ f args n=>
  cases yT (call f args [])with
  |none=>rfl
  |some vs=>
   simp only[Option.bind_some]
   split
   ·cases bz (pK H dst n vs)<;>rfl
   ·rfl
def zR (C:Ctx) (H:Hints) (call:af) (o:Oper) (st:St):Option Out:=(act C H o st.au).bind fun e=>dm H call o.dst (st.clear (bj H o)) e
theorem Jg (o:Oper) (st:St) (K:Out→Option aQ):QT C H call o st K=(zR C H call o st).bind K:=by
 simp only[QT,zR,HI]
 cases act C H o st.au with
 |none=>rfl
 |some e=>exact V3 _ _ _ _
structure Ag (rs:List Nat) (l:LF) (f:Bool) (s t:St):Prop where
 xR:s.au.length=t.au.length
 jL:s.bC.length=t.bC.length
 au:∀r,r∈rs→s.au[r]?=t.au[r]?
 bC:∀r,l.has r=true→s.bC[r]?=t.bC[r]?
 bP:f=true→s.bP=t.bP
structure AZ (rs:List Nat) (l:LF) (f:Bool) (s t:St):Prop where
 xR:t.au.length=s.au.length
 jL:t.bC.length=s.bC.length
 au:∀r,r∉rs→t.au[r]?=s.au[r]?
 bC:∀r,l.has r=false→t.bC[r]?=s.bC[r]?
 bP:f=false→t.bP=s.bP
theorem AZ.refl (rs:List Nat) (l:LF) (f:Bool) (s:St):AZ rs l f s s:=⟨rfl,rfl,fun _ _=>rfl,fun _ _=>rfl,fun _=>rfl⟩
theorem Ag.put {rs:List Nat} {l:LF} {f:Bool} {s t:St} (h:Ag rs l f s t) (dst:Option Nat) (x:RV):Ag rs l f (s.put dst x) (t.put dst x):=by
 cases dst with
 |none=>exact h
 |some d=>
  refine⟨by simp[St.put,St.cD,h.xR],h.jL,fun r hr=>?_,h.bC,h.bP⟩
  simp only[St.put,St.cD,List.getElem?_set,h.xR,h.au r hr]
theorem AZ.put {rs:List Nat} {l:LF} {f:Bool} {s t:St} (h:AZ rs l f s t) (dst:Option Nat) (x:RV) (hd:∀d,dst=some d→d∈rs):AZ rs l f s (t.put dst x):=by
 cases dst with
 |none=>exact h
 |some d=>
  refine⟨by simp[St.put,St.cD,h.xR],h.jL,fun r hr=>?_,h.bC,h.bP⟩
  have:d≠r:=fun e=>hr (e▸hd d rfl)
  simp only[St.put,St.cD,List.getElem?_set_ne this,h.au r hr]
theorem BG (cs:List Nat) (r:Nat) (hr:r∉cs):∀l:List RV,(dL l cs)[r]?=l[r]?:=by
 induction cs with
 |nil=>intro l;rfl
 |cons c cs ih=>
  intro l
  rw[dL,ih (fun h=>hr (List.mem_cons_of_mem _ h))]
  have:c≠r:=fun e=>hr (e▸List.mem_cons_self ..)
  simp[List.getElem?_modify,this]
theorem D6 (cs:List Nat) (r:Nat):∀l m:List RV,l[r]?=m[r]?→(dL l cs)[r]?=(dL m cs)[r]?:=by
 induction cs with
 |nil=>intro l m h;exact h
 |cons c cs ih=>
  intro l m h
  rw[dL,dL]
  refine ih _ _ ?_
  simp only[List.getElem?_modify,h]
theorem Ag.clear {rs:List Nat} {l:LF} {f:Bool} {s t:St} (h:Ag rs l f s t) (cs:List Nat):Ag rs l f (s.clear cs) (t.clear cs):=
 ⟨by simp only[St.clear,iw];exact h.xR,h.jL,fun r hr=>D6 cs r _ _ (h.au r hr),h.bC,h.bP⟩
theorem AZ.clear {rs:List Nat} {l:LF} {f:Bool} {s t:St} (h:AZ rs l f s t) (cs:List Nat) (hc:∀r∈cs,r∈rs):AZ rs l f s (t.clear cs):=
 ⟨by simp only[St.clear,iw];exact h.xR,h.jL,fun r hr=>by simp only[St.clear];rw[BG cs r (fun h=>hr (hc r h))];exact h.au r hr,h.bC,h.bP⟩
theorem Ag.od {rs:List Nat} {l:LF} {f:Bool} {s t:St} (h:Ag rs l f s t) (r:Nat) (x:List Cell):Ag rs l f {s with bC:=s.bC.set r x} {t with bC:=t.bC.set r x}:=
 ⟨h.xR,by simp[h.jL],h.au,fun r' hr=>by simp only[List.getElem?_set,h.jL,h.bC r' hr],h.bP⟩
theorem AZ.od {rs:List Nat} {l:LF} {f:Bool} {s t:St} (h:AZ rs l f s t) (r:Nat) (x:List Cell) (hr:l.has r=true):AZ rs l f s {t with bC:=t.bC.set r x}:=
 ⟨h.xR,by simp[h.jL],h.au,fun r' WZ=>by
  have:r≠r':=fun e=>by rw[e,WZ]at hr;simp at hr
  simp only[List.getElem?_set_ne this,h.bC r' WZ],h.bP⟩
theorem Ag.iO {rs:List Nat} {l:LF} {f:Bool} {s t:St} (h:Ag rs l f s t) (σ:az):Ag rs l f {s with bP:=σ} {t with bP:=σ}:=⟨h.xR,h.jL,h.au,h.bC,fun _=>rfl⟩
theorem AZ.iO {rs:List Nat} {l:LF} {f:Bool} {s t:St} (h:AZ rs l f s t) (σ:az) (hf:f=true):AZ rs l f s {t with bP:=σ}:=⟨h.xR,h.jL,h.au,h.bC,fun h=>by rw[hf]at h;simp at h⟩
theorem Ag.loc {rs:List Nat} {l:LF} {f:Bool} {s t:St} (h:Ag rs l f s t) {r:Nat} (hr:l.has r=true):s.bC.getD r []=t.bC.getD r []:=by
 rw[List.getD_eq_getElem?_getD,List.getD_eq_getElem?_getD,h.bC r hr]
theorem Ag.ry {rs:List Nat} {l:LF} {f:Bool} {s t:St} (h:Ag rs l f s t) {r:Nat} (hr:r∈rs):s.au.getD r .dead=t.au.getD r .dead:=by
 rw[List.getD_eq_getElem?_getD,List.getD_eq_getElem?_getD,h.au r hr]
theorem dP {o:Oper} (h:oQ H o=true):yV H o=true:=by simp[yV,h]
def OH (rs ws:List Nat) (l lw:LF) (f fw:Bool) (s t:St) (out:Out) (step:Option Out):Prop:=
 match out with
 |.next s1=>∃t1,step=some (.next t1)∧Ag rs l f s1 t1∧AZ ws lw fw s s1∧AZ ws lw fw t t1
 |.fB v s1=>fw=true∧f=true∧∃t1,step=some (.fB v t1)∧t1.bP=s1.bP
theorem Jb {o:Oper} {e:lM} (hk:Compat H o e) (hw:Ct H o=false) {rs:List Nat} {s t s0 t0:St} {out:Out} (hA:Ag rs (ux H o) (yV H o) s t) (hrs:∀r∈lP H o,r∈rs)
  (hs:AZ (lP H o) (oP H o) (oQ H o) s0 s) (ht:AZ (lP H o) (oP H o) (oQ H o) t0 t) (h:dm H call o.dst s e=some out):
  OH rs (lP H o) (ux H o) (oP H o) (yV H o) (oQ H o) s0 t0 out (dm H call o.dst t e):=by
 have hd:∀d,o.dst=some d→d∈lP H o:=fun d hd=>by simp[lP,hd]
 cases e with
 |val x=>
  simp only[dm,Option.some.injEq]at h
  subst h
  exact⟨_,rfl,hA.put _ _,hs.put _ _ hd,ht.put _ _ hd⟩
 |xd r of n ag sl=>
  obtain⟨k1,k2⟩:=hk
  simp only[dm]at h ⊢
  rw[←hA.loc k1]
  split at h
  ·rename_i ZY
   rw[if_pos ZY]
   split at h
   ·rename_i hc
    rw[if_pos hc]
    split at h
    ·rename_i pD
     rw[if_pos pD]
     simp only[Option.some.injEq]at h
     subst h
     exact⟨_,rfl,(hA.od _ _).put _ _,(hs.od _ _ (k2 ZY)).put _ _ hd,(ht.od _ _ (k2 ZY)).put _ _ hd⟩
    ·simp at h
   ·simp at h
  ·rename_i ZY
   rw[if_neg ZY]
   obtain⟨v,hv,h⟩:=ai h
   simp only[Option.some.injEq]at h
   subst h
   rw[hv]
   exact⟨_,rfl,hA.put _ _,hs.put _ _ hd,ht.put _ _ hd⟩
 |xe r of cs=>
  obtain⟨k1,k2⟩:=hk
  simp only[dm]at h ⊢
  rw[←hA.loc k1]
  split at h
  ·rename_i hc
   rw[if_pos hc]
   simp only[Option.some.injEq]at h
   subst h
   exact⟨_,rfl,(hA.od _ _).put _ _,(hs.od _ _ k2).put _ _ hd,(ht.od _ _ k2).put _ _ hd⟩
  ·simp at h
 |rl cs=>simp only[Compat]at hk;rw[hk]at hw;simp at hw
 |vz p n ag=>
  simp only[Compat]at hk
  simp only[dm]at h ⊢
  rw[←hA.bP hk]
  obtain⟨v,hv,h⟩:=ai h
  simp only[Option.some.injEq]at h
  subst h
  rw[hv]
  exact⟨_,rfl,hA.put _ _,hs.put _ _ hd,ht.put _ _ hd⟩
 |nH p=>
  simp only[Compat]at hk
  simp only[dm]at h ⊢
  rw[←hA.bP (dP hk)]
  obtain⟨v,hv,h⟩:=ai h
  simp only[Option.some.injEq]at h
  subst h
  rw[hv]
  exact⟨_,rfl,(hA.iO _).put _ _,(hs.iO _ hk).put _ _ hd,(ht.iO _ hk).put _ _ hd⟩
 |yR p cs=>
  simp only[Compat]at hk
  simp only[dm]at h ⊢
  rw[←hA.bP (dP hk)]
  obtain⟨v,hv,h⟩:=ai h
  simp only[Option.some.injEq]at h
  subst h
  rw[hv]
  exact⟨_,rfl,(hA.iO _).put _ _,(hs.iO _ hk).put _ _ hd,(ht.iO _ hk).put _ _ hd⟩
 |vA t cs=>
  simp only[Compat]at hk
  simp only[dm]at h ⊢
  rw[←hA.bP (dP hk)]
  cases Ko:o.dst with
  |none=>rw[Ko]at h;simp at h
  |some d=>
   rw[Ko]at h
   simp only[Option.some.injEq]at h
   subst h
   exact⟨_,rfl,(hA.iO _).put (some d) _,(hs.iO _ hk).put (some d) _ (by rw[←Ko];exact hd),(ht.iO _ hk).put (some d) _ (by rw[←Ko];exact hd)⟩
 |gR r i=>
  simp only[Compat]at hk
  simp only[dm]at h ⊢
  rw[←hA.ry (hrs r hk)]
  have hr:∀d,some r=some d→d∈lP H o:=by rintro d ⟨⟩;exact hk
  split at h
  ·split at h
   ·simp only[Option.some.injEq]at h
    subst h
    exact⟨_,rfl,(hA.put (some r) _).put _ _,(hs.put (some r) _ hr).put _ _ hd,(ht.put (some r) _ hr).put _ _ hd⟩
   ·simp at h
  ·simp at h
 |call f args n=>
  simp only[Compat]at hk
  simp only[dm]at h ⊢
  rw[←hA.bP (dP hk)]
  split at h
  ·simp at h
  ·rename_i r hr
   split at h
   ·rename_i vs Cg
    split at h
    ·rename_i hn
     obtain⟨x,hx,h⟩:=ai h
     simp only[Option.some.injEq]at h
     subst h
     refine⟨_,?_,(hA.iO r.2).put _ _,(hs.iO _ hk).put _ _ hd,(ht.iO _ hk).put _ _ hd⟩
     simp only[if_pos hn,hx,Option.bind_some]
    ·simp at h
   ·rename_i v hv
    simp only[Option.some.injEq]at h
    subst h
    exact⟨hk,dP hk,_,rfl,rfl⟩
 |qJ f args n=>
  simp only[dm]at h ⊢
  obtain⟨vs,Cg,h⟩:=ai h
  split at h
  ·rename_i hn
   obtain⟨x,hx,h⟩:=ai h
   simp only[Option.some.injEq]at h
   subst h
   refine⟨_,?_,hA.put _ _,hs.put _ _ hd,ht.put _ _ hd⟩
   simp only[Cg,Option.bind_some,if_pos hn,hx]
  ·simp at h
 |fB v=>
  simp only[Compat]at hk
  simp only[dm,Option.some.injEq]at h ⊢
  subst h
  exact⟨hk,dP hk,_,rfl,(hA.bP (dP hk)).symm⟩
end
end Go.Ab
end
section
namespace Go.Ab
section
variable {P:Program} {C:Ctx} {H:Hints} {call:af}
structure nO (P:Program) (C:Ctx) (H:Hints) (call:af):Prop where
 ok:ji P C call
 pure:MN H call
theorem R8 (hC:dN P C) (dW:nO P C H call) {o:Oper} {st:St} {K:Out→Option aQ} {r:aQ} (h:QT C H call o st K=some r):∃out,K out=some r∧kM P C o st out:=by
 rw[QT,HI]at h
 obtain⟨e,he,hk⟩:=ai h
 cases e with
 |val x=>exact⟨_,hk,R6 o x fun G lam a w hI=>YK hC he G lam a w hI⟩
 |xd r of n ag sl=>exact VV hC he hk
 |xe r of cs=>exact VX hC he hk
 |rl cs=>exact VZ hC he hk
 |vz p n ag=>exact VW hC he hk
 |nH p=>exact R7 hC he hk
 |yR p cs=>exact VY hC he hk
 |vA t cs=>exact V0 hC he hk
 |gR r i=>exact Lx he hk
 |call f args n=>
  obtain⟨c,g,gv,first,cap,as,h1,h2,h3,h4,h5,h6,h7,h8,h9,_⟩:=iH he
  exact GD dW.ok ⟨c,g,gv,first,cap,as,h1,h2,h3,h4,h5,h6,h7,h8,h9⟩ hk
 |qJ f args n=>
  obtain⟨h1,h2⟩:=iH he
  refine GD (H:=H) (K:=K) dW.ok h1 ?_
  simp only[apply]at hk ⊢
  obtain⟨vs,Cg,hk⟩:=ai hk
  rw[dW.pure f args vs h2 (AJ Cg)]
  exact hk
 |fB v=>exact YL he hk
theorem sn {o:Oper} {a:Act} {w:World} {K K':Act→World→Prop} {Q Q':Exit→Act→World→Prop} (h:o.wp P a w K Q) (hk:∀a w,K a w→K' a w) (hq:∀e a w,Q e a w→Q' e a w):o.wp P a w K' Q':=by
 unfold Oper.wp at*
 generalize (execOp a.eval o).run P w=r at*
 have hl:LetsOut Q→LetsOut Q':=fun⟨a,w,h⟩=>⟨a,w,hq _ _ _ h⟩
 cases r with
 |ok x w'=>
  cases x<;>first|exact hk _ _ h|exact h.elim|skip
  ·refine Calls.mono h fun e w'' he=>?_
   cases e with
   |returned v=>exact hk _ _ he
   |panicked chain=>exact hq _ _ _ he
   |outgrown=>exact hl he
  ·exact Rows.mono h fun v w'' hv=>hk _ _ hv
 |halt x w'=>cases x<;>first|exact hq _ _ _ h|exact h.elim
def OQ (C:Ctx) (G:Gh) (w:World) (out:Out) (e:Exit) (a':Act) (w':World):Prop:=(e=.normal∧NP C G w out a' w')∨QP C G w out e a' w'
theorem OQ.trans {G G1:Gh} {w w1:World} {out:Out} {e:Exit} {a':Act} {w':World} (x:Ext G w G1 w1) (h:OQ C G1 w1 out e a' w'):OQ C G w out e a' w':=by
 rcases h with⟨h1,cN,G',iu,h2,h3,h4⟩|⟨v,cN,c,G',h1,h2,h3,h4,h5,h6⟩
 ·exact .inl ⟨h1,cN,G',iu,h2,x.trans h3,h4⟩
 ·exact .inr ⟨v,cN,c,G',h1,h2,h3,x.trans h4,h5,h6⟩
theorem lB {ops:Array Oper} {Q Q':Exit→Act→World→Prop} (hq:∀e a w,Q e a w→Q' e a w):∀(l:List Nat) (a:Act) (w:World),wpOps P ops Q l a w→wpOps P ops Q' l a w
 |[],_,_,h=>hq _ _ _ h
 |i::rest,a,w,h=>by
  simp only[wpOps]at*
  split
  ·rename_i hi
   rw[hi]at h
   exact lB hq rest a w h
  ·rename_i o hi
   rw[hi]at h
   simp only at h
   split
   ·rename_i hw
    rw[if_pos hw]at h
    rcases h with h|⟨h1,h2⟩
    ·exact .inl (sn h (fun a w=>lB hq rest a w) hq)
    ·exact .inr ⟨h1,let ⟨a,w,h⟩:=h2;⟨a,w,hq _ _ _ h⟩⟩
   ·rename_i hw
    rw[if_neg hw]at h
    exact lB hq rest _ w h
def V4 (P:Program) (C:Ctx) (ops:Array Oper) (l:List Nat) (st:St) (out:Out):Prop:=
 ∀G lam a w,Inv C.bN G lam a w st→wpOps P ops (OQ C G w out) l a w
theorem Inv.open {gl:Nat→Option (List V)} {G:Gh} {lam:Nat→Nat} {a:Act} {w:World} {st:St} (h:Inv gl G lam a w st) {d:Nat} {v:V} {ow:Bool} (hd:st.au.getD d .dead=.val v ow):
  Rel G w v (a.tmps.getD d undef)∧Inv gl G lam a w (st.cD d (.val v false))∧d<a.tmps.size:=by
 have aG:d<st.au.length:=by
  rcases Nat.lt_or_ge d st.au.length with hh|hh
  ·exact hh
  ·rw[List.getD_eq_getElem?_getD,List.getElem?_eq_none hh]at hd;simp at hd
 have hg:st.au[d]?=some (.val v ow):=by rw[List.getD_eq_getElem?_getD,List.getElem?_eq_getElem aG]at hd;rw[List.getElem?_eq_getElem aG];simpa using hd
 have hr:=h.au d _ hg
 refine⟨hr.1,⟨h.defers,by simp[St.cD,h.len],by simp[St.cD,h.jL],fun r x hx=>?_,h.bC,h.bP⟩,by rw[h.len];exact aG⟩
 simp only[St.cD,List.getElem?_set]at hx
 split at hx
 ·rename_i WZ
  subst WZ
  obtain rfl:=Option.some.inj hx
  exact⟨hr.1,fun ho=>by simp at ho⟩
 ·exact h.au r x hx
theorem DY {v:V} {b:Bool} (h:v.asBool=some b) {G:Gh} {w:World} {c:Value} (hr:Rel G w v c):c=.bool b:=by
 rw[rH h]at hr;exact Cy hr
theorem OT {ops:Array Oper} {tmps:Array Value} {j d:Nat} {b:Bool} (hd:(ops[j]?).bind (·.dst)=some d) (hs:d<tmps.size) (hv:tmps.getD d undef=.bool b):yielded ops tmps j=some b:=by
 unfold yielded
 rw[hd]
 have:tmps[d]?=some (.bool b):=by
  rw[Array.getElem?_eq_getElem hs]
  rw[Array.getD_eq_getD_getElem?,Array.getElem?_eq_getElem hs]at hv
  simpa using hv
 simp[this]
theorem A1 {st:St} {d:Nat} {v:V} {ow b:Bool} (hd:st.au.getD d .dead=.val v ow) (hb:v.asBool=some b):st.cD d (.val (.bool b) ow)=st:=by
 rw[rH hb]at hd
 have:st.au.set d (.val (.bool b) ow)=st.au:=by
  apply List.ext_getElem?
  intro i
  rw[List.getElem?_set]
  split
  ·rename_i h
   subst h
   split
   ·rename_i hl
    rw[List.getD_eq_getElem?_getD,List.getElem?_eq_getElem hl]at hd
    rw[List.getElem?_eq_getElem hl]
    simp at hd
    rw[hd]
   ·rename_i hl
    rw[List.getElem?_eq_none (by omega)]
  ·rfl
 simp only[St.cD,this]
def eS (C:Ctx) (H:Hints) (call:af) (dr:Option (List (List Nat))) (ops:Array Oper) (i:Nat) (st:St):Option Out:=match ops[i]? with
 |none=>none
 |some o=>(bz (Cv H dr o st.au)).bind fun _=>match o.guard with
  |none=>zR C H call o st
  |some (j,want)=>match (ops[j]?).bind (·.dst)with
   |none=>none
   |some d=>match st.au.getD d .dead with
    |.val v _=>v.asBool.bind fun b=>if b=want then zR C H call o st else some (.next (st.put o.dst (.oH [])))
    |.oH []=>some (.next (st.put o.dst (.oH [])))
    |_=>none
def Z1 (dr:Option (List (List Nat))) (i:Nat) (rest:List Nat) (go:St→Option aQ) (K:Out→Option aQ):Out→Option aQ:=fun out=>match out with
 |.next st=>go st
 |.fB v st=>(bz (AI dr i rest)).bind fun _=>K (.fB v st)
theorem R9 (dr:Option (List (List Nat))) (ops:Array Oper) (i:Nat) (rest:List Nat) (st:St) (K:Out→Option aQ):
  pL C H call dr ops (i::rest) st K=(eS C H call dr ops i st).bind (Z1 dr i rest (fun st=>pL C H call dr ops rest st K) K):=by
 simp only[pL,eS]
 cases hi:ops[i]? with
 |none=>rfl
 |some o=>
  simp only
  cases bz (Cv H dr o st.au)with
  |none=>rfl
  |some u=>
   simp only[Option.bind_some]
   cases hg:o.guard with
   |none=>exact Jg _ _ _
   |some jw=>
    obtain⟨j,want⟩:=jw
    simp only
    cases hd:(ops[j]?).bind (·.dst)with
    |none=>rfl
    |some d=>
     simp only
     cases hv:st.au.getD d .dead with
     |val v ow=>
      simp only
      cases hb:v.asBool with
      |none=>rfl
      |some b=>
       simp only[Option.bind_some]
       have hs:=A1 hv hb
       cases b with
       |true=>
        simp only[cond_true,hs]
        cases want with
        |true=>simp only[if_true];exact Jg _ _ _
        |false=>rfl
       |false=>
        simp only[cond_false,hs]
        cases want with
        |true=>rfl
        |false=>simp only[Bool.false_eq_true,if_false,if_true];exact Jg _ _ _
     |oH cs=>cases cs<;>rfl
     |dead=>rfl
     |eK r o=>rfl
theorem D7 (hC:dN P C) (dW:nO P C H call) {o:Oper} {st:St} {out:Out} (h:zR C H call o st=some out):kM P C o st out:=by
 classical
 let K:Out→Option aQ:=fun o'=>if o'=out then some (.ret [],[])else none
 have h1:QT C H call o st K=some (.ret [],[]):=by rw[Jg,h];simp[K]
 obtain⟨o',h2,h3⟩:=R8 hC dW h1
 have:o'=out:=by
  simp only[K]at h2
  split at h2
  ·assumption
  ·simp at h2
 rw[←this];exact h3
theorem nP (hC:dN P C) (dW:nO P C H call) {dr:Option (List (List Nat))} {ops:Array Oper} {i:Nat} {st:St} {out:Out} (h:eS C H call dr ops i st=some out) {G:Gh} {lam:Nat→Nat} {a:Act} {w:World} (hI:Inv C.bN G lam a w st):
  ∃o,ops[i]?=some o∧((Region.wanted o (yielded ops a.tmps)=true∧o.wp P a w (NP C G w out) (QP C G w out))∨(Region.wanted o (yielded ops a.tmps)=false∧NP C G w out (a.put o.dst undef) w)):=by
 simp only[eS]at h
 split at h
 ·simp at h
 ·rename_i o hi
  refine⟨o,hi,?_⟩
  obtain⟨_,_,h⟩:=ai h
  split at h
  ·rename_i hg
   exact .inl ⟨by simp[Region.wanted,hg],D7 hC dW h G lam a w hI⟩
  ·rename_i j want hg
   split at h
   ·simp at h
   ·rename_i d hd
    split at h
    ·rename_i v ow hv
     obtain⟨b,hb,h2⟩:=ai h
     clear h
     have Z2:yielded ops a.tmps j=some b:=by
      obtain⟨h1,_,h2⟩:=hI.open hv
      exact OT hd h2 (DY hb h1)
     split at h2
     ·rename_i hbw
      subst hbw
      exact .inl ⟨by simp[Region.wanted,hg,Z2],D7 hC dW h2 G lam a w hI⟩
     ·rename_i hbw
      obtain rfl:=Option.some.inj h2
      refine .inr ⟨by simp[Region.wanted,hg,Z2,hbw],_,G,lam,rfl,Ext.refl _ _,hI.put o.dst (.oH []) undef fun _ _=>⟨[],rfl,rfl,by simp⟩⟩
    ·rename_i hv
     have hy:yielded ops a.tmps j≠some want:=by
      have hr:=jO hI d
      rw[hv]at hr
      obtain⟨xs,hx,_⟩:=hr
      have hx:a.tmps.getD d undef=.tuple xs.toArray:=hx
      unfold yielded
      rw[hd]
      simp only[Array.getD_eq_getD_getElem?]at hx
      cases S9:a.tmps[d]? with
      |none=>simp[S9]
      |some v=>rw[S9]at hx;simp only[Option.getD_some]at hx;subst hx;simp[S9]
     obtain rfl:=Option.some.inj h
     refine .inr ⟨by simp[Region.wanted,hg,hy],_,G,lam,rfl,Ext.refl _ _,hI.put o.dst (.oH []) undef fun _ _=>⟨[],rfl,rfl,by simp⟩⟩
    ·simp at h
inductive Jc (C:Ctx) (H:Hints) (call:af) (dr:Option (List (List Nat))) (ops:Array Oper):List Nat→St→Out→Prop
 |nil (st:St):Jc C H call dr ops [] st (.next st)
 |next {i:Nat} {rest:List Nat} {st eI:St} {out:Out}:eS C H call dr ops i st=some (.next eI)→Jc C H call dr ops rest eI out→Jc C H call dr ops (i::rest) st out
 |fB {i:Nat} {rest:List Nat} {st eI:St} {v:V}:eS C H call dr ops i st=some (.fB v eI)→AI dr i rest=true→Jc C H call dr ops (i::rest) st (.fB v eI)
theorem zS {dr:Option (List (List Nat))} {ops:Array Oper}:∀(l:List Nat) (st:St) (K:Out→Option aQ) (r:aQ),pL C H call dr ops l st K=some r→∃out,K out=some r∧Jc C H call dr ops l st out
 |[],st,K,r,h=>⟨.next st,h,.nil st⟩
 |i::rest,st,K,r,h=>by
  rw[R9]at h
  obtain⟨adF,h1,h2⟩:=ai h
  cases adF with
  |next eI=>
   obtain⟨out,h3,h4⟩:=zS rest eI K r h2
   exact⟨out,h3,.next h1 h4⟩
  |fB v eI=>
   simp only[Z1]at h2
   obtain⟨u,hu,h2⟩:=ai h2
   exact⟨_,h2,.fB h1 (cL hu)⟩
theorem OU (hC:dN P C) (dW:nO P C H call) {dr:Option (List (List Nat))} {ops:Array Oper} {l:List Nat} {st:St} {out:Out} (h:Jc C H call dr ops l st out):V4 P C ops l st out:=by
 induction h with
 |nil st=>exact fun G lam a w hI=>.inl ⟨rfl,st,G,lam,rfl,Ext.refl _ _,hI⟩
 |@next i rest st eI out h1 h2 ih=>
  intro G lam a w hI
  obtain⟨o,hi,hh⟩:=nP hC dW h1 hI
  simp only[wpOps,hi]
  rcases hh with⟨hw,hh⟩|⟨hw,cN,G',iu,e1,e2,e3⟩
  ·rw[if_pos hw]
   refine .inl (sn hh (fun a' w' hn=>?_) (fun e a' w' hq=>?_))
   ·obtain⟨cN,G',iu,e1,e2,e3⟩:=hn
    cases e1
    exact lB (fun e a w=>OQ.trans e2) rest a' w' (ih G' iu a' w' e3)
   ·obtain⟨v,cN,c,G',e1,_⟩:=hq;cases e1
  ·rw[if_neg (by rw[hw];simp)]
   cases e1
   exact lB (fun e a w=>OQ.trans e2) rest _ w (ih G' iu _ w e3)
 |@fB i rest st eI v h1 h2=>
  intro G lam a w hI
  obtain⟨o,hi,hh⟩:=nP hC dW h1 hI
  simp only[wpOps,hi]
  rcases hh with⟨hw,hh⟩|⟨hw,cN,G',iu,e1,e2,e3⟩
  ·rw[if_pos hw]
   refine .inl (sn hh (fun a' w' hn=>?_) (fun e a' w' hq=>.inr hq))
   obtain⟨cN,G',iu,e1,e2,e3⟩:=hn
   cases e1
  ·cases e1
theorem OJ (hC:dN P C) (dW:nO P C H call) {dr:Option (List (List Nat))} {ops:Array Oper} (l:List Nat) (st:St) (K:Out→Option aQ) (r:aQ) (h:pL C H call dr ops l st K=some r):∃out,K out=some r∧V4 P C ops l st out:=
 let ⟨out,h1,h2⟩:=zS l st K r h
 ⟨out,h1,OU hC dW h2⟩
end
end Go.Ab
end
