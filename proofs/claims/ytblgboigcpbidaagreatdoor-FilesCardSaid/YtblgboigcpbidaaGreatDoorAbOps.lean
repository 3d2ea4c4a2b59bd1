/- Regions: the abstract run is met by the real one. -/
import Derived.Test.YtblgboigcpbidaaGreatDoorAbEff
import Derived.Test.YtblgboigcpbidaaGreatDoorAbFill
set_option linter.unusedSimpArgs false
set_option linter.unusedVariables false
set_option linter.deprecated false
section
namespace Go.Ab
def EndRel (G : Gh) (w : World) (e : End) (en : Ending) : Prop :=
 match e with
 | .ret vs => ∃ cs : List Value, cs.length = vs.length ∧ en = .returned (if h : cs.toArray.size = 1 then cs.toArray[0] else .tuple cs.toArray) ∧ ∀ (i : Nat) c x, vs[i]? = some c → cs[i]? = some x → CRel G w (.res i) c x
 | .pan v => ∃ c, en = .panicked [{ v := c, recovered := false }] ∧ Rel G w v c
def Clean (G : Gh) (n : Nat) : Prop := ∀ i p, G.owner i = some p → (∃ b, p = .blk b) ∨ (∃ b o, p = .gc b o) ∨ ∃ r, r < n ∧ p = .reg r
def CallOk (P : Program) (C : Ctx) (call : CallF) : Prop :=
 ∀ f args σ r, call f args σ = some r → (∀ (vals : Array Value) (w : World), (callFunc f vals).run P w = .ok (.enter f vals) w) ∧
  ∀ (G : Gh) (w : World) (vals : List Value), SInv C.glob G w σ → Clean G args.length → vals.length = args.length → (∀ (i : Nat) c x, args[i]? = some c → vals[i]? = some x → CRel G w (.reg i) c x) →
   Calls P f vals.toArray w fun en w' => ∃ G', Ext G w G' w' ∧ SInv C.glob G' w' r.2 ∧ EndRel G' w' r.1 en
section
variable {P : Program} {C : Ctx} {H : Hints} {call : CallF} {G : Gh} {lam : Nat → Nat} {a : Act} {w : World} {st : St}
theorem upon_value {o : Oper} {K : Act → World → Prop} {Q : Exit → Act → World → Prop} {c : Value} {w' : World} (h : (execOp a.eval o).run P w = .ok (.value c) w') (hk : K (a.put o.dst c) w') : o.wp P a w K Q := by
 unfold Oper.wp
 rw [h]
 exact hk
theorem upon_skip' {o : Oper} {K : Act → World → Prop} {Q : Exit → Act → World → Prop} {w' : World} (h : (execOp a.eval o).run P w = .ok .skip w') (hk : K (a.put o.dst undef) w') : o.wp P a w K Q := by
 unfold Oper.wp
 rw [h]
 exact hk
def Sound1 (P : Program) (C : Ctx) (o : Oper) (st : St) (out : Out) : Prop :=
 ∀ G lam a w, Inv C.glob G lam a w st → o.wp P a w (NP C G w out) (QP C G w out)
theorem sound_val (o : Oper) (x : RV) (h : ∀ G lam a w, Inv C.glob G lam a w st → VOk P C H G lam a w st o x) : Sound1 P C o st (.next ((st.clear (clearOf H o)).put o.dst x)) := by
 intro G lam a w hI
 obtain ⟨c, w', G', h1, h2, h3, h4⟩ := h G lam a w hI
 exact upon_value h1 ⟨_, G', lam, rfl, h2, h3.put o.dst x c h4⟩
theorem act_val (hC : CtxOk P C) {o : Oper} {x : RV} (ha : act C H o st.regs = some (.val x)) (G : Gh) (lam : Nat → Nat) (a : Act) (w : World) (h : Inv C.glob G lam a w st) : VOk P C H G lam a w st o x := by
 cases ho : o.op with
 | move y => exact val_move h ho ha
 | assign y => exact val_assign h ho ha
 | pick c y z => exact val_pick h ho ha
 | build t parts => exact val_build hC h ho ha
 | buildSlice t n parts => exact val_buildSlice hC h ho ha
 | load t y => exact val_load hC h ho ha
 | nilCheck y => exact val_nilCheck h ho ha
 | binOp op t y z u => exact val_binOp hC h ho ha
 | unOp op t y => exact val_unOp h ho ha
 | convert s d y => exact val_convert hC h ho ha
 | makeInterface t y => exact val_makeInterface hC h ho ha
 | makeFunc fn f c => exact val_makeFunc h ho ha
 | slice t y l hh m => exact val_slice hC h ho ha
 | fieldAddr t y f => exact val_fieldAddr hC h ho ha
 | field t y f => exact val_field hC h ho ha
 | indexAddr t y i => exact val_indexAddr hC h ho ha
 | index t y i => exact val_index hC h ho ha
 | lookup t y i k => exact val_lookup hC h ho ha
 | call c =>
  cases hb : c.callee with
  | builtin b =>
   cases b
   case append => exact val_append hC h ho hb ha
   case len => exact val_len hC h ho hb ha
   case max => exact val_max h ho hb ha
   all_goals (simp [act, ho, hb] at ha)
  | invoke r m => simp [act, ho, hb] at ha
  | value g =>
   simp only [act, ho, hb] at ha
   obtain ⟨v, _, ha⟩ := bind2 ha
   obtain ⟨f, _, ha⟩ := bind2 ha
   split at ha
   ·obtain ⟨args, _, ha⟩ := bind2 ha; split at ha <;> simp at ha
   ·simp at ha
 | alloc t =>
  simp only [act, ho] at ha
  obtain ⟨i, _, ha⟩ := bind2 ha
  split at ha
  ·simp at ha
  ·split at ha <;> simp at ha
 | box t y =>
  simp only [act, ho] at ha
  obtain ⟨i, _, ha⟩ := bind2 ha
  obtain ⟨c, _, ha⟩ := bind2 ha
  obtain ⟨u, _, ha⟩ := bind2 ha
  split at ha <;> simp at ha
 | store t y z =>
  simp only [act, ho] at ha
  obtain ⟨i, _, ha⟩ := bind2 ha
  obtain ⟨c, _, ha⟩ := bind2 ha
  obtain ⟨u, _, ha⟩ := bind2 ha
  split at ha <;> simp at ha
 | extract t i =>
  simp only [act, ho] at ha
  split at ha <;> simp at ha
 | panic y =>
  simp only [act, ho] at ha
  obtain ⟨i, _, ha⟩ := bind2 ha
  obtain ⟨c, _, ha⟩ := bind2 ha
  simp at ha
 | _ => simp [act, ho] at ha
theorem opndT_lptr {regs : List RV} {t : TypeId} {y : Operand} {r of : Nat} (h : opndT C regs t y = .lptr r of) : ∃ a, y = .tmp a ∧ regs.getD a .dead = .lptr r of := by
 cases y with
 | tmp a => exact ⟨a, rfl, h⟩
 | const c => simp only [opndT] at h; split at h <;> (try split at h) <;> (try split at h) <;> simp at h
 | global g => simp only [opndT] at h; split at h <;> simp at h
 | func f => simp [opndT] at h
theorem own_lptr {regs : List RV} {t : TypeId} {y : Operand} {r of : Nat} (h : valOwn (opndT C regs t y) = .lptr r of ∨ noOwn (opndT C regs t y) = .lptr r of) : ∃ a of', regs.getD a .dead = .lptr r of' := by
 cases hv : opndT C regs t y with
 | lptr r' of' =>
  rw [hv] at h
  obtain ⟨a, _, h2⟩ := opndT_lptr hv
  simp [valOwn, noOwn] at h
  exact ⟨a, of', by rw [h2, h.1]⟩
 | _ => rw [hv] at h; simp [valOwn, noOwn] at h
theorem isPure_func {g : Operand} (h : isPure H g = true) : ∃ f, g = .func f ∧ H.pureF.contains f = true := by
 cases g with
 | func f => exact ⟨f, rfl, h⟩
 | _ => simp [isPure] at h
theorem act_inv {o : Oper} {e : Eff} {regs : List RV} (ha : act C H o regs = some e) : match e with
  | .val x => ∀ r of, x = .lptr r of → ∃ a of', regs.getD a .dead = .lptr r of'
  | .getL r of n ag sl => ∃ t y i, o.op = .load t y ∧ C.T t = some i ∧ opndT C regs 0 y = .lptr r of ∧ n = i.size ∧ ag = i.agg ∧ sl = o.dst.any H.steal.contains
  | .getS p n ag => ∃ t y i ow, o.op = .load t y ∧ C.T t = some i ∧ opndT C regs 0 y = .val p ow ∧ n = i.size ∧ ag = i.agg
  | .takeS p => ∃ t y i ow, o.op = .load t y ∧ C.T t = some i ∧ opndT C regs 0 y = .val p ow ∧ i.size = 1 ∧ i.agg = false
  | .setL r of cs => ∃ t y z i c, o.op = .store t y z ∧ C.T t = some i ∧ ck C regs t z = some c ∧ c.1.fits i.agg i.size = true ∧ opndT C regs 0 y = .lptr r of ∧ cs = cellsO c.1 c.2 i.agg i.size
  | .setS p cs => ∃ t y z i c ow, o.op = .store t y z ∧ C.T t = some i ∧ ck C regs t z = some c ∧ c.1.fits i.agg i.size = true ∧ opndT C regs 0 y = .val p ow ∧ cs = cellsO c.1 c.2 i.agg i.size
  | .newL cs => (∃ t i, o.op = .alloc t ∧ C.T t = some i ∧ i.isTup = false ∧ cs = i.zero.map fun v => (v, v.isSl)) ∨ ∃ t x i c, o.op = .box t x ∧ C.T t = some i ∧ ck C regs t x = some c ∧ c.1.fits i.agg i.size = true ∧ cs = cellsO c.1 c.2 i.agg i.size
  | .newS tt cs => ((∃ t i, o.op = .alloc t ∧ C.T t = some i ∧ i.isTup = false ∧ cs = i.zero.map fun v => (v, v.isSl)) ∨ ∃ t x i c, o.op = .box t x ∧ C.T t = some i ∧ ck C regs t x = some c ∧ c.1.fits i.agg i.size = true ∧ cs = cellsO c.1 c.2 i.agg i.size) ∧ (o.op = .alloc tt ∨ ∃ x, o.op = .box tt x)
  | .tupTake r i => o.op = .extract (.tmp r) i
  | .call f args n => ∃ c g gv first cap as, o.op = .call c ∧ c.callee = .value g ∧ vk C regs 0 g = some gv ∧ gv = .func (.func f) first cap ∧ c.args.size = c.argTypes.size ∧ distinct (c.args.toList.flatMap tmpOf) = true ∧
    argCells C regs (c.args.toList.zip c.argTypes.toList) = some as ∧ args = first.map (fun v => (v, false)) ++ as ++ cap.map (fun v => (v, false)) ∧ n = nres C o.type ∧ isPure H g = false
  | .pcall f args n => (∃ c g gv first cap as, o.op = .call c ∧ c.callee = .value g ∧ vk C regs 0 g = some gv ∧ gv = .func (.func f) first cap ∧ c.args.size = c.argTypes.size ∧ distinct (c.args.toList.flatMap tmpOf) = true ∧
    argCells C regs (c.args.toList.zip c.argTypes.toList) = some as ∧ args = first.map (fun v => (v, false)) ++ as ++ cap.map (fun v => (v, false)) ∧ n = nres C o.type) ∧ H.pureF.contains f = true
  | .pan v => ∃ x, o.op = .panic x ∧ vk C regs 0 x = some v ∧ ∃ t u, v = .iface t u := by
 cases ho : o.op with
 | load t y =>
  simp only [act, ho] at ha
  obtain ⟨i, hi, ha⟩ := bind2 ha
  split at ha
  ·obtain rfl := Option.some.inj ha
   exact ⟨t, y, i, rfl, hi, ‹_›, rfl, rfl, rfl⟩
  ·obtain ⟨v, _, ha⟩ := bind2 ha; obtain rfl := Option.some.inj ha; exact fun _ _ hx => nomatch hx
  ·split at ha
   ·split at ha
    ·simp at ha
    ·rename_i hh
     obtain rfl := Option.some.inj ha
     simp at hh
     exact ⟨t, y, i, _, rfl, hi, ‹_›, hh.2, hh.1⟩
   ·obtain rfl := Option.some.inj ha
    exact ⟨t, y, i, _, rfl, hi, ‹_›, rfl, rfl⟩
  ·simp at ha
 | store t y z =>
  simp only [act, ho] at ha
  obtain ⟨i, hi, ha⟩ := bind2 ha
  obtain ⟨c, hc, ha⟩ := bind2 ha
  obtain ⟨u, hu, ha⟩ := bind2 ha
  split at ha
  ·obtain rfl := Option.some.inj ha
   exact ⟨t, y, z, i, c, rfl, hi, hc, grd_some hu, ‹_›, rfl⟩
  ·obtain rfl := Option.some.inj ha
   exact ⟨t, y, z, i, c, _, rfl, hi, hc, grd_some hu, ‹_›, rfl⟩
  ·simp at ha
 | alloc t =>
  simp only [act, ho] at ha
  obtain ⟨i, hi, ha⟩ := bind2 ha
  split at ha
  ·simp at ha
  ·rename_i htup
   have htup : i.isTup = false := by simpa using htup
   split at ha <;> (obtain rfl := Option.some.inj ha; first | exact .inl ⟨t, i, rfl, hi, htup, rfl⟩ | exact ⟨.inl ⟨t, i, rfl, hi, htup, rfl⟩, .inl rfl⟩)
 | box t y =>
  simp only [act, ho] at ha
  obtain ⟨i, hi, ha⟩ := bind2 ha
  obtain ⟨c, hc, ha⟩ := bind2 ha
  obtain ⟨u, hu, ha⟩ := bind2 ha
  split at ha <;> (obtain rfl := Option.some.inj ha; first | exact .inr ⟨t, y, i, c, rfl, hi, hc, grd_some hu, rfl⟩ | exact ⟨.inr ⟨t, y, i, c, rfl, hi, hc, grd_some hu, rfl⟩, .inr ⟨y, rfl⟩⟩)
 | extract t i =>
  simp only [act, ho] at ha
  split at ha
  ·obtain rfl := Option.some.inj ha; rfl
  ·simp at ha
 | panic y =>
  simp only [act, ho] at ha
  obtain ⟨v, hv, ha⟩ := bind2 ha
  obtain ⟨u, hu, ha⟩ := bind2 ha
  obtain rfl := Option.some.inj ha
  cases v <;> simp [V.asIface] at hu
  subst hu
  exact ⟨y, rfl, hv, _, _, rfl⟩
 | call c =>
  cases hb : c.callee with
  | builtin b =>
   cases b
   case len =>
    simp only [act, ho, hb] at ha
    split at ha
    ·obtain ⟨i, hi, ha⟩ := bind2 ha
     split at ha
     ·obtain ⟨_, _, ha⟩ := bind2 ha
      obtain ⟨_, _, ha⟩ := bind2 ha
      obtain rfl := Option.some.inj ha; exact fun _ _ hx => nomatch hx
     ·obtain ⟨_, _, ha⟩ := bind2 ha
      obtain ⟨_, _, ha⟩ := bind2 ha
      obtain ⟨_, _, ha⟩ := bind2 ha
      obtain rfl := Option.some.inj ha; exact fun _ _ hx => nomatch hx
     ·obtain rfl := Option.some.inj ha; exact fun _ _ hx => nomatch hx
     ·simp at ha
    ·simp at ha
   case max =>
    simp only [act, ho, hb] at ha
    split at ha
    ·obtain ⟨_, _, ha⟩ := bind2 ha
     obtain ⟨_, _, ha⟩ := bind2 ha
     obtain ⟨_, _, ha⟩ := bind2 ha
     obtain ⟨_, _, ha⟩ := bind2 ha
     obtain rfl := Option.some.inj ha; exact fun _ _ hx => nomatch hx
    ·simp at ha
   case append =>
    simp only [act, ho, hb] at ha
    split at ha
    ·obtain ⟨_, _, ha⟩ := bind2 ha
     obtain ⟨_, _, ha⟩ := bind2 ha
     split at ha
     ·obtain ⟨_, _, ha⟩ := bind2 ha
      obtain ⟨_, _, ha⟩ := bind2 ha
      split at ha
      ·split at ha
       ·obtain ⟨_, _, ha⟩ := bind2 ha
        obtain ⟨_, _, ha⟩ := bind2 ha
        obtain ⟨_, _, ha⟩ := bind2 ha
        obtain ⟨_, _, ha⟩ := bind2 ha
        obtain rfl := Option.some.inj ha; exact fun _ _ hx => nomatch hx
       ·simp at ha
      ·simp at ha
     ·obtain ⟨_, _, ha⟩ := bind2 ha
      split at ha
      ·split at ha
       ·obtain ⟨_, _, ha⟩ := bind2 ha
        obtain ⟨_, _, ha⟩ := bind2 ha
        obtain ⟨_, _, ha⟩ := bind2 ha
        obtain ⟨_, _, ha⟩ := bind2 ha
        obtain rfl := Option.some.inj ha; exact fun _ _ hx => nomatch hx
       ·simp at ha
      ·simp at ha
     ·simp at ha
    ·simp at ha
   all_goals (simp [act, ho, hb] at ha)
  | invoke r m => simp [act, ho, hb] at ha
  | value g =>
   simp only [act, ho, hb] at ha
   obtain ⟨gv, hg, ha⟩ := bind2 ha
   obtain ⟨f, hf, ha⟩ := bind2 ha
   split at ha
   ·rename_i hc
    obtain ⟨as, has, ha⟩ := bind2 ha
    have : gv = .func (.func f.1) f.2.1 f.2.2 := by
     cases gv <;> simp [V.asFunc] at hf
     rename_i fn _ _
     cases fn <;> simp [V.asFunc] at hf
     subst hf; rfl
    split at ha
    ·rename_i hp
     obtain rfl := Option.some.inj ha
     refine ⟨⟨c, g, gv, f.2.1, f.2.2, as, rfl, hb, hg, this, hc.1, hc.2, has, rfl, rfl⟩, ?_⟩
     obtain ⟨f0, rfl, hp0⟩ := isPure_func hp
     have h0 : gv = .func (.func f0) [] [] := by
      simp only [vk, opndT, Option.some.injEq] at hg
      exact hg.symm
     rw [this] at h0
     injection h0 with h1
     injection h1 with h2
     rw [h2]; exact hp0
    ·rename_i hp
     obtain rfl := Option.some.inj ha
     exact ⟨c, g, gv, f.2.1, f.2.2, as, rfl, hb, hg, this, hc.1, hc.2, has, rfl, rfl, hp⟩
   ·simp at ha
 | move y =>
  simp only [act, ho] at ha
  split at ha
  ·obtain rfl := Option.some.inj ha; exact fun r of h => own_lptr (.inl h)
  ·obtain rfl := Option.some.inj ha; exact fun r of h => own_lptr (.inr h)
 | assign y => simp only [act, ho] at ha; obtain rfl := Option.some.inj ha; exact fun r of h => own_lptr (.inl h)
 | pick c y z =>
  simp only [act, ho] at ha
  obtain ⟨_, _, ha⟩ := bind2 ha
  obtain ⟨b, _, ha⟩ := bind2 ha
  obtain rfl := Option.some.inj ha
  cases b
  ·exact fun r of h => own_lptr (.inr h)
  ·exact fun r of h => own_lptr (.inr h)
 | build t parts =>
  simp only [act, ho] at ha
  obtain ⟨_, _, ha⟩ := bind2 ha
  split at ha
  ·split at ha
   ·obtain ⟨_, _, ha⟩ := bind2 ha; obtain rfl := Option.some.inj ha; exact fun _ _ hx => nomatch hx
   ·simp at ha
  ·obtain ⟨_, _, ha⟩ := bind2 ha
   obtain ⟨_, _, ha⟩ := bind2 ha
   obtain rfl := Option.some.inj ha; exact fun _ _ hx => nomatch hx
  ·simp at ha
 | buildSlice t n parts =>
  simp only [act, ho] at ha
  obtain ⟨_, _, ha⟩ := bind2 ha
  split at ha
  ·obtain ⟨_, _, ha⟩ := bind2 ha
   split at ha
   ·obtain ⟨_, _, ha⟩ := bind2 ha; obtain rfl := Option.some.inj ha; exact fun _ _ hx => nomatch hx
   ·simp at ha
  ·simp at ha
 | nilCheck y =>
  simp only [act, ho] at ha
  split at ha
  ·rename_i hx
   obtain rfl := Option.some.inj ha
   obtain ⟨a, _, h2⟩ := opndT_lptr hx
   exact fun r of h => by cases h; exact ⟨a, _, h2⟩
  ·obtain ⟨_, _, ha⟩ := bind2 ha; obtain rfl := Option.some.inj ha; exact fun _ _ hx => nomatch hx
  ·simp at ha
 | binOp op t y z u => simp only [act, ho] at ha; obtain ⟨_, _, ha⟩ := bind2 ha; obtain rfl := Option.some.inj ha; exact fun _ _ hx => nomatch hx
 | unOp op t y =>
  simp only [act, ho] at ha
  obtain ⟨_, _, ha⟩ := bind2 ha
  split at ha
  ·obtain ⟨_, _, ha⟩ := bind2 ha; obtain rfl := Option.some.inj ha; exact fun _ _ hx => nomatch hx
  ·obtain ⟨_, _, ha⟩ := bind2 ha; obtain rfl := Option.some.inj ha; exact fun _ _ hx => nomatch hx
  ·simp at ha
 | convert s d y =>
  simp only [act, ho] at ha
  obtain ⟨_, _, ha⟩ := bind2 ha
  obtain ⟨_, _, ha⟩ := bind2 ha
  split at ha
  ·obtain ⟨_, _, ha⟩ := bind2 ha
   obtain ⟨_, _, ha⟩ := bind2 ha
   obtain rfl := Option.some.inj ha; exact fun _ _ hx => nomatch hx
  ·obtain ⟨_, _, ha⟩ := bind2 ha
   split at ha
   ·obtain ⟨_, _, ha⟩ := bind2 ha
    obtain ⟨_, _, ha⟩ := bind2 ha
    obtain rfl := Option.some.inj ha; exact fun _ _ hx => nomatch hx
   ·simp at ha
  ·simp at ha
 | makeInterface t y =>
  simp only [act, ho] at ha
  obtain ⟨_, _, ha⟩ := bind2 ha
  split at ha
  ·simp at ha
  ·obtain ⟨_, _, ha⟩ := bind2 ha; obtain rfl := Option.some.inj ha; exact fun _ _ hx => nomatch hx
 | makeFunc fn f c =>
  simp only [act, ho] at ha
  split at ha
  ·obtain ⟨_, _, ha⟩ := bind2 ha; obtain rfl := Option.some.inj ha; exact fun _ _ hx => nomatch hx
  ·simp at ha
 | slice t y l hh m =>
  simp only [act, ho] at ha
  obtain ⟨_, _, ha⟩ := bind2 ha
  split at ha
  ·split at ha
   ·simp at ha
   ·obtain ⟨_, _, ha⟩ := bind2 ha
    obtain ⟨_, _, ha⟩ := bind2 ha
    obtain ⟨_, _, ha⟩ := bind2 ha
    obtain ⟨_, _, ha⟩ := bind2 ha
    obtain ⟨_, _, ha⟩ := bind2 ha
    obtain rfl := Option.some.inj ha; exact fun _ _ hx => nomatch hx
  ·obtain ⟨_, _, ha⟩ := bind2 ha
   obtain ⟨_, _, ha⟩ := bind2 ha
   obtain ⟨_, _, ha⟩ := bind2 ha
   obtain ⟨_, _, ha⟩ := bind2 ha
   obtain ⟨_, _, ha⟩ := bind2 ha
   obtain ⟨_, _, ha⟩ := bind2 ha
   split at ha
   ·obtain rfl := Option.some.inj ha; exact fun _ _ hx => nomatch hx
   ·split at ha
    ·obtain ⟨_, _, ha⟩ := bind2 ha
     obtain ⟨_, _, ha⟩ := bind2 ha
     obtain rfl := Option.some.inj ha; exact fun _ _ hx => nomatch hx
    ·simp at ha
  ·obtain ⟨_, _, ha⟩ := bind2 ha
   split at ha
   ·simp at ha
   ·obtain ⟨_, _, ha⟩ := bind2 ha
    obtain ⟨_, _, ha⟩ := bind2 ha
    obtain ⟨_, _, ha⟩ := bind2 ha
    obtain ⟨_, _, ha⟩ := bind2 ha
    obtain ⟨_, _, ha⟩ := bind2 ha
    obtain rfl := Option.some.inj ha; exact fun _ _ hx => nomatch hx
  ·simp at ha
 | fieldAddr t y f =>
  simp only [act, ho] at ha
  obtain ⟨_, _, ha⟩ := bind2 ha
  split at ha
  ·obtain ⟨_, _, ha⟩ := bind2 ha
   obtain ⟨_, _, ha⟩ := bind2 ha
   split at ha
   ·simp at ha
   ·split at ha
    ·rename_i hx
     obtain rfl := Option.some.inj ha
     obtain ⟨a, _, h2⟩ := opndT_lptr hx
     exact fun r of h => by cases h; exact ⟨a, _, h2⟩
    ·obtain ⟨_, _, ha⟩ := bind2 ha; obtain rfl := Option.some.inj ha; exact fun _ _ hx => nomatch hx
    ·simp at ha
  ·simp at ha
 | field t y f =>
  simp only [act, ho] at ha
  obtain ⟨_, _, ha⟩ := bind2 ha
  split at ha
  ·obtain ⟨_, _, ha⟩ := bind2 ha
   obtain ⟨_, _, ha⟩ := bind2 ha
   obtain ⟨_, _, ha⟩ := bind2 ha
   obtain ⟨_, _, ha⟩ := bind2 ha
   split at ha <;> (obtain rfl := Option.some.inj ha; exact fun _ _ hx => nomatch hx)
  ·simp at ha
 | indexAddr t y i =>
  simp only [act, ho] at ha
  obtain ⟨_, _, ha⟩ := bind2 ha
  split at ha
  ·obtain ⟨_, _, ha⟩ := bind2 ha
   obtain ⟨_, _, ha⟩ := bind2 ha
   obtain ⟨_, _, ha⟩ := bind2 ha
   obtain ⟨_, _, ha⟩ := bind2 ha
   obtain ⟨_, _, ha⟩ := bind2 ha
   obtain ⟨_, _, ha⟩ := bind2 ha
   obtain rfl := Option.some.inj ha; exact fun _ _ hx => nomatch hx
  ·obtain ⟨_, _, ha⟩ := bind2 ha
   obtain ⟨_, _, ha⟩ := bind2 ha
   obtain ⟨_, _, ha⟩ := bind2 ha
   obtain ⟨_, _, ha⟩ := bind2 ha
   obtain ⟨_, _, ha⟩ := bind2 ha
   obtain ⟨_, _, ha⟩ := bind2 ha
   obtain rfl := Option.some.inj ha; exact fun _ _ hx => nomatch hx
  ·simp at ha
 | lookup t y i k =>
  simp only [act, ho] at ha
  obtain ⟨_, _, ha⟩ := bind2 ha
  split at ha
  ·obtain ⟨_, _, ha⟩ := bind2 ha
   obtain ⟨_, _, ha⟩ := bind2 ha
   split at ha
   ·obtain ⟨_, _, ha⟩ := bind2 ha
    obtain ⟨_, _, ha⟩ := bind2 ha
    obtain ⟨_, _, ha⟩ := bind2 ha
    obtain ⟨_, _, ha⟩ := bind2 ha
    obtain rfl := Option.some.inj ha; exact fun _ _ hx => nomatch hx
   ·simp at ha
  ·simp at ha
 | index t y i =>
  simp only [act, ho] at ha
  obtain ⟨_, _, ha⟩ := bind2 ha
  split at ha
  ·obtain ⟨_, _, ha⟩ := bind2 ha
   obtain ⟨_, _, ha⟩ := bind2 ha
   obtain ⟨_, _, ha⟩ := bind2 ha
   obtain ⟨_, _, ha⟩ := bind2 ha
   obtain ⟨_, _, ha⟩ := bind2 ha
   obtain rfl := Option.some.inj ha; exact fun _ _ hx => nomatch hx
  ·obtain ⟨_, _, ha⟩ := bind2 ha
   split at ha
   ·simp at ha
   ·split at ha
    ·simp at ha
    ·obtain ⟨_, _, ha⟩ := bind2 ha
     obtain ⟨_, _, ha⟩ := bind2 ha
     obtain ⟨_, _, ha⟩ := bind2 ha
     obtain ⟨_, _, ha⟩ := bind2 ha
     obtain ⟨_, _, ha⟩ := bind2 ha
     obtain rfl := Option.some.inj ha; exact fun _ _ hx => nomatch hx
  ·simp at ha
 | _ => simp [act, ho] at ha
theorem noclear {o : Oper} (h : clearOf H o = []) : st.clear (clearOf H o) = st := by rw [h]; rfl
theorem getD_cell {cs : List Cell} {o : Nat} (h : o < cs.length) : cs.getD o cellD = cs[o] := by rw [List.getD_eq_getElem?_getD, List.getElem?_eq_getElem h]; rfl
theorem getD_blk {l : List (List Cell)} {r : Nat} (h : l.getD r [] ≠ []) : r < l.length ∧ l[r]? = some (l.getD r []) := by
 have hlt : r < l.length := by
  rcases Nat.lt_or_ge r l.length with hh | hh
  ·exact hh
  ·exfalso; apply h; rw [List.getD_eq_getElem?_getD, List.getElem?_eq_none hh]; rfl
 exact ⟨hlt, by rw [List.getD_eq_getElem?_getD, List.getElem?_eq_getElem hlt]; rfl⟩
theorem cell_read {t : TypeId} {i : TI} (hT : TOk P t i) {r0 : Nat} {p : Place} {q : Nat → Place} {cs : List Cell} (h : BlkOk G w r0 p q cs) {o : Nat} (hlt : o < cs.length) (hn : i.size = 1) (hag : i.agg = false) :
  ∃ x, (loadVar t ⟨r0, o, none⟩).run P w = .ok x w ∧ CRel G w (q o) (cs.getD o cellD) x := by
 obtain ⟨cv, el, g1, g2, g3, g4, g5⟩ := h
 have hlt' : o < cv.size := by omega
 obtain ⟨e1, _⟩ := g5 o _ _ (List.getElem?_eq_getElem hlt) (Array.getElem?_eq_getElem hlt')
 refine ⟨cv[o], ?_, by rw [getD_cell hlt]; exact e1⟩
 have := run_loadVar_of (w := w) hT r0 o [cv[o]] (by simp [hn]) (fun j c hj => by
  cases j with
  | zero => simp at hj; subst hj; rw [cell?_of_heap g1]; simp
  | succ j => simp at hj) (fun _ => hn)
 rw [hag] at this
 simpa using this
theorem strike {r0 : Nat} {p : Place} {q : Nat → Place} {cs : List Cell} (h : BlkOk G w r0 p q cs) {o : Nat} (hlt : o < cs.length) : BlkOk G w r0 p q (cs.set o ((cs.getD o cellD).1, false)) := by
 obtain ⟨cv, el, g1, g2, g3, g4, g5⟩ := h
 refine ⟨cv, el, g1, by simpa using g2, g3, g4, fun j c x hc hx => ?_⟩
 rw [List.getElem?_set] at hc
 split at hc
 ·rename_i hj
  subst hj
  obtain ⟨e1, e2⟩ := g5 o _ x (List.getElem?_eq_getElem hlt) hx
  obtain rfl := Option.some.inj hc
  rw [getD_cell hlt]
  exact ⟨⟨e1.1, fun ho => by simp at ho⟩, e2⟩
 ·exact g5 j c x hc hx
theorem eff_getL (hC : CtxOk P C) {o : Oper} {r of n : Nat} {ag sl : Bool} (ha : act C H o st.regs = some (.getL r of n ag sl)) {K : Out → Option Res} {res : Res}
  (hk : apply H call o.dst (st.clear (clearOf H o)) K (.getL r of n ag sl) = some res) : ∃ out, K out = some res ∧ Sound1 P C o st out := by
 obtain ⟨t, y, i, ho, hi, hy, rfl, rfl, hsl⟩ := act_inv ha
 have hT := hC.T t i hi
 rw [noclear (by simp [clearOf, ho])] at hk
 simp only [apply] at hk
 split at hk
 ·split at hk
  ·rename_i hcond
   obtain ⟨hlt, hn1, hag⟩ := hcond
   split at hk
   ·rename_i hfl
    refine ⟨_, hk, fun G lam a w h => ?_⟩
    have hne : st.locs.getD r [] ≠ [] := by intro hh; rw [hh] at hlt; simp at hlt
    have hB := (locs_ok h r).resolve_right hne
    obtain ⟨hrlt, hget⟩ := getD_blk hne
    obtain ⟨x, e1, e2⟩ := cell_read (P := P) hT hB hlt hn1 hag
    have hI' := h.setLoc (Ext.refl _ _) ⟨fun i p hp _ => ⟨rfl, rfl, hp⟩⟩ h.sto.wf (strike hB hlt)
    have hnf : ¬ St.flagged { st with locs := st.locs.set r ((st.locs.getD r []).set of (((st.locs.getD r []).getD of cellD).1, false)) } (.lc r of) := by
     rintro ⟨cs, v, hcs, hv⟩
     simp only [List.getElem?_set, if_true, if_pos hrlt, Option.some.injEq] at hcs
     subst hcs
     rw [List.getElem?_set] at hv
     simp at hv
    obtain ⟨G', x1, x2, x3, x4⟩ := hI'.token (q := .reg (o.dst.getD 0)) (e2.2 hfl) hnf (by simp) (by simp)
    refine upon_value (c := x) (w' := w) (by simp [execOp, ho, Instr.loadAt, Instr.sureAddr, eval_lptr h hy, e1]) ⟨_, G', lam, rfl, x1, x2.put o.dst _ _ fun d hd => ⟨e2.1.mono x1, fun _ => ?_⟩⟩
    rw [hd] at x3; exact x3
   ·simp at hk
  ·simp at hk
 ·obtain ⟨v, hv, hk⟩ := bind2 hk
  refine ⟨_, hk, fun G lam a w h => ?_⟩
  obtain ⟨x, e1, e2⟩ := gather_rel (P := P) hT (locs_ok h r) hv
  exact upon_value (c := x) (w' := w) (by simp [execOp, ho, Instr.loadAt, Instr.sureAddr, eval_lptr h hy, e1]) ⟨_, G, lam, rfl, Ext.refl _ _, h.put o.dst _ x fun d _ => ⟨e2, fun hh => by simp at hh⟩⟩
theorem sto_blk (h : Inv C.glob G lam a w st) {b : Nat} {cs : List Cell} (hb : st.sto[b]? = some cs) : BlkOk G w (G.μ b) (.blk b) (fun j => .gc b j) cs ∧ b < st.sto.length :=
 ⟨h.sto.blk b cs hb, (List.getElem?_eq_some_iff.1 hb).1⟩
theorem memGet_run (hC : CtxOk P C) (h : Inv C.glob G lam a w st) {t : TypeId} {i : TI} (hi : C.T t = some i) {p : V} {c : Value} (hp : Rel G w p c) {v : V} (hv : memGet st.sto p i.agg i.size = some v) :
  ∃ x, (Instr.loadAt t c).run P w = .ok x w ∧ Rel G w v x := by
 have hT := hC.T t i hi
 cases p with
 | ptr tt b o =>
  cases hp
  simp only [memGet] at hv
  obtain ⟨cs, hcs, hv⟩ := bind2 hv
  obtain ⟨x, e1, e2⟩ := gather_rel (P := P) hT (.inl (sto_blk h hcs).1) hv
  exact ⟨x, by simp [Instr.loadAt, Instr.sureAddr, e1], e2⟩
 | eptr k e o => exact rel_eptr_load hT hp hv
 | _ => simp [memGet] at hv
theorem eff_getS (hC : CtxOk P C) {o : Oper} {p : V} {n : Nat} {ag : Bool} (ha : act C H o st.regs = some (.getS p n ag)) {K : Out → Option Res} {res : Res}
  (hk : apply H call o.dst (st.clear (clearOf H o)) K (.getS p n ag) = some res) : ∃ out, K out = some res ∧ Sound1 P C o st out := by
 obtain ⟨t, y, i, ow, ho, hi, hy, rfl, rfl⟩ := act_inv ha
 rw [noclear (by simp [clearOf, ho])] at hk
 simp only [apply] at hk
 obtain ⟨v, hv, hk⟩ := bind2 hk
 refine ⟨_, hk, fun G lam a w h => ?_⟩
 obtain ⟨x, e1, e2⟩ := memGet_run hC h hi (eval_rel h hy).1 hv
 exact upon_value (c := x) (w' := w) (by simp [execOp, ho, e1]) ⟨_, G, lam, rfl, Ext.refl _ _, h.put o.dst _ x fun d _ => ⟨e2, fun hh => by simp at hh⟩⟩
theorem eff_takeS (hC : CtxOk P C) {o : Oper} {p : V} (ha : act C H o st.regs = some (.takeS p)) {K : Out → Option Res} {res : Res}
  (hk : apply H call o.dst (st.clear (clearOf H o)) K (.takeS p) = some res) : ∃ out, K out = some res ∧ Sound1 P C o st out := by
 obtain ⟨t, y, i, ow, ho, hi, hy, hn, hag⟩ := act_inv ha
 have hT := hC.T t i hi
 rw [noclear (by simp [clearOf, ho])] at hk
 simp only [apply] at hk
 obtain ⟨v, hv, hk⟩ := bind2 hk
 cases p with
 | ptr tt b of =>
  simp only [memTake] at hv
  obtain ⟨cs, hcs, hv⟩ := bind2 hv
  split at hv
  ·rename_i hlt
   split at hv
   ·rename_i hfl
    obtain rfl := Option.some.inj hv
    refine ⟨_, hk, fun G lam a w h => ?_⟩
    obtain ⟨hB, hblt⟩ := sto_blk h hcs
    obtain ⟨x, e1, e2⟩ := cell_read (P := P) hT hB hlt hn hag
    have hI' := h.setSto hblt (Ext.refl _ _) ⟨fun i p hp _ => ⟨rfl, rfl, hp⟩⟩ h.sto.wf (strike hB hlt) (h.sto.typed b hblt)
    have hnf : ¬ St.flagged { st with sto := st.sto.set b (cs.set of ((cs.getD of cellD).1, false)) } (.gc b of) := by
     rintro ⟨cs', v', hcs', hv'⟩
     simp only [List.getElem?_set, if_true, if_pos hblt, Option.some.injEq] at hcs'
     subst hcs'
     rw [List.getElem?_set] at hv'
     simp at hv'
    obtain ⟨G', x1, x2, x3, x4⟩ := hI'.token (q := .reg (o.dst.getD 0)) (e2.2 hfl) hnf (by simp) (by simp)
    have hev : a.eval y = .pointer (some ⟨G.μ b, of, none⟩) := by
     have := (eval_rel h hy).1
     generalize a.eval y = c at this
     cases this; rfl
    refine upon_value (c := x) (w' := w) (by simp [execOp, ho, Instr.loadAt, Instr.sureAddr, hev, e1]) ⟨_, G', lam, rfl, x1, x2.put o.dst _ _ fun d hd => ⟨e2.1.mono x1, fun _ => ?_⟩⟩
    rw [hd] at x3; exact x3
   ·simp at hv
  ·simp at hv
 | _ => simp [memTake] at hv
theorem store_size {t : TypeId} {i : TI} {v : V} {c : Value} (h : Rel G w v c) (hf : v.fits i.agg i.size = true) : c.cells.size = i.size := (cellsN_rel h hf).2.1
theorem eff_setL (hC : CtxOk P C) {o : Oper} {r of : Nat} {cs : List Cell} (ha : act C H o st.regs = some (.setL r of cs)) {K : Out → Option Res} {res : Res}
  (hk : apply H call o.dst (st.clear (clearOf H o)) K (.setL r of cs) = some res) : ∃ out, K out = some res ∧ Sound1 P C o st out := by
 obtain ⟨t, y, z, i, c, ho, hi, hc, hf, hy, rfl⟩ := act_inv ha
 have hT := hC.T t i hi
 have hcl : clearOf H o = tmpOf z := by simp [clearOf, ho]
 simp only [apply] at hk
 have hlc : (st.clear (clearOf H o)).locs = st.locs := rfl
 rw [hlc] at hk
 split at hk
 ·rename_i hle
  refine ⟨_, hk, fun G lam a w h => ?_⟩
  have hev := eval_lptr h hy
  obtain ⟨G1, x1, x2, x3, x4, x5⟩ := take_token h hc hcl (.lc r of)
  obtain ⟨k1, k2, k3⟩ := cellsO_rel x3 hf (fun j => .lc r (of + j)) (fun h1 => x4 h1)
  have hsz := store_size (t := t) x3 hf
  by_cases h0 : i.size = 0
  · -- nothing is written
   have hnil : cellsO c.1 c.2 i.agg i.size = [] := by apply List.eq_nil_of_length_eq_zero; rw [k1]; exact h0
   have hc0 : (a.eval z).cells.toList = [] := by apply List.eq_nil_of_length_eq_zero; rw [k2]; exact h0
   refine upon_skip' (w' := w) ?_ ⟨_, G1, lam, rfl, x1, ?_⟩
   ·simp [execOp, ho, Instr.storeAt, hev, Instr.sureAddr, storeVar, run_sizeOf_of hT, hsz, hc0, storeCells]
   ·rw [hnil]
    have : st.locs.set r (setCells (st.locs.getD r []) of []) = st.locs := by
     simp only [setCells]
     apply List.ext_getElem?
     intro j
     rw [List.getElem?_set]
     split
     ·rename_i hj
      subst hj
      split
      ·rename_i hlt
       rw [List.getD_eq_getElem?_getD, List.getElem?_eq_getElem hlt]; rfl
      ·rename_i hlt; rw [List.getElem?_eq_none (by omega)]
     ·rfl
    rw [this]
    exact x2.put o.dst _ _ fun _ _ => trivial
  ·have hne : st.locs.getD r [] ≠ [] := by
    intro hh
    rw [hh, k1] at hle
    simp only [List.length_nil] at hle
    omega
   have hB := (locs_ok x2 r).resolve_right hne
   rw [hlc] at hB
   obtain ⟨w1, w2, w3, w4, w5⟩ := write_block (P := P) x2.sto.wf hB (by simp) of (a.eval z).cells.toList (cellsO c.1 c.2 i.agg i.size) (by rw [k1, k2]) hle k3
   have hI := x2.setLoc w2 (w3 _ (by simp)) w4 w5
   refine upon_skip' (w' := putCells w (lam r) of (a.eval z).cells.toList) ?_ ⟨_, G1, lam, rfl, x1.trans w2, hI.put o.dst _ _ fun _ _ => trivial⟩
   simp [execOp, ho, Instr.storeAt, hev, Instr.sureAddr, storeVar, run_sizeOf_of hT, hsz, w1]
 ·simp at hk
theorem eff_setS (hC : CtxOk P C) {o : Oper} {p : V} {cs : List Cell} (ha : act C H o st.regs = some (.setS p cs)) {K : Out → Option Res} {res : Res}
  (hk : apply H call o.dst (st.clear (clearOf H o)) K (.setS p cs) = some res) : ∃ out, K out = some res ∧ Sound1 P C o st out := by
 obtain ⟨t, y, z, i, c, ow, ho, hi, hc, hf, hy, rfl⟩ := act_inv ha
 have hT := hC.T t i hi
 have hcl : clearOf H o = tmpOf z := by simp [clearOf, ho]
 simp only [apply] at hk
 obtain ⟨σ, hσ, hk⟩ := bind2 hk
 refine ⟨_, hk, fun G lam a w h => ?_⟩
 have hlc : (st.clear (clearOf H o)).sto = st.sto := rfl
 rw [hlc] at hσ
 cases p with
 | ptr tt b of =>
  simp only [memSet] at hσ
  obtain ⟨cs, hcs, hσ⟩ := bind2 hσ
  split at hσ
  ·rename_i hle
   obtain rfl := Option.some.inj hσ
   have hev : a.eval y = .pointer (some ⟨G.μ b, of, none⟩) := by
    have := (eval_rel h hy).1
    generalize a.eval y = c at this
    cases this; rfl
   obtain ⟨G1, x1, x2, x3, x4, x5⟩ := take_token h hc hcl (.gc b of)
   obtain ⟨k1, k2, k3⟩ := cellsO_rel x3 hf (fun j => .gc b (of + j)) (fun h1 => x4 h1)
   have hsz := store_size (t := t) x3 hf
   have hblt : b < st.sto.length := (List.getElem?_eq_some_iff.1 hcs).1
   have hμ : G1.μ b = G.μ b := x1.μ b (by rw [h.sto.N]; exact hblt)
   obtain ⟨hB, _⟩ := sto_blk x2 (b := b) (cs := cs) hcs
   obtain ⟨w1, w2, w3, w4, w5⟩ := write_block (P := P) x2.sto.wf hB (by simp) of (a.eval z).cells.toList (cellsO c.1 c.2 i.agg i.size) (by rw [k1, k2]) hle k3
   have htt : ∃ cv fr, (putCells w (G1.μ b) of (a.eval z).cells.toList).heap[G1.μ b]? = some (.cells cv (G1.ty b) fr) := by
    obtain ⟨cv, fr, q1⟩ := x2.sto.typed b hblt
    rw [putCells_heap, if_pos rfl, q1]
    exact ⟨_, _, rfl⟩
   have hI := x2.setSto (b := b) hblt w2 (w3 _ (by simp)) w4 w5 htt
   refine upon_skip' (w' := putCells w (G1.μ b) of (a.eval z).cells.toList) ?_ ⟨_, G1, lam, rfl, x1.trans w2, hI.put o.dst _ _ fun _ _ => trivial⟩
   rw [hμ] at w1 ⊢
   simp [execOp, ho, Instr.storeAt, hev, Instr.sureAddr, storeVar, run_sizeOf_of hT, hsz, w1]
  ·simp at hσ
 | _ => simp [memSet] at hσ
end
end Go.Ab
end
section
namespace Go.Ab
section
variable {P : Program} {C : Ctx} {H : Hints} {call : CallF} {G : Gh} {lam : Nat → Nat} {a : Act} {w : World} {st : St}
theorem crel_alloc {p : Place} {c : Cell} {x : Value} (wf : WF G w) (h : CRel G w p c x) {G' : Gh} {o : Obj} (e : Ext G w G' (w.alloc o)) (hl : ∀ i, i < w.heap.size → G'.lim i = G.lim i ∧ G'.owner i = G.owner i) : CRel G' (w.alloc o) p c x :=
 h.move e fun _ i hi => by
  have := owner_lt wf hi
  obtain ⟨h1, h2⟩ := hl i this
  exact ⟨heap_alloc_lt this, h1, by rw [h2]; exact hi⟩
theorem Inv.newLoc (h : Inv C.glob G lam a w st) {d : Nat} (hno : ∀ (r : Nat) x, st.regs[r]? = some x → isLptr d x = false) (cs : List Cell) (xs : Array Value) (el : TypeId) (hl : xs.size = cs.length)
  (hx : ∀ (j : Nat) c x, cs[j]? = some c → xs[j]? = some x → CRel G w (.lc d j) c x ∧ x.oneCell' = true) :
  Ext G w (G.new w 0 (some (.box d))) (w.alloc (.cells xs el)) ∧ Inv C.glob (G.new w 0 (some (.box d))) (upd lam d w.heap.size) a (w.alloc (.cells xs el)) { st with locs := st.locs.set d cs } := by
 have hE := Ext.alloc h.sto.wf (.cells xs el) 0 (some (.box d))
 have hI := h.alloc (.cells xs el) 0 (some (.box d))
 refine ⟨hE, hI.defers, hI.len, by simpa using hI.lenl, fun r x hr => ?_, fun r cs' hc hne => ?_, hI.sto⟩
 ·have := hI.regs r x hr
  have hn := hno r x hr
  cases x with
  | lptr r' o' =>
   simp [isLptr] at hn
   simp only [RRel] at this ⊢
   rw [upd_other _ _ hn]
   exact this
  | dead => trivial
  | val v ow => exact this
  | tup cs => exact this
 ·simp only [List.getElem?_set] at hc
  split at hc
  ·rename_i hd
   subst hd
   split at hc
   ·obtain rfl := Option.some.inj hc
    rw [upd_same]
    refine ⟨xs, el, heap_alloc_new _ _, hl, by show upd G.owner _ _ _ = _; simp, by show upd G.lim _ _ _ = _; simp, fun j c x hc hx' => ?_⟩
    obtain ⟨e1, e2⟩ := hx j c x hc hx'
    exact ⟨crel_alloc h.sto.wf e1 hE fun i hi => ⟨upd_other _ _ (by omega), upd_other _ _ (by omega)⟩, e2⟩
   ·simp at hc
  ·rename_i hd
   rw [upd_other _ _ (fun hh => hd hh.symm)]
   exact hI.locs r cs' hc hne
theorem Inv.newSto (h : Inv C.glob G lam a w st) (cs : List Cell) (xs : Array Value) (el : TypeId) (hl : xs.size = cs.length)
  (hx : ∀ (j : Nat) c x, cs[j]? = some c → xs[j]? = some x → CRel G w (.gc st.sto.length j) c x ∧ x.oneCell' = true) :
  ∃ G', Ext G w G' (w.alloc (.cells xs el)) ∧ Inv C.glob G' lam a (w.alloc (.cells xs el)) { st with sto := st.sto ++ [cs] } ∧ G'.N = st.sto.length + 1 ∧ G'.μ st.sto.length = w.heap.size ∧ G'.ty st.sto.length = el := by
 let G1 := G.new w 0 (some (.blk st.sto.length))
 let G' : Gh := { G1 with N := st.sto.length + 1, μ := upd G.μ st.sto.length w.heap.size, ty := upd G.ty st.sto.length el }
 have hN := h.sto.N
 have hE0 := Ext.alloc h.sto.wf (.cells xs el) 0 (some (.blk st.sto.length))
 have hE : Ext G w G' (w.alloc (.cells xs el)) :=
  ⟨by show G.N ≤ st.sto.length + 1; omega, fun b hb => upd_other _ _ (by omega), fun b hb => upd_other _ _ (by omega), hE0.lim, hE0.peek, rfl, rfl, rfl, hE0.size, hE0.old⟩
 have hK : ∀ fl : Place → Prop, Keeps G w G' (w.alloc (.cells xs el)) fl := fun fl => ⟨fun i q hq _ => by
  have := owner_lt h.sto.wf hq
  exact ⟨heap_alloc_lt this, upd_other _ _ (by omega), by show upd G.owner _ _ i = _; rw [upd_other _ _ (by omega)]; exact hq⟩⟩
 have hWF : WF G' (w.alloc (.cells xs el)) := fun i hi => h.sto.wf.alloc (.cells xs el) 0 (some (.blk st.sto.length)) i hi
 refine ⟨G', hE, ⟨h.defers, h.len, h.lenl, fun r x hr => (h.regs r x hr).move hE (hK fun _ => True) (fun _ _ => trivial) (fun _ _ _ _ _ => trivial),
  fun r cs' hc hne => (h.locs r cs' hc hne).move hE (hK fun _ => True) trivial (fun _ _ _ => trivial), hWF, fun g cs hg => (h.sto.glob g cs hg).mono hE, by simp [G'], fun b hb => ?_, fun b cs' hb => ?_, h.sto.gsz.mono hE⟩, rfl, by simp [G'], by simp [G']⟩
 ·show ∃ cv fr, (w.alloc (.cells xs el)).heap[upd G.μ st.sto.length w.heap.size b]? = some (.cells cv (upd G.ty st.sto.length el b) fr)
  by_cases hlt : b < st.sto.length
  ·rw [upd_other _ _ (by omega), upd_other _ _ (by omega)]
   obtain ⟨cv, fr, q1⟩ := h.sto.typed b hlt
   obtain ⟨_, _, _, _, q3, _⟩ := h.sto.blk b st.sto[b] (List.getElem?_eq_getElem hlt)
   exact ⟨cv, fr, by rw [heap_alloc_lt (owner_lt h.sto.wf q3)]; exact q1⟩
  ·have hb0 : b = st.sto.length := by simp at hb; omega
   subst hb0
   rw [upd_same, upd_same]
   exact ⟨xs, _, heap_alloc_new _ _⟩
 by_cases hlt : b < st.sto.length
 ·rw [List.getElem?_append_left hlt] at hb
  show BlkOk G' _ (upd G.μ st.sto.length w.heap.size b) _ _ _
  rw [upd_other _ _ (by omega)]
  exact (h.sto.blk b cs' hb).move hE (hK fun _ => True) trivial (fun _ _ _ => trivial)
 ·rw [List.getElem?_append_right (by omega)] at hb
  have hb0 : b = st.sto.length := by
   have := (List.getElem?_eq_some_iff.1 hb).1
   simp at this; omega
  subst hb0
  simp at hb
  subst hb
  show BlkOk G' _ (upd G.μ st.sto.length w.heap.size st.sto.length) _ _ _
  rw [upd_same]
  refine ⟨xs, el, heap_alloc_new _ _, hl, by show upd G.owner _ _ _ = _; simp, by show upd G.lim _ _ _ = _; simp, fun j c x hc hx' => ?_⟩
  obtain ⟨e1, e2⟩ := hx j c x hc hx'
  exact ⟨crel_alloc h.sto.wf e1 hE fun i hi => ⟨upd_other _ _ (by omega), upd_other _ _ (by omega)⟩, e2⟩
theorem fresh_cells (hC : CtxOk P C) {o : Oper} {cs : List Cell} (h : Inv C.glob G lam a w st) (hc : (∃ t i, o.op = .alloc t ∧ C.T t = some i ∧ i.isTup = false ∧ cs = i.zero.map fun v => (v, v.isSl)) ∨ ∃ t x i c, o.op = .box t x ∧ C.T t = some i ∧ ck C st.regs t x = some c ∧ c.1.fits i.agg i.size = true ∧ cs = cellsO c.1 c.2 i.agg i.size) (q : Nat → Place) :
  ∃ xs el G1, (execOp a.eval o).run P w = .ok (.value (.pointer (some ⟨w.heap.size, 0, none⟩))) (w.alloc (.cells xs el)) ∧ xs.size = cs.length ∧ Ext G w G1 w ∧ Inv C.glob G1 lam a w (st.clear (clearOf H o)) ∧ G1.N = G.N ∧
   (∀ (j : Nat) c x, cs[j]? = some c → xs[j]? = some x → CRel G1 w (q j) c x ∧ x.oneCell' = true) ∧ (o.op = .alloc el ∨ ∃ x, o.op = .box el x) := by
 rcases hc with ⟨t, i, ho, hi, htup, rfl⟩ | ⟨t, x, i, c, ho, hi, hck, hf, rfl⟩
 ·have hT := hC.T t i hi
  rcases hT.zero with ⟨n, hn⟩ | ⟨info, z, e1, e2, e3, e4, e5⟩
  ·simp [TI.isTup, hn] at htup
  ·refine ⟨z.cells, t, G, ?_, by simp only [Array.length_toList] at e3; simp [e3], Ext.refl _ _, h.clear _, rfl, fun j c x hc hx => ?_, .inl ho⟩
   ·have hz : (zeroValue t).run P w = .ok z w := by simp [zeroValue, run_typeInfo_of e1, e2]
    simp [execOp, ho, Instr.alloc, hz, newVar, newRow]
   ·simp only [List.getElem?_map, Option.map_eq_some_iff] at hc
    obtain ⟨v, hv, rfl⟩ := hc
    obtain ⟨w1, w2, w3⟩ := zmatch_rel (e5 j v x hv (by simpa using hx)) G w
    exact ⟨⟨w1, fun _ => w2 _⟩, w3⟩
 ·have hcl : clearOf H o = tmpOf x := by simp [clearOf, ho]
  obtain ⟨G1, x1, x2, x3, x4, x5⟩ := take_token h hck hcl (q 0)
  obtain ⟨k1, k2, k3⟩ := cellsO_rel x3 hf q (fun h1 => x4 h1)
  refine ⟨(a.eval x).cells, t, G1, by simp [execOp, ho, Instr.box, newVar, newRow], by rw [k1]; simpa using k2, x1, x2, x5, fun j c x hc hx => k3 j c x hc (by simpa using hx), .inr ⟨x, ho⟩⟩
theorem eff_newL (hC : CtxOk P C) {o : Oper} {cs : List Cell} (ha : act C H o st.regs = some (.newL cs)) {K : Out → Option Res} {res : Res}
  (hk : apply H call o.dst (st.clear (clearOf H o)) K (.newL cs) = some res) : ∃ out, K out = some res ∧ Sound1 P C o st out := by
 have hinv := act_inv ha
 simp only [apply] at hk
 split at hk
 ·rename_i d hd
  split at hk
  ·rename_i hcond
   obtain ⟨hlt, hne, hall⟩ := hcond
   refine ⟨_, hk, fun G lam a w h => ?_⟩
   obtain ⟨xs, el, G1, r1, r2, r3, r4, r5, r6, _⟩ := fresh_cells (P := P) (H := H) hC h hinv (fun j => .lc d j)
   obtain ⟨y1, y2⟩ := r4.newLoc (d := d) (fun r x hx => by
    rw [List.all_eq_true] at hall
    have := hall x (List.mem_iff_getElem?.2 ⟨r, hx⟩)
    simpa using this) cs xs el r2 r6
   refine upon_value r1 ⟨_, _, upd lam d w.heap.size, rfl, r3.trans y1, ?_⟩
   rw [hd]
   exact y2.put (some d) (.lptr d 0) _ fun d' hd' => by simp [RRel]
  ·simp at hk
 ·simp at hk
theorem eff_newS (hC : CtxOk P C) {o : Oper} {t : TypeId} {cs : List Cell} (ha : act C H o st.regs = some (.newS t cs)) {K : Out → Option Res} {res : Res}
  (hk : apply H call o.dst (st.clear (clearOf H o)) K (.newS t cs) = some res) : ∃ out, K out = some res ∧ Sound1 P C o st out := by
 have hinv := act_inv ha
 simp only [apply] at hk
 split at hk
 ·rename_i d hd
  refine ⟨_, hk, fun G lam a w h => ?_⟩
  obtain ⟨xs, el, G1, r1, r2, r3, r4, r5, r6, r7⟩ := fresh_cells (P := P) (H := H) hC h hinv.1 (fun j => .gc st.sto.length j)
  have hel : el = t := by
   rcases hinv.2 with e1 | ⟨_, e1⟩ <;> rcases r7 with e2 | ⟨_, e2⟩ <;> (rw [e1] at e2; cases e2) <;> rfl
  obtain ⟨G', y1, y2, y3, y4, y5⟩ := r4.newSto cs xs el r2 r6
  refine upon_value r1 ⟨_, G', lam, rfl, r3.trans y1, ?_⟩
  rw [hd]
  refine y2.put (some d) (.val (.ptr t st.sto.length 0) false) _ fun d' hd' => ⟨?_, fun ho => by simp at ho⟩
  have hs : (st.clear (clearOf H o)).sto.length = st.sto.length := rfl
  rw [hs] at y3 y4 y5
  rw [← y4]
  exact .ptr _ _ _ (by omega) (y5.trans hel)
 ·simp at hk
theorem eff_tupTake {o : Oper} {r i : Nat} (ha : act C H o st.regs = some (.tupTake r i)) {K : Out → Option Res} {res : Res}
  (hk : apply H call o.dst (st.clear (clearOf H o)) K (.tupTake r i) = some res) : ∃ out, K out = some res ∧ Sound1 P C o st out := by
 have ho := act_inv ha
 simp only at ho
 rw [noclear (by simp [clearOf, ho])] at hk
 simp only [apply] at hk
 split at hk
 ·rename_i cs hcs
  split at hk
  ·rename_i c hc
   refine ⟨_, hk, fun G lam a w h => ?_⟩
   have hr := eval_reg h r
   rw [hcs] at hr
   obtain ⟨xs, e1, e2, e3⟩ := hr
   have hi : i < xs.length := by rw [e2]; exact (List.getElem?_eq_some_iff.1 hc).1
   have hx : xs[i]? = some xs[i] := List.getElem?_eq_getElem hi
   have hcr := e3 i c _ hc hx
   have hrun : (execOp a.eval o).run P w = .ok (.value xs[i]) w := by
    simp [execOp, ho, e1, Instr.extract, hx]
   -- the token leaves the tuple
   have hI' : Inv C.glob G lam a w (st.setReg r (.tup (cs.set i (c.1, false)))) := by
    have := h.put none (.dead) undef (by simp)
    refine ⟨h.defers, by simp [St.setReg, h.len], by simp [St.setReg, h.lenl], fun r' x hx' => ?_, h.locs, h.sto⟩
    simp only [St.setReg, List.getElem?_set] at hx'
    split at hx'
    ·rename_i hr'
     subst hr'
     split at hx'
     ·obtain rfl := Option.some.inj hx'
      refine ⟨xs, e1, by simp [e2], fun j y v hy hv => ?_⟩
      rw [List.getElem?_set] at hy
      split at hy
      ·rename_i hj
       subst hj
       split at hy
       ·obtain rfl := Option.some.inj hy
        exact ⟨(e3 i c v hc hv).1, fun ho => by simp at ho⟩
       ·simp at hy
      ·exact e3 j y v hy hv
     ·simp at hx'
    ·exact h.regs r' x hx'
   obtain ⟨v, ow⟩ := c
   cases ow with
   | false => exact upon_value hrun ⟨_, G, lam, rfl, Ext.refl _ _, hI'.put o.dst _ _ fun d _ => ⟨hcr.1, fun ho => by simp at ho⟩⟩
   | true =>
    have hnf : ¬ St.flagged (st.setReg r (.tup (cs.set i (v, false)))) (.tup r i) := by
     rintro ⟨cs', v', hcs', hv'⟩
     simp only [St.setReg, List.getElem?_set, if_true] at hcs'
     split at hcs'
     ·simp at hcs'
      subst hcs'
      rw [List.getElem?_set] at hv'
      simp at hv'
     ·simp at hcs'
    obtain ⟨G', x1, x2, x3, x4⟩ := hI'.token (q := .reg (o.dst.getD 0)) (hcr.2 rfl) hnf (by simp) (by simp)
    refine upon_value hrun ⟨_, G', lam, rfl, x1, x2.put o.dst _ _ fun d hd => ⟨hcr.1.mono x1, fun _ => ?_⟩⟩
    rw [hd] at x3; exact x3
  ·simp at hk
 ·simp at hk
theorem eff_pan {o : Oper} {v : V} (ha : act C H o st.regs = some (.pan v)) {K : Out → Option Res} {res : Res}
  (hk : apply H call o.dst (st.clear (clearOf H o)) K (.pan v) = some res) : ∃ out, K out = some res ∧ Sound1 P C o st out := by
 obtain ⟨x, ho, hv, t, u, rfl⟩ := act_inv ha
 simp only [apply] at hk
 refine ⟨_, hk, fun G lam a w h => ?_⟩
 have hr := vk_rel h hv
 have hst : (st.clear (clearOf H o)).sto = st.sto := rfl
 generalize hc : a.eval x = c at hr
 cases hr with
 | iface _ _ c hu =>
  unfold Oper.wp
  have : (execOp a.eval o).run P w = .halt (.panic (.iface t c)) w := by
   simp [execOp, ho, hc, Instr.panic]
  rw [this]
  exact ⟨_, _, .iface t c, G, rfl, rfl, .iface _ _ _ hu, Ext.refl _ _, h.sto, h.defers⟩
theorem rel_owner {G : Gh} {w : World} {v : V} {c : Value} (h : Rel G w v c) (o : Nat → Option Place) : Rel { G with owner := o } w v c := by
 induction h with
 | any c h => exact .any c h
 | bool b => exact .bool b
 | int k n => exact .int k n
 | str s => exact .str s
 | nilp => exact .nilp
 | ptr t b o hb ht => exact .ptr (G := { G with owner := _ }) t b o hb ht
 | eptr k e o b off cs h1 h2 h3 h4 _ ih => exact .eptr k e o b off cs h1 h2 h3 h4 ih
 | nils => exact .nils
 | snil k e => exact .snil k e
 | slice k et es b off c cs h1 h2 h3 h4 h5 h6 _ ih => exact .slice k et es b off c cs h1 h2 h3 h4 h5 h6 ih
 | func fn first cap f c h1 h2 _ _ ih1 ih2 => exact .func fn first cap f c h1 h2 ih1 ih2
 | nilFunc => exact .nilFunc
 | iface t v c _ ih => exact .iface t v c ih
 | nilIface => exact .nilIface
 | agg cs xs h1 h2 _ ih => exact .agg cs xs h1 h2 ih
 | lit c h => exact .lit c h
 | full k et es c _ h2 ih => exact .full k et es c ih h2
 | map es b ents clock h1 h2 h3 => exact .map es b ents clock h1 h2 h3
theorem own_all {v : V} {c : Value} (h : ∀ p, Own G w p v c) (G' : Gh) (w' : World) (q : Place) : Own G' w' q v c := by
 unfold Own at *
 split
 ·rename_i k et es ad n cp
  obtain ⟨_, _, h0, _⟩ := h (.box 0)
  obtain ⟨_, _, h1, _⟩ := h (.box 1)
  rw [h0] at h1; simp at h1
 ·exact h (.box 0)
 ·trivial
def argIdx : List Operand → Nat → Option Nat
  | [], _ => none
  | x :: xs, t => match x with
    | .tmp r => if r = t then some 0 else (argIdx xs t).map (· + 1)
    | _ => (argIdx xs t).map (· + 1)
theorem argIdx_lt : ∀ {l : List Operand} {t k : Nat}, argIdx l t = some k → k < l.length
  | [], _, _, h => by simp [argIdx] at h
  | x :: xs, t, k, h => by
    simp only [argIdx] at h
    have key : (argIdx xs t).map (· + 1) = some k → k < (x :: xs).length := by
      intro h
      obtain ⟨j, hj, rfl⟩ := Option.map_eq_some_iff.1 h
      have := argIdx_lt hj
      simp; omega
    cases x with
    | tmp r =>
      simp only at h
      split at h
      · simp at h; subst h; simp
      · exact key h
    | _ => exact key h
theorem argIdx_mem : ∀ {l : List Operand} {t k : Nat}, argIdx l t = some k → (l.flatMap tmpOf).contains t = true
  | [], _, _, h => by simp [argIdx] at h
  | x :: xs, t, k, h => by
    simp only [argIdx] at h
    have key : (argIdx xs t).map (· + 1) = some k → ((x :: xs).flatMap tmpOf).contains t = true := by
      intro h
      obtain ⟨j, hj, rfl⟩ := Option.map_eq_some_iff.1 h
      have := argIdx_mem hj
      simp only [List.contains_iff_mem] at this ⊢
      simp only [List.flatMap_cons, List.mem_append]
      exact .inr this
    cases x with
    | tmp r =>
      simp only at h
      split at h
      · rename_i hr
        simp [tmpOf, hr]
      · exact key h
    | _ => exact key h
theorem argIdx_of : ∀ {l : List Operand} {t k : Nat}, distinct (l.flatMap tmpOf) = true → l[k]? = some (.tmp t) → argIdx l t = some k
 | [], _, _, _, h => by simp at h
 | x :: xs, t, k, hd, h => by
  cases k with
  | zero =>
   simp at h
   subst h
   simp [argIdx]
  | succ k =>
   simp at h
   have hd' : distinct (xs.flatMap tmpOf) = true := by
    cases x with
    | tmp r => simp [tmpOf, distinct] at hd; exact hd.2
    | _ => simpa [tmpOf] using hd
   have ih := argIdx_of hd' h
   cases x with
   | tmp r =>
    have hne : r ≠ t := by
     rintro rfl
     have hm := argIdx_mem ih
     simp [tmpOf, distinct] at hd
     simp only [List.contains_iff_mem, List.mem_flatMap] at hm
     obtain ⟨y, hy, hty⟩ := hm
     exact hd.1 y hy hty
    simp [argIdx, hne, ih]
   | _ => simp [argIdx, ih]
def calleeOwner (o : Nat → Option Place) (args : List Operand) (n : Nat) : Nat → Option Place := fun i => match o i with
 | some (.blk b) => some (.blk b)
 | some (.gc b j) => some (.gc b j)
 | some (.reg t) => (argIdx args t).map fun k => .reg (n + k)
 | _ => none
def backOwner (d n : Nat) : Option Place → Option Place
 | some (.blk b) => some (.blk b)
 | some (.gc b j) => some (.gc b j)
 | some (.res j) => some (if n = 1 then .reg d else .tup d j)
 | _ => none
theorem eff_call' (hcall : CallOk P C call) {o : Oper} {f : FuncId} {args : List Cell} {n : Nat} (ha : ∃ c g gv first cap as, o.op = .call c ∧ c.callee = .value g ∧ vk C st.regs 0 g = some gv ∧ gv = .func (.func f) first cap ∧ c.args.size = c.argTypes.size ∧ distinct (c.args.toList.flatMap tmpOf) = true ∧
    argCells C st.regs (c.args.toList.zip c.argTypes.toList) = some as ∧ args = first.map (fun v => (v, false)) ++ as ++ cap.map (fun v => (v, false)) ∧ n = nres C o.type) {K : Out → Option Res} {res : Res}
  (hk : apply H call o.dst (st.clear (clearOf H o)) K (.call f args n) = some res) : ∃ out, K out = some res ∧ Sound1 P C o st out := by
 obtain ⟨c, g, gv, first, cap, as, ho, hb, hg, rfl, hsz, hdist, has, hargs, hn⟩ := ha
 have hcl : clearOf H o = c.args.toList.flatMap tmpOf := by simp [clearOf, ho, hb]
 simp only [apply] at hk
 have hsto : (st.clear (clearOf H o)).sto = st.sto := rfl
 rw [hsto] at hk
 cases hr : call f args st.sto with
 | none => rw [hr] at hk; simp at hk
 | some r =>
  rw [hr] at hk
  simp only at hk
  obtain ⟨hent, hcon⟩ := hcall f args st.sto r hr
  -- what is common to both ends
  have common : ∀ G lam a w, Inv C.glob G lam a w st → ∀ (K' : Act → World → Prop) (Q' : Exit → Act → World → Prop),
    (∀ en w' G' Gc, Gc = { G with owner := calleeOwner G.owner c.args.toList first.length } → Ext G w Gc w → Ext Gc w G' w' → SInv C.glob G' w' r.2 → EndRel G' w' r.1 en →
     match en with
     | .returned v => K' (a.put o.dst v) w'
     | .panicked chain => Q' (.panic chain) a w'
     | .outgrown => LetsOut Q') → o.wp P a w K' Q' := by
   intro G lam a w h K' Q' hfin
   have hgr := vk_rel h hg
   generalize hge : a.eval g = gval at hgr
   cases hgr with
   | func _ _ _ fv cv f1 f2 f3 f4 =>
    obtain ⟨k1, k2⟩ := argCells_rel h _ _ has
    let Gc : Gh := { G with owner := calleeOwner G.owner c.args.toList first.length }
    have hGcn : ∀ i, G.owner i = none → Gc.owner i = none := fun i hi => by simp [Gc, calleeOwner, hi]
    have hEc : Ext G w Gc w := ⟨Nat.le_refl _, fun _ _ => rfl, fun _ _ => rfl, fun _ => Nat.le_refl _, fun _ _ _ => rfl, rfl, rfl, rfl, Nat.le_refl _, fun i _ hi => ⟨rfl, rfl, hGcn i hi⟩⟩
    have hlz : (c.args.toList.zip c.argTypes.toList).length = c.args.size := by simp [hsz]
    have hlen : as.length = c.args.size := by rw [k1, hlz]
    have hS : SInv C.glob Gc w st.sto := by
     refine ⟨fun i hi => ⟨(h.sto.wf i hi).1, hGcn i (h.sto.wf i hi).2⟩, fun g cs hg => (h.sto.glob g cs hg).mono hEc, h.sto.N, h.sto.typed, fun b cs hbc => ?_, h.sto.gsz.mono hEc⟩
     obtain ⟨cvv, el, g1, g2, g3, g4, g5⟩ := h.sto.blk b cs hbc
     refine ⟨cvv, el, g1, g2, by show calleeOwner G.owner _ _ (G.μ b) = _; simp [calleeOwner, g3], g4, fun j cc x hc hx => ?_⟩
     obtain ⟨e1, e2⟩ := g5 j cc x hc hx
     exact ⟨e1.move hEc fun _ i hi => ⟨rfl, rfl, by show calleeOwner _ _ _ _ = _; simp [calleeOwner, hi]⟩, e2⟩
    have hclean : Clean Gc args.length := by
     intro i p hp
     have hp' : calleeOwner G.owner c.args.toList first.length i = some p := hp
     unfold calleeOwner at hp'
     split at hp'
     ·simp at hp'; exact .inl ⟨_, hp'.symm⟩
     ·simp at hp'; exact .inr (.inl ⟨_, _, hp'.symm⟩)
     ·obtain ⟨k, hk', rfl⟩ := Option.map_eq_some_iff.1 hp'
      refine .inr (.inr ⟨_, ?_, rfl⟩)
      have := argIdx_lt hk'
      rw [hargs]; simp [hlen]
      simp at this; omega
     ·simp at hp'
    have hvals : (fv ++ c.args.toList.map a.eval ++ cv).length = args.length := by rw [hargs]; simp [f1, f2, hlen]
    have hcr : ∀ (i : Nat) cc x, args[i]? = some cc → (fv ++ c.args.toList.map a.eval ++ cv)[i]? = some x → CRel Gc w (.reg i) cc x := by
     intro i cc x hc hx
     rw [hargs] at hc
     by_cases c1 : i < first.length
     ·rw [List.append_assoc, List.getElem?_append_left (by simpa using c1)] at hc
      rw [List.append_assoc, List.getElem?_append_left (by omega)] at hx
      rw [List.getElem?_map, Option.map_eq_some_iff] at hc
      obtain ⟨v, hv, rfl⟩ := hc
      exact ⟨(f3 i v x hv hx).mono hEc, fun ho => by simp at ho⟩
     ·by_cases c2 : i < first.length + as.length
      ·rw [List.getElem?_append_left (by simp; omega), List.getElem?_append_right (by simp; omega)] at hc
       rw [List.getElem?_append_left (by simp; omega), List.getElem?_append_right (by omega), f1] at hx
       simp only [List.length_map] at hc
       rw [List.getElem?_map, Option.map_eq_some_iff] at hx
       obtain ⟨y, hy, rfl⟩ := hx
       have hyi : i - first.length < c.argTypes.toList.length := by
        have := (List.getElem?_eq_some_iff.1 hy).1
        simp at this ⊢; omega
       have hz : (c.args.toList.zip c.argTypes.toList)[i - first.length]? = some (y, c.argTypes.toList[i - first.length]) := by
        rw [List.getElem?_zip_eq_some]
        exact ⟨hy, List.getElem?_eq_getElem hyi⟩
       obtain ⟨e1, e2⟩ := k2 _ cc _ hc hz
       refine ⟨e1.mono hEc, fun hoo => ?_⟩
       rcases e2 hoo with ⟨t, ht, e3⟩ | e3
       ·simp only at ht e3
        subst ht
        refine e3.move fun j hj => ⟨rfl, rfl, ?_⟩
        show calleeOwner _ _ _ _ = _
        simp [calleeOwner, hj, argIdx_of hdist hy]
        omega
       ·exact own_all e3 _ _ _
      ·rw [List.getElem?_append_right (by simp; omega)] at hc
       rw [List.getElem?_append_right (by simp; omega)] at hx
       simp only [List.length_append, List.length_map] at hc hx
       rw [List.getElem?_map, Option.map_eq_some_iff] at hc
       obtain ⟨v, hv, rfl⟩ := hc
       refine ⟨(f4 _ v x hv ?_).mono hEc, fun ho => by simp at ho⟩
       rw [← hx]
       congr 1
       simp [f1, hlen]
    have hC := hcon Gc w _ hS hclean hvals hcr
    unfold Oper.wp
    have hrun : (execOp a.eval o).run P w = .ok (.enter f (fv ++ c.args.toList.map a.eval ++ cv).toArray) w := by
     have harr : fv.toArray ++ c.args.map a.eval ++ cv.toArray = (fv ++ c.args.toList.map a.eval ++ cv).toArray := by
      apply Array.ext'; simp
     simp [execOp, ho, resolve, hb, hge, Deferred.ofValue, invoke, hent]
    rw [hrun]
    exact hC.mono fun en w' ⟨G', x1, x2, x3⟩ => by
     have := hfin en w' G' Gc rfl hEc x1 x2 x3
     cases en <;> exact this
  cases hr1 : r.1 with
  | pan v =>
   rw [hr1] at hk
   simp only at hk
   refine ⟨_, hk, fun G lam a w h => common G lam a w h _ _ fun en w' G' Gc hGc e1 e2 e3 e4 => ?_⟩
   rw [hr1] at e4
   obtain ⟨cc, rfl, hcc⟩ := e4
   exact ⟨v, _, cc, G', rfl, rfl, hcc, e1.trans e2, e3, h.defers⟩
  | ret vs =>
   rw [hr1] at hk
   simp only at hk
   split at hk
   ·rename_i hvn
    obtain ⟨x, hx, hk⟩ := bind2 hk
    refine ⟨_, hk, fun G lam a w h => common G lam a w h _ _ fun en w' G' Gc hGc e1 e2 e3 e4 => ?_⟩
    rw [hr1] at e4
    obtain ⟨cs, hcs, rfl, hrel⟩ := e4
    simp only
    -- the ghost behind the call
    let d := o.dst.getD 0
    let G2 : Gh := { G' with owner := fun i => if i < w.heap.size ∧ Gc.owner i = none then G.owner i else backOwner d n (G'.owner i) }
    have hGco : Gc.owner = calleeOwner G.owner c.args.toList first.length := by rw [hGc]
    have hGcl : Gc.lim = G.lim := by rw [hGc]
    have hGcm : Gc.μ = G.μ := by rw [hGc]
    have hGcN : Gc.N = G.N := by rw [hGc]
    have hGcn : ∀ i, G.owner i = none → Gc.owner i = none := fun i hi => by rw [hGco]; simp [calleeOwner, hi]
    have hE : Ext G w G2 w' := by
     have ht := e1.trans e2
     refine ⟨ht.N, ht.μ, ht.ty, ht.lim, ht.peek, ht.os, ht.tape, ht.output, ht.size, fun i hi ho' => ?_⟩
     obtain ⟨q1, q2, _⟩ := ht.old i hi ho'
     refine ⟨q1, q2, ?_⟩
     show (if i < w.heap.size ∧ Gc.owner i = none then G.owner i else _) = none
     rw [if_pos ⟨hi, hGcn i ho'⟩, ho']
    -- what is the frame's own stays
    have hloc : ∀ i p, G.owner i = some p → calleeOwner G.owner c.args.toList first.length i = none → w'.heap[i]? = w.heap[i]? ∧ G2.lim i = G.lim i ∧ G2.owner i = some p := by
     intro i p hp hco
     have hi := owner_lt h.sto.wf hp
     rw [← hGco] at hco
     obtain ⟨q1, q2, _⟩ := e2.old i hi hco
     refine ⟨q1, by show G'.lim i = _; rw [q2, hGcl], ?_⟩
     show (if i < w.heap.size ∧ Gc.owner i = none then G.owner i else _) = some p
     rw [if_pos ⟨hi, hco⟩, hp]
    let fl : Place → Prop := fun p => match p with
     | .reg t => (c.args.toList.flatMap tmpOf).contains t = false
     | .tup _ _ => True
     | .lc _ _ => True
     | .box _ => True
     | _ => False
    have hKeep : Keeps G w G2 w' fl := by
     refine ⟨fun i p hp hfl => hloc i p hp ?_⟩
     cases p with
     | reg t =>
      have hfl' : (c.args.toList.flatMap tmpOf).contains t = false := hfl
      have : argIdx c.args.toList t = none := by
       cases hai : argIdx c.args.toList t with
       | none => rfl
       | some k => rw [argIdx_mem hai] at hfl'; simp at hfl'
      simp [calleeOwner, hp, this]
     | tup => simp [calleeOwner, hp]
     | lc => simp [calleeOwner, hp]
     | box => simp [calleeOwner, hp]
     | gc => exact hfl.elim
     | blk => exact hfl.elim
     | res => exact hfl.elim
    -- what the callee's ghost says, read by the caller
    have hback : ∀ i p, G'.owner i = some p → G2.owner i = backOwner d n (some p) := by
     intro i p hp
     show (if i < w.heap.size ∧ Gc.owner i = none then G.owner i else _) = _
     rw [if_neg, hp]
     rintro ⟨q1, q2⟩
     obtain ⟨_, _, q3⟩ := e2.old i q1 q2
     rw [hp] at q3; simp at q3
    have hcrel : ∀ {p q : Place} {cc : Cell} {y : Value}, CRel G' w' p cc y → backOwner d n (some p) = some q → CRel G2 w' q cc y := by
     intro p q cc y hcc hpq
     exact ⟨rel_owner hcc.1 _, fun ho => (hcc.2 ho).move fun i hi => ⟨rfl, rfl, by rw [hback i p hi, hpq]⟩⟩
    have hS2 : SInv C.glob G2 w' r.2 := by
     refine ⟨fun i hi => ⟨(e3.wf i hi).1, ?_⟩, fun g cs hg => rel_owner (e3.glob g cs hg) _, e3.N, e3.typed, fun b cs hbc => ?_, fun g cs hg => (by
      obtain ⟨k1, k2, k3⟩ := e3.gsz g cs hg
      refine ⟨?_, k2, k3⟩
      show (if g < w.heap.size ∧ Gc.owner g = none then G.owner g else _) = none
      split
      ·exact (h.sto.gsz g cs hg).1
      ·rw [k1]; rfl)⟩
     ·show (if i < w.heap.size ∧ Gc.owner i = none then G.owner i else _) = none
      rw [if_neg (by have := e2.size; omega), (e3.wf i hi).2]
      rfl
     ·obtain ⟨cvv, el, g1, g2, g3, g4, g5⟩ := e3.blk b cs hbc
      exact ⟨cvv, el, g1, g2, by rw [hback _ _ g3]; rfl, g4, fun j cc x hc hx => ⟨hcrel (g5 j cc x hc hx).1 rfl, (g5 j cc x hc hx).2⟩⟩
    have hI := h.clear (clearOf H o)
    have hI2 : Inv C.glob G2 lam a w' { st.clear (clearOf H o) with sto := r.2 } := by
     refine ⟨h.defers, hI.len, hI.lenl, fun r' y hy => (hI.regs r' y hy).move hE hKeep (fun v hv => ?_) (fun _ _ _ _ _ => trivial), fun r' cs' hc hne => (hI.locs r' cs' hc hne).move hE hKeep trivial (fun _ _ _ => trivial), hS2⟩
     subst hv
     show (c.args.toList.flatMap tmpOf).contains r' = false
     cases hcon : (c.args.toList.flatMap tmpOf).contains r' with
     | false => rfl
     | true =>
      exfalso
      exact clear_not_flagged (st := st) (clearOf H o) r' (by rw [hcl]; exact hcon) ⟨v, hy⟩
    refine ⟨_, G2, lam, rfl, hE, hI2.put o.dst (resV H o.dst n vs) _ fun d' hd' => ?_⟩
    have hdd : d = d' := by show o.dst.getD 0 = d'; rw [hd']; rfl
    have hall := grd_some hx
    unfold toksOk at hall
    rw [List.all_eq_true] at hall
    generalize hx0 : resV H o.dst n vs = x
    have hx := hx0
    unfold resV at hx
    have hall' : ∀ i, i < n → tokF H o.dst i = true → (vs.getD i cellD).2 = true := by
     intro i hi hf
     have := hall i (List.mem_range.2 hi)
     simpa [hf] using this
    by_cases hn1 : n = 1
    ·rw [if_pos hn1] at hx
     subst hx
     match vs, cs, hvn, hcs with
     | [c0], [x0], _, _ =>
      have := hrel 0 c0 x0 rfl rfl
      have hc := hcrel (q := .reg d) this (by simp [backOwner, hn1])
      rw [hdd] at hc
      refine ⟨hc.1, fun ho => hc.2 ?_⟩
      exact hall' 0 (by omega) ho
     | [], _, hvn, _ => simp at hvn; omega
     | _ :: _ :: _, _, hvn, _ => simp at hvn; omega
     | [_], [], _, hcs => simp at hcs
     | [_], _ :: _ :: _, _, hcs => simp at hcs
    ·rw [if_neg hn1] at hx
     subst hx
     refine ⟨cs, ?_, by simp [hcs, hvn], fun i y v hy hv => ?_⟩
     ·rw [dif_neg (by simp; omega)]
     ·obtain ⟨hi, hy⟩ := List.getElem?_eq_some_iff.1 hy
      simp at hi hy
      subst hy
      have hiv : i < vs.length := by omega
      have hgd : vs.getD i cellD = vs[i] := getD_cell hiv
      have := hrel i vs[i] v (List.getElem?_eq_getElem hiv) hv
      have hc := hcrel (q := .tup d i) this (by simp [backOwner, hn1])
      rw [hdd] at hc
      rw [← hgd] at hc
      simp only [List.getD_eq_getElem?_getD] at hc hall'
      exact ⟨hc.1, fun ho => hc.2 (hall' i hi ho)⟩
   ·simp at hk
end
end Go.Ab
end
section
namespace Go.Ab
section
variable {C : Ctx} {H : Hints} {call : CallF}
def Compat (H : Hints) (o : Oper) : Eff → Prop
 | .val _ => True
 | .getL r _ _ _ steal => (locF H o).has r = true ∧ (steal = true → (locW H o).has r = true)
 | .setL r _ _ => (locF H o).has r = true ∧ (locW H o).has r = true
 | .newL _ => wild H o = true
 | .getS .. => stoF H o = true
 | .tupTake r _ => r ∈ regW H o
 | .pcall .. => True
 | _ => stoW H o = true
theorem locOf_has {a r of : Nat} {regs : List RV} (hc : addrCls H (.tmp a) = .loc) (hr : regs.getD a .dead = .lptr r of) (hk : (match assoc H.roots a with | some q => isRoot q (regs.getD a .dead) | none => true) = true) : (locOf H (.tmp a)).has r = true := by
 have hl : H.lp.contains a = true := by
  simp only [addrCls] at hc
  split at hc
  ·assumption
  ·split at hc <;> simp at hc
 simp only [locOf, hl, if_true]
 cases hq : assoc H.roots a with
 | none => rfl
 | some q =>
  rw [hq, hr] at hk
  simp [isRoot] at hk
  simp [LF.has, hk]
theorem act_compat {o : Oper} {e : Eff} {regs : List RV} (ha : act C H o regs = some e) (hk : rootOk H o regs = true) : Compat H o e := by
 have hi := act_inv ha
 cases e with
 | val x => trivial
 | getL r of n ag sl =>
  obtain ⟨t, y, i, ho, hT, hy, rfl, rfl, rfl⟩ := hi
  obtain ⟨a, rfl, hr⟩ := opndT_lptr hy
  simp only [act, ho] at ha
  obtain ⟨i', _, ha⟩ := bind2 ha
  simp only [rootOk, ho] at hk
  have hc : addrCls H (.tmp a) = .loc := by
   split at ha
   ·assumption
   ·obtain ⟨v, _, ha⟩ := bind2 ha; simp at ha
   ·split at ha
    ·split at ha <;> simp at ha
    ·simp at ha
   ·simp at ha
  have := locOf_has hc hr hk
  exact ⟨by simp only [locF, ho]; exact this, fun hs => by simp only [locW, ho, hs, if_true]; exact this⟩
 | setL r of cs =>
  obtain ⟨t, y, z, i, c, ho, hT, _, _, hy, rfl⟩ := hi
  obtain ⟨a, rfl, hr⟩ := opndT_lptr hy
  simp only [act, ho] at ha
  obtain ⟨i', _, ha⟩ := bind2 ha
  obtain ⟨c', _, ha⟩ := bind2 ha
  obtain ⟨u', _, ha⟩ := bind2 ha
  simp only [rootOk, ho] at hk
  have hc : addrCls H (.tmp a) = .loc := by
   split at ha
   ·assumption
   ·simp at ha
   ·simp at ha
  have := locOf_has hc hr hk
  exact ⟨by simp only [locF, ho]; exact this, by simp only [locW, ho]; exact this⟩
 | newL cs =>
  rcases hi with ⟨t, i, ho, _⟩ | ⟨t, x, i, c, ho, _⟩
  ·simp only [act, ho] at ha
   obtain ⟨i', _, ha⟩ := bind2 ha
   split at ha
   ·simp at ha
   ·split at ha
    ·simp at ha
    ·rename_i hne; simpa [Compat, wild, ho] using hne
  ·simp only [act, ho] at ha
   obtain ⟨i', _, ha⟩ := bind2 ha
   obtain ⟨c', _, ha⟩ := bind2 ha
   obtain ⟨u', _, ha⟩ := bind2 ha
   split at ha
   ·simp at ha
   ·rename_i hne; simpa [Compat, wild, ho] using hne
 | getS p n ag =>
  obtain ⟨t, y, i, ow, ho, _⟩ := hi
  simp only [act, ho] at ha
  obtain ⟨i', _, ha⟩ := bind2 ha
  split at ha
  ·simp at ha
  ·obtain ⟨v, _, ha⟩ := bind2 ha; simp at ha
  ·rename_i hc _
   simp [Compat, stoF, ho, hc]
  ·simp at ha
 | takeS p =>
  obtain ⟨t, y, i, ow, ho, _⟩ := hi
  simp only [act, ho] at ha
  obtain ⟨i', _, ha⟩ := bind2 ha
  split at ha
  ·simp at ha
  ·obtain ⟨v, _, ha⟩ := bind2 ha; simp at ha
  ·rename_i hc _
   split at ha
   ·rename_i hs
    simp only [Compat, stoW, ho, hc, hs]; rfl
   ·simp at ha
  ·simp at ha
 | setS p cs =>
  obtain ⟨t, y, z, i, c, ow, ho, _⟩ := hi
  simp only [act, ho] at ha
  obtain ⟨i', _, ha⟩ := bind2 ha
  obtain ⟨c', _, ha⟩ := bind2 ha
  obtain ⟨u', _, ha⟩ := bind2 ha
  split at ha
  ·simp at ha
  ·rename_i hc _
   simp only [Compat, stoW, ho, hc]; rfl
  ·simp at ha
 | newS t cs =>
  rcases hi with ⟨t, i, ho, _⟩ | ⟨t, x, i, c, ho, _⟩ <;> simp [Compat, stoW, ho]
 | tupTake r i =>
  simp only at hi
  simp [Compat, regW, hi, tmpOf]
 | call f args n =>
  obtain ⟨c, g, gv, first, cap, as, ho, hcal, _, _, _, _, _, _, _, hp⟩ := hi
  simp [Compat, stoW, ho, hcal, hp]
 | pcall f args n => trivial
 | pan v =>
  obtain ⟨x, ho, _⟩ := hi
  simp [Compat, stoW, ho]
def applyF (H : Hints) (call : CallF) (dst : Option Nat) (st : St) : Eff → Option Out
 | .val x => some (.next (st.put dst x))
 | .getL r o n agg steal => if steal then
    (if o < (st.locs.getD r []).length ∧ n = 1 ∧ agg = false then
     (if ((st.locs.getD r []).getD o cellD).2 then some (.next ({ st with locs := st.locs.set r ((st.locs.getD r []).set o (((st.locs.getD r []).getD o cellD).1, false)) }.put dst (.val ((st.locs.getD r []).getD o cellD).1 true))) else none) else none)
   else (gather (st.locs.getD r []) o n agg).bind fun v => some (.next (st.put dst (.val v false)))
 | .setL r o cs => if o + cs.length ≤ (st.locs.getD r []).length then some (.next ({ st with locs := st.locs.set r (setCells (st.locs.getD r []) o cs) }.put dst .dead)) else none
 | .newL cs => match dst with
  | some d => if d < st.locs.length ∧ cs.length ≠ 0 ∧ (st.regs.all fun x => !isLptr d x) = true then some (.next ({ st with locs := st.locs.set d cs }.setReg d (.lptr d 0))) else none
  | none => none
 | .getS p n agg => (memGet st.sto p agg n).bind fun v => some (.next (st.put dst (.val v false)))
 | .takeS p => (memTake st.sto p).bind fun v => some (.next ({ st with sto := v.2 }.put dst (.val v.1 true)))
 | .setS p cs => (memSet st.sto p cs).bind fun σ => some (.next ({ st with sto := σ }.put dst .dead))
 | .newS t cs => match dst with
  | some d => some (.next ({ st with sto := st.sto ++ [cs] }.setReg d (.val (.ptr t st.sto.length 0) false)))
  | none => none
 | .tupTake r i => match st.regs.getD r .dead with
  | .tup cs => match cs[i]? with
   | some c => some (.next ((st.setReg r (.tup (cs.set i (c.1, false)))).put dst (.val c.1 c.2)))
   | none => none
  | _ => none
 | .call f args n => match call f args st.sto with
  | none => none
  | some r => match r.1 with
   | .ret vs => if vs.length = n then (grd (toksOk H dst n vs)).bind fun _ => some (.next ({ st with sto := r.2 }.put dst (resV H dst n vs))) else none
   | .pan v => some (.pan v { st with sto := r.2 })
 | .pcall f args n => (pcallR (call f args [])).bind fun vs => if vs.length = n then (grd (toksOk H dst n vs)).bind fun _ => some (.next (st.put dst (resV H dst n vs))) else none
 | .pan v => some (.pan v st)
theorem apply_eq (dst : Option Nat) (st : St) (K : Out → Option Res) (e : Eff) : apply H call dst st K e = (applyF H call dst st e).bind K := by
 cases e <;> simp only [apply, applyF] <;> (try rfl)
 case getL => split <;> (try split) <;> (try split) <;> (first | rfl | (cases gather _ _ _ _ <;> rfl))
 case setL => split <;> rfl
 case newL =>
  cases dst with
  | none => rfl
  | some d => simp only; split <;> rfl
 case getS => cases memGet _ _ _ _ <;> rfl
 case takeS => cases memTake _ _ <;> rfl
 case setS => cases memSet _ _ _ <;> rfl
 case newS => cases dst <;> rfl
 case tupTake r i =>
  cases st.regs.getD r .dead <;> try rfl
  rename_i cs
  simp only
  cases cs[i]? <;> rfl
 case call f args n =>
  cases call f args st.sto with
  | none => rfl
  | some r =>
   simp only
   cases r.1 with
   | pan v => rfl
   | ret vs =>
    simp only
    split
    ·cases grd (toksOk H dst n vs) <;> rfl
    ·rfl
 case pcall f args n =>
  cases pcallR (call f args []) with
  | none => rfl
  | some vs =>
   simp only [Option.bind_some]
   split
   ·cases grd (toksOk H dst n vs) <;> rfl
   ·rfl
def aopF (C : Ctx) (H : Hints) (call : CallF) (o : Oper) (st : St) : Option Out := (act C H o st.regs).bind fun e => applyF H call o.dst (st.clear (clearOf H o)) e
theorem aop_eq (o : Oper) (st : St) (K : Out → Option Res) : aop C H call o st K = (aopF C H call o st).bind K := by
 simp only [aop, aopF, actK_eq]
 cases act C H o st.regs with
 | none => rfl
 | some e => exact apply_eq _ _ _ _
structure Ag (rs : List Nat) (l : LF) (f : Bool) (s t : St) : Prop where
 lenr : s.regs.length = t.regs.length
 lenl : s.locs.length = t.locs.length
 regs : ∀ r, r ∈ rs → s.regs[r]? = t.regs[r]?
 locs : ∀ r, l.has r = true → s.locs[r]? = t.locs[r]?
 sto : f = true → s.sto = t.sto
structure Off (rs : List Nat) (l : LF) (f : Bool) (s t : St) : Prop where
 lenr : t.regs.length = s.regs.length
 lenl : t.locs.length = s.locs.length
 regs : ∀ r, r ∉ rs → t.regs[r]? = s.regs[r]?
 locs : ∀ r, l.has r = false → t.locs[r]? = s.locs[r]?
 sto : f = false → t.sto = s.sto
theorem Off.refl (rs : List Nat) (l : LF) (f : Bool) (s : St) : Off rs l f s s := ⟨rfl, rfl, fun _ _ => rfl, fun _ _ => rfl, fun _ => rfl⟩
theorem Ag.put {rs : List Nat} {l : LF} {f : Bool} {s t : St} (h : Ag rs l f s t) (dst : Option Nat) (x : RV) : Ag rs l f (s.put dst x) (t.put dst x) := by
 cases dst with
 | none => exact h
 | some d =>
  refine ⟨by simp [St.put, St.setReg, h.lenr], h.lenl, fun r hr => ?_, h.locs, h.sto⟩
  simp only [St.put, St.setReg, List.getElem?_set, h.lenr, h.regs r hr]
theorem Off.put {rs : List Nat} {l : LF} {f : Bool} {s t : St} (h : Off rs l f s t) (dst : Option Nat) (x : RV) (hd : ∀ d, dst = some d → d ∈ rs) : Off rs l f s (t.put dst x) := by
 cases dst with
 | none => exact h
 | some d =>
  refine ⟨by simp [St.put, St.setReg, h.lenr], h.lenl, fun r hr => ?_, h.locs, h.sto⟩
  have : d ≠ r := fun e => hr (e ▸ hd d rfl)
  simp only [St.put, St.setReg, List.getElem?_set_ne this, h.regs r hr]
theorem clearRegs_other (cs : List Nat) (r : Nat) (hr : r ∉ cs) : ∀ l : List RV, (clearRegs l cs)[r]? = l[r]? := by
 induction cs with
 | nil => intro l; rfl
 | cons c cs ih =>
  intro l
  rw [clearRegs, ih (fun h => hr (List.mem_cons_of_mem _ h))]
  have : c ≠ r := fun e => hr (e ▸ List.mem_cons_self ..)
  simp [List.getElem?_modify, this]
theorem clearRegs_same (cs : List Nat) (r : Nat) : ∀ l m : List RV, l[r]? = m[r]? → (clearRegs l cs)[r]? = (clearRegs m cs)[r]? := by
 induction cs with
 | nil => intro l m h; exact h
 | cons c cs ih =>
  intro l m h
  rw [clearRegs, clearRegs]
  refine ih _ _ ?_
  simp only [List.getElem?_modify, h]
theorem Ag.clear {rs : List Nat} {l : LF} {f : Bool} {s t : St} (h : Ag rs l f s t) (cs : List Nat) : Ag rs l f (s.clear cs) (t.clear cs) :=
 ⟨by simp only [St.clear, clearRegs_length]; exact h.lenr, h.lenl, fun r hr => clearRegs_same cs r _ _ (h.regs r hr), h.locs, h.sto⟩
theorem Off.clear {rs : List Nat} {l : LF} {f : Bool} {s t : St} (h : Off rs l f s t) (cs : List Nat) (hc : ∀ r ∈ cs, r ∈ rs) : Off rs l f s (t.clear cs) :=
 ⟨by simp only [St.clear, clearRegs_length]; exact h.lenr, h.lenl, fun r hr => by simp only [St.clear]; rw [clearRegs_other cs r (fun h => hr (hc r h))]; exact h.regs r hr, h.locs, h.sto⟩
theorem Ag.setLoc {rs : List Nat} {l : LF} {f : Bool} {s t : St} (h : Ag rs l f s t) (r : Nat) (x : List Cell) : Ag rs l f { s with locs := s.locs.set r x } { t with locs := t.locs.set r x } :=
 ⟨h.lenr, by simp [h.lenl], h.regs, fun r' hr => by simp only [List.getElem?_set, h.lenl, h.locs r' hr], h.sto⟩
theorem Off.setLoc {rs : List Nat} {l : LF} {f : Bool} {s t : St} (h : Off rs l f s t) (r : Nat) (x : List Cell) (hr : l.has r = true) : Off rs l f s { t with locs := t.locs.set r x } :=
 ⟨h.lenr, by simp [h.lenl], h.regs, fun r' hr' => by
  have : r ≠ r' := fun e => by rw [e, hr'] at hr; simp at hr
  simp only [List.getElem?_set_ne this, h.locs r' hr'], h.sto⟩
theorem Ag.setSto {rs : List Nat} {l : LF} {f : Bool} {s t : St} (h : Ag rs l f s t) (σ : Sto) : Ag rs l f { s with sto := σ } { t with sto := σ } := ⟨h.lenr, h.lenl, h.regs, h.locs, fun _ => rfl⟩
theorem Off.setSto {rs : List Nat} {l : LF} {f : Bool} {s t : St} (h : Off rs l f s t) (σ : Sto) (hf : f = true) : Off rs l f s { t with sto := σ } := ⟨h.lenr, h.lenl, h.regs, h.locs, fun h => by rw [hf] at h; simp at h⟩
theorem Ag.loc {rs : List Nat} {l : LF} {f : Bool} {s t : St} (h : Ag rs l f s t) {r : Nat} (hr : l.has r = true) : s.locs.getD r [] = t.locs.getD r [] := by
 rw [List.getD_eq_getElem?_getD, List.getD_eq_getElem?_getD, h.locs r hr]
theorem Ag.reg {rs : List Nat} {l : LF} {f : Bool} {s t : St} (h : Ag rs l f s t) {r : Nat} (hr : r ∈ rs) : s.regs.getD r .dead = t.regs.getD r .dead := by
 rw [List.getD_eq_getElem?_getD, List.getD_eq_getElem?_getD, h.regs r hr]
theorem stoF_of_stoW {o : Oper} (h : stoW H o = true) : stoF H o = true := by simp [stoF, h]
def Framed (rs ws : List Nat) (l lw : LF) (f fw : Bool) (s t : St) (out : Out) (step : Option Out) : Prop :=
 match out with
 | .next s1 => ∃ t1, step = some (.next t1) ∧ Ag rs l f s1 t1 ∧ Off ws lw fw s s1 ∧ Off ws lw fw t t1
 | .pan v s1 => fw = true ∧ f = true ∧ ∃ t1, step = some (.pan v t1) ∧ t1.sto = s1.sto
theorem applyF_frame {o : Oper} {e : Eff} (hk : Compat H o e) (hw : wild H o = false) {rs : List Nat} {s t s0 t0 : St} {out : Out} (hA : Ag rs (locF H o) (stoF H o) s t) (hrs : ∀ r ∈ regW H o, r ∈ rs)
  (hs : Off (regW H o) (locW H o) (stoW H o) s0 s) (ht : Off (regW H o) (locW H o) (stoW H o) t0 t) (h : applyF H call o.dst s e = some out) :
  Framed rs (regW H o) (locF H o) (locW H o) (stoF H o) (stoW H o) s0 t0 out (applyF H call o.dst t e) := by
 have hd : ∀ d, o.dst = some d → d ∈ regW H o := fun d hd => by simp [regW, hd]
 cases e with
 | val x =>
  simp only [applyF, Option.some.injEq] at h
  subst h
  exact ⟨_, rfl, hA.put _ _, hs.put _ _ hd, ht.put _ _ hd⟩
 | getL r of n ag sl =>
  obtain ⟨k1, k2⟩ := hk
  simp only [applyF] at h ⊢
  rw [← hA.loc k1]
  split at h
  ·rename_i hsl
   rw [if_pos hsl]
   split at h
   ·rename_i hc
    rw [if_pos hc]
    split at h
    ·rename_i hc2
     rw [if_pos hc2]
     simp only [Option.some.injEq] at h
     subst h
     exact ⟨_, rfl, (hA.setLoc _ _).put _ _, (hs.setLoc _ _ (k2 hsl)).put _ _ hd, (ht.setLoc _ _ (k2 hsl)).put _ _ hd⟩
    ·simp at h
   ·simp at h
  ·rename_i hsl
   rw [if_neg hsl]
   obtain ⟨v, hv, h⟩ := bind2 h
   simp only [Option.some.injEq] at h
   subst h
   rw [hv]
   exact ⟨_, rfl, hA.put _ _, hs.put _ _ hd, ht.put _ _ hd⟩
 | setL r of cs =>
  obtain ⟨k1, k2⟩ := hk
  simp only [applyF] at h ⊢
  rw [← hA.loc k1]
  split at h
  ·rename_i hc
   rw [if_pos hc]
   simp only [Option.some.injEq] at h
   subst h
   exact ⟨_, rfl, (hA.setLoc _ _).put _ _, (hs.setLoc _ _ k2).put _ _ hd, (ht.setLoc _ _ k2).put _ _ hd⟩
  ·simp at h
 | newL cs => simp only [Compat] at hk; rw [hk] at hw; simp at hw
 | getS p n ag =>
  simp only [Compat] at hk
  simp only [applyF] at h ⊢
  rw [← hA.sto hk]
  obtain ⟨v, hv, h⟩ := bind2 h
  simp only [Option.some.injEq] at h
  subst h
  rw [hv]
  exact ⟨_, rfl, hA.put _ _, hs.put _ _ hd, ht.put _ _ hd⟩
 | takeS p =>
  simp only [Compat] at hk
  simp only [applyF] at h ⊢
  rw [← hA.sto (stoF_of_stoW hk)]
  obtain ⟨v, hv, h⟩ := bind2 h
  simp only [Option.some.injEq] at h
  subst h
  rw [hv]
  exact ⟨_, rfl, (hA.setSto _).put _ _, (hs.setSto _ hk).put _ _ hd, (ht.setSto _ hk).put _ _ hd⟩
 | setS p cs =>
  simp only [Compat] at hk
  simp only [applyF] at h ⊢
  rw [← hA.sto (stoF_of_stoW hk)]
  obtain ⟨v, hv, h⟩ := bind2 h
  simp only [Option.some.injEq] at h
  subst h
  rw [hv]
  exact ⟨_, rfl, (hA.setSto _).put _ _, (hs.setSto _ hk).put _ _ hd, (ht.setSto _ hk).put _ _ hd⟩
 | newS t cs =>
  simp only [Compat] at hk
  simp only [applyF] at h ⊢
  rw [← hA.sto (stoF_of_stoW hk)]
  cases hds : o.dst with
  | none => rw [hds] at h; simp at h
  | some d =>
   rw [hds] at h
   simp only [Option.some.injEq] at h
   subst h
   exact ⟨_, rfl, (hA.setSto _).put (some d) _, (hs.setSto _ hk).put (some d) _ (by rw [← hds]; exact hd), (ht.setSto _ hk).put (some d) _ (by rw [← hds]; exact hd)⟩
 | tupTake r i =>
  simp only [Compat] at hk
  simp only [applyF] at h ⊢
  rw [← hA.reg (hrs r hk)]
  have hr : ∀ d, some r = some d → d ∈ regW H o := by rintro d ⟨⟩; exact hk
  split at h
  ·split at h
   ·simp only [Option.some.injEq] at h
    subst h
    exact ⟨_, rfl, (hA.put (some r) _).put _ _, (hs.put (some r) _ hr).put _ _ hd, (ht.put (some r) _ hr).put _ _ hd⟩
   ·simp at h
  ·simp at h
 | call f args n =>
  simp only [Compat] at hk
  simp only [applyF] at h ⊢
  rw [← hA.sto (stoF_of_stoW hk)]
  split at h
  ·simp at h
  ·rename_i r hr
   split at h
   ·rename_i vs hvs
    split at h
    ·rename_i hn
     obtain ⟨x, hx, h⟩ := bind2 h
     simp only [Option.some.injEq] at h
     subst h
     refine ⟨_, ?_, (hA.setSto r.2).put _ _, (hs.setSto _ hk).put _ _ hd, (ht.setSto _ hk).put _ _ hd⟩
     simp only [if_pos hn, hx, Option.bind_some]
    ·simp at h
   ·rename_i v hv
    simp only [Option.some.injEq] at h
    subst h
    exact ⟨hk, stoF_of_stoW hk, _, rfl, rfl⟩
 | pcall f args n =>
  simp only [applyF] at h ⊢
  obtain ⟨vs, hvs, h⟩ := bind2 h
  split at h
  ·rename_i hn
   obtain ⟨x, hx, h⟩ := bind2 h
   simp only [Option.some.injEq] at h
   subst h
   refine ⟨_, ?_, hA.put _ _, hs.put _ _ hd, ht.put _ _ hd⟩
   simp only [hvs, Option.bind_some, if_pos hn, hx]
  ·simp at h
 | pan v =>
  simp only [Compat] at hk
  simp only [applyF, Option.some.injEq] at h ⊢
  subst h
  exact ⟨hk, stoF_of_stoW hk, _, rfl, (hA.sto (stoF_of_stoW hk)).symm⟩
end
end Go.Ab
end
section
namespace Go.Ab
section
variable {P : Program} {C : Ctx} {H : Hints} {call : CallF}
structure CallsOk (P : Program) (C : Ctx) (H : Hints) (call : CallF) : Prop where
 ok : CallOk P C call
 pure : PureOk H call
theorem aop_sound (hC : CtxOk P C) (hcall : CallsOk P C H call) {o : Oper} {st : St} {K : Out → Option Res} {r : Res} (h : aop C H call o st K = some r) : ∃ out, K out = some r ∧ Sound1 P C o st out := by
 rw [aop, actK_eq] at h
 obtain ⟨e, he, hk⟩ := bind2 h
 cases e with
 | val x => exact ⟨_, hk, sound_val o x fun G lam a w hI => act_val hC he G lam a w hI⟩
 | getL r of n ag sl => exact eff_getL hC he hk
 | setL r of cs => exact eff_setL hC he hk
 | newL cs => exact eff_newL hC he hk
 | getS p n ag => exact eff_getS hC he hk
 | takeS p => exact eff_takeS hC he hk
 | setS p cs => exact eff_setS hC he hk
 | newS t cs => exact eff_newS hC he hk
 | tupTake r i => exact eff_tupTake he hk
 | call f args n =>
  obtain ⟨c, g, gv, first, cap, as, h1, h2, h3, h4, h5, h6, h7, h8, h9, _⟩ := act_inv he
  exact eff_call' hcall.ok ⟨c, g, gv, first, cap, as, h1, h2, h3, h4, h5, h6, h7, h8, h9⟩ hk
 | pcall f args n =>
  obtain ⟨h1, h2⟩ := act_inv he
  refine eff_call' (H := H) (K := K) hcall.ok h1 ?_
  simp only [apply] at hk ⊢
  obtain ⟨vs, hvs, hk⟩ := bind2 hk
  rw [hcall.pure f args vs h2 (pcallR_some hvs)]
  exact hk
 | pan v => exact eff_pan he hk
theorem wp_mono2 {o : Oper} {a : Act} {w : World} {K K' : Act → World → Prop} {Q Q' : Exit → Act → World → Prop} (h : o.wp P a w K Q) (hk : ∀ a w, K a w → K' a w) (hq : ∀ e a w, Q e a w → Q' e a w) : o.wp P a w K' Q' := by
 unfold Oper.wp at *
 generalize (execOp a.eval o).run P w = r at *
 have hl : LetsOut Q → LetsOut Q' := fun ⟨a, w, h⟩ => ⟨a, w, hq _ _ _ h⟩
 cases r with
 | ok x w' =>
  cases x <;> first | exact hk _ _ h | exact h.elim | skip
  ·refine Calls.mono h fun e w'' he => ?_
   cases e with
   | returned v => exact hk _ _ he
   | panicked chain => exact hq _ _ _ he
   | outgrown => exact hl he
  ·exact Rows.mono h fun v w'' hv => hk _ _ hv
 | halt x w' => cases x <;> first | exact hq _ _ _ h | exact h.elim
def OQ (C : Ctx) (G : Gh) (w : World) (out : Out) (e : Exit) (a' : Act) (w' : World) : Prop := (e = .normal ∧ NP C G w out a' w') ∨ QP C G w out e a' w'
theorem OQ.trans {G G1 : Gh} {w w1 : World} {out : Out} {e : Exit} {a' : Act} {w' : World} (x : Ext G w G1 w1) (h : OQ C G1 w1 out e a' w') : OQ C G w out e a' w' := by
 rcases h with ⟨h1, st', G', lam', h2, h3, h4⟩ | ⟨v, st', c, G', h1, h2, h3, h4, h5, h6⟩
 ·exact .inl ⟨h1, st', G', lam', h2, x.trans h3, h4⟩
 ·exact .inr ⟨v, st', c, G', h1, h2, h3, x.trans h4, h5, h6⟩
theorem wpOps_mono2 {ops : Array Oper} {Q Q' : Exit → Act → World → Prop} (hq : ∀ e a w, Q e a w → Q' e a w) : ∀ (l : List Nat) (a : Act) (w : World), wpOps P ops Q l a w → wpOps P ops Q' l a w
 | [], _, _, h => hq _ _ _ h
 | i :: rest, a, w, h => by
  simp only [wpOps] at *
  split
  ·rename_i hi
   rw [hi] at h
   exact wpOps_mono2 hq rest a w h
  ·rename_i o hi
   rw [hi] at h
   simp only at h
   split
   ·rename_i hw
    rw [if_pos hw] at h
    rcases h with h | ⟨h1, h2⟩
    ·exact .inl (wp_mono2 h (fun a w => wpOps_mono2 hq rest a w) hq)
    ·exact .inr ⟨h1, let ⟨a, w, h⟩ := h2; ⟨a, w, hq _ _ _ h⟩⟩
   ·rename_i hw
    rw [if_neg hw] at h
    exact wpOps_mono2 hq rest _ w h
def SoundN (P : Program) (C : Ctx) (ops : Array Oper) (l : List Nat) (st : St) (out : Out) : Prop :=
 ∀ G lam a w, Inv C.glob G lam a w st → wpOps P ops (OQ C G w out) l a w
theorem Inv.open {gl : Nat → Option (List V)} {G : Gh} {lam : Nat → Nat} {a : Act} {w : World} {st : St} (h : Inv gl G lam a w st) {d : Nat} {v : V} {ow : Bool} (hd : st.regs.getD d .dead = .val v ow) :
  Rel G w v (a.tmps.getD d undef) ∧ Inv gl G lam a w (st.setReg d (.val v false)) ∧ d < a.tmps.size := by
 have hlt : d < st.regs.length := by
  rcases Nat.lt_or_ge d st.regs.length with hh | hh
  ·exact hh
  ·rw [List.getD_eq_getElem?_getD, List.getElem?_eq_none hh] at hd; simp at hd
 have hg : st.regs[d]? = some (.val v ow) := by rw [List.getD_eq_getElem?_getD, List.getElem?_eq_getElem hlt] at hd; rw [List.getElem?_eq_getElem hlt]; simpa using hd
 have hr := h.regs d _ hg
 refine ⟨hr.1, ⟨h.defers, by simp [St.setReg, h.len], by simp [St.setReg, h.lenl], fun r x hx => ?_, h.locs, h.sto⟩, by rw [h.len]; exact hlt⟩
 simp only [St.setReg, List.getElem?_set] at hx
 split at hx
 ·rename_i hr'
  subst hr'
  obtain rfl := Option.some.inj hx
  exact ⟨hr.1, fun ho => by simp at ho⟩
 ·exact h.regs r x hx
theorem asBool_rel {v : V} {b : Bool} (h : v.asBool = some b) {G : Gh} {w : World} {c : Value} (hr : Rel G w v c) : c = .bool b := by
 rw [asBool_some h] at hr; exact rel_bool hr
theorem yielded_of {ops : Array Oper} {tmps : Array Value} {j d : Nat} {b : Bool} (hd : (ops[j]?).bind (·.dst) = some d) (hs : d < tmps.size) (hv : tmps.getD d undef = .bool b) : yielded ops tmps j = some b := by
 unfold yielded
 rw [hd]
 have : tmps[d]? = some (.bool b) := by
  rw [Array.getElem?_eq_getElem hs]
  rw [Array.getD_eq_getD_getElem?, Array.getElem?_eq_getElem hs] at hv
  simpa using hv
 simp [this]
theorem setReg_same {st : St} {d : Nat} {v : V} {ow b : Bool} (hd : st.regs.getD d .dead = .val v ow) (hb : v.asBool = some b) : st.setReg d (.val (.bool b) ow) = st := by
 rw [asBool_some hb] at hd
 have : st.regs.set d (.val (.bool b) ow) = st.regs := by
  apply List.ext_getElem?
  intro i
  rw [List.getElem?_set]
  split
  ·rename_i h
   subst h
   split
   ·rename_i hl
    rw [List.getD_eq_getElem?_getD, List.getElem?_eq_getElem hl] at hd
    rw [List.getElem?_eq_getElem hl]
    simp at hd
    rw [hd]
   ·rename_i hl
    rw [List.getElem?_eq_none (by omega)]
  ·rfl
 simp only [St.setReg, this]
def stepF (C : Ctx) (H : Hints) (call : CallF) (dr : Option (List (List Nat))) (ops : Array Oper) (i : Nat) (st : St) : Option Out := match ops[i]? with
 | none => none
 | some o => (grd (chkOk H dr o st.regs)).bind fun _ => match o.guard with
  | none => aopF C H call o st
  | some (j, want) => match (ops[j]?).bind (·.dst) with
   | none => none
   | some d => match st.regs.getD d .dead with
    | .val v _ => v.asBool.bind fun b => if b = want then aopF C H call o st else some (.next (st.put o.dst (.tup [])))
    | .tup [] => some (.next (st.put o.dst (.tup [])))
    | _ => none
def kstep (dr : Option (List (List Nat))) (i : Nat) (rest : List Nat) (go : St → Option Res) (K : Out → Option Res) : Out → Option Res := fun out => match out with
 | .next st => go st
 | .pan v st => (grd (panOk dr i rest)).bind fun _ => K (.pan v st)
theorem aops_cons (dr : Option (List (List Nat))) (ops : Array Oper) (i : Nat) (rest : List Nat) (st : St) (K : Out → Option Res) :
  aops C H call dr ops (i :: rest) st K = (stepF C H call dr ops i st).bind (kstep dr i rest (fun st => aops C H call dr ops rest st K) K) := by
 simp only [aops, stepF]
 cases hi : ops[i]? with
 | none => rfl
 | some o =>
  simp only
  cases grd (chkOk H dr o st.regs) with
  | none => rfl
  | some u =>
   simp only [Option.bind_some]
   cases hg : o.guard with
   | none => exact aop_eq _ _ _
   | some jw =>
    obtain ⟨j, want⟩ := jw
    simp only
    cases hd : (ops[j]?).bind (·.dst) with
    | none => rfl
    | some d =>
     simp only
     cases hv : st.regs.getD d .dead with
     | val v ow =>
      simp only
      cases hb : v.asBool with
      | none => rfl
      | some b =>
       simp only [Option.bind_some]
       have hs := setReg_same hv hb
       cases b with
       | true =>
        simp only [cond_true, hs]
        cases want with
        | true => simp only [if_true]; exact aop_eq _ _ _
        | false => rfl
       | false =>
        simp only [cond_false, hs]
        cases want with
        | true => rfl
        | false => simp only [Bool.false_eq_true, if_false, if_true]; exact aop_eq _ _ _
     | tup cs => cases cs <;> rfl
     | dead => rfl
     | lptr r o => rfl
theorem aopF_sound (hC : CtxOk P C) (hcall : CallsOk P C H call) {o : Oper} {st : St} {out : Out} (h : aopF C H call o st = some out) : Sound1 P C o st out := by
 classical
 let K : Out → Option Res := fun o' => if o' = out then some (.ret [], []) else none
 have h1 : aop C H call o st K = some (.ret [], []) := by rw [aop_eq, h]; simp [K]
 obtain ⟨o', h2, h3⟩ := aop_sound hC hcall h1
 have : o' = out := by
  simp only [K] at h2
  split at h2
  ·assumption
  ·simp at h2
 rw [← this]; exact h3
theorem stepF_sound (hC : CtxOk P C) (hcall : CallsOk P C H call) {dr : Option (List (List Nat))} {ops : Array Oper} {i : Nat} {st : St} {out : Out} (h : stepF C H call dr ops i st = some out) {G : Gh} {lam : Nat → Nat} {a : Act} {w : World} (hI : Inv C.glob G lam a w st) :
  ∃ o, ops[i]? = some o ∧ ((Region.wanted o (yielded ops a.tmps) = true ∧ o.wp P a w (NP C G w out) (QP C G w out)) ∨ (Region.wanted o (yielded ops a.tmps) = false ∧ NP C G w out (a.put o.dst undef) w)) := by
 simp only [stepF] at h
 split at h
 ·simp at h
 ·rename_i o hi
  refine ⟨o, hi, ?_⟩
  obtain ⟨_, _, h⟩ := bind2 h
  split at h
  ·rename_i hg
   exact .inl ⟨by simp [Region.wanted, hg], aopF_sound hC hcall h G lam a w hI⟩
  ·rename_i j want hg
   split at h
   ·simp at h
   ·rename_i d hd
    split at h
    ·rename_i v ow hv
     obtain ⟨b, hb, h2⟩ := bind2 h
     clear h
     have hopen : yielded ops a.tmps j = some b := by
      obtain ⟨h1, _, h2⟩ := hI.open hv
      exact yielded_of hd h2 (asBool_rel hb h1)
     split at h2
     ·rename_i hbw
      subst hbw
      exact .inl ⟨by simp [Region.wanted, hg, hopen], aopF_sound hC hcall h2 G lam a w hI⟩
     ·rename_i hbw
      obtain rfl := Option.some.inj h2
      refine .inr ⟨by simp [Region.wanted, hg, hopen, hbw], _, G, lam, rfl, Ext.refl _ _, hI.put o.dst (.tup []) undef fun _ _ => ⟨[], rfl, rfl, by simp⟩⟩
    ·rename_i hv
     have hy : yielded ops a.tmps j ≠ some want := by
      have hr := eval_reg hI d
      rw [hv] at hr
      obtain ⟨xs, hx, _⟩ := hr
      have hx : a.tmps.getD d undef = .tuple xs.toArray := hx
      unfold yielded
      rw [hd]
      simp only [Array.getD_eq_getD_getElem?] at hx
      cases hg2 : a.tmps[d]? with
      | none => simp [hg2]
      | some v => rw [hg2] at hx; simp only [Option.getD_some] at hx; subst hx; simp [hg2]
     obtain rfl := Option.some.inj h
     refine .inr ⟨by simp [Region.wanted, hg, hy], _, G, lam, rfl, Ext.refl _ _, hI.put o.dst (.tup []) undef fun _ _ => ⟨[], rfl, rfl, by simp⟩⟩
    ·simp at h
inductive Runs (C : Ctx) (H : Hints) (call : CallF) (dr : Option (List (List Nat))) (ops : Array Oper) : List Nat → St → Out → Prop
 | nil (st : St) : Runs C H call dr ops [] st (.next st)
 | next {i : Nat} {rest : List Nat} {st st1 : St} {out : Out} : stepF C H call dr ops i st = some (.next st1) → Runs C H call dr ops rest st1 out → Runs C H call dr ops (i :: rest) st out
 | pan {i : Nat} {rest : List Nat} {st st1 : St} {v : V} : stepF C H call dr ops i st = some (.pan v st1) → panOk dr i rest = true → Runs C H call dr ops (i :: rest) st (.pan v st1)
theorem aops_runs {dr : Option (List (List Nat))} {ops : Array Oper} : ∀ (l : List Nat) (st : St) (K : Out → Option Res) (r : Res), aops C H call dr ops l st K = some r → ∃ out, K out = some r ∧ Runs C H call dr ops l st out
 | [], st, K, r, h => ⟨.next st, h, .nil st⟩
 | i :: rest, st, K, r, h => by
  rw [aops_cons] at h
  obtain ⟨out1, h1, h2⟩ := bind2 h
  cases out1 with
  | next st1 =>
   obtain ⟨out, h3, h4⟩ := aops_runs rest st1 K r h2
   exact ⟨out, h3, .next h1 h4⟩
  | pan v st1 =>
   simp only [kstep] at h2
   obtain ⟨u, hu, h2⟩ := bind2 h2
   exact ⟨_, h2, .pan h1 (grd_some hu)⟩
theorem runs_sound (hC : CtxOk P C) (hcall : CallsOk P C H call) {dr : Option (List (List Nat))} {ops : Array Oper} {l : List Nat} {st : St} {out : Out} (h : Runs C H call dr ops l st out) : SoundN P C ops l st out := by
 induction h with
 | nil st => exact fun G lam a w hI => .inl ⟨rfl, st, G, lam, rfl, Ext.refl _ _, hI⟩
 | @next i rest st st1 out h1 h2 ih =>
  intro G lam a w hI
  obtain ⟨o, hi, hh⟩ := stepF_sound hC hcall h1 hI
  simp only [wpOps, hi]
  rcases hh with ⟨hw, hh⟩ | ⟨hw, st', G', lam', e1, e2, e3⟩
  ·rw [if_pos hw]
   refine .inl (wp_mono2 hh (fun a' w' hn => ?_) (fun e a' w' hq => ?_))
   ·obtain ⟨st', G', lam', e1, e2, e3⟩ := hn
    cases e1
    exact wpOps_mono2 (fun e a w => OQ.trans e2) rest a' w' (ih G' lam' a' w' e3)
   ·obtain ⟨v, st', c, G', e1, _⟩ := hq; cases e1
  ·rw [if_neg (by rw [hw]; simp)]
   cases e1
   exact wpOps_mono2 (fun e a w => OQ.trans e2) rest _ w (ih G' lam' _ w e3)
 | @pan i rest st st1 v h1 h2 =>
  intro G lam a w hI
  obtain ⟨o, hi, hh⟩ := stepF_sound hC hcall h1 hI
  simp only [wpOps, hi]
  rcases hh with ⟨hw, hh⟩ | ⟨hw, st', G', lam', e1, e2, e3⟩
  ·rw [if_pos hw]
   refine .inl (wp_mono2 hh (fun a' w' hn => ?_) (fun e a' w' hq => .inr hq))
   obtain ⟨st', G', lam', e1, e2, e3⟩ := hn
   cases e1
  ·cases e1
theorem aops_sound (hC : CtxOk P C) (hcall : CallsOk P C H call) {dr : Option (List (List Nat))} {ops : Array Oper} (l : List Nat) (st : St) (K : Out → Option Res) (r : Res) (h : aops C H call dr ops l st K = some r) : ∃ out, K out = some r ∧ SoundN P C ops l st out :=
 let ⟨out, h1, h2⟩ := aops_runs l st K r h
 ⟨out, h1, runs_sound hC hcall h2⟩
end
end Go.Ab
end
