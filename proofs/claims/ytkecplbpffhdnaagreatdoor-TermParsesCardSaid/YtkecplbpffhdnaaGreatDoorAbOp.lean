/- Every operation: the abstract one is met by the real one. -/
import Derived.Test.YtkecplbpffhdnaaGreatDoorAbEff
set_option linter.unusedSimpArgs false
set_option linter.unusedVariables false
set_option linter.deprecated false
namespace Go.Ab

/-- What is known of abstract calls: they are met by real ones. -/
def EndRel (G : Gh) (w : World) (e : End) (en : Ending) : Prop :=
  match e with
  | .ret vs => ∃ cs : List Value, cs.length = vs.length ∧ en = .returned (if h : cs.toArray.size = 1 then cs.toArray[0] else .tuple cs.toArray) ∧ ∀ (i : Nat) c x, vs[i]? = some c → cs[i]? = some x → CRel G w (.res i) c x
  | .pan v => ∃ c, en = .panicked [{ v := c, recovered := false }] ∧ Rel G w v c

/-- What may be held when a function begins: the store, and its own arguments' rows. -/
def Clean (G : Gh) (n : Nat) : Prop := ∀ i p, G.owner i = some p → (∃ b, p = .blk b) ∨ (∃ b o, p = .gc b o) ∨ ∃ r, r < n ∧ p = .reg r

def CallOk (P : Program) (C : Ctx) (call : CallF) : Prop :=
  ∀ f args σ r, call f args σ = some r → (∀ (vals : Array Value) (w : World), (callFunc f vals).run P w = .ok (.enter f vals) w) ∧
    ∀ (G : Gh) (w : World) (vals : List Value), SInv C.glob G w σ → Clean G args.length → vals.length = args.length → (∀ (i : Nat) c x, args[i]? = some c → vals[i]? = some x → CRel G w (.reg i) c x) →
      Calls P f vals.toArray w fun en w' => ∃ G', Ext G w G' w' ∧ SInv C.glob G' w' r.2 ∧ EndRel G' w' r.1 en

section
variable {P : Program} {C : Ctx} {H : Hints} {call : CallF} {G : Gh} {lam : Nat → Nat} {a : Act} {w : World} {st : St}

theorem upon_value {o : Oper} {K : Act → World → Prop} {Q : Exit → Act → World → Prop} {c : Value} {w' : World} (h : (execOp a.eval o).run P w = .ok (.value c) w') (hk : K (a.put o.dst c) w') : o.wp P a w K Q := by
  unfold Oper.wp
  rw [h]
  exact hk

theorem upon_skip' {o : Oper} {K : Act → World → Prop} {Q : Exit → Act → World → Prop} {w' : World} (h : (execOp a.eval o).run P w = .ok .skip w') (hk : K (a.put o.dst undef) w') : o.wp P a w K Q := by
  unfold Oper.wp
  rw [h]
  exact hk

/-- The sound step of one operation. -/
def Sound1 (P : Program) (C : Ctx) (o : Oper) (st : St) (out : Out) : Prop :=
  ∀ G lam a w, Inv C.glob G lam a w st → o.wp P a w (NP C G w out) (QP C G w out)

theorem sound_val (o : Oper) (x : RV) (h : ∀ G lam a w, Inv C.glob G lam a w st → VOk P C H G lam a w st o x) : Sound1 P C o st (.next ((st.clear (clearOf H o)).put o.dst x)) := by
  intro G lam a w hI
  obtain ⟨c, w', G', h1, h2, h3, h4⟩ := h G lam a w hI
  exact upon_value h1 ⟨_, G', lam, rfl, h2, h3.put o.dst x c h4⟩

/-- All that comes to a value. -/
theorem act_val (hC : CtxOk P C) {o : Oper} {x : RV} (ha : act C H o st.regs = some (.val x)) (G : Gh) (lam : Nat → Nat) (a : Act) (w : World) (h : Inv C.glob G lam a w st) : VOk P C H G lam a w st o x := by
  cases ho : o.op with
  | move y => exact val_move h ho ha
  | assign y => exact val_assign h ho ha
  | pick c y z => exact val_pick h ho ha
  | build t parts => exact val_build hC h ho ha
  | buildSlice t n parts => exact val_buildSlice hC h ho ha
  | load t y => exact val_load hC h ho ha
  | nilCheck y => exact val_nilCheck h ho ha
  | binOp op t y z u => exact val_binOp hC h ho ha
  | unOp op t y => exact val_unOp h ho ha
  | convert s d y => exact val_convert hC h ho ha
  | makeInterface t y => exact val_makeInterface hC h ho ha
  | makeFunc fn f c => exact val_makeFunc h ho ha
  | slice t y l hh m => exact val_slice hC h ho ha
  | fieldAddr t y f => exact val_fieldAddr hC h ho ha
  | field t y f => exact val_field hC h ho ha
  | indexAddr t y i => exact val_indexAddr hC h ho ha
  | index t y i => exact val_index hC h ho ha
  | call c =>
    cases hb : c.callee with
    | builtin b =>
      cases b
      case append => exact val_append hC h ho hb ha
      case len => exact val_len hC h ho hb ha
      case max => exact val_max h ho hb ha
      all_goals (simp [act, ho, hb] at ha)
    | invoke r m => simp [act, ho, hb] at ha
    | value g =>
      simp only [act, ho, hb] at ha
      obtain ⟨v, _, ha⟩ := bind2 ha
      obtain ⟨f, _, ha⟩ := bind2 ha
      split at ha
      · obtain ⟨args, _, ha⟩ := bind2 ha; simp at ha
      · simp at ha
  | alloc t =>
    simp only [act, ho] at ha
    obtain ⟨i, _, ha⟩ := bind2 ha
    split at ha
    · simp at ha
    · split at ha <;> simp at ha
  | box t y =>
    simp only [act, ho] at ha
    obtain ⟨i, _, ha⟩ := bind2 ha
    obtain ⟨c, _, ha⟩ := bind2 ha
    obtain ⟨u, _, ha⟩ := bind2 ha
    split at ha <;> simp at ha
  | store t y z =>
    simp only [act, ho] at ha
    obtain ⟨i, _, ha⟩ := bind2 ha
    obtain ⟨c, _, ha⟩ := bind2 ha
    obtain ⟨u, _, ha⟩ := bind2 ha
    split at ha <;> simp at ha
  | extract t i =>
    simp only [act, ho] at ha
    split at ha <;> simp at ha
  | panic y =>
    simp only [act, ho] at ha
    obtain ⟨i, _, ha⟩ := bind2 ha
    obtain ⟨c, _, ha⟩ := bind2 ha
    simp at ha
  | _ => simp [act, ho] at ha

/-- Which operation an effect comes of. -/
theorem act_inv {o : Oper} {e : Eff} {regs : List RV} (ha : act C H o regs = some e) : match e with
    | .val _ => True
    | .getL r of n ag sl => ∃ t y i, o.op = .load t y ∧ C.T t = some i ∧ opndT C regs 0 y = .lptr r of ∧ n = i.size ∧ ag = i.agg ∧ sl = o.dst.any H.steal.contains
    | .getS p n ag => ∃ t y i ow, o.op = .load t y ∧ C.T t = some i ∧ opndT C regs 0 y = .val p ow ∧ n = i.size ∧ ag = i.agg
    | .takeS p => ∃ t y i ow, o.op = .load t y ∧ C.T t = some i ∧ opndT C regs 0 y = .val p ow ∧ i.size = 1 ∧ i.agg = false
    | .setL r of cs => ∃ t y z i c, o.op = .store t y z ∧ C.T t = some i ∧ ck C regs t z = some c ∧ c.1.fits i.agg i.size = true ∧ opndT C regs 0 y = .lptr r of ∧ cs = cellsO c.1 c.2 i.agg i.size
    | .setS p cs => ∃ t y z i c ow, o.op = .store t y z ∧ C.T t = some i ∧ ck C regs t z = some c ∧ c.1.fits i.agg i.size = true ∧ opndT C regs 0 y = .val p ow ∧ cs = cellsO c.1 c.2 i.agg i.size
    | .newL cs => (∃ t i, o.op = .alloc t ∧ C.T t = some i ∧ i.isTup = false ∧ cs = i.zero.map fun v => (v, v.isSl)) ∨ ∃ t x i c, o.op = .box t x ∧ C.T t = some i ∧ ck C regs t x = some c ∧ c.1.fits i.agg i.size = true ∧ cs = cellsO c.1 c.2 i.agg i.size
    | .newS tt cs => ((∃ t i, o.op = .alloc t ∧ C.T t = some i ∧ i.isTup = false ∧ cs = i.zero.map fun v => (v, v.isSl)) ∨ ∃ t x i c, o.op = .box t x ∧ C.T t = some i ∧ ck C regs t x = some c ∧ c.1.fits i.agg i.size = true ∧ cs = cellsO c.1 c.2 i.agg i.size) ∧ (o.op = .alloc tt ∨ ∃ x, o.op = .box tt x)
    | .tupTake r i => o.op = .extract (.tmp r) i
    | .call f args n => ∃ c g gv first cap as, o.op = .call c ∧ c.callee = .value g ∧ vk C regs 0 g = some gv ∧ gv = .func (.func f) first cap ∧ c.args.size = c.argTypes.size ∧ distinct (c.args.toList.flatMap tmpOf) = true ∧
        argCells C regs (c.args.toList.zip c.argTypes.toList) = some as ∧ args = first.map (fun v => (v, false)) ++ as ++ cap.map (fun v => (v, false)) ∧ n = nres C o.type
    | .pan v => ∃ x, o.op = .panic x ∧ vk C regs 0 x = some v ∧ ∃ t u, v = .iface t u := by
  cases ho : o.op with
  | load t y =>
    simp only [act, ho] at ha
    obtain ⟨i, hi, ha⟩ := bind2 ha
    split at ha
    · obtain rfl := Option.some.inj ha
      exact ⟨t, y, i, rfl, hi, ‹_›, rfl, rfl, rfl⟩
    · obtain ⟨v, _, ha⟩ := bind2 ha; obtain rfl := Option.some.inj ha; trivial
    · split at ha
      · split at ha
        · simp at ha
        · rename_i hh
          obtain rfl := Option.some.inj ha
          simp at hh
          exact ⟨t, y, i, _, rfl, hi, ‹_›, hh.2, hh.1⟩
      · obtain rfl := Option.some.inj ha
        exact ⟨t, y, i, _, rfl, hi, ‹_›, rfl, rfl⟩
    · simp at ha
  | store t y z =>
    simp only [act, ho] at ha
    obtain ⟨i, hi, ha⟩ := bind2 ha
    obtain ⟨c, hc, ha⟩ := bind2 ha
    obtain ⟨u, hu, ha⟩ := bind2 ha
    split at ha
    · obtain rfl := Option.some.inj ha
      exact ⟨t, y, z, i, c, rfl, hi, hc, grd_some hu, ‹_›, rfl⟩
    · obtain rfl := Option.some.inj ha
      exact ⟨t, y, z, i, c, _, rfl, hi, hc, grd_some hu, ‹_›, rfl⟩
    · simp at ha
  | alloc t =>
    simp only [act, ho] at ha
    obtain ⟨i, hi, ha⟩ := bind2 ha
    split at ha
    · simp at ha
    · rename_i htup
      have htup : i.isTup = false := by simpa using htup
      split at ha <;> (obtain rfl := Option.some.inj ha; first | exact .inl ⟨t, i, rfl, hi, htup, rfl⟩ | exact ⟨.inl ⟨t, i, rfl, hi, htup, rfl⟩, .inl rfl⟩)
  | box t y =>
    simp only [act, ho] at ha
    obtain ⟨i, hi, ha⟩ := bind2 ha
    obtain ⟨c, hc, ha⟩ := bind2 ha
    obtain ⟨u, hu, ha⟩ := bind2 ha
    split at ha <;> (obtain rfl := Option.some.inj ha; first | exact .inr ⟨t, y, i, c, rfl, hi, hc, grd_some hu, rfl⟩ | exact ⟨.inr ⟨t, y, i, c, rfl, hi, hc, grd_some hu, rfl⟩, .inr ⟨y, rfl⟩⟩)
  | extract t i =>
    simp only [act, ho] at ha
    split at ha
    · obtain rfl := Option.some.inj ha; rfl
    · simp at ha
  | panic y =>
    simp only [act, ho] at ha
    obtain ⟨v, hv, ha⟩ := bind2 ha
    obtain ⟨u, hu, ha⟩ := bind2 ha
    obtain rfl := Option.some.inj ha
    cases v <;> simp [V.asIface] at hu
    subst hu
    exact ⟨y, rfl, hv, _, _, rfl⟩
  | call c =>
    cases hb : c.callee with
    | builtin b =>
      cases b
      case len =>
        simp only [act, ho, hb] at ha
        split at ha
        · obtain ⟨i, hi, ha⟩ := bind2 ha
          split at ha
          · obtain ⟨_, _, ha⟩ := bind2 ha
            obtain ⟨_, _, ha⟩ := bind2 ha
            obtain rfl := Option.some.inj ha; trivial
          · obtain ⟨_, _, ha⟩ := bind2 ha
            obtain ⟨_, _, ha⟩ := bind2 ha
            obtain ⟨_, _, ha⟩ := bind2 ha
            obtain rfl := Option.some.inj ha; trivial
          · obtain rfl := Option.some.inj ha; trivial
          · simp at ha
        · simp at ha
      case max =>
        simp only [act, ho, hb] at ha
        split at ha
        · obtain ⟨_, _, ha⟩ := bind2 ha
          obtain ⟨_, _, ha⟩ := bind2 ha
          obtain ⟨_, _, ha⟩ := bind2 ha
          obtain ⟨_, _, ha⟩ := bind2 ha
          obtain rfl := Option.some.inj ha; trivial
        · simp at ha
      case append =>
        simp only [act, ho, hb] at ha
        split at ha
        · obtain ⟨_, _, ha⟩ := bind2 ha
          obtain ⟨_, _, ha⟩ := bind2 ha
          split at ha
          · obtain ⟨_, _, ha⟩ := bind2 ha
            obtain ⟨_, _, ha⟩ := bind2 ha
            split at ha
            · split at ha
              · obtain ⟨_, _, ha⟩ := bind2 ha
                obtain ⟨_, _, ha⟩ := bind2 ha
                obtain ⟨_, _, ha⟩ := bind2 ha
                obtain ⟨_, _, ha⟩ := bind2 ha
                obtain rfl := Option.some.inj ha; trivial
              · simp at ha
            · simp at ha
          · obtain ⟨_, _, ha⟩ := bind2 ha
            split at ha
            · split at ha
              · obtain ⟨_, _, ha⟩ := bind2 ha
                obtain ⟨_, _, ha⟩ := bind2 ha
                obtain ⟨_, _, ha⟩ := bind2 ha
                obtain ⟨_, _, ha⟩ := bind2 ha
                obtain rfl := Option.some.inj ha; trivial
              · simp at ha
            · simp at ha
          · simp at ha
        · simp at ha
      all_goals (simp [act, ho, hb] at ha)
    | invoke r m => simp [act, ho, hb] at ha
    | value g =>
      simp only [act, ho, hb] at ha
      obtain ⟨gv, hg, ha⟩ := bind2 ha
      obtain ⟨f, hf, ha⟩ := bind2 ha
      split at ha
      · rename_i hc
        obtain ⟨as, has, ha⟩ := bind2 ha
        obtain rfl := Option.some.inj ha
        have : gv = .func (.func f.1) f.2.1 f.2.2 := by
          cases gv <;> simp [V.asFunc] at hf
          rename_i fn _ _
          cases fn <;> simp [V.asFunc] at hf
          subst hf; rfl
        exact ⟨c, g, gv, f.2.1, f.2.2, as, rfl, hb, hg, this, hc.1, hc.2, has, rfl, rfl⟩
      · simp at ha
  | move y => simp only [act, ho] at ha; split at ha <;> (obtain rfl := Option.some.inj ha; trivial)
  | assign y => simp only [act, ho] at ha; obtain rfl := Option.some.inj ha; trivial
  | pick c y z =>
    simp only [act, ho] at ha
    obtain ⟨_, _, ha⟩ := bind2 ha
    obtain ⟨_, _, ha⟩ := bind2 ha
    obtain rfl := Option.some.inj ha; trivial
  | build t parts =>
    simp only [act, ho] at ha
    obtain ⟨_, _, ha⟩ := bind2 ha
    split at ha
    · split at ha
      · obtain ⟨_, _, ha⟩ := bind2 ha; obtain rfl := Option.some.inj ha; trivial
      · simp at ha
    · obtain ⟨_, _, ha⟩ := bind2 ha
      obtain ⟨_, _, ha⟩ := bind2 ha
      obtain rfl := Option.some.inj ha; trivial
    · simp at ha
  | buildSlice t n parts =>
    simp only [act, ho] at ha
    obtain ⟨_, _, ha⟩ := bind2 ha
    split at ha
    · obtain ⟨_, _, ha⟩ := bind2 ha
      split at ha
      · obtain ⟨_, _, ha⟩ := bind2 ha; obtain rfl := Option.some.inj ha; trivial
      · simp at ha
    · simp at ha
  | nilCheck y =>
    simp only [act, ho] at ha
    split at ha
    · obtain rfl := Option.some.inj ha; trivial
    · obtain ⟨_, _, ha⟩ := bind2 ha; obtain rfl := Option.some.inj ha; trivial
    · simp at ha
  | binOp op t y z u => simp only [act, ho] at ha; obtain ⟨_, _, ha⟩ := bind2 ha; obtain rfl := Option.some.inj ha; trivial
  | unOp op t y =>
    simp only [act, ho] at ha
    obtain ⟨_, _, ha⟩ := bind2 ha
    split at ha
    · obtain ⟨_, _, ha⟩ := bind2 ha; obtain rfl := Option.some.inj ha; trivial
    · obtain ⟨_, _, ha⟩ := bind2 ha; obtain rfl := Option.some.inj ha; trivial
    · simp at ha
  | convert s d y =>
    simp only [act, ho] at ha
    obtain ⟨_, _, ha⟩ := bind2 ha
    obtain ⟨_, _, ha⟩ := bind2 ha
    split at ha
    · obtain ⟨_, _, ha⟩ := bind2 ha
      obtain ⟨_, _, ha⟩ := bind2 ha
      obtain rfl := Option.some.inj ha; trivial
    · obtain ⟨_, _, ha⟩ := bind2 ha
      split at ha
      · obtain ⟨_, _, ha⟩ := bind2 ha
        obtain ⟨_, _, ha⟩ := bind2 ha
        obtain rfl := Option.some.inj ha; trivial
      · simp at ha
    · simp at ha
  | makeInterface t y =>
    simp only [act, ho] at ha
    obtain ⟨_, _, ha⟩ := bind2 ha
    split at ha
    · simp at ha
    · obtain ⟨_, _, ha⟩ := bind2 ha; obtain rfl := Option.some.inj ha; trivial
  | makeFunc fn f c =>
    simp only [act, ho] at ha
    split at ha
    · obtain ⟨_, _, ha⟩ := bind2 ha; obtain rfl := Option.some.inj ha; trivial
    · simp at ha
  | slice t y l hh m =>
    simp only [act, ho] at ha
    obtain ⟨_, _, ha⟩ := bind2 ha
    split at ha
    · split at ha
      · simp at ha
      · obtain ⟨_, _, ha⟩ := bind2 ha
        obtain ⟨_, _, ha⟩ := bind2 ha
        obtain ⟨_, _, ha⟩ := bind2 ha
        obtain ⟨_, _, ha⟩ := bind2 ha
        obtain ⟨_, _, ha⟩ := bind2 ha
        obtain rfl := Option.some.inj ha; trivial
    · obtain ⟨_, _, ha⟩ := bind2 ha
      obtain ⟨_, _, ha⟩ := bind2 ha
      obtain ⟨_, _, ha⟩ := bind2 ha
      obtain ⟨_, _, ha⟩ := bind2 ha
      obtain ⟨_, _, ha⟩ := bind2 ha
      obtain ⟨_, _, ha⟩ := bind2 ha
      split at ha
      · obtain rfl := Option.some.inj ha; trivial
      · simp at ha
    · obtain ⟨_, _, ha⟩ := bind2 ha
      split at ha
      · simp at ha
      · obtain ⟨_, _, ha⟩ := bind2 ha
        obtain ⟨_, _, ha⟩ := bind2 ha
        obtain ⟨_, _, ha⟩ := bind2 ha
        obtain ⟨_, _, ha⟩ := bind2 ha
        obtain ⟨_, _, ha⟩ := bind2 ha
        obtain rfl := Option.some.inj ha; trivial
    · simp at ha
  | fieldAddr t y f =>
    simp only [act, ho] at ha
    obtain ⟨_, _, ha⟩ := bind2 ha
    split at ha
    · obtain ⟨_, _, ha⟩ := bind2 ha
      obtain ⟨_, _, ha⟩ := bind2 ha
      split at ha
      · simp at ha
      · split at ha
        · obtain rfl := Option.some.inj ha; trivial
        · obtain ⟨_, _, ha⟩ := bind2 ha; obtain rfl := Option.some.inj ha; trivial
        · simp at ha
    · simp at ha
  | field t y f =>
    simp only [act, ho] at ha
    obtain ⟨_, _, ha⟩ := bind2 ha
    split at ha
    · obtain ⟨_, _, ha⟩ := bind2 ha
      obtain ⟨_, _, ha⟩ := bind2 ha
      obtain ⟨_, _, ha⟩ := bind2 ha
      obtain ⟨_, _, ha⟩ := bind2 ha
      split at ha <;> (obtain rfl := Option.some.inj ha; trivial)
    · simp at ha
  | indexAddr t y i =>
    simp only [act, ho] at ha
    obtain ⟨_, _, ha⟩ := bind2 ha
    split at ha
    · obtain ⟨_, _, ha⟩ := bind2 ha
      obtain ⟨_, _, ha⟩ := bind2 ha
      obtain ⟨_, _, ha⟩ := bind2 ha
      obtain ⟨_, _, ha⟩ := bind2 ha
      obtain ⟨_, _, ha⟩ := bind2 ha
      obtain ⟨_, _, ha⟩ := bind2 ha
      obtain rfl := Option.some.inj ha; trivial
    · obtain ⟨_, _, ha⟩ := bind2 ha
      obtain ⟨_, _, ha⟩ := bind2 ha
      obtain ⟨_, _, ha⟩ := bind2 ha
      obtain ⟨_, _, ha⟩ := bind2 ha
      obtain ⟨_, _, ha⟩ := bind2 ha
      obtain ⟨_, _, ha⟩ := bind2 ha
      obtain rfl := Option.some.inj ha; trivial
    · simp at ha
  | index t y i =>
    simp only [act, ho] at ha
    obtain ⟨_, _, ha⟩ := bind2 ha
    split at ha
    · obtain ⟨_, _, ha⟩ := bind2 ha
      obtain ⟨_, _, ha⟩ := bind2 ha
      obtain ⟨_, _, ha⟩ := bind2 ha
      obtain ⟨_, _, ha⟩ := bind2 ha
      obtain ⟨_, _, ha⟩ := bind2 ha
      obtain rfl := Option.some.inj ha; trivial
    · obtain ⟨_, _, ha⟩ := bind2 ha
      split at ha
      · simp at ha
      · split at ha
        · simp at ha
        · obtain ⟨_, _, ha⟩ := bind2 ha
          obtain ⟨_, _, ha⟩ := bind2 ha
          obtain ⟨_, _, ha⟩ := bind2 ha
          obtain ⟨_, _, ha⟩ := bind2 ha
          obtain ⟨_, _, ha⟩ := bind2 ha
          obtain rfl := Option.some.inj ha; trivial
    · simp at ha
  | _ => simp [act, ho] at ha

theorem noclear {o : Oper} (h : clearOf H o = []) : st.clear (clearOf H o) = st := by rw [h]; rfl

theorem getD_cell {cs : List Cell} {o : Nat} (h : o < cs.length) : cs.getD o cellD = cs[o] := by rw [List.getD_eq_getElem?_getD, List.getElem?_eq_getElem h]; rfl

theorem getD_blk {l : List (List Cell)} {r : Nat} (h : l.getD r [] ≠ []) : r < l.length ∧ l[r]? = some (l.getD r []) := by
  have hlt : r < l.length := by
    rcases Nat.lt_or_ge r l.length with hh | hh
    · exact hh
    · exfalso; apply h; rw [List.getD_eq_getElem?_getD, List.getElem?_eq_none hh]; rfl
  exact ⟨hlt, by rw [List.getD_eq_getElem?_getD, List.getElem?_eq_getElem hlt]; rfl⟩

/-- One cell of a block, read for its token. -/
theorem cell_read {t : TypeId} {i : TI} (hT : TOk P t i) {r0 : Nat} {p : Place} {q : Nat → Place} {cs : List Cell} (h : BlkOk G w r0 p q cs) {o : Nat} (hlt : o < cs.length) (hn : i.size = 1) (hag : i.agg = false) :
    ∃ x, (loadVar t ⟨r0, o, none⟩).run P w = .ok x w ∧ CRel G w (q o) (cs.getD o cellD) x := by
  obtain ⟨cv, el, g1, g2, g3, g4, g5⟩ := h
  have hlt' : o < cv.size := by omega
  obtain ⟨e1, _⟩ := g5 o _ _ (List.getElem?_eq_getElem hlt) (Array.getElem?_eq_getElem hlt')
  refine ⟨cv[o], ?_, by rw [getD_cell hlt]; exact e1⟩
  have := run_loadVar_of (w := w) hT r0 o [cv[o]] (by simp [hn]) (fun j c hj => by
    cases j with
    | zero => simp at hj; subst hj; rw [cell?_of_heap g1]; simp
    | succ j => simp at hj) (fun _ => hn)
  rw [hag] at this
  simpa using this

/-- A cell's token struck out. -/
theorem strike {r0 : Nat} {p : Place} {q : Nat → Place} {cs : List Cell} (h : BlkOk G w r0 p q cs) {o : Nat} (hlt : o < cs.length) : BlkOk G w r0 p q (cs.set o ((cs.getD o cellD).1, false)) := by
  obtain ⟨cv, el, g1, g2, g3, g4, g5⟩ := h
  refine ⟨cv, el, g1, by simpa using g2, g3, g4, fun j c x hc hx => ?_⟩
  rw [List.getElem?_set] at hc
  split at hc
  · rename_i hj
    subst hj
    obtain ⟨e1, e2⟩ := g5 o _ x (List.getElem?_eq_getElem hlt) hx
    obtain rfl := Option.some.inj hc
    rw [getD_cell hlt]
    exact ⟨⟨e1.1, fun ho => by simp at ho⟩, e2⟩
  · exact g5 j c x hc hx

/-- A load from the frame's own cells. -/
theorem eff_getL (hC : CtxOk P C) {o : Oper} {r of n : Nat} {ag sl : Bool} (ha : act C H o st.regs = some (.getL r of n ag sl)) {K : Out → Option Res} {res : Res}
    (hk : apply H call o.dst (st.clear (clearOf H o)) K (.getL r of n ag sl) = some res) : ∃ out, K out = some res ∧ Sound1 P C o st out := by
  obtain ⟨t, y, i, ho, hi, hy, rfl, rfl, hsl⟩ := act_inv ha
  have hT := hC.T t i hi
  rw [noclear (by simp [clearOf, ho])] at hk
  simp only [apply] at hk
  split at hk
  · split at hk
    · rename_i hcond
      obtain ⟨hlt, hn1, hag⟩ := hcond
      split at hk
      · rename_i hfl
        refine ⟨_, hk, fun G lam a w h => ?_⟩
        have hne : st.locs.getD r [] ≠ [] := by intro hh; rw [hh] at hlt; simp at hlt
        have hB := (locs_ok h r).resolve_right hne
        obtain ⟨hrlt, hget⟩ := getD_blk hne
        obtain ⟨x, e1, e2⟩ := cell_read (P := P) hT hB hlt hn1 hag
        have hI' := h.setLoc (Ext.refl _ _) ⟨fun i p hp _ => ⟨rfl, rfl, hp⟩⟩ h.sto.wf (strike hB hlt)
        have hnf : ¬ St.flagged { st with locs := st.locs.set r ((st.locs.getD r []).set of (((st.locs.getD r []).getD of cellD).1, false)) } (.lc r of) := by
          rintro ⟨cs, v, hcs, hv⟩
          simp only [List.getElem?_set, if_true, if_pos hrlt, Option.some.injEq] at hcs
          subst hcs
          rw [List.getElem?_set] at hv
          simp at hv
        obtain ⟨G', x1, x2, x3, x4⟩ := hI'.token (q := .reg (o.dst.getD 0)) (e2.2 hfl) hnf (by simp) (by simp)
        refine upon_value (c := x) (w' := w) (by simp [execOp, ho, Instr.loadAt, Instr.sureAddr, eval_lptr h hy, e1]) ⟨_, G', lam, rfl, x1, x2.put o.dst _ _ fun d hd => ⟨e2.1.mono x1, fun _ => ?_⟩⟩
        rw [hd] at x3; exact x3
      · simp at hk
    · simp at hk
  · obtain ⟨v, hv, hk⟩ := bind2 hk
    refine ⟨_, hk, fun G lam a w h => ?_⟩
    obtain ⟨x, e1, e2⟩ := gather_rel (P := P) hT (locs_ok h r) hv
    exact upon_value (c := x) (w' := w) (by simp [execOp, ho, Instr.loadAt, Instr.sureAddr, eval_lptr h hy, e1]) ⟨_, G, lam, rfl, Ext.refl _ _, h.put o.dst _ x fun d _ => ⟨e2, fun hh => by simp at hh⟩⟩

theorem sto_blk (h : Inv C.glob G lam a w st) {b : Nat} {cs : List Cell} (hb : st.sto[b]? = some cs) : BlkOk G w (G.μ b) (.blk b) (fun j => .gc b j) cs ∧ b < st.sto.length :=
  ⟨h.sto.blk b cs hb, (List.getElem?_eq_some_iff.1 hb).1⟩

/-- A load through a pointer. -/
theorem memGet_run (hC : CtxOk P C) (h : Inv C.glob G lam a w st) {t : TypeId} {i : TI} (hi : C.T t = some i) {p : V} {c : Value} (hp : Rel G w p c) {v : V} (hv : memGet st.sto p i.agg i.size = some v) :
    ∃ x, (Instr.loadAt t c).run P w = .ok x w ∧ Rel G w v x := by
  have hT := hC.T t i hi
  cases p with
  | ptr tt b o =>
    cases hp
    simp only [memGet] at hv
    obtain ⟨cs, hcs, hv⟩ := bind2 hv
    obtain ⟨x, e1, e2⟩ := gather_rel (P := P) hT (.inl (sto_blk h hcs).1) hv
    exact ⟨x, by simp [Instr.loadAt, Instr.sureAddr, e1], e2⟩
  | eptr k e o => exact rel_eptr_load hT hp hv
  | _ => simp [memGet] at hv

theorem eff_getS (hC : CtxOk P C) {o : Oper} {p : V} {n : Nat} {ag : Bool} (ha : act C H o st.regs = some (.getS p n ag)) {K : Out → Option Res} {res : Res}
    (hk : apply H call o.dst (st.clear (clearOf H o)) K (.getS p n ag) = some res) : ∃ out, K out = some res ∧ Sound1 P C o st out := by
  obtain ⟨t, y, i, ow, ho, hi, hy, rfl, rfl⟩ := act_inv ha
  rw [noclear (by simp [clearOf, ho])] at hk
  simp only [apply] at hk
  obtain ⟨v, hv, hk⟩ := bind2 hk
  refine ⟨_, hk, fun G lam a w h => ?_⟩
  obtain ⟨x, e1, e2⟩ := memGet_run hC h hi (eval_rel h hy).1 hv
  exact upon_value (c := x) (w' := w) (by simp [execOp, ho, e1]) ⟨_, G, lam, rfl, Ext.refl _ _, h.put o.dst _ x fun d _ => ⟨e2, fun hh => by simp at hh⟩⟩

theorem eff_takeS (hC : CtxOk P C) {o : Oper} {p : V} (ha : act C H o st.regs = some (.takeS p)) {K : Out → Option Res} {res : Res}
    (hk : apply H call o.dst (st.clear (clearOf H o)) K (.takeS p) = some res) : ∃ out, K out = some res ∧ Sound1 P C o st out := by
  obtain ⟨t, y, i, ow, ho, hi, hy, hn, hag⟩ := act_inv ha
  have hT := hC.T t i hi
  rw [noclear (by simp [clearOf, ho])] at hk
  simp only [apply] at hk
  obtain ⟨v, hv, hk⟩ := bind2 hk
  cases p with
  | ptr tt b of =>
    simp only [memTake] at hv
    obtain ⟨cs, hcs, hv⟩ := bind2 hv
    split at hv
    · rename_i hlt
      split at hv
      · rename_i hfl
        obtain rfl := Option.some.inj hv
        refine ⟨_, hk, fun G lam a w h => ?_⟩
        obtain ⟨hB, hblt⟩ := sto_blk h hcs
        obtain ⟨x, e1, e2⟩ := cell_read (P := P) hT hB hlt hn hag
        have hI' := h.setSto hblt (Ext.refl _ _) ⟨fun i p hp _ => ⟨rfl, rfl, hp⟩⟩ h.sto.wf (strike hB hlt) (h.sto.typed b hblt)
        have hnf : ¬ St.flagged { st with sto := st.sto.set b (cs.set of ((cs.getD of cellD).1, false)) } (.gc b of) := by
          rintro ⟨cs', v', hcs', hv'⟩
          simp only [List.getElem?_set, if_true, if_pos hblt, Option.some.injEq] at hcs'
          subst hcs'
          rw [List.getElem?_set] at hv'
          simp at hv'
        obtain ⟨G', x1, x2, x3, x4⟩ := hI'.token (q := .reg (o.dst.getD 0)) (e2.2 hfl) hnf (by simp) (by simp)
        have hev : a.eval y = .pointer (some ⟨G.μ b, of, none⟩) := by
          have := (eval_rel h hy).1
          generalize a.eval y = c at this
          cases this; rfl
        refine upon_value (c := x) (w' := w) (by simp [execOp, ho, Instr.loadAt, Instr.sureAddr, hev, e1]) ⟨_, G', lam, rfl, x1, x2.put o.dst _ _ fun d hd => ⟨e2.1.mono x1, fun _ => ?_⟩⟩
        rw [hd] at x3; exact x3
      · simp at hv
    · simp at hv
  | _ => simp [memTake] at hv

theorem store_size {t : TypeId} {i : TI} {v : V} {c : Value} (h : Rel G w v c) (hf : v.fits i.agg i.size = true) : c.cells.size = i.size := (cellsN_rel h hf).2.1

theorem eff_setL (hC : CtxOk P C) {o : Oper} {r of : Nat} {cs : List Cell} (ha : act C H o st.regs = some (.setL r of cs)) {K : Out → Option Res} {res : Res}
    (hk : apply H call o.dst (st.clear (clearOf H o)) K (.setL r of cs) = some res) : ∃ out, K out = some res ∧ Sound1 P C o st out := by
  obtain ⟨t, y, z, i, c, ho, hi, hc, hf, hy, rfl⟩ := act_inv ha
  have hT := hC.T t i hi
  have hcl : clearOf H o = tmpOf z := by simp [clearOf, ho]
  simp only [apply] at hk
  have hlc : (st.clear (clearOf H o)).locs = st.locs := rfl
  rw [hlc] at hk
  split at hk
  · rename_i hle
    refine ⟨_, hk, fun G lam a w h => ?_⟩
    have hev := eval_lptr h hy
    obtain ⟨G1, x1, x2, x3, x4, x5⟩ := take_token h hc hcl (.lc r of)
    obtain ⟨k1, k2, k3⟩ := cellsO_rel x3 hf (fun j => .lc r (of + j)) (fun h1 => x4 h1)
    have hsz := store_size (t := t) x3 hf
    by_cases h0 : i.size = 0
    · -- nothing is written
      have hnil : cellsO c.1 c.2 i.agg i.size = [] := by apply List.eq_nil_of_length_eq_zero; rw [k1]; exact h0
      have hc0 : (a.eval z).cells.toList = [] := by apply List.eq_nil_of_length_eq_zero; rw [k2]; exact h0
      refine upon_skip' (w' := w) ?_ ⟨_, G1, lam, rfl, x1, ?_⟩
      · simp [execOp, ho, Instr.storeAt, hev, Instr.sureAddr, storeVar, run_sizeOf_of hT, hsz, hc0, storeCells]
      · rw [hnil]
        have : st.locs.set r (setCells (st.locs.getD r []) of []) = st.locs := by
          simp only [setCells]
          apply List.ext_getElem?
          intro j
          rw [List.getElem?_set]
          split
          · rename_i hj
            subst hj
            split
            · rename_i hlt
              rw [List.getD_eq_getElem?_getD, List.getElem?_eq_getElem hlt]; rfl
            · rename_i hlt; rw [List.getElem?_eq_none (by omega)]
          · rfl
        rw [this]
        exact x2.put o.dst _ _ fun _ _ => trivial
    · have hne : st.locs.getD r [] ≠ [] := by
        intro hh
        rw [hh, k1] at hle
        simp only [List.length_nil] at hle
        omega
      have hB := (locs_ok x2 r).resolve_right hne
      rw [hlc] at hB
      obtain ⟨w1, w2, w3, w4, w5⟩ := write_block (P := P) x2.sto.wf hB (by simp) of (a.eval z).cells.toList (cellsO c.1 c.2 i.agg i.size) (by rw [k1, k2]) hle k3
      have hI := x2.setLoc w2 (w3 _ (by simp)) w4 w5
      refine upon_skip' (w' := putCells w (lam r) of (a.eval z).cells.toList) ?_ ⟨_, G1, lam, rfl, x1.trans w2, hI.put o.dst _ _ fun _ _ => trivial⟩
      simp [execOp, ho, Instr.storeAt, hev, Instr.sureAddr, storeVar, run_sizeOf_of hT, hsz, w1]
  · simp at hk

theorem eff_setS (hC : CtxOk P C) {o : Oper} {p : V} {cs : List Cell} (ha : act C H o st.regs = some (.setS p cs)) {K : Out → Option Res} {res : Res}
    (hk : apply H call o.dst (st.clear (clearOf H o)) K (.setS p cs) = some res) : ∃ out, K out = some res ∧ Sound1 P C o st out := by
  obtain ⟨t, y, z, i, c, ow, ho, hi, hc, hf, hy, rfl⟩ := act_inv ha
  have hT := hC.T t i hi
  have hcl : clearOf H o = tmpOf z := by simp [clearOf, ho]
  simp only [apply] at hk
  obtain ⟨σ, hσ, hk⟩ := bind2 hk
  refine ⟨_, hk, fun G lam a w h => ?_⟩
  have hlc : (st.clear (clearOf H o)).sto = st.sto := rfl
  rw [hlc] at hσ
  cases p with
  | ptr tt b of =>
    simp only [memSet] at hσ
    obtain ⟨cs, hcs, hσ⟩ := bind2 hσ
    split at hσ
    · rename_i hle
      obtain rfl := Option.some.inj hσ
      have hev : a.eval y = .pointer (some ⟨G.μ b, of, none⟩) := by
        have := (eval_rel h hy).1
        generalize a.eval y = c at this
        cases this; rfl
      obtain ⟨G1, x1, x2, x3, x4, x5⟩ := take_token h hc hcl (.gc b of)
      obtain ⟨k1, k2, k3⟩ := cellsO_rel x3 hf (fun j => .gc b (of + j)) (fun h1 => x4 h1)
      have hsz := store_size (t := t) x3 hf
      have hblt : b < st.sto.length := (List.getElem?_eq_some_iff.1 hcs).1
      have hμ : G1.μ b = G.μ b := x1.μ b (by rw [h.sto.N]; exact hblt)
      obtain ⟨hB, _⟩ := sto_blk x2 (b := b) (cs := cs) hcs
      obtain ⟨w1, w2, w3, w4, w5⟩ := write_block (P := P) x2.sto.wf hB (by simp) of (a.eval z).cells.toList (cellsO c.1 c.2 i.agg i.size) (by rw [k1, k2]) hle k3
      have htt : ∃ cv fr, (putCells w (G1.μ b) of (a.eval z).cells.toList).heap[G1.μ b]? = some (.cells cv (G1.ty b) fr) := by
        obtain ⟨cv, fr, q1⟩ := x2.sto.typed b hblt
        rw [putCells_heap, if_pos rfl, q1]
        exact ⟨_, _, rfl⟩
      have hI := x2.setSto (b := b) hblt w2 (w3 _ (by simp)) w4 w5 htt
      refine upon_skip' (w' := putCells w (G1.μ b) of (a.eval z).cells.toList) ?_ ⟨_, G1, lam, rfl, x1.trans w2, hI.put o.dst _ _ fun _ _ => trivial⟩
      rw [hμ] at w1 ⊢
      simp [execOp, ho, Instr.storeAt, hev, Instr.sureAddr, storeVar, run_sizeOf_of hT, hsz, w1]
    · simp at hσ
  | _ => simp [memSet] at hσ

end
end Go.Ab
