/- Operations that come to a value, continued. -/
import Derived.Test.YtcpdcpgblcapeaaDoorAbVal
set_option linter.unusedSimpArgs false
set_option linter.unusedVariables false
set_option linter.deprecated false
namespace Go.Ab
section
variable {P : Program} {C : Ctx} {H : Hints} {G : Gh} {lam : Nat → Nat} {a : Act} {w : World} {st : St}

theorem val_unOp (h : Inv C.glob G lam a w st) {o : Oper} {op : UnOp} {t : TypeId} {x : Operand} {y : RV} (ho : o.op = .unOp op t x) (ha : act C H o st.regs = some (.val y)) : VOk P C H G lam a w st o y := by
  simp only [act, ho] at ha
  obtain ⟨v, hv, hq⟩ := bind2 ha
  clear ha
  cases op <;> simp only [reduceCtorEq] at hq
  · obtain ⟨n, hn, hq⟩ := bind2 hq
    obtain rfl := Eff.val.inj (Option.some.inj hq)
    refine VOk.val h (.int .i64 (IntKind.i64.wrap (0 - n))) ?_ (.int _ _)
    simp [execOp, ho, vk_int h hv hn, Op.unary, Op.intArith]
  · obtain ⟨b, hb, hq⟩ := bind2 hq
    obtain rfl := Eff.val.inj (Option.some.inj hq)
    refine VOk.val h (.bool !b) ?_ (.bool _)
    simp [execOp, ho, vk_bool h hv hb, Op.unary]

theorem val_convert (hC : CtxOk P C) (h : Inv C.glob G lam a w st) {o : Oper} {s d : TypeId} {x : Operand} {y : RV} (ho : o.op = .convert s d x) (ha : act C H o st.regs = some (.val y)) : VOk P C H G lam a w st o y := by
  simp only [act, ho] at ha
  obtain ⟨i, hi, h1⟩ := bind2 ha
  obtain ⟨j, hj, h2⟩ := bind2 h1
  clear ha h1
  obtain ⟨d1, hd1, hk1⟩ := (hC.T s i hi).desc
  obtain ⟨d2, hd2, hk2⟩ := (hC.T d j hj).desc
  split at h2
  · rename_i k k' e1 e2
    rw [e1] at hk1
    rw [e2] at hk2
    obtain rfl := kok_int hk1
    obtain rfl := kok_int hk2
    obtain ⟨v, hv, h3⟩ := bind2 h2
    obtain ⟨n, hn, h4⟩ := bind2 h3
    obtain rfl := Eff.val.inj (Option.some.inj h4)
    refine VOk.val h (.int k' (k'.wrap n)) ?_ (.int _ _)
    simp [execOp, ho, vk_int h hv hn, Go.convert, run_underlying_of hd1, run_underlying_of hd2, Conv.intToInt]
  · simp at h2

theorem val_makeInterface (hC : CtxOk P C) (h : Inv C.glob G lam a w st) {o : Oper} {t : TypeId} {x : Operand} {y : RV} (ho : o.op = .makeInterface t x) (ha : act C H o st.regs = some (.val y)) : VOk P C H G lam a w st o y := by
  simp only [act, ho] at ha
  obtain ⟨i, hi, h1⟩ := bind2 ha
  clear ha
  obtain ⟨d1, hd1, hk1⟩ := (hC.T t i hi).desc
  split at h1
  · simp at h1
  · rename_i hne
    obtain ⟨v, hv, h2⟩ := bind2 h1
    obtain rfl := Eff.val.inj (Option.some.inj h2)
    refine VOk.val h (.iface t (a.eval x)) ?_ (.iface _ _ _ (vk_rel h hv))
    have : ∀ ms, d1 ≠ .interface ms := by
      rintro ms rfl
      generalize i.kind = k at hne hk1
      cases k <;> simp_all [KOk]
    simp only [execOp, ho, Instr.makeInterface, Sem.run_bind, run_underlying_of hd1, Result.andThen_ok]
    cases d1 <;> first | rfl | (exact absurd rfl (this _))

theorem val_nilCheck (h : Inv C.glob G lam a w st) {o : Oper} {x : Operand} {y : RV} (ho : o.op = .nilCheck x) (ha : act C H o st.regs = some (.val y)) : VOk P C H G lam a w st o y := by
  simp only [act, ho] at ha
  split at ha
  · rename_i r of hx
    obtain rfl := Eff.val.inj (Option.some.inj ha)
    have := eval_lptr h hx
    exact VOk.pure h _ (by simp [execOp, ho, this]) fun _ => rfl
  · rename_i v ow hx
    obtain ⟨u, hu, h1⟩ := bind2 ha
    obtain rfl := Eff.val.inj (Option.some.inj h1)
    have hr := (eval_rel h hx).1
    generalize hc : a.eval x = c at hr
    cases hr with
    | ptr t0 b o' hb ht =>
      simp [V.nonnil] at hu; subst hu
      exact VOk.val h (.pointer (some ⟨G.μ b, o', none⟩)) (by simp [execOp, ho, hc]) (.ptr _ _ _ hb ht)
    | eptr k e o' b off cs g1 g2 g3 g4 g5 =>
      simp [V.nonnil] at hu; subst hu
      exact VOk.val h (.pointer (some ⟨b, off + o', none⟩)) (by simp [execOp, ho, hc]) (.eptr k e o' b off cs g1 g2 g3 g4 g5)
    | func fn first cap f c' g1 g2 g3 g4 =>
      cases fn <;> simp [V.nonnil] at hu
      subst hu
      exact VOk.val h (.func (.func _) f.toArray c'.toArray) (by simp [execOp, ho, hc]) (.func _ first cap f c' g1 g2 g3 g4)
    | _ => simp [V.nonnil] at hu
  · simp at ha

/-- The arguments of a call, one by one. -/
theorem argCells_rel (h : Inv C.glob G lam a w st) : ∀ (l : List (Operand × TypeId)) (cs : List Cell), argCells C st.regs l = some cs → cs.length = l.length ∧
    ∀ (i : Nat) c x, cs[i]? = some c → l[i]? = some x → Rel G w c.1 (a.eval x.1) ∧ (c.2 = true → (∃ r, x.1 = .tmp r ∧ Own G w (.reg r) c.1 (a.eval x.1)) ∨ ∀ p, Own G w p c.1 (a.eval x.1))
  | [], cs, hc => by simp [argCells] at hc; subst hc; simp
  | (x, t) :: rest, cs, hc => by
    simp only [argCells] at hc
    obtain ⟨c, h1, hc⟩ := bind2 hc
    obtain ⟨cs', h2, hc⟩ := bind2 hc
    obtain rfl := Option.some.inj hc
    obtain ⟨e1, e2⟩ := argCells_rel h rest cs' h2
    refine ⟨by simp [e1], fun i c' y hi hy => ?_⟩
    cases i with
    | zero =>
      simp at hi hy
      subst hi; subst hy
      exact ck_rel h h1
    | succ i =>
      simp at hi hy
      exact e2 i c' y hi hy

theorem val_makeFunc (h : Inv C.glob G lam a w st) {o : Oper} {fn : Fn} {fi ca : Array Operand} {y : RV} (ho : o.op = .makeFunc fn fi ca) (ha : act C H o st.regs = some (.val y)) : VOk P C H G lam a w st o y := by
  simp only [act, ho] at ha
  split at ha
  · rename_i hs
    obtain ⟨cs, hcs, h1⟩ := bind2 ha
    obtain rfl := Eff.val.inj (Option.some.inj h1)
    obtain ⟨e1, e2⟩ := argCells_rel h _ _ hcs
    have hfi : fi = #[] := by simpa using hs
    refine VOk.val h (.func fn ([] : List Value).toArray (ca.toList.map a.eval).toArray) ?_ (.func fn [] _ [] _ rfl (by simp [e1]) (by simp) fun i v x hv hx => ?_)
    · subst hfi
      simp [execOp, ho, Instr.makeFunc]
      apply Array.ext'
      simp
    · simp only [List.getElem?_map, Option.map_eq_some_iff] at hv hx
      obtain ⟨c, hc, rfl⟩ := hv
      obtain ⟨z, hz, rfl⟩ := hx
      exact (e2 i c (z, 0) hc (by simp [hz])).1
  · simp at ha

theorem val_fieldAddr (hC : CtxOk P C) (h : Inv C.glob G lam a w st) {o : Oper} {s : TypeId} {x : Operand} {f : Nat} {y : RV} (ho : o.op = .fieldAddr s x f) (ha : act C H o st.regs = some (.val y)) : VOk P C H G lam a w st o y := by
  simp only [act, ho] at ha
  obtain ⟨i, hi, h1⟩ := bind2 ha
  clear ha
  obtain ⟨d1, hd1, hk1⟩ := (hC.T s i hi).desc
  split at h1
  · rename_i fs hfs
    rw [hfs] at hk1
    obtain ⟨fields, rfl, hm⟩ := kok_struct hk1
    obtain ⟨p, hp, h2⟩ := bind2 h1
    obtain ⟨fi, hfi, h3⟩ := bind2 h2
    clear h1 h2
    split at h3
    · simp at h3
    · rename_i hsz
      rw [← hm, List.getElem?_map, Option.map_eq_some_iff] at hp
      obtain ⟨fd, hfd, rfl⟩ := hp
      have hfd' : fields[f]? = some fd := by simpa using hfd
      have key : ∀ b of, a.eval x = .pointer (some ⟨b, of, none⟩) → (execOp a.eval o).run P w = .ok (.value (.pointer (some ⟨b, of + fd.offset, none⟩))) w := by
        intro b of hx
        simp [execOp, ho, Instr.fieldAt, run_underlying_of hd1, hfd', hx, Instr.sureAddr, fieldPlace, run_sizeOf_of (hC.T _ _ hfi), hsz, add_plain]
      split at h3
      · rename_i r of hx
        obtain rfl := Eff.val.inj (Option.some.inj h3)
        exact VOk.pure h _ (key _ _ (eval_lptr h hx)) fun _ => rfl
      · rename_i v ow hx
        obtain ⟨u, hu, h4⟩ := bind2 h3
        have hu := grd_some hu
        obtain rfl := Eff.val.inj (Option.some.inj h4)
        have hr := (eval_rel h hx).1
        generalize hc : a.eval x = c at hr
        cases hr with
        | ptr t0 b o' hb ht => exact VOk.val h _ (key _ _ hc) (.ptr _ _ _ hb ht)
        | eptr k e of b off cs g1 g2 g3 g4 g5 =>
          have := key _ _ hc
          rw [Nat.add_assoc] at this
          exact VOk.val h _ this (.eptr k e (of + fd.offset) b off cs g1 g2 g3 g4 g5)
        | _ => simp [V.isPtr] at hu
      · simp at h3
  · simp at h1

theorem val_indexAddr (hC : CtxOk P C) (h : Inv C.glob G lam a w st) {o : Oper} {t : TypeId} {x ix : Operand} {y : RV} (ho : o.op = .indexAddr t x ix) (ha : act C H o st.regs = some (.val y)) : VOk P C H G lam a w st o y := by
  simp only [act, ho] at ha
  obtain ⟨i, hi, h1⟩ := bind2 ha
  clear ha
  obtain ⟨d1, hd1, hk1⟩ := (hC.T t i hi).desc
  split at h1
  · rename_i e hkk
    rw [hkk] at hk1
    obtain rfl := kok_slice hk1
    obtain ⟨ei, hei, h2⟩ := bind2 h1
    obtain ⟨v, hv, h3⟩ := bind2 h2
    obtain ⟨es, hes, h4⟩ := bind2 h3
    obtain ⟨wv, hw, h5⟩ := bind2 h4
    obtain ⟨n, hn, h6⟩ := bind2 h5
    obtain ⟨u, hu, h7⟩ := bind2 h6
    clear h1 h2 h3 h4 h5 h6
    have hu := grd_some hu
    simp only [Bool.and_eq_true, decide_eq_true_eq] at hu
    obtain rfl := Eff.val.inj (Option.some.inj h7)
    have hix := vk_int h hw hn
    obtain ⟨hr, _⟩ := asSlice_rel hes (vk_rel h hv)
    rcases rel_slice hr with ⟨rfl, _⟩ | ⟨b, off, cap, cs, hc, g1, g2, g3, g4, g5, g6, g7⟩
    · simp at hu; omega
    · have hlt : n.toNat < es.length := by omega
      have hlt' : n.toNat < cs.length := by omega
      refine VOk.val h (.pointer (some ⟨b, off + n.toNat * ei.size + 0, none⟩)) ?_ (.eptr ei.size _ 0 b (off + n.toNat * ei.size) cs[n.toNat] ?_ ?_ ?_ ?_ ?_)
      · simp [execOp, ho, Instr.indexAt, hix, asIntOf, run_underlying_of hd1, hc, run_sizeOf_of (hC.T _ _ hei), hu, add_plain]
      · rw [List.getD_eq_getElem?_getD, List.getElem?_eq_getElem hlt]; exact g4 _ _ (List.getElem?_eq_getElem hlt)
      · exact g5 _ _ (List.getElem?_eq_getElem hlt')
      · have : (n.toNat + 1) * ei.size ≤ es.length * ei.size := Nat.mul_le_mul_right _ (by omega)
        rw [Nat.succ_mul] at this
        omega
      · intro j c hj
        exact g6 _ j _ c (List.getElem?_eq_getElem hlt') hj
      · intro j v c hv hj
        rw [List.getD_eq_getElem?_getD, List.getElem?_eq_getElem hlt] at hv
        exact g7 _ j _ _ v c (List.getElem?_eq_getElem hlt) (List.getElem?_eq_getElem hlt') hv hj
  · rename_i len e hkk
    rw [hkk] at hk1
    obtain rfl := (kok_array hk1)
    obtain ⟨ei, hei, h2⟩ := bind2 h1
    obtain ⟨p, hp, h3⟩ := bind2 h2
    obtain ⟨u1, hu1, h4⟩ := bind2 h3
    obtain ⟨wv, hw, h5⟩ := bind2 h4
    obtain ⟨n, hn, h6⟩ := bind2 h5
    obtain ⟨u, hu, h7⟩ := bind2 h6
    clear h1 h2 h3 h4 h5 h6
    have hu := grd_some hu
    have hu1 := grd_some hu1
    simp only [Bool.and_eq_true, decide_eq_true_eq] at hu
    obtain rfl := Eff.val.inj (Option.some.inj h7)
    have hix := vk_int h hw hn
    have hr := vk_rel h hp
    have key : ∀ b of, a.eval x = .pointer (some ⟨b, of, none⟩) → (execOp a.eval o).run P w = .ok (.value (.pointer (some ⟨b, of + n.toNat * ei.size, none⟩))) w := by
      intro b of hx
      simp [execOp, ho, Instr.indexAt, hix, asIntOf, run_underlying_of hd1, hx, Instr.sureAddr, run_sizeOf_of (hC.T _ _ hei), hu, add_plain]
    generalize hc : a.eval x = c at hr
    cases hr with
    | ptr t0 b o' hb ht => exact VOk.val h _ (key _ _ hc) (.ptr _ _ _ hb ht)
    | eptr k e' of b off cs g1 g2 g3 g4 g5 =>
      have := key _ _ hc
      rw [Nat.add_assoc] at this
      exact VOk.val h _ this (.eptr k e' (of + n.toNat * ei.size) b off cs g1 g2 g3 g4 g5)
    | _ => simp [V.isPtr] at hu1
  · simp at h1
end
end Go.Ab
