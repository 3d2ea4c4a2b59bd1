/- Operations that come to a value: the abstract one is met by the real one. -/
import Derived.Test.YtcpdcpgblcapeaaDoorAbFill
import Derived.Laws.BytesString
set_option linter.unusedSimpArgs false
set_option linter.unusedVariables false
set_option linter.deprecated false
namespace Go.Ab
section
variable {P : Program} {C : Ctx} {H : Hints} {G : Gh} {lam : Nat → Nat} {a : Act} {w : World} {st : St}

/-- A value laid into another register, its token with it. -/
theorem assign_ok {o : Oper} {t : TypeId} {x : Operand} (h : Inv C.glob G lam a w st) (hrun : (execOp a.eval o).run P w = .ok (.value (a.eval x)) w) (hc : clearOf H o = tmpOf x) :
    VOk P C H G lam a w st o (valOwn (opndT C st.regs t x)) := by
  cases hv : opndT C st.regs t x with
  | dead => exact VOk.pure h _ hrun fun _ => trivial
  | lptr r of => exact VOk.pure h _ hrun fun _ => eval_lptr h hv
  | tup cs =>
    refine VOk.pure h _ hrun fun d => ?_
    have := noOwn_opnd h t x d
    rw [hv] at this
    exact this
  | val v ow =>
    obtain ⟨h1, h2⟩ := eval_rel h hv
    cases ow with
    | false => exact VOk.pure h _ hrun fun _ => ⟨h1, fun ho => by simp at ho⟩
    | true =>
      rcases h2 rfl with ⟨r, rfl, h3⟩ | h3
      · obtain ⟨G', e1, e2, e3, e4⟩ := (h.clear (clearOf H o)).token (q := .reg (o.dst.getD 0)) h3 (clear_not_flagged _ _ (by rw [hc]; simp [tmpOf])) (by simp) (by simp)
        exact ⟨_, w, G', hrun, e1, e2, fun d hd => ⟨h1.mono e1, fun _ => by rw [hd] at e3; exact e3⟩⟩
      · exact VOk.pure h _ hrun fun _ => ⟨h1, fun _ => h3 _⟩

theorem bind2 {α β : Type} {x : Option α} {f : α → Option β} {y : β} (h : x.bind f = some y) : ∃ a, x = some a ∧ f a = some y := Option.bind_eq_some_iff.1 h

theorem val_move (h : Inv C.glob G lam a w st) {o : Oper} {x : Operand} {y : RV} (ho : o.op = .move x) (ha : act C H o st.regs = some (.val y)) : VOk P C H G lam a w st o y := by
  simp only [act, ho] at ha
  have hrun : (execOp a.eval o).run P w = .ok (.value (a.eval x)) w := by simp [execOp, ho]
  split at ha
  · rename_i hs
    obtain rfl := Eff.val.inj (Option.some.inj ha)
    exact assign_ok h hrun (by simp [clearOf, ho, hs])
  · obtain rfl := Eff.val.inj (Option.some.inj ha)
    exact VOk.pure h _ hrun fun d => noOwn_opnd h _ x d

theorem val_assign (h : Inv C.glob G lam a w st) {o : Oper} {x : Operand} {y : RV} (ho : o.op = .assign x) (ha : act C H o st.regs = some (.val y)) : VOk P C H G lam a w st o y := by
  simp only [act, ho] at ha
  obtain rfl := Eff.val.inj (Option.some.inj ha)
  exact assign_ok h (by simp [execOp, ho]) (by simp [clearOf, ho])

theorem val_pick (h : Inv C.glob G lam a w st) {o : Oper} {c x z : Operand} {y : RV} (ho : o.op = .pick c x z) (ha : act C H o st.regs = some (.val y)) : VOk P C H G lam a w st o y := by
  simp only [act, ho] at ha
  obtain ⟨v, hv, ha⟩ := bind2 ha
  obtain ⟨b, hb, ha⟩ := bind2 ha
  obtain rfl := Eff.val.inj (Option.some.inj ha)
  have hc := vk_bool h hv hb
  refine VOk.pure h (if b then a.eval x else a.eval z) (by simp [execOp, ho, hc, asBool]) fun d => ?_
  cases b
  · exact noOwn_opnd h _ z d
  · exact noOwn_opnd h _ x d

theorem run_binOp {o : Oper} {op : BinOp} {t u : TypeId} {x y : Operand} {c : Value} {w' : World} (ho : o.op = .binOp op t x y u)
    (h : (do eqGuard op t x y (a.eval x) (a.eval y); binOp op t (a.eval x) (a.eval y) : Sem Value).run P w = .ok c w') : (execOp a.eval o).run P w = .ok (.value c) w' := by
  simp only [execOp, ho]
  rw [Sem.run_bind, h]
  rfl

theorem rel_ptrNil {v : V} {c : Value} {b : Bool} (h : Rel G w v c) (hb : v.ptrNil = some b) : (c = .pointer none ∧ b = true) ∨ ∃ p, c = .pointer (some p) ∧ b = false := by
  cases h <;> simp [V.ptrNil] at hb <;> subst hb <;> simp
theorem rel_ifaceNil {v : V} {c : Value} {b : Bool} (h : Rel G w v c) (hb : v.ifaceNil = some b) : (c = .nilIface ∧ b = true) ∨ ∃ t x, c = .iface t x ∧ b = false := by
  cases h <;> simp [V.ifaceNil] at hb <;> subst hb <;> simp

theorem run_equal {t : TypeId} {x y : Value} {d : TypeDesc} (hd : P.underlying t = some d) (b : Bool) (h : (match d, x, y with
    | .bool, .bool a, .bool b' => some (a == b')
    | .pointer _, .pointer none, .pointer none => some true
    | .pointer _, .pointer (some _), .pointer none => some false
    | .interface _, .nilIface, .nilIface => some true
    | .interface _, .iface _ _, .nilIface => some false
    | _, _, _ => none) = some b) : (Op.equal t x y).run P w = .ok b w := by
  have e : Op.equal t x y = Op.equalIn (9999 + 1) t x y := rfl
  rw [e, Op.equalIn, Sem.run_bind, run_underlying_of hd, Result.andThen_ok]
  split at h <;> simp at h <;> subst h <;> simp

theorem isNilP_eq {x : Operand} (h : isNilP x = true) : x = .const (.pointer none) := by
  unfold isNilP at h; split at h <;> simp_all
theorem isNilI_eq {x : Operand} (h : isNilI x = true) : x = .const .nilIface := by
  unfold isNilI at h; split at h <;> simp_all

theorem eqOp_run {o : Oper} {op : BinOp} {t u : TypeId} {x z : Operand} {v : V} {b : Bool} (ho : o.op = .binOp op t x z u) (h : Inv C.glob G lam a w st) (hv : eqOp op b = some v)
    (hg : ∀ op', op' = BinOp.eql ∨ op' = BinOp.neq → (eqGuard op' t x z (a.eval x) (a.eval z)).run P w = .ok () w ∧ (Go.binOp .eql t (a.eval x) (a.eval z)) = (do pure (.bool (← Op.equal t (a.eval x) (a.eval z)))) ∧
      (Go.binOp .neq t (a.eval x) (a.eval z)) = (do pure (.bool (!(← Op.equal t (a.eval x) (a.eval z)))))) (he : (Op.equal t (a.eval x) (a.eval z)).run P w = .ok b w) : VOk P C H G lam a w st o (.val v false) := by
  cases op <;> simp only [eqOp, Option.some.injEq, reduceCtorEq] at hv
  · subst hv
    obtain ⟨h1, h2, _⟩ := hg .eql (.inl rfl)
    refine VOk.val h _ (run_binOp ho (c := .bool b) ?_) (.bool _)
    rw [Sem.run_bind, h1, Result.andThen_ok, h2]
    simp [he]
  · subst hv
    obtain ⟨h1, _, h2⟩ := hg .neq (.inr rfl)
    refine VOk.val h _ (run_binOp ho (c := .bool !b) ?_) (.bool _)
    rw [Sem.run_bind, h1, Result.andThen_ok, h2]
    simp [he]

theorem val_binOp (hC : CtxOk P C) (h : Inv C.glob G lam a w st) {o : Oper} {op : BinOp} {t u : TypeId} {x z : Operand} {y : RV} (ho : o.op = .binOp op t x z u) (ha : act C H o st.regs = some (.val y)) : VOk P C H G lam a w st o y := by
  simp only [act, ho] at ha
  obtain ⟨v, hv, ha⟩ := bind2 ha
  obtain rfl := Eff.val.inj (Option.some.inj ha)
  unfold binK at hv
  obtain ⟨i, hi, hq⟩ := bind2 hv
  clear hv
  obtain ⟨d, hd, hk⟩ := (hC.T t i hi).desc
  split at hq
  · rename_i k hkk
    obtain ⟨v1, e1, hv⟩ := bind2 hq
    obtain ⟨v2, e2, hv⟩ := bind2 hv
    obtain ⟨m, e3, hv⟩ := bind2 hv
    obtain ⟨n, e4, hv⟩ := bind2 hv
    obtain ⟨c, hc1, hc2⟩ := run_int (P := P) (G := G) (w := w) (t := t) (x := x) (y := z) hv
    rw [← vk_int h e1 e3, ← vk_int h e2 e4] at hc1
    exact VOk.val h c (run_binOp ho hc1) hc2
  · obtain ⟨v1, e1, hv⟩ := bind2 hq
    obtain ⟨v2, e2, hv⟩ := bind2 hv
    obtain ⟨m, e3, hv⟩ := bind2 hv
    obtain ⟨n, e4, hv⟩ := bind2 hv
    obtain ⟨c, hc1, hc2⟩ := run_str (P := P) (G := G) (w := w) (t := t) (x := x) (y := z) hv
    rw [← vk_str h e1 e3, ← vk_str h e2 e4] at hc1
    exact VOk.val h c (run_binOp ho hc1) hc2
  · rename_i hkk
    rw [hkk] at hk
    obtain rfl := kok_bool hk
    obtain ⟨v1, e1, hv⟩ := bind2 hq
    obtain ⟨v2, e2, hv⟩ := bind2 hv
    obtain ⟨m, e3, hv⟩ := bind2 hv
    obtain ⟨n, e4, hv⟩ := bind2 hv
    have f1 := vk_bool h e1 e3
    have f2 := vk_bool h e2 e4
    refine eqOp_run ho h hv (fun op' hop => ?_) ?_
    · rw [f1, f2]
      rcases hop with rfl | rfl <;> exact ⟨by simp [eqGuard], rfl, rfl⟩
    · rw [f1, f2]
      exact run_equal hd _ rfl
  · rename_i e hkk
    rw [hkk] at hk
    obtain rfl := kok_pointer hk
    split at hq
    · rename_i hn
      have hz := isNilP_eq hn
      subst hz
      obtain ⟨v1, e1, hv⟩ := bind2 hq
      obtain ⟨b, e2, hv⟩ := bind2 hv
      have hr := rel_ptrNil (vk_rel h e1) e2
      refine eqOp_run ho h hv (fun op' hop => ?_) ?_
      · rcases hr with ⟨f1, rfl⟩ | ⟨p, f1, rfl⟩ <;> rw [f1] <;> rcases hop with rfl | rfl <;> exact ⟨by simp [Act.eval, eqGuard], rfl, rfl⟩
      · rcases hr with ⟨f1, rfl⟩ | ⟨p, f1, rfl⟩ <;> rw [f1] <;> exact run_equal hd _ rfl
    · simp at hq
  · rename_i hkk
    rw [hkk] at hk
    obtain ⟨ms, rfl⟩ := kok_iface hk
    split at hq
    · rename_i hn
      have hz := isNilI_eq hn
      subst hz
      obtain ⟨v1, e1, hv⟩ := bind2 hq
      obtain ⟨b, e2, hv⟩ := bind2 hv
      have hr := rel_ifaceNil (vk_rel h e1) e2
      refine eqOp_run ho h hv (fun op' hop => ?_) ?_
      · rcases hr with ⟨f1, rfl⟩ | ⟨p, y, f1, rfl⟩ <;> rw [f1] <;> rcases hop with rfl | rfl <;> exact ⟨by simp [Act.eval, eqGuard], rfl, rfl⟩
      · rcases hr with ⟨f1, rfl⟩ | ⟨p, y, f1, rfl⟩ <;> rw [f1] <;> exact run_equal hd _ rfl
    · simp at hq
  · simp at hq
end
end Go.Ab
