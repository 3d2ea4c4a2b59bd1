/- Operations that only compute: the abstract one is met by the real one. -/
import Derived.Test.YtcpdcpgblcapeaaDoorAbState
set_option linter.unusedSimpArgs false
set_option linter.unusedVariables false
set_option linter.deprecated false
namespace Go.Ab

structure CtxOk (P : Program) (C : Ctx) : Prop where
  mixed : P.follows .mixedOrders = true
  T : ∀ t i, C.T t = some i → TOk P t i
  fdef : ∀ f d, C.fdef f = some d → P.funcs[f]? = some d.fn ∧ d.fn.body = some d.code ∧ (∀ (args : Array Value) (w : World), (callFunc f args).run P w = .ok (.enter f args) w)

section
variable {G : Gh} {w : World}
theorem rel_bool {b : Bool} {c : Value} (h : Rel G w (.bool b) c) : c = .bool b := by cases h; rfl
theorem rel_int {k : IntKind} {n : Int} {c : Value} (h : Rel G w (.int k n) c) : c = .int k n := by cases h; rfl
theorem rel_str {s : ByteArray} {c : Value} (h : Rel G w (.str s) c) : c = .string s := by cases h; rfl
theorem asInt_some {v : V} {k : IntKind} {n : Int} (h : v.asInt k = some n) : v = .int k n := by
  cases v <;> simp [V.asInt] at h; obtain ⟨rfl, rfl⟩ := h; rfl
theorem asBool_some {v : V} {b : Bool} (h : v.asBool = some b) : v = .bool b := by cases v <;> simp [V.asBool] at h; rw [h]
theorem asStr_some {v : V} {s : ByteArray} (h : v.asStr = some s) : v = .str s := by cases v <;> simp [V.asStr] at h; rw [h]
theorem grd_some {b : Bool} {u : Unit} (h : grd b = some u) : b = true := by cases b <;> simp [grd] at h ⊢

theorem rel_fits {v : V} {c : Value} {n : Nat} {ag : Bool} (h : Rel G w v c) (hf : v.fits ag n = true) :
    (ag = true ∧ ∃ cs, ∃ xs : List Value, v = .agg cs ∧ c = .agg xs.toArray ∧ cs.length = n ∧ xs.length = n) ∨ (ag = false ∧ n = 1 ∧ c.oneCell' = true) := by
  cases h <;> simp [V.fits] at hf <;> first | (right; simp_all [Value.oneCell']; done) | (left; obtain ⟨h1, h2⟩ := hf; exact ⟨h1, _, _, rfl, rfl, h2, by omega⟩)

/-- A slice's real value: nil and empty, or a row of cells. -/
theorem rel_slice {k : Nat} {et : TypeId} {es : List (List V)} {c : Value} (h : Rel G w (.slice k et es) c) : (es = [] ∧ c = .slice none 0 0) ∨
    ∃ b off cap, ∃ cs : List (List Value), c = .slice (some ⟨b, off, none⟩) es.length cap ∧ cs.length = es.length ∧ es.length ≤ cap ∧ off + es.length * k ≤ G.lim b ∧
      (∀ (i : Nat) (e : List V), es[i]? = some e → e.length = k) ∧ (∀ (i : Nat) (x : List Value), cs[i]? = some x → x.length = k) ∧
      (∀ (i j : Nat) (x : List Value) (c : Value), cs[i]? = some x → x[j]? = some c → w.cell? ⟨b, off + i * k + j, none⟩ = some c ∧ c.oneCell' = true) ∧
      (∀ (i j : Nat) (e : List V) (x : List Value) (v : V) (c : Value), es[i]? = some e → cs[i]? = some x → e[j]? = some v → x[j]? = some c → Rel G w v c) := by
  cases h with
  | snil => exact .inl ⟨rfl, rfl⟩
  | slice _ _ _ b off cap cs h1 h2 h3 h4 h5 h6 h7 => exact .inr ⟨b, off, cap, cs, rfl, h1, h2, h3, h4, h5, h6, h7⟩

theorem asSlice_rel {v : V} {k : Nat} {et : TypeId} {es : List (List V)} {c : Value} (h : v.asSlice k et = some es) (r : Rel G w v c) : Rel G w (.slice k et es) c ∧ (v = .slice k et es ∨ (v = .nils ∧ es = [])) := by
  cases v <;> simp [V.asSlice] at h
  · subst h; cases r; exact ⟨.snil _ _, .inr ⟨rfl, rfl⟩⟩
  · obtain ⟨⟨rfl, rfl⟩, rfl⟩ := h; exact ⟨r, .inl rfl⟩
end

section
variable {P : Program} {C : Ctx} {G : Gh} {lam : Nat → Nat} {a : Act} {w : World} {st : St}

theorem eval_reg (h : Inv C.glob G lam a w st) (r : Nat) : RRel G lam w r (st.regs.getD r .dead) (a.eval (.tmp r)) := by
  simp only [Act.eval, List.getD_eq_getElem?_getD]
  cases hx : st.regs[r]? with
  | none => exact trivial
  | some x => exact h.regs r x hx

theorem eval_rel (h : Inv C.glob G lam a w st) {t : TypeId} {x : Operand} {v : V} {o : Bool} (hv : opndT C st.regs t x = .val v o) : Rel G w v (a.eval x) ∧
    (o = true → (∃ r, x = .tmp r ∧ Own G w (.reg r) v (a.eval x)) ∨ ∀ p, Own G w p v (a.eval x)) := by
  cases x with
  | tmp r =>
    have := eval_reg h r
    simp only [opndT] at hv
    rw [hv] at this
    exact ⟨this.1, fun ho => .inl ⟨r, rfl, this.2 ho⟩⟩
  | const c =>
    simp only [opndT] at hv
    by_cases hn : ofVal c = .any
    · rw [hn] at hv; simp at hv
    · have hr := ofVal_rel c hn G w
      simp only [Act.eval]
      split at hv
      · rename_i hnil
        rw [hnil] at hr
        have hc : c = .slice none 0 0 := by have := hr.1; cases this; rfl
        subst hc
        (repeat' split at hv) <;> (obtain ⟨rfl, rfl⟩ := RV.val.inj hv) <;> first | exact ⟨.snil _ _, fun _ => .inr fun _ => trivial⟩ | exact ⟨.nils, fun _ => .inr fun _ => trivial⟩
      · rename_i hany; exact absurd hany hn
      · obtain ⟨rfl, rfl⟩ := RV.val.inj hv
        exact ⟨hr.1, fun ho => by simp at ho⟩
  | global g =>
    simp only [opndT] at hv
    split at hv
    · rename_i cs hg
      obtain ⟨rfl, rfl⟩ := RV.val.inj hv
      exact ⟨h.sto.glob g cs hg, fun ho => by simp at ho⟩
    · simp at hv
  | func f =>
    simp only [opndT] at hv
    obtain ⟨rfl, rfl⟩ := RV.val.inj hv
    exact ⟨.func _ [] [] [] [] rfl rfl (by simp) (by simp), fun ho => by simp at ho⟩

theorem eval_lptr (h : Inv C.glob G lam a w st) {t : TypeId} {x : Operand} {r o : Nat} (hv : opndT C st.regs t x = .lptr r o) : a.eval x = .pointer (some ⟨lam r, o, none⟩) := by
  cases x with
  | tmp r' =>
    have := eval_reg h r'
    simp only [opndT] at hv
    rw [hv] at this
    exact this
  | const c =>
    simp only [opndT] at hv
    (repeat' split at hv) <;> simp at hv
  | global g => simp only [opndT] at hv; split at hv <;> simp at hv
  | func f => simp [opndT] at hv

theorem noOwn_rel {r d : Nat} {x : RV} {c : Value} (h : RRel G lam w r x c) : RRel G lam w d (noOwn x) c := by
  cases x with
  | dead => trivial
  | val v o => exact ⟨h.1, fun ho => by simp at ho⟩
  | lptr r' o => exact h
  | tup cs =>
    obtain ⟨xs, h1, h2, h3⟩ := h
    refine ⟨xs, h1, by simp [h2], fun i y v hy hv => ?_⟩
    simp only [List.getElem?_map, Option.map_eq_some_iff] at hy
    obtain ⟨z, hz, rfl⟩ := hy
    exact ⟨(h3 i z v hz hv).1, fun ho => by simp at ho⟩

theorem noOwn_opnd (h : Inv C.glob G lam a w st) (t : TypeId) (x : Operand) (d : Nat) : RRel G lam w d (noOwn (opndT C st.regs t x)) (a.eval x) := by
  cases hv : opndT C st.regs t x with
  | dead => trivial
  | val v o => exact ⟨(eval_rel h hv).1, fun ho => by simp at ho⟩
  | lptr r o => exact eval_lptr h hv
  | tup cs =>
    cases x with
    | tmp r =>
      have := eval_reg h r
      simp only [opndT] at hv
      rw [hv] at this
      exact noOwn_rel (x := .tup cs) this
    | const c => simp only [opndT] at hv; (repeat' split at hv) <;> simp at hv
    | global g => simp only [opndT] at hv; split at hv <;> simp at hv
    | func f => simp [opndT] at hv

theorem vk_rel (h : Inv C.glob G lam a w st) {t : TypeId} {x : Operand} {v : V} (hv : vk C st.regs t x = some v) : Rel G w v (a.eval x) := by
  unfold vk at hv
  split at hv
  · rename_i v' o hx
    obtain rfl := Option.some.inj hv
    exact (eval_rel h hx).1
  · simp at hv

theorem ck_rel (h : Inv C.glob G lam a w st) {t : TypeId} {x : Operand} {c : Cell} (hv : ck C st.regs t x = some c) : Rel G w c.1 (a.eval x) ∧
    (c.2 = true → (∃ r, x = .tmp r ∧ Own G w (.reg r) c.1 (a.eval x)) ∨ ∀ p, Own G w p c.1 (a.eval x)) := by
  unfold ck at hv
  split at hv
  · rename_i v' o hx
    obtain rfl := Option.some.inj hv
    exact eval_rel h hx
  · simp at hv

theorem vk_int (h : Inv C.glob G lam a w st) {t : TypeId} {x : Operand} {v : V} {k : IntKind} {n : Int} (hv : vk C st.regs t x = some v) (hn : v.asInt k = some n) : a.eval x = .int k n := by
  have := vk_rel h hv
  rw [asInt_some hn] at this
  exact rel_int this
theorem vk_bool (h : Inv C.glob G lam a w st) {t : TypeId} {x : Operand} {v : V} {b : Bool} (hv : vk C st.regs t x = some v) (hn : v.asBool = some b) : a.eval x = .bool b := by
  have := vk_rel h hv
  rw [asBool_some hn] at this
  exact rel_bool this
theorem vk_str (h : Inv C.glob G lam a w st) {t : TypeId} {x : Operand} {v : V} {s : ByteArray} (hv : vk C st.regs t x = some v) (hn : v.asStr = some s) : a.eval x = .string s := by
  have := vk_rel h hv
  rw [asStr_some hn] at this
  exact rel_str this

/-- An operation comes to a value that stands to the abstract one as it should. -/
def VOk (P : Program) (C : Ctx) (H : Hints) (G : Gh) (lam : Nat → Nat) (a : Act) (w : World) (st : St) (o : Oper) (x : RV) : Prop :=
  ∃ c w' G', (execOp a.eval o).run P w = .ok (.value c) w' ∧ Ext G w G' w' ∧ Inv C.glob G' lam a w' (st.clear (clearOf H o)) ∧ ∀ d, o.dst = some d → RRel G' lam w' d x c

theorem VOk.pure {H : Hints} {o : Oper} {x : RV} (h : Inv C.glob G lam a w st) (c : Value) (hrun : (execOp a.eval o).run P w = .ok (.value c) w) (hr : ∀ d, RRel G lam w d x c) : VOk P C H G lam a w st o x :=
  ⟨c, w, G, hrun, Ext.refl _ _, h.clear _, fun d _ => hr d⟩

theorem VOk.val {H : Hints} {o : Oper} {v : V} (h : Inv C.glob G lam a w st) (c : Value) (hrun : (execOp a.eval o).run P w = .ok (.value c) w) (hr : Rel G w v c) : VOk P C H G lam a w st o (.val v false) :=
  VOk.pure h c hrun fun _ => ⟨hr, fun ho => by simp at ho⟩

theorem VOk.drawn {H : Hints} {o : Oper} {v : V} (h : Inv C.glob G lam a w st) (c : Value) (w' : World) (hh : w'.heap = w.heap) (h1 : w'.os = w.os) (h2 : w'.tape = w.tape) (h3 : w'.output = w.output)
    (hrun : (execOp a.eval o).run P w = .ok (.value c) w') (hr : Rel G w v c) : VOk P C H G lam a w st o (.val v false) :=
  ⟨c, w', G, hrun, Ext.same hh h1 h2 h3, (h.same hh h1 h2 h3).clear _, fun _ _ => ⟨hr.mono (Ext.same hh h1 h2 h3), fun ho => by simp at ho⟩⟩

theorem run_int {op : BinOp} {t : TypeId} {x y : Operand} {k : IntKind} {m n : Int} {v : V} (h : intOp op k m n = some v) :
    ∃ c, (do eqGuard op t x y (.int k m) (.int k n); binOp op t (.int k m) (.int k n) : Sem Value).run P w = .ok c w ∧ Rel G w v c := by
  cases op <;> simp only [intOp, Option.some.injEq, reduceCtorEq] at h
  case quo =>
    obtain ⟨u, h1, h2⟩ := Option.bind_eq_some_iff.1 h
    have := grd_some h1
    obtain rfl := Option.some.inj h2
    refine ⟨_, ?_, .int _ _⟩
    simp [eqGuard, binOp, Op.intDiv, show ¬ n = 0 by simpa using this]
  case rem =>
    obtain ⟨u, h1, h2⟩ := Option.bind_eq_some_iff.1 h
    have := grd_some h1
    obtain rfl := Option.some.inj h2
    refine ⟨_, ?_, .int _ _⟩
    simp [eqGuard, binOp, Op.intDiv, show ¬ n = 0 by simpa using this]
  all_goals
    subst h
    first
    | (refine ⟨_, ?_, .int _ _⟩; simp [eqGuard, binOp, Op.intArith, Op.intBits, Op.intCmp]; done)
    | (refine ⟨_, ?_, .bool _⟩; simp [eqGuard, binOp, Op.intArith, Op.intBits, Op.intCmp]; done)

theorem run_str {op : BinOp} {t : TypeId} {x y : Operand} {m n : ByteArray} {v : V} (h : strOp op m n = some v) :
    ∃ c, (do eqGuard op t x y (.string m) (.string n); binOp op t (.string m) (.string n) : Sem Value).run P w = .ok c w ∧ Rel G w v c := by
  cases op <;> simp only [strOp, Option.some.injEq, reduceCtorEq] at h
  case add =>
    obtain ⟨u, h1, h2⟩ := Option.bind_eq_some_iff.1 h
    have hg := grd_some h1
    obtain rfl := Option.some.inj h2
    have hg := strRoom_le hg
    refine ⟨.string (m ++ n), ?_, .str _⟩
    have hmax : IntKind.i64.max = 9223372036854775807 := rfl
    have : ¬ (((m.size + n.size : Nat) : Int) > IntKind.i64.max) := by rw [hmax]; omega
    simp [eqGuard, binOp, Op.stringOp, hmax]
    omega
  all_goals
    subst h
    refine ⟨_, ?_, .bool _⟩
    simp [eqGuard, binOp, Op.stringOp]

end
end Go.Ab
