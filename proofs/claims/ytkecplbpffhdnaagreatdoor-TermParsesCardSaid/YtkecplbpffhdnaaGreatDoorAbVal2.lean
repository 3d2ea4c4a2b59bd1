/- Operations that only compute: the abstract one is met by the real one. Literals: the parts laid into cells. Operations that come to a value: the abstract one is met by the real one. Operations that come to a value, continued. -/
import Derived.Test.YtkecplbpffhdnaaGreatDoorAbState
import Derived.Laws.Tables
import Derived.Laws.BytesString
import Derived.Lib.ConvBytes
import Derived.Laws.AppendOwn
set_option linter.unusedSimpArgs false
set_option linter.unusedVariables false
set_option linter.deprecated false
section
namespace Go.Ab

structure CtxOk (P : Program) (C : Ctx) : Prop where
  mixed : P.follows .mixedOrders = true
  T : ∀ t i, C.T t = some i → TOk P t i
  fdef : ∀ f d, C.fdef f = some d → P.funcs[f]? = some d.fn ∧ d.fn.body = some d.code ∧ (∀ (args : Array Value) (w : World), (callFunc f args).run P w = .ok (.enter f args) w)

section
variable {G : Gh} {w : World}
theorem rel_bool {b : Bool} {c : Value} (h : Rel G w (.bool b) c) : c = .bool b := by cases h; rfl
theorem rel_int {k : IntKind} {n : Int} {c : Value} (h : Rel G w (.int k n) c) : c = .int k n := by cases h; rfl
theorem rel_str {s : ByteArray} {c : Value} (h : Rel G w (.str s) c) : c = .string s := by cases h; rfl
theorem asInt_some {v : V} {k : IntKind} {n : Int} (h : v.asInt k = some n) : v = .int k n := by
  cases v <;> simp [V.asInt] at h; obtain ⟨rfl, rfl⟩ := h; rfl
theorem asBool_some {v : V} {b : Bool} (h : v.asBool = some b) : v = .bool b := by cases v <;> simp [V.asBool] at h; rw [h]
theorem asStr_some {v : V} {s : ByteArray} (h : v.asStr = some s) : v = .str s := by cases v <;> simp [V.asStr] at h; rw [h]
theorem grd_some {b : Bool} {u : Unit} (h : grd b = some u) : b = true := by cases b <;> simp [grd] at h ⊢

theorem rel_fits {v : V} {c : Value} {n : Nat} {ag : Bool} (h : Rel G w v c) (hf : v.fits ag n = true) :
    (ag = true ∧ ∃ cs, ∃ xs : List Value, v = .agg cs ∧ c = .agg xs.toArray ∧ cs.length = n ∧ xs.length = n) ∨ (ag = false ∧ n = 1 ∧ c.oneCell' = true) := by
  cases h <;> simp [V.fits] at hf <;> first | (right; simp_all [Value.oneCell']; done) | (left; obtain ⟨h1, h2⟩ := hf; exact ⟨h1, _, _, rfl, rfl, h2, by omega⟩)

/-- A slice's real value: nil and empty, or a row of cells. -/
theorem rel_slice {k : Nat} {et : TypeId} {es : List (List V)} {c : Value} (h : Rel G w (.slice k et es) c) : (es = [] ∧ c = .slice none 0 0) ∨
    ∃ b off cap, ∃ cs : List (List Value), c = .slice (some ⟨b, off, none⟩) es.length cap ∧ cs.length = es.length ∧ es.length ≤ cap ∧ off + es.length * k ≤ G.lim b ∧
      (∀ (i : Nat) (e : List V), es[i]? = some e → e.length = k) ∧ (∀ (i : Nat) (x : List Value), cs[i]? = some x → x.length = k) ∧
      (∀ (i j : Nat) (x : List Value) (c : Value), cs[i]? = some x → x[j]? = some c → w.cell? ⟨b, off + i * k + j, none⟩ = some c ∧ c.oneCell' = true) ∧
      (∀ (i j : Nat) (e : List V) (x : List Value) (v : V) (c : Value), es[i]? = some e → cs[i]? = some x → e[j]? = some v → x[j]? = some c → Rel G w v c) := by
  cases h with
  | snil => exact .inl ⟨rfl, rfl⟩
  | slice _ _ _ b off cap cs h1 h2 h3 h4 h5 h6 h7 => exact .inr ⟨b, off, cap, cs, rfl, h1, h2, h3, h4, h5, h6, h7⟩

theorem asSlice_rel {v : V} {k : Nat} {et : TypeId} {es : List (List V)} {c : Value} (h : v.asSlice k et = some es) (r : Rel G w v c) : Rel G w (.slice k et es) c ∧ (v = .slice k et es ∨ (v = .nils ∧ es = [])) := by
  cases v <;> simp [V.asSlice] at h
  · subst h; cases r; exact ⟨.snil _ _, .inr ⟨rfl, rfl⟩⟩
  · obtain ⟨⟨rfl, rfl⟩, rfl⟩ := h; exact ⟨r, .inl rfl⟩
end

section
variable {P : Program} {C : Ctx} {G : Gh} {lam : Nat → Nat} {a : Act} {w : World} {st : St}

theorem eval_reg (h : Inv C.glob G lam a w st) (r : Nat) : RRel G lam w r (st.regs.getD r .dead) (a.eval (.tmp r)) := by
  simp only [Act.eval, List.getD_eq_getElem?_getD]
  cases hx : st.regs[r]? with
  | none => exact trivial
  | some x => exact h.regs r x hx

theorem eval_rel (h : Inv C.glob G lam a w st) {t : TypeId} {x : Operand} {v : V} {o : Bool} (hv : opndT C st.regs t x = .val v o) : Rel G w v (a.eval x) ∧
    (o = true → (∃ r, x = .tmp r ∧ Own G w (.reg r) v (a.eval x)) ∨ ∀ p, Own G w p v (a.eval x)) := by
  cases x with
  | tmp r =>
    have := eval_reg h r
    simp only [opndT] at hv
    rw [hv] at this
    exact ⟨this.1, fun ho => .inl ⟨r, rfl, this.2 ho⟩⟩
  | const c =>
    simp only [opndT] at hv
    by_cases hn : ofVal c = .any
    · rw [hn] at hv; simp at hv
    · have hr := ofVal_rel c hn G w
      simp only [Act.eval]
      split at hv
      · rename_i hnil
        rw [hnil] at hr
        have hc : c = .slice none 0 0 := by have := hr.1; cases this; rfl
        subst hc
        (repeat' split at hv) <;> (obtain ⟨rfl, rfl⟩ := RV.val.inj hv) <;> first | exact ⟨.snil _ _, fun _ => .inr fun _ => trivial⟩ | exact ⟨.nils, fun _ => .inr fun _ => trivial⟩
      · rename_i hany; exact absurd hany hn
      · obtain ⟨rfl, rfl⟩ := RV.val.inj hv
        exact ⟨hr.1, fun ho => by simp at ho⟩
  | global g =>
    simp only [opndT] at hv
    split at hv
    · rename_i cs hg
      obtain ⟨rfl, rfl⟩ := RV.val.inj hv
      exact ⟨h.sto.glob g cs hg, fun ho => by simp at ho⟩
    · simp at hv
  | func f =>
    simp only [opndT] at hv
    obtain ⟨rfl, rfl⟩ := RV.val.inj hv
    exact ⟨.func _ [] [] [] [] rfl rfl (by simp) (by simp), fun ho => by simp at ho⟩

theorem eval_lptr (h : Inv C.glob G lam a w st) {t : TypeId} {x : Operand} {r o : Nat} (hv : opndT C st.regs t x = .lptr r o) : a.eval x = .pointer (some ⟨lam r, o, none⟩) := by
  cases x with
  | tmp r' =>
    have := eval_reg h r'
    simp only [opndT] at hv
    rw [hv] at this
    exact this
  | const c =>
    simp only [opndT] at hv
    (repeat' split at hv) <;> simp at hv
  | global g => simp only [opndT] at hv; split at hv <;> simp at hv
  | func f => simp [opndT] at hv

theorem noOwn_rel {r d : Nat} {x : RV} {c : Value} (h : RRel G lam w r x c) : RRel G lam w d (noOwn x) c := by
  cases x with
  | dead => trivial
  | val v o => exact ⟨h.1, fun ho => by simp at ho⟩
  | lptr r' o => exact h
  | tup cs =>
    obtain ⟨xs, h1, h2, h3⟩ := h
    refine ⟨xs, h1, by simp [h2], fun i y v hy hv => ?_⟩
    simp only [List.getElem?_map, Option.map_eq_some_iff] at hy
    obtain ⟨z, hz, rfl⟩ := hy
    exact ⟨(h3 i z v hz hv).1, fun ho => by simp at ho⟩

theorem noOwn_opnd (h : Inv C.glob G lam a w st) (t : TypeId) (x : Operand) (d : Nat) : RRel G lam w d (noOwn (opndT C st.regs t x)) (a.eval x) := by
  cases hv : opndT C st.regs t x with
  | dead => trivial
  | val v o => exact ⟨(eval_rel h hv).1, fun ho => by simp at ho⟩
  | lptr r o => exact eval_lptr h hv
  | tup cs =>
    cases x with
    | tmp r =>
      have := eval_reg h r
      simp only [opndT] at hv
      rw [hv] at this
      exact noOwn_rel (x := .tup cs) this
    | const c => simp only [opndT] at hv; (repeat' split at hv) <;> simp at hv
    | global g => simp only [opndT] at hv; split at hv <;> simp at hv
    | func f => simp [opndT] at hv

theorem vk_rel (h : Inv C.glob G lam a w st) {t : TypeId} {x : Operand} {v : V} (hv : vk C st.regs t x = some v) : Rel G w v (a.eval x) := by
  unfold vk at hv
  split at hv
  · rename_i v' o hx
    obtain rfl := Option.some.inj hv
    exact (eval_rel h hx).1
  · simp at hv

theorem ck_rel (h : Inv C.glob G lam a w st) {t : TypeId} {x : Operand} {c : Cell} (hv : ck C st.regs t x = some c) : Rel G w c.1 (a.eval x) ∧
    (c.2 = true → (∃ r, x = .tmp r ∧ Own G w (.reg r) c.1 (a.eval x)) ∨ ∀ p, Own G w p c.1 (a.eval x)) := by
  unfold ck at hv
  split at hv
  · rename_i v' o hx
    obtain rfl := Option.some.inj hv
    exact eval_rel h hx
  · simp at hv

theorem vk_int (h : Inv C.glob G lam a w st) {t : TypeId} {x : Operand} {v : V} {k : IntKind} {n : Int} (hv : vk C st.regs t x = some v) (hn : v.asInt k = some n) : a.eval x = .int k n := by
  have := vk_rel h hv
  rw [asInt_some hn] at this
  exact rel_int this
theorem vk_bool (h : Inv C.glob G lam a w st) {t : TypeId} {x : Operand} {v : V} {b : Bool} (hv : vk C st.regs t x = some v) (hn : v.asBool = some b) : a.eval x = .bool b := by
  have := vk_rel h hv
  rw [asBool_some hn] at this
  exact rel_bool this
theorem vk_str (h : Inv C.glob G lam a w st) {t : TypeId} {x : Operand} {v : V} {s : ByteArray} (hv : vk C st.regs t x = some v) (hn : v.asStr = some s) : a.eval x = .string s := by
  have := vk_rel h hv
  rw [asStr_some hn] at this
  exact rel_str this

/-- An operation comes to a value that stands to the abstract one as it should. -/
def VOk (P : Program) (C : Ctx) (H : Hints) (G : Gh) (lam : Nat → Nat) (a : Act) (w : World) (st : St) (o : Oper) (x : RV) : Prop :=
  ∃ c w' G', (execOp a.eval o).run P w = .ok (.value c) w' ∧ Ext G w G' w' ∧ Inv C.glob G' lam a w' (st.clear (clearOf H o)) ∧ ∀ d, o.dst = some d → RRel G' lam w' d x c

theorem VOk.pure {H : Hints} {o : Oper} {x : RV} (h : Inv C.glob G lam a w st) (c : Value) (hrun : (execOp a.eval o).run P w = .ok (.value c) w) (hr : ∀ d, RRel G lam w d x c) : VOk P C H G lam a w st o x :=
  ⟨c, w, G, hrun, Ext.refl _ _, h.clear _, fun d _ => hr d⟩

theorem VOk.val {H : Hints} {o : Oper} {v : V} (h : Inv C.glob G lam a w st) (c : Value) (hrun : (execOp a.eval o).run P w = .ok (.value c) w) (hr : Rel G w v c) : VOk P C H G lam a w st o (.val v false) :=
  VOk.pure h c hrun fun _ => ⟨hr, fun ho => by simp at ho⟩

theorem VOk.drawn {H : Hints} {o : Oper} {v : V} (h : Inv C.glob G lam a w st) (c : Value) (w' : World) (hh : w'.heap = w.heap) (h1 : w'.os = w.os) (h2 : w'.tape = w.tape) (h3 : w'.output = w.output)
    (hrun : (execOp a.eval o).run P w = .ok (.value c) w') (hr : Rel G w v c) : VOk P C H G lam a w st o (.val v false) :=
  ⟨c, w', G, hrun, Ext.same hh h1 h2 h3, (h.same hh h1 h2 h3).clear _, fun _ _ => ⟨hr.mono (Ext.same hh h1 h2 h3), fun ho => by simp at ho⟩⟩

theorem run_int {op : BinOp} {t : TypeId} {x y : Operand} {k : IntKind} {m n : Int} {v : V} (h : intOp op k m n = some v) :
    ∃ c, (do eqGuard op t x y (.int k m) (.int k n); binOp op t (.int k m) (.int k n) : Sem Value).run P w = .ok c w ∧ Rel G w v c := by
  cases op <;> simp only [intOp, Option.some.injEq, reduceCtorEq] at h
  case quo =>
    obtain ⟨u, h1, h2⟩ := Option.bind_eq_some_iff.1 h
    have := grd_some h1
    obtain rfl := Option.some.inj h2
    refine ⟨_, ?_, .int _ _⟩
    simp [eqGuard, binOp, Op.intDiv, show ¬ n = 0 by simpa using this]
  case rem =>
    obtain ⟨u, h1, h2⟩ := Option.bind_eq_some_iff.1 h
    have := grd_some h1
    obtain rfl := Option.some.inj h2
    refine ⟨_, ?_, .int _ _⟩
    simp [eqGuard, binOp, Op.intDiv, show ¬ n = 0 by simpa using this]
  all_goals
    subst h
    first
    | (refine ⟨_, ?_, .int _ _⟩; simp [eqGuard, binOp, Op.intArith, Op.intBits, Op.intCmp]; done)
    | (refine ⟨_, ?_, .bool _⟩; simp [eqGuard, binOp, Op.intArith, Op.intBits, Op.intCmp]; done)

theorem run_str {op : BinOp} {t : TypeId} {x y : Operand} {m n : ByteArray} {v : V} (h : strOp op m n = some v) :
    ∃ c, (do eqGuard op t x y (.string m) (.string n); binOp op t (.string m) (.string n) : Sem Value).run P w = .ok c w ∧ Rel G w v c := by
  cases op <;> simp only [strOp, Option.some.injEq, reduceCtorEq] at h
  case add =>
    obtain ⟨u, h1, h2⟩ := Option.bind_eq_some_iff.1 h
    have hg := grd_some h1
    obtain rfl := Option.some.inj h2
    have hg := strRoom_le hg
    refine ⟨.string (m ++ n), ?_, .str _⟩
    have hmax : IntKind.i64.max = 9223372036854775807 := rfl
    have : ¬ (((m.size + n.size : Nat) : Int) > IntKind.i64.max) := by rw [hmax]; omega
    simp [eqGuard, binOp, Op.stringOp, hmax]
    omega
  all_goals
    subst h
    refine ⟨_, ?_, .bool _⟩
    simp [eqGuard, binOp, Op.stringOp]

end
end Go.Ab
end
section
namespace Go.Ab

def CellsRel (G : Gh) (w : World) (cs : List V) (xs : List Value) : Prop := xs.length = cs.length ∧ ∀ (i : Nat) v x, cs[i]? = some v → xs[i]? = some x → Rel G w v x ∧ x.oneCell' = true

section
variable {P : Program} {C : Ctx} {G : Gh} {lam : Nat → Nat} {a : Act} {w : World} {st : St}

theorem foldl_set (off : Nat) (vs : List Value) : ∀ (k : Nat) (cells : Array Value), (vs.zipIdx k).foldl (fun cs (x : Value × Nat) => cs.setIfInBounds (off + x.2) x.1) cells = setA cells (off + k) vs := by
  induction vs with
  | nil => intro k cells; rfl
  | cons v vs ih => intro k cells; simp only [List.zipIdx_cons, List.foldl_cons, setA]; rw [ih]; rfl

theorem foldl_setA (off : Nat) (vs cells : Array Value) : vs.zipIdx.foldl (fun cs (x : Value × Nat) => cs.setIfInBounds (off + x.2) x.1) cells = setA cells off vs.toList := by
  rw [← Array.foldl_toList, Array.toList_zipIdx, foldl_set]; rfl

/-- The cells of a value that fits. -/
theorem cellsN_rel {v : V} {c : Value} {ag : Bool} {n : Nat} (h : Rel G w v c) (hf : v.fits ag n = true) : CellsRel G w (cellsN v ag n) c.cells.toList ∧ c.cells.size = n ∧ (cellsN v ag n).length = n := by
  rcases rel_fits h hf with ⟨rfl, cs, xs, rfl, rfl, h1, h2⟩ | ⟨rfl, rfl, h1⟩
  · cases h with
    | agg _ _ g1 g2 g3 =>
      simp only [cellsN, if_true, Value.cells]
      refine ⟨⟨by simp [h2], fun i v x hv hx => ?_⟩, by simp [h2], by simp⟩
      obtain ⟨hi, hv⟩ := List.getElem?_eq_some_iff.1 hv
      simp only [List.length_map, List.length_range] at hi
      simp only [List.getElem_map, List.getElem_range, V.cell, List.getD_eq_getElem?_getD] at hv
      have hlt : i < cs.length := by omega
      rw [List.getElem?_eq_getElem hlt] at hv
      simp only [Option.getD_some] at hv
      exact ⟨g3 i v x (by rw [List.getElem?_eq_getElem hlt, hv]) hx, g2 i x hx⟩
  · have hc : c.cells = #[c] := by cases c <;> simp_all [Value.cells, Value.oneCell']
    rw [hc]
    refine ⟨⟨rfl, fun i v' x hv hx => ?_⟩, rfl, rfl⟩
    match i with
    | 0 =>
      simp [cellsN] at hv hx
      subst hv; subst hx
      exact ⟨h, h1⟩
    | i + 1 => simp [cellsN] at hv

theorem CellsRel.splice {cs : List V} {xs : Array Value} {vs : List V} {ys : List Value} {off : Nat} (h : CellsRel G w cs xs.toList) (k : CellsRel G w vs ys) (hl : off + vs.length ≤ cs.length) :
    CellsRel G w (cs.take off ++ vs ++ cs.drop (off + vs.length)) (setA xs off ys).toList := by
  obtain ⟨h1, h2⟩ := h
  obtain ⟨k1, k2⟩ := k
  simp only [Array.length_toList] at h1
  refine ⟨by simp; omega, fun i v x hv hx => ?_⟩
  simp only [Array.getElem?_toList] at hx
  rw [setA_get _ _ _ _ (by omega)] at hx
  by_cases c1 : i < off
  · rw [if_neg (by omega)] at hx
    rw [List.append_assoc, List.getElem?_append_left (by simp; omega), List.getElem?_take_of_lt c1] at hv
    exact h2 i v x hv (by simpa using hx)
  · by_cases c2 : i < off + vs.length
    · rw [if_pos (by omega)] at hx
      rw [List.getElem?_append_left (by simp; omega), List.getElem?_append_right (by simp; omega)] at hv
      simp only [List.length_take, Nat.min_eq_left (show off ≤ cs.length by omega)] at hv
      exact k2 _ v x hv hx
    · rw [if_neg (by omega)] at hx
      rw [List.getElem?_append_right (by simp; omega), List.getElem?_drop] at hv
      simp only [List.length_append, List.length_take, Nat.min_eq_left (show off ≤ cs.length by omega)] at hv
      rw [show off + vs.length + (i - (off + vs.length)) = i by omega] at hv
      exact h2 i v x hv (by simpa using hx)

/-- Empty slices in it have no spare room. -/
def TightC (cs : List V) (xs : List Value) : Prop := ∀ (i k : Nat) (e : TypeId) (x : Value), cs[i]? = some (.slice k e []) → xs[i]? = some x → Tight x

theorem TightC.splice {cs : List V} {xs : Array Value} {vs : List V} {ys : List Value} {off : Nat} (h : TightC cs xs.toList) (hv : ∀ (i k : Nat) (e : TypeId), vs[i]? ≠ some (.slice k e [])) (hx : xs.size = cs.length) (hy : ys.length = vs.length) (hl : off + vs.length ≤ cs.length) :
    TightC (cs.take off ++ vs ++ cs.drop (off + vs.length)) (setA xs off ys).toList := by
  intro i k et x hc hx'
  simp only [Array.getElem?_toList] at hx'
  rw [setA_get _ _ _ _ (by omega)] at hx'
  by_cases c1 : i < off
  · rw [if_neg (by omega)] at hx'
    rw [List.append_assoc, List.getElem?_append_left (by simp; omega), List.getElem?_take_of_lt c1] at hc
    exact h i k et x hc (by simpa using hx')
  · by_cases c2 : i < off + vs.length
    · rw [List.getElem?_append_left (by simp; omega), List.getElem?_append_right (by simp; omega)] at hc
      exact absurd hc (hv _ k et)
    · rw [if_neg (by omega)] at hx'
      rw [List.getElem?_append_right (by simp; omega), List.getElem?_drop] at hc
      simp only [List.length_append, List.length_take, Nat.min_eq_left (show off ≤ cs.length by omega)] at hc
      rw [show off + vs.length + (i - (off + vs.length)) = i by omega] at hc
      exact h i k et x hc (by simpa using hx')

theorem plain_vk {regs : List RV} {t : TypeId} {x : Operand} {v : V} (h : (match opndT C regs 0 x with | .val v _ => v.plain | _ => false) = true) (hv : vk C regs t x = some v) : v.plain = true := by
  have hsame : opndT C regs t x = opndT C regs 0 x ∨ ∃ v' o, opndT C regs 0 x = .val v' o ∧ v'.plain = false := by
    cases x with
    | const c =>
      simp only [opndT]
      split
      · refine .inr ?_
        split
        · split <;> exact ⟨_, _, rfl, rfl⟩
        · exact ⟨_, _, rfl, rfl⟩
      · exact .inl rfl
      · exact .inl rfl
    | _ => exact .inl rfl
  rcases hsame with hs | ⟨v', o, hs, hp⟩
  · rw [← hs] at h
    unfold vk at hv
    split at hv
    · rename_i v' o hx
      obtain rfl := Option.some.inj hv
      rw [hx] at h
      exact h
    · simp at hv
  · rw [hs] at h; simp only at h; rw [hp] at h; simp at h

theorem plain_cells {v : V} {ag : Bool} {n : Nat} (hp : v.plain = true) (hf : v.fits ag n = true) (i k : Nat) (e : TypeId) : (cellsN v ag n)[i]? ≠ some (.slice k e []) := by
  cases ag with
  | true => cases v <;> simp_all [V.plain, V.fits]
  | false =>
    simp only [cellsN, Bool.false_eq_true, if_false]
    match i with
    | 0 => intro h; simp at h; subst h; simp [V.plain] at hp
    | i + 1 => simp

theorem fill_ok (h : Inv C.glob G lam a w st) (place : Nat → Option (Nat × Nat × TypeId)) (place' : Nat → Option (Nat × Nat)) (hp : ∀ i p, place i = some p → place' i = some (p.1, p.2.1)) :
    ∀ (parts : List (Nat × Operand)) (cs cs' : List V) (xs : Array Value), fillK C st.regs place cs parts = some cs' → CellsRel G w cs xs.toList →
      ∃ xs' : Array Value, Instr.fill place' xs (parts.map fun x => (x.1, a.eval x.2)) = some xs' ∧ CellsRel G w cs' xs'.toList ∧ cs'.length = cs.length ∧ (plainParts C st.regs parts = true → TightC cs xs.toList → TightC cs' xs'.toList)
  | [], cs, cs', xs, hf, hc => by
    simp only [fillK, Option.some.injEq] at hf
    subst hf
    exact ⟨xs, rfl, hc, rfl, fun _ h => h⟩
  | (i, x) :: rest, cs, cs', xs, hf, hc => by
    simp only [fillK, Option.bind_eq_some_iff] at hf
    obtain ⟨p, hp1, ti, ht, v, hv, u, hg, hf⟩ := hf
    have hg := grd_some hg
    simp only [Bool.and_eq_true, decide_eq_true_eq] at hg
    have hr := vk_rel h hv
    obtain ⟨k1, k2, k3⟩ := cellsN_rel hr hg.1
    have hlen := hc.1
    simp only [Array.length_toList] at hlen
    have hsp : CellsRel G w (cs.take p.1 ++ cellsN v ti.agg p.2.1 ++ cs.drop (p.1 + p.2.1)) (setA xs p.1 (a.eval x).cells.toList).toList := by
      have := CellsRel.splice (off := p.1) hc k1 (by rw [k3]; exact hg.2)
      rw [k3] at this
      exact this
    obtain ⟨xs', e1, e2, e3, e4⟩ := fill_ok h place place' hp rest _ cs' _ hf hsp
    refine ⟨xs', ?_, e2, ?_, fun hpl ht => ?_⟩
    · simp only [List.map_cons, Instr.fill, hp i p hp1]
      rw [if_neg (by simp [k2]; omega)]
      have := foldl_setA p.1 (a.eval x).cells xs
      rw [this]
      exact e1
    · rw [e3]
      simp [k3]
      omega
    · simp only [plainParts, List.all_cons, Bool.and_eq_true] at hpl
      refine e4 hpl.2 ?_
      have := TightC.splice (off := p.1) (vs := cellsN v ti.agg p.2.1) (ys := (a.eval x).cells.toList) ht (plain_cells (plain_vk hpl.1 hv) hg.1) hlen (by simp [k2, k3]) (by rw [k3]; exact hg.2)
      rw [k3] at this
      exact this

theorem tight_zmatch {k : Nat} {e : TypeId} {x : Value} (h : zmatch (.slice k e []) x = true) : Tight x := by
  generalize hv : (V.slice k e []) = v at h
  unfold zmatch at h
  split at h <;> first | exact rfl | (cases hv; done) | trivial | (simp at h)

theorem zero_rel {t : TypeId} {i : TI} (h : TOk P t i) (hk : ∀ n, i.kind ≠ .tuple n) (G : Gh) (w : World) : ∃ info z, P.info? t = some info ∧ info.zero = some z ∧ CellsRel G w i.zero z.cells.toList ∧ i.zero.length = i.size ∧ TightC i.zero z.cells.toList := by
  rcases h.zero with ⟨n, hn⟩ | ⟨info, z, h1, h2, h3, h4, h5⟩
  · exact absurd hn (hk n)
  · refine ⟨info, z, h1, h2, ⟨h3, fun j v x hv hx => ?_⟩, h4, fun j k et x hv hx => tight_zmatch (h5 j _ x hv hx)⟩
    obtain ⟨a1, _, a3⟩ := zmatch_rel (h5 j v x hv hx) G w
    exact ⟨a1, a3⟩

theorem parts_map (parts : Array (Nat × Operand)) (f : Operand → Value) : (parts.map fun (i, x) => (i, f x)).toList = parts.toList.map fun x => (x.1, f x.2) := by
  simp

end
end Go.Ab
end
section
namespace Go.Ab
section
variable {P : Program} {C : Ctx} {H : Hints} {G : Gh} {lam : Nat → Nat} {a : Act} {w : World} {st : St}

/-- A value laid into another register, its token with it. -/
theorem assign_ok {o : Oper} {t : TypeId} {x : Operand} (h : Inv C.glob G lam a w st) (hrun : (execOp a.eval o).run P w = .ok (.value (a.eval x)) w) (hc : clearOf H o = tmpOf x) :
    VOk P C H G lam a w st o (valOwn (opndT C st.regs t x)) := by
  cases hv : opndT C st.regs t x with
  | dead => exact VOk.pure h _ hrun fun _ => trivial
  | lptr r of => exact VOk.pure h _ hrun fun _ => eval_lptr h hv
  | tup cs =>
    refine VOk.pure h _ hrun fun d => ?_
    have := noOwn_opnd h t x d
    rw [hv] at this
    exact this
  | val v ow =>
    obtain ⟨h1, h2⟩ := eval_rel h hv
    cases ow with
    | false => exact VOk.pure h _ hrun fun _ => ⟨h1, fun ho => by simp at ho⟩
    | true =>
      rcases h2 rfl with ⟨r, rfl, h3⟩ | h3
      · obtain ⟨G', e1, e2, e3, e4⟩ := (h.clear (clearOf H o)).token (q := .reg (o.dst.getD 0)) h3 (clear_not_flagged _ _ (by rw [hc]; simp [tmpOf])) (by simp) (by simp)
        exact ⟨_, w, G', hrun, e1, e2, fun d hd => ⟨h1.mono e1, fun _ => by rw [hd] at e3; exact e3⟩⟩
      · exact VOk.pure h _ hrun fun _ => ⟨h1, fun _ => h3 _⟩

theorem bind2 {α β : Type} {x : Option α} {f : α → Option β} {y : β} (h : x.bind f = some y) : ∃ a, x = some a ∧ f a = some y := Option.bind_eq_some_iff.1 h

theorem val_move (h : Inv C.glob G lam a w st) {o : Oper} {x : Operand} {y : RV} (ho : o.op = .move x) (ha : act C H o st.regs = some (.val y)) : VOk P C H G lam a w st o y := by
  simp only [act, ho] at ha
  have hrun : (execOp a.eval o).run P w = .ok (.value (a.eval x)) w := by simp [execOp, ho]
  split at ha
  · rename_i hs
    obtain rfl := Eff.val.inj (Option.some.inj ha)
    exact assign_ok h hrun (by simp [clearOf, ho, hs])
  · obtain rfl := Eff.val.inj (Option.some.inj ha)
    exact VOk.pure h _ hrun fun d => noOwn_opnd h _ x d

theorem val_assign (h : Inv C.glob G lam a w st) {o : Oper} {x : Operand} {y : RV} (ho : o.op = .assign x) (ha : act C H o st.regs = some (.val y)) : VOk P C H G lam a w st o y := by
  simp only [act, ho] at ha
  obtain rfl := Eff.val.inj (Option.some.inj ha)
  exact assign_ok h (by simp [execOp, ho]) (by simp [clearOf, ho])

theorem val_pick (h : Inv C.glob G lam a w st) {o : Oper} {c x z : Operand} {y : RV} (ho : o.op = .pick c x z) (ha : act C H o st.regs = some (.val y)) : VOk P C H G lam a w st o y := by
  simp only [act, ho] at ha
  obtain ⟨v, hv, ha⟩ := bind2 ha
  obtain ⟨b, hb, ha⟩ := bind2 ha
  obtain rfl := Eff.val.inj (Option.some.inj ha)
  have hc := vk_bool h hv hb
  refine VOk.pure h (if b then a.eval x else a.eval z) (by simp [execOp, ho, hc, asBool]) fun d => ?_
  cases b
  · exact noOwn_opnd h _ z d
  · exact noOwn_opnd h _ x d

theorem run_binOp {o : Oper} {op : BinOp} {t u : TypeId} {x y : Operand} {c : Value} {w' : World} (ho : o.op = .binOp op t x y u)
    (h : (do eqGuard op t x y (a.eval x) (a.eval y); binOp op t (a.eval x) (a.eval y) : Sem Value).run P w = .ok c w') : (execOp a.eval o).run P w = .ok (.value c) w' := by
  simp only [execOp, ho]
  rw [Sem.run_bind, h]
  rfl

theorem rel_ptrNil {v : V} {c : Value} {b : Bool} (h : Rel G w v c) (hb : v.ptrNil = some b) : (c = .pointer none ∧ b = true) ∨ ∃ p, c = .pointer (some p) ∧ b = false := by
  cases h <;> simp [V.ptrNil] at hb <;> subst hb <;> simp
theorem rel_ifaceNil {v : V} {c : Value} {b : Bool} (h : Rel G w v c) (hb : v.ifaceNil = some b) : (c = .nilIface ∧ b = true) ∨ ∃ t x, c = .iface t x ∧ b = false := by
  cases h <;> simp [V.ifaceNil] at hb <;> subst hb <;> simp

theorem run_equal {t : TypeId} {x y : Value} {d : TypeDesc} (hd : P.underlying t = some d) (b : Bool) (h : (match d, x, y with
    | .bool, .bool a, .bool b' => some (a == b')
    | .pointer _, .pointer none, .pointer none => some true
    | .pointer _, .pointer (some _), .pointer none => some false
    | .interface _, .nilIface, .nilIface => some true
    | .interface _, .iface _ _, .nilIface => some false
    | _, _, _ => none) = some b) : (Op.equal t x y).run P w = .ok b w := by
  have e : Op.equal t x y = Op.equalIn (9999 + 1) t x y := rfl
  rw [e, Op.equalIn, Sem.run_bind, run_underlying_of hd, Result.andThen_ok]
  split at h <;> simp at h <;> subst h <;> simp

theorem isNilP_eq {x : Operand} (h : isNilP x = true) : x = .const (.pointer none) := by
  unfold isNilP at h; split at h <;> simp_all
theorem isNilI_eq {x : Operand} (h : isNilI x = true) : x = .const .nilIface := by
  unfold isNilI at h; split at h <;> simp_all

theorem eqOp_run {o : Oper} {op : BinOp} {t u : TypeId} {x z : Operand} {v : V} {b : Bool} (ho : o.op = .binOp op t x z u) (h : Inv C.glob G lam a w st) (hv : eqOp op b = some v)
    (hg : ∀ op', op' = BinOp.eql ∨ op' = BinOp.neq → (eqGuard op' t x z (a.eval x) (a.eval z)).run P w = .ok () w ∧ (Go.binOp .eql t (a.eval x) (a.eval z)) = (do pure (.bool (← Op.equal t (a.eval x) (a.eval z)))) ∧
      (Go.binOp .neq t (a.eval x) (a.eval z)) = (do pure (.bool (!(← Op.equal t (a.eval x) (a.eval z)))))) (he : (Op.equal t (a.eval x) (a.eval z)).run P w = .ok b w) : VOk P C H G lam a w st o (.val v false) := by
  cases op <;> simp only [eqOp, Option.some.injEq, reduceCtorEq] at hv
  · subst hv
    obtain ⟨h1, h2, _⟩ := hg .eql (.inl rfl)
    refine VOk.val h _ (run_binOp ho (c := .bool b) ?_) (.bool _)
    rw [Sem.run_bind, h1, Result.andThen_ok, h2]
    simp [he]
  · subst hv
    obtain ⟨h1, _, h2⟩ := hg .neq (.inr rfl)
    refine VOk.val h _ (run_binOp ho (c := .bool !b) ?_) (.bool _)
    rw [Sem.run_bind, h1, Result.andThen_ok, h2]
    simp [he]

theorem val_binOp (hC : CtxOk P C) (h : Inv C.glob G lam a w st) {o : Oper} {op : BinOp} {t u : TypeId} {x z : Operand} {y : RV} (ho : o.op = .binOp op t x z u) (ha : act C H o st.regs = some (.val y)) : VOk P C H G lam a w st o y := by
  simp only [act, ho] at ha
  obtain ⟨v, hv, ha⟩ := bind2 ha
  obtain rfl := Eff.val.inj (Option.some.inj ha)
  unfold binK at hv
  obtain ⟨i, hi, hq⟩ := bind2 hv
  clear hv
  obtain ⟨d, hd, hk⟩ := (hC.T t i hi).desc
  split at hq
  · rename_i k hkk
    obtain ⟨v1, e1, hv⟩ := bind2 hq
    obtain ⟨v2, e2, hv⟩ := bind2 hv
    obtain ⟨m, e3, hv⟩ := bind2 hv
    obtain ⟨n, e4, hv⟩ := bind2 hv
    obtain ⟨c, hc1, hc2⟩ := run_int (P := P) (G := G) (w := w) (t := t) (x := x) (y := z) hv
    rw [← vk_int h e1 e3, ← vk_int h e2 e4] at hc1
    exact VOk.val h c (run_binOp ho hc1) hc2
  · obtain ⟨v1, e1, hv⟩ := bind2 hq
    obtain ⟨v2, e2, hv⟩ := bind2 hv
    obtain ⟨m, e3, hv⟩ := bind2 hv
    obtain ⟨n, e4, hv⟩ := bind2 hv
    obtain ⟨c, hc1, hc2⟩ := run_str (P := P) (G := G) (w := w) (t := t) (x := x) (y := z) hv
    rw [← vk_str h e1 e3, ← vk_str h e2 e4] at hc1
    exact VOk.val h c (run_binOp ho hc1) hc2
  · rename_i hkk
    rw [hkk] at hk
    obtain rfl := kok_bool hk
    obtain ⟨v1, e1, hv⟩ := bind2 hq
    obtain ⟨v2, e2, hv⟩ := bind2 hv
    obtain ⟨m, e3, hv⟩ := bind2 hv
    obtain ⟨n, e4, hv⟩ := bind2 hv
    have f1 := vk_bool h e1 e3
    have f2 := vk_bool h e2 e4
    refine eqOp_run ho h hv (fun op' hop => ?_) ?_
    · rw [f1, f2]
      rcases hop with rfl | rfl <;> exact ⟨by simp [eqGuard], rfl, rfl⟩
    · rw [f1, f2]
      exact run_equal hd _ rfl
  · rename_i e hkk
    rw [hkk] at hk
    obtain rfl := kok_pointer hk
    split at hq
    · rename_i hn
      have hz := isNilP_eq hn
      subst hz
      obtain ⟨v1, e1, hv⟩ := bind2 hq
      obtain ⟨b, e2, hv⟩ := bind2 hv
      have hr := rel_ptrNil (vk_rel h e1) e2
      refine eqOp_run ho h hv (fun op' hop => ?_) ?_
      · rcases hr with ⟨f1, rfl⟩ | ⟨p, f1, rfl⟩ <;> rw [f1] <;> rcases hop with rfl | rfl <;> exact ⟨by simp [Act.eval, eqGuard], rfl, rfl⟩
      · rcases hr with ⟨f1, rfl⟩ | ⟨p, f1, rfl⟩ <;> rw [f1] <;> exact run_equal hd _ rfl
    · simp at hq
  · rename_i hkk
    rw [hkk] at hk
    obtain ⟨ms, rfl⟩ := kok_iface hk
    split at hq
    · rename_i hn
      have hz := isNilI_eq hn
      subst hz
      obtain ⟨v1, e1, hv⟩ := bind2 hq
      obtain ⟨b, e2, hv⟩ := bind2 hv
      have hr := rel_ifaceNil (vk_rel h e1) e2
      refine eqOp_run ho h hv (fun op' hop => ?_) ?_
      · rcases hr with ⟨f1, rfl⟩ | ⟨p, y, f1, rfl⟩ <;> rw [f1] <;> rcases hop with rfl | rfl <;> exact ⟨by simp [Act.eval, eqGuard], rfl, rfl⟩
      · rcases hr with ⟨f1, rfl⟩ | ⟨p, y, f1, rfl⟩ <;> rw [f1] <;> exact run_equal hd _ rfl
    · simp at hq
  · simp at hq
end
end Go.Ab
end
section
namespace Go.Ab
section
variable {P : Program} {C : Ctx} {H : Hints} {G : Gh} {lam : Nat → Nat} {a : Act} {w : World} {st : St}

theorem val_unOp (h : Inv C.glob G lam a w st) {o : Oper} {op : UnOp} {t : TypeId} {x : Operand} {y : RV} (ho : o.op = .unOp op t x) (ha : act C H o st.regs = some (.val y)) : VOk P C H G lam a w st o y := by
  simp only [act, ho] at ha
  obtain ⟨v, hv, hq⟩ := bind2 ha
  clear ha
  cases op <;> simp only [reduceCtorEq] at hq
  · obtain ⟨n, hn, hq⟩ := bind2 hq
    obtain rfl := Eff.val.inj (Option.some.inj hq)
    refine VOk.val h (.int .i64 (IntKind.i64.wrap (0 - n))) ?_ (.int _ _)
    simp [execOp, ho, vk_int h hv hn, Op.unary, Op.intArith]
  · obtain ⟨b, hb, hq⟩ := bind2 hq
    obtain rfl := Eff.val.inj (Option.some.inj hq)
    refine VOk.val h (.bool !b) ?_ (.bool _)
    simp [execOp, ho, vk_bool h hv hb, Op.unary]

/-- '[]byte(s)': the new row, laid at once. -/
theorem bytesWorld_alloc (w : World) (e : TypeId) (s : ByteArray) : Lib.bytesWorld w e s = w.drew.alloc (.cells (Lib.bytesCells w e s) e ((Lib.bytesCells w e s).size, (Lib.bytesCells w e s).size + 1)) := by
  have key : ∀ (h : Array Obj) (o : Obj) (f : Obj → Obj), (h.push o).modify h.size f = h.push (f o) := by
    intro h o f
    apply Array.ext_getElem?
    intro i
    rw [Array.getElem?_modify, Array.getElem?_push, Array.getElem?_push]
    by_cases hi : i = h.size
    · subst hi; simp
    · simp [hi, Ne.symm hi]
  have h0 := key w.heap
  unfold Lib.bytesWorld World.freeze World.alloc World.drew
  simp only [Nat.one_ne_zero, if_false, h0, beq_self_eq_true, if_true]
theorem bytes_rel (w : World) (e : TypeId) (s : ByteArray) {G' : Gh} (hl : s.size ≤ G'.lim w.heap.size) : Rel G' (Lib.bytesWorld w e s) (.slice 1 e (bytesV s)) (.slice (some ⟨w.heap.size, 0, none⟩) s.size (grownCap w s.size 0 e)) := by
  have hlen : (bytesV s).length = s.size := by simp [bytesV]
  have := Rel.slice (G := G') (w := Lib.bytesWorld w e s) 1 e (bytesV s) w.heap.size 0 (grownCap w s.size 0 e) (s.data.toList.map fun b => [Value.int .u8 b.toNat])
    (by simp [bytesV]) (by rw [hlen]; exact grownCap_ge w s.size 0 e) (by rw [hlen]; omega) (fun i x hx => by
      simp only [bytesV, List.getElem?_map, Option.map_eq_some_iff] at hx
      obtain ⟨b, _, rfl⟩ := hx
      rfl) (fun i x hx => by
      simp only [List.getElem?_map, Option.map_eq_some_iff] at hx
      obtain ⟨b, _, rfl⟩ := hx
      rfl) (fun i j x c hx hc => by
      simp only [List.getElem?_map, Option.map_eq_some_iff] at hx
      obtain ⟨b, hb, rfl⟩ := hx
      match j with
      | 0 =>
        simp at hc
        subst hc
        have hi : i < s.size := by
          have := (List.getElem?_eq_some_iff.1 hb).1
          simpa using this
        refine ⟨?_, rfl⟩
        have := Lib.bytesWorld_cell w e s i hi
        rw [show 0 + i * 1 + 0 = i by omega, this]
        simp [List.getD, hb]
      | j + 1 => simp at hc) (fun i j x y v c hx hy hv hc => by
      simp only [bytesV, List.getElem?_map, Option.map_eq_some_iff] at hx hy
      obtain ⟨b, hb, rfl⟩ := hx
      obtain ⟨b', hb', rfl⟩ := hy
      rw [hb] at hb'
      obtain rfl := Option.some.inj hb'
      match j with
      | 0 => simp at hv hc; subst hv; subst hc; exact .int _ _
      | j + 1 => simp at hc)
  rw [hlen] at this
  exact this

theorem val_convert (hC : CtxOk P C) (h : Inv C.glob G lam a w st) {o : Oper} {s d : TypeId} {x : Operand} {y : RV} (ho : o.op = .convert s d x) (ha : act C H o st.regs = some (.val y)) : VOk P C H G lam a w st o y := by
  simp only [act, ho] at ha
  obtain ⟨i, hi, h1⟩ := bind2 ha
  obtain ⟨j, hj, h2⟩ := bind2 h1
  clear ha h1
  obtain ⟨d1, hd1, hk1⟩ := (hC.T s i hi).desc
  obtain ⟨d2, hd2, hk2⟩ := (hC.T d j hj).desc
  split at h2
  · rename_i k k' e1 e2
    rw [e1] at hk1
    rw [e2] at hk2
    obtain rfl := kok_int hk1
    obtain rfl := kok_int hk2
    obtain ⟨v, hv, h3⟩ := bind2 h2
    obtain ⟨n, hn, h4⟩ := bind2 h3
    obtain rfl := Eff.val.inj (Option.some.inj h4)
    refine VOk.val h (.int k' (k'.wrap n)) ?_ (.int _ _)
    simp [execOp, ho, vk_int h hv hn, Go.convert, run_underlying_of hd1, run_underlying_of hd2, Conv.intToInt]
  · rename_i e e1 e2
    rw [e1] at hk1
    rw [e2] at hk2
    obtain rfl := kok_string hk1
    obtain rfl := kok_slice hk2
    obtain ⟨ei, hei, h3⟩ := bind2 h2
    obtain ⟨d3, hd3, hk3⟩ := (hC.T e ei hei).desc
    split at h3
    case h_2 => simp at h3
    rename_i e3
    rw [e3] at hk3
    obtain rfl := kok_int hk3
    obtain ⟨v, hv, h4⟩ := bind2 h3
    obtain ⟨s', hs, h5⟩ := bind2 h4
    obtain rfl := Eff.val.inj (Option.some.inj h5)
    have hwf : WF G w.drew := h.sto.wf
    refine ⟨.slice (some ⟨w.heap.size, 0, none⟩) s'.size (grownCap w s'.size 0 e), Lib.bytesWorld w e s', G.new w.drew s'.size none, ?_, ?_, ?_, fun dd _ => ⟨?_, fun ho => by simp at ho⟩⟩
    · simp only [execOp, ho, vk_str h hv hs, Sem.run_bind, Lib.run_convert_string_bytes w s d e s' hd1 hd2 hd3]
      rfl
    · rw [bytesWorld_alloc]
      exact Ext.trans (w1 := w.drew) (Ext.same rfl rfl rfl rfl) (Ext.alloc hwf _ _ _)
    · rw [bytesWorld_alloc]
      exact ((h.same (w' := w.drew) rfl rfl rfl rfl).alloc _ s'.size none).clear _
    · exact bytes_rel w e s' (by simp [Gh.new, upd])
  · simp at h2

theorem val_makeInterface (hC : CtxOk P C) (h : Inv C.glob G lam a w st) {o : Oper} {t : TypeId} {x : Operand} {y : RV} (ho : o.op = .makeInterface t x) (ha : act C H o st.regs = some (.val y)) : VOk P C H G lam a w st o y := by
  simp only [act, ho] at ha
  obtain ⟨i, hi, h1⟩ := bind2 ha
  clear ha
  obtain ⟨d1, hd1, hk1⟩ := (hC.T t i hi).desc
  split at h1
  · simp at h1
  · rename_i hne
    obtain ⟨v, hv, h2⟩ := bind2 h1
    obtain rfl := Eff.val.inj (Option.some.inj h2)
    refine VOk.val h (.iface t (a.eval x)) ?_ (.iface _ _ _ (vk_rel h hv))
    have : ∀ ms, d1 ≠ .interface ms := by
      rintro ms rfl
      generalize i.kind = k at hne hk1
      cases k <;> simp_all [KOk]
    simp only [execOp, ho, Instr.makeInterface, Sem.run_bind, run_underlying_of hd1, Result.andThen_ok]
    cases d1 <;> first | rfl | (exact absurd rfl (this _))

theorem val_nilCheck (h : Inv C.glob G lam a w st) {o : Oper} {x : Operand} {y : RV} (ho : o.op = .nilCheck x) (ha : act C H o st.regs = some (.val y)) : VOk P C H G lam a w st o y := by
  simp only [act, ho] at ha
  split at ha
  · rename_i r of hx
    obtain rfl := Eff.val.inj (Option.some.inj ha)
    have := eval_lptr h hx
    exact VOk.pure h _ (by simp [execOp, ho, this]) fun _ => rfl
  · rename_i v ow hx
    obtain ⟨u, hu, h1⟩ := bind2 ha
    obtain rfl := Eff.val.inj (Option.some.inj h1)
    have hr := (eval_rel h hx).1
    generalize hc : a.eval x = c at hr
    cases hr with
    | ptr t0 b o' hb ht =>
      simp [V.nonnil] at hu; subst hu
      exact VOk.val h (.pointer (some ⟨G.μ b, o', none⟩)) (by simp [execOp, ho, hc]) (.ptr _ _ _ hb ht)
    | eptr k e o' b off cs g1 g2 g3 g4 g5 =>
      simp [V.nonnil] at hu; subst hu
      exact VOk.val h (.pointer (some ⟨b, off + o', none⟩)) (by simp [execOp, ho, hc]) (.eptr k e o' b off cs g1 g2 g3 g4 g5)
    | func fn first cap f c' g1 g2 g3 g4 =>
      cases fn <;> simp [V.nonnil] at hu
      subst hu
      exact VOk.val h (.func (.func _) f.toArray c'.toArray) (by simp [execOp, ho, hc]) (.func _ first cap f c' g1 g2 g3 g4)
    | _ => simp [V.nonnil] at hu
  · simp at ha

/-- The arguments of a call, one by one. -/
theorem argCells_rel (h : Inv C.glob G lam a w st) : ∀ (l : List (Operand × TypeId)) (cs : List Cell), argCells C st.regs l = some cs → cs.length = l.length ∧
    ∀ (i : Nat) c x, cs[i]? = some c → l[i]? = some x → Rel G w c.1 (a.eval x.1) ∧ (c.2 = true → (∃ r, x.1 = .tmp r ∧ Own G w (.reg r) c.1 (a.eval x.1)) ∨ ∀ p, Own G w p c.1 (a.eval x.1))
  | [], cs, hc => by simp [argCells] at hc; subst hc; simp
  | (x, t) :: rest, cs, hc => by
    simp only [argCells] at hc
    obtain ⟨c, h1, hc⟩ := bind2 hc
    obtain ⟨cs', h2, hc⟩ := bind2 hc
    obtain rfl := Option.some.inj hc
    obtain ⟨e1, e2⟩ := argCells_rel h rest cs' h2
    refine ⟨by simp [e1], fun i c' y hi hy => ?_⟩
    cases i with
    | zero =>
      simp at hi hy
      subst hi; subst hy
      exact ck_rel h h1
    | succ i =>
      simp at hi hy
      exact e2 i c' y hi hy

theorem val_makeFunc (h : Inv C.glob G lam a w st) {o : Oper} {fn : Fn} {fi ca : Array Operand} {y : RV} (ho : o.op = .makeFunc fn fi ca) (ha : act C H o st.regs = some (.val y)) : VOk P C H G lam a w st o y := by
  simp only [act, ho] at ha
  split at ha
  · rename_i hs
    obtain ⟨cs, hcs, h1⟩ := bind2 ha
    obtain rfl := Eff.val.inj (Option.some.inj h1)
    obtain ⟨e1, e2⟩ := argCells_rel h _ _ hcs
    have hfi : fi = #[] := by simpa using hs
    refine VOk.val h (.func fn ([] : List Value).toArray (ca.toList.map a.eval).toArray) ?_ (.func fn [] _ [] _ rfl (by simp [e1]) (by simp) fun i v x hv hx => ?_)
    · subst hfi
      simp [execOp, ho, Instr.makeFunc]
      apply Array.ext'
      simp
    · simp only [List.getElem?_map, Option.map_eq_some_iff] at hv hx
      obtain ⟨c, hc, rfl⟩ := hv
      obtain ⟨z, hz, rfl⟩ := hx
      exact (e2 i c (z, 0) hc (by simp [hz])).1
  · simp at ha

theorem val_fieldAddr (hC : CtxOk P C) (h : Inv C.glob G lam a w st) {o : Oper} {s : TypeId} {x : Operand} {f : Nat} {y : RV} (ho : o.op = .fieldAddr s x f) (ha : act C H o st.regs = some (.val y)) : VOk P C H G lam a w st o y := by
  simp only [act, ho] at ha
  obtain ⟨i, hi, h1⟩ := bind2 ha
  clear ha
  obtain ⟨d1, hd1, hk1⟩ := (hC.T s i hi).desc
  split at h1
  · rename_i fs hfs
    rw [hfs] at hk1
    obtain ⟨fields, rfl, hm⟩ := kok_struct hk1
    obtain ⟨p, hp, h2⟩ := bind2 h1
    obtain ⟨fi, hfi, h3⟩ := bind2 h2
    clear h1 h2
    split at h3
    · simp at h3
    · rename_i hsz
      rw [← hm, List.getElem?_map, Option.map_eq_some_iff] at hp
      obtain ⟨fd, hfd, rfl⟩ := hp
      have hfd' : fields[f]? = some fd := by simpa using hfd
      have key : ∀ b of, a.eval x = .pointer (some ⟨b, of, none⟩) → (execOp a.eval o).run P w = .ok (.value (.pointer (some ⟨b, of + fd.offset, none⟩))) w := by
        intro b of hx
        simp [execOp, ho, Instr.fieldAt, run_underlying_of hd1, hfd', hx, Instr.sureAddr, fieldPlace, run_sizeOf_of (hC.T _ _ hfi), hsz, add_plain]
      split at h3
      · rename_i r of hx
        obtain rfl := Eff.val.inj (Option.some.inj h3)
        exact VOk.pure h _ (key _ _ (eval_lptr h hx)) fun _ => rfl
      · rename_i v ow hx
        obtain ⟨u, hu, h4⟩ := bind2 h3
        have hu := grd_some hu
        obtain rfl := Eff.val.inj (Option.some.inj h4)
        have hr := (eval_rel h hx).1
        generalize hc : a.eval x = c at hr
        cases hr with
        | ptr t0 b o' hb ht => exact VOk.val h _ (key _ _ hc) (.ptr _ _ _ hb ht)
        | eptr k e of b off cs g1 g2 g3 g4 g5 =>
          have := key _ _ hc
          rw [Nat.add_assoc] at this
          exact VOk.val h _ this (.eptr k e (of + fd.offset) b off cs g1 g2 g3 g4 g5)
        | _ => simp [V.isPtr] at hu
      · simp at h3
  · simp at h1

theorem val_indexAddr (hC : CtxOk P C) (h : Inv C.glob G lam a w st) {o : Oper} {t : TypeId} {x ix : Operand} {y : RV} (ho : o.op = .indexAddr t x ix) (ha : act C H o st.regs = some (.val y)) : VOk P C H G lam a w st o y := by
  simp only [act, ho] at ha
  obtain ⟨i, hi, h1⟩ := bind2 ha
  clear ha
  obtain ⟨d1, hd1, hk1⟩ := (hC.T t i hi).desc
  split at h1
  · rename_i e hkk
    rw [hkk] at hk1
    obtain rfl := kok_slice hk1
    obtain ⟨ei, hei, h2⟩ := bind2 h1
    obtain ⟨v, hv, h3⟩ := bind2 h2
    obtain ⟨es, hes, h4⟩ := bind2 h3
    obtain ⟨wv, hw, h5⟩ := bind2 h4
    obtain ⟨n, hn, h6⟩ := bind2 h5
    obtain ⟨u, hu, h7⟩ := bind2 h6
    clear h1 h2 h3 h4 h5 h6
    have hu := grd_some hu
    simp only [Bool.and_eq_true, decide_eq_true_eq] at hu
    obtain rfl := Eff.val.inj (Option.some.inj h7)
    have hix := vk_int h hw hn
    obtain ⟨hr, _⟩ := asSlice_rel hes (vk_rel h hv)
    rcases rel_slice hr with ⟨rfl, _⟩ | ⟨b, off, cap, cs, hc, g1, g2, g3, g4, g5, g6, g7⟩
    · simp at hu; omega
    · have hlt : n.toNat < es.length := by omega
      have hlt' : n.toNat < cs.length := by omega
      refine VOk.val h (.pointer (some ⟨b, off + n.toNat * ei.size + 0, none⟩)) ?_ (.eptr ei.size _ 0 b (off + n.toNat * ei.size) cs[n.toNat] ?_ ?_ ?_ ?_ ?_)
      · simp [execOp, ho, Instr.indexAt, hix, asIntOf, run_underlying_of hd1, hc, run_sizeOf_of (hC.T _ _ hei), hu, add_plain]
      · rw [List.getD_eq_getElem?_getD, List.getElem?_eq_getElem hlt]; exact g4 _ _ (List.getElem?_eq_getElem hlt)
      · exact g5 _ _ (List.getElem?_eq_getElem hlt')
      · have : (n.toNat + 1) * ei.size ≤ es.length * ei.size := Nat.mul_le_mul_right _ (by omega)
        rw [Nat.succ_mul] at this
        omega
      · intro j c hj
        exact g6 _ j _ c (List.getElem?_eq_getElem hlt') hj
      · intro j v c hv hj
        rw [List.getD_eq_getElem?_getD, List.getElem?_eq_getElem hlt] at hv
        exact g7 _ j _ _ v c (List.getElem?_eq_getElem hlt) (List.getElem?_eq_getElem hlt') hv hj
  · rename_i len e hkk
    rw [hkk] at hk1
    obtain rfl := (kok_array hk1)
    obtain ⟨ei, hei, h2⟩ := bind2 h1
    obtain ⟨p, hp, h3⟩ := bind2 h2
    obtain ⟨u1, hu1, h4⟩ := bind2 h3
    obtain ⟨wv, hw, h5⟩ := bind2 h4
    obtain ⟨n, hn, h6⟩ := bind2 h5
    obtain ⟨u, hu, h7⟩ := bind2 h6
    clear h1 h2 h3 h4 h5 h6
    have hu := grd_some hu
    have hu1 := grd_some hu1
    simp only [Bool.and_eq_true, decide_eq_true_eq] at hu
    obtain rfl := Eff.val.inj (Option.some.inj h7)
    have hix := vk_int h hw hn
    have hr := vk_rel h hp
    have key : ∀ b of, a.eval x = .pointer (some ⟨b, of, none⟩) → (execOp a.eval o).run P w = .ok (.value (.pointer (some ⟨b, of + n.toNat * ei.size, none⟩))) w := by
      intro b of hx
      simp [execOp, ho, Instr.indexAt, hix, asIntOf, run_underlying_of hd1, hx, Instr.sureAddr, run_sizeOf_of (hC.T _ _ hei), hu, add_plain]
    generalize hc : a.eval x = c at hr
    cases hr with
    | ptr t0 b o' hb ht => exact VOk.val h _ (key _ _ hc) (.ptr _ _ _ hb ht)
    | eptr k e' of b off cs g1 g2 g3 g4 g5 =>
      have := key _ _ hc
      rw [Nat.add_assoc] at this
      exact VOk.val h _ this (.eptr k e' (of + n.toNat * ei.size) b off cs g1 g2 g3 g4 g5)
    | _ => simp [V.isPtr] at hu1
  · simp at h1
end
end Go.Ab
end
