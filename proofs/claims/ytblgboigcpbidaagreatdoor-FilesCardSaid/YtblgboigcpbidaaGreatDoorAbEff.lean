/- Operations that read and write cells, and calls: the abstract one is met by the real one. -/
import Derived.Test.YtblgboigcpbidaaGreatDoorAbFill
import Derived.Laws.BytesString
import Derived.Lib.ConvBytes
import Derived.Laws.AppendOwn
import Derived.MapKept
import Derived.Laws.Strings
set_option linter.unusedSimpArgs false
set_option linter.unusedVariables false
set_option linter.deprecated false
section
namespace Go.Ab
section
variable {P : Program} {C : Ctx} {H : Hints} {G : Gh} {lam : Nat → Nat} {a : Act} {w : World} {st : St}
theorem assign_ok {o : Oper} {t : TypeId} {x : Operand} (h : Inv C.glob G lam a w st) (hrun : (execOp a.eval o).run P w = .ok (.value (a.eval x)) w) (hc : clearOf H o = tmpOf x) :
  VOk P C H G lam a w st o (valOwn (opndT C st.regs t x)) := by
 cases hv : opndT C st.regs t x with
 | dead => exact VOk.pure h _ hrun fun _ => trivial
 | lptr r of => exact VOk.pure h _ hrun fun _ => eval_lptr h hv
 | tup cs =>
  refine VOk.pure h _ hrun fun d => ?_
  have := noOwn_opnd h t x d
  rw [hv] at this
  exact this
 | val v ow =>
  obtain ⟨h1, h2⟩ := eval_rel h hv
  cases ow with
  | false => exact VOk.pure h _ hrun fun _ => ⟨h1, fun ho => by simp at ho⟩
  | true =>
   rcases h2 rfl with ⟨r, rfl, h3⟩ | h3
   ·obtain ⟨G', e1, e2, e3, e4⟩ := (h.clear (clearOf H o)).token (q := .reg (o.dst.getD 0)) h3 (clear_not_flagged _ _ (by rw [hc]; simp [tmpOf])) (by simp) (by simp)
    exact ⟨_, w, G', hrun, e1, e2, fun d hd => ⟨h1.mono e1, fun _ => by rw [hd] at e3; exact e3⟩⟩
   ·exact VOk.pure h _ hrun fun _ => ⟨h1, fun _ => h3 _⟩
theorem bind2 {α β : Type} {x : Option α} {f : α → Option β} {y : β} (h : x.bind f = some y) : ∃ a, x = some a ∧ f a = some y := Option.bind_eq_some_iff.1 h
theorem val_move (h : Inv C.glob G lam a w st) {o : Oper} {x : Operand} {y : RV} (ho : o.op = .move x) (ha : act C H o st.regs = some (.val y)) : VOk P C H G lam a w st o y := by
 simp only [act, ho] at ha
 have hrun : (execOp a.eval o).run P w = .ok (.value (a.eval x)) w := by simp [execOp, ho]
 split at ha
 ·rename_i hs
  obtain rfl := Eff.val.inj (Option.some.inj ha)
  exact assign_ok h hrun (by simp [clearOf, ho, hs])
 ·obtain rfl := Eff.val.inj (Option.some.inj ha)
  exact VOk.pure h _ hrun fun d => noOwn_opnd h _ x d
theorem val_assign (h : Inv C.glob G lam a w st) {o : Oper} {x : Operand} {y : RV} (ho : o.op = .assign x) (ha : act C H o st.regs = some (.val y)) : VOk P C H G lam a w st o y := by
 simp only [act, ho] at ha
 obtain rfl := Eff.val.inj (Option.some.inj ha)
 exact assign_ok h (by simp [execOp, ho]) (by simp [clearOf, ho])
theorem val_pick (h : Inv C.glob G lam a w st) {o : Oper} {c x z : Operand} {y : RV} (ho : o.op = .pick c x z) (ha : act C H o st.regs = some (.val y)) : VOk P C H G lam a w st o y := by
 simp only [act, ho] at ha
 obtain ⟨v, hv, ha⟩ := bind2 ha
 obtain ⟨b, hb, ha⟩ := bind2 ha
 obtain rfl := Eff.val.inj (Option.some.inj ha)
 have hc := vk_bool h hv hb
 refine VOk.pure h (if b then a.eval x else a.eval z) (by simp [execOp, ho, hc, asBool]) fun d => ?_
 cases b
 ·exact noOwn_opnd h _ z d
 ·exact noOwn_opnd h _ x d
theorem run_binOp {o : Oper} {op : BinOp} {t u : TypeId} {x y : Operand} {c : Value} {w' : World} (ho : o.op = .binOp op t x y u)
  (h : (do eqGuard op t x y (a.eval x) (a.eval y); binOp op t (a.eval x) (a.eval y) : Sem Value).run P w = .ok c w') : (execOp a.eval o).run P w = .ok (.value c) w' := by
 simp only [execOp, ho]
 rw [Sem.run_bind, h]
 rfl
theorem rel_ptrNil {v : V} {c : Value} {b : Bool} (h : Rel G w v c) (hb : v.ptrNil = some b) : (c = .pointer none ∧ b = true) ∨ ∃ p, c = .pointer (some p) ∧ b = false := by
 cases h <;> simp [V.ptrNil] at hb <;> subst hb <;> simp
theorem rel_ifaceNil {v : V} {c : Value} {b : Bool} (h : Rel G w v c) (hb : v.ifaceNil = some b) : (c = .nilIface ∧ b = true) ∨ ∃ t x, c = .iface t x ∧ b = false := by
 cases h <;> simp [V.ifaceNil] at hb <;> subst hb <;> simp
theorem run_equal {t : TypeId} {x y : Value} {d : TypeDesc} (hd : P.underlying t = some d) (b : Bool) (h : (match d, x, y with
  | .bool, .bool a, .bool b' => some (a == b')
  | .pointer _, .pointer none, .pointer none => some true
  | .pointer _, .pointer (some _), .pointer none => some false
  | .interface _, .nilIface, .nilIface => some true
  | .interface _, .iface _ _, .nilIface => some false
  | _, _, _ => none) = some b) : (Op.equal t x y).run P w = .ok b w := by
 have e : Op.equal t x y = Op.equalIn (9999 + 1) t x y := rfl
 rw [e, Op.equalIn, Sem.run_bind, run_underlying_of hd, Result.andThen_ok]
 split at h <;> simp at h <;> subst h <;> simp
theorem isNilP_eq {x : Operand} (h : isNilP x = true) : x = .const (.pointer none) := by
 unfold isNilP at h; split at h <;> simp_all
theorem isNilI_eq {x : Operand} (h : isNilI x = true) : x = .const .nilIface := by
 unfold isNilI at h; split at h <;> simp_all
theorem eqOp_run {o : Oper} {op : BinOp} {t u : TypeId} {x z : Operand} {v : V} {b : Bool} (ho : o.op = .binOp op t x z u) (h : Inv C.glob G lam a w st) (hv : eqOp op b = some v)
  (hg : ∀ op', op' = BinOp.eql ∨ op' = BinOp.neq → (eqGuard op' t x z (a.eval x) (a.eval z)).run P w = .ok () w ∧ (Go.binOp .eql t (a.eval x) (a.eval z)) = (do pure (.bool (← Op.equal t (a.eval x) (a.eval z)))) ∧
   (Go.binOp .neq t (a.eval x) (a.eval z)) = (do pure (.bool (!(← Op.equal t (a.eval x) (a.eval z)))))) (he : (Op.equal t (a.eval x) (a.eval z)).run P w = .ok b w) : VOk P C H G lam a w st o (.val v false) := by
 cases op <;> simp only [eqOp, Option.some.injEq, reduceCtorEq] at hv
 ·subst hv
  obtain ⟨h1, h2, _⟩ := hg .eql (.inl rfl)
  refine VOk.val h _ (run_binOp ho (c := .bool b) ?_) (.bool _)
  rw [Sem.run_bind, h1, Result.andThen_ok, h2]
  simp [he]
 ·subst hv
  obtain ⟨h1, _, h2⟩ := hg .neq (.inr rfl)
  refine VOk.val h _ (run_binOp ho (c := .bool !b) ?_) (.bool _)
  rw [Sem.run_bind, h1, Result.andThen_ok, h2]
  simp [he]
theorem val_binOp (hC : CtxOk P C) (h : Inv C.glob G lam a w st) {o : Oper} {op : BinOp} {t u : TypeId} {x z : Operand} {y : RV} (ho : o.op = .binOp op t x z u) (ha : act C H o st.regs = some (.val y)) : VOk P C H G lam a w st o y := by
 simp only [act, ho] at ha
 obtain ⟨v, hv, ha⟩ := bind2 ha
 obtain rfl := Eff.val.inj (Option.some.inj ha)
 unfold binK at hv
 obtain ⟨i, hi, hq⟩ := bind2 hv
 clear hv
 obtain ⟨d, hd, hk⟩ := (hC.T t i hi).desc
 split at hq
 ·rename_i k hkk
  obtain ⟨v1, e1, hv⟩ := bind2 hq
  obtain ⟨v2, e2, hv⟩ := bind2 hv
  obtain ⟨m, e3, hv⟩ := bind2 hv
  obtain ⟨n, e4, hv⟩ := bind2 hv
  obtain ⟨c, hc1, hc2⟩ := run_int (P := P) (G := G) (w := w) (t := t) (x := x) (y := z) hv
  rw [← vk_int h e1 e3, ← vk_int h e2 e4] at hc1
  exact VOk.val h c (run_binOp ho hc1) hc2
 ·obtain ⟨v1, e1, hv⟩ := bind2 hq
  obtain ⟨v2, e2, hv⟩ := bind2 hv
  obtain ⟨m, e3, hv⟩ := bind2 hv
  obtain ⟨n, e4, hv⟩ := bind2 hv
  obtain ⟨c, hc1, hc2⟩ := run_str (P := P) (G := G) (w := w) (t := t) (x := x) (y := z) hv
  rw [← vk_str h e1 e3, ← vk_str h e2 e4] at hc1
  exact VOk.val h c (run_binOp ho hc1) hc2
 ·rename_i hkk
  rw [hkk] at hk
  obtain rfl := kok_bool hk
  obtain ⟨v1, e1, hv⟩ := bind2 hq
  obtain ⟨v2, e2, hv⟩ := bind2 hv
  obtain ⟨m, e3, hv⟩ := bind2 hv
  obtain ⟨n, e4, hv⟩ := bind2 hv
  have f1 := vk_bool h e1 e3
  have f2 := vk_bool h e2 e4
  refine eqOp_run ho h hv (fun op' hop => ?_) ?_
  ·rw [f1, f2]
   rcases hop with rfl | rfl <;> exact ⟨by simp [eqGuard], rfl, rfl⟩
  ·rw [f1, f2]
   exact run_equal hd _ rfl
 ·rename_i e hkk
  rw [hkk] at hk
  obtain rfl := kok_pointer hk
  split at hq
  ·rename_i hn
   have hz := isNilP_eq hn
   subst hz
   obtain ⟨v1, e1, hv⟩ := bind2 hq
   obtain ⟨b, e2, hv⟩ := bind2 hv
   have hr := rel_ptrNil (vk_rel h e1) e2
   refine eqOp_run ho h hv (fun op' hop => ?_) ?_
   ·rcases hr with ⟨f1, rfl⟩ | ⟨p, f1, rfl⟩ <;> rw [f1] <;> rcases hop with rfl | rfl <;> exact ⟨by simp [Act.eval, eqGuard], rfl, rfl⟩
   ·rcases hr with ⟨f1, rfl⟩ | ⟨p, f1, rfl⟩ <;> rw [f1] <;> exact run_equal hd _ rfl
  ·simp at hq
 ·rename_i hkk
  rw [hkk] at hk
  obtain ⟨ms, rfl⟩ := kok_iface hk
  split at hq
  ·rename_i hn
   have hz := isNilI_eq hn
   subst hz
   obtain ⟨v1, e1, hv⟩ := bind2 hq
   obtain ⟨b, e2, hv⟩ := bind2 hv
   have hr := rel_ifaceNil (vk_rel h e1) e2
   refine eqOp_run ho h hv (fun op' hop => ?_) ?_
   ·rcases hr with ⟨f1, rfl⟩ | ⟨p, y, f1, rfl⟩ <;> rw [f1] <;> rcases hop with rfl | rfl <;> exact ⟨by simp [Act.eval, eqGuard], rfl, rfl⟩
   ·rcases hr with ⟨f1, rfl⟩ | ⟨p, y, f1, rfl⟩ <;> rw [f1] <;> exact run_equal hd _ rfl
  ·simp at hq
 ·simp at hq
end
end Go.Ab
end
section
namespace Go.Ab
section
variable {P : Program} {C : Ctx} {H : Hints} {G : Gh} {lam : Nat → Nat} {a : Act} {w : World} {st : St}
theorem val_unOp (h : Inv C.glob G lam a w st) {o : Oper} {op : UnOp} {t : TypeId} {x : Operand} {y : RV} (ho : o.op = .unOp op t x) (ha : act C H o st.regs = some (.val y)) : VOk P C H G lam a w st o y := by
 simp only [act, ho] at ha
 obtain ⟨v, hv, hq⟩ := bind2 ha
 clear ha
 cases op <;> simp only [reduceCtorEq] at hq
 ·obtain ⟨n, hn, hq⟩ := bind2 hq
  obtain rfl := Eff.val.inj (Option.some.inj hq)
  refine VOk.val h (.int .i64 (IntKind.i64.wrap (0 - n))) ?_ (.int _ _)
  simp [execOp, ho, vk_int h hv hn, Op.unary, Op.intArith]
 ·obtain ⟨b, hb, hq⟩ := bind2 hq
  obtain rfl := Eff.val.inj (Option.some.inj hq)
  refine VOk.val h (.bool !b) ?_ (.bool _)
  simp [execOp, ho, vk_bool h hv hb, Op.unary]
theorem bytesWorld_alloc (w : World) (e : TypeId) (s : ByteArray) : Lib.bytesWorld w e s = w.drew.alloc (.cells (Lib.bytesCells w e s) e ((Lib.bytesCells w e s).size, (Lib.bytesCells w e s).size + 1)) := by
 have key : ∀ (h : Array Obj) (o : Obj) (f : Obj → Obj), (h.push o).modify h.size f = h.push (f o) := by
  intro h o f
  apply Array.ext_getElem?
  intro i
  rw [Array.getElem?_modify, Array.getElem?_push, Array.getElem?_push]
  by_cases hi : i = h.size
  ·subst hi; simp
  ·simp [hi, Ne.symm hi]
 have h0 := key w.heap
 unfold Lib.bytesWorld World.freeze World.alloc World.drew
 simp only [Nat.one_ne_zero, if_false, h0, beq_self_eq_true, if_true]
theorem bytes_rel (w : World) (e : TypeId) (s : ByteArray) {G' : Gh} (hl : s.size ≤ G'.lim w.heap.size) : Rel G' (Lib.bytesWorld w e s) (.slice 1 e (bytesV s)) (.slice (some ⟨w.heap.size, 0, none⟩) s.size (grownCap w s.size 0 e)) := by
 have hlen : (bytesV s).length = s.size := by simp [bytesV]
 have := Rel.slice (G := G') (w := Lib.bytesWorld w e s) 1 e (bytesV s) w.heap.size 0 (grownCap w s.size 0 e) (s.data.toList.map fun b => [Value.int .u8 b.toNat])
  (by simp [bytesV]) (by rw [hlen]; exact grownCap_ge w s.size 0 e) (by rw [hlen]; omega) (fun i x hx => by
   simp only [bytesV, List.getElem?_map, Option.map_eq_some_iff] at hx
   obtain ⟨b, _, rfl⟩ := hx
   rfl) (fun i x hx => by
   simp only [List.getElem?_map, Option.map_eq_some_iff] at hx
   obtain ⟨b, _, rfl⟩ := hx
   rfl) (fun i j x c hx hc => by
   simp only [List.getElem?_map, Option.map_eq_some_iff] at hx
   obtain ⟨b, hb, rfl⟩ := hx
   match j with
   | 0 =>
    simp at hc
    subst hc
    have hi : i < s.size := by
     have := (List.getElem?_eq_some_iff.1 hb).1
     simpa using this
    refine ⟨?_, rfl⟩
    have := Lib.bytesWorld_cell w e s i hi
    rw [show 0 + i * 1 + 0 = i by omega, this]
    simp [List.getD, hb]
   | j + 1 => simp at hc) (fun i j x y v c hx hy hv hc => by
   simp only [bytesV, List.getElem?_map, Option.map_eq_some_iff] at hx hy
   obtain ⟨b, hb, rfl⟩ := hx
   obtain ⟨b', hb', rfl⟩ := hy
   rw [hb] at hb'
   obtain rfl := Option.some.inj hb'
   match j with
   | 0 => simp at hv hc; subst hv; subst hc; exact .int _ _
   | j + 1 => simp at hc)
 rw [hlen] at this
 exact this
theorem val_convert (hC : CtxOk P C) (h : Inv C.glob G lam a w st) {o : Oper} {s d : TypeId} {x : Operand} {y : RV} (ho : o.op = .convert s d x) (ha : act C H o st.regs = some (.val y)) : VOk P C H G lam a w st o y := by
 simp only [act, ho] at ha
 obtain ⟨i, hi, h1⟩ := bind2 ha
 obtain ⟨j, hj, h2⟩ := bind2 h1
 clear ha h1
 obtain ⟨d1, hd1, hk1⟩ := (hC.T s i hi).desc
 obtain ⟨d2, hd2, hk2⟩ := (hC.T d j hj).desc
 split at h2
 ·rename_i k k' e1 e2
  rw [e1] at hk1
  rw [e2] at hk2
  obtain rfl := kok_int hk1
  obtain rfl := kok_int hk2
  obtain ⟨v, hv, h3⟩ := bind2 h2
  obtain ⟨n, hn, h4⟩ := bind2 h3
  obtain rfl := Eff.val.inj (Option.some.inj h4)
  refine VOk.val h (.int k' (k'.wrap n)) ?_ (.int _ _)
  simp [execOp, ho, vk_int h hv hn, Go.convert, run_underlying_of hd1, run_underlying_of hd2, Conv.intToInt]
 ·rename_i e e1 e2
  rw [e1] at hk1
  rw [e2] at hk2
  obtain rfl := kok_string hk1
  obtain rfl := kok_slice hk2
  obtain ⟨ei, hei, h3⟩ := bind2 h2
  obtain ⟨d3, hd3, hk3⟩ := (hC.T e ei hei).desc
  split at h3
  case h_2 => simp at h3
  rename_i e3
  rw [e3] at hk3
  obtain rfl := kok_int hk3
  obtain ⟨v, hv, h4⟩ := bind2 h3
  obtain ⟨s', hs, h5⟩ := bind2 h4
  obtain rfl := Eff.val.inj (Option.some.inj h5)
  have hwf : WF G w.drew := h.sto.wf
  refine ⟨.slice (some ⟨w.heap.size, 0, none⟩) s'.size (grownCap w s'.size 0 e), Lib.bytesWorld w e s', G.new w.drew s'.size none, ?_, ?_, ?_, fun dd _ => ⟨?_, fun ho => by simp at ho⟩⟩
  ·simp only [execOp, ho, vk_str h hv hs, Sem.run_bind, Lib.run_convert_string_bytes w s d e s' hd1 hd2 hd3]
   rfl
  ·rw [bytesWorld_alloc]
   exact Ext.trans (w1 := w.drew) (Ext.same rfl rfl rfl rfl) (Ext.alloc hwf _ _ _)
  ·rw [bytesWorld_alloc]
   exact ((h.same (w' := w.drew) rfl rfl rfl rfl).alloc _ s'.size none).clear _
  ·exact bytes_rel w e s' (by simp [Gh.new, upd])
 ·simp at h2
theorem val_makeInterface (hC : CtxOk P C) (h : Inv C.glob G lam a w st) {o : Oper} {t : TypeId} {x : Operand} {y : RV} (ho : o.op = .makeInterface t x) (ha : act C H o st.regs = some (.val y)) : VOk P C H G lam a w st o y := by
 simp only [act, ho] at ha
 obtain ⟨i, hi, h1⟩ := bind2 ha
 clear ha
 obtain ⟨d1, hd1, hk1⟩ := (hC.T t i hi).desc
 split at h1
 ·simp at h1
 ·rename_i hne
  obtain ⟨v, hv, h2⟩ := bind2 h1
  obtain rfl := Eff.val.inj (Option.some.inj h2)
  refine VOk.val h (.iface t (a.eval x)) ?_ (.iface _ _ _ (vk_rel h hv))
  have : ∀ ms, d1 ≠ .interface ms := by
   rintro ms rfl
   generalize i.kind = k at hne hk1
   cases k <;> simp_all [KOk]
  simp only [execOp, ho, Instr.makeInterface, Sem.run_bind, run_underlying_of hd1, Result.andThen_ok]
  cases d1 <;> first | rfl | (exact absurd rfl (this _))
theorem val_nilCheck (h : Inv C.glob G lam a w st) {o : Oper} {x : Operand} {y : RV} (ho : o.op = .nilCheck x) (ha : act C H o st.regs = some (.val y)) : VOk P C H G lam a w st o y := by
 simp only [act, ho] at ha
 split at ha
 ·rename_i r of hx
  obtain rfl := Eff.val.inj (Option.some.inj ha)
  have := eval_lptr h hx
  exact VOk.pure h _ (by simp [execOp, ho, this]) fun _ => rfl
 ·rename_i v ow hx
  obtain ⟨u, hu, h1⟩ := bind2 ha
  obtain rfl := Eff.val.inj (Option.some.inj h1)
  have hr := (eval_rel h hx).1
  generalize hc : a.eval x = c at hr
  cases hr with
  | ptr t0 b o' hb ht =>
   simp [V.nonnil] at hu; subst hu
   exact VOk.val h (.pointer (some ⟨G.μ b, o', none⟩)) (by simp [execOp, ho, hc]) (.ptr _ _ _ hb ht)
  | eptr k e o' b off cs g1 g2 g3 g4 g5 =>
   simp [V.nonnil] at hu; subst hu
   exact VOk.val h (.pointer (some ⟨b, off + o', none⟩)) (by simp [execOp, ho, hc]) (.eptr k e o' b off cs g1 g2 g3 g4 g5)
  | func fn first cap f c' g1 g2 g3 g4 =>
   cases fn <;> simp [V.nonnil] at hu
   subst hu
   exact VOk.val h (.func (.func _) f.toArray c'.toArray) (by simp [execOp, ho, hc]) (.func _ first cap f c' g1 g2 g3 g4)
  | _ => simp [V.nonnil] at hu
 ·simp at ha
theorem argCells_rel (h : Inv C.glob G lam a w st) : ∀ (l : List (Operand × TypeId)) (cs : List Cell), argCells C st.regs l = some cs → cs.length = l.length ∧
  ∀ (i : Nat) c x, cs[i]? = some c → l[i]? = some x → Rel G w c.1 (a.eval x.1) ∧ (c.2 = true → (∃ r, x.1 = .tmp r ∧ Own G w (.reg r) c.1 (a.eval x.1)) ∨ ∀ p, Own G w p c.1 (a.eval x.1))
 | [], cs, hc => by simp [argCells] at hc; subst hc; simp
 | (x, t) :: rest, cs, hc => by
  simp only [argCells] at hc
  obtain ⟨c, h1, hc⟩ := bind2 hc
  obtain ⟨cs', h2, hc⟩ := bind2 hc
  obtain rfl := Option.some.inj hc
  obtain ⟨e1, e2⟩ := argCells_rel h rest cs' h2
  refine ⟨by simp [e1], fun i c' y hi hy => ?_⟩
  cases i with
  | zero =>
   simp at hi hy
   subst hi; subst hy
   exact ck_rel h h1
  | succ i =>
   simp at hi hy
   exact e2 i c' y hi hy
theorem val_makeFunc (h : Inv C.glob G lam a w st) {o : Oper} {fn : Fn} {fi ca : Array Operand} {y : RV} (ho : o.op = .makeFunc fn fi ca) (ha : act C H o st.regs = some (.val y)) : VOk P C H G lam a w st o y := by
 simp only [act, ho] at ha
 split at ha
 ·rename_i hs
  obtain ⟨cs, hcs, h1⟩ := bind2 ha
  obtain rfl := Eff.val.inj (Option.some.inj h1)
  obtain ⟨e1, e2⟩ := argCells_rel h _ _ hcs
  have hfi : fi = #[] := by simpa using hs
  refine VOk.val h (.func fn ([] : List Value).toArray (ca.toList.map a.eval).toArray) ?_ (.func fn [] _ [] _ rfl (by simp [e1]) (by simp) fun i v x hv hx => ?_)
  ·subst hfi
   simp [execOp, ho, Instr.makeFunc]
   apply Array.ext'
   simp
  ·simp only [List.getElem?_map, Option.map_eq_some_iff] at hv hx
   obtain ⟨c, hc, rfl⟩ := hv
   obtain ⟨z, hz, rfl⟩ := hx
   exact (e2 i c (z, 0) hc (by simp [hz])).1
 ·simp at ha
theorem val_fieldAddr (hC : CtxOk P C) (h : Inv C.glob G lam a w st) {o : Oper} {s : TypeId} {x : Operand} {f : Nat} {y : RV} (ho : o.op = .fieldAddr s x f) (ha : act C H o st.regs = some (.val y)) : VOk P C H G lam a w st o y := by
 simp only [act, ho] at ha
 obtain ⟨i, hi, h1⟩ := bind2 ha
 clear ha
 obtain ⟨d1, hd1, hk1⟩ := (hC.T s i hi).desc
 split at h1
 ·rename_i fs hfs
  rw [hfs] at hk1
  obtain ⟨fields, rfl, hm⟩ := kok_struct hk1
  obtain ⟨p, hp, h2⟩ := bind2 h1
  obtain ⟨fi, hfi, h3⟩ := bind2 h2
  clear h1 h2
  split at h3
  ·simp at h3
  ·rename_i hsz
   rw [← hm, List.getElem?_map, Option.map_eq_some_iff] at hp
   obtain ⟨fd, hfd, rfl⟩ := hp
   have hfd' : fields[f]? = some fd := by simpa using hfd
   have key : ∀ b of, a.eval x = .pointer (some ⟨b, of, none⟩) → (execOp a.eval o).run P w = .ok (.value (.pointer (some ⟨b, of + fd.offset, none⟩))) w := by
    intro b of hx
    simp [execOp, ho, Instr.fieldAt, run_underlying_of hd1, hfd', hx, Instr.sureAddr, fieldPlace, run_sizeOf_of (hC.T _ _ hfi), hsz, add_plain]
   split at h3
   ·rename_i r of hx
    obtain rfl := Eff.val.inj (Option.some.inj h3)
    exact VOk.pure h _ (key _ _ (eval_lptr h hx)) fun _ => rfl
   ·rename_i v ow hx
    obtain ⟨u, hu, h4⟩ := bind2 h3
    have hu := grd_some hu
    obtain rfl := Eff.val.inj (Option.some.inj h4)
    have hr := (eval_rel h hx).1
    generalize hc : a.eval x = c at hr
    cases hr with
    | ptr t0 b o' hb ht => exact VOk.val h _ (key _ _ hc) (.ptr _ _ _ hb ht)
    | eptr k e of b off cs g1 g2 g3 g4 g5 =>
     have := key _ _ hc
     rw [Nat.add_assoc] at this
     exact VOk.val h _ this (.eptr k e (of + fd.offset) b off cs g1 g2 g3 g4 g5)
    | _ => simp [V.isPtr] at hu
   ·simp at h3
 ·simp at h1
theorem val_indexAddr (hC : CtxOk P C) (h : Inv C.glob G lam a w st) {o : Oper} {t : TypeId} {x ix : Operand} {y : RV} (ho : o.op = .indexAddr t x ix) (ha : act C H o st.regs = some (.val y)) : VOk P C H G lam a w st o y := by
 simp only [act, ho] at ha
 obtain ⟨i, hi, h1⟩ := bind2 ha
 clear ha
 obtain ⟨d1, hd1, hk1⟩ := (hC.T t i hi).desc
 split at h1
 ·rename_i e hkk
  rw [hkk] at hk1
  obtain rfl := kok_slice hk1
  obtain ⟨ei, hei, h2⟩ := bind2 h1
  obtain ⟨v, hv, h3⟩ := bind2 h2
  obtain ⟨es, hes, h4⟩ := bind2 h3
  obtain ⟨wv, hw, h5⟩ := bind2 h4
  obtain ⟨n, hn, h6⟩ := bind2 h5
  obtain ⟨u, hu, h7⟩ := bind2 h6
  clear h1 h2 h3 h4 h5 h6
  have hu := grd_some hu
  simp only [Bool.and_eq_true, decide_eq_true_eq] at hu
  obtain rfl := Eff.val.inj (Option.some.inj h7)
  have hix := vk_int h hw hn
  obtain ⟨hr, _⟩ := asSlice_rel hes (vk_rel h hv)
  rcases rel_slice hr with ⟨rfl, _⟩ | ⟨b, off, cap, cs, hc, g1, g2, g3, g4, g5, g6, g7⟩
  ·simp at hu; omega
  ·have hlt : n.toNat < es.length := by omega
   have hlt' : n.toNat < cs.length := by omega
   refine VOk.val h (.pointer (some ⟨b, off + n.toNat * ei.size + 0, none⟩)) ?_ (.eptr ei.size _ 0 b (off + n.toNat * ei.size) cs[n.toNat] ?_ ?_ ?_ ?_ ?_)
   ·simp [execOp, ho, Instr.indexAt, hix, asIntOf, run_underlying_of hd1, hc, run_sizeOf_of (hC.T _ _ hei), hu, add_plain]
   ·rw [List.getD_eq_getElem?_getD, List.getElem?_eq_getElem hlt]; exact g4 _ _ (List.getElem?_eq_getElem hlt)
   ·exact g5 _ _ (List.getElem?_eq_getElem hlt')
   ·have : (n.toNat + 1) * ei.size ≤ es.length * ei.size := Nat.mul_le_mul_right _ (by omega)
    rw [Nat.succ_mul] at this
    omega
   ·intro j c hj
    exact g6 _ j _ c (List.getElem?_eq_getElem hlt') hj
   ·intro j v c hv hj
    rw [List.getD_eq_getElem?_getD, List.getElem?_eq_getElem hlt] at hv
    exact g7 _ j _ _ v c (List.getElem?_eq_getElem hlt) (List.getElem?_eq_getElem hlt') hv hj
 ·rename_i len e hkk
  rw [hkk] at hk1
  obtain rfl := (kok_array hk1)
  obtain ⟨ei, hei, h2⟩ := bind2 h1
  obtain ⟨p, hp, h3⟩ := bind2 h2
  obtain ⟨u1, hu1, h4⟩ := bind2 h3
  obtain ⟨wv, hw, h5⟩ := bind2 h4
  obtain ⟨n, hn, h6⟩ := bind2 h5
  obtain ⟨u, hu, h7⟩ := bind2 h6
  clear h1 h2 h3 h4 h5 h6
  have hu := grd_some hu
  have hu1 := grd_some hu1
  simp only [Bool.and_eq_true, decide_eq_true_eq] at hu
  obtain rfl := Eff.val.inj (Option.some.inj h7)
  have hix := vk_int h hw hn
  have hr := vk_rel h hp
  have key : ∀ b of, a.eval x = .pointer (some ⟨b, of, none⟩) → (execOp a.eval o).run P w = .ok (.value (.pointer (some ⟨b, of + n.toNat * ei.size, none⟩))) w := by
   intro b of hx
   simp [execOp, ho, Instr.indexAt, hix, asIntOf, run_underlying_of hd1, hx, Instr.sureAddr, run_sizeOf_of (hC.T _ _ hei), hu, add_plain]
  generalize hc : a.eval x = c at hr
  cases hr with
  | ptr t0 b o' hb ht => exact VOk.val h _ (key _ _ hc) (.ptr _ _ _ hb ht)
  | eptr k e' of b off cs g1 g2 g3 g4 g5 =>
   have := key _ _ hc
   rw [Nat.add_assoc] at this
   exact VOk.val h _ this (.eptr k e' (of + n.toNat * ei.size) b off cs g1 g2 g3 g4 g5)
  | _ => simp [V.isPtr] at hu1
 ·simp at h1
end
end Go.Ab
end
section
namespace Go.Ab
section
variable {P : Program} {C : Ctx} {H : Hints} {G : Gh} {lam : Nat → Nat} {a : Act} {w : World} {st : St}
theorem range_get {n i : Nat} {f : Nat → V} {v : V} (h : ((List.range n).map f)[i]? = some v) : i < n ∧ v = f i := by
 obtain ⟨h1, h2⟩ := List.getElem?_eq_some_iff.1 h
 simp at h1 h2
 exact ⟨h1, h2.symm⟩
theorem agg_part {cs : List V} {xs : List Value} (h1 : xs.length = cs.length) (h2 : ∀ (i : Nat) (x : Value), xs[i]? = some x → x.oneCell' = true) (h3 : ∀ (i : Nat) (v : V) (x : Value), cs[i]? = some v → xs[i]? = some x → Rel G w v x)
  (off n : Nat) (hn : off + n ≤ cs.length) : Rel G w (.agg ((List.range n).map fun j => (V.agg cs).cell (off + j))) (.agg ((xs.drop off).take n).toArray) := by
 refine .agg _ _ (by simp; omega) (fun i x hx => ?_) (fun i v x hv hx => ?_)
 ·rw [List.getElem?_take] at hx
  split at hx
  ·rw [List.getElem?_drop] at hx; exact h2 _ x hx
  ·simp at hx
 ·obtain ⟨hi, rfl⟩ := range_get hv
  rw [List.getElem?_take, if_pos hi, List.getElem?_drop] at hx
  have hlt : off + i < cs.length := by omega
  simp only [V.cell, List.getD_eq_getElem?_getD, List.getElem?_eq_getElem hlt, Option.getD_some]
  exact h3 (off + i) _ x (List.getElem?_eq_getElem hlt) hx
theorem part_run {t : TypeId} {i : TI} (h : TOk P t i) {cs : List V} {xs : List Value} (h1 : xs.length = cs.length) (h2 : ∀ (i : Nat) (x : Value), xs[i]? = some x → x.oneCell' = true) (h3 : ∀ (i : Nat) (v : V) (x : Value), cs[i]? = some v → xs[i]? = some x → Rel G w v x)
  (off : Nat) (hn : off + i.size ≤ cs.length) (hs : i.agg = false → 0 < i.size) :
  ∃ c, (part t xs.toArray off).run P w = .ok c w ∧ Rel G w (if i.agg then .agg ((List.range i.size).map fun j => (V.agg cs).cell (off + j)) else (V.agg cs).cell off) c := by
 simp only [part, Sem.run_bind, run_isAgg_of h, Result.andThen_ok]
 cases hi : i.agg with
 | true =>
  refine ⟨_, ?_, agg_part h1 h2 h3 off i.size hn⟩
  simp only [if_true, Sem.run_bind, run_sizeOf_of h, Result.andThen_ok, Sem.run_pure]
  congr 2
  apply Array.ext'
  simp [List.extract_eq_drop_take]
 | false =>
  have hlt : off < cs.length := by have := hs hi; omega
  have hlt' : off < xs.length := by omega
  refine ⟨xs[off], ?_, ?_⟩
  ·simp [hlt']
  ·simp only [Bool.false_eq_true, if_false, V.cell, List.getD_eq_getElem?_getD, List.getElem?_eq_getElem hlt, Option.getD_some]
   exact h3 off _ _ (List.getElem?_eq_getElem hlt) (List.getElem?_eq_getElem hlt')
theorem fits_agg {v : V} {c : Value} {n : Nat} (h : Rel G w v c) (hf : v.fits true n = true) : ∃ cs, ∃ xs : List Value, v = .agg cs ∧ c = .agg xs.toArray ∧ cs.length = n ∧ xs.length = cs.length ∧
  (∀ (i : Nat) (x : Value), xs[i]? = some x → x.oneCell' = true) ∧ (∀ (i : Nat) (v : V) (x : Value), cs[i]? = some v → xs[i]? = some x → Rel G w v x) := by
 cases h <;> simp [V.fits] at hf
 exact ⟨_, _, rfl, rfl, hf, ‹_›, ‹_›, ‹_›⟩
theorem val_field (hC : CtxOk P C) (h : Inv C.glob G lam a w st) {o : Oper} {t : TypeId} {x : Operand} {f : Nat} {y : RV} (ho : o.op = .field t x f) (ha : act C H o st.regs = some (.val y)) : VOk P C H G lam a w st o y := by
 simp only [act, ho] at ha
 obtain ⟨i, hi, h1⟩ := bind2 ha
 clear ha
 obtain ⟨d1, hd1, hk1⟩ := (hC.T t i hi).desc
 split at h1
 ·rename_i fs hfs
  rw [hfs] at hk1
  obtain ⟨fields, rfl, hm⟩ := kok_struct hk1
  obtain ⟨p, hp, h2⟩ := bind2 h1
  obtain ⟨fi, hfi, h3⟩ := bind2 h2
  obtain ⟨v, hv, h4⟩ := bind2 h3
  obtain ⟨u, hu, h5⟩ := bind2 h4
  clear h1 h2 h3 h4
  have hu := grd_some hu
  simp only [Bool.and_eq_true, decide_eq_true_eq] at hu
  rw [← hm, List.getElem?_map, Option.map_eq_some_iff] at hp
  obtain ⟨fd, hfd, rfl⟩ := hp
  have hfd' : fields[f]? = some fd := by simpa using hfd
  obtain ⟨cs, xs, rfl, hx, g0, g1, g2, g3⟩ := fits_agg (vk_rel h hv) hu.1.1
  obtain ⟨c, hc1, hc2⟩ := part_run (P := P) (hC.T _ _ hfi) g1 g2 g3 fd.offset (by rw [g0]; exact hu.1.2) (fun hh => by simpa [hh] using hu.2)
  have hrun : (execOp a.eval o).run P w = .ok (.value c) w := by
   simp [execOp, ho, Instr.field, run_underlying_of hd1, hfd', hx, asAgg, hc1]
  split at h5
  ·rename_i hag
   obtain rfl := Eff.val.inj (Option.some.inj h5)
   rw [if_pos hag] at hc2
   exact VOk.val h c hrun hc2
  ·rename_i hag
   obtain rfl := Eff.val.inj (Option.some.inj h5)
   rw [if_neg hag] at hc2
   exact VOk.val h c hrun hc2
 ·simp at h1
theorem val_index (hC : CtxOk P C) (h : Inv C.glob G lam a w st) {o : Oper} {t : TypeId} {x ix : Operand} {y : RV} (ho : o.op = .index t x ix) (ha : act C H o st.regs = some (.val y)) : VOk P C H G lam a w st o y := by
 simp only [act, ho] at ha
 obtain ⟨i, hi, h1⟩ := bind2 ha
 clear ha
 obtain ⟨d1, hd1, hk1⟩ := (hC.T t i hi).desc
 split at h1
 ·rename_i hkk
  rw [hkk] at hk1
  obtain rfl := kok_string hk1
  obtain ⟨v, hv, h2⟩ := bind2 h1
  obtain ⟨s, hs, h3⟩ := bind2 h2
  obtain ⟨wv, hw, h4⟩ := bind2 h3
  obtain ⟨n, hn, h5⟩ := bind2 h4
  obtain ⟨u, hu, h6⟩ := bind2 h5
  clear h1 h2 h3 h4 h5
  have hu := grd_some hu
  simp only [Bool.and_eq_true, decide_eq_true_eq] at hu
  obtain rfl := Eff.val.inj (Option.some.inj h6)
  have hix := vk_int h hw hn
  have hlt : n.toNat < s.size := by omega
  refine VOk.val h (.int .u8 (byteAt s n.toNat)) ?_ (.int _ _)
  have hb : s[n.toNat]? = some s[n.toNat] := getElem?_pos s n.toNat hlt
  have hb2 : byteAt s n.toNat = (s[n.toNat].toNat : Int) := by
   unfold byteAt
   rw [List.getD_eq_getElem?_getD, List.getElem?_eq_getElem (by simpa using hlt)]
   rfl
  simp only [execOp, ho, Instr.index, hix, asIntOf, vk_str h hv hs, Sem.run_bind, Sem.run_pure, Result.andThen_ok, run_underlying_of hd1, if_pos hu.1, hb, hb2]
 ·rename_i len e hkk
  rw [hkk] at hk1
  obtain rfl := kok_array hk1
  obtain ⟨ei, hei, h2⟩ := bind2 h1
  split at h2
  ·simp at h2
  ·rename_i hag
   split at h2
   ·simp at h2
   ·rename_i hsz
    obtain ⟨v, hv, h3⟩ := bind2 h2
    obtain ⟨u1, hu1, h4⟩ := bind2 h3
    obtain ⟨wv, hw, h5⟩ := bind2 h4
    obtain ⟨n, hn, h6⟩ := bind2 h5
    obtain ⟨u, hu, h7⟩ := bind2 h6
    clear h1 h2 h3 h4 h5 h6
    have hu := grd_some hu
    have hu1 := grd_some hu1
    simp only [Bool.and_eq_true, decide_eq_true_eq] at hu
    obtain rfl := Eff.val.inj (Option.some.inj h7)
    have hix := vk_int h hw hn
    obtain ⟨cs, xs, rfl, hx, g0, g1, g2, g3⟩ := fits_agg (vk_rel h hv) hu1
    have hsz : ei.size = 1 := by simpa using hsz
    obtain ⟨c, hc1, hc2⟩ := part_run (P := P) (hC.T _ _ hei) g1 g2 g3 n.toNat (by rw [g0, hsz]; omega) (fun _ => by omega)
    rw [if_neg hag] at hc2
    refine VOk.val h c ?_ hc2
    simp [execOp, ho, Instr.index, hix, asIntOf, hx, run_underlying_of hd1, hu, run_sizeOf_of (hC.T _ _ hei), hsz, hc1]
 ·simp at h1
theorem findNow_look (s : ByteArray) : ∀ (l : List MapEntry) (es : List (ByteArray × Int)) (i : Nat), l.map (fun e => (e.key, e.val)) = es.map (fun p => (Value.string p.1, Value.int .i64 p.2)) →
  ∃ r, Instr.findNow .string (.string s) l i = some r ∧ ((∃ j, r = some (j, .int .i64 (mapLook es s))) ∨ (r = none ∧ mapLook es s = 0))
 | [], es, i, h => by
  cases es with
  | nil => exact ⟨none, rfl, .inr ⟨rfl, rfl⟩⟩
  | cons p es => simp at h
 | e :: l, es, i, h => by
  cases es with
  | nil => simp at h
  | cons p es =>
   obtain ⟨k, n⟩ := p
   simp only [List.map_cons, List.cons.injEq, Prod.mk.injEq] at h
   obtain ⟨⟨h1, h2⟩, h3⟩ := h
   have hb : (s == k) = (s.toList == k.toList) := by
    rw [Bool.eq_iff_iff, Go.MapKept.bytes_beq, beq_iff_eq, Go.ByteArray.toList_eq, Go.ByteArray.toList_eq]
    exact ⟨fun h => by rw [h], fun h => ByteArray.ext (Array.toList_inj.1 h)⟩
   simp only [Instr.findNow, h1, h2, Instr.sameNow, mapLook]
   rw [hb]
   cases s.toList == k.toList with
   | true => exact ⟨_, rfl, .inl ⟨i, rfl⟩⟩
   | false => exact findNow_look s l es (i + 1) h3
theorem val_lookup (hC : CtxOk P C) (h : Inv C.glob G lam a w st) {o : Oper} {t : TypeId} {x ix : Operand} {ok : Bool} {y : RV} (ho : o.op = .lookup t x ix ok) (ha : act C H o st.regs = some (.val y)) : VOk P C H G lam a w st o y := by
 simp only [act, ho] at ha
 obtain ⟨i, hi, h1⟩ := bind2 ha
 clear ha
 obtain ⟨d1, hd1, hk1⟩ := (hC.T t i hi).desc
 split at h1
 ·rename_i k e hkk
  rw [hkk] at hk1
  obtain rfl := kok_map hk1
  obtain ⟨ki, hki, h2⟩ := bind2 h1
  obtain ⟨ei, hei, h3⟩ := bind2 h2
  obtain ⟨d2, hd2, hk2⟩ := (hC.T k ki hki).desc
  split at h3
  ·rename_i hkk2 hkk3
   rw [hkk2] at hk2
   obtain rfl := kok_string hk2
   obtain ⟨info, g1, g2⟩ := (hC.T e ei hei).izero _ hkk3
   obtain ⟨v, hv, h4⟩ := bind2 h3
   obtain ⟨es, hes, h5⟩ := bind2 h4
   obtain ⟨wv, hw, h6⟩ := bind2 h5
   obtain ⟨s, hs, h7⟩ := bind2 h6
   obtain rfl := Eff.val.inj (Option.some.inj h7)
   have hix := vk_str h hw hs
   have hx := vk_rel h hv
   have hzv : (zeroValue e).run P w = .ok (.int .i64 0) w := by simp [zeroValue, run_typeInfo_of g1, g2]
   generalize hxe : a.eval x = xv at hx
   refine VOk.val h (.int .i64 (mapLook es s)) ?_ (.int _ _)
   cases hx with
   | map es' b ents clock m1 m2 m4 =>
    have m3 := peek_map m2
    obtain rfl : es' = es := by simpa [V.asMap] using hes
    obtain ⟨r, f1, f2⟩ := findNow_look s ents.toList es' 0 m4
    have hck : ∀ em, (Instr.checkKey em 10000 k (.string s)).run P w = .ok () w := fun em => by
     rw [show (10000 : Nat) = 9999 + 1 from rfl, Instr.checkKey, Sem.run_bind, run_underlying_of hd2]
     rfl
    have hfk : (Instr.findKey k (.string s) ents.toList).run P w = .ok r w := by
     rw [Instr.findKey, Sem.run_bind, run_underlying_of hd2, Result.andThen_ok, f1]
     rfl
    have hgo : (getObj b).run P w = .ok (.map ents clock) w := by simp only [getObj, Sem.run, m3]
    simp only [execOp, ho, Instr.lookup, hix, hxe, Sem.run_bind, run_underlying_of hd1, Result.andThen_ok, hgo, Sem.run_pure, hck, hfk]
    rcases f2 with ⟨j, rfl⟩ | ⟨rfl, f3⟩
    ·simp
    ·simp [hzv, f3]
   | _ => simp [V.asMap] at hes
  ·simp at h3
 ·simp at h1
theorem val_len (hC : CtxOk P C) (h : Inv C.glob G lam a w st) {o : Oper} {c : Call} {y : RV} (ho : o.op = .call c) (hb : c.callee = .builtin .len) (ha : act C H o st.regs = some (.val y)) : VOk P C H G lam a w st o y := by
 simp only [act, ho, hb] at ha
 split at ha
 ·rename_i x t hx ht
  obtain ⟨i, hi, h1⟩ := bind2 ha
  clear ha
  obtain ⟨d1, hd1, hk1⟩ := (hC.T t i hi).desc
  have hxa : c.args = #[x] := Array.ext' (by simp [hx])
  have hta : c.argTypes = #[t] := Array.ext' (by simp [ht])
  have key : ∀ r, (Builtin.len_ #[t] o.type #[a.eval x]).run P w = .ok r w → (execOp a.eval o).run P w = .ok (.value r) w := by
   intro r hr
   simp [execOp, ho, resolve, hb, hxa, hta, invoke, builtin, hr]
  split at h1
  ·rename_i hkk
   rw [hkk] at hk1
   obtain rfl := kok_string hk1
   obtain ⟨v, hv, h2⟩ := bind2 h1
   obtain ⟨s, hs, h3⟩ := bind2 h2
   obtain rfl := Eff.val.inj (Option.some.inj h3)
   refine VOk.val h _ (key (.int .i64 s.size) ?_) (.int _ _)
   simp [Builtin.len_, run_underlying_of hd1, vk_str h hv hs, goInt]
  ·rename_i e hkk
   rw [hkk] at hk1
   obtain rfl := kok_slice hk1
   obtain ⟨ei, hei, h2⟩ := bind2 h1
   obtain ⟨v, hv, h3⟩ := bind2 h2
   obtain ⟨es, hes, h4⟩ := bind2 h3
   obtain rfl := Eff.val.inj (Option.some.inj h4)
   obtain ⟨hr, _⟩ := asSlice_rel hes (vk_rel h hv)
   refine VOk.val h _ (key (.int .i64 es.length) ?_) (.int _ _)
   rcases rel_slice hr with ⟨rfl, hc⟩ | ⟨b, off, cap, cs, hc, _⟩ <;> simp [Builtin.len_, run_underlying_of hd1, hc, goInt]
  ·rename_i n e hkk
   rw [hkk] at hk1
   obtain rfl := kok_array hk1
   obtain rfl := Eff.val.inj (Option.some.inj h1)
   refine VOk.val h _ (key (.int .i64 n) ?_) (.int _ _)
   simp [Builtin.len_, run_underlying_of hd1, goInt]
  ·simp at h1
 ·simp at ha
theorem val_max (h : Inv C.glob G lam a w st) {o : Oper} {c : Call} {y : RV} (ho : o.op = .call c) (hb : c.callee = .builtin .max) (ha : act C H o st.regs = some (.val y)) : VOk P C H G lam a w st o y := by
 simp only [act, ho, hb] at ha
 split at ha
 ·rename_i x z hx
  obtain ⟨v, hv, h1⟩ := bind2 ha
  obtain ⟨m, hm, h2⟩ := bind2 h1
  obtain ⟨v', hv', h3⟩ := bind2 h2
  obtain ⟨n, hn, h4⟩ := bind2 h3
  obtain rfl := Eff.val.inj (Option.some.inj h4)
  have hxa : c.args = #[x, z] := Array.ext' (by simp [hx])
  refine VOk.val h (.int .i64 (if m < n then n else m)) ?_ (.int _ _)
  simp [execOp, ho, resolve, hb, hxa, invoke, builtin, Builtin.max_, Builtin.max2, vk_int h hv hm, vk_int h hv' hn]
 ·simp at ha
theorem optInt_some (h : Inv C.glob G lam a w st) {x : Option Operand} {d n : Int} (hx : optInt C st.regs x d = some n) : (x = none ∧ n = d) ∨ ∃ y, x = some y ∧ a.eval y = .int .i64 n := by
 cases x with
 | none => simp [optInt] at hx; exact .inl ⟨rfl, hx.symm⟩
 | some y =>
  simp only [optInt] at hx
  obtain ⟨v, h1, h2⟩ := bind2 hx
  exact .inr ⟨y, rfl, vk_int h h1 h2⟩
theorem rel_subslice {k : Nat} {et : TypeId} {es : List (List V)} {b off cap : Nat} (h : Rel G w (.slice k et es) (.slice (some ⟨b, off, none⟩) es.length cap)) {l r c' : Nat} (hl : l ≤ r) (hr : r ≤ es.length) (hc : r - l ≤ c') :
  Rel G w (.slice k et ((es.take r).drop l)) (.slice (some ⟨b, off + l * k, none⟩) (r - l) c') := by
 cases h with
 | slice _ _ _ _ _ _ cs h1 h2 h3 h4 h5 h6 h7 =>
  have hlen : ((es.take r).drop l).length = r - l := by simp; omega
  have sub : ∀ (i : Nat) (e : List V), ((es.take r).drop l)[i]? = some e → es[l + i]? = some e := by
   intro i e he
   rw [List.getElem?_drop, List.getElem?_take] at he
   split at he
   ·exact he
   ·simp at he
  have subc : ∀ (i : Nat) (e : List Value), ((cs.take r).drop l)[i]? = some e → cs[l + i]? = some e := by
   intro i e he
   rw [List.getElem?_drop, List.getElem?_take] at he
   split at he
   ·exact he
   ·simp at he
  have := Rel.slice (G := G) (w := w) k et ((es.take r).drop l) b (off + l * k) c' ((cs.take r).drop l) (by simp; omega) (by rw [hlen]; exact hc) (by
    rw [hlen]
    have : (r - l) * k + l * k = r * k := by rw [← Nat.add_mul]; congr 1; omega
    have h9 : r * k ≤ es.length * k := Nat.mul_le_mul_right _ hr
    omega)
   (fun i e he => h4 _ e (sub i e he)) (fun i x hx => h5 _ x (subc i x hx))
   (fun i j x c hx hc => by
    have := h6 (l + i) j x c (subc i x hx) hc
    rw [Nat.add_mul] at this
    rw [show off + l * k + i * k + j = off + (l * k + i * k) + j by omega]
    exact this)
   (fun i j e x v c he hx hv hc => h7 (l + i) j e x v c (sub i e he) (subc i x hx) hv hc)
  rw [hlen] at this
  exact this
theorem sliceBound_run {x : Value} {y : Nat} {code : BoundsCode} {n : Int} (hx : x = .int .i64 n) (h0 : 0 ≤ n) (h1 : n ≤ y) : (Instr.sliceBound x y code).run P w = .ok n.toNat w := by
 subst hx
 simp [Instr.sliceBound, asIntOf, h0, h1]
theorem sliceBounds_run {isS : Bool} {len cap : Nat} {lo hi : Option Value} {l r : Int} (hl : (lo = none ∧ l = 0) ∨ lo = some (.int .i64 l)) (hr : (hi = none ∧ r = len) ∨ hi = some (.int .i64 r))
  (h0 : 0 ≤ l) (h1 : l ≤ r) (h2 : r ≤ cap) : (Instr.sliceBounds isS len cap lo hi none).run P w = .ok (l.toNat, r.toNat, cap) w := by
 have e1 : ∀ code, (Instr.sliceBound (.int .i64 r) cap code).run P w = .ok r.toNat w := fun code => sliceBound_run rfl (by omega) h2
 have e2 : ∀ code, (Instr.sliceBound (.int .i64 l) r.toNat code).run P w = .ok l.toNat w := fun code => sliceBound_run rfl h0 (by omega)
 rcases hl with ⟨rfl, rfl⟩ | rfl <;> rcases hr with ⟨rfl, rfl⟩ | rfl
 ·simp [Instr.sliceBounds]
 ·simp [Instr.sliceBounds, e1]
 ·simp only [Int.toNat_natCast] at e2
  simp [Instr.sliceBounds, e2]
 ·simp [Instr.sliceBounds, e1, e2]
theorem sliceBounds_run3 {isS : Bool} {len cap : Nat} {lo : Option Value} {l r : Int} (hl : (lo = none ∧ l = 0) ∨ lo = some (.int .i64 l))
  (h0 : 0 ≤ l) (h1 : l ≤ r) (h2 : r ≤ cap) : (Instr.sliceBounds isS len cap lo (some (.int .i64 r)) (some (.int .i64 r))).run P w = .ok (l.toNat, r.toNat, r.toNat) w := by
 have e1 : ∀ code, (Instr.sliceBound (.int .i64 r) cap code).run P w = .ok r.toNat w := fun code => sliceBound_run rfl (by omega) h2
 have e3 : ∀ code, (Instr.sliceBound (.int .i64 r) r.toNat code).run P w = .ok r.toNat w := fun code => sliceBound_run rfl (by omega) (by omega)
 have e2 : ∀ code, (Instr.sliceBound (.int .i64 l) r.toNat code).run P w = .ok l.toNat w := fun code => sliceBound_run rfl h0 (by omega)
 rcases hl with ⟨rfl, rfl⟩ | rfl
 ·simp [Instr.sliceBounds, e1, e3]
 ·simp [Instr.sliceBounds, e1, e2, e3]
theorem optVal (h : Inv C.glob G lam a w st) {x : Option Operand} {d n : Int} (hx : optInt C st.regs x d = some n) : (x.map a.eval = none ∧ n = d) ∨ x.map a.eval = some (.int .i64 n) := by
 rcases optInt_some h hx with ⟨rfl, rfl⟩ | ⟨y, rfl, hy⟩
 ·exact .inl ⟨rfl, rfl⟩
 ·exact .inr (by simp [hy])
theorem val_slice (hC : CtxOk P C) (h : Inv C.glob G lam a w st) {o : Oper} {t : TypeId} {x : Operand} {lo hi mx : Option Operand} {y : RV} (ho : o.op = .slice t x lo hi mx) (ha : act C H o st.regs = some (.val y)) : VOk P C H G lam a w st o y := by
 simp only [act, ho] at ha
 obtain ⟨i, hi', h1⟩ := bind2 ha
 clear ha
 obtain ⟨d1, hd1, hk1⟩ := (hC.T t i hi').desc
 split at h1
 ·rename_i hkk
  rw [hkk] at hk1
  obtain rfl := kok_string hk1
  split at h1
  ·simp at h1
  ·rename_i hmx
   have hmx : mx = none := by simpa using hmx
   subst hmx
   obtain ⟨v, hv, h2⟩ := bind2 h1
   obtain ⟨s, hs, h3⟩ := bind2 h2
   obtain ⟨l, hl, h4⟩ := bind2 h3
   obtain ⟨r, hr, h5⟩ := bind2 h4
   obtain ⟨u, hu, h6⟩ := bind2 h5
   clear h1 h2 h3 h4 h5
   have hu := grd_some hu
   simp only [Bool.and_eq_true, decide_eq_true_eq] at hu
   obtain rfl := Eff.val.inj (Option.some.inj h6)
   refine VOk.val h (.string (s.extract l.toNat r.toNat)) ?_ (.str _)
   have hs' := vk_str h hv hs
   have hb := sliceBounds_run (P := P) (w := w) (isS := false) (len := s.size) (cap := s.size) (optVal h hl) (optVal h hr) hu.1.1 hu.1.2 hu.2
   simp only [execOp, ho, Instr.sliceAt, Instr.slice, Sem.run_bind, run_underlying_of hd1, Result.andThen_ok, hs', Option.map_none, hb]
   simp [hb]
 ·rename_i e hkk
  rw [hkk] at hk1
  obtain rfl := kok_slice hk1
  obtain ⟨ei, hei, h2⟩ := bind2 h1
  obtain ⟨v, hv, h3⟩ := bind2 h2
  obtain ⟨es, hes, h4⟩ := bind2 h3
  obtain ⟨l, hl, h5⟩ := bind2 h4
  obtain ⟨r, hr, h6⟩ := bind2 h5
  obtain ⟨u, hu, h7⟩ := bind2 h6
  clear h1 h2 h3 h4 h5 h6
  have hu := grd_some hu
  simp only [Bool.and_eq_true, decide_eq_true_eq] at hu
  obtain ⟨hrel, _⟩ := asSlice_rel hes (vk_rel h hv)
  -- the real value's parts
  have key : ∀ (m : Nat → Nat) , (∀ cap, (Instr.sliceBounds true es.length cap (lo.map a.eval) (hi.map a.eval) (mx.map a.eval)).run P w = .ok (l.toNat, r.toNat, m cap) w ∨ ¬ es.length ≤ cap) → (∀ cap, es.length ≤ cap → r.toNat ≤ m cap) → (m 0 = 0 ∨ es ≠ []) →
    ∃ c, (execOp a.eval o).run P w = .ok (.value c) w ∧ Rel G w (.slice ei.size e ((es.take r.toNat).drop l.toNat)) c ∧ ∀ ao n cap, c = .slice ao n cap → ∃ cap0, es.length ≤ cap0 ∧ n = r.toNat - l.toNat ∧ cap = m cap0 - l.toNat := by
   intro m hm hm2 hm3
   have hsz := run_sizeOf_of (w := w) (hC.T _ _ hei)
   rcases rel_slice hrel with ⟨rfl, hc⟩ | ⟨b, off, cap, cs, hc, g1, g2, g3, g4, g5, g6, g7⟩
   ·have hb := (hm 0).resolve_right (by simp)
    have hl0 : l.toNat = 0 := by simp at hu; omega
    have hr0 : r.toNat = 0 := by simp at hu; omega
    have hm0 : m 0 = 0 := hm3.resolve_right (by simp)
    refine ⟨.slice none 0 0, ?_, by rw [hl0, hr0]; exact .snil _ _, fun ao n cp hh => ⟨0, by simp, ?_, ?_⟩⟩
    ·rw [hl0, hr0, hm0] at hb
     simp only [List.length_nil] at hb
     simp [execOp, ho, Instr.sliceAt, Instr.slice, run_underlying_of hd1, hc, hb, hsz]
    ·simp at hh; omega
    ·simp at hh; omega
   ·have hb := (hm cap).resolve_right (by omega)
    have hm' := hm2 cap g2
    have hrel' := hrel
    rw [hc] at hrel'
    have hsub := rel_subslice hrel' (l := l.toNat) (r := r.toNat) (c' := m cap - l.toNat) (by omega) (by omega) (by omega)
    by_cases hml : m cap = l.toNat
    ·refine ⟨.slice (some ⟨b, off, none⟩) (r.toNat - l.toNat) (m cap - l.toNat), ?_, ?_, fun ao n cp hh => ⟨cap, g2, ?_, ?_⟩⟩
     ·simp [execOp, ho, Instr.sliceAt, Instr.slice, run_underlying_of hd1, hc, hb, hsz, hml]
     ·have h0 : r.toNat - l.toNat = 0 := by omega
      have he : (es.take r.toNat).drop l.toNat = [] := by apply List.drop_eq_nil_of_le; simp; omega
      rw [he, h0]
      have := Rel.slice (G := G) (w := w) ei.size e [] b off (m cap - l.toNat) [] rfl (by simp) (by simp; omega) (by simp) (by simp) (by simp) (by simp)
      simpa using this
     ·simp at hh; omega
     ·simp at hh; omega
    ·refine ⟨.slice (some ⟨b, off + l.toNat * ei.size, none⟩) (r.toNat - l.toNat) (m cap - l.toNat), ?_, hsub, fun ao n cp hh => ⟨cap, g2, ?_, ?_⟩⟩
     ·simp [execOp, ho, Instr.sliceAt, Instr.slice, run_underlying_of hd1, hc, hb, hsz, hml, add_plain]
     ·simp at hh; omega
     ·simp at hh; omega
  split at h7
  ·obtain rfl := Eff.val.inj (Option.some.inj h7)
   obtain ⟨c, k1, k2, _⟩ := key (fun cap => cap) (fun cap => by
    by_cases hcap : es.length ≤ cap
    ·exact .inl (sliceBounds_run (optVal h hl) (optVal h hr) hu.1.1 hu.1.2 (by omega))
    ·exact .inr hcap) (fun cap hcap => by omega) (.inl rfl)
   exact VOk.val h c k1 k2
  ·rename_i q
   split at h7
   case isFalse => simp at h7
   rename_i hhi
   obtain ⟨m, hm, h8⟩ := bind2 h7
   obtain ⟨u2, hu2, h9⟩ := bind2 h8
   have hrm := of_decide_eq_true (grd_some hu2)
   subst hrm
   obtain rfl := Eff.val.inj (Option.some.inj h9)
   obtain ⟨p, rfl⟩ := Option.isSome_iff_exists.1 hhi
   have e1 : (some p).map a.eval = some (.int .i64 r) := by
    rcases optVal h hr with ⟨h1, _⟩ | h1
    ·simp at h1
    ·exact h1
   have e2 : (some q).map a.eval = some (.int .i64 r) := by
    rcases optVal h hm with ⟨h1, _⟩ | h1
    ·simp at h1
    ·exact h1
   obtain ⟨c, k1, k2, k3⟩ := key (fun _ => r.toNat) (fun cap => by
    by_cases hcap : es.length ≤ cap
    ·left
     rw [e1, e2]
     exact sliceBounds_run3 (optVal h hl) hu.1.1 hu.1.2 (by omega)
    ·exact .inr hcap) (fun cap hcap => Nat.le_refl _) (by
    by_cases h0 : es = []
    ·left; subst h0; simp at hu; omega
    ·exact .inr h0)
   refine VOk.pure h c k1 fun _ => ⟨.full _ _ _ _ k2 fun a n cap hc => ?_, fun _ => trivial⟩
   obtain ⟨cap0, _, g1, g2⟩ := k3 a n cap hc
   omega
 ·rename_i n e hkk
  rw [hkk] at hk1
  obtain rfl := kok_array hk1
  obtain ⟨ei, hei, h2⟩ := bind2 h1
  split at h2
  ·simp at h2
  ·rename_i hne
   have hmx : mx = none := by
    cases mx with
    | none => rfl
    | some _ => exact absurd (.inl rfl) hne
   subst hmx
   have hes : ei.size = 1 := by
    by_cases h0 : ei.size = 1
    ·exact h0
    ·exact absurd (.inr h0) hne
   obtain ⟨v, hv, h3⟩ := bind2 h2
   obtain ⟨vs, hvs, h4⟩ := bind2 h3
   obtain ⟨l, hl, h5⟩ := bind2 h4
   obtain ⟨r, hr, h6⟩ := bind2 h5
   obtain ⟨u, hu, h7⟩ := bind2 h6
   clear h1 h2 h3 h4 h5 h6
   have hu := grd_some hu
   simp only [Bool.and_eq_true, decide_eq_true_eq] at hu
   obtain rfl := Eff.val.inj (Option.some.inj h7)
   have hsz := run_sizeOf_of (w := w) (hC.T _ _ hei)
   have hvr := vk_rel h hv
   unfold V.asArr at hvs
   split at hvs
   case h_2 => simp at hvs
   split at hvs
   case isFalse => simp at hvs
   rename_i k0 e0 o0 hko
   obtain ⟨rfl, rfl⟩ := hko
   obtain rfl := Option.some.inj hvs
   generalize hxe : a.eval x = xv at hvr
   cases hvr with
   | eptr _ _ _ b off cs g1 g2 g3 g4 g5 =>
   have hfull : Rel G w (.slice 1 e (e0.map fun v => [v])) (.slice (some ⟨b, off, none⟩) (e0.map fun v => [v]).length k0) := by
    refine Rel.slice 1 e _ b off k0 (cs.map fun c => [c]) (by simp [g1, g2]) (by simp [g1]) (by simp [g1]; omega) (fun i y hy => ?_) (fun i y hy => ?_) (fun i j y c hy hc => ?_) (fun i j y z v c hy hz hv hc => ?_)
    ·simp only [List.getElem?_map, Option.map_eq_some_iff] at hy
     obtain ⟨_, _, rfl⟩ := hy; rfl
    ·simp only [List.getElem?_map, Option.map_eq_some_iff] at hy
     obtain ⟨_, _, rfl⟩ := hy; rfl
    ·simp only [List.getElem?_map, Option.map_eq_some_iff] at hy
     obtain ⟨c', hc', rfl⟩ := hy
     match j with
     | 0 => simp at hc; subst hc; simpa using g4 i _ hc'
     | j + 1 => simp at hc
    ·simp only [List.getElem?_map, Option.map_eq_some_iff] at hy hz
     obtain ⟨v', hv', rfl⟩ := hy
     obtain ⟨c', hc', rfl⟩ := hz
     match j with
     | 0 => simp at hc hv; subst hc; subst hv; exact g5 i _ _ hv' hc'
     | j + 1 => simp at hc
   have hsub := rel_subslice hfull (l := l.toNat) (r := r.toNat) (c' := k0 - l.toNat) (by omega) (by simp [g1]; omega) (by omega)
   have hb := sliceBounds_run (P := P) (w := w) (isS := false) (len := k0) (cap := k0) (optVal h hl) (optVal h hr) hu.1.1.1 hu.1.1.2 hu.1.2
   have hne : ¬ k0 = l.toNat := by omega
   refine VOk.val h (.slice (some ⟨b, off + l.toNat * 1, none⟩) (r.toNat - l.toNat) (k0 - l.toNat)) ?_ hsub
   rw [hes] at hsz
   simp [execOp, ho, Instr.sliceAt, Instr.sureAddr, run_underlying_of hd1, hxe, hb, hsz, hne, add_plain]
 ·simp at h1
end
end Go.Ab
end
section
namespace Go.Ab
section
variable {P : Program} {C : Ctx} {H : Hints} {G : Gh} {lam : Nat → Nat} {a : Act} {w : World} {st : St}
theorem mapM_some' {α β : Type} {f : α → Option β} : ∀ (l : List α), (∀ x, x ∈ l → (f x).isSome = true) → ∃ r, l.mapM f = some r ∧ r.length = l.length ∧ ∀ (i : Nat) x, l[i]? = some x → r[i]? = f x
 | [], _ => ⟨[], rfl, rfl, by simp⟩
 | x :: l, h => by
  obtain ⟨r, h1, h2, h3⟩ := mapM_some' l fun y hy => h y (by simp [hy])
  obtain ⟨y, hy⟩ := Option.isSome_iff_exists.1 (h x (by simp))
  refine ⟨y :: r, by simp [List.mapM_cons, hy, h1], by simp [h2], fun i z hz => ?_⟩
  cases i with
  | zero => simp at hz; subst hz; simp [hy]
  | succ i => simp at hz; simpa using h3 i z hz
theorem val_build (hC : CtxOk P C) (h : Inv C.glob G lam a w st) {o : Oper} {t : TypeId} {parts : Array (Nat × Operand)} {y : RV} (ho : o.op = .build t parts) (ha : act C H o st.regs = some (.val y)) : VOk P C H G lam a w st o y := by
 simp only [act, ho] at ha
 obtain ⟨i, hi, h1⟩ := bind2 ha
 clear ha
 have hT := hC.T t i hi
 obtain ⟨d1, hd1, hk1⟩ := hT.desc
 have fin : ∀ (cs : List V) (xs : Array Value) (ow : Bool), P.built t (parts.toList.map fun x => (x.1, a.eval x.2)) = some xs → CellsRel G w cs xs.toList → (ow = true → TightC cs xs.toList) → VOk P C H G lam a w st o (.val (.agg cs) ow) := by
  intro cs xs ow hb hc ht
  refine VOk.pure h (.agg xs) ?_ fun d => ⟨?_, fun ho => by intro i k et x hx hy; exact ht ho i k et x hx (by simpa using hy)⟩
  ·rw [← parts_map] at hb
   simp [execOp, ho, run_build w t _ xs hb]
  ·have := Rel.agg (G := G) (w := w) cs xs.toList hc.1 (fun i x hx => by
    have hlt : i < cs.length := by rw [← hc.1]; exact (List.getElem?_eq_some_iff.1 hx).1
    exact (hc.2 i _ x (List.getElem?_eq_getElem hlt) hx).2) (fun i v x hv hx => (hc.2 i v x hv hx).1)
   simpa using this
 split at h1
 ·rename_i fs hfs
  rw [hfs] at hk1
  obtain ⟨fields, rfl, hm⟩ := kok_struct hk1
  obtain ⟨info, z, e1, e2, e3, e4, e5⟩ := zero_rel hT (by simp [hfs]) G w
  split at h1
  ·rename_i hall
   obtain ⟨cs, hcs, h2⟩ := bind2 h1
   obtain rfl := Eff.val.inj (Option.some.inj h2)
   have hsome : ∀ x, x ∈ fields.toList → ((P.info? x.type).map fun i => (x.offset, i.size)).isSome = true := by
    intro x hx
    rw [List.all_eq_true] at hall
    have := hall (x.offset, x.type) (by rw [← hm]; exact List.mem_map.2 ⟨x, hx, rfl⟩)
    obtain ⟨ti, hti⟩ := Option.isSome_iff_exists.1 this
    obtain ⟨inf, hinf, _⟩ := (hC.T _ _ hti).info
    simp [hinf]
   obtain ⟨places, p1, p2, p3⟩ := mapM_some' fields.toList hsome
   obtain ⟨xs', f1, f2, _, f4⟩ := fill_ok h _ (places.toArray[·]?) (fun j p hp => by
    obtain ⟨q, hq, hp⟩ := bind2 hp
    simp only [Option.map_eq_some_iff] at hp
    obtain ⟨fi, hfi, rfl⟩ := hp
    rw [← hm, List.getElem?_map, Option.map_eq_some_iff] at hq
    obtain ⟨fd, hfd, rfl⟩ := hq
    obtain ⟨inf, hinf, hsz, _⟩ := (hC.T _ _ hfi).info
    have := p3 j fd hfd
    simp only [hinf, Option.map_some, hsz] at this
    simpa using this) parts.toList i.zero cs z.cells hcs e3
   exact fin cs xs' _ (by simp only [Program.built, e1, hd1, e2, p1]; exact f1) f2 fun ho => f4 (by simp only [Bool.and_eq_true] at ho; exact ho.2) e5
  ·simp at h1
 ·rename_i len e hkk
  rw [hkk] at hk1
  obtain rfl := kok_array hk1
  obtain ⟨info, z, e1, e2, e3, e4, e5⟩ := zero_rel hT (by simp [hkk]) G w
  obtain ⟨ei, hei, h2⟩ := bind2 h1
  obtain ⟨cs, hcs, h3⟩ := bind2 h2
  obtain rfl := Eff.val.inj (Option.some.inj h3)
  obtain ⟨inf, hinf, hsz, _⟩ := (hC.T _ _ hei).info
  obtain ⟨xs', f1, f2, _, f4⟩ := fill_ok h _ (fun j => some (j * inf.size, inf.size)) (fun j p hp => by
   simp only [Option.some.injEq] at hp
   subst hp
   simp [hsz]) parts.toList i.zero cs z.cells hcs e3
  exact fin cs xs' false (by simp only [Program.built, e1, hd1, e2, hinf]; exact f1) f2 (by simp)
 ·simp at h1
theorem gather_e {k : Nat} {e : List V} {o n : Nat} {ag : Bool} {v : V} (h : memGet [] (.eptr k e o) ag n = some v) : o + n ≤ k ∧ ((ag = true ∧ v = .agg ((List.range n).map fun i => e.getD (o + i) .any)) ∨ (ag = false ∧ n = 1 ∧ v = e.getD o .any)) := by
 simp only [memGet] at h
 split at h
 ·rename_i h1
  refine ⟨h1, ?_⟩
  split at h
  ·rename_i h2
   exact .inl ⟨h2, (Option.some.inj h).symm⟩
  ·rename_i h2
   split at h
   ·exact .inr ⟨by simpa using h2, ‹_›, (Option.some.inj h).symm⟩
   ·simp at h
 ·simp at h
theorem load_cells {t : TypeId} {i : TI} (hT : TOk P t i) (b o : Nat) (f : Nat → V) (xs : List Value) (hl : xs.length = i.size)
  (h : ∀ (j : Nat) x, xs[j]? = some x → w.cell? ⟨b, o + j, none⟩ = some x ∧ x.oneCell' = true ∧ Rel G w (f j) x) (hs : i.agg = false → i.size = 1) :
  ∃ c, (loadVar t ⟨b, o, none⟩).run P w = .ok c w ∧ Rel G w (if i.agg then .agg ((List.range i.size).map f) else f 0) c := by
 refine ⟨_, run_loadVar_of hT b o xs hl (fun j c hc => (h j c hc).1) hs, ?_⟩
 cases hag : i.agg with
 | true =>
  simp only [if_true]
  refine .agg _ _ (by simp [hl]) (fun j x hx => (h j x hx).2.1) (fun j v x hv hx => ?_)
  obtain ⟨_, rfl⟩ := range_get hv
  exact (h j x hx).2.2
 | false =>
  simp only [Bool.false_eq_true, if_false]
  have := hs hag
  match xs, hl with
  | [x], _ => exact (h 0 x rfl).2.2
  | [], hl => simp at hl; omega
  | _ :: _ :: _, hl => simp at hl; omega
theorem rel_eptr_load {t : TypeId} {i : TI} (hT : TOk P t i) {k : Nat} {e : List V} {o : Nat} {c : Value} (hr : Rel G w (.eptr k e o) c) {v : V} {σ : Sto} (hv : memGet σ (.eptr k e o) i.agg i.size = some v) :
    ∃ x, (Instr.loadAt t c).run P w = .ok x w ∧ Rel G w v x := by
  have hv' : memGet [] (.eptr k e o) i.agg i.size = some v := hv
  obtain ⟨h1, h2⟩ := gather_e hv'
  cases hr with
  | eptr _ _ _ b off cs g1 g2 g3 g4 g5 =>
    have hcl : ∀ j, j < i.size → ∃ x, cs[o + j]? = some x := fun j hj => ⟨_, List.getElem?_eq_getElem (by omega)⟩
    obtain ⟨x, e1, e2⟩ := load_cells (P := P) (G := G) (w := w) hT b (off + o) (fun j => e.getD (o + j) .any) ((cs.drop o).take i.size) (by simp; omega) (fun j x hx => by
      rw [List.getElem?_take] at hx
      split at hx
      · rw [List.getElem?_drop] at hx
        obtain ⟨q1, q2⟩ := g4 _ x hx
        refine ⟨by rw [Nat.add_assoc]; exact q1, q2, ?_⟩
        have hlt : o + j < e.length := by omega
        rw [List.getD_eq_getElem?_getD, List.getElem?_eq_getElem hlt]
        exact g5 _ _ x (List.getElem?_eq_getElem hlt) hx
      · simp at hx) (fun hh => by rcases h2 with ⟨h2, _⟩ | ⟨_, h2, _⟩; · simp [hh] at h2
                                  · exact h2)
    refine ⟨x, by simp [Instr.loadAt, Instr.sureAddr, e1], ?_⟩
    rcases h2 with ⟨q1, rfl⟩ | ⟨q1, q2, rfl⟩
    · rw [if_pos q1] at e2; exact e2
    · rw [if_neg (by simp [q1])] at e2; exact e2
theorem val_load (hC : CtxOk P C) (h : Inv C.glob G lam a w st) {o : Oper} {t : TypeId} {x : Operand} {y : RV} (ho : o.op = .load t x) (ha : act C H o st.regs = some (.val y)) : VOk P C H G lam a w st o y := by
 simp only [act, ho] at ha
 obtain ⟨i, hi, h1⟩ := bind2 ha
 clear ha
 split at h1
 ·simp at h1
 ·rename_i k e of ow _ hx
  obtain ⟨v, hv, h2⟩ := bind2 h1
  obtain rfl := Eff.val.inj (Option.some.inj h2)
  obtain ⟨c, e1, e2⟩ := rel_eptr_load (P := P) (hC.T t i hi) (eval_rel h hx).1 hv
  exact VOk.val h c (by simp [execOp, ho, e1]) e2
 ·split at h1
  ·split at h1 <;> simp at h1
  ·simp at h1
 ·simp at h1
theorem replZero_length (n : Nat) (z : List V) : (replZero n z).length = n * z.length := by
 induction n with
 | zero => simp [replZero]
 | succ n ih => simp [replZero, ih, Nat.succ_mul, Nat.add_comm]
theorem replZero_get (n : Nat) (z : List V) (i : Nat) (h : i < n * z.length) : (replZero n z)[i]? = z[i % z.length]? := by
 induction n generalizing i with
 | zero => simp at h
 | succ n ih =>
  simp only [replZero]
  by_cases hi : i < z.length
  ·rw [List.getElem?_append_left hi, Nat.mod_eq_of_lt hi]
  ·rw [List.getElem?_append_right (by omega)]
   rw [Nat.succ_mul] at h
   rw [ih _ (by omega), Nat.mod_eq_sub_mod (a := i) (by omega)]
theorem chunks_length (k n : Nat) (l : List V) : (chunks k n l).length = n := by
 induction n generalizing l with
 | zero => rfl
 | succ n ih => simp [chunks, ih]
theorem chunks_get (k n : Nat) (l : List V) (i : Nat) (e : List V) (h : (chunks k n l)[i]? = some e) : e = (l.drop (i * k)).take k := by
 induction n generalizing l i with
 | zero => simp [chunks] at h
 | succ n ih =>
  cases i with
  | zero => simp [chunks] at h; simp [h]
  | succ i =>
   simp only [chunks, List.getElem?_cons_succ] at h
   rw [ih _ _ h, List.drop_drop, Nat.succ_mul, Nat.add_comm]
theorem newRow_rel {k n : Nat} {cs : List V} {xs : Array Value} (h : CellsRel G w cs xs.toList) (wf : WF G w) (el : TypeId) (hl : cs.length = n * k) (po : Option Place) (et : TypeId) :
  Rel (G.new w (n * k) po) (w.alloc (.cells xs el)) (.slice k et (chunks k n cs)) (.slice (some ⟨w.heap.size, 0, none⟩) n n) := by
 have hx := Ext.alloc wf (.cells xs el) (n * k) po
 have hlen := h.1
 simp only [Array.length_toList] at hlen
 have hcl := chunks_length k n cs
 have key : ∀ i, i < n → i * k + k ≤ n * k := by
  intro i hi
  have : (i + 1) * k ≤ n * k := Nat.mul_le_mul_right _ (by omega)
  rw [Nat.succ_mul] at this
  exact this
 have := Rel.slice (G := G.new w (n * k) po) (w := w.alloc (.cells xs el)) k et (chunks k n cs) w.heap.size 0 n ((List.range n).map fun i => (xs.toList.drop (i * k)).take k)
  (by simp [hcl]) (by rw [hcl]; exact Nat.le_refl _) (by rw [hcl]; show _ ≤ upd G.lim w.heap.size (n * k) w.heap.size; simp) (fun i e he => by
   have hi : i < n := by rw [← hcl]; exact (List.getElem?_eq_some_iff.1 he).1
   rw [chunks_get k n cs i e he]
   have := key i hi
   simp; omega) (fun i x hx => by
   obtain ⟨hi, hx⟩ := List.getElem?_eq_some_iff.1 hx
   simp at hi hx
   subst hx
   have := key i hi
   simp; omega) (fun i j x c hx hc => by
   obtain ⟨hi, hx⟩ := List.getElem?_eq_some_iff.1 hx
   simp at hi hx
   subst hx
   rw [List.getElem?_take] at hc
   split at hc
   ·rw [List.getElem?_drop] at hc
    simp only [Array.getElem?_toList] at hc
    refine ⟨by rw [World.cell?_alloc_new, Nat.zero_add]; exact hc, ?_⟩
    have hlt : i * k + j < cs.length := by have := key i hi; omega
    exact (h.2 _ _ c (List.getElem?_eq_getElem hlt) (by simpa using hc)).2
   ·simp at hc) (fun i j e x v c he hx' hv hc => by
   obtain ⟨hi, hx'⟩ := List.getElem?_eq_some_iff.1 hx'
   simp at hi hx'
   subst hx'
   rw [chunks_get k n cs i e he] at hv
   rw [List.getElem?_take] at hc hv
   split at hc
   ·rw [if_pos ‹_›, List.getElem?_drop] at hv
    rw [List.getElem?_drop] at hc
    exact ((h.2 _ v c hv (by simpa using hc)).1).mono hx
   ·simp at hc)
 rw [hcl] at this
 exact this
theorem val_buildSlice (hC : CtxOk P C) (h : Inv C.glob G lam a w st) {o : Oper} {t : TypeId} {n : Nat} {parts : Array (Nat × Operand)} {y : RV} (ho : o.op = .buildSlice t n parts) (ha : act C H o st.regs = some (.val y)) : VOk P C H G lam a w st o y := by
 simp only [act, ho] at ha
 obtain ⟨i, hi, h1⟩ := bind2 ha
 clear ha
 have hT := hC.T t i hi
 obtain ⟨d1, hd1, hk1⟩ := hT.desc
 split at h1
 ·rename_i e hkk
  rw [hkk] at hk1
  obtain rfl := kok_slice hk1
  obtain ⟨ei, hei, h2⟩ := bind2 h1
  split at h2
  ·rename_i hle
   obtain ⟨cs, hcs, h3⟩ := bind2 h2
   obtain rfl := Eff.val.inj (Option.some.inj h3)
   have hTe := hC.T e ei hei
   by_cases htup : ∃ m, ei.kind = .tuple m
   ·obtain ⟨m, hm⟩ := htup
    have := hle.2
    simp [TI.isTup, hm] at this
   ·have hle := hle.1
    obtain ⟨info, z, e1, e2, e3, e4, _⟩ := zero_rel hTe (fun m hm => htup ⟨m, hm⟩) G w
    have hzl : z.cells.size = ei.size := by have := e3.1; simp only [Array.length_toList] at this; omega
    have hz : CellsRel G w (replZero n ei.zero) (((Array.range (n * ei.size)).map (fun j => (if n * ei.size = 0 then #[] else z.cells)[j % (if n * ei.size = 0 then #[] else z.cells).size]!)).toList) := by
     refine ⟨by simp [replZero_length, e4], fun j v x hv hx => ?_⟩
     obtain ⟨hj, hx⟩ := List.getElem?_eq_some_iff.1 hx
     simp at hj
     have hne : ¬ n * ei.size = 0 := by omega
     simp [hne] at hx
     rw [replZero_get _ _ _ (by rw [e4]; exact hj)] at hv
     rw [e4] at hv
     have hpos : 0 < ei.size := Nat.pos_of_ne_zero (fun h0 => hne (by rw [h0]; simp))
     have hmod : j % ei.size < z.cells.size := by rw [hzl]; exact Nat.mod_lt _ hpos
     refine e3.2 (j % ei.size) v x hv ?_
     rw [← hx, hzl]
     simp [hmod]
    obtain ⟨xs', f1, f2, f3, _⟩ := fill_ok h (fun j => some (j * ei.size, ei.size, e)) (fun j => some (j * ei.size, ei.size)) (fun j p hp => by
     simp only [Option.some.injEq] at hp; subst hp; rfl) parts.toList (replZero n ei.zero) cs _ hcs hz
    have hrow := newRow_rel (k := ei.size) (n := n) f2 h.sto.wf e (by rw [f3, replZero_length, e4]) (some (.reg (o.dst.getD 0))) e
    have hxl : n * ei.size ≤ xs'.size := by have := f2.1; simp only [Array.length_toList] at this; rw [this, f3, replZero_length, e4]; exact Nat.le_refl _
    refine ⟨.slice (some ⟨w.heap.size, 0, none⟩) n n, w.alloc (.cells xs' e), G.new w (n * ei.size) (some (.reg (o.dst.getD 0))), ?_, Ext.alloc h.sto.wf _ _ _, (h.alloc _ _ _).clear _, fun d hd => ⟨hrow, fun _ => ⟨rfl, rfl, by show upd G.owner w.heap.size _ w.heap.size = _; rw [hd]; simp, by show upd G.lim w.heap.size _ w.heap.size = _; simp, xs', (0, 0), heap_alloc_new _ _, hxl, Nat.zero_le _⟩⟩⟩
    have hzv : (zeroValue e).run P w = .ok z w := by simp [zeroValue, run_typeInfo_of e1, e2]
    have hle' : ¬ n * ei.size > 2 ^ 24 := by omega
    simp only [execOp, ho, Instr.buildSlice, Sem.run_bind, run_underlying_of hd1, Result.andThen_ok, run_sizeOf_of hTe, if_neg hle', parts_map]
    by_cases hne : n * ei.size = 0
    ·have h0 : ∀ f : Nat → Value, (Array.range (n * ei.size)).map f = #[] := by intro f; rw [hne]; simp
     rw [h0] at f1
     simp only [h0]
     simp [hne, f1, newRow]
    ·simp only [hne, if_false] at f1 ⊢
     simp only [Sem.run_bind, hzv, Result.andThen_ok, Sem.run_pure, f1]
     simp [newRow]
  ·simp at h2
 ·simp at h1
end
end Go.Ab
end
section
namespace Go.Ab
section
variable {P : Program} {C : Ctx} {H : Hints} {G : Gh} {lam : Nat → Nat} {a : Act} {w : World} {st : St}
def flat (es : List (List V)) : List V := es.flatten
theorem flat_lengthV {k : Nat} : ∀ {es : List (List Value)}, (∀ (i : Nat) (e : List Value), es[i]? = some e → e.length = k) → es.flatten.length = es.length * k
 | [], _ => by simp
 | e :: es, h => by
  have h0 := h 0 e rfl
  have := flat_lengthV (k := k) (es := es) (fun i e he => h (i + 1) e (by simpa using he))
  simp [h0, this, Nat.succ_mul, Nat.add_comm]
theorem flatV_get {k : Nat} : ∀ {es : List (List Value)}, (∀ (i : Nat) (e : List Value), es[i]? = some e → e.length = k) → ∀ (i j : Nat) x c, es[i]? = some x → x[j]? = some c → es.flatten[i * k + j]? = some c
 | [], _, _, _, _, _, h, _ => by simp at h
 | e :: es, hk, i, j, x, c, h, hc => by
  have h0 := hk 0 e rfl
  cases i with
  | zero =>
   simp at h
   subst h
   have hj : j < e.length := (List.getElem?_eq_some_iff.1 hc).1
   simp only [List.flatten_cons, Nat.zero_mul, Nat.zero_add]
   rw [List.getElem?_append_left hj]; exact hc
  | succ i =>
   simp at h
   have := flatV_get (k := k) (es := es) (fun i e he => hk (i + 1) e (by simpa using he)) i j x c h hc
   simp only [List.flatten_cons]
   rw [List.getElem?_append_right (by rw [h0, Nat.succ_mul]; omega), h0]
   rw [show (i + 1) * k + j - k = i * k + j by rw [Nat.succ_mul]; omega]
   exact this
theorem flatV_inv {k : Nat} : ∀ {es : List (List Value)}, (∀ (i : Nat) (e : List Value), es[i]? = some e → e.length = k) → ∀ (p : Nat) c, es.flatten[p]? = some c → ∃ i j x, p = i * k + j ∧ es[i]? = some x ∧ x[j]? = some c
 | [], _, _, _, h => by simp at h
 | e :: es, hk, p, c, h => by
  have h0 := hk 0 e rfl
  simp only [List.flatten_cons] at h
  by_cases hp : p < e.length
  ·rw [List.getElem?_append_left hp] at h
   exact ⟨0, p, e, by omega, rfl, h⟩
  ·rw [List.getElem?_append_right (by omega)] at h
   obtain ⟨i, j, x, h1, h2, h3⟩ := flatV_inv (k := k) (es := es) (fun i e he => hk (i + 1) e (by simpa using he)) _ c h
   exact ⟨i + 1, j, x, by rw [Nat.succ_mul]; omega, by simpa using h2, h3⟩
theorem slice_cells {k : Nat} {et : TypeId} {es : List (List V)} {c : Value} (h : Rel G w (.slice k et es) c) : ∃ ao n cap, ∃ cs : List (List Value), c = .slice ao n cap ∧ n = es.length ∧ cs.length = es.length ∧
  (∀ (i : Nat) (e : List V), es[i]? = some e → e.length = k) ∧ (∀ (i : Nat) (x : List Value), cs[i]? = some x → x.length = k) ∧
  (∀ (i j : Nat) (x : List Value) (c : Value), cs[i]? = some x → x[j]? = some c → c.oneCell' = true) ∧
  (∀ (i j : Nat) (e : List V) (x : List Value) (v : V) (c : Value), es[i]? = some e → cs[i]? = some x → e[j]? = some v → x[j]? = some c → Rel G w v c) ∧
  (∀ w' : World, w'.heap = w.heap → (Builtin.firstCells k n c).run P w' = .ok cs.flatten.toArray w') := by
 rcases rel_slice h with ⟨rfl, rfl⟩ | ⟨b, off, cap, cs, hc, g1, g2, g3, g4, g5, g6, g7⟩
 ·exact ⟨none, 0, 0, [], rfl, rfl, rfl, by simp, by simp, by simp, by simp, fun w' _ => by simp [Builtin.firstCells]⟩
 ·refine ⟨_, _, cap, cs, hc, rfl, g1, g4, g5, fun i j x c hx hc => (g6 i j x c hx hc).2, g7, fun w' hw' => ?_⟩
  subst hc
  simp only [Builtin.firstCells]
  have := run_loadCells_list (P := P) w' ⟨b, off, none⟩ cs.flatten (fun p v hp => by
   obtain ⟨i, j, x, rfl, h2, h3⟩ := flatV_inv g5 p v hp
   rw [add_plain, ← Nat.add_assoc]
   have := (g6 i j x v h2 h3).1
   simp only [World.cell?] at this ⊢
   rw [hw']; exact this)
  rw [flat_lengthV g5, g1] at this
  exact this
theorem nextcap_le (need cap : Nat) (h : cap < need) : Builtin.nextslicecap need cap ≤ need + need / 4 + 1024 := by
 unfold Builtin.nextslicecap
 split
 ·omega
 ·split
  ·omega
  ·have key : ∀ (r c : Nat), c ≤ need + need / 4 + 1024 → Builtin.growBy need r c ≤ need + need / 4 + 1024 := by
    intro r
    induction r with
    | zero => intro c hc; exact hc
    | succ r ih =>
     intro c hc
     simp only [Builtin.growBy]
     split
     ·exact hc
     ·exact ih _ (by omega)
   exact key _ _ (by omega)
theorem zeroCells_size (z : Array Value) (n : Nat) : (Builtin.zeroCells z n).size = n * z.size := by simp [Builtin.zeroCells]
theorem rel_concat {k : Nat} {et : TypeId} {es xs : List (List V)} {cs ds : List (List Value)} {b cap : Nat} {off : Nat} (a1 : cs.length = es.length) (b1 : ds.length = xs.length)
  (a2 : ∀ (i : Nat) (e : List V), es[i]? = some e → e.length = k) (b2 : ∀ (i : Nat) (e : List V), xs[i]? = some e → e.length = k)
  (a3 : ∀ (i : Nat) (x : List Value), cs[i]? = some x → x.length = k) (b3 : ∀ (i : Nat) (x : List Value), ds[i]? = some x → x.length = k)
  (a5 : ∀ (i j : Nat) (e : List V) (x : List Value) (v : V) (c : Value), es[i]? = some e → cs[i]? = some x → e[j]? = some v → x[j]? = some c → Rel G w v c)
  (b5 : ∀ (i j : Nat) (e : List V) (x : List Value) (v : V) (c : Value), xs[i]? = some e → ds[i]? = some x → e[j]? = some v → x[j]? = some c → Rel G w v c)
  (hcap : es.length + xs.length ≤ cap) (hlim : off + (es.length + xs.length) * k ≤ G.lim b)
  (hc : ∀ (i j : Nat) x c, cs[i]? = some x → x[j]? = some c → w.cell? ⟨b, off + i * k + j, none⟩ = some c ∧ c.oneCell' = true)
  (hd : ∀ (i j : Nat) x c, ds[i]? = some x → x[j]? = some c → w.cell? ⟨b, off + (es.length + i) * k + j, none⟩ = some c ∧ c.oneCell' = true) :
  Rel G w (.slice k et (es ++ xs)) (.slice (some ⟨b, off, none⟩) (es.length + xs.length) cap) := by
 have := Rel.slice (G := G) (w := w) k et (es ++ xs) b off cap (cs ++ ds) (by simp [a1, b1]) (by simpa using hcap) (by simpa using hlim)
  (fun i e he => by
   by_cases hi : i < es.length
   ·rw [List.getElem?_append_left hi] at he; exact a2 i e he
   ·rw [List.getElem?_append_right (by omega)] at he; exact b2 _ e he)
  (fun i e he => by
   by_cases hi : i < cs.length
   ·rw [List.getElem?_append_left hi] at he; exact a3 i e he
   ·rw [List.getElem?_append_right (by omega)] at he; exact b3 _ e he)
  (fun i j x c hx hcc => by
   by_cases hi : i < cs.length
   ·rw [List.getElem?_append_left hi] at hx; exact hc i j x c hx hcc
   ·rw [List.getElem?_append_right (by omega)] at hx
    have := hd _ j x c hx hcc
    rw [show es.length + (i - cs.length) = i by omega] at this
    exact this)
  (fun i j e x v c he hx hv hcc => by
   by_cases hi : i < es.length
   ·rw [List.getElem?_append_left hi] at he
    rw [List.getElem?_append_left (by omega)] at hx
    exact a5 i j e x v c he hx hv hcc
   ·rw [List.getElem?_append_right (by omega)] at he
    rw [List.getElem?_append_right (by omega), a1] at hx
    exact b5 _ j e x v c he hx hv hcc)
 simpa using this
theorem quarter (s : Nat) : 4 * (s + s / 4 + 1024) ≤ 5 * s + 4096 := by omega
theorem room_arith {s y nc : Nat} (h : 5 * s * y + 2 ^ 24 ≤ 2 ^ 50) (hb : y ≤ 4096) (hnc : nc ≤ s + s / 4 + 1024) : ¬ nc * y > 2 ^ 48 := by
 have h1 : nc * y ≤ (s + s / 4 + 1024) * y := Nat.mul_le_mul_right _ hnc
 have h20 := quarter s
 have h2 : 4 * (s + s / 4 + 1024) * y ≤ (5 * s + 4096) * y := Nat.mul_le_mul_right y h20
 rw [Nat.mul_assoc] at h2
 rw [Nat.add_mul (5 * s)] at h2
 have h4 : 4096 * y ≤ 16777216 := Nat.le_trans (Nat.mul_le_mul_left _ hb) (by decide)
 have e1 : (2:Nat) ^ 24 = 16777216 := by decide
 have e2 : (2:Nat) ^ 50 = 1125899906842624 := by decide
 have e3 : (2:Nat) ^ 48 = 281474976710656 := by decide
 rw [e1, e2] at h
 rw [e3]
 omega
theorem append_core (hC : CtxOk P C) (h : Inv C.glob G lam a w st) {o : Oper} {c : Call} (ho : o.op = .call c) (hb : c.callee = .builtin .append) {x z : Operand} {t u e : TypeId} {d2 : TypeDesc} {ei : TI} {v : V} {es xs : List (List V)} {m : Nat} {ds : List (List Value)}
  (hx : c.args.toList = [x, z]) (ht : c.argTypes.toList = [t, u]) (hd1 : P.underlying t = some (.slice e)) (hd2 : P.underlying u = some d2) (hdd : (∃ e', d2 = .slice e') ∨ d2 = .string) (hei : C.T e = some ei) (hbytes : ei.bytes ≤ 4096) (hb0 : 0 < ei.bytes) (htup : ei.isTup = false)
  (hv : opndT C st.regs t x = .val v true) (hes : v.asRow ei.size e = some es) (hfull : v.isFull = true → 0 < xs.length) (hroom : 5 * (es.length + xs.length) * ei.bytes + 2 ^ 24 ≤ 2 ^ 50) (hm : m = xs.length) (b1 : ds.length = xs.length)
  (b2 : ∀ (i : Nat) (e : List V), xs[i]? = some e → e.length = ei.size) (b3 : ∀ (i : Nat) (x : List Value), ds[i]? = some x → x.length = ei.size)
  (b4 : ∀ (i j : Nat) (x : List Value) (c : Value), ds[i]? = some x → x[j]? = some c → c.oneCell' = true)
  (b5 : ∀ (i j : Nat) (e : List V) (x : List Value) (v : V) (c : Value), xs[i]? = some e → ds[i]? = some x → e[j]? = some v → x[j]? = some c → Rel G w v c)
  (hlenz : ∀ w' : World, (Builtin.lenOf (a.eval z)).run P w' = .ok m w') (b6 : ∀ w' : World, w'.heap = w.heap → (Builtin.firstCells ei.size m (a.eval z)).run P w' = .ok ds.flatten.toArray w') :
  VOk P C H G lam a w st o (.val (.slice ei.size e (es ++ xs)) true) := by
 have hxa : c.args = #[x, z] := Array.ext' (by simp [hx])
 have hta : c.argTypes = #[t, u] := Array.ext' (by simp [ht])
 have hTe := hC.T e ei hei
 obtain ⟨hr1, hown⟩ := eval_rel h hv
 obtain ⟨hs1, hvs⟩ := asRow_rel hes hr1
 obtain ⟨ao, n, cap, cs, hc1, hn, a1, a2, a3, a4, a5, a6⟩ := slice_cells (P := P) hs1
 have hclear : (clearOf H o) = tmpOf x := by simp [clearOf, ho, hb, hx]
 -- the run, up to where the two ways part
 obtain ⟨info, hinfo, hisz, hiby⟩ := hTe.info
 have hsize := run_sizeOf_of (w := w) hTe
 have hun1 := run_underlying_of (w := w) hd1
 have hun2 := run_underlying_of (w := w) hd2
 rw [hc1] at a6
 have a7 := a6
 have b7 := b6
 replace a6 := a6 w rfl
 replace b6 := b6 w rfl
 have hflat := flat_lengthV b3
 rw [b1] at hflat
 have hflat1 := flat_lengthV a3
 rw [a1] at hflat1
 have run0 : ∀ r w1, (Builtin.append_ #[t, u] o.type #[a.eval x, a.eval z]).run P w = .ok r w1 → (execOp a.eval o).run P w = .ok (.value r) w1 := by
  intro r w1 hr
  simp [execOp, ho, resolve, hb, hxa, hta, invoke, builtin, hr]
 by_cases hneed : n + m ≤ cap
 · -- in place
  by_cases hm0 : m = 0
  ·have hxs0 : xs = [] := by cases xs with | nil => rfl | cons _ _ => simp at hm; omega
   subst hxs0
   have hds0 : ds = [] := by cases ds with | nil => rfl | cons _ _ => simp at b1
   subst hds0
   subst hm0
   have hrun : (Builtin.append_ #[t, u] o.type #[a.eval x, a.eval z]).run P w = .ok (a.eval x) w := by
    rw [hc1]
    simp only [Builtin.append_]
    rcases hdd with ⟨e', rfl⟩ | rfl <;> (simp [hun1, hun2, hsize, hlenz, show n ≤ cap by omega, b6]; cases ao <;> simp [storeCells])
   rw [List.append_nil]
   have ho1 : ∀ p, Own G w p v (a.eval x) → Own G w p (.slice ei.size e es) (a.eval x) := by
    intro p hp
    rcases hvs with rfl | ⟨rfl, rfl⟩ | ⟨hf, _⟩
    ·exact hp
    ·have : a.eval x = .slice none 0 0 := by
      generalize a.eval x = q at hr1
      cases hr1; rfl
     rw [this]; trivial
    ·have := hfull hf
     simp at this
   rcases hown rfl with ⟨r, rfl, h3⟩ | h3
   ·obtain ⟨G', e1, e2, e3, e4⟩ := (h.clear (clearOf H o)).token (q := .reg (o.dst.getD 0)) (ho1 _ h3) (clear_not_flagged _ _ (by rw [hclear]; simp [tmpOf])) (by simp) (by simp)
    exact ⟨_, w, G', run0 _ _ hrun, e1, e2, fun d hd => ⟨hs1.mono e1, fun _ => by rw [hd] at e3; exact e3⟩⟩
   ·exact VOk.pure h _ (run0 _ _ hrun) fun _ => ⟨hs1, fun _ => ho1 _ (h3 _)⟩
  · -- there is something to append
   have hne : n ≠ cap := by omega
   have howned : ∃ r k0 e0 es0, x = .tmp r ∧ v = .slice k0 e0 es0 ∧ Own G w (.reg r) v (a.eval x) := by
    have hv1 : ∃ k0 e0 es0, v = .slice k0 e0 es0 := by
     rcases hvs with rfl | ⟨rfl, rfl⟩ | ⟨_, hf⟩
     ·exact ⟨_, _, _, rfl⟩
     ·exfalso
      have : a.eval x = .slice none 0 0 := by
       generalize a.eval x = q at hr1
       cases hr1; rfl
      rw [hc1] at this
      simp at this
      omega
     ·exact absurd (hf _ _ _ hc1) hne
    obtain ⟨k0, e0, es0, rfl⟩ := hv1
    rcases hown rfl with ⟨r, rfl, h3⟩ | h3
    ·exact ⟨r, k0, e0, es0, rfl, rfl, h3⟩
    ·exfalso
     have p1 := h3 (.reg 0)
     have p2 := h3 (.reg 1)
     rw [hc1] at p1 p2
     cases ao with
     | none =>
      rw [hc1] at hr1
      cases hr1
      omega
     | some ad =>
      obtain ⟨_, _, p1, _⟩ := p1
      obtain ⟨_, _, p2, _⟩ := p2
      rw [p1] at p2; simp at p2
   obtain ⟨r, k0, e0, es0, rfl, rfl, h3⟩ := howned
   have hk0 : k0 = ei.size ∧ e0 = e ∧ es0 = es := by
    rcases hvs with hh | ⟨hh, _⟩ | ⟨hh, _⟩
    ·simp at hh; exact hh
    ·simp at hh
    ·simp [V.isFull] at hh
   obtain ⟨rfl, rfl, rfl⟩ := hk0
   rw [hc1] at h3 hs1
   cases ao with
   | none => cases hs1; omega
   | some ad =>
    obtain ⟨q1, q2, q3, q4, cv, fr, q5, q6, q7⟩ := h3
    ·obtain ⟨b, of, sp⟩ := ad
     simp only at q1 q2 q3 q4 q5
     subst q1; subst q2
     have hroom2 : (n + m) * ei.size ≤ cap * ei.size := Nat.mul_le_mul_right _ hneed
     have hput := run_storeCells_plain (P := P) ds.flatten w b (n * ei.size) 0 cv e0 fr q5 (by rw [hflat, ← hm, Nat.add_zero, ← Nat.add_mul]; omega) (by omega) (fun y hy => by
      obtain ⟨p, hp, hy⟩ := List.mem_iff_getElem.1 hy
      obtain ⟨i1, j1, x1, _, h2', h3'⟩ := flatV_inv b3 p y (by rw [List.getElem?_eq_getElem hp, hy])
      exact b4 i1 j1 x1 y h2' h3')
     simp only [Nat.add_zero] at hput
     have hrun : (Builtin.append_ #[t, u] o.type #[a.eval (.tmp r), a.eval z]).run P w = .ok (.slice (some ⟨b, 0, none⟩) (n + m) cap) (putCells w b (n * ei.size) ds.flatten) := by
      rw [hc1]
      simp only [Builtin.append_]
      rcases hdd with ⟨e', rfl⟩ | rfl <;> simp [hun1, hun2, hsize, hlenz, hneed, b6, add_plain, hput]
     have hh := putCells_heap w b (n * ei.size) ds.flatten
     obtain ⟨z1, z2, z3, z4⟩ := putCells_rest w b (n * ei.size) ds.flatten
     have hbnew : (putCells w b (n * ei.size) ds.flatten).heap[b]? = some (.cells (setA cv (n * ei.size) ds.flatten) e0 fr) := by rw [hh, if_pos rfl, q5]; rfl
     have hother : ∀ i, i ≠ b → (putCells w b (n * ei.size) ds.flatten).heap[i]? = w.heap[i]? := fun i hi => by rw [hh, if_neg hi]
     have hbound : n * ei.size + ds.flatten.length ≤ cv.size := by rw [hflat, ← hm, ← Nat.add_mul]; omega
     have hcellb : ∀ p, (putCells w b (n * ei.size) ds.flatten).cell? ⟨b, p, none⟩ = if n * ei.size ≤ p ∧ p < n * ei.size + ds.flatten.length then ds.flatten[p - n * ei.size]? else w.cell? ⟨b, p, none⟩ := by
      intro p
      rw [cell?_of_heap hbnew, setA_get _ _ _ _ hbound, cell?_of_heap q5]
     have hblt := owner_lt h.sto.wf q3
     let G' : Gh := { G with lim := upd G.lim b ((n + m) * ei.size), owner := upd G.owner b (some (.reg (o.dst.getD 0))) }
     have hE : Ext G w G' (putCells w b (n * ei.size) ds.flatten) := by
      refine ⟨Nat.le_refl _, fun _ _ => rfl, fun _ _ => rfl, fun i => ?_, fun i p hp => ?_, z2, z3, z4, by rw [z1]; exact Nat.le_refl _, fun i hi ho' => ?_⟩
      ·show _ ≤ upd G.lim b _ i
       by_cases hi : i = b
       ·subst hi; simp only [upd_same]; rw [q4]; exact Nat.mul_le_mul_right _ (by omega)
       ·rw [upd_other _ _ hi]; exact Nat.le_refl _
      ·by_cases hi : i = b
       ·subst hi
        refine peek_cell ?_ (fun es c => by rw [q5]; simp) (fun es c => by rw [hbnew]; simp)
        rw [hcellb, if_neg (by rw [q4] at hp; omega)]
       ·exact peek_block (hother i hi) _
      ·have hi' : i ≠ b := by rintro rfl; rw [q3] at ho'; simp at ho'
       exact ⟨hother i hi', upd_other _ _ hi', by show upd G.owner b _ i = _; rw [upd_other _ _ hi']; exact ho'⟩
     have hWF : WF G' (putCells w b (n * ei.size) ds.flatten) := by
      intro i hi
      rw [z1] at hi
      have hi' : i ≠ b := by omega
      obtain ⟨w1, w2⟩ := h.sto.wf i hi
      exact ⟨(upd_other _ _ hi').trans w1, (upd_other _ _ hi').trans w2⟩
     have hnf := clear_not_flagged (st := st) (clearOf H o) r (by rw [hclear]; simp [tmpOf])
     have hInv : Inv C.glob G' lam a (putCells w b (n * ei.size) ds.flatten) (st.clear (clearOf H o)) := by
      refine (h.clear _).move hE ⟨fun i p hp hf => ?_⟩ hWF rfl
      have hi' : i ≠ b := by
       rintro rfl
       rw [q3] at hp
       obtain rfl := Option.some.inj hp
       rcases hf with hf | ⟨r', hr'⟩ | ⟨b', hb'⟩
       ·exact hnf hf
       ·simp at hr'
       ·simp at hb'
      exact ⟨hother i hi', upd_other _ _ hi', by show upd G.owner b _ i = _; rw [upd_other _ _ hi']; exact hp⟩
     have hRel : Rel G' (putCells w b (n * ei.size) ds.flatten) (.slice ei.size e0 (es0 ++ xs)) (.slice (some ⟨b, 0, none⟩) (n + m) cap) := by
      have := rel_concat (et := e0) (G := G') (w := putCells w b (n * ei.size) ds.flatten) (k := ei.size) (b := b) (off := 0) (cap := cap) a1 b1 a2 b2 a3 b3
       (fun i j e y v c w1 w2 w3 w4 => (a5 i j e y v c w1 w2 w3 w4).mono hE) (fun i j e y v c w1 w2 w3 w4 => (b5 i j e y v c w1 w2 w3 w4).mono hE) (by omega) (by show _ ≤ upd G.lim b _ b; rw [upd_same, hn, hm]; omega)
       (fun i j y c hy hc => by
        refine ⟨?_, a4 i j y c hy hc⟩
        have hi : i < n := by rw [hn, ← a1]; exact (List.getElem?_eq_some_iff.1 hy).1
        have hj : j < ei.size := by rw [← a3 i y hy]; exact (List.getElem?_eq_some_iff.1 hc).1
        have hlt : i * ei.size + j < n * ei.size := by
         have : (i + 1) * ei.size ≤ n * ei.size := Nat.mul_le_mul_right _ hi
         rw [Nat.succ_mul] at this; omega
        rw [hcellb, if_neg (by omega), Nat.zero_add]
        have hfl := flatV_get a3 i j y c hy hc
        rcases rel_slice hs1 with ⟨_, hh0⟩ | ⟨b', off', cap', cs', hc', g1, g2, g3, g4, g5, g6, g7⟩
        ·simp at hh0
        ·simp at hc'
         obtain ⟨⟨rfl, rfl⟩, _, rfl⟩ := hc'
         have a6' : (Builtin.firstCells ei.size n (.slice (some ⟨b, 0, none⟩) n cap)).run P w = .ok cs'.flatten.toArray w := by
          simp only [Builtin.firstCells]
          have := run_loadCells_list (P := P) w ⟨b, 0, none⟩ cs'.flatten (fun p v hp => by
           obtain ⟨i1, j1, x1, rfl, h2', h3'⟩ := flatV_inv g5 p v hp
           rw [add_plain, ← Nat.add_assoc]
           exact (g6 i1 j1 x1 v h2' h3').1)
          rw [flat_lengthV g5, g1, ← hn] at this
          exact this
         rw [a6'] at a6
         have hfe : cs'.flatten = cs.flatten := by simpa using a6
         rw [← hfe] at hfl
         obtain ⟨i1, j1, x1, hp1, h2', h3'⟩ := flatV_inv g5 _ c hfl
         have := (g6 i1 j1 x1 c h2' h3').1
         rw [Nat.zero_add, ← hp1] at this
         exact this)
       (fun i j y c hy hc => by
        refine ⟨?_, b4 i j y c hy hc⟩
        have hfl := flatV_get b3 i j y c hy hc
        have hlt := (List.getElem?_eq_some_iff.1 hfl).1
        rw [hcellb, ← hn, Nat.zero_add, Nat.add_mul, Nat.add_assoc, if_pos (by omega), Nat.add_sub_cancel_left]
        exact hfl)
      rw [← hn, ← hm] at this
      exact this
     refine ⟨_, _, G', run0 _ _ hrun, hE, hInv, fun d hd => ⟨hRel, fun _ => ⟨rfl, rfl, ?_, ?_, _, fr, hbnew, ?_, ?_⟩⟩⟩
     ·show upd G.owner b _ b = _
      rw [hd]; simp
     ·show upd G.lim b _ b = _
      simp
     ·rw [setA_size]; exact q6
     ·exact Nat.le_trans q7 (Nat.mul_le_mul_right _ (by omega))
 · -- a new row
  have htup' : ∀ m, ei.kind ≠ .tuple m := by
   intro m0 hm0
   simp [TI.isTup, hm0] at htup
  obtain ⟨info', zv, w1, w2, w3, w4⟩ := zero_rel hTe htup' G w
  have hzs : zv.cells.size = ei.size := by have := w3.1; simp only [Array.length_toList] at this; omega
  have hnc := nextcap_le (n + m) cap (by omega)
  have hbig : ¬ Builtin.nextslicecap (n + m) cap * info.bytes > 2 ^ 48 := by
   rw [hiby]
   rw [← hn, ← hm] at hroom
   exact room_arith hroom hbytes hnc
  have hb1 : ¬ info.bytes = 0 := by omega
  generalize hT0 : w.tape w.drawn (.appendCap (n + m) cap e) = T0
  let N := (Question.appendCap (n + m) cap e).cut T0
  have hN : n + m ≤ N := Nat.le_add_right _ _
  have hti : ∀ w : World, (typeInfo e).run P w = .ok info w := fun w => run_typeInfo_of (w := w) hinfo
  have hzv : ∀ w : World, (zeroValue e).run P w = .ok zv w := fun w => by simp [zeroValue, run_typeInfo_of w1, w2]
  let row : Array Value := cs.flatten.toArray ++ ds.flatten.toArray ++ Builtin.zeroCells zv.cells (N - (n + m))
  have hrun : (Builtin.append_ #[t, u] o.type #[a.eval x, a.eval z]).run P w = .ok (.slice (some ⟨w.heap.size, 0, none⟩) (n + m) N) (w.drew.alloc (.cells row e)) := by
   rw [hc1]
   simp only [Builtin.append_]
   have hforced : (Question.appendCap (n + m) cap e).forced = false := rfl
   rcases hdd with ⟨e', rfl⟩ | rfl <;> simp [hun1, hun2, hsize, hlenz, hneed, hti, hb1, hbig, hforced, run_choose, a7 w.drew rfl, b7 w.drew rfl, hzv, newRow, row, N, hT0]
  have hrl : row.size = n * ei.size + m * ei.size + (N - (n + m)) * ei.size := by
   simp only [row, Array.size_append, List.size_toArray, hflat1, hflat, zeroCells_size, hzs, hn, hm]
  have hrow1 : ∀ p, p < n * ei.size → row[p]? = cs.flatten[p]? := by
   intro p hp
   rw [hn, ← hflat1] at hp
   simp only [row]
   rw [Array.getElem?_append_left (by simp only [List.size_toArray, Array.size_append]; omega), Array.getElem?_append_left (by simp only [List.size_toArray]; exact hp)]
   simp
  have hrow2 : ∀ p, p < m * ei.size → row[n * ei.size + p]? = ds.flatten[p]? := by
   intro p hp
   rw [hm, ← hflat] at hp
   rw [hn, ← hflat1]
   simp only [row]
   rw [Array.getElem?_append_left (by simp only [List.size_toArray, Array.size_append]; omega), Array.getElem?_append_right (by simp only [List.size_toArray]; omega)]
   simp
  have hdr : Ext G w G w.drew := Ext.same rfl rfl rfl rfl
  have hal := Ext.alloc (w := w.drew) h.sto.wf (.cells row e) ((n + m) * ei.size) (some (.reg (o.dst.getD 0)))
  have hE := hdr.trans hal
  have hInv := ((h.same (w' := w.drew) rfl rfl rfl rfl).alloc (.cells row e) ((n + m) * ei.size) (some (.reg (o.dst.getD 0)))).clear (clearOf H o)
  have hsz0 : w.drew.heap.size = w.heap.size := rfl
  have hnew := heap_alloc_new w.drew (.cells row e)
  have hRel : Rel (G.new w.drew ((n + m) * ei.size) (some (.reg (o.dst.getD 0)))) (w.drew.alloc (.cells row e)) (.slice ei.size e (es ++ xs)) (.slice (some ⟨w.heap.size, 0, none⟩) (n + m) N) := by
   have := rel_concat (et := e) (G := G.new w.drew ((n + m) * ei.size) (some (.reg (o.dst.getD 0)))) (w := w.drew.alloc (.cells row e)) (k := ei.size) (b := w.heap.size) (off := 0) (cap := N) a1 b1 a2 b2 a3 b3
    (fun i j e y v c w1 w2 w3 w4 => (a5 i j e y v c w1 w2 w3 w4).mono hE) (fun i j e y v c w1 w2 w3 w4 => (b5 i j e y v c w1 w2 w3 w4).mono hE) (by rw [← hn, ← hm]; exact hN)
    (by show _ ≤ upd G.lim w.heap.size _ w.heap.size; rw [upd_same, hn, hm]; omega)
    (fun i j y c hy hc => by
     refine ⟨?_, a4 i j y c hy hc⟩
     have hfl := flatV_get a3 i j y c hy hc
     have hlt := (List.getElem?_eq_some_iff.1 hfl).1
     have := cell?_of_heap hnew (0 + i * ei.size + j)
     rw [hsz0] at this
     rw [this, Nat.zero_add, hrow1 _ (by rw [hn, ← hflat1]; exact hlt)]
     exact hfl)
    (fun i j y c hy hc => by
     refine ⟨?_, b4 i j y c hy hc⟩
     have hfl := flatV_get b3 i j y c hy hc
     have hlt := (List.getElem?_eq_some_iff.1 hfl).1
     have := cell?_of_heap hnew (0 + (es.length + i) * ei.size + j)
     rw [hsz0] at this
     rw [this, Nat.zero_add, ← hn, Nat.add_mul, Nat.add_assoc, hrow2 _ (by rw [hm, ← hflat]; exact hlt)]
     exact hfl)
   rw [← hn, ← hm] at this
   exact this
  refine ⟨_, _, _, run0 _ _ hrun, hE, hInv, fun d hd => ⟨hRel, fun _ => ⟨rfl, rfl, ?_, ?_, row, (0, 0), hnew, ?_, Nat.zero_le _⟩⟩⟩
  ·show upd G.owner w.heap.size _ w.heap.size = _
   rw [hd]; simp
  ·show upd G.lim w.heap.size _ w.heap.size = _
   simp
  ·rw [hrl, ← Nat.add_mul, ← Nat.add_mul]
   exact Nat.mul_le_mul_right _ (by omega)
theorem bytes_cells (s : ByteArray) : (bytesV s).length = s.size ∧ (∀ (i : Nat) (e : List V), (bytesV s)[i]? = some e → e.length = 1) ∧
  ∃ ds : List (List Value), ds.length = (bytesV s).length ∧ (∀ (i : Nat) (x : List Value), ds[i]? = some x → x.length = 1) ∧ (∀ (i j : Nat) (x : List Value) (c : Value), ds[i]? = some x → x[j]? = some c → c.oneCell' = true) ∧
   (∀ (G : Gh) (w : World) (i j : Nat) (e : List V) (x : List Value) (v : V) (c : Value), (bytesV s)[i]? = some e → ds[i]? = some x → e[j]? = some v → x[j]? = some c → Rel G w v c) ∧
   ∀ (P : Program) (w : World), (Builtin.firstCells 1 s.size (.string s)).run P w = .ok ds.flatten.toArray w := by
 refine ⟨by simp [bytesV], fun i e he => ?_, s.data.toList.map fun b => [Value.int .u8 b.toNat], by simp [bytesV], fun i x hx => ?_, fun i j x c hx hc => ?_, fun G w i j e x v c he hx hv hc => ?_, fun P w => ?_⟩
 ·simp only [bytesV, List.getElem?_map, Option.map_eq_some_iff] at he
  obtain ⟨b, _, rfl⟩ := he
  rfl
 ·simp only [List.getElem?_map, Option.map_eq_some_iff] at hx
  obtain ⟨b, _, rfl⟩ := hx
  rfl
 ·simp only [List.getElem?_map, Option.map_eq_some_iff] at hx
  obtain ⟨b, _, rfl⟩ := hx
  match j with
  | 0 => simp at hc; subst hc; rfl
  | j + 1 => simp at hc
 ·simp only [bytesV, List.getElem?_map, Option.map_eq_some_iff] at he hx
  obtain ⟨b, hb, rfl⟩ := he
  obtain ⟨b', hb', rfl⟩ := hx
  rw [hb] at hb'
  obtain rfl := Option.some.inj hb'
  match j with
  | 0 => simp at hv hc; subst hv; subst hc; exact .int _ _
  | j + 1 => simp at hc
 ·have hex : (s.extract 0 s.size).data = s.data := by
   have : s.extract 0 s.size = s := ByteArray.extract_zero_size
   rw [this]
  simp only [Builtin.firstCells, hex, Sem.run_pure]
  congr 1
  apply Array.ext'
  simp [← List.flatMap_def]
  exact List.map_eq_flatMap
theorem val_append (hC : CtxOk P C) (h : Inv C.glob G lam a w st) {o : Oper} {c : Call} {y : RV} (ho : o.op = .call c) (hb : c.callee = .builtin .append) (ha : act C H o st.regs = some (.val y)) : VOk P C H G lam a w st o y := by
 simp only [act, ho, hb] at ha
 split at ha
 case h_2 => simp at ha
 rename_i x z t u hx ht
 obtain ⟨i, hi, h1⟩ := bind2 ha
 obtain ⟨j, hj, h2⟩ := bind2 h1
 clear ha h1
 obtain ⟨d1, hd1, hk1⟩ := (hC.T t i hi).desc
 obtain ⟨d2, hd2, hk2⟩ := (hC.T u j hj).desc
 split at h2
 ·rename_i e e' hki hkj
  rw [hki] at hk1
  rw [hkj] at hk2
  obtain rfl := kok_slice hk1
  obtain rfl := kok_slice hk2
  obtain ⟨ei, hei, h3⟩ := bind2 h2
  obtain ⟨ei', hei', h4⟩ := bind2 h3
  clear h2 h3
  split at h4
  case isFalse => simp at h4
  rename_i hcond
  obtain ⟨hsz, hbytes, hb0, htup⟩ := hcond
  split at h4
  case h_2 => simp at h4
  rename_i v hv
  obtain ⟨es, hes, h5⟩ := bind2 h4
  obtain ⟨wv, hwv, h6⟩ := bind2 h5
  obtain ⟨xs, hxs, h7⟩ := bind2 h6
  obtain ⟨u0, hu, h8⟩ := bind2 h7
  clear h4 h5 h6 h7
  have hroom := grd_some hu
  rw [Bool.and_eq_true] at hroom
  obtain ⟨hfl, hroom⟩ := hroom
  have hfull : v.isFull = true → 0 < xs.length := by
   intro hf
   rw [hf] at hfl
   simpa using hfl
  obtain rfl := Eff.val.inj (Option.some.inj h8)
  obtain ⟨hs2, _⟩ := asSlice_rel hxs (vk_rel h hwv)
  obtain ⟨ao', m, cap', ds, hc2, hm, b1, b2, b3, b4, b5, b6⟩ := slice_cells (P := P) hs2
  exact append_core hC h ho hb hx ht hd1 hd2 (.inl ⟨e', rfl⟩) hei hbytes hb0 htup hv hes hfull (room_le hroom hbytes) hm b1 b2 b3 b4 b5 (fun w' => by rw [hc2]; simp [Builtin.lenOf]) b6
 ·rename_i e hki hkj
  rw [hki] at hk1
  rw [hkj] at hk2
  obtain rfl := kok_slice hk1
  obtain rfl := kok_string hk2
  obtain ⟨ei, hei, h4⟩ := bind2 h2
  clear h2
  split at h4
  case isFalse => simp at h4
  rename_i hcond
  obtain ⟨hsz, hbytes, hb0, htup⟩ := hcond
  split at h4
  case h_2 => simp at h4
  rename_i v hv
  obtain ⟨es, hes, h5⟩ := bind2 h4
  obtain ⟨wv, hwv, h6⟩ := bind2 h5
  obtain ⟨s, hxs, h7⟩ := bind2 h6
  obtain ⟨u0, hu, h8⟩ := bind2 h7
  clear h4 h5 h6 h7
  have hroom := grd_some hu
  obtain rfl := Eff.val.inj (Option.some.inj h8)
  have hr := vk_rel h hwv
  rw [asStr_some hxs] at hr
  have hz := rel_str hr
  obtain ⟨k1, k2, ds, k3, k4, k5, k6, k7⟩ := bytes_cells s
  have hes1 : v.asSlice ei.size e = some es := by rw [hsz]; exact hes
  have hes' : v.asRow ei.size e = some es := by
   cases v <;> simp_all [V.asSlice, V.asRow]
  have hfull : v.isFull = true → 0 < (bytesV s).length := by
   intro hf
   cases v <;> simp_all [V.asSlice, V.isFull]
  have := append_core (H := H) (xs := bytesV s) (m := s.size) (ds := ds) hC h ho hb hx ht hd1 hd2 (.inr rfl) hei hbytes hb0 htup hv hes' hfull (by rw [k1]; exact room_le hroom hbytes) k1.symm k3 (by rw [hsz]; exact k2) (by rw [hsz]; exact k4) k5 (k6 G w) (fun w' => by rw [hz]; simp [Builtin.lenOf]) (fun w' _ => by rw [hz, hsz]; exact k7 P w')
  rw [hsz] at this
  exact this
 ·simp at h2
end
end Go.Ab
end
section
namespace Go.Ab
section
variable {P : Program} {C : Ctx} {H : Hints} {G : Gh} {lam : Nat → Nat} {a : Act} {w : World} {st : St}
def NP (C : Ctx) (G : Gh) (w : World) (out : Out) (a' : Act) (w' : World) : Prop := ∃ st' G' lam', out = .next st' ∧ Ext G w G' w' ∧ Inv C.glob G' lam' a' w' st'
def QP (C : Ctx) (G : Gh) (w : World) (out : Out) (e : Exit) (a' : Act) (w' : World) : Prop :=
 ∃ v st' c G', out = .pan v st' ∧ e = .panic [{ v := c, recovered := false }] ∧ Rel G' w' v c ∧ Ext G w G' w' ∧ SInv C.glob G' w' st'.sto ∧ a'.defers = []
theorem setCells_length (cs : List Cell) (o : Nat) (xs : List Cell) : (setCells cs o xs).length = cs.length := by
 induction xs generalizing cs o with
 | nil => rfl
 | cons x xs ih => simp [setCells, ih]
theorem setCells_get (cs : List Cell) (o : Nat) (xs : List Cell) (j : Nat) (h : o + xs.length ≤ cs.length) :
  (setCells cs o xs)[j]? = if o ≤ j ∧ j < o + xs.length then xs[j - o]? else cs[j]? := by
 induction xs generalizing cs o with
 | nil => simp [setCells]; intro h1 h2; omega
 | cons x xs ih =>
  simp only [List.length_cons] at h
  rw [setCells, ih (cs.set o x) (o + 1) (by simp; omega)]
  by_cases h1 : o + 1 ≤ j ∧ j < o + 1 + xs.length
  ·rw [if_pos h1, if_pos (by simp; omega), show j - o = (j - (o + 1)) + 1 by omega, List.getElem?_cons_succ]
  ·rw [if_neg h1]
   by_cases h2 : j = o
   ·subst h2
    rw [if_pos (by simp), List.getElem?_set]
    simp; omega
   ·rw [if_neg (by simp; omega), List.getElem?_set, if_neg (by omega)]
theorem write_block {r0 : Nat} {p : Place} {q : Nat → Place} {cs : List Cell} (wf : WF G w) (h : BlkOk G w r0 p q cs) (hpq : ∀ j, q j ≠ p) (o : Nat) (vs : List Value) (ns : List Cell) (hl : vs.length = ns.length) (ho : o + ns.length ≤ cs.length)
  (hv : ∀ (j : Nat) c x, ns[j]? = some c → vs[j]? = some x → CRel G w (q (o + j)) c x ∧ x.oneCell' = true) :
  (storeCells ⟨r0, o, none⟩ vs).run P w = .ok () (putCells w r0 o vs) ∧ Ext G w G (putCells w r0 o vs) ∧ (∀ fl : Place → Prop, ¬ fl p → Keeps G w G (putCells w r0 o vs) fl) ∧ WF G (putCells w r0 o vs) ∧
  BlkOk G (putCells w r0 o vs) r0 p q (setCells cs o ns) := by
 obtain ⟨cv, el, h1, h2, h3, h4, h5⟩ := h
 have hh := putCells_heap w r0 o vs
 obtain ⟨z1, z2, z3, z4⟩ := putCells_rest w r0 o vs
 have hnew : (putCells w r0 o vs).heap[r0]? = some (.cells (setA cv o vs) el (0, 0)) := by rw [hh, if_pos rfl, h1]; rfl
 have hother : ∀ i, i ≠ r0 → (putCells w r0 o vs).heap[i]? = w.heap[i]? := fun i hi => by rw [hh, if_neg hi]
 have hE : Ext G w G (putCells w r0 o vs) := by
  refine ⟨Nat.le_refl _, fun _ _ => rfl, fun _ _ => rfl, fun _ => Nat.le_refl _, fun b o' ho' => ?_, z2, z3, z4, by rw [z1]; exact Nat.le_refl _, fun i _ hi => ⟨hother i ?_, rfl, hi⟩⟩
  ·have hb : b ≠ r0 := by rintro rfl; rw [h4] at ho'; omega
   exact peek_block (hother b hb) _
  ·rintro rfl; rw [h3] at hi; simp at hi
 refine ⟨?_, hE, fun fl hf => ⟨fun i p' hp' hf' => ⟨hother i ?_, rfl, hp'⟩⟩, fun i hi => wf i (by rw [z1] at hi; exact hi), setA cv o vs, el, hnew, by rw [setA_size, setCells_length]; exact h2, h3, h4, fun j c x hc hx => ?_⟩
 ·have := run_storeCells_plain (P := P) vs w r0 o 0 cv el (0, 0) h1 (by omega) (Nat.zero_le _) (fun v hv' => by
   obtain ⟨j, hj, hvj⟩ := List.mem_iff_getElem.1 hv'
   have hj' : j < ns.length := by omega
   exact (hv j _ v (List.getElem?_eq_getElem hj') (by rw [List.getElem?_eq_getElem hj, hvj])).2)
  simpa using this
 ·rintro rfl
  rw [h3] at hp'
  obtain rfl := Option.some.inj hp'
  exact hf hf'
 ·rw [setCells_get _ _ _ _ ho] at hc
  rw [setA_get _ _ _ _ (by omega)] at hx
  have tr : ∀ {c : Cell} {x : Value}, CRel G w (q j) c x → CRel G (putCells w r0 o vs) (q j) c x := fun hcr =>
   hcr.move hE fun _ i hi => ⟨hother i (by rintro rfl; rw [h3] at hi; exact hpq j (Option.some.inj hi).symm), rfl, hi⟩
  by_cases hj : o ≤ j ∧ j < o + ns.length
  ·rw [if_pos hj] at hc
   rw [if_pos (by omega)] at hx
   obtain ⟨e1, e2⟩ := hv _ c x hc hx
   rw [show o + (j - o) = j by omega] at e1
   exact ⟨tr e1, e2⟩
  ·rw [if_neg hj] at hc
   rw [if_neg (by omega)] at hx
   obtain ⟨e1, e2⟩ := h5 j c x hc hx
   exact ⟨tr e1, e2⟩
theorem cellsO_rel {v : V} {c : Value} {ag ow : Bool} {n : Nat} (h : Rel G w v c) (hf : v.fits ag n = true) (q : Nat → Place) (hq : ow = true → Own G w (q 0) v c) :
  (cellsO v ow ag n).length = n ∧ c.cells.toList.length = n ∧ ∀ (j : Nat) d x, (cellsO v ow ag n)[j]? = some d → c.cells.toList[j]? = some x → CRel G w (q j) d x ∧ x.oneCell' = true := by
 obtain ⟨⟨e1, e2⟩, e3, e4⟩ := cellsN_rel h hf
 cases ag with
 | true =>
  simp only [cellsO, cellsN, if_true] at *
  refine ⟨by simp, by simp [e3], fun j d x hd hx => ?_⟩
  obtain ⟨hj, hd⟩ := List.getElem?_eq_some_iff.1 hd
  simp at hj hd
  subst hd
  obtain ⟨g1, g2⟩ := e2 j (v.cell j) x (by simp [hj]) hx
  refine ⟨⟨g1, fun ho => ?_⟩, g2⟩
  simp only [Bool.and_eq_true] at ho
  have hown := hq ho.1
  rcases rel_fits h hf with ⟨_, cs, xs, rfl, rfl, h1, h2⟩ | ⟨hh, _⟩
  ·have hc : cs[j]? = some ((V.agg cs).cell j) := by
    have hlt : j < cs.length := by omega
    simp [V.cell, hlt]
   show Own G w (q j) ((V.agg cs).cell j) x
   obtain ⟨k, et, hk⟩ : ∃ k et, (V.agg cs).cell j = .slice k et [] := by
    have := ho.2
    unfold V.isNo at this
    split at this
    ·rename_i k et hv; exact ⟨k, et, hv⟩
    ·simp at this
   have ht : Tight x := hown j k et x (by rw [hc, hk]) (by simpa [Value.cells] using hx)
   rw [hk]
   unfold Own
   split
   ·exact ht.elim
   ·first | contradiction | trivial
   ·trivial
  ·simp at hh
 | false =>
  simp only [cellsO, cellsN, Bool.false_eq_true, if_false] at *
  refine ⟨by simpa using e4, by simp [e3], fun j d x hd hx => ?_⟩
  cases j with
  | succ j => simp at hd
  | zero =>
   simp at hd
   subst hd
   obtain ⟨g1, g2⟩ := e2 0 v x (by simp) hx
   refine ⟨⟨g1, fun ho => ?_⟩, g2⟩
   have hx' : x = c := by
    rcases rel_fits h hf with ⟨hh, _⟩ | ⟨_, _, h1⟩
    ·simp at hh
    ·have hc : c.cells = #[c] := by cases c <;> simp_all [Value.cells, Value.oneCell']
     rw [hc] at hx; simp at hx; exact hx.symm
   subst hx'
   exact hq ho
theorem take_token {o : Oper} {t : TypeId} {x : Operand} {c : Cell} (h : Inv C.glob G lam a w st) (hc : ck C st.regs t x = some c) (hcl : (clearOf H o) = tmpOf x) (q : Place) :
  ∃ G', Ext G w G' w ∧ Inv C.glob G' lam a w (st.clear (clearOf H o)) ∧ Rel G' w c.1 (a.eval x) ∧ (c.2 = true → Own G' w q c.1 (a.eval x)) ∧ G'.N = G.N := by
 obtain ⟨h1, h2⟩ := ck_rel h hc
 cases hb : c.2 with
 | false => exact ⟨G, Ext.refl _ _, h.clear _, h1, fun ho => by simp at ho, rfl⟩
 | true =>
  rcases h2 hb with ⟨r, rfl, h3⟩ | h3
  ·obtain ⟨G', e1, e2, e3, e4⟩ := (h.clear (clearOf H o)).token (q := q) h3 (clear_not_flagged _ _ (by rw [hcl]; simp [tmpOf])) (by simp) (by simp)
   exact ⟨G', e1, e2, h1.mono e1, fun _ => e3, e4⟩
  ·exact ⟨G, Ext.refl _ _, h.clear _, h1, fun _ => h3 q, rfl⟩
theorem gather_some {cs : List Cell} {o n : Nat} {ag : Bool} {v : V} (h : gather cs o n ag = some v) : o + n ≤ cs.length ∧ ((ag = true ∧ v = .agg ((List.range n).map fun i => (cs.getD (o + i) cellD).1)) ∨ (ag = false ∧ n = 1 ∧ v = (cs.getD o cellD).1)) := by
 simp only [gather] at h
 split at h
 ·rename_i h1
  refine ⟨h1, ?_⟩
  split at h
  ·exact .inl ⟨‹_›, (Option.some.inj h).symm⟩
  ·split at h
   ·exact .inr ⟨by simpa using ‹¬ ag = true›, ‹_›, (Option.some.inj h).symm⟩
   ·simp at h
 ·simp at h
theorem gather_rel {t : TypeId} {i : TI} (hT : TOk P t i) {r0 : Nat} {p : Place} {q : Nat → Place} {cs : List Cell} (h : BlkOk G w r0 p q cs ∨ cs = []) {o : Nat} {v : V} (hv : gather cs o i.size i.agg = some v) :
    ∃ x, (loadVar t ⟨r0, o, none⟩).run P w = .ok x w ∧ Rel G w v x := by
  obtain ⟨h1, h2⟩ := gather_some hv
  rcases h with ⟨cv, el, g1, g2, g3, g4, g5⟩ | rfl
  · obtain ⟨x, e1, e2⟩ := load_cells (P := P) (G := G) (w := w) hT r0 o (fun j => (cs.getD (o + j) cellD).1) ((cv.toList.drop o).take i.size) (by simp; omega) (fun j x hx => by
      rw [List.getElem?_take] at hx
      split at hx
      · rw [List.getElem?_drop] at hx
        have hx' : cv[o + j]? = some x := by simpa using hx
        have hlt : o + j < cs.length := by omega
        rw [List.getD_eq_getElem?_getD, List.getElem?_eq_getElem hlt]
        obtain ⟨w1, w2⟩ := g5 (o + j) _ x (List.getElem?_eq_getElem hlt) hx'
        exact ⟨by rw [cell?_of_heap g1]; exact hx', w2, w1.1⟩
      · simp at hx) (fun hh => by rcases h2 with ⟨h2, _⟩ | ⟨_, h2, _⟩; · simp [hh] at h2
                                  · exact h2)
    refine ⟨x, e1, ?_⟩
    rcases h2 with ⟨q1, rfl⟩ | ⟨q1, q2, rfl⟩
    · rw [if_pos q1] at e2; exact e2
    · rw [if_neg (by simp [q1])] at e2; exact e2
  · simp only [List.length_nil] at h1
    have h0 : i.size = 0 := by omega
    rcases h2 with ⟨q1, rfl⟩ | ⟨q1, q2, rfl⟩
    · refine ⟨.agg #[], ?_, ?_⟩
      · have := run_loadVar_of (w := w) hT r0 o [] (by simp [h0]) (by simp) (fun hh => by simp [hh] at q1)
        rw [if_pos q1] at this
        exact this
      · rw [h0]
        exact .agg [] [] rfl (by simp) (by simp)
    · omega
theorem locs_ok (h : Inv C.glob G lam a w st) (r : Nat) : BlkOk G w (lam r) (.box r) (fun j => .lc r j) (st.locs.getD r []) ∨ st.locs.getD r [] = [] := by
 rw [List.getD_eq_getElem?_getD]
 cases hl : st.locs[r]? with
 | none => exact .inr rfl
 | some cs =>
  by_cases hcs : cs = []
  ·exact .inr hcs
  ·exact .inl (h.locs r cs hl hcs)
theorem Inv.setLoc (h : Inv C.glob G lam a w st) {r : Nat} {w' : World} {cs : List Cell} (e : Ext G w G w') (k : Keeps G w G w' (fun p => p ≠ .box r)) (wf : WF G w') (hb : BlkOk G w' (lam r) (.box r) (fun j => .lc r j) cs) :
  Inv C.glob G lam a w' { st with locs := st.locs.set r cs } where
 defers := h.defers
 len := h.len
 lenl := by simp [h.lenl]
 regs r' x hx := (h.regs r' x hx).move e k (fun v hv => by simp) (fun cs i v hv hi => by simp)
 locs r' cs' hc hne := by
  simp only [List.getElem?_set] at hc
  split at hc
  ·rename_i hr
   subst hr
   split at hc
   ·obtain rfl := Option.some.inj hc; exact hb
   ·simp at hc
  ·rename_i hr
   exact (h.locs r' cs' hc hne).move e k (by simp; exact fun hh => hr hh.symm) (fun j v hv => by simp)
 sto := h.sto.move e k wf rfl (fun b _ => by simp) (fun b cs j v hb hv => by simp)
theorem Inv.setSto (h : Inv C.glob G lam a w st) {b : Nat} {w' : World} {cs : List Cell} (hb : b < st.sto.length) (e : Ext G w G w') (k : Keeps G w G w' (fun p => p ≠ .blk b)) (wf : WF G w') (hk : BlkOk G w' (G.μ b) (.blk b) (fun j => .gc b j) cs) (ht : ∃ cv fr, w'.heap[G.μ b]? = some (.cells cv (G.ty b) fr)) :
  Inv C.glob G lam a w' { st with sto := st.sto.set b cs } where
 defers := h.defers
 len := h.len
 lenl := h.lenl
 regs r' x hx := (h.regs r' x hx).move e k (fun v hv => by simp) (fun cs i v hv hi => by simp)
 locs r' cs' hc hne := (h.locs r' cs' hc hne).move e k (by simp) (fun j v hv => by simp)
 sto := by
  refine ⟨wf, fun g cs hg => (h.sto.glob g cs hg).mono e, by simp [h.sto.N], fun b' hb' => ?_, fun b' cs' hc => ?_, h.sto.gsz.mono e⟩
  ·simp only [List.length_set] at hb'
   by_cases hbb : b' = b
   ·subst hbb; exact ht
   ·obtain ⟨cv, fr, h1⟩ := h.sto.typed b' hb'
    obtain ⟨_, _, _, _, h3, _⟩ := h.sto.blk b' st.sto[b'] (List.getElem?_eq_getElem hb')
    exact ⟨cv, fr, by rw [(k.blocks _ _ h3 (by simp; exact hbb)).1]; exact h1⟩
  simp only [List.getElem?_set] at hc
  split at hc
  ·rename_i hr
   subst hr
   obtain rfl := Option.some.inj hc
   exact hk
  ·rename_i hr
   exact (h.sto.blk b' cs' hc).move e k (by simp; exact fun hh => hr hh.symm) (fun j v hv => by simp)
end
end Go.Ab
end
