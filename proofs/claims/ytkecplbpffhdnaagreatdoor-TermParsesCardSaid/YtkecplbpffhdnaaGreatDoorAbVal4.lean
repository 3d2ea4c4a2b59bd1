/- Operations that come to a value: parts, slices, lengths, literals. Literals, loads of settled cells, appends. -/
import Derived.Test.YtkecplbpffhdnaaGreatDoorAbVal2
set_option linter.unusedSimpArgs false
set_option linter.unusedVariables false
set_option linter.deprecated false
section
namespace Go.Ab
section
variable {P : Program} {C : Ctx} {H : Hints} {G : Gh} {lam : Nat → Nat} {a : Act} {w : World} {st : St}

theorem range_get {n i : Nat} {f : Nat → V} {v : V} (h : ((List.range n).map f)[i]? = some v) : i < n ∧ v = f i := by
  obtain ⟨h1, h2⟩ := List.getElem?_eq_some_iff.1 h
  simp at h1 h2
  exact ⟨h1, h2.symm⟩

theorem agg_part {cs : List V} {xs : List Value} (h1 : xs.length = cs.length) (h2 : ∀ (i : Nat) (x : Value), xs[i]? = some x → x.oneCell' = true) (h3 : ∀ (i : Nat) (v : V) (x : Value), cs[i]? = some v → xs[i]? = some x → Rel G w v x)
    (off n : Nat) (hn : off + n ≤ cs.length) : Rel G w (.agg ((List.range n).map fun j => (V.agg cs).cell (off + j))) (.agg ((xs.drop off).take n).toArray) := by
  refine .agg _ _ (by simp; omega) (fun i x hx => ?_) (fun i v x hv hx => ?_)
  · rw [List.getElem?_take] at hx
    split at hx
    · rw [List.getElem?_drop] at hx; exact h2 _ x hx
    · simp at hx
  · obtain ⟨hi, rfl⟩ := range_get hv
    rw [List.getElem?_take, if_pos hi, List.getElem?_drop] at hx
    have hlt : off + i < cs.length := by omega
    simp only [V.cell, List.getD_eq_getElem?_getD, List.getElem?_eq_getElem hlt, Option.getD_some]
    exact h3 (off + i) _ x (List.getElem?_eq_getElem hlt) hx

theorem part_run {t : TypeId} {i : TI} (h : TOk P t i) {cs : List V} {xs : List Value} (h1 : xs.length = cs.length) (h2 : ∀ (i : Nat) (x : Value), xs[i]? = some x → x.oneCell' = true) (h3 : ∀ (i : Nat) (v : V) (x : Value), cs[i]? = some v → xs[i]? = some x → Rel G w v x)
    (off : Nat) (hn : off + i.size ≤ cs.length) (hs : i.agg = false → 0 < i.size) :
    ∃ c, (part t xs.toArray off).run P w = .ok c w ∧ Rel G w (if i.agg then .agg ((List.range i.size).map fun j => (V.agg cs).cell (off + j)) else (V.agg cs).cell off) c := by
  simp only [part, Sem.run_bind, run_isAgg_of h, Result.andThen_ok]
  cases hi : i.agg with
  | true =>
    refine ⟨_, ?_, agg_part h1 h2 h3 off i.size hn⟩
    simp only [if_true, Sem.run_bind, run_sizeOf_of h, Result.andThen_ok, Sem.run_pure]
    congr 2
    apply Array.ext'
    simp [List.extract_eq_drop_take]
  | false =>
    have hlt : off < cs.length := by have := hs hi; omega
    have hlt' : off < xs.length := by omega
    refine ⟨xs[off], ?_, ?_⟩
    · simp [hlt']
    · simp only [Bool.false_eq_true, if_false, V.cell, List.getD_eq_getElem?_getD, List.getElem?_eq_getElem hlt, Option.getD_some]
      exact h3 off _ _ (List.getElem?_eq_getElem hlt) (List.getElem?_eq_getElem hlt')

theorem fits_agg {v : V} {c : Value} {n : Nat} (h : Rel G w v c) (hf : v.fits true n = true) : ∃ cs, ∃ xs : List Value, v = .agg cs ∧ c = .agg xs.toArray ∧ cs.length = n ∧ xs.length = cs.length ∧
    (∀ (i : Nat) (x : Value), xs[i]? = some x → x.oneCell' = true) ∧ (∀ (i : Nat) (v : V) (x : Value), cs[i]? = some v → xs[i]? = some x → Rel G w v x) := by
  cases h <;> simp [V.fits] at hf
  exact ⟨_, _, rfl, rfl, hf, ‹_›, ‹_›, ‹_›⟩

theorem val_field (hC : CtxOk P C) (h : Inv C.glob G lam a w st) {o : Oper} {t : TypeId} {x : Operand} {f : Nat} {y : RV} (ho : o.op = .field t x f) (ha : act C H o st.regs = some (.val y)) : VOk P C H G lam a w st o y := by
  simp only [act, ho] at ha
  obtain ⟨i, hi, h1⟩ := bind2 ha
  clear ha
  obtain ⟨d1, hd1, hk1⟩ := (hC.T t i hi).desc
  split at h1
  · rename_i fs hfs
    rw [hfs] at hk1
    obtain ⟨fields, rfl, hm⟩ := kok_struct hk1
    obtain ⟨p, hp, h2⟩ := bind2 h1
    obtain ⟨fi, hfi, h3⟩ := bind2 h2
    obtain ⟨v, hv, h4⟩ := bind2 h3
    obtain ⟨u, hu, h5⟩ := bind2 h4
    clear h1 h2 h3 h4
    have hu := grd_some hu
    simp only [Bool.and_eq_true, decide_eq_true_eq] at hu
    rw [← hm, List.getElem?_map, Option.map_eq_some_iff] at hp
    obtain ⟨fd, hfd, rfl⟩ := hp
    have hfd' : fields[f]? = some fd := by simpa using hfd
    obtain ⟨cs, xs, rfl, hx, g0, g1, g2, g3⟩ := fits_agg (vk_rel h hv) hu.1.1
    obtain ⟨c, hc1, hc2⟩ := part_run (P := P) (hC.T _ _ hfi) g1 g2 g3 fd.offset (by rw [g0]; exact hu.1.2) (fun hh => by simpa [hh] using hu.2)
    have hrun : (execOp a.eval o).run P w = .ok (.value c) w := by
      simp [execOp, ho, Instr.field, run_underlying_of hd1, hfd', hx, asAgg, hc1]
    split at h5
    · rename_i hag
      obtain rfl := Eff.val.inj (Option.some.inj h5)
      rw [if_pos hag] at hc2
      exact VOk.val h c hrun hc2
    · rename_i hag
      obtain rfl := Eff.val.inj (Option.some.inj h5)
      rw [if_neg hag] at hc2
      exact VOk.val h c hrun hc2
  · simp at h1

theorem val_index (hC : CtxOk P C) (h : Inv C.glob G lam a w st) {o : Oper} {t : TypeId} {x ix : Operand} {y : RV} (ho : o.op = .index t x ix) (ha : act C H o st.regs = some (.val y)) : VOk P C H G lam a w st o y := by
  simp only [act, ho] at ha
  obtain ⟨i, hi, h1⟩ := bind2 ha
  clear ha
  obtain ⟨d1, hd1, hk1⟩ := (hC.T t i hi).desc
  split at h1
  · rename_i hkk
    rw [hkk] at hk1
    obtain rfl := kok_string hk1
    obtain ⟨v, hv, h2⟩ := bind2 h1
    obtain ⟨s, hs, h3⟩ := bind2 h2
    obtain ⟨wv, hw, h4⟩ := bind2 h3
    obtain ⟨n, hn, h5⟩ := bind2 h4
    obtain ⟨u, hu, h6⟩ := bind2 h5
    clear h1 h2 h3 h4 h5
    have hu := grd_some hu
    simp only [Bool.and_eq_true, decide_eq_true_eq] at hu
    obtain rfl := Eff.val.inj (Option.some.inj h6)
    have hix := vk_int h hw hn
    have hlt : n.toNat < s.size := by omega
    refine VOk.val h (.int .u8 (byteAt s n.toNat)) ?_ (.int _ _)
    have hb : s[n.toNat]? = some s[n.toNat] := getElem?_pos s n.toNat hlt
    have hb2 : byteAt s n.toNat = (s[n.toNat].toNat : Int) := by
      unfold byteAt
      rw [List.getD_eq_getElem?_getD, List.getElem?_eq_getElem (by simpa using hlt)]
      rfl
    simp only [execOp, ho, Instr.index, hix, asIntOf, vk_str h hv hs, Sem.run_bind, Sem.run_pure, Result.andThen_ok, run_underlying_of hd1, if_pos hu.1, hb, hb2]
  · rename_i len e hkk
    rw [hkk] at hk1
    obtain rfl := kok_array hk1
    obtain ⟨ei, hei, h2⟩ := bind2 h1
    split at h2
    · simp at h2
    · rename_i hag
      split at h2
      · simp at h2
      · rename_i hsz
        obtain ⟨v, hv, h3⟩ := bind2 h2
        obtain ⟨u1, hu1, h4⟩ := bind2 h3
        obtain ⟨wv, hw, h5⟩ := bind2 h4
        obtain ⟨n, hn, h6⟩ := bind2 h5
        obtain ⟨u, hu, h7⟩ := bind2 h6
        clear h1 h2 h3 h4 h5 h6
        have hu := grd_some hu
        have hu1 := grd_some hu1
        simp only [Bool.and_eq_true, decide_eq_true_eq] at hu
        obtain rfl := Eff.val.inj (Option.some.inj h7)
        have hix := vk_int h hw hn
        obtain ⟨cs, xs, rfl, hx, g0, g1, g2, g3⟩ := fits_agg (vk_rel h hv) hu1
        have hsz : ei.size = 1 := by simpa using hsz
        obtain ⟨c, hc1, hc2⟩ := part_run (P := P) (hC.T _ _ hei) g1 g2 g3 n.toNat (by rw [g0, hsz]; omega) (fun _ => by omega)
        rw [if_neg hag] at hc2
        refine VOk.val h c ?_ hc2
        simp [execOp, ho, Instr.index, hix, asIntOf, hx, run_underlying_of hd1, hu, run_sizeOf_of (hC.T _ _ hei), hsz, hc1]
  · simp at h1

theorem val_len (hC : CtxOk P C) (h : Inv C.glob G lam a w st) {o : Oper} {c : Call} {y : RV} (ho : o.op = .call c) (hb : c.callee = .builtin .len) (ha : act C H o st.regs = some (.val y)) : VOk P C H G lam a w st o y := by
  simp only [act, ho, hb] at ha
  split at ha
  · rename_i x t hx ht
    obtain ⟨i, hi, h1⟩ := bind2 ha
    clear ha
    obtain ⟨d1, hd1, hk1⟩ := (hC.T t i hi).desc
    have hxa : c.args = #[x] := Array.ext' (by simp [hx])
    have hta : c.argTypes = #[t] := Array.ext' (by simp [ht])
    have key : ∀ r, (Builtin.len_ #[t] o.type #[a.eval x]).run P w = .ok r w → (execOp a.eval o).run P w = .ok (.value r) w := by
      intro r hr
      simp [execOp, ho, resolve, hb, hxa, hta, invoke, builtin, hr]
    split at h1
    · rename_i hkk
      rw [hkk] at hk1
      obtain rfl := kok_string hk1
      obtain ⟨v, hv, h2⟩ := bind2 h1
      obtain ⟨s, hs, h3⟩ := bind2 h2
      obtain rfl := Eff.val.inj (Option.some.inj h3)
      refine VOk.val h _ (key (.int .i64 s.size) ?_) (.int _ _)
      simp [Builtin.len_, run_underlying_of hd1, vk_str h hv hs, goInt]
    · rename_i e hkk
      rw [hkk] at hk1
      obtain rfl := kok_slice hk1
      obtain ⟨ei, hei, h2⟩ := bind2 h1
      obtain ⟨v, hv, h3⟩ := bind2 h2
      obtain ⟨es, hes, h4⟩ := bind2 h3
      obtain rfl := Eff.val.inj (Option.some.inj h4)
      obtain ⟨hr, _⟩ := asSlice_rel hes (vk_rel h hv)
      refine VOk.val h _ (key (.int .i64 es.length) ?_) (.int _ _)
      rcases rel_slice hr with ⟨rfl, hc⟩ | ⟨b, off, cap, cs, hc, _⟩ <;> simp [Builtin.len_, run_underlying_of hd1, hc, goInt]
    · rename_i n e hkk
      rw [hkk] at hk1
      obtain rfl := kok_array hk1
      obtain rfl := Eff.val.inj (Option.some.inj h1)
      refine VOk.val h _ (key (.int .i64 n) ?_) (.int _ _)
      simp [Builtin.len_, run_underlying_of hd1, goInt]
    · simp at h1
  · simp at ha

theorem val_max (h : Inv C.glob G lam a w st) {o : Oper} {c : Call} {y : RV} (ho : o.op = .call c) (hb : c.callee = .builtin .max) (ha : act C H o st.regs = some (.val y)) : VOk P C H G lam a w st o y := by
  simp only [act, ho, hb] at ha
  split at ha
  · rename_i x z hx
    obtain ⟨v, hv, h1⟩ := bind2 ha
    obtain ⟨m, hm, h2⟩ := bind2 h1
    obtain ⟨v', hv', h3⟩ := bind2 h2
    obtain ⟨n, hn, h4⟩ := bind2 h3
    obtain rfl := Eff.val.inj (Option.some.inj h4)
    have hxa : c.args = #[x, z] := Array.ext' (by simp [hx])
    refine VOk.val h (.int .i64 (if m < n then n else m)) ?_ (.int _ _)
    simp [execOp, ho, resolve, hb, hxa, invoke, builtin, Builtin.max_, Builtin.max2, vk_int h hv hm, vk_int h hv' hn]
  · simp at ha

theorem optInt_some (h : Inv C.glob G lam a w st) {x : Option Operand} {d n : Int} (hx : optInt C st.regs x d = some n) : (x = none ∧ n = d) ∨ ∃ y, x = some y ∧ a.eval y = .int .i64 n := by
  cases x with
  | none => simp [optInt] at hx; exact .inl ⟨rfl, hx.symm⟩
  | some y =>
    simp only [optInt] at hx
    obtain ⟨v, h1, h2⟩ := bind2 hx
    exact .inr ⟨y, rfl, vk_int h h1 h2⟩

theorem rel_subslice {k : Nat} {et : TypeId} {es : List (List V)} {b off cap : Nat} (h : Rel G w (.slice k et es) (.slice (some ⟨b, off, none⟩) es.length cap)) {l r c' : Nat} (hl : l ≤ r) (hr : r ≤ es.length) (hc : r - l ≤ c') :
    Rel G w (.slice k et ((es.take r).drop l)) (.slice (some ⟨b, off + l * k, none⟩) (r - l) c') := by
  cases h with
  | slice _ _ _ _ _ _ cs h1 h2 h3 h4 h5 h6 h7 =>
    have hlen : ((es.take r).drop l).length = r - l := by simp; omega
    have sub : ∀ (i : Nat) (e : List V), ((es.take r).drop l)[i]? = some e → es[l + i]? = some e := by
      intro i e he
      rw [List.getElem?_drop, List.getElem?_take] at he
      split at he
      · exact he
      · simp at he
    have subc : ∀ (i : Nat) (e : List Value), ((cs.take r).drop l)[i]? = some e → cs[l + i]? = some e := by
      intro i e he
      rw [List.getElem?_drop, List.getElem?_take] at he
      split at he
      · exact he
      · simp at he
    have := Rel.slice (G := G) (w := w) k et ((es.take r).drop l) b (off + l * k) c' ((cs.take r).drop l) (by simp; omega) (by rw [hlen]; exact hc) (by
        rw [hlen]
        have : (r - l) * k + l * k = r * k := by rw [← Nat.add_mul]; congr 1; omega
        have h9 : r * k ≤ es.length * k := Nat.mul_le_mul_right _ hr
        omega)
      (fun i e he => h4 _ e (sub i e he)) (fun i x hx => h5 _ x (subc i x hx))
      (fun i j x c hx hc => by
        have := h6 (l + i) j x c (subc i x hx) hc
        rw [Nat.add_mul] at this
        rw [show off + l * k + i * k + j = off + (l * k + i * k) + j by omega]
        exact this)
      (fun i j e x v c he hx hv hc => h7 (l + i) j e x v c (sub i e he) (subc i x hx) hv hc)
    rw [hlen] at this
    exact this

theorem sliceBound_run {x : Value} {y : Nat} {code : BoundsCode} {n : Int} (hx : x = .int .i64 n) (h0 : 0 ≤ n) (h1 : n ≤ y) : (Instr.sliceBound x y code).run P w = .ok n.toNat w := by
  subst hx
  simp [Instr.sliceBound, asIntOf, h0, h1]

theorem sliceBounds_run {isS : Bool} {len cap : Nat} {lo hi : Option Value} {l r : Int} (hl : (lo = none ∧ l = 0) ∨ lo = some (.int .i64 l)) (hr : (hi = none ∧ r = len) ∨ hi = some (.int .i64 r))
    (h0 : 0 ≤ l) (h1 : l ≤ r) (h2 : r ≤ cap) : (Instr.sliceBounds isS len cap lo hi none).run P w = .ok (l.toNat, r.toNat, cap) w := by
  have e1 : ∀ code, (Instr.sliceBound (.int .i64 r) cap code).run P w = .ok r.toNat w := fun code => sliceBound_run rfl (by omega) h2
  have e2 : ∀ code, (Instr.sliceBound (.int .i64 l) r.toNat code).run P w = .ok l.toNat w := fun code => sliceBound_run rfl h0 (by omega)
  rcases hl with ⟨rfl, rfl⟩ | rfl <;> rcases hr with ⟨rfl, rfl⟩ | rfl
  · simp [Instr.sliceBounds]
  · simp [Instr.sliceBounds, e1]
  · simp only [Int.toNat_natCast] at e2
    simp [Instr.sliceBounds, e2]
  · simp [Instr.sliceBounds, e1, e2]

theorem sliceBounds_run3 {isS : Bool} {len cap : Nat} {lo : Option Value} {l r : Int} (hl : (lo = none ∧ l = 0) ∨ lo = some (.int .i64 l))
    (h0 : 0 ≤ l) (h1 : l ≤ r) (h2 : r ≤ cap) : (Instr.sliceBounds isS len cap lo (some (.int .i64 r)) (some (.int .i64 r))).run P w = .ok (l.toNat, r.toNat, r.toNat) w := by
  have e1 : ∀ code, (Instr.sliceBound (.int .i64 r) cap code).run P w = .ok r.toNat w := fun code => sliceBound_run rfl (by omega) h2
  have e3 : ∀ code, (Instr.sliceBound (.int .i64 r) r.toNat code).run P w = .ok r.toNat w := fun code => sliceBound_run rfl (by omega) (by omega)
  have e2 : ∀ code, (Instr.sliceBound (.int .i64 l) r.toNat code).run P w = .ok l.toNat w := fun code => sliceBound_run rfl h0 (by omega)
  rcases hl with ⟨rfl, rfl⟩ | rfl
  · simp [Instr.sliceBounds, e1, e3]
  · simp [Instr.sliceBounds, e1, e2, e3]

theorem optVal (h : Inv C.glob G lam a w st) {x : Option Operand} {d n : Int} (hx : optInt C st.regs x d = some n) : (x.map a.eval = none ∧ n = d) ∨ x.map a.eval = some (.int .i64 n) := by
  rcases optInt_some h hx with ⟨rfl, rfl⟩ | ⟨y, rfl, hy⟩
  · exact .inl ⟨rfl, rfl⟩
  · exact .inr (by simp [hy])

theorem sameOpnd_eq {x y : Option Operand} (h : sameOpnd x y = true) : ∃ r, x = some (.tmp r) ∧ y = some (.tmp r) := by
  unfold sameOpnd at h
  split at h
  · simp at h; subst h; exact ⟨_, rfl, rfl⟩
  · simp at h

theorem val_slice (hC : CtxOk P C) (h : Inv C.glob G lam a w st) {o : Oper} {t : TypeId} {x : Operand} {lo hi mx : Option Operand} {y : RV} (ho : o.op = .slice t x lo hi mx) (ha : act C H o st.regs = some (.val y)) : VOk P C H G lam a w st o y := by
  simp only [act, ho] at ha
  obtain ⟨i, hi', h1⟩ := bind2 ha
  clear ha
  obtain ⟨d1, hd1, hk1⟩ := (hC.T t i hi').desc
  split at h1
  · rename_i hkk
    rw [hkk] at hk1
    obtain rfl := kok_string hk1
    split at h1
    · simp at h1
    · rename_i hmx
      have hmx : mx = none := by simpa using hmx
      subst hmx
      obtain ⟨v, hv, h2⟩ := bind2 h1
      obtain ⟨s, hs, h3⟩ := bind2 h2
      obtain ⟨l, hl, h4⟩ := bind2 h3
      obtain ⟨r, hr, h5⟩ := bind2 h4
      obtain ⟨u, hu, h6⟩ := bind2 h5
      clear h1 h2 h3 h4 h5
      have hu := grd_some hu
      simp only [Bool.and_eq_true, decide_eq_true_eq] at hu
      obtain rfl := Eff.val.inj (Option.some.inj h6)
      refine VOk.val h (.string (s.extract l.toNat r.toNat)) ?_ (.str _)
      have hs' := vk_str h hv hs
      have hb := sliceBounds_run (P := P) (w := w) (isS := false) (len := s.size) (cap := s.size) (optVal h hl) (optVal h hr) hu.1.1 hu.1.2 hu.2
      simp only [execOp, ho, Instr.sliceAt, Instr.slice, Sem.run_bind, run_underlying_of hd1, Result.andThen_ok, hs', Option.map_none, hb]
      simp [hb]
  · rename_i e hkk
    rw [hkk] at hk1
    obtain rfl := kok_slice hk1
    obtain ⟨ei, hei, h2⟩ := bind2 h1
    obtain ⟨v, hv, h3⟩ := bind2 h2
    obtain ⟨es, hes, h4⟩ := bind2 h3
    obtain ⟨l, hl, h5⟩ := bind2 h4
    obtain ⟨r, hr, h6⟩ := bind2 h5
    obtain ⟨u, hu, h7⟩ := bind2 h6
    clear h1 h2 h3 h4 h5 h6
    have hu := grd_some hu
    simp only [Bool.and_eq_true, decide_eq_true_eq] at hu
    obtain ⟨hrel, _⟩ := asSlice_rel hes (vk_rel h hv)
    -- the real value's parts
    have key : ∀ (m : Nat → Nat) , (∀ cap, (Instr.sliceBounds true es.length cap (lo.map a.eval) (hi.map a.eval) (mx.map a.eval)).run P w = .ok (l.toNat, r.toNat, m cap) w ∨ ¬ es.length ≤ cap) → (∀ cap, es.length ≤ cap → r.toNat ≤ m cap) → (m 0 = 0 ∨ es ≠ []) →
        ∃ c, (execOp a.eval o).run P w = .ok (.value c) w ∧ Rel G w (.slice ei.size e ((es.take r.toNat).drop l.toNat)) c ∧ ∀ ao n cap, c = .slice ao n cap → ∃ cap0, es.length ≤ cap0 ∧ n = r.toNat - l.toNat ∧ cap = m cap0 - l.toNat := by
      intro m hm hm2 hm3
      have hsz := run_sizeOf_of (w := w) (hC.T _ _ hei)
      rcases rel_slice hrel with ⟨rfl, hc⟩ | ⟨b, off, cap, cs, hc, g1, g2, g3, g4, g5, g6, g7⟩
      · have hb := (hm 0).resolve_right (by simp)
        have hl0 : l.toNat = 0 := by simp at hu; omega
        have hr0 : r.toNat = 0 := by simp at hu; omega
        have hm0 : m 0 = 0 := hm3.resolve_right (by simp)
        refine ⟨.slice none 0 0, ?_, by rw [hl0, hr0]; exact .snil _ _, fun ao n cp hh => ⟨0, by simp, ?_, ?_⟩⟩
        · rw [hl0, hr0, hm0] at hb
          simp only [List.length_nil] at hb
          simp [execOp, ho, Instr.sliceAt, Instr.slice, run_underlying_of hd1, hc, hb, hsz]
        · simp at hh; omega
        · simp at hh; omega
      · have hb := (hm cap).resolve_right (by omega)
        have hm' := hm2 cap g2
        have hrel' := hrel
        rw [hc] at hrel'
        have hsub := rel_subslice hrel' (l := l.toNat) (r := r.toNat) (c' := m cap - l.toNat) (by omega) (by omega) (by omega)
        by_cases hml : m cap = l.toNat
        · refine ⟨.slice (some ⟨b, off, none⟩) (r.toNat - l.toNat) (m cap - l.toNat), ?_, ?_, fun ao n cp hh => ⟨cap, g2, ?_, ?_⟩⟩
          · simp [execOp, ho, Instr.sliceAt, Instr.slice, run_underlying_of hd1, hc, hb, hsz, hml]
          · have h0 : r.toNat - l.toNat = 0 := by omega
            have he : (es.take r.toNat).drop l.toNat = [] := by apply List.drop_eq_nil_of_le; simp; omega
            rw [he, h0]
            have := Rel.slice (G := G) (w := w) ei.size e [] b off (m cap - l.toNat) [] rfl (by simp) (by simp; omega) (by simp) (by simp) (by simp) (by simp)
            simpa using this
          · simp at hh; omega
          · simp at hh; omega
        · refine ⟨.slice (some ⟨b, off + l.toNat * ei.size, none⟩) (r.toNat - l.toNat) (m cap - l.toNat), ?_, hsub, fun ao n cp hh => ⟨cap, g2, ?_, ?_⟩⟩
          · simp [execOp, ho, Instr.sliceAt, Instr.slice, run_underlying_of hd1, hc, hb, hsz, hml, add_plain]
          · simp at hh; omega
          · simp at hh; omega
    split at h7
    · obtain rfl := Eff.val.inj (Option.some.inj h7)
      obtain ⟨c, k1, k2, _⟩ := key (fun cap => cap) (fun cap => by
        by_cases hcap : es.length ≤ cap
        · exact .inl (sliceBounds_run (optVal h hl) (optVal h hr) hu.1.1 hu.1.2 (by omega))
        · exact .inr hcap) (fun cap hcap => by omega) (.inl rfl)
      exact VOk.val h c k1 k2
    · simp at h7
  · rename_i n e hkk
    rw [hkk] at hk1
    obtain rfl := kok_array hk1
    obtain ⟨ei, hei, h2⟩ := bind2 h1
    split at h2
    · simp at h2
    · rename_i hne
      have hmx : mx = none := by
        cases mx with
        | none => rfl
        | some _ => exact absurd (.inl rfl) hne
      subst hmx
      have hes : ei.size = 1 := by
        by_cases h0 : ei.size = 1
        · exact h0
        · exact absurd (.inr h0) hne
      obtain ⟨v, hv, h3⟩ := bind2 h2
      obtain ⟨vs, hvs, h4⟩ := bind2 h3
      obtain ⟨l, hl, h5⟩ := bind2 h4
      obtain ⟨r, hr, h6⟩ := bind2 h5
      obtain ⟨u, hu, h7⟩ := bind2 h6
      clear h1 h2 h3 h4 h5 h6
      have hu := grd_some hu
      simp only [Bool.and_eq_true, decide_eq_true_eq] at hu
      obtain rfl := Eff.val.inj (Option.some.inj h7)
      have hsz := run_sizeOf_of (w := w) (hC.T _ _ hei)
      have hvr := vk_rel h hv
      unfold V.asArr at hvs
      split at hvs
      case h_2 => simp at hvs
      split at hvs
      case isFalse => simp at hvs
      rename_i k0 e0 o0 hko
      obtain ⟨rfl, rfl⟩ := hko
      obtain rfl := Option.some.inj hvs
      generalize hxe : a.eval x = xv at hvr
      cases hvr with
      | eptr _ _ _ b off cs g1 g2 g3 g4 g5 =>
      have hfull : Rel G w (.slice 1 e (e0.map fun v => [v])) (.slice (some ⟨b, off, none⟩) (e0.map fun v => [v]).length k0) := by
        refine Rel.slice 1 e _ b off k0 (cs.map fun c => [c]) (by simp [g1, g2]) (by simp [g1]) (by simp [g1]; omega) (fun i y hy => ?_) (fun i y hy => ?_) (fun i j y c hy hc => ?_) (fun i j y z v c hy hz hv hc => ?_)
        · simp only [List.getElem?_map, Option.map_eq_some_iff] at hy
          obtain ⟨_, _, rfl⟩ := hy; rfl
        · simp only [List.getElem?_map, Option.map_eq_some_iff] at hy
          obtain ⟨_, _, rfl⟩ := hy; rfl
        · simp only [List.getElem?_map, Option.map_eq_some_iff] at hy
          obtain ⟨c', hc', rfl⟩ := hy
          match j with
          | 0 => simp at hc; subst hc; simpa using g4 i _ hc'
          | j + 1 => simp at hc
        · simp only [List.getElem?_map, Option.map_eq_some_iff] at hy hz
          obtain ⟨v', hv', rfl⟩ := hy
          obtain ⟨c', hc', rfl⟩ := hz
          match j with
          | 0 => simp at hc hv; subst hc; subst hv; exact g5 i _ _ hv' hc'
          | j + 1 => simp at hc
      have hsub := rel_subslice hfull (l := l.toNat) (r := r.toNat) (c' := k0 - l.toNat) (by omega) (by simp [g1]; omega) (by omega)
      have hb := sliceBounds_run (P := P) (w := w) (isS := false) (len := k0) (cap := k0) (optVal h hl) (optVal h hr) hu.1.1.1 hu.1.1.2 hu.1.2
      have hne : ¬ k0 = l.toNat := by omega
      refine VOk.val h (.slice (some ⟨b, off + l.toNat * 1, none⟩) (r.toNat - l.toNat) (k0 - l.toNat)) ?_ hsub
      rw [hes] at hsz
      simp [execOp, ho, Instr.sliceAt, Instr.sureAddr, run_underlying_of hd1, hxe, hb, hsz, hne, add_plain]
  · simp at h1
end
end Go.Ab
end
section
namespace Go.Ab
section
variable {P : Program} {C : Ctx} {H : Hints} {G : Gh} {lam : Nat → Nat} {a : Act} {w : World} {st : St}

theorem mapM_some' {α β : Type} {f : α → Option β} : ∀ (l : List α), (∀ x, x ∈ l → (f x).isSome = true) → ∃ r, l.mapM f = some r ∧ r.length = l.length ∧ ∀ (i : Nat) x, l[i]? = some x → r[i]? = f x
  | [], _ => ⟨[], rfl, rfl, by simp⟩
  | x :: l, h => by
    obtain ⟨r, h1, h2, h3⟩ := mapM_some' l fun y hy => h y (by simp [hy])
    obtain ⟨y, hy⟩ := Option.isSome_iff_exists.1 (h x (by simp))
    refine ⟨y :: r, by simp [List.mapM_cons, hy, h1], by simp [h2], fun i z hz => ?_⟩
    cases i with
    | zero => simp at hz; subst hz; simp [hy]
    | succ i => simp at hz; simpa using h3 i z hz

theorem cells_agg {z : Value} {n : Nat} : True := trivial

theorem val_build (hC : CtxOk P C) (h : Inv C.glob G lam a w st) {o : Oper} {t : TypeId} {parts : Array (Nat × Operand)} {y : RV} (ho : o.op = .build t parts) (ha : act C H o st.regs = some (.val y)) : VOk P C H G lam a w st o y := by
  simp only [act, ho] at ha
  obtain ⟨i, hi, h1⟩ := bind2 ha
  clear ha
  have hT := hC.T t i hi
  obtain ⟨d1, hd1, hk1⟩ := hT.desc
  have fin : ∀ (cs : List V) (xs : Array Value) (ow : Bool), P.built t (parts.toList.map fun x => (x.1, a.eval x.2)) = some xs → CellsRel G w cs xs.toList → (ow = true → TightC cs xs.toList) → VOk P C H G lam a w st o (.val (.agg cs) ow) := by
    intro cs xs ow hb hc ht
    refine VOk.pure h (.agg xs) ?_ fun d => ⟨?_, fun ho => by intro i k et x hx hy; exact ht ho i k et x hx (by simpa using hy)⟩
    · rw [← parts_map] at hb
      simp [execOp, ho, run_build w t _ xs hb]
    · have := Rel.agg (G := G) (w := w) cs xs.toList hc.1 (fun i x hx => by
        have hlt : i < cs.length := by rw [← hc.1]; exact (List.getElem?_eq_some_iff.1 hx).1
        exact (hc.2 i _ x (List.getElem?_eq_getElem hlt) hx).2) (fun i v x hv hx => (hc.2 i v x hv hx).1)
      simpa using this
  split at h1
  · rename_i fs hfs
    rw [hfs] at hk1
    obtain ⟨fields, rfl, hm⟩ := kok_struct hk1
    obtain ⟨info, z, e1, e2, e3, e4, e5⟩ := zero_rel hT (by simp [hfs]) G w
    split at h1
    · rename_i hall
      obtain ⟨cs, hcs, h2⟩ := bind2 h1
      obtain rfl := Eff.val.inj (Option.some.inj h2)
      have hsome : ∀ x, x ∈ fields.toList → ((P.info? x.type).map fun i => (x.offset, i.size)).isSome = true := by
        intro x hx
        rw [List.all_eq_true] at hall
        have := hall (x.offset, x.type) (by rw [← hm]; exact List.mem_map.2 ⟨x, hx, rfl⟩)
        obtain ⟨ti, hti⟩ := Option.isSome_iff_exists.1 this
        obtain ⟨inf, hinf, _⟩ := (hC.T _ _ hti).info
        simp [hinf]
      obtain ⟨places, p1, p2, p3⟩ := mapM_some' fields.toList hsome
      obtain ⟨xs', f1, f2, _, f4⟩ := fill_ok h _ (places.toArray[·]?) (fun j p hp => by
        obtain ⟨q, hq, hp⟩ := bind2 hp
        simp only [Option.map_eq_some_iff] at hp
        obtain ⟨fi, hfi, rfl⟩ := hp
        rw [← hm, List.getElem?_map, Option.map_eq_some_iff] at hq
        obtain ⟨fd, hfd, rfl⟩ := hq
        obtain ⟨inf, hinf, hsz, _⟩ := (hC.T _ _ hfi).info
        have := p3 j fd hfd
        simp only [hinf, Option.map_some, hsz] at this
        simpa using this) parts.toList i.zero cs z.cells hcs e3
      exact fin cs xs' _ (by simp only [Program.built, e1, hd1, e2, p1]; exact f1) f2 fun ho => f4 (by simp only [Bool.and_eq_true] at ho; exact ho.2) e5
    · simp at h1
  · rename_i len e hkk
    rw [hkk] at hk1
    obtain rfl := kok_array hk1
    obtain ⟨info, z, e1, e2, e3, e4, e5⟩ := zero_rel hT (by simp [hkk]) G w
    obtain ⟨ei, hei, h2⟩ := bind2 h1
    obtain ⟨cs, hcs, h3⟩ := bind2 h2
    obtain rfl := Eff.val.inj (Option.some.inj h3)
    obtain ⟨inf, hinf, hsz, _⟩ := (hC.T _ _ hei).info
    obtain ⟨xs', f1, f2, _, f4⟩ := fill_ok h _ (fun j => some (j * inf.size, inf.size)) (fun j p hp => by
      simp only [Option.some.injEq] at hp
      subst hp
      simp [hsz]) parts.toList i.zero cs z.cells hcs e3
    exact fin cs xs' false (by simp only [Program.built, e1, hd1, e2, hinf]; exact f1) f2 (by simp)
  · simp at h1

theorem gather_e {k : Nat} {e : List V} {o n : Nat} {ag : Bool} {v : V} (h : memGet [] (.eptr k e o) ag n = some v) : o + n ≤ k ∧ ((ag = true ∧ v = .agg ((List.range n).map fun i => e.getD (o + i) .any)) ∨ (ag = false ∧ n = 1 ∧ v = e.getD o .any)) := by
  simp only [memGet] at h
  split at h
  · rename_i h1
    refine ⟨h1, ?_⟩
    split at h
    · rename_i h2
      exact .inl ⟨h2, (Option.some.inj h).symm⟩
    · rename_i h2
      split at h
      · exact .inr ⟨by simpa using h2, ‹_›, (Option.some.inj h).symm⟩
      · simp at h
  · simp at h

/-- Cells read together. -/
theorem load_cells {t : TypeId} {i : TI} (hT : TOk P t i) (b o : Nat) (f : Nat → V) (xs : List Value) (hl : xs.length = i.size)
    (h : ∀ (j : Nat) x, xs[j]? = some x → w.cell? ⟨b, o + j, none⟩ = some x ∧ x.oneCell' = true ∧ Rel G w (f j) x) (hs : i.agg = false → i.size = 1) :
    ∃ c, (loadVar t ⟨b, o, none⟩).run P w = .ok c w ∧ Rel G w (if i.agg then .agg ((List.range i.size).map f) else f 0) c := by
  refine ⟨_, run_loadVar_of hT b o xs hl (fun j c hc => (h j c hc).1) hs, ?_⟩
  cases hag : i.agg with
  | true =>
    simp only [if_true]
    refine .agg _ _ (by simp [hl]) (fun j x hx => (h j x hx).2.1) (fun j v x hv hx => ?_)
    obtain ⟨_, rfl⟩ := range_get hv
    exact (h j x hx).2.2
  | false =>
    simp only [Bool.false_eq_true, if_false]
    have := hs hag
    match xs, hl with
    | [x], _ => exact (h 0 x rfl).2.2
    | [], hl => simp at hl; omega
    | _ :: _ :: _, hl => simp at hl; omega

theorem rel_eptr_load {t : TypeId} {i : TI} (hT : TOk P t i) {k : Nat} {e : List V} {o : Nat} {c : Value} (hr : Rel G w (.eptr k e o) c) {v : V} {σ : Sto} (hv : memGet σ (.eptr k e o) i.agg i.size = some v) :
    ∃ x, (Instr.loadAt t c).run P w = .ok x w ∧ Rel G w v x := by
  have hv' : memGet [] (.eptr k e o) i.agg i.size = some v := hv
  obtain ⟨h1, h2⟩ := gather_e hv'
  cases hr with
  | eptr _ _ _ b off cs g1 g2 g3 g4 g5 =>
    have hcl : ∀ j, j < i.size → ∃ x, cs[o + j]? = some x := fun j hj => ⟨_, List.getElem?_eq_getElem (by omega)⟩
    obtain ⟨x, e1, e2⟩ := load_cells (P := P) (G := G) (w := w) hT b (off + o) (fun j => e.getD (o + j) .any) ((cs.drop o).take i.size) (by simp; omega) (fun j x hx => by
      rw [List.getElem?_take] at hx
      split at hx
      · rw [List.getElem?_drop] at hx
        obtain ⟨q1, q2⟩ := g4 _ x hx
        refine ⟨by rw [Nat.add_assoc]; exact q1, q2, ?_⟩
        have hlt : o + j < e.length := by omega
        rw [List.getD_eq_getElem?_getD, List.getElem?_eq_getElem hlt]
        exact g5 _ _ x (List.getElem?_eq_getElem hlt) hx
      · simp at hx) (fun hh => by rcases h2 with ⟨h2, _⟩ | ⟨_, h2, _⟩; · simp [hh] at h2
                                  · exact h2)
    refine ⟨x, by simp [Instr.loadAt, Instr.sureAddr, e1], ?_⟩
    rcases h2 with ⟨q1, rfl⟩ | ⟨q1, q2, rfl⟩
    · rw [if_pos q1] at e2; exact e2
    · rw [if_neg (by simp [q1])] at e2; exact e2

theorem val_load (hC : CtxOk P C) (h : Inv C.glob G lam a w st) {o : Oper} {t : TypeId} {x : Operand} {y : RV} (ho : o.op = .load t x) (ha : act C H o st.regs = some (.val y)) : VOk P C H G lam a w st o y := by
  simp only [act, ho] at ha
  obtain ⟨i, hi, h1⟩ := bind2 ha
  clear ha
  split at h1
  · simp at h1
  · rename_i k e of ow _ hx
    obtain ⟨v, hv, h2⟩ := bind2 h1
    obtain rfl := Eff.val.inj (Option.some.inj h2)
    obtain ⟨c, e1, e2⟩ := rel_eptr_load (P := P) (hC.T t i hi) (eval_rel h hx).1 hv
    exact VOk.val h c (by simp [execOp, ho, e1]) e2
  · split at h1
    · split at h1 <;> simp at h1
    · simp at h1
  · simp at h1

theorem replZero_length (n : Nat) (z : List V) : (replZero n z).length = n * z.length := by
  induction n with
  | zero => simp [replZero]
  | succ n ih => simp [replZero, ih, Nat.succ_mul, Nat.add_comm]

theorem replZero_get (n : Nat) (z : List V) (i : Nat) (h : i < n * z.length) : (replZero n z)[i]? = z[i % z.length]? := by
  induction n generalizing i with
  | zero => simp at h
  | succ n ih =>
    simp only [replZero]
    by_cases hi : i < z.length
    · rw [List.getElem?_append_left hi, Nat.mod_eq_of_lt hi]
    · rw [List.getElem?_append_right (by omega)]
      rw [Nat.succ_mul] at h
      rw [ih _ (by omega), Nat.mod_eq_sub_mod (a := i) (by omega)]

theorem chunks_length (k n : Nat) (l : List V) : (chunks k n l).length = n := by
  induction n generalizing l with
  | zero => rfl
  | succ n ih => simp [chunks, ih]

theorem chunks_get (k n : Nat) (l : List V) (i : Nat) (e : List V) (h : (chunks k n l)[i]? = some e) : e = (l.drop (i * k)).take k := by
  induction n generalizing l i with
  | zero => simp [chunks] at h
  | succ n ih =>
    cases i with
    | zero => simp [chunks] at h; simp [h]
    | succ i =>
      simp only [chunks, List.getElem?_cons_succ] at h
      rw [ih _ _ h, List.drop_drop, Nat.succ_mul, Nat.add_comm]

theorem chunksV_length {α : Type} (k n : Nat) (l : List α) : True := trivial

/-- A new row of settled cells. -/
theorem newRow_rel {k n : Nat} {cs : List V} {xs : Array Value} (h : CellsRel G w cs xs.toList) (wf : WF G w) (el : TypeId) (hl : cs.length = n * k) (po : Option Place) (et : TypeId) :
    Rel (G.new w (n * k) po) (w.alloc (.cells xs el)) (.slice k et (chunks k n cs)) (.slice (some ⟨w.heap.size, 0, none⟩) n n) := by
  have hx := Ext.alloc wf (.cells xs el) (n * k) po
  have hlen := h.1
  simp only [Array.length_toList] at hlen
  have hcl := chunks_length k n cs
  have key : ∀ i, i < n → i * k + k ≤ n * k := by
    intro i hi
    have : (i + 1) * k ≤ n * k := Nat.mul_le_mul_right _ (by omega)
    rw [Nat.succ_mul] at this
    exact this
  have := Rel.slice (G := G.new w (n * k) po) (w := w.alloc (.cells xs el)) k et (chunks k n cs) w.heap.size 0 n ((List.range n).map fun i => (xs.toList.drop (i * k)).take k)
    (by simp [hcl]) (by rw [hcl]; exact Nat.le_refl _) (by rw [hcl]; show _ ≤ upd G.lim w.heap.size (n * k) w.heap.size; simp) (fun i e he => by
      have hi : i < n := by rw [← hcl]; exact (List.getElem?_eq_some_iff.1 he).1
      rw [chunks_get k n cs i e he]
      have := key i hi
      simp; omega) (fun i x hx => by
      obtain ⟨hi, hx⟩ := List.getElem?_eq_some_iff.1 hx
      simp at hi hx
      subst hx
      have := key i hi
      simp; omega) (fun i j x c hx hc => by
      obtain ⟨hi, hx⟩ := List.getElem?_eq_some_iff.1 hx
      simp at hi hx
      subst hx
      rw [List.getElem?_take] at hc
      split at hc
      · rw [List.getElem?_drop] at hc
        simp only [Array.getElem?_toList] at hc
        refine ⟨by rw [World.cell?_alloc_new, Nat.zero_add]; exact hc, ?_⟩
        have hlt : i * k + j < cs.length := by have := key i hi; omega
        exact (h.2 _ _ c (List.getElem?_eq_getElem hlt) (by simpa using hc)).2
      · simp at hc) (fun i j e x v c he hx' hv hc => by
      obtain ⟨hi, hx'⟩ := List.getElem?_eq_some_iff.1 hx'
      simp at hi hx'
      subst hx'
      rw [chunks_get k n cs i e he] at hv
      rw [List.getElem?_take] at hc hv
      split at hc
      · rw [if_pos ‹_›, List.getElem?_drop] at hv
        rw [List.getElem?_drop] at hc
        exact ((h.2 _ v c hv (by simpa using hc)).1).mono hx
      · simp at hc)
  rw [hcl] at this
  exact this

theorem val_buildSlice (hC : CtxOk P C) (h : Inv C.glob G lam a w st) {o : Oper} {t : TypeId} {n : Nat} {parts : Array (Nat × Operand)} {y : RV} (ho : o.op = .buildSlice t n parts) (ha : act C H o st.regs = some (.val y)) : VOk P C H G lam a w st o y := by
  simp only [act, ho] at ha
  obtain ⟨i, hi, h1⟩ := bind2 ha
  clear ha
  have hT := hC.T t i hi
  obtain ⟨d1, hd1, hk1⟩ := hT.desc
  split at h1
  · rename_i e hkk
    rw [hkk] at hk1
    obtain rfl := kok_slice hk1
    obtain ⟨ei, hei, h2⟩ := bind2 h1
    split at h2
    · rename_i hle
      obtain ⟨cs, hcs, h3⟩ := bind2 h2
      obtain rfl := Eff.val.inj (Option.some.inj h3)
      have hTe := hC.T e ei hei
      by_cases htup : ∃ m, ei.kind = .tuple m
      · obtain ⟨m, hm⟩ := htup
        have := hle.2
        simp [TI.isTup, hm] at this
      · have hle := hle.1
        obtain ⟨info, z, e1, e2, e3, e4, _⟩ := zero_rel hTe (fun m hm => htup ⟨m, hm⟩) G w
        have hzl : z.cells.size = ei.size := by have := e3.1; simp only [Array.length_toList] at this; omega
        have hz : CellsRel G w (replZero n ei.zero) (((Array.range (n * ei.size)).map (fun j => (if n * ei.size = 0 then #[] else z.cells)[j % (if n * ei.size = 0 then #[] else z.cells).size]!)).toList) := by
          refine ⟨by simp [replZero_length, e4], fun j v x hv hx => ?_⟩
          obtain ⟨hj, hx⟩ := List.getElem?_eq_some_iff.1 hx
          simp at hj
          have hne : ¬ n * ei.size = 0 := by omega
          simp [hne] at hx
          rw [replZero_get _ _ _ (by rw [e4]; exact hj)] at hv
          rw [e4] at hv
          have hpos : 0 < ei.size := Nat.pos_of_ne_zero (fun h0 => hne (by rw [h0]; simp))
          have hmod : j % ei.size < z.cells.size := by rw [hzl]; exact Nat.mod_lt _ hpos
          refine e3.2 (j % ei.size) v x hv ?_
          rw [← hx, hzl]
          simp [hmod]
        obtain ⟨xs', f1, f2, f3, _⟩ := fill_ok h (fun j => some (j * ei.size, ei.size, e)) (fun j => some (j * ei.size, ei.size)) (fun j p hp => by
          simp only [Option.some.injEq] at hp; subst hp; rfl) parts.toList (replZero n ei.zero) cs _ hcs hz
        have hrow := newRow_rel (k := ei.size) (n := n) f2 h.sto.wf e (by rw [f3, replZero_length, e4]) (some (.reg (o.dst.getD 0))) e
        have hxl : n * ei.size ≤ xs'.size := by have := f2.1; simp only [Array.length_toList] at this; rw [this, f3, replZero_length, e4]; exact Nat.le_refl _
        refine ⟨.slice (some ⟨w.heap.size, 0, none⟩) n n, w.alloc (.cells xs' e), G.new w (n * ei.size) (some (.reg (o.dst.getD 0))), ?_, Ext.alloc h.sto.wf _ _ _, (h.alloc _ _ _).clear _, fun d hd => ⟨hrow, fun _ => ⟨rfl, rfl, by show upd G.owner w.heap.size _ w.heap.size = _; rw [hd]; simp, by show upd G.lim w.heap.size _ w.heap.size = _; simp, xs', (0, 0), heap_alloc_new _ _, hxl, Nat.zero_le _⟩⟩⟩
        have hzv : (zeroValue e).run P w = .ok z w := by simp [zeroValue, run_typeInfo_of e1, e2]
        have hle' : ¬ n * ei.size > 2 ^ 24 := by omega
        simp only [execOp, ho, Instr.buildSlice, Sem.run_bind, run_underlying_of hd1, Result.andThen_ok, run_sizeOf_of hTe, if_neg hle', parts_map]
        by_cases hne : n * ei.size = 0
        · have h0 : ∀ f : Nat → Value, (Array.range (n * ei.size)).map f = #[] := by intro f; rw [hne]; simp
          rw [h0] at f1
          simp only [h0]
          simp [hne, f1, newRow]
        · simp only [hne, if_false] at f1 ⊢
          simp only [Sem.run_bind, hzv, Result.andThen_ok, Sem.run_pure, f1]
          simp [newRow]
    · simp at h2
  · simp at h1
end
end Go.Ab
end
