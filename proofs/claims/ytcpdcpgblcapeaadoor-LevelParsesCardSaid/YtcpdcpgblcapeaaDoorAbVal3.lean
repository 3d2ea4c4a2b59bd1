/- Operations that come to a value: parts, slices, lengths, literals. -/
import Derived.Test.YtcpdcpgblcapeaaDoorAbVal2
set_option linter.unusedSimpArgs false
set_option linter.unusedVariables false
set_option linter.deprecated false
namespace Go.Ab
section
variable {P : Program} {C : Ctx} {H : Hints} {G : Gh} {lam : Nat → Nat} {a : Act} {w : World} {st : St}

theorem range_get {n i : Nat} {f : Nat → V} {v : V} (h : ((List.range n).map f)[i]? = some v) : i < n ∧ v = f i := by
  obtain ⟨h1, h2⟩ := List.getElem?_eq_some_iff.1 h
  simp at h1 h2
  exact ⟨h1, h2.symm⟩

theorem agg_part {cs : List V} {xs : List Value} (h1 : xs.length = cs.length) (h2 : ∀ (i : Nat) (x : Value), xs[i]? = some x → x.oneCell' = true) (h3 : ∀ (i : Nat) (v : V) (x : Value), cs[i]? = some v → xs[i]? = some x → Rel G w v x)
    (off n : Nat) (hn : off + n ≤ cs.length) : Rel G w (.agg ((List.range n).map fun j => (V.agg cs).cell (off + j))) (.agg ((xs.drop off).take n).toArray) := by
  refine .agg _ _ (by simp; omega) (fun i x hx => ?_) (fun i v x hv hx => ?_)
  · rw [List.getElem?_take] at hx
    split at hx
    · rw [List.getElem?_drop] at hx; exact h2 _ x hx
    · simp at hx
  · obtain ⟨hi, rfl⟩ := range_get hv
    rw [List.getElem?_take, if_pos hi, List.getElem?_drop] at hx
    have hlt : off + i < cs.length := by omega
    simp only [V.cell, List.getD_eq_getElem?_getD, List.getElem?_eq_getElem hlt, Option.getD_some]
    exact h3 (off + i) _ x (List.getElem?_eq_getElem hlt) hx

theorem part_run {t : TypeId} {i : TI} (h : TOk P t i) {cs : List V} {xs : List Value} (h1 : xs.length = cs.length) (h2 : ∀ (i : Nat) (x : Value), xs[i]? = some x → x.oneCell' = true) (h3 : ∀ (i : Nat) (v : V) (x : Value), cs[i]? = some v → xs[i]? = some x → Rel G w v x)
    (off : Nat) (hn : off + i.size ≤ cs.length) (hs : i.agg = false → 0 < i.size) :
    ∃ c, (part t xs.toArray off).run P w = .ok c w ∧ Rel G w (if i.agg then .agg ((List.range i.size).map fun j => (V.agg cs).cell (off + j)) else (V.agg cs).cell off) c := by
  simp only [part, Sem.run_bind, run_isAgg_of h, Result.andThen_ok]
  cases hi : i.agg with
  | true =>
    refine ⟨_, ?_, agg_part h1 h2 h3 off i.size hn⟩
    simp only [if_true, Sem.run_bind, run_sizeOf_of h, Result.andThen_ok, Sem.run_pure]
    congr 2
    apply Array.ext'
    simp [List.extract_eq_drop_take]
  | false =>
    have hlt : off < cs.length := by have := hs hi; omega
    have hlt' : off < xs.length := by omega
    refine ⟨xs[off], ?_, ?_⟩
    · simp [hlt']
    · simp only [Bool.false_eq_true, if_false, V.cell, List.getD_eq_getElem?_getD, List.getElem?_eq_getElem hlt, Option.getD_some]
      exact h3 off _ _ (List.getElem?_eq_getElem hlt) (List.getElem?_eq_getElem hlt')

theorem fits_agg {v : V} {c : Value} {n : Nat} (h : Rel G w v c) (hf : v.fits true n = true) : ∃ cs, ∃ xs : List Value, v = .agg cs ∧ c = .agg xs.toArray ∧ cs.length = n ∧ xs.length = cs.length ∧
    (∀ (i : Nat) (x : Value), xs[i]? = some x → x.oneCell' = true) ∧ (∀ (i : Nat) (v : V) (x : Value), cs[i]? = some v → xs[i]? = some x → Rel G w v x) := by
  cases h <;> simp [V.fits] at hf
  exact ⟨_, _, rfl, rfl, hf, ‹_›, ‹_›, ‹_›⟩

theorem val_field (hC : CtxOk P C) (h : Inv C.glob G lam a w st) {o : Oper} {t : TypeId} {x : Operand} {f : Nat} {y : RV} (ho : o.op = .field t x f) (ha : act C H o st.regs = some (.val y)) : VOk P C H G lam a w st o y := by
  simp only [act, ho] at ha
  obtain ⟨i, hi, h1⟩ := bind2 ha
  clear ha
  obtain ⟨d1, hd1, hk1⟩ := (hC.T t i hi).desc
  split at h1
  · rename_i fs hfs
    rw [hfs] at hk1
    obtain ⟨fields, rfl, hm⟩ := kok_struct hk1
    obtain ⟨p, hp, h2⟩ := bind2 h1
    obtain ⟨fi, hfi, h3⟩ := bind2 h2
    obtain ⟨v, hv, h4⟩ := bind2 h3
    obtain ⟨u, hu, h5⟩ := bind2 h4
    clear h1 h2 h3 h4
    have hu := grd_some hu
    simp only [Bool.and_eq_true, decide_eq_true_eq] at hu
    rw [← hm, List.getElem?_map, Option.map_eq_some_iff] at hp
    obtain ⟨fd, hfd, rfl⟩ := hp
    have hfd' : fields[f]? = some fd := by simpa using hfd
    obtain ⟨cs, xs, rfl, hx, g0, g1, g2, g3⟩ := fits_agg (vk_rel h hv) hu.1.1
    obtain ⟨c, hc1, hc2⟩ := part_run (P := P) (hC.T _ _ hfi) g1 g2 g3 fd.offset (by rw [g0]; exact hu.1.2) (fun hh => by simpa [hh] using hu.2)
    have hrun : (execOp a.eval o).run P w = .ok (.value c) w := by
      simp [execOp, ho, Instr.field, run_underlying_of hd1, hfd', hx, asAgg, hc1]
    split at h5
    · rename_i hag
      obtain rfl := Eff.val.inj (Option.some.inj h5)
      rw [if_pos hag] at hc2
      exact VOk.val h c hrun hc2
    · rename_i hag
      obtain rfl := Eff.val.inj (Option.some.inj h5)
      rw [if_neg hag] at hc2
      exact VOk.val h c hrun hc2
  · simp at h1

theorem val_index (hC : CtxOk P C) (h : Inv C.glob G lam a w st) {o : Oper} {t : TypeId} {x ix : Operand} {y : RV} (ho : o.op = .index t x ix) (ha : act C H o st.regs = some (.val y)) : VOk P C H G lam a w st o y := by
  simp only [act, ho] at ha
  obtain ⟨i, hi, h1⟩ := bind2 ha
  clear ha
  obtain ⟨d1, hd1, hk1⟩ := (hC.T t i hi).desc
  split at h1
  · rename_i hkk
    rw [hkk] at hk1
    obtain rfl := kok_string hk1
    obtain ⟨v, hv, h2⟩ := bind2 h1
    obtain ⟨s, hs, h3⟩ := bind2 h2
    obtain ⟨wv, hw, h4⟩ := bind2 h3
    obtain ⟨n, hn, h5⟩ := bind2 h4
    obtain ⟨u, hu, h6⟩ := bind2 h5
    clear h1 h2 h3 h4 h5
    have hu := grd_some hu
    simp only [Bool.and_eq_true, decide_eq_true_eq] at hu
    obtain rfl := Eff.val.inj (Option.some.inj h6)
    have hix := vk_int h hw hn
    have hlt : n.toNat < s.size := by omega
    refine VOk.val h (.int .u8 (byteAt s n.toNat)) ?_ (.int _ _)
    have hb : s[n.toNat]? = some s[n.toNat] := getElem?_pos s n.toNat hlt
    have hb2 : byteAt s n.toNat = (s[n.toNat].toNat : Int) := by
      unfold byteAt
      rw [List.getD_eq_getElem?_getD, List.getElem?_eq_getElem (by simpa using hlt)]
      rfl
    simp only [execOp, ho, Instr.index, hix, asIntOf, vk_str h hv hs, Sem.run_bind, Sem.run_pure, Result.andThen_ok, run_underlying_of hd1, if_pos hu.1, hb, hb2]
  · rename_i len e hkk
    rw [hkk] at hk1
    obtain rfl := kok_array hk1
    obtain ⟨ei, hei, h2⟩ := bind2 h1
    split at h2
    · simp at h2
    · rename_i hag
      split at h2
      · simp at h2
      · rename_i hsz
        obtain ⟨v, hv, h3⟩ := bind2 h2
        obtain ⟨u1, hu1, h4⟩ := bind2 h3
        obtain ⟨wv, hw, h5⟩ := bind2 h4
        obtain ⟨n, hn, h6⟩ := bind2 h5
        obtain ⟨u, hu, h7⟩ := bind2 h6
        clear h1 h2 h3 h4 h5 h6
        have hu := grd_some hu
        have hu1 := grd_some hu1
        simp only [Bool.and_eq_true, decide_eq_true_eq] at hu
        obtain rfl := Eff.val.inj (Option.some.inj h7)
        have hix := vk_int h hw hn
        obtain ⟨cs, xs, rfl, hx, g0, g1, g2, g3⟩ := fits_agg (vk_rel h hv) hu1
        have hsz : ei.size = 1 := by simpa using hsz
        obtain ⟨c, hc1, hc2⟩ := part_run (P := P) (hC.T _ _ hei) g1 g2 g3 n.toNat (by rw [g0, hsz]; omega) (fun _ => by omega)
        rw [if_neg hag] at hc2
        refine VOk.val h c ?_ hc2
        simp [execOp, ho, Instr.index, hix, asIntOf, hx, run_underlying_of hd1, hu, run_sizeOf_of (hC.T _ _ hei), hsz, hc1]
  · simp at h1

theorem val_len (hC : CtxOk P C) (h : Inv C.glob G lam a w st) {o : Oper} {c : Call} {y : RV} (ho : o.op = .call c) (hb : c.callee = .builtin .len) (ha : act C H o st.regs = some (.val y)) : VOk P C H G lam a w st o y := by
  simp only [act, ho, hb] at ha
  split at ha
  · rename_i x t hx ht
    obtain ⟨i, hi, h1⟩ := bind2 ha
    clear ha
    obtain ⟨d1, hd1, hk1⟩ := (hC.T t i hi).desc
    have hxa : c.args = #[x] := Array.ext' (by simp [hx])
    have hta : c.argTypes = #[t] := Array.ext' (by simp [ht])
    have key : ∀ r, (Builtin.len_ #[t] o.type #[a.eval x]).run P w = .ok r w → (execOp a.eval o).run P w = .ok (.value r) w := by
      intro r hr
      simp [execOp, ho, resolve, hb, hxa, hta, invoke, builtin, hr]
    split at h1
    · rename_i hkk
      rw [hkk] at hk1
      obtain rfl := kok_string hk1
      obtain ⟨v, hv, h2⟩ := bind2 h1
      obtain ⟨s, hs, h3⟩ := bind2 h2
      obtain rfl := Eff.val.inj (Option.some.inj h3)
      refine VOk.val h _ (key (.int .i64 s.size) ?_) (.int _ _)
      simp [Builtin.len_, run_underlying_of hd1, vk_str h hv hs, goInt]
    · rename_i e hkk
      rw [hkk] at hk1
      obtain rfl := kok_slice hk1
      obtain ⟨ei, hei, h2⟩ := bind2 h1
      obtain ⟨v, hv, h3⟩ := bind2 h2
      obtain ⟨es, hes, h4⟩ := bind2 h3
      obtain rfl := Eff.val.inj (Option.some.inj h4)
      obtain ⟨hr, _⟩ := asSlice_rel hes (vk_rel h hv)
      refine VOk.val h _ (key (.int .i64 es.length) ?_) (.int _ _)
      rcases rel_slice hr with ⟨rfl, hc⟩ | ⟨b, off, cap, cs, hc, _⟩ <;> simp [Builtin.len_, run_underlying_of hd1, hc, goInt]
    · rename_i n e hkk
      rw [hkk] at hk1
      obtain rfl := kok_array hk1
      obtain rfl := Eff.val.inj (Option.some.inj h1)
      refine VOk.val h _ (key (.int .i64 n) ?_) (.int _ _)
      simp [Builtin.len_, run_underlying_of hd1, goInt]
    · simp at h1
  · simp at ha

theorem val_max (h : Inv C.glob G lam a w st) {o : Oper} {c : Call} {y : RV} (ho : o.op = .call c) (hb : c.callee = .builtin .max) (ha : act C H o st.regs = some (.val y)) : VOk P C H G lam a w st o y := by
  simp only [act, ho, hb] at ha
  split at ha
  · rename_i x z hx
    obtain ⟨v, hv, h1⟩ := bind2 ha
    obtain ⟨m, hm, h2⟩ := bind2 h1
    obtain ⟨v', hv', h3⟩ := bind2 h2
    obtain ⟨n, hn, h4⟩ := bind2 h3
    obtain rfl := Eff.val.inj (Option.some.inj h4)
    have hxa : c.args = #[x, z] := Array.ext' (by simp [hx])
    refine VOk.val h (.int .i64 (if m < n then n else m)) ?_ (.int _ _)
    simp [execOp, ho, resolve, hb, hxa, invoke, builtin, Builtin.max_, Builtin.max2, vk_int h hv hm, vk_int h hv' hn]
  · simp at ha

theorem optInt_some (h : Inv C.glob G lam a w st) {x : Option Operand} {d n : Int} (hx : optInt C st.regs x d = some n) : (x = none ∧ n = d) ∨ ∃ y, x = some y ∧ a.eval y = .int .i64 n := by
  cases x with
  | none => simp [optInt] at hx; exact .inl ⟨rfl, hx.symm⟩
  | some y =>
    simp only [optInt] at hx
    obtain ⟨v, h1, h2⟩ := bind2 hx
    exact .inr ⟨y, rfl, vk_int h h1 h2⟩

theorem rel_subslice {k : Nat} {et : TypeId} {es : List (List V)} {b off cap : Nat} (h : Rel G w (.slice k et es) (.slice (some ⟨b, off, none⟩) es.length cap)) {l r c' : Nat} (hl : l ≤ r) (hr : r ≤ es.length) (hc : r - l ≤ c') :
    Rel G w (.slice k et ((es.take r).drop l)) (.slice (some ⟨b, off + l * k, none⟩) (r - l) c') := by
  cases h with
  | slice _ _ _ _ _ _ cs h1 h2 h3 h4 h5 h6 h7 =>
    have hlen : ((es.take r).drop l).length = r - l := by simp; omega
    have sub : ∀ (i : Nat) (e : List V), ((es.take r).drop l)[i]? = some e → es[l + i]? = some e := by
      intro i e he
      rw [List.getElem?_drop, List.getElem?_take] at he
      split at he
      · exact he
      · simp at he
    have subc : ∀ (i : Nat) (e : List Value), ((cs.take r).drop l)[i]? = some e → cs[l + i]? = some e := by
      intro i e he
      rw [List.getElem?_drop, List.getElem?_take] at he
      split at he
      · exact he
      · simp at he
    have := Rel.slice (G := G) (w := w) k et ((es.take r).drop l) b (off + l * k) c' ((cs.take r).drop l) (by simp; omega) (by rw [hlen]; exact hc) (by
        rw [hlen]
        have : (r - l) * k + l * k = r * k := by rw [← Nat.add_mul]; congr 1; omega
        have h9 : r * k ≤ es.length * k := Nat.mul_le_mul_right _ hr
        omega)
      (fun i e he => h4 _ e (sub i e he)) (fun i x hx => h5 _ x (subc i x hx))
      (fun i j x c hx hc => by
        have := h6 (l + i) j x c (subc i x hx) hc
        rw [Nat.add_mul] at this
        rw [show off + l * k + i * k + j = off + (l * k + i * k) + j by omega]
        exact this)
      (fun i j e x v c he hx hv hc => h7 (l + i) j e x v c (sub i e he) (subc i x hx) hv hc)
    rw [hlen] at this
    exact this

theorem sliceBound_run {x : Value} {y : Nat} {code : BoundsCode} {n : Int} (hx : x = .int .i64 n) (h0 : 0 ≤ n) (h1 : n ≤ y) : (Instr.sliceBound x y code).run P w = .ok n.toNat w := by
  subst hx
  simp [Instr.sliceBound, asIntOf, h0, h1]

theorem sliceBounds_run {isS : Bool} {len cap : Nat} {lo hi : Option Value} {l r : Int} (hl : (lo = none ∧ l = 0) ∨ lo = some (.int .i64 l)) (hr : (hi = none ∧ r = len) ∨ hi = some (.int .i64 r))
    (h0 : 0 ≤ l) (h1 : l ≤ r) (h2 : r ≤ cap) : (Instr.sliceBounds isS len cap lo hi none).run P w = .ok (l.toNat, r.toNat, cap) w := by
  have e1 : ∀ code, (Instr.sliceBound (.int .i64 r) cap code).run P w = .ok r.toNat w := fun code => sliceBound_run rfl (by omega) h2
  have e2 : ∀ code, (Instr.sliceBound (.int .i64 l) r.toNat code).run P w = .ok l.toNat w := fun code => sliceBound_run rfl h0 (by omega)
  rcases hl with ⟨rfl, rfl⟩ | rfl <;> rcases hr with ⟨rfl, rfl⟩ | rfl
  · simp [Instr.sliceBounds]
  · simp [Instr.sliceBounds, e1]
  · simp only [Int.toNat_natCast] at e2
    simp [Instr.sliceBounds, e2]
  · simp [Instr.sliceBounds, e1, e2]

theorem sliceBounds_run3 {isS : Bool} {len cap : Nat} {lo : Option Value} {l r : Int} (hl : (lo = none ∧ l = 0) ∨ lo = some (.int .i64 l))
    (h0 : 0 ≤ l) (h1 : l ≤ r) (h2 : r ≤ cap) : (Instr.sliceBounds isS len cap lo (some (.int .i64 r)) (some (.int .i64 r))).run P w = .ok (l.toNat, r.toNat, r.toNat) w := by
  have e1 : ∀ code, (Instr.sliceBound (.int .i64 r) cap code).run P w = .ok r.toNat w := fun code => sliceBound_run rfl (by omega) h2
  have e3 : ∀ code, (Instr.sliceBound (.int .i64 r) r.toNat code).run P w = .ok r.toNat w := fun code => sliceBound_run rfl (by omega) (by omega)
  have e2 : ∀ code, (Instr.sliceBound (.int .i64 l) r.toNat code).run P w = .ok l.toNat w := fun code => sliceBound_run rfl h0 (by omega)
  rcases hl with ⟨rfl, rfl⟩ | rfl
  · simp [Instr.sliceBounds, e1, e3]
  · simp [Instr.sliceBounds, e1, e2, e3]

theorem optVal (h : Inv C.glob G lam a w st) {x : Option Operand} {d n : Int} (hx : optInt C st.regs x d = some n) : (x.map a.eval = none ∧ n = d) ∨ x.map a.eval = some (.int .i64 n) := by
  rcases optInt_some h hx with ⟨rfl, rfl⟩ | ⟨y, rfl, hy⟩
  · exact .inl ⟨rfl, rfl⟩
  · exact .inr (by simp [hy])

theorem sameOpnd_eq {x y : Option Operand} (h : sameOpnd x y = true) : ∃ r, x = some (.tmp r) ∧ y = some (.tmp r) := by
  unfold sameOpnd at h
  split at h
  · simp at h; subst h; exact ⟨_, rfl, rfl⟩
  · simp at h

theorem val_slice (hC : CtxOk P C) (h : Inv C.glob G lam a w st) {o : Oper} {t : TypeId} {x : Operand} {lo hi mx : Option Operand} {y : RV} (ho : o.op = .slice t x lo hi mx) (ha : act C H o st.regs = some (.val y)) : VOk P C H G lam a w st o y := by
  simp only [act, ho] at ha
  obtain ⟨i, hi', h1⟩ := bind2 ha
  clear ha
  obtain ⟨d1, hd1, hk1⟩ := (hC.T t i hi').desc
  split at h1
  · rename_i hkk
    rw [hkk] at hk1
    obtain rfl := kok_string hk1
    split at h1
    · simp at h1
    · rename_i hmx
      have hmx : mx = none := by simpa using hmx
      subst hmx
      obtain ⟨v, hv, h2⟩ := bind2 h1
      obtain ⟨s, hs, h3⟩ := bind2 h2
      obtain ⟨l, hl, h4⟩ := bind2 h3
      obtain ⟨r, hr, h5⟩ := bind2 h4
      obtain ⟨u, hu, h6⟩ := bind2 h5
      clear h1 h2 h3 h4 h5
      have hu := grd_some hu
      simp only [Bool.and_eq_true, decide_eq_true_eq] at hu
      obtain rfl := Eff.val.inj (Option.some.inj h6)
      refine VOk.val h (.string (s.extract l.toNat r.toNat)) ?_ (.str _)
      have hs' := vk_str h hv hs
      have hb := sliceBounds_run (P := P) (w := w) (isS := false) (len := s.size) (cap := s.size) (optVal h hl) (optVal h hr) hu.1.1 hu.1.2 hu.2
      simp only [execOp, ho, Instr.sliceAt, Instr.slice, Sem.run_bind, run_underlying_of hd1, Result.andThen_ok, hs', Option.map_none, hb]
      simp [hb]
  · rename_i e hkk
    rw [hkk] at hk1
    obtain rfl := kok_slice hk1
    obtain ⟨ei, hei, h2⟩ := bind2 h1
    obtain ⟨v, hv, h3⟩ := bind2 h2
    obtain ⟨es, hes, h4⟩ := bind2 h3
    obtain ⟨l, hl, h5⟩ := bind2 h4
    obtain ⟨r, hr, h6⟩ := bind2 h5
    obtain ⟨u, hu, h7⟩ := bind2 h6
    clear h1 h2 h3 h4 h5 h6
    have hu := grd_some hu
    simp only [Bool.and_eq_true, decide_eq_true_eq] at hu
    obtain ⟨hrel, _⟩ := asSlice_rel hes (vk_rel h hv)
    -- the real value's parts
    have key : ∀ (m : Nat → Nat) , (∀ cap, (Instr.sliceBounds true es.length cap (lo.map a.eval) (hi.map a.eval) (mx.map a.eval)).run P w = .ok (l.toNat, r.toNat, m cap) w ∨ ¬ es.length ≤ cap) → (∀ cap, es.length ≤ cap → r.toNat ≤ m cap) → (m 0 = 0 ∨ es ≠ []) →
        ∃ c, (execOp a.eval o).run P w = .ok (.value c) w ∧ Rel G w (.slice ei.size e ((es.take r.toNat).drop l.toNat)) c ∧ ∀ ao n cap, c = .slice ao n cap → ∃ cap0, es.length ≤ cap0 ∧ n = r.toNat - l.toNat ∧ cap = m cap0 - l.toNat := by
      intro m hm hm2 hm3
      have hsz := run_sizeOf_of (w := w) (hC.T _ _ hei)
      rcases rel_slice hrel with ⟨rfl, hc⟩ | ⟨b, off, cap, cs, hc, g1, g2, g3, g4, g5, g6, g7⟩
      · have hb := (hm 0).resolve_right (by simp)
        have hl0 : l.toNat = 0 := by simp at hu; omega
        have hr0 : r.toNat = 0 := by simp at hu; omega
        have hm0 : m 0 = 0 := hm3.resolve_right (by simp)
        refine ⟨.slice none 0 0, ?_, by rw [hl0, hr0]; exact .snil _ _, fun ao n cp hh => ⟨0, by simp, ?_, ?_⟩⟩
        · rw [hl0, hr0, hm0] at hb
          simp only [List.length_nil] at hb
          simp [execOp, ho, Instr.sliceAt, Instr.slice, run_underlying_of hd1, hc, hb, hsz]
        · simp at hh; omega
        · simp at hh; omega
      · have hb := (hm cap).resolve_right (by omega)
        have hm' := hm2 cap g2
        have hrel' := hrel
        rw [hc] at hrel'
        have hsub := rel_subslice hrel' (l := l.toNat) (r := r.toNat) (c' := m cap - l.toNat) (by omega) (by omega) (by omega)
        by_cases hml : m cap = l.toNat
        · refine ⟨.slice (some ⟨b, off, none⟩) (r.toNat - l.toNat) (m cap - l.toNat), ?_, ?_, fun ao n cp hh => ⟨cap, g2, ?_, ?_⟩⟩
          · simp [execOp, ho, Instr.sliceAt, Instr.slice, run_underlying_of hd1, hc, hb, hsz, hml]
          · have h0 : r.toNat - l.toNat = 0 := by omega
            have he : (es.take r.toNat).drop l.toNat = [] := by apply List.drop_eq_nil_of_le; simp; omega
            rw [he, h0]
            have := Rel.slice (G := G) (w := w) ei.size e [] b off (m cap - l.toNat) [] rfl (by simp) (by simp; omega) (by simp) (by simp) (by simp) (by simp)
            simpa using this
          · simp at hh; omega
          · simp at hh; omega
        · refine ⟨.slice (some ⟨b, off + l.toNat * ei.size, none⟩) (r.toNat - l.toNat) (m cap - l.toNat), ?_, hsub, fun ao n cp hh => ⟨cap, g2, ?_, ?_⟩⟩
          · simp [execOp, ho, Instr.sliceAt, Instr.slice, run_underlying_of hd1, hc, hb, hsz, hml, add_plain]
          · simp at hh; omega
          · simp at hh; omega
    split at h7
    · obtain rfl := Eff.val.inj (Option.some.inj h7)
      obtain ⟨c, k1, k2, _⟩ := key (fun cap => cap) (fun cap => by
        by_cases hcap : es.length ≤ cap
        · exact .inl (sliceBounds_run (optVal h hl) (optVal h hr) hu.1.1 hu.1.2 (by omega))
        · exact .inr hcap) (fun cap hcap => by omega) (.inl rfl)
      exact VOk.val h c k1 k2
    · simp at h7
  · simp at h1
end
end Go.Ab
