/- The append of a slice onto one that is held: in place, or into a new row. Operations that read and write cells, and calls: the abstract one is met by the real one. -/
import Derived.Test.YtkecplbpffhdnaaGreatDoorAbVal4
set_option linter.unusedSimpArgs false
set_option linter.unusedVariables false
set_option linter.deprecated false
section
namespace Go.Ab
section
variable {P : Program} {C : Ctx} {H : Hints} {G : Gh} {lam : Nat → Nat} {a : Act} {w : World} {st : St}

/-- A slice's cells, one behind the other. -/
def flat (es : List (List V)) : List V := es.flatten

theorem flat_length {k : Nat} : ∀ {es : List (List V)}, (∀ (i : Nat) (e : List V), es[i]? = some e → e.length = k) → (flat es).length = es.length * k
  | [], _ => by simp [flat]
  | e :: es, h => by
    have h0 := h 0 e rfl
    have := flat_length (k := k) (es := es) (fun i e he => h (i + 1) e (by simpa using he))
    simp only [flat] at *
    simp [h0, this, Nat.succ_mul, Nat.add_comm]

theorem flat_lengthV {k : Nat} : ∀ {es : List (List Value)}, (∀ (i : Nat) (e : List Value), es[i]? = some e → e.length = k) → es.flatten.length = es.length * k
  | [], _ => by simp
  | e :: es, h => by
    have h0 := h 0 e rfl
    have := flat_lengthV (k := k) (es := es) (fun i e he => h (i + 1) e (by simpa using he))
    simp [h0, this, Nat.succ_mul, Nat.add_comm]

theorem flatV_get {k : Nat} : ∀ {es : List (List Value)}, (∀ (i : Nat) (e : List Value), es[i]? = some e → e.length = k) → ∀ (i j : Nat) x c, es[i]? = some x → x[j]? = some c → es.flatten[i * k + j]? = some c
  | [], _, _, _, _, _, h, _ => by simp at h
  | e :: es, hk, i, j, x, c, h, hc => by
    have h0 := hk 0 e rfl
    cases i with
    | zero =>
      simp at h
      subst h
      have hj : j < e.length := (List.getElem?_eq_some_iff.1 hc).1
      simp only [List.flatten_cons, Nat.zero_mul, Nat.zero_add]
      rw [List.getElem?_append_left hj]; exact hc
    | succ i =>
      simp at h
      have := flatV_get (k := k) (es := es) (fun i e he => hk (i + 1) e (by simpa using he)) i j x c h hc
      simp only [List.flatten_cons]
      rw [List.getElem?_append_right (by rw [h0, Nat.succ_mul]; omega), h0]
      rw [show (i + 1) * k + j - k = i * k + j by rw [Nat.succ_mul]; omega]
      exact this

theorem flatV_inv {k : Nat} : ∀ {es : List (List Value)}, (∀ (i : Nat) (e : List Value), es[i]? = some e → e.length = k) → ∀ (p : Nat) c, es.flatten[p]? = some c → ∃ i j x, p = i * k + j ∧ es[i]? = some x ∧ x[j]? = some c
  | [], _, _, _, h => by simp at h
  | e :: es, hk, p, c, h => by
    have h0 := hk 0 e rfl
    simp only [List.flatten_cons] at h
    by_cases hp : p < e.length
    · rw [List.getElem?_append_left hp] at h
      exact ⟨0, p, e, by omega, rfl, h⟩
    · rw [List.getElem?_append_right (by omega)] at h
      obtain ⟨i, j, x, h1, h2, h3⟩ := flatV_inv (k := k) (es := es) (fun i e he => hk (i + 1) e (by simpa using he)) _ c h
      exact ⟨i + 1, j, x, by rw [Nat.succ_mul]; omega, by simpa using h2, h3⟩

/-- What a slice holds, read as a row of values. -/
theorem slice_cells {k : Nat} {et : TypeId} {es : List (List V)} {c : Value} (h : Rel G w (.slice k et es) c) : ∃ ao n cap, ∃ cs : List (List Value), c = .slice ao n cap ∧ n = es.length ∧ cs.length = es.length ∧
    (∀ (i : Nat) (e : List V), es[i]? = some e → e.length = k) ∧ (∀ (i : Nat) (x : List Value), cs[i]? = some x → x.length = k) ∧
    (∀ (i j : Nat) (x : List Value) (c : Value), cs[i]? = some x → x[j]? = some c → c.oneCell' = true) ∧
    (∀ (i j : Nat) (e : List V) (x : List Value) (v : V) (c : Value), es[i]? = some e → cs[i]? = some x → e[j]? = some v → x[j]? = some c → Rel G w v c) ∧
    (∀ w' : World, w'.heap = w.heap → (Builtin.firstCells k n c).run P w' = .ok cs.flatten.toArray w') := by
  rcases rel_slice h with ⟨rfl, rfl⟩ | ⟨b, off, cap, cs, hc, g1, g2, g3, g4, g5, g6, g7⟩
  · exact ⟨none, 0, 0, [], rfl, rfl, rfl, by simp, by simp, by simp, by simp, fun w' _ => by simp [Builtin.firstCells]⟩
  · refine ⟨_, _, cap, cs, hc, rfl, g1, g4, g5, fun i j x c hx hc => (g6 i j x c hx hc).2, g7, fun w' hw' => ?_⟩
    subst hc
    simp only [Builtin.firstCells]
    have := run_loadCells_list (P := P) w' ⟨b, off, none⟩ cs.flatten (fun p v hp => by
      obtain ⟨i, j, x, rfl, h2, h3⟩ := flatV_inv g5 p v hp
      rw [add_plain, ← Nat.add_assoc]
      have := (g6 i j x v h2 h3).1
      simp only [World.cell?] at this ⊢
      rw [hw']; exact this)
    rw [flat_lengthV g5, g1] at this
    exact this

theorem nextcap_le (need cap : Nat) (h : cap < need) : Builtin.nextslicecap need cap ≤ need + need / 4 + 1024 := by
  unfold Builtin.nextslicecap
  split
  · omega
  · split
    · omega
    · have key : ∀ (r c : Nat), c ≤ need + need / 4 + 1024 → Builtin.growBy need r c ≤ need + need / 4 + 1024 := by
        intro r
        induction r with
        | zero => intro c hc; exact hc
        | succ r ih =>
          intro c hc
          simp only [Builtin.growBy]
          split
          · exact hc
          · exact ih _ (by omega)
      exact key _ _ (by omega)

theorem zeroCells_size (z : Array Value) (n : Nat) : (Builtin.zeroCells z n).size = n * z.size := by simp [Builtin.zeroCells]

/-- Two rows of settled cells, one behind the other, as one slice. -/
theorem rel_concat {k : Nat} {et : TypeId} {es xs : List (List V)} {cs ds : List (List Value)} {b cap : Nat} {off : Nat} (a1 : cs.length = es.length) (b1 : ds.length = xs.length)
    (a2 : ∀ (i : Nat) (e : List V), es[i]? = some e → e.length = k) (b2 : ∀ (i : Nat) (e : List V), xs[i]? = some e → e.length = k)
    (a3 : ∀ (i : Nat) (x : List Value), cs[i]? = some x → x.length = k) (b3 : ∀ (i : Nat) (x : List Value), ds[i]? = some x → x.length = k)
    (a5 : ∀ (i j : Nat) (e : List V) (x : List Value) (v : V) (c : Value), es[i]? = some e → cs[i]? = some x → e[j]? = some v → x[j]? = some c → Rel G w v c)
    (b5 : ∀ (i j : Nat) (e : List V) (x : List Value) (v : V) (c : Value), xs[i]? = some e → ds[i]? = some x → e[j]? = some v → x[j]? = some c → Rel G w v c)
    (hcap : es.length + xs.length ≤ cap) (hlim : off + (es.length + xs.length) * k ≤ G.lim b)
    (hc : ∀ (i j : Nat) x c, cs[i]? = some x → x[j]? = some c → w.cell? ⟨b, off + i * k + j, none⟩ = some c ∧ c.oneCell' = true)
    (hd : ∀ (i j : Nat) x c, ds[i]? = some x → x[j]? = some c → w.cell? ⟨b, off + (es.length + i) * k + j, none⟩ = some c ∧ c.oneCell' = true) :
    Rel G w (.slice k et (es ++ xs)) (.slice (some ⟨b, off, none⟩) (es.length + xs.length) cap) := by
  have := Rel.slice (G := G) (w := w) k et (es ++ xs) b off cap (cs ++ ds) (by simp [a1, b1]) (by simpa using hcap) (by simpa using hlim)
    (fun i e he => by
      by_cases hi : i < es.length
      · rw [List.getElem?_append_left hi] at he; exact a2 i e he
      · rw [List.getElem?_append_right (by omega)] at he; exact b2 _ e he)
    (fun i e he => by
      by_cases hi : i < cs.length
      · rw [List.getElem?_append_left hi] at he; exact a3 i e he
      · rw [List.getElem?_append_right (by omega)] at he; exact b3 _ e he)
    (fun i j x c hx hcc => by
      by_cases hi : i < cs.length
      · rw [List.getElem?_append_left hi] at hx; exact hc i j x c hx hcc
      · rw [List.getElem?_append_right (by omega)] at hx
        have := hd _ j x c hx hcc
        rw [show es.length + (i - cs.length) = i by omega] at this
        exact this)
    (fun i j e x v c he hx hv hcc => by
      by_cases hi : i < es.length
      · rw [List.getElem?_append_left hi] at he
        rw [List.getElem?_append_left (by omega)] at hx
        exact a5 i j e x v c he hx hv hcc
      · rw [List.getElem?_append_right (by omega)] at he
        rw [List.getElem?_append_right (by omega), a1] at hx
        exact b5 _ j e x v c he hx hv hcc)
  simpa using this

theorem quarter (s : Nat) : 4 * (s + s / 4 + 1024) ≤ 5 * s + 4096 := by omega

theorem room_arith {s y nc : Nat} (h : 5 * s * y + 2 ^ 24 ≤ 2 ^ 50) (hb : y ≤ 4096) (hnc : nc ≤ s + s / 4 + 1024) : ¬ nc * y > 2 ^ 48 := by
  have h1 : nc * y ≤ (s + s / 4 + 1024) * y := Nat.mul_le_mul_right _ hnc
  have h20 := quarter s
  have h2 : 4 * (s + s / 4 + 1024) * y ≤ (5 * s + 4096) * y := Nat.mul_le_mul_right y h20
  rw [Nat.mul_assoc] at h2
  rw [Nat.add_mul (5 * s)] at h2
  have h4 : 4096 * y ≤ 16777216 := Nat.le_trans (Nat.mul_le_mul_left _ hb) (by decide)
  have e1 : (2:Nat) ^ 24 = 16777216 := by decide
  have e2 : (2:Nat) ^ 50 = 1125899906842624 := by decide
  have e3 : (2:Nat) ^ 48 = 281474976710656 := by decide
  rw [e1, e2] at h
  rw [e3]
  omega

theorem append_core (hC : CtxOk P C) (h : Inv C.glob G lam a w st) {o : Oper} {c : Call} (ho : o.op = .call c) (hb : c.callee = .builtin .append) {x z : Operand} {t u e : TypeId} {d2 : TypeDesc} {ei : TI} {v : V} {es xs : List (List V)} {m : Nat} {ds : List (List Value)}
    (hx : c.args.toList = [x, z]) (ht : c.argTypes.toList = [t, u]) (hd1 : P.underlying t = some (.slice e)) (hd2 : P.underlying u = some d2) (hdd : (∃ e', d2 = .slice e') ∨ d2 = .string) (hei : C.T e = some ei) (hbytes : ei.bytes ≤ 4096) (hb0 : 0 < ei.bytes) (htup : ei.isTup = false)
    (hv : opndT C st.regs t x = .val v true) (hes : v.asSlice ei.size e = some es) (hroom : 5 * (es.length + xs.length) * ei.bytes + 2 ^ 24 ≤ 2 ^ 50) (hm : m = xs.length) (b1 : ds.length = xs.length)
    (b2 : ∀ (i : Nat) (e : List V), xs[i]? = some e → e.length = ei.size) (b3 : ∀ (i : Nat) (x : List Value), ds[i]? = some x → x.length = ei.size)
    (b4 : ∀ (i j : Nat) (x : List Value) (c : Value), ds[i]? = some x → x[j]? = some c → c.oneCell' = true)
    (b5 : ∀ (i j : Nat) (e : List V) (x : List Value) (v : V) (c : Value), xs[i]? = some e → ds[i]? = some x → e[j]? = some v → x[j]? = some c → Rel G w v c)
    (hlenz : ∀ w' : World, (Builtin.lenOf (a.eval z)).run P w' = .ok m w') (b6 : ∀ w' : World, w'.heap = w.heap → (Builtin.firstCells ei.size m (a.eval z)).run P w' = .ok ds.flatten.toArray w') :
    VOk P C H G lam a w st o (.val (.slice ei.size e (es ++ xs)) true) := by
  have hxa : c.args = #[x, z] := Array.ext' (by simp [hx])
  have hta : c.argTypes = #[t, u] := Array.ext' (by simp [ht])
  have hTe := hC.T e ei hei
  obtain ⟨hr1, hown⟩ := eval_rel h hv
  obtain ⟨hs1, hvs⟩ := asSlice_rel hes hr1
  obtain ⟨ao, n, cap, cs, hc1, hn, a1, a2, a3, a4, a5, a6⟩ := slice_cells (P := P) hs1
  have hclear : (clearOf H o) = tmpOf x := by simp [clearOf, ho, hb, hx]
  -- the run, up to where the two ways part
  obtain ⟨info, hinfo, hisz, hiby⟩ := hTe.info
  have hsize := run_sizeOf_of (w := w) hTe
  have hun1 := run_underlying_of (w := w) hd1
  have hun2 := run_underlying_of (w := w) hd2
  rw [hc1] at a6
  have a7 := a6
  have b7 := b6
  replace a6 := a6 w rfl
  replace b6 := b6 w rfl
  have hflat := flat_lengthV b3
  rw [b1] at hflat
  have hflat1 := flat_lengthV a3
  rw [a1] at hflat1
  have run0 : ∀ r w1, (Builtin.append_ #[t, u] o.type #[a.eval x, a.eval z]).run P w = .ok r w1 → (execOp a.eval o).run P w = .ok (.value r) w1 := by
    intro r w1 hr
    simp [execOp, ho, resolve, hb, hxa, hta, invoke, builtin, hr]
  by_cases hneed : n + m ≤ cap
  · -- in place
    by_cases hm0 : m = 0
    · have hxs0 : xs = [] := by cases xs with | nil => rfl | cons _ _ => simp at hm; omega
      subst hxs0
      have hds0 : ds = [] := by cases ds with | nil => rfl | cons _ _ => simp at b1
      subst hds0
      subst hm0
      have hrun : (Builtin.append_ #[t, u] o.type #[a.eval x, a.eval z]).run P w = .ok (a.eval x) w := by
        rw [hc1]
        simp only [Builtin.append_]
        rcases hdd with ⟨e', rfl⟩ | rfl <;> (simp [hun1, hun2, hsize, hlenz, show n ≤ cap by omega, b6]; cases ao <;> simp [storeCells])
      rw [List.append_nil]
      have ho1 : ∀ p, Own G w p v (a.eval x) → Own G w p (.slice ei.size e es) (a.eval x) := by
        intro p hp
        rcases hvs with rfl | ⟨rfl, rfl⟩
        · exact hp
        · have : a.eval x = .slice none 0 0 := by
            generalize a.eval x = q at hr1
            cases hr1; rfl
          rw [this]; trivial
      rcases hown rfl with ⟨r, rfl, h3⟩ | h3
      · obtain ⟨G', e1, e2, e3, e4⟩ := (h.clear (clearOf H o)).token (q := .reg (o.dst.getD 0)) (ho1 _ h3) (clear_not_flagged _ _ (by rw [hclear]; simp [tmpOf])) (by simp) (by simp)
        exact ⟨_, w, G', run0 _ _ hrun, e1, e2, fun d hd => ⟨hs1.mono e1, fun _ => by rw [hd] at e3; exact e3⟩⟩
      · exact VOk.pure h _ (run0 _ _ hrun) fun _ => ⟨hs1, fun _ => ho1 _ (h3 _)⟩
    · -- there is something to append
      have hne : n ≠ cap := by omega
      have howned : ∃ r k0 e0 es0, x = .tmp r ∧ v = .slice k0 e0 es0 ∧ Own G w (.reg r) v (a.eval x) := by
        have hv1 : ∃ k0 e0 es0, v = .slice k0 e0 es0 := by
          rcases hvs with rfl | ⟨rfl, rfl⟩
          · exact ⟨_, _, _, rfl⟩
          · exfalso
            have : a.eval x = .slice none 0 0 := by
              generalize a.eval x = q at hr1
              cases hr1; rfl
            rw [hc1] at this
            simp at this
            omega
        obtain ⟨k0, e0, es0, rfl⟩ := hv1
        rcases hown rfl with ⟨r, rfl, h3⟩ | h3
        · exact ⟨r, k0, e0, es0, rfl, rfl, h3⟩
        · exfalso
          have p1 := h3 (.reg 0)
          have p2 := h3 (.reg 1)
          rw [hc1] at p1 p2
          cases ao with
          | none =>
            rw [hc1] at hr1
            cases hr1
            omega
          | some ad =>
            obtain ⟨_, _, p1, _⟩ := p1
            obtain ⟨_, _, p2, _⟩ := p2
            rw [p1] at p2; simp at p2
      obtain ⟨r, k0, e0, es0, rfl, rfl, h3⟩ := howned
      have hk0 : k0 = ei.size ∧ e0 = e ∧ es0 = es := by
        rcases hvs with hh | ⟨hh, _⟩
        · simp at hh; exact hh
        · simp at hh
      obtain ⟨rfl, rfl, rfl⟩ := hk0
      rw [hc1] at h3 hs1
      cases ao with
      | none => cases hs1; omega
      | some ad =>
        obtain ⟨q1, q2, q3, q4, cv, fr, q5, q6, q7⟩ := h3
        · obtain ⟨b, of, sp⟩ := ad
          simp only at q1 q2 q3 q4 q5
          subst q1; subst q2
          have hroom2 : (n + m) * ei.size ≤ cap * ei.size := Nat.mul_le_mul_right _ hneed
          have hput := run_storeCells_plain (P := P) ds.flatten w b (n * ei.size) 0 cv e0 fr q5 (by rw [hflat, ← hm, Nat.add_zero, ← Nat.add_mul]; omega) (by omega) (fun y hy => by
            obtain ⟨p, hp, hy⟩ := List.mem_iff_getElem.1 hy
            obtain ⟨i1, j1, x1, _, h2', h3'⟩ := flatV_inv b3 p y (by rw [List.getElem?_eq_getElem hp, hy])
            exact b4 i1 j1 x1 y h2' h3')
          simp only [Nat.add_zero] at hput
          have hrun : (Builtin.append_ #[t, u] o.type #[a.eval (.tmp r), a.eval z]).run P w = .ok (.slice (some ⟨b, 0, none⟩) (n + m) cap) (putCells w b (n * ei.size) ds.flatten) := by
            rw [hc1]
            simp only [Builtin.append_]
            rcases hdd with ⟨e', rfl⟩ | rfl <;> simp [hun1, hun2, hsize, hlenz, hneed, b6, add_plain, hput]
          have hh := putCells_heap w b (n * ei.size) ds.flatten
          obtain ⟨z1, z2, z3, z4⟩ := putCells_rest w b (n * ei.size) ds.flatten
          have hbnew : (putCells w b (n * ei.size) ds.flatten).heap[b]? = some (.cells (setA cv (n * ei.size) ds.flatten) e0 fr) := by rw [hh, if_pos rfl, q5]; rfl
          have hother : ∀ i, i ≠ b → (putCells w b (n * ei.size) ds.flatten).heap[i]? = w.heap[i]? := fun i hi => by rw [hh, if_neg hi]
          have hbound : n * ei.size + ds.flatten.length ≤ cv.size := by rw [hflat, ← hm, ← Nat.add_mul]; omega
          have hcellb : ∀ p, (putCells w b (n * ei.size) ds.flatten).cell? ⟨b, p, none⟩ = if n * ei.size ≤ p ∧ p < n * ei.size + ds.flatten.length then ds.flatten[p - n * ei.size]? else w.cell? ⟨b, p, none⟩ := by
            intro p
            rw [cell?_of_heap hbnew, setA_get _ _ _ _ hbound, cell?_of_heap q5]
          have hblt := owner_lt h.sto.wf q3
          let G' : Gh := { G with lim := upd G.lim b ((n + m) * ei.size), owner := upd G.owner b (some (.reg (o.dst.getD 0))) }
          have hE : Ext G w G' (putCells w b (n * ei.size) ds.flatten) := by
            refine ⟨Nat.le_refl _, fun _ _ => rfl, fun _ _ => rfl, fun i => ?_, fun i p hp => ?_, z2, z3, z4, by rw [z1]; exact Nat.le_refl _, fun i hi ho' => ?_⟩
            · show _ ≤ upd G.lim b _ i
              by_cases hi : i = b
              · subst hi; simp only [upd_same]; rw [q4]; exact Nat.mul_le_mul_right _ (by omega)
              · rw [upd_other _ _ hi]; exact Nat.le_refl _
            · by_cases hi : i = b
              · subst hi; rw [hcellb, if_neg (by rw [q4] at hp; omega)]
              · simp only [World.cell?]; rw [hother i hi]
            · have hi' : i ≠ b := by rintro rfl; rw [q3] at ho'; simp at ho'
              exact ⟨hother i hi', upd_other _ _ hi', by show upd G.owner b _ i = _; rw [upd_other _ _ hi']; exact ho'⟩
          have hWF : WF G' (putCells w b (n * ei.size) ds.flatten) := by
            intro i hi
            rw [z1] at hi
            have hi' : i ≠ b := by omega
            obtain ⟨w1, w2⟩ := h.sto.wf i hi
            exact ⟨(upd_other _ _ hi').trans w1, (upd_other _ _ hi').trans w2⟩
          have hnf := clear_not_flagged (st := st) (clearOf H o) r (by rw [hclear]; simp [tmpOf])
          have hInv : Inv C.glob G' lam a (putCells w b (n * ei.size) ds.flatten) (st.clear (clearOf H o)) := by
            refine (h.clear _).move hE ⟨fun i p hp hf => ?_⟩ hWF rfl
            have hi' : i ≠ b := by
              rintro rfl
              rw [q3] at hp
              obtain rfl := Option.some.inj hp
              rcases hf with hf | ⟨r', hr'⟩ | ⟨b', hb'⟩
              · exact hnf hf
              · simp at hr'
              · simp at hb'
            exact ⟨hother i hi', upd_other _ _ hi', by show upd G.owner b _ i = _; rw [upd_other _ _ hi']; exact hp⟩
          have hRel : Rel G' (putCells w b (n * ei.size) ds.flatten) (.slice ei.size e0 (es0 ++ xs)) (.slice (some ⟨b, 0, none⟩) (n + m) cap) := by
            have := rel_concat (et := e0) (G := G') (w := putCells w b (n * ei.size) ds.flatten) (k := ei.size) (b := b) (off := 0) (cap := cap) a1 b1 a2 b2 a3 b3
              (fun i j e y v c w1 w2 w3 w4 => (a5 i j e y v c w1 w2 w3 w4).mono hE) (fun i j e y v c w1 w2 w3 w4 => (b5 i j e y v c w1 w2 w3 w4).mono hE) (by omega) (by show _ ≤ upd G.lim b _ b; rw [upd_same, hn, hm]; omega)
              (fun i j y c hy hc => by
                refine ⟨?_, a4 i j y c hy hc⟩
                have hi : i < n := by rw [hn, ← a1]; exact (List.getElem?_eq_some_iff.1 hy).1
                have hj : j < ei.size := by rw [← a3 i y hy]; exact (List.getElem?_eq_some_iff.1 hc).1
                have hlt : i * ei.size + j < n * ei.size := by
                  have : (i + 1) * ei.size ≤ n * ei.size := Nat.mul_le_mul_right _ hi
                  rw [Nat.succ_mul] at this; omega
                rw [hcellb, if_neg (by omega), Nat.zero_add]
                have hfl := flatV_get a3 i j y c hy hc
                rcases rel_slice hs1 with ⟨_, hh0⟩ | ⟨b', off', cap', cs', hc', g1, g2, g3, g4, g5, g6, g7⟩
                · simp at hh0
                · simp at hc'
                  obtain ⟨⟨rfl, rfl⟩, _, rfl⟩ := hc'
                  have a6' : (Builtin.firstCells ei.size n (.slice (some ⟨b, 0, none⟩) n cap)).run P w = .ok cs'.flatten.toArray w := by
                    simp only [Builtin.firstCells]
                    have := run_loadCells_list (P := P) w ⟨b, 0, none⟩ cs'.flatten (fun p v hp => by
                      obtain ⟨i1, j1, x1, rfl, h2', h3'⟩ := flatV_inv g5 p v hp
                      rw [add_plain, ← Nat.add_assoc]
                      exact (g6 i1 j1 x1 v h2' h3').1)
                    rw [flat_lengthV g5, g1, ← hn] at this
                    exact this
                  rw [a6'] at a6
                  have hfe : cs'.flatten = cs.flatten := by simpa using a6
                  rw [← hfe] at hfl
                  obtain ⟨i1, j1, x1, hp1, h2', h3'⟩ := flatV_inv g5 _ c hfl
                  have := (g6 i1 j1 x1 c h2' h3').1
                  rw [Nat.zero_add, ← hp1] at this
                  exact this)
              (fun i j y c hy hc => by
                refine ⟨?_, b4 i j y c hy hc⟩
                have hfl := flatV_get b3 i j y c hy hc
                have hlt := (List.getElem?_eq_some_iff.1 hfl).1
                rw [hcellb, ← hn, Nat.zero_add, Nat.add_mul, Nat.add_assoc, if_pos (by omega), Nat.add_sub_cancel_left]
                exact hfl)
            rw [← hn, ← hm] at this
            exact this
          refine ⟨_, _, G', run0 _ _ hrun, hE, hInv, fun d hd => ⟨hRel, fun _ => ⟨rfl, rfl, ?_, ?_, _, fr, hbnew, ?_, ?_⟩⟩⟩
          · show upd G.owner b _ b = _
            rw [hd]; simp
          · show upd G.lim b _ b = _
            simp
          · rw [setA_size]; exact q6
          · exact Nat.le_trans q7 (Nat.mul_le_mul_right _ (by omega))
  · -- a new row
    have htup' : ∀ m, ei.kind ≠ .tuple m := by
      intro m0 hm0
      simp [TI.isTup, hm0] at htup
    obtain ⟨info', zv, w1, w2, w3, w4⟩ := zero_rel hTe htup' G w
    have hzs : zv.cells.size = ei.size := by have := w3.1; simp only [Array.length_toList] at this; omega
    have hnc := nextcap_le (n + m) cap (by omega)
    have hbig : ¬ Builtin.nextslicecap (n + m) cap * info.bytes > 2 ^ 48 := by
      rw [hiby]
      rw [← hn, ← hm] at hroom
      exact room_arith hroom hbytes hnc
    have hb1 : ¬ info.bytes = 0 := by omega
    generalize hT0 : w.tape w.drawn (.appendCap (n + m) cap e) = T0
    let N := (Question.appendCap (n + m) cap e).cut T0
    have hN : n + m ≤ N := Nat.le_add_right _ _
    have hti : ∀ w : World, (typeInfo e).run P w = .ok info w := fun w => run_typeInfo_of (w := w) hinfo
    have hzv : ∀ w : World, (zeroValue e).run P w = .ok zv w := fun w => by simp [zeroValue, run_typeInfo_of w1, w2]
    let row : Array Value := cs.flatten.toArray ++ ds.flatten.toArray ++ Builtin.zeroCells zv.cells (N - (n + m))
    have hrun : (Builtin.append_ #[t, u] o.type #[a.eval x, a.eval z]).run P w = .ok (.slice (some ⟨w.heap.size, 0, none⟩) (n + m) N) (w.drew.alloc (.cells row e)) := by
      rw [hc1]
      simp only [Builtin.append_]
      have hforced : (Question.appendCap (n + m) cap e).forced = false := rfl
      rcases hdd with ⟨e', rfl⟩ | rfl <;> simp [hun1, hun2, hsize, hlenz, hneed, hti, hb1, hbig, hforced, run_choose, a7 w.drew rfl, b7 w.drew rfl, hzv, newRow, row, N, hT0]
    have hrl : row.size = n * ei.size + m * ei.size + (N - (n + m)) * ei.size := by
      simp only [row, Array.size_append, List.size_toArray, hflat1, hflat, zeroCells_size, hzs, hn, hm]
    have hrow1 : ∀ p, p < n * ei.size → row[p]? = cs.flatten[p]? := by
      intro p hp
      rw [hn, ← hflat1] at hp
      simp only [row]
      rw [Array.getElem?_append_left (by simp only [List.size_toArray, Array.size_append]; omega), Array.getElem?_append_left (by simp only [List.size_toArray]; exact hp)]
      simp
    have hrow2 : ∀ p, p < m * ei.size → row[n * ei.size + p]? = ds.flatten[p]? := by
      intro p hp
      rw [hm, ← hflat] at hp
      rw [hn, ← hflat1]
      simp only [row]
      rw [Array.getElem?_append_left (by simp only [List.size_toArray, Array.size_append]; omega), Array.getElem?_append_right (by simp only [List.size_toArray]; omega)]
      simp
    have hdr : Ext G w G w.drew := Ext.same rfl rfl rfl rfl
    have hal := Ext.alloc (w := w.drew) h.sto.wf (.cells row e) ((n + m) * ei.size) (some (.reg (o.dst.getD 0)))
    have hE := hdr.trans hal
    have hInv := ((h.same (w' := w.drew) rfl rfl rfl rfl).alloc (.cells row e) ((n + m) * ei.size) (some (.reg (o.dst.getD 0)))).clear (clearOf H o)
    have hsz0 : w.drew.heap.size = w.heap.size := rfl
    have hnew := heap_alloc_new w.drew (.cells row e)
    have hRel : Rel (G.new w.drew ((n + m) * ei.size) (some (.reg (o.dst.getD 0)))) (w.drew.alloc (.cells row e)) (.slice ei.size e (es ++ xs)) (.slice (some ⟨w.heap.size, 0, none⟩) (n + m) N) := by
      have := rel_concat (et := e) (G := G.new w.drew ((n + m) * ei.size) (some (.reg (o.dst.getD 0)))) (w := w.drew.alloc (.cells row e)) (k := ei.size) (b := w.heap.size) (off := 0) (cap := N) a1 b1 a2 b2 a3 b3
        (fun i j e y v c w1 w2 w3 w4 => (a5 i j e y v c w1 w2 w3 w4).mono hE) (fun i j e y v c w1 w2 w3 w4 => (b5 i j e y v c w1 w2 w3 w4).mono hE) (by rw [← hn, ← hm]; exact hN)
        (by show _ ≤ upd G.lim w.heap.size _ w.heap.size; rw [upd_same, hn, hm]; omega)
        (fun i j y c hy hc => by
          refine ⟨?_, a4 i j y c hy hc⟩
          have hfl := flatV_get a3 i j y c hy hc
          have hlt := (List.getElem?_eq_some_iff.1 hfl).1
          have := cell?_of_heap hnew (0 + i * ei.size + j)
          rw [hsz0] at this
          rw [this, Nat.zero_add, hrow1 _ (by rw [hn, ← hflat1]; exact hlt)]
          exact hfl)
        (fun i j y c hy hc => by
          refine ⟨?_, b4 i j y c hy hc⟩
          have hfl := flatV_get b3 i j y c hy hc
          have hlt := (List.getElem?_eq_some_iff.1 hfl).1
          have := cell?_of_heap hnew (0 + (es.length + i) * ei.size + j)
          rw [hsz0] at this
          rw [this, Nat.zero_add, ← hn, Nat.add_mul, Nat.add_assoc, hrow2 _ (by rw [hm, ← hflat]; exact hlt)]
          exact hfl)
      rw [← hn, ← hm] at this
      exact this
    refine ⟨_, _, _, run0 _ _ hrun, hE, hInv, fun d hd => ⟨hRel, fun _ => ⟨rfl, rfl, ?_, ?_, row, (0, 0), hnew, ?_, Nat.zero_le _⟩⟩⟩
    · show upd G.owner w.heap.size _ w.heap.size = _
      rw [hd]; simp
    · show upd G.lim w.heap.size _ w.heap.size = _
      simp
    · rw [hrl, ← Nat.add_mul, ← Nat.add_mul]
      exact Nat.mul_le_mul_right _ (by omega)

/-- A string's bytes, as elements of one cell. -/
theorem bytes_cells (s : ByteArray) : (bytesV s).length = s.size ∧ (∀ (i : Nat) (e : List V), (bytesV s)[i]? = some e → e.length = 1) ∧
    ∃ ds : List (List Value), ds.length = (bytesV s).length ∧ (∀ (i : Nat) (x : List Value), ds[i]? = some x → x.length = 1) ∧ (∀ (i j : Nat) (x : List Value) (c : Value), ds[i]? = some x → x[j]? = some c → c.oneCell' = true) ∧
      (∀ (G : Gh) (w : World) (i j : Nat) (e : List V) (x : List Value) (v : V) (c : Value), (bytesV s)[i]? = some e → ds[i]? = some x → e[j]? = some v → x[j]? = some c → Rel G w v c) ∧
      ∀ (P : Program) (w : World), (Builtin.firstCells 1 s.size (.string s)).run P w = .ok ds.flatten.toArray w := by
  refine ⟨by simp [bytesV], fun i e he => ?_, s.data.toList.map fun b => [Value.int .u8 b.toNat], by simp [bytesV], fun i x hx => ?_, fun i j x c hx hc => ?_, fun G w i j e x v c he hx hv hc => ?_, fun P w => ?_⟩
  · simp only [bytesV, List.getElem?_map, Option.map_eq_some_iff] at he
    obtain ⟨b, _, rfl⟩ := he
    rfl
  · simp only [List.getElem?_map, Option.map_eq_some_iff] at hx
    obtain ⟨b, _, rfl⟩ := hx
    rfl
  · simp only [List.getElem?_map, Option.map_eq_some_iff] at hx
    obtain ⟨b, _, rfl⟩ := hx
    match j with
    | 0 => simp at hc; subst hc; rfl
    | j + 1 => simp at hc
  · simp only [bytesV, List.getElem?_map, Option.map_eq_some_iff] at he hx
    obtain ⟨b, hb, rfl⟩ := he
    obtain ⟨b', hb', rfl⟩ := hx
    rw [hb] at hb'
    obtain rfl := Option.some.inj hb'
    match j with
    | 0 => simp at hv hc; subst hv; subst hc; exact .int _ _
    | j + 1 => simp at hc
  · have hex : (s.extract 0 s.size).data = s.data := by
      have : s.extract 0 s.size = s := ByteArray.extract_zero_size
      rw [this]
    simp only [Builtin.firstCells, hex, Sem.run_pure]
    congr 1
    apply Array.ext'
    simp [← List.flatMap_def]
    exact List.map_eq_flatMap

theorem val_append (hC : CtxOk P C) (h : Inv C.glob G lam a w st) {o : Oper} {c : Call} {y : RV} (ho : o.op = .call c) (hb : c.callee = .builtin .append) (ha : act C H o st.regs = some (.val y)) : VOk P C H G lam a w st o y := by
  simp only [act, ho, hb] at ha
  split at ha
  case h_2 => simp at ha
  rename_i x z t u hx ht
  obtain ⟨i, hi, h1⟩ := bind2 ha
  obtain ⟨j, hj, h2⟩ := bind2 h1
  clear ha h1
  obtain ⟨d1, hd1, hk1⟩ := (hC.T t i hi).desc
  obtain ⟨d2, hd2, hk2⟩ := (hC.T u j hj).desc
  split at h2
  · rename_i e e' hki hkj
    rw [hki] at hk1
    rw [hkj] at hk2
    obtain rfl := kok_slice hk1
    obtain rfl := kok_slice hk2
    obtain ⟨ei, hei, h3⟩ := bind2 h2
    obtain ⟨ei', hei', h4⟩ := bind2 h3
    clear h2 h3
    split at h4
    case isFalse => simp at h4
    rename_i hcond
    obtain ⟨hsz, hbytes, hb0, htup⟩ := hcond
    split at h4
    case h_2 => simp at h4
    rename_i v hv
    obtain ⟨es, hes, h5⟩ := bind2 h4
    obtain ⟨wv, hwv, h6⟩ := bind2 h5
    obtain ⟨xs, hxs, h7⟩ := bind2 h6
    obtain ⟨u0, hu, h8⟩ := bind2 h7
    clear h4 h5 h6 h7
    have hroom := grd_some hu
    obtain rfl := Eff.val.inj (Option.some.inj h8)
    obtain ⟨hs2, _⟩ := asSlice_rel hxs (vk_rel h hwv)
    obtain ⟨ao', m, cap', ds, hc2, hm, b1, b2, b3, b4, b5, b6⟩ := slice_cells (P := P) hs2
    exact append_core hC h ho hb hx ht hd1 hd2 (.inl ⟨e', rfl⟩) hei hbytes hb0 htup hv hes (room_le hroom hbytes) hm b1 b2 b3 b4 b5 (fun w' => by rw [hc2]; simp [Builtin.lenOf]) b6
  · rename_i e hki hkj
    rw [hki] at hk1
    rw [hkj] at hk2
    obtain rfl := kok_slice hk1
    obtain rfl := kok_string hk2
    obtain ⟨ei, hei, h4⟩ := bind2 h2
    clear h2
    split at h4
    case isFalse => simp at h4
    rename_i hcond
    obtain ⟨hsz, hbytes, hb0, htup⟩ := hcond
    split at h4
    case h_2 => simp at h4
    rename_i v hv
    obtain ⟨es, hes, h5⟩ := bind2 h4
    obtain ⟨wv, hwv, h6⟩ := bind2 h5
    obtain ⟨s, hxs, h7⟩ := bind2 h6
    obtain ⟨u0, hu, h8⟩ := bind2 h7
    clear h4 h5 h6 h7
    have hroom := grd_some hu
    obtain rfl := Eff.val.inj (Option.some.inj h8)
    have hr := vk_rel h hwv
    rw [asStr_some hxs] at hr
    have hz := rel_str hr
    obtain ⟨k1, k2, ds, k3, k4, k5, k6, k7⟩ := bytes_cells s
    have hes' : v.asSlice ei.size e = some es := by rw [hsz]; exact hes
    have := append_core (H := H) (xs := bytesV s) (m := s.size) (ds := ds) hC h ho hb hx ht hd1 hd2 (.inr rfl) hei hbytes hb0 htup hv hes' (by rw [k1]; exact room_le hroom hbytes) k1.symm k3 (by rw [hsz]; exact k2) (by rw [hsz]; exact k4) k5 (k6 G w) (fun w' => by rw [hz]; simp [Builtin.lenOf]) (fun w' _ => by rw [hz, hsz]; exact k7 P w')
    rw [hsz] at this
    exact this
  · simp at h2
end
end Go.Ab
end
section
namespace Go.Ab
section
variable {P : Program} {C : Ctx} {H : Hints} {G : Gh} {lam : Nat → Nat} {a : Act} {w : World} {st : St}

def NP (C : Ctx) (G : Gh) (w : World) (out : Out) (a' : Act) (w' : World) : Prop := ∃ st' G' lam', out = .next st' ∧ Ext G w G' w' ∧ Inv C.glob G' lam' a' w' st'
def QP (C : Ctx) (G : Gh) (w : World) (out : Out) (e : Exit) (a' : Act) (w' : World) : Prop :=
  ∃ v st' c G', out = .pan v st' ∧ e = .panic [{ v := c, recovered := false }] ∧ Rel G' w' v c ∧ Ext G w G' w' ∧ SInv C.glob G' w' st'.sto ∧ a'.defers = []

theorem setCells_length (cs : List Cell) (o : Nat) (xs : List Cell) : (setCells cs o xs).length = cs.length := by
  induction xs generalizing cs o with
  | nil => rfl
  | cons x xs ih => simp [setCells, ih]

theorem setCells_get (cs : List Cell) (o : Nat) (xs : List Cell) (j : Nat) (h : o + xs.length ≤ cs.length) :
    (setCells cs o xs)[j]? = if o ≤ j ∧ j < o + xs.length then xs[j - o]? else cs[j]? := by
  induction xs generalizing cs o with
  | nil => simp [setCells]; intro h1 h2; omega
  | cons x xs ih =>
    simp only [List.length_cons] at h
    rw [setCells, ih (cs.set o x) (o + 1) (by simp; omega)]
    by_cases h1 : o + 1 ≤ j ∧ j < o + 1 + xs.length
    · rw [if_pos h1, if_pos (by simp; omega), show j - o = (j - (o + 1)) + 1 by omega, List.getElem?_cons_succ]
    · rw [if_neg h1]
      by_cases h2 : j = o
      · subst h2
        rw [if_pos (by simp), List.getElem?_set]
        simp; omega
      · rw [if_neg (by simp; omega), List.getElem?_set, if_neg (by omega)]

/-- Cells written into a block that stands for abstract cells. -/
theorem write_block {r0 : Nat} {p : Place} {q : Nat → Place} {cs : List Cell} (wf : WF G w) (h : BlkOk G w r0 p q cs) (hpq : ∀ j, q j ≠ p) (o : Nat) (vs : List Value) (ns : List Cell) (hl : vs.length = ns.length) (ho : o + ns.length ≤ cs.length)
    (hv : ∀ (j : Nat) c x, ns[j]? = some c → vs[j]? = some x → CRel G w (q (o + j)) c x ∧ x.oneCell' = true) :
    (storeCells ⟨r0, o, none⟩ vs).run P w = .ok () (putCells w r0 o vs) ∧ Ext G w G (putCells w r0 o vs) ∧ (∀ fl : Place → Prop, ¬ fl p → Keeps G w G (putCells w r0 o vs) fl) ∧ WF G (putCells w r0 o vs) ∧
    BlkOk G (putCells w r0 o vs) r0 p q (setCells cs o ns) := by
  obtain ⟨cv, el, h1, h2, h3, h4, h5⟩ := h
  have hh := putCells_heap w r0 o vs
  obtain ⟨z1, z2, z3, z4⟩ := putCells_rest w r0 o vs
  have hnew : (putCells w r0 o vs).heap[r0]? = some (.cells (setA cv o vs) el (0, 0)) := by rw [hh, if_pos rfl, h1]; rfl
  have hother : ∀ i, i ≠ r0 → (putCells w r0 o vs).heap[i]? = w.heap[i]? := fun i hi => by rw [hh, if_neg hi]
  have hE : Ext G w G (putCells w r0 o vs) := by
    refine ⟨Nat.le_refl _, fun _ _ => rfl, fun _ _ => rfl, fun _ => Nat.le_refl _, fun b o' ho' => ?_, z2, z3, z4, by rw [z1]; exact Nat.le_refl _, fun i _ hi => ⟨hother i ?_, rfl, hi⟩⟩
    · have hb : b ≠ r0 := by rintro rfl; rw [h4] at ho'; omega
      simp only [World.cell?]; rw [hother b hb]
    · rintro rfl; rw [h3] at hi; simp at hi
  refine ⟨?_, hE, fun fl hf => ⟨fun i p' hp' hf' => ⟨hother i ?_, rfl, hp'⟩⟩, fun i hi => wf i (by rw [z1] at hi; exact hi), setA cv o vs, el, hnew, by rw [setA_size, setCells_length]; exact h2, h3, h4, fun j c x hc hx => ?_⟩
  · have := run_storeCells_plain (P := P) vs w r0 o 0 cv el (0, 0) h1 (by omega) (Nat.zero_le _) (fun v hv' => by
      obtain ⟨j, hj, hvj⟩ := List.mem_iff_getElem.1 hv'
      have hj' : j < ns.length := by omega
      exact (hv j _ v (List.getElem?_eq_getElem hj') (by rw [List.getElem?_eq_getElem hj, hvj])).2)
    simpa using this
  · rintro rfl
    rw [h3] at hp'
    obtain rfl := Option.some.inj hp'
    exact hf hf'
  · rw [setCells_get _ _ _ _ ho] at hc
    rw [setA_get _ _ _ _ (by omega)] at hx
    have tr : ∀ {c : Cell} {x : Value}, CRel G w (q j) c x → CRel G (putCells w r0 o vs) (q j) c x := fun hcr =>
      hcr.move hE fun _ i hi => ⟨hother i (by rintro rfl; rw [h3] at hi; exact hpq j (Option.some.inj hi).symm), rfl, hi⟩
    by_cases hj : o ≤ j ∧ j < o + ns.length
    · rw [if_pos hj] at hc
      rw [if_pos (by omega)] at hx
      obtain ⟨e1, e2⟩ := hv _ c x hc hx
      rw [show o + (j - o) = j by omega] at e1
      exact ⟨tr e1, e2⟩
    · rw [if_neg hj] at hc
      rw [if_neg (by omega)] at hx
      obtain ⟨e1, e2⟩ := h5 j c x hc hx
      exact ⟨tr e1, e2⟩

/-- The cells of a value laid into a block: what is known of them. -/
theorem cellsO_rel {v : V} {c : Value} {ag ow : Bool} {n : Nat} (h : Rel G w v c) (hf : v.fits ag n = true) (q : Nat → Place) (hq : ow = true → Own G w (q 0) v c) :
    (cellsO v ow ag n).length = n ∧ c.cells.toList.length = n ∧ ∀ (j : Nat) d x, (cellsO v ow ag n)[j]? = some d → c.cells.toList[j]? = some x → CRel G w (q j) d x ∧ x.oneCell' = true := by
  obtain ⟨⟨e1, e2⟩, e3, e4⟩ := cellsN_rel h hf
  cases ag with
  | true =>
    simp only [cellsO, cellsN, if_true] at *
    refine ⟨by simp, by simp [e3], fun j d x hd hx => ?_⟩
    obtain ⟨hj, hd⟩ := List.getElem?_eq_some_iff.1 hd
    simp at hj hd
    subst hd
    obtain ⟨g1, g2⟩ := e2 j (v.cell j) x (by simp [hj]) hx
    refine ⟨⟨g1, fun ho => ?_⟩, g2⟩
    simp only [Bool.and_eq_true] at ho
    have hown := hq ho.1
    rcases rel_fits h hf with ⟨_, cs, xs, rfl, rfl, h1, h2⟩ | ⟨hh, _⟩
    · have hc : cs[j]? = some ((V.agg cs).cell j) := by
        have hlt : j < cs.length := by omega
        simp [V.cell, hlt]
      show Own G w (q j) ((V.agg cs).cell j) x
      obtain ⟨k, et, hk⟩ : ∃ k et, (V.agg cs).cell j = .slice k et [] := by
        have := ho.2
        unfold V.isNo at this
        split at this
        · rename_i k et hv; exact ⟨k, et, hv⟩
        · simp at this
      have ht : Tight x := hown j k et x (by rw [hc, hk]) (by simpa [Value.cells] using hx)
      rw [hk]
      unfold Own
      split
      · exact ht.elim
      · first | contradiction | trivial
      · trivial
    · simp at hh
  | false =>
    simp only [cellsO, cellsN, Bool.false_eq_true, if_false] at *
    refine ⟨by simpa using e4, by simp [e3], fun j d x hd hx => ?_⟩
    cases j with
    | succ j => simp at hd
    | zero =>
      simp at hd
      subst hd
      obtain ⟨g1, g2⟩ := e2 0 v x (by simp) hx
      refine ⟨⟨g1, fun ho => ?_⟩, g2⟩
      have hx' : x = c := by
        rcases rel_fits h hf with ⟨hh, _⟩ | ⟨_, _, h1⟩
        · simp at hh
        · have hc : c.cells = #[c] := by cases c <;> simp_all [Value.cells, Value.oneCell']
          rw [hc] at hx; simp at hx; exact hx.symm
      subst hx'
      exact hq ho

/-- A token on its way out of a register. -/
theorem take_token {o : Oper} {t : TypeId} {x : Operand} {c : Cell} (h : Inv C.glob G lam a w st) (hc : ck C st.regs t x = some c) (hcl : (clearOf H o) = tmpOf x) (q : Place) :
    ∃ G', Ext G w G' w ∧ Inv C.glob G' lam a w (st.clear (clearOf H o)) ∧ Rel G' w c.1 (a.eval x) ∧ (c.2 = true → Own G' w q c.1 (a.eval x)) ∧ G'.N = G.N := by
  obtain ⟨h1, h2⟩ := ck_rel h hc
  cases hb : c.2 with
  | false => exact ⟨G, Ext.refl _ _, h.clear _, h1, fun ho => by simp at ho, rfl⟩
  | true =>
    rcases h2 hb with ⟨r, rfl, h3⟩ | h3
    · obtain ⟨G', e1, e2, e3, e4⟩ := (h.clear (clearOf H o)).token (q := q) h3 (clear_not_flagged _ _ (by rw [hcl]; simp [tmpOf])) (by simp) (by simp)
      exact ⟨G', e1, e2, h1.mono e1, fun _ => e3, e4⟩
    · exact ⟨G, Ext.refl _ _, h.clear _, h1, fun _ => h3 q, rfl⟩

theorem gather_some {cs : List Cell} {o n : Nat} {ag : Bool} {v : V} (h : gather cs o n ag = some v) : o + n ≤ cs.length ∧ ((ag = true ∧ v = .agg ((List.range n).map fun i => (cs.getD (o + i) cellD).1)) ∨ (ag = false ∧ n = 1 ∧ v = (cs.getD o cellD).1)) := by
  simp only [gather] at h
  split at h
  · rename_i h1
    refine ⟨h1, ?_⟩
    split at h
    · exact .inl ⟨‹_›, (Option.some.inj h).symm⟩
    · split at h
      · exact .inr ⟨by simpa using ‹¬ ag = true›, ‹_›, (Option.some.inj h).symm⟩
      · simp at h
  · simp at h

/-- Cells of a block read together. -/
theorem gather_rel {t : TypeId} {i : TI} (hT : TOk P t i) {r0 : Nat} {p : Place} {q : Nat → Place} {cs : List Cell} (h : BlkOk G w r0 p q cs ∨ cs = []) {o : Nat} {v : V} (hv : gather cs o i.size i.agg = some v) :
    ∃ x, (loadVar t ⟨r0, o, none⟩).run P w = .ok x w ∧ Rel G w v x := by
  obtain ⟨h1, h2⟩ := gather_some hv
  rcases h with ⟨cv, el, g1, g2, g3, g4, g5⟩ | rfl
  · obtain ⟨x, e1, e2⟩ := load_cells (P := P) (G := G) (w := w) hT r0 o (fun j => (cs.getD (o + j) cellD).1) ((cv.toList.drop o).take i.size) (by simp; omega) (fun j x hx => by
      rw [List.getElem?_take] at hx
      split at hx
      · rw [List.getElem?_drop] at hx
        have hx' : cv[o + j]? = some x := by simpa using hx
        have hlt : o + j < cs.length := by omega
        rw [List.getD_eq_getElem?_getD, List.getElem?_eq_getElem hlt]
        obtain ⟨w1, w2⟩ := g5 (o + j) _ x (List.getElem?_eq_getElem hlt) hx'
        exact ⟨by rw [cell?_of_heap g1]; exact hx', w2, w1.1⟩
      · simp at hx) (fun hh => by rcases h2 with ⟨h2, _⟩ | ⟨_, h2, _⟩; · simp [hh] at h2
                                  · exact h2)
    refine ⟨x, e1, ?_⟩
    rcases h2 with ⟨q1, rfl⟩ | ⟨q1, q2, rfl⟩
    · rw [if_pos q1] at e2; exact e2
    · rw [if_neg (by simp [q1])] at e2; exact e2
  · simp only [List.length_nil] at h1
    have h0 : i.size = 0 := by omega
    rcases h2 with ⟨q1, rfl⟩ | ⟨q1, q2, rfl⟩
    · refine ⟨.agg #[], ?_, ?_⟩
      · have := run_loadVar_of (w := w) hT r0 o [] (by simp [h0]) (by simp) (fun hh => by simp [hh] at q1)
        rw [if_pos q1] at this
        exact this
      · rw [h0]
        exact .agg [] [] rfl (by simp) (by simp)
    · omega

theorem locs_ok (h : Inv C.glob G lam a w st) (r : Nat) : BlkOk G w (lam r) (.box r) (fun j => .lc r j) (st.locs.getD r []) ∨ st.locs.getD r [] = [] := by
  rw [List.getD_eq_getElem?_getD]
  cases hl : st.locs[r]? with
  | none => exact .inr rfl
  | some cs =>
    by_cases hcs : cs = []
    · exact .inr hcs
    · exact .inl (h.locs r cs hl hcs)

/-- One block of the frame's own is written; all else stays. -/
theorem Inv.setLoc (h : Inv C.glob G lam a w st) {r : Nat} {w' : World} {cs : List Cell} (e : Ext G w G w') (k : Keeps G w G w' (fun p => p ≠ .box r)) (wf : WF G w') (hb : BlkOk G w' (lam r) (.box r) (fun j => .lc r j) cs) :
    Inv C.glob G lam a w' { st with locs := st.locs.set r cs } where
  defers := h.defers
  len := h.len
  lenl := by simp [h.lenl]
  regs r' x hx := (h.regs r' x hx).move e k (fun v hv => by simp) (fun cs i v hv hi => by simp)
  locs r' cs' hc hne := by
    simp only [List.getElem?_set] at hc
    split at hc
    · rename_i hr
      subst hr
      split at hc
      · obtain rfl := Option.some.inj hc; exact hb
      · simp at hc
    · rename_i hr
      exact (h.locs r' cs' hc hne).move e k (by simp; exact fun hh => hr hh.symm) (fun j v hv => by simp)
  sto := h.sto.move e k wf rfl (fun b _ => by simp) (fun b cs j v hb hv => by simp)

/-- One block of the store is written; all else stays. -/
theorem Inv.setSto (h : Inv C.glob G lam a w st) {b : Nat} {w' : World} {cs : List Cell} (hb : b < st.sto.length) (e : Ext G w G w') (k : Keeps G w G w' (fun p => p ≠ .blk b)) (wf : WF G w') (hk : BlkOk G w' (G.μ b) (.blk b) (fun j => .gc b j) cs) (ht : ∃ cv fr, w'.heap[G.μ b]? = some (.cells cv (G.ty b) fr)) :
    Inv C.glob G lam a w' { st with sto := st.sto.set b cs } where
  defers := h.defers
  len := h.len
  lenl := h.lenl
  regs r' x hx := (h.regs r' x hx).move e k (fun v hv => by simp) (fun cs i v hv hi => by simp)
  locs r' cs' hc hne := (h.locs r' cs' hc hne).move e k (by simp) (fun j v hv => by simp)
  sto := by
    refine ⟨wf, fun g cs hg => (h.sto.glob g cs hg).mono e, by simp [h.sto.N], fun b' hb' => ?_, fun b' cs' hc => ?_⟩
    · simp only [List.length_set] at hb'
      by_cases hbb : b' = b
      · subst hbb; exact ht
      · obtain ⟨cv, fr, h1⟩ := h.sto.typed b' hb'
        obtain ⟨_, _, _, _, h3, _⟩ := h.sto.blk b' st.sto[b'] (List.getElem?_eq_getElem hb')
        exact ⟨cv, fr, by rw [(k.blocks _ _ h3 (by simp; exact hbb)).1]; exact h1⟩
    simp only [List.getElem?_set] at hc
    split at hc
    · rename_i hr
      subst hr
      obtain rfl := Option.some.inj hc
      exact hk
    · rename_i hr
      exact (h.sto.blk b' cs' hc).move e k (by simp; exact fun hh => hr hh.symm) (fun j v hv => by simp)

end
end Go.Ab
end
