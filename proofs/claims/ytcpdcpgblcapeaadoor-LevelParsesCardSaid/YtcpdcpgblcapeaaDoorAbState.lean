/- How the abstract state's changes are met by the real one's. -/
import Derived.Test.YtcpdcpgblcapeaaDoorAbRun
set_option linter.unusedSimpArgs false
set_option linter.unusedVariables false
set_option linter.deprecated false
namespace Go.Ab

section
variable {gl : Nat → Option (List V)} {G : Gh} {lam : Nat → Nat} {a : Act} {w : World} {st : St}

theorem put_tmps (a : Act) (dst : Option Nat) (c : Value) : (a.put dst c).defers = a.defers ∧ (a.put dst c).tmps.size = a.tmps.size := by
  cases dst <;> simp [Act.put]

theorem put_get (a : Act) (d : Nat) (c : Value) (r : Nat) : (a.put (some d) c).tmps.getD r undef = if d = r ∧ r < a.tmps.size then c else a.tmps.getD r undef := by
  simp only [Act.put, Array.getD_eq_getD_getElem?, Array.getElem?_setIfInBounds]
  by_cases h : d = r
  · subst h
    by_cases h2 : d < a.tmps.size
    · simp [h2]
    · simp [h2]
  · simp [h]

theorem Inv.put (h : Inv gl G lam a w st) (dst : Option Nat) (x : RV) (c : Value) (hr : ∀ d, dst = some d → RRel G lam w d x c) : Inv gl G lam (a.put dst c) w (st.put dst x) := by
  cases dst with
  | none => exact h
  | some d =>
    refine ⟨by rw [(put_tmps _ _ _).1]; exact h.defers, by rw [(put_tmps _ _ _).2]; simp [St.put, St.setReg, h.len], by simp [St.put, St.setReg, h.lenl], fun r y hy => ?_, h.locs, h.sto⟩
    rw [put_get]
    simp only [St.put, St.setReg, List.getElem?_set] at hy
    by_cases hd : d = r
    · subst hd
      rw [if_pos rfl] at hy
      split at hy
      · rename_i hlt
        rw [if_pos ⟨rfl, by rw [h.len]; exact hlt⟩]
        obtain rfl := Option.some.inj hy
        exact hr d rfl
      · exact absurd hy (by simp)
    · rw [if_neg hd] at hy
      rw [if_neg (by simp [hd])]
      exact h.regs r y hy

theorem clr_rel {r : Nat} {x : RV} {c : Value} (h : RRel G lam w r x c) : RRel G lam w r (clr x) c := by
  cases x with
  | val v o => exact ⟨h.1, fun hh => by simp at hh⟩
  | _ => exact h

theorem clearRegs_get (regs : List RV) (rs : List Nat) (r : Nat) : (clearRegs regs rs)[r]? = if rs.contains r then (regs[r]?).map clr else regs[r]? := by
  induction rs generalizing regs with
  | nil => simp [clearRegs]
  | cons x rs ih =>
    rw [clearRegs, ih, List.getElem?_modify]
    by_cases hx : x = r
    · subst hx
      simp only [if_true, List.contains_cons, beq_self_eq_true, Bool.true_or]
      split
      · cases regs[x]? with
        | none => rfl
        | some y => cases y <;> rfl
      · cases regs[x]? <;> rfl
    · have h2 : (r == x) = false := by simp; exact fun e => hx e.symm
      simp only [hx, List.contains_cons, h2, Bool.false_or, if_false]
      cases regs[r]? <;> simp

theorem clearRegs_length (regs : List RV) (rs : List Nat) : (clearRegs regs rs).length = regs.length := by
  induction rs generalizing regs with
  | nil => rfl
  | cons x rs ih => simp [clearRegs, ih]

theorem Inv.clear (h : Inv gl G lam a w st) (rs : List Nat) : Inv gl G lam a w (st.clear rs) := by
  refine ⟨h.defers, by simp only [St.clear, clearRegs_length]; exact h.len, by simp only [St.clear, clearRegs_length]; exact h.lenl, fun r y hy => ?_, h.locs, h.sto⟩
  simp only [St.clear, clearRegs_get] at hy
  split at hy
  · cases hx : st.regs[r]? with
    | none => rw [hx] at hy; simp at hy
    | some x =>
      rw [hx] at hy
      obtain rfl := Option.some.inj hy
      exact clr_rel (h.regs r x hx)
  · exact h.regs r y hy

theorem clear_not_flagged (rs : List Nat) (t : Nat) (ht : rs.contains t = true) : ¬ (st.clear rs).flagged (.reg t) := by
  rintro ⟨v, hv⟩
  simp only [St.clear, clearRegs_get, ht, if_true] at hv
  cases hx : st.regs[t]? with
  | none => rw [hx] at hv; simp at hv
  | some x => rw [hx] at hv; cases x <;> simp [clr] at hv

/-- A token goes from one place to another. -/
theorem Inv.token (h : Inv gl G lam a w st) {p q : Place} {v : V} {c : Value} (ho : Own G w p v c) (hp : ¬ st.flagged p) (hp1 : ∀ r, p ≠ .box r) (hp2 : ∀ b, p ≠ .blk b) :
    ∃ G', Ext G w G' w ∧ Inv gl G' lam a w st ∧ Own G' w q v c ∧ G'.N = G.N := by
  by_cases hd : ∃ k e es a n cap, v = .slice k e es ∧ c = .slice (some a) n cap
  · obtain ⟨k, e, es, ad, n, cap, rfl, rfl⟩ := hd
    obtain ⟨h1, h2, h3, h4, h5⟩ := ho
    · refine ⟨{ G with owner := upd G.owner ad.block (some q) }, ?_, ?_, ?_, rfl⟩
      · exact ⟨Nat.le_refl _, fun _ _ => rfl, fun _ _ => rfl, fun _ => Nat.le_refl _, fun _ _ _ => rfl, rfl, rfl, rfl, Nat.le_refl _, fun i _ hi => ⟨rfl, rfl, by
          show upd G.owner ad.block (some q) i = none
          rw [upd_other]
          · exact hi
          · rintro rfl; rw [h3] at hi; exact absurd hi (by simp)⟩⟩
      · refine h.move ?_ ⟨fun i p' hp' hf => ⟨rfl, rfl, ?_⟩⟩ (fun i hi => ?_) rfl
        · exact ⟨Nat.le_refl _, fun _ _ => rfl, fun _ _ => rfl, fun _ => Nat.le_refl _, fun _ _ _ => rfl, rfl, rfl, rfl, Nat.le_refl _, fun i _ hi => ⟨rfl, rfl, by
            show upd G.owner ad.block (some q) i = none
            rw [upd_other]
            · exact hi
            · rintro rfl; rw [h3] at hi; exact absurd hi (by simp)⟩⟩
        · show upd G.owner ad.block (some q) i = _
          rw [upd_other]
          · exact hp'
          · rintro rfl
            rw [h3] at hp'
            obtain rfl := Option.some.inj hp'
            rcases hf with hf | ⟨r, hr⟩ | ⟨b, hb⟩
            · exact hp hf
            · exact hp1 r hr
            · exact hp2 b hb
        · obtain ⟨a1, a2⟩ := h.sto.wf i hi
          refine ⟨a1, ?_⟩
          show upd G.owner ad.block (some q) i = _
          rw [upd_other]
          · exact a2
          · rintro rfl; rw [h3] at a2; exact absurd a2 (by simp)
      · exact ⟨h1, h2, by simp, h4, h5⟩
  · refine ⟨G, Ext.refl _ _, h, ?_, rfl⟩
    unfold Own at *
    split at ho
    · rename_i k e es ad n cap
      exact absurd ⟨k, e, es, ad, n, cap, rfl, rfl⟩ hd
    · exact ho
    · trivial

theorem cell?_alloc_old' {w : World} {o : Obj} {b j : Nat} (h : b < w.heap.size) : (w.alloc o).cell? ⟨b, j, none⟩ = w.cell? ⟨b, j, none⟩ := World.cell?_alloc_lt _ _ _ h

theorem lim_lt {G : Gh} {w : World} (h : WF G w) {b o : Nat} (ho : o < G.lim b) : b < w.heap.size := by
  rcases Nat.lt_or_ge b w.heap.size with h1 | h1
  · exact h1
  · rw [(h b h1).1] at ho; omega

theorem owner_lt {G : Gh} {w : World} (h : WF G w) {b : Nat} {p : Place} (ho : G.owner b = some p) : b < w.heap.size := by
  rcases Nat.lt_or_ge b w.heap.size with h1 | h1
  · exact h1
  · rw [(h b h1).2] at ho; simp at ho

theorem heap_alloc_lt {w : World} {o : Obj} {i : Nat} (h : i < w.heap.size) : (w.alloc o).heap[i]? = w.heap[i]? := by
  show (w.heap.push o)[i]? = _
  rw [Array.getElem?_push, if_neg (by omega)]

theorem heap_alloc_new (w : World) (o : Obj) : (w.alloc o).heap[w.heap.size]? = some o := by
  show (w.heap.push o)[w.heap.size]? = _
  simp

/-- A new block: so many of its cells settled, held by whom. -/
def Gh.new (G : Gh) (w : World) (lim : Nat) (p : Option Place) : Gh := { G with lim := upd G.lim w.heap.size lim, owner := upd G.owner w.heap.size p }

theorem Ext.alloc {G : Gh} {w : World} (wf : WF G w) (o : Obj) (lim : Nat) (p : Option Place) : Ext G w (G.new w lim p) (w.alloc o) where
  N := Nat.le_refl _
  μ _ _ := rfl
  ty _ _ := rfl
  lim b := by
    show _ ≤ upd G.lim w.heap.size lim b
    by_cases hb : b = w.heap.size
    · subst hb; rw [(wf _ (Nat.le_refl _)).1]; omega
    · rw [upd_other _ _ hb]; exact Nat.le_refl _
  cell b o ho := cell?_alloc_old' (lim_lt wf ho)
  os := rfl
  tape := rfl
  output := rfl
  size := by simp
  old i hi ho := ⟨heap_alloc_lt hi, upd_other _ _ (by omega), by show upd G.owner _ _ i = _; rw [upd_other _ _ (by omega)]; exact ho⟩

theorem WF.alloc {G : Gh} {w : World} (wf : WF G w) (o : Obj) (lim : Nat) (p : Option Place) : WF (G.new w lim p) (w.alloc o) := by
  intro i hi
  simp at hi
  obtain ⟨h1, h2⟩ := wf i (by omega)
  exact ⟨(upd_other _ _ (by omega)).trans h1, (upd_other _ _ (by omega)).trans h2⟩

theorem Keeps.alloc {G : Gh} {w : World} {fl : Place → Prop} (wf : WF G w) (o : Obj) (lim : Nat) (p : Option Place) : Keeps G w (G.new w lim p) (w.alloc o) fl :=
  ⟨fun i q hq _ => by
    have := owner_lt wf hq
    exact ⟨heap_alloc_lt this, upd_other _ _ (by omega), by show upd G.owner _ _ i = _; rw [upd_other _ _ (by omega)]; exact hq⟩⟩

theorem Inv.alloc (h : Inv gl G lam a w st) (o : Obj) (lim : Nat) (p : Option Place) : Inv gl (G.new w lim p) lam a (w.alloc o) st :=
  h.move (Ext.alloc h.sto.wf o lim p) (Keeps.alloc h.sto.wf o lim p) (h.sto.wf.alloc o lim p) rfl
end
end Go.Ab
