/- Code, loops: the abstract run is met by the real one. -/
import Derived.Test.YtcpdcpgblcapeaaDoorAbDraw
set_option linter.unusedSimpArgs false
set_option linter.unusedVariables false
set_option linter.deprecated false
namespace Go.Ab
section
variable {P : Program} {C : Ctx} {H : Hints} {call : CallF}

/-- How the code's end stands to the abstract one. -/
def EP (C : Ctx) (G : Gh) (w : World) (ex : Ex) (st : St) (e : Exit) (a' : Act) (w' : World) : Prop :=
  match ex with
  | .normal => e = .normal ∧ ∃ G' lam', Ext G w G' w' ∧ Inv C.glob G' lam' a' w' st
  | .exit i => e = .exit i ∧ ∃ G' lam', Ext G w G' w' ∧ Inv C.glob G' lam' a' w' st
  | .ret => e = .ret ∧ ∃ G' lam', Ext G w G' w' ∧ Inv C.glob G' lam' a' w' st
  | .pan v => ∃ c G', e = .panic [{ v := c, recovered := false }] ∧ Rel G' w' v c ∧ Ext G w G' w' ∧ SInv C.glob G' w' st.sto ∧ a'.defers = []

theorem EP.trans {G G1 : Gh} {w w1 : World} {ex : Ex} {st : St} {e : Exit} {a' : Act} {w' : World} (x : Ext G w G1 w1) (h : EP C G1 w1 ex st e a' w') : EP C G w ex st e a' w' := by
  cases ex with
  | pan v => obtain ⟨c, G', h1, h2, h3, h4, h5⟩ := h; exact ⟨c, G', h1, h2, x.trans h3, h4, h5⟩
  | normal => obtain ⟨h1, G', lam', h2, h3⟩ := h; exact ⟨h1, G', lam', x.trans h2, h3⟩
  | exit i => obtain ⟨h1, G', lam', h2, h3⟩ := h; exact ⟨h1, G', lam', x.trans h2, h3⟩
  | ret => obtain ⟨h1, G', lam', h2, h3⟩ := h; exact ⟨h1, G', lam', x.trans h2, h3⟩

def SoundC (P : Program) (C : Ctx) (c : Code) (st : St) (ex : Ex) (st' : St) : Prop := ∀ G lam a w, Inv C.glob G lam a w st → c.wp P (EP C G w ex st') a w

theorem keepRegs_get (keep : List Nat) : ∀ (l : List RV) (i r : Nat), (keepRegs keep i l)[r]? = (l[r]?).map fun x => if keep.contains (i + r) then x else .dead
  | [], _, _ => by simp [keepRegs]
  | x :: xs, i, r => by
    cases r with
    | zero => simp [keepRegs]
    | succ r => simp only [keepRegs, List.getElem?_cons_succ]; rw [keepRegs_get keep xs (i + 1) r]; simp [Nat.add_assoc, Nat.add_comm 1]

theorem keepLocs_get (keep : List Nat) : ∀ (l : List (List Cell)) (i r : Nat), (keepLocs keep i l)[r]? = (l[r]?).map fun x => if keep.contains (i + r) then x else []
  | [], _, _ => by simp [keepLocs]
  | x :: xs, i, r => by
    cases r with
    | zero => simp [keepLocs]
    | succ r => simp only [keepLocs, List.getElem?_cons_succ]; rw [keepLocs_get keep xs (i + 1) r]; simp [Nat.add_assoc, Nat.add_comm 1]

theorem keepRegs_length (keep : List Nat) : ∀ (l : List RV) (i : Nat), (keepRegs keep i l).length = l.length
  | [], _ => rfl
  | x :: xs, i => by simp [keepRegs, keepRegs_length keep xs]
theorem keepLocs_length (keep : List Nat) : ∀ (l : List (List Cell)) (i : Nat), (keepLocs keep i l).length = l.length
  | [], _ => rfl
  | x :: xs, i => by simp [keepLocs, keepLocs_length keep xs]

theorem Inv.kill {gl : Nat → Option (List V)} {G : Gh} {lam : Nat → Nat} {a : Act} {w : World} {st : St} (h : Inv gl G lam a w st) (keep : List Nat) : Inv gl G lam a w (st.kill keep) := by
  refine ⟨h.defers, by simp only [St.kill, keepRegs_length]; exact h.len, by simp only [St.kill, keepRegs_length, keepLocs_length]; exact h.lenl, fun r x hx => ?_, fun r cs hc hne => ?_, h.sto⟩
  · simp only [St.kill, keepRegs_get, Option.map_eq_some_iff] at hx
    obtain ⟨y, hy, rfl⟩ := hx
    split
    · exact h.regs r y hy
    · trivial
  · simp only [St.kill, keepLocs_get, Option.map_eq_some_iff] at hc
    obtain ⟨y, hy, rfl⟩ := hc
    split
    · rename_i hk
      rw [if_pos hk] at hne
      exact h.locs r y hy hne
    · rename_i hk
      rw [if_neg hk] at hne
      exact absurd rfl hne

/-- A loop of so many rounds at most. -/
theorem aloop_sound {c : Code} {body : St → (Ex → St → Option Res) → Option Res} (hb : ∀ st K r, body st K = some r → ∃ ex st', K ex st' = some r ∧ SoundC P C c st ex st') (keep : List Nat) :
    ∀ (n : Nat) (st : St) (K : Ex → St → Option Res) (r : Res), aloop body keep n st K = some r → ∃ ex st', K ex st' = some r ∧ ∀ G lam a w, Inv C.glob G lam a w st → ∀ (b : Frame) (k : List Item) (cs : List Frame),
      ∃ e a' w', EP C G w ex st' e a' w' ∧ Arrives P (lone (b.at a (.code c :: .inLoop c :: k)) cs w) b k cs e a' w'
  | 0, st, K, r, h => by simp [aloop] at h
  | n + 1, st, K, r, h => by
    simp only [aloop] at h
    obtain ⟨ex, st1, h1, h2⟩ := hb _ _ _ h
    cases ex with
    | normal =>
      simp only [kloop] at h1
      obtain ⟨ex2, st2, h3, h4⟩ := aloop_sound hb keep n _ K r h1
      refine ⟨ex2, st2, h3, fun G lam a w hI b k cs => ?_⟩
      obtain ⟨e, a1, w1, ⟨rfl, G1, lam1, x1, i1⟩, harr⟩ := h2 G lam a w hI b (.inLoop c :: k) cs
      obtain ⟨e2, a2, w2, q2, harr2⟩ := h4 G1 lam1 a1 w1 (i1.kill keep) b k cs
      exact ⟨e2, a2, w2, q2.trans x1, .of_steps (Steps.trans harr (.one step_inLoop)) harr2⟩
    | exit i =>
      refine ⟨_, st1, h1, fun G lam a w hI b k cs => ?_⟩
      obtain ⟨e, a1, w1, hq, harr⟩ := h2 G lam a w hI b (.inLoop c :: k) cs
      have he := hq.1
      exact ⟨e, a1, w1, hq, .pass (x := .inLoop c) rfl (fun _ _ => .inl (by rw [he]; simp)) harr⟩
    | ret =>
      refine ⟨_, st1, h1, fun G lam a w hI b k cs => ?_⟩
      obtain ⟨e, a1, w1, hq, harr⟩ := h2 G lam a w hI b (.inLoop c :: k) cs
      have he := hq.1
      exact ⟨e, a1, w1, hq, .pass (x := .inLoop c) rfl (fun _ _ => .inl (by rw [he]; simp)) harr⟩
    | pan v =>
      refine ⟨_, st1, h1, fun G lam a w hI b k cs => ?_⟩
      obtain ⟨e, a1, w1, hq, harr⟩ := h2 G lam a w hI b (.inLoop c :: k) cs
      obtain ⟨cc, G', he, _⟩ := id hq
      exact ⟨e, a1, w1, hq, .pass (x := .inLoop c) rfl (fun _ _ => .inl (by rw [he]; simp)) harr⟩

theorem aexec_sound (hC : CtxOk P C) (hcall : CallOk P C call) (n : Nat) : ∀ (c : Code) (id : Nat) (st : St) (K : Ex → St → Option Res) (r : Res), aexec C H call n c id st K = some r → ∃ ex st', K ex st' = some r ∧ SoundC P C c st ex st'
  | .skip, _, st, K, r, h => ⟨.normal, st, h, fun G lam a w hI => wp_skip ⟨rfl, G, lam, Ext.refl _ _, hI⟩⟩
  | .label l, _, st, K, r, h => ⟨.normal, st, h, fun G lam a w hI => wp_label ⟨rfl, G, lam, Ext.refl _ _, hI⟩⟩
  | .region id ops draw, _, st, K, r, h => by
    simp only [aexec] at h
    have fin : ∀ out, (match out with | .next st => K .normal st | .pan v st => K (.pan v) st) = some r → ∃ ex st', K ex st' = some r ∧ ∀ (G : Gh) (w : World) e a' w', OQ C G w out e a' w' → EP C G w ex st' e a' w' := by
      intro out h1
      cases out with
      | next st1 =>
        refine ⟨.normal, st1, h1, fun G w e a' w' hq => ?_⟩
        rcases hq with ⟨rfl, st', G', lam', hh, e2, e3⟩ | ⟨v, st', c, G', hh, _⟩
        · cases hh; exact ⟨rfl, G', lam', e2, e3⟩
        · cases hh
      | pan v st1 =>
        refine ⟨.pan v, st1, h1, fun G w e a' w' hq => ?_⟩
        rcases hq with ⟨rfl, st', G', lam', hh, e2, e3⟩ | ⟨v', st', c, G', hh, q1, q2, q3, q4, q5⟩
        · cases hh
        · cases hh; exact ⟨c, G', q1, q2, q3, q4, q5⟩
    cases draw with
    | true =>
      simp only [if_true] at h
      obtain ⟨u, hu, h⟩ := bind2 h
      obtain ⟨out, h1, h2⟩ := draw_sound hC hcall (grd_some hu) h
      obtain ⟨ex, st', h3, h4⟩ := fin out h1
      exact ⟨ex, st', h3, fun G lam a w hI => wp_mono (wp_region_any hC.mixed (h2 G lam a w hI)) fun e a' w' hq => h4 G w e a' w' hq⟩
    | false =>
      simp only [Bool.false_eq_true, if_false] at h
      obtain ⟨out, h1, h2⟩ := aops_sound hC hcall _ _ _ _ h
      obtain ⟨ex, st', h3, h4⟩ := fin out h1
      exact ⟨ex, st', h3, fun G lam a w hI => wp_mono (wp_region (h2 G lam a w hI)) fun e a' w' hq => h4 G w e a' w' hq⟩
  | .seq x y, id, st, K, r, h => by
    simp only [aexec] at h
    obtain ⟨ex, st1, h1, h2⟩ := aexec_sound hC hcall n x 0 st _ r h
    cases ex with
    | normal =>
      obtain ⟨ex2, st2, h3, h4⟩ := aexec_sound hC hcall n y 0 st1 K r h1
      refine ⟨ex2, st2, h3, fun G lam a w hI => wp_seq (wp_mono (h2 G lam a w hI) fun e a' w' hq => ?_)⟩
      obtain ⟨rfl, G', lam', e2, e3⟩ := hq
      exact wp_mono (h4 G' lam' a' w' e3) fun e a w hq => hq.trans e2
    | exit i =>
      refine ⟨_, st1, h1, fun G lam a w hI => wp_seq (wp_mono (h2 G lam a w hI) fun e a' w' hq => ?_)⟩
      obtain ⟨rfl, hh⟩ := hq; exact ⟨rfl, hh⟩
    | ret =>
      refine ⟨_, st1, h1, fun G lam a w hI => wp_seq (wp_mono (h2 G lam a w hI) fun e a' w' hq => ?_)⟩
      obtain ⟨rfl, hh⟩ := hq; exact ⟨rfl, hh⟩
    | pan v =>
      refine ⟨_, st1, h1, fun G lam a w hI => wp_seq (wp_mono (h2 G lam a w hI) fun e a' w' hq => ?_)⟩
      obtain ⟨c, G', rfl, hh⟩ := hq; exact ⟨c, G', rfl, hh⟩
  | .cond c x y, id, st, K, r, h => by
    simp only [aexec] at h
    split at h
    · rename_i r0
      split at h
      · rename_i v ow hv
        obtain ⟨b, hb, h⟩ := bind2 h
        have key : ∀ G lam a w, Inv C.glob G lam a w st → a.eval (.tmp r0) = .bool b := by
          intro G lam a w hI
          obtain ⟨q1, _, _⟩ := hI.open hv
          exact asBool_rel hb q1
        have hs := setReg_same hv hb
        cases b with
        | true =>
          simp only [cond_true, hs] at h
          obtain ⟨ex, st1, h1, h2⟩ := aexec_sound hC hcall n x 0 _ K r h
          exact ⟨ex, st1, h1, fun G lam a w hI => wp_cond_true (key G lam a w hI) (h2 G lam a w hI)⟩
        | false =>
          simp only [cond_false, hs] at h
          obtain ⟨ex, st1, h1, h2⟩ := aexec_sound hC hcall n y 0 _ K r h
          exact ⟨ex, st1, h1, fun G lam a w hI => wp_cond_false (key G lam a w hI) (h2 G lam a w hI)⟩
      · simp at h
    · rename_i b
      cases b with
      | true =>
        simp only [if_true] at h
        obtain ⟨ex, st1, h1, h2⟩ := aexec_sound hC hcall n x 0 _ K r h
        exact ⟨ex, st1, h1, fun G lam a w hI => wp_cond_true rfl (h2 G lam a w hI)⟩
      | false =>
        simp only [Bool.false_eq_true, if_false] at h
        obtain ⟨ex, st1, h1, h2⟩ := aexec_sound hC hcall n y 0 _ K r h
        exact ⟨ex, st1, h1, fun G lam a w hI => wp_cond_false rfl (h2 G lam a w hI)⟩
    · simp at h
  | .block i body, id, st, K, r, h => by
    simp only [aexec] at h
    obtain ⟨ex, st1, h1, h2⟩ := aexec_sound hC hcall n body i st _ r h
    cases ex with
    | normal =>
      refine ⟨_, st1, h1, fun G lam a w hI => wp_block (wp_mono (h2 G lam a w hI) fun e a' w' hq => ?_)⟩
      obtain ⟨rfl, hh⟩ := hq; exact ⟨rfl, hh⟩
    | exit j =>
      simp only [kblk] at h1
      by_cases hj : j = i
      · rw [if_pos hj] at h1
        refine ⟨_, st1, h1, fun G lam a w hI => wp_block (wp_mono (h2 G lam a w hI) fun e a' w' hq => ?_)⟩
        obtain ⟨rfl, hh⟩ := hq
        simp only [Exit.inBlock, if_pos hj]
        exact ⟨rfl, hh⟩
      · rw [if_neg hj] at h1
        refine ⟨_, st1, h1, fun G lam a w hI => wp_block (wp_mono (h2 G lam a w hI) fun e a' w' hq => ?_)⟩
        obtain ⟨rfl, hh⟩ := hq
        simp only [Exit.inBlock, if_neg hj]
        exact ⟨rfl, hh⟩
    | ret =>
      refine ⟨_, st1, h1, fun G lam a w hI => wp_block (wp_mono (h2 G lam a w hI) fun e a' w' hq => ?_)⟩
      obtain ⟨rfl, hh⟩ := hq; exact ⟨rfl, hh⟩
    | pan v =>
      refine ⟨_, st1, h1, fun G lam a w hI => wp_block (wp_mono (h2 G lam a w hI) fun e a' w' hq => ?_)⟩
      obtain ⟨c, G', rfl, hh⟩ := hq; exact ⟨c, G', rfl, hh⟩
  | .loop body, id, st, K, r, h => by
    simp only [aexec] at h
    obtain ⟨ex, st1, h1, h2⟩ := aloop_sound (c := body) (fun st K r hh => aexec_sound hC hcall n body 0 st K r hh) (H.keep id) n _ K r h
    refine ⟨ex, st1, h1, fun G lam a w hI => ?_⟩
    intro b k cs
    obtain ⟨e, a', w', q1, q2⟩ := h2 G lam a w (hI.kill _) b k cs
    exact ⟨e, a', w', q1, .of_steps (.one step_loop) q2⟩
  | .exit i, _, st, K, r, h => ⟨.exit i, st, h, fun G lam a w hI => wp_exit ⟨rfl, G, lam, Ext.refl _ _, hI⟩⟩
  | .ret, _, st, K, r, h => ⟨.ret, st, h, fun G lam a w hI => wp_ret ⟨rfl, G, lam, Ext.refl _ _, hI⟩⟩
  | .rangeFunc .., _, st, K, r, h => by simp [aexec] at h
  | .scope _, _, st, K, r, h => by simp [aexec] at h
  | .goto _, _, st, K, r, h => by simp [aexec] at h
  | .refuse _, _, st, K, r, h => by simp [aexec] at h
end
end Go.Ab
