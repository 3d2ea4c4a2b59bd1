/- Code, loops: the abstract run is met by the real one. Functions and calls as a whole. What the printed functions are made of. Without fuel: what a call comes to at any depth of fuel, as one function; a function's run over it is met at some depth. strings.Builder's copyCheck and String: what they come to, over what the program's own functions are shown to do. Levels as trees, and how they are laid. What a context's tables must be: looked at by computation. Maps from strings to whole numbers: what a block of memory holds, told as a function; the laws at the operations. Levels under valuations, forms, and what one comparison of forms tells: no program in sight. -/
import Derived.Test.YtcpdcpgblcapeaaDoorAbDraw
import Derived.KernelRfl
import Derived.Maps.RangeWalk
import Derived.Maps.OwnSet
import Derived.Maps.OwnOps
import Derived.Maps.Ext
import Derived.StringKeys
import Derived.Below
import Derived.WalkArith
set_option linter.unusedSimpArgs false
set_option linter.unusedVariables false
set_option linter.deprecated false
section
namespace Go.Ab
section
variable {P : Program} {C : Ctx} {H : Hints} {call : CallF}

/-- How the code's end stands to the abstract one. -/
def EP (C : Ctx) (G : Gh) (w : World) (ex : Ex) (st : St) (e : Exit) (a' : Act) (w' : World) : Prop :=
  match ex with
  | .normal => e = .normal ∧ ∃ G' lam', Ext G w G' w' ∧ Inv C.glob G' lam' a' w' st
  | .exit i => e = .exit i ∧ ∃ G' lam', Ext G w G' w' ∧ Inv C.glob G' lam' a' w' st
  | .ret => e = .ret ∧ ∃ G' lam', Ext G w G' w' ∧ Inv C.glob G' lam' a' w' st
  | .pan v => ∃ c G', e = .panic [{ v := c, recovered := false }] ∧ Rel G' w' v c ∧ Ext G w G' w' ∧ SInv C.glob G' w' st.sto ∧ a'.defers = []

theorem EP.trans {G G1 : Gh} {w w1 : World} {ex : Ex} {st : St} {e : Exit} {a' : Act} {w' : World} (x : Ext G w G1 w1) (h : EP C G1 w1 ex st e a' w') : EP C G w ex st e a' w' := by
  cases ex with
  | pan v => obtain ⟨c, G', h1, h2, h3, h4, h5⟩ := h; exact ⟨c, G', h1, h2, x.trans h3, h4, h5⟩
  | normal => obtain ⟨h1, G', lam', h2, h3⟩ := h; exact ⟨h1, G', lam', x.trans h2, h3⟩
  | exit i => obtain ⟨h1, G', lam', h2, h3⟩ := h; exact ⟨h1, G', lam', x.trans h2, h3⟩
  | ret => obtain ⟨h1, G', lam', h2, h3⟩ := h; exact ⟨h1, G', lam', x.trans h2, h3⟩

def SoundC (P : Program) (C : Ctx) (c : Code) (st : St) (ex : Ex) (st' : St) : Prop := ∀ G lam a w, Inv C.glob G lam a w st → c.wp P (EP C G w ex st') a w

theorem keepRegs_get (keep : List Nat) : ∀ (l : List RV) (i r : Nat), (keepRegs keep i l)[r]? = (l[r]?).map fun x => if keep.contains (i + r) then x else .dead
  | [], _, _ => by simp [keepRegs]
  | x :: xs, i, r => by
    cases r with
    | zero => simp [keepRegs]
    | succ r => simp only [keepRegs, List.getElem?_cons_succ]; rw [keepRegs_get keep xs (i + 1) r]; simp [Nat.add_assoc, Nat.add_comm 1]

theorem keepLocs_get (keep : List Nat) : ∀ (l : List (List Cell)) (i r : Nat), (keepLocs keep i l)[r]? = (l[r]?).map fun x => if keep.contains (i + r) then x else []
  | [], _, _ => by simp [keepLocs]
  | x :: xs, i, r => by
    cases r with
    | zero => simp [keepLocs]
    | succ r => simp only [keepLocs, List.getElem?_cons_succ]; rw [keepLocs_get keep xs (i + 1) r]; simp [Nat.add_assoc, Nat.add_comm 1]

theorem keepRegs_length (keep : List Nat) : ∀ (l : List RV) (i : Nat), (keepRegs keep i l).length = l.length
  | [], _ => rfl
  | x :: xs, i => by simp [keepRegs, keepRegs_length keep xs]
theorem keepLocs_length (keep : List Nat) : ∀ (l : List (List Cell)) (i : Nat), (keepLocs keep i l).length = l.length
  | [], _ => rfl
  | x :: xs, i => by simp [keepLocs, keepLocs_length keep xs]

theorem Inv.kill {gl : Nat → Option (List V)} {G : Gh} {lam : Nat → Nat} {a : Act} {w : World} {st : St} (h : Inv gl G lam a w st) (keep : List Nat) : Inv gl G lam a w (st.kill keep) := by
  refine ⟨h.defers, by simp only [St.kill, keepRegs_length]; exact h.len, by simp only [St.kill, keepRegs_length, keepLocs_length]; exact h.lenl, fun r x hx => ?_, fun r cs hc hne => ?_, h.sto⟩
  · simp only [St.kill, keepRegs_get, Option.map_eq_some_iff] at hx
    obtain ⟨y, hy, rfl⟩ := hx
    split
    · exact h.regs r y hy
    · trivial
  · simp only [St.kill, keepLocs_get, Option.map_eq_some_iff] at hc
    obtain ⟨y, hy, rfl⟩ := hc
    split
    · rename_i hk
      rw [if_pos hk] at hne
      exact h.locs r y hy hne
    · rename_i hk
      rw [if_neg hk] at hne
      exact absurd rfl hne

/-- A loop of so many rounds at most. -/
theorem aloop_sound {c : Code} {body : St → (Ex → St → Option Res) → Option Res} (hb : ∀ st K r, body st K = some r → ∃ ex st', K ex st' = some r ∧ SoundC P C c st ex st') (keep : List Nat) :
    ∀ (n : Nat) (st : St) (K : Ex → St → Option Res) (r : Res), aloop body keep n st K = some r → ∃ ex st', K ex st' = some r ∧ ∀ G lam a w, Inv C.glob G lam a w st → ∀ (b : Frame) (k : List Item) (cs : List Frame),
      ∃ e a' w', EP C G w ex st' e a' w' ∧ Arrives P (lone (b.at a (.code c :: .inLoop c :: k)) cs w) b k cs e a' w'
  | 0, st, K, r, h => by simp [aloop] at h
  | n + 1, st, K, r, h => by
    simp only [aloop] at h
    obtain ⟨ex, st1, h1, h2⟩ := hb _ _ _ h
    cases ex with
    | normal =>
      simp only [kloop] at h1
      obtain ⟨ex2, st2, h3, h4⟩ := aloop_sound hb keep n _ K r h1
      refine ⟨ex2, st2, h3, fun G lam a w hI b k cs => ?_⟩
      obtain ⟨e, a1, w1, ⟨rfl, G1, lam1, x1, i1⟩, harr⟩ := h2 G lam a w hI b (.inLoop c :: k) cs
      obtain ⟨e2, a2, w2, q2, harr2⟩ := h4 G1 lam1 a1 w1 (i1.kill keep) b k cs
      exact ⟨e2, a2, w2, q2.trans x1, .of_steps (Steps.trans harr (.one step_inLoop)) harr2⟩
    | exit i =>
      refine ⟨_, st1, h1, fun G lam a w hI b k cs => ?_⟩
      obtain ⟨e, a1, w1, hq, harr⟩ := h2 G lam a w hI b (.inLoop c :: k) cs
      have he := hq.1
      exact ⟨e, a1, w1, hq, .pass (x := .inLoop c) rfl (fun _ _ => .inl (by rw [he]; simp)) harr⟩
    | ret =>
      refine ⟨_, st1, h1, fun G lam a w hI b k cs => ?_⟩
      obtain ⟨e, a1, w1, hq, harr⟩ := h2 G lam a w hI b (.inLoop c :: k) cs
      have he := hq.1
      exact ⟨e, a1, w1, hq, .pass (x := .inLoop c) rfl (fun _ _ => .inl (by rw [he]; simp)) harr⟩
    | pan v =>
      refine ⟨_, st1, h1, fun G lam a w hI b k cs => ?_⟩
      obtain ⟨e, a1, w1, hq, harr⟩ := h2 G lam a w hI b (.inLoop c :: k) cs
      obtain ⟨cc, G', he, _⟩ := id hq
      exact ⟨e, a1, w1, hq, .pass (x := .inLoop c) rfl (fun _ _ => .inl (by rw [he]; simp)) harr⟩

theorem aexec_sound (hC : CtxOk P C) (hcall : CallOk P C call) (n : Nat) : ∀ (c : Code) (id : Nat) (st : St) (K : Ex → St → Option Res) (r : Res), aexec C H call n c id st K = some r → ∃ ex st', K ex st' = some r ∧ SoundC P C c st ex st'
  | .skip, _, st, K, r, h => ⟨.normal, st, h, fun G lam a w hI => wp_skip ⟨rfl, G, lam, Ext.refl _ _, hI⟩⟩
  | .label l, _, st, K, r, h => ⟨.normal, st, h, fun G lam a w hI => wp_label ⟨rfl, G, lam, Ext.refl _ _, hI⟩⟩
  | .region id ops draw, _, st, K, r, h => by
    simp only [aexec] at h
    have fin : ∀ out, (match out with | .next st => K .normal st | .pan v st => K (.pan v) st) = some r → ∃ ex st', K ex st' = some r ∧ ∀ (G : Gh) (w : World) e a' w', OQ C G w out e a' w' → EP C G w ex st' e a' w' := by
      intro out h1
      cases out with
      | next st1 =>
        refine ⟨.normal, st1, h1, fun G w e a' w' hq => ?_⟩
        rcases hq with ⟨rfl, st', G', lam', hh, e2, e3⟩ | ⟨v, st', c, G', hh, _⟩
        · cases hh; exact ⟨rfl, G', lam', e2, e3⟩
        · cases hh
      | pan v st1 =>
        refine ⟨.pan v, st1, h1, fun G w e a' w' hq => ?_⟩
        rcases hq with ⟨rfl, st', G', lam', hh, e2, e3⟩ | ⟨v', st', c, G', hh, q1, q2, q3, q4, q5⟩
        · cases hh
        · cases hh; exact ⟨c, G', q1, q2, q3, q4, q5⟩
    cases draw with
    | true =>
      simp only [if_true] at h
      obtain ⟨u, hu, h⟩ := bind2 h
      obtain ⟨out, h1, h2⟩ := draw_sound hC hcall (grd_some hu) h
      obtain ⟨ex, st', h3, h4⟩ := fin out h1
      exact ⟨ex, st', h3, fun G lam a w hI => wp_mono (wp_region_any hC.mixed (h2 G lam a w hI)) fun e a' w' hq => h4 G w e a' w' hq⟩
    | false =>
      simp only [Bool.false_eq_true, if_false] at h
      obtain ⟨out, h1, h2⟩ := aops_sound hC hcall _ _ _ _ h
      obtain ⟨ex, st', h3, h4⟩ := fin out h1
      exact ⟨ex, st', h3, fun G lam a w hI => wp_mono (wp_region (h2 G lam a w hI)) fun e a' w' hq => h4 G w e a' w' hq⟩
  | .seq x y, id, st, K, r, h => by
    simp only [aexec] at h
    obtain ⟨ex, st1, h1, h2⟩ := aexec_sound hC hcall n x 0 st _ r h
    cases ex with
    | normal =>
      obtain ⟨ex2, st2, h3, h4⟩ := aexec_sound hC hcall n y 0 st1 K r h1
      refine ⟨ex2, st2, h3, fun G lam a w hI => wp_seq (wp_mono (h2 G lam a w hI) fun e a' w' hq => ?_)⟩
      obtain ⟨rfl, G', lam', e2, e3⟩ := hq
      exact wp_mono (h4 G' lam' a' w' e3) fun e a w hq => hq.trans e2
    | exit i =>
      refine ⟨_, st1, h1, fun G lam a w hI => wp_seq (wp_mono (h2 G lam a w hI) fun e a' w' hq => ?_)⟩
      obtain ⟨rfl, hh⟩ := hq; exact ⟨rfl, hh⟩
    | ret =>
      refine ⟨_, st1, h1, fun G lam a w hI => wp_seq (wp_mono (h2 G lam a w hI) fun e a' w' hq => ?_)⟩
      obtain ⟨rfl, hh⟩ := hq; exact ⟨rfl, hh⟩
    | pan v =>
      refine ⟨_, st1, h1, fun G lam a w hI => wp_seq (wp_mono (h2 G lam a w hI) fun e a' w' hq => ?_)⟩
      obtain ⟨c, G', rfl, hh⟩ := hq; exact ⟨c, G', rfl, hh⟩
  | .cond c x y, id, st, K, r, h => by
    simp only [aexec] at h
    split at h
    · rename_i r0
      split at h
      · rename_i v ow hv
        obtain ⟨b, hb, h⟩ := bind2 h
        have key : ∀ G lam a w, Inv C.glob G lam a w st → a.eval (.tmp r0) = .bool b := by
          intro G lam a w hI
          obtain ⟨q1, _, _⟩ := hI.open hv
          exact asBool_rel hb q1
        have hs := setReg_same hv hb
        cases b with
        | true =>
          simp only [cond_true, hs] at h
          obtain ⟨ex, st1, h1, h2⟩ := aexec_sound hC hcall n x 0 _ K r h
          exact ⟨ex, st1, h1, fun G lam a w hI => wp_cond_true (key G lam a w hI) (h2 G lam a w hI)⟩
        | false =>
          simp only [cond_false, hs] at h
          obtain ⟨ex, st1, h1, h2⟩ := aexec_sound hC hcall n y 0 _ K r h
          exact ⟨ex, st1, h1, fun G lam a w hI => wp_cond_false (key G lam a w hI) (h2 G lam a w hI)⟩
      · simp at h
    · rename_i b
      cases b with
      | true =>
        simp only [if_true] at h
        obtain ⟨ex, st1, h1, h2⟩ := aexec_sound hC hcall n x 0 _ K r h
        exact ⟨ex, st1, h1, fun G lam a w hI => wp_cond_true rfl (h2 G lam a w hI)⟩
      | false =>
        simp only [Bool.false_eq_true, if_false] at h
        obtain ⟨ex, st1, h1, h2⟩ := aexec_sound hC hcall n y 0 _ K r h
        exact ⟨ex, st1, h1, fun G lam a w hI => wp_cond_false rfl (h2 G lam a w hI)⟩
    · simp at h
  | .block i body, id, st, K, r, h => by
    simp only [aexec] at h
    obtain ⟨ex, st1, h1, h2⟩ := aexec_sound hC hcall n body i st _ r h
    cases ex with
    | normal =>
      refine ⟨_, st1, h1, fun G lam a w hI => wp_block (wp_mono (h2 G lam a w hI) fun e a' w' hq => ?_)⟩
      obtain ⟨rfl, hh⟩ := hq; exact ⟨rfl, hh⟩
    | exit j =>
      simp only [kblk] at h1
      by_cases hj : j = i
      · rw [if_pos hj] at h1
        refine ⟨_, st1, h1, fun G lam a w hI => wp_block (wp_mono (h2 G lam a w hI) fun e a' w' hq => ?_)⟩
        obtain ⟨rfl, hh⟩ := hq
        simp only [Exit.inBlock, if_pos hj]
        exact ⟨rfl, hh⟩
      · rw [if_neg hj] at h1
        refine ⟨_, st1, h1, fun G lam a w hI => wp_block (wp_mono (h2 G lam a w hI) fun e a' w' hq => ?_)⟩
        obtain ⟨rfl, hh⟩ := hq
        simp only [Exit.inBlock, if_neg hj]
        exact ⟨rfl, hh⟩
    | ret =>
      refine ⟨_, st1, h1, fun G lam a w hI => wp_block (wp_mono (h2 G lam a w hI) fun e a' w' hq => ?_)⟩
      obtain ⟨rfl, hh⟩ := hq; exact ⟨rfl, hh⟩
    | pan v =>
      refine ⟨_, st1, h1, fun G lam a w hI => wp_block (wp_mono (h2 G lam a w hI) fun e a' w' hq => ?_)⟩
      obtain ⟨c, G', rfl, hh⟩ := hq; exact ⟨c, G', rfl, hh⟩
  | .loop body, id, st, K, r, h => by
    simp only [aexec] at h
    obtain ⟨ex, st1, h1, h2⟩ := aloop_sound (c := body) (fun st K r hh => aexec_sound hC hcall n body 0 st K r hh) (H.keep id) n _ K r h
    refine ⟨ex, st1, h1, fun G lam a w hI => ?_⟩
    intro b k cs
    obtain ⟨e, a', w', q1, q2⟩ := h2 G lam a w (hI.kill _) b k cs
    exact ⟨e, a', w', q1, .of_steps (.one step_loop) q2⟩
  | .exit i, _, st, K, r, h => ⟨.exit i, st, h, fun G lam a w hI => wp_exit ⟨rfl, G, lam, Ext.refl _ _, hI⟩⟩
  | .ret, _, st, K, r, h => ⟨.ret, st, h, fun G lam a w hI => wp_ret ⟨rfl, G, lam, Ext.refl _ _, hI⟩⟩
  | .rangeFunc .., _, st, K, r, h => by simp [aexec] at h
  | .scope _, _, st, K, r, h => by simp [aexec] at h
  | .goto _, _, st, K, r, h => by simp [aexec] at h
  | .refuse _, _, st, K, r, h => by simp [aexec] at h
end
end Go.Ab
end
section
namespace Go.Ab
section
variable {P : Program} {C : Ctx} {H : Hints} {call : CallF}

/-- The results, read one by one: each token goes to the result's place. -/
theorem resCells_sound (hC : CtxOk P C) : ∀ (rs : List ResultVar) (k : Nat) (st : St) (vs : List Cell) (G : Gh) (lam : Nat → Nat) (a : Act) (w : World), resCells C st rs = some vs → Inv C.glob G lam a w st →
    ∃ (G' : Gh) (cs : List Value), (rs.mapM (fun (r : ResultVar) => match r with | .tmp t => (pure (a.tmps.getD t undef) : Sem Value) | .cell ad t => do loadVar t (← asAddr (a.tmps.getD ad undef)))).run P w = .ok cs w ∧ cs.length = vs.length ∧ Ext G w G' w ∧ SInv C.glob G' w st.sto ∧ G'.N = G.N ∧
      (∀ i p, G'.owner i = some p → G.owner i = some p ∨ ∃ j, k ≤ j ∧ p = .res j) ∧ (∀ i j, G.owner i = some (.res j) → j < k → G'.owner i = some (.res j) ∧ G'.lim i = G.lim i) ∧
      ∀ (i : Nat) c x, vs[i]? = some c → cs[i]? = some x → CRel G' w (.res (k + i)) c x
  | [], k, st, vs, G, lam, a, w, h, hI => by
    simp [resCells] at h
    subst h
    exact ⟨G, [], by simp, rfl, Ext.refl _ _, hI.sto, rfl, fun i p hp => .inl hp, fun i j hj _ => ⟨hj, rfl⟩, by simp⟩
  | .tmp t :: rest, k, st, vs, G, lam, a, w, h, hI => by
    simp only [resCells] at h
    split at h
    · rename_i v ow hv
      obtain ⟨vs', h1, h2⟩ := bind2 h
      obtain rfl := Option.some.inj h2
      have hr := eval_reg hI t
      rw [hv] at hr
      have hcl := hI.clear [t]
      -- the token goes to the result's place
      have tok : ∃ G1, Ext G w G1 w ∧ Inv C.glob G1 lam a w (st.clear [t]) ∧ G1.N = G.N ∧ CRel G1 w (.res k) (v, ow) (a.tmps.getD t undef) ∧
          (∀ i p, G1.owner i = some p → G.owner i = some p ∨ p = .res k) ∧ (∀ i j, G.owner i = some (.res j) → j < k → G1.owner i = some (.res j) ∧ G1.lim i = G.lim i) := by
        cases ow with
        | false => exact ⟨G, Ext.refl _ _, hcl, rfl, ⟨hr.1, fun ho => by simp at ho⟩, fun i p hp => .inl hp, fun i j hj _ => ⟨hj, rfl⟩⟩
        | true =>
          have ho := hr.2 rfl
          have hnf := clear_not_flagged (st := st) [t] t (by simp)
          by_cases hd : ∃ (kk : Nat) (et : TypeId) (es : List (List V)) (ad : Addr) (n cap : Nat), v = V.slice kk et es ∧ a.eval (.tmp t) = .slice (some ad) n cap
          · obtain ⟨kk, et, es, ad, n, cap, rfl, hev⟩ := hd
            rw [hev] at ho
            obtain ⟨q1, q2, q3, q4, q5⟩ := ho
            · let G1 : Gh := { G with owner := upd G.owner ad.block (some (.res k)) }
              have hE : Ext G w G1 w := ⟨Nat.le_refl _, fun _ _ => rfl, fun _ _ => rfl, fun _ => Nat.le_refl _, fun _ _ _ => rfl, rfl, rfl, rfl, Nat.le_refl _, fun i _ hi => ⟨rfl, rfl, by
                show upd G.owner ad.block _ i = none
                rw [upd_other]
                · exact hi
                · rintro rfl; rw [q3] at hi; simp at hi⟩⟩
              refine ⟨G1, hE, ?_, rfl, ⟨rel_owner hr.1 _, fun _ => ?_⟩, fun i p hp => ?_, fun i j hj hjk => ⟨?_, rfl⟩⟩
              · refine hcl.move hE ⟨fun i p hp hf => ⟨rfl, rfl, ?_⟩⟩ (fun i hi => ⟨(hI.sto.wf i hi).1, ?_⟩) rfl
                · show upd G.owner ad.block _ i = some p
                  rw [upd_other]
                  · exact hp
                  · rintro rfl
                    rw [q3] at hp
                    obtain rfl := Option.some.inj hp
                    rcases hf with hf | ⟨r, hr⟩ | ⟨b, hb⟩
                    · exact hnf hf
                    · simp at hr
                    · simp at hb
                · show upd G.owner ad.block _ i = none
                  rw [upd_other]
                  · exact (hI.sto.wf i hi).2
                  · rintro rfl; rw [(hI.sto.wf _ hi).2] at q3; simp at q3
              · have hev' : a.tmps.getD t undef = .slice (some ad) n cap := hev
                rw [hev']
                exact ⟨q1, q2, by show upd G.owner _ _ _ = _; simp, q4, q5⟩
              · have hp' : upd G.owner ad.block (some (.res k)) i = some p := hp
                by_cases hi : i = ad.block
                · subst hi; simp at hp'; exact .inr hp'.symm
                · rw [upd_other _ _ hi] at hp'; exact .inl hp'
              · show upd G.owner ad.block _ i = _
                rw [upd_other]
                · exact hj
                · rintro rfl; rw [q3] at hj; simp at hj
          · refine ⟨G, Ext.refl _ _, hcl, rfl, ⟨hr.1, fun _ => ?_⟩, fun i p hp => .inl hp, fun i j hj _ => ⟨hj, rfl⟩⟩
            have hev' : a.tmps.getD t undef = a.eval (.tmp t) := rfl
            rw [hev']
            unfold Own at ho ⊢
            split at ho
            · rename_i kk et es ad n cap hvv heq
              exact absurd ⟨kk, et, es, ad, n, cap, hvv, heq⟩ hd
            · exact ho
            · trivial
      obtain ⟨G1, t1, t2, t3, t4, t5, t6⟩ := tok
      obtain ⟨G', cs, e1, e2, e3, e4, e5, e6, e7, e8⟩ := resCells_sound hC rest (k + 1) _ vs' G1 lam a w h1 t2
      refine ⟨G', a.tmps.getD t undef :: cs, ?_, by simp [e2], t1.trans e3, e4, e5.trans t3, fun i p hp => ?_, fun i j hj hjk => ?_, fun i c x hc hx => ?_⟩
      · simp only [List.mapM_cons, Sem.run_bind, Sem.run_pure, Result.andThen_ok]
        rw [e1]
        rfl
      · rcases e6 i p hp with hh | ⟨j, hj, rfl⟩
        · rcases t5 i p hh with hh | rfl
          · exact .inl hh
          · exact .inr ⟨k, Nat.le_refl _, rfl⟩
        · exact .inr ⟨j, by omega, rfl⟩
      · obtain ⟨u1, u2⟩ := t6 i j hj hjk
        obtain ⟨u3, u4⟩ := e7 i j u1 (by omega)
        exact ⟨u3, u4.trans u2⟩
      · cases i with
        | zero =>
          simp at hc hx
          subst hc; subst hx
          have := t4.move e3 fun _ i hi => ⟨rfl, (e7 i k hi (by omega)).2, (e7 i k hi (by omega)).1⟩
          simpa using this
        | succ i =>
          simp at hc hx
          have := e8 i c x hc hx
          rw [show k + 1 + i = k + (i + 1) by omega] at this
          exact this
    · simp at h
  | .cell ad t :: rest, k, st, vs, G, lam, a, w, h, hI => by
    simp only [resCells] at h
    obtain ⟨i, hi, h⟩ := bind2 h
    have hT := hC.T t i hi
    have fin : ∀ v vs', resCells C st rest = some vs' → vs = (v, false) :: vs' → ∀ b o x, a.tmps.getD ad undef = .pointer (some ⟨b, o, none⟩) → (loadVar t ⟨b, o, none⟩).run P w = .ok x w → Rel G w v x →
        ∃ (G' : Gh) (cs : List Value), ((ResultVar.cell ad t :: rest).mapM (fun (r : ResultVar) => match r with | .tmp t => (pure (a.tmps.getD t undef) : Sem Value) | .cell ad t => do loadVar t (← asAddr (a.tmps.getD ad undef)))).run P w = .ok cs w ∧ cs.length = vs.length ∧ Ext G w G' w ∧ SInv C.glob G' w st.sto ∧ G'.N = G.N ∧
        (∀ i p, G'.owner i = some p → G.owner i = some p ∨ ∃ j, k ≤ j ∧ p = .res j) ∧ (∀ i j, G.owner i = some (.res j) → j < k → G'.owner i = some (.res j) ∧ G'.lim i = G.lim i) ∧
        ∀ (i : Nat) c x, vs[i]? = some c → cs[i]? = some x → CRel G' w (.res (k + i)) c x := by
      intro v vs' h1 hvs b o x hp hrun hrel
      obtain ⟨G', cs, e1, e2, e3, e4, e5, e6, e7, e8⟩ := resCells_sound hC rest (k + 1) _ vs' G lam a w h1 hI
      subst hvs
      refine ⟨G', x :: cs, ?_, by simp [e2], e3, e4, e5, fun i p hp => ?_, fun i j hj hjk => e7 i j hj (by omega), fun i c y hc hy => ?_⟩
      · have hl : ((match (ResultVar.cell ad t) with | .tmp t => (pure (a.tmps.getD t undef) : Sem Value) | .cell ad t => do loadVar t (← asAddr (a.tmps.getD ad undef)))).run P w = .ok x w := by
          simp only [Sem.run_bind, hp, asAddr, Sem.run_pure, Result.andThen_ok, hrun]
        rw [List.mapM_cons, Sem.run_bind, hl, Result.andThen_ok, Sem.run_bind, e1]
        rfl
      · rcases e6 i p hp with hh | ⟨j, hj, rfl⟩
        · exact .inl hh
        · exact .inr ⟨j, by omega, rfl⟩
      · cases i with
        | zero =>
          simp at hc hy
          subst hc; subst hy
          exact ⟨hrel.mono e3, fun ho => by simp at ho⟩
        | succ i =>
          simp at hc hy
          have := e8 i c y hc hy
          rw [show k + 1 + i = k + (i + 1) by omega] at this
          exact this
    split at h
    · rename_i r o hr
      obtain ⟨v, hv, h1⟩ := bind2 h
      obtain ⟨vs', h2, h3⟩ := bind2 h1
      have hp := eval_reg hI ad
      rw [hr] at hp
      obtain ⟨x, e1, e2⟩ := gather_rel (P := P) hT (locs_ok hI r) hv
      exact fin v vs' h2 (Option.some.inj h3).symm _ _ x hp e1 e2
    · rename_i p ow hr
      obtain ⟨v, hv, h1⟩ := bind2 h
      obtain ⟨vs', h2, h3⟩ := bind2 h1
      have hp := eval_reg hI ad
      rw [hr] at hp
      obtain ⟨x, e1, e2⟩ := memGet_run hC hI hi hp.1 hv
      have hpt : ∃ b o, a.tmps.getD ad undef = .pointer (some ⟨b, o, none⟩) := by
        have hp1 := hp.1
        have hev : a.eval (.tmp ad) = a.tmps.getD ad undef := rfl
        rw [hev] at hp1
        cases p with
        | ptr tt b o => generalize a.tmps.getD ad undef = q at hp1; cases hp1; exact ⟨_, _, rfl⟩
        | eptr kk e o => generalize a.tmps.getD ad undef = q at hp1; cases hp1; exact ⟨_, _, rfl⟩
        | _ => simp [memGet] at hv
      obtain ⟨b, o, hb⟩ := hpt
      have hev : a.eval (.tmp ad) = .pointer (some ⟨b, o, none⟩) := hb
      rw [hev] at e1
      simp only [Instr.loadAt, Instr.sureAddr, Sem.run_bind, Sem.run_pure, Result.andThen_ok] at e1
      exact fin v vs' h2 (Option.some.inj h3).symm b o x hb e1 e2
    · simp at h

theorem afun_sound (hC : CtxOk P C) (hcall : CallOk P C call) {f : FuncId} {d : FDef} (hf : P.funcs[f]? = some d.fn) (hbody : d.fn.body = some d.code) {n : Nat} {args : List Cell} {σ : Sto} {r : Res} (h : afun C d call n args σ = some r)
    (G : Gh) (w : World) (vals : List Value) (hS : SInv C.glob G w σ) (hcl : Clean G args.length) (hlen : vals.length = args.length) (hv : ∀ (i : Nat) c x, args[i]? = some c → vals[i]? = some x → CRel G w (.reg i) c x) :
    Calls P f vals.toArray w fun en w' => ∃ G', Ext G w G' w' ∧ SInv C.glob G' w' r.2 ∧ EndRel G' w' r.1 en := by
  simp only [afun] at h
  split at h
  · rename_i hle
    obtain ⟨ex, st, h1, h2⟩ := aexec_sound hC hcall n d.code 0 _ _ r h
    refine calls_of_wp hf hbody ?_
    let a0 : Act := { tmps := vals.toArray ++ Array.replicate (d.fn.ntmps - vals.toArray.size) undef, defers := [] }
    have hI : Inv C.glob G (fun _ => 0) a0 w { regs := args.map (fun c => RV.val c.1 c.2) ++ List.replicate (d.fn.ntmps - args.length) .dead, locs := List.replicate d.fn.ntmps [], sto := σ } := by
      refine ⟨rfl, by simp [a0, hlen], by simp; omega, fun i x hx => ?_, fun i cs hc hne => ?_, hS⟩
      · by_cases hi : i < args.length
        · rw [List.getElem?_append_left (by simpa using hi), List.getElem?_map, Option.map_eq_some_iff] at hx
          obtain ⟨c, hc, rfl⟩ := hx
          have hi' : i < vals.length := by omega
          have := hv i c vals[i] hc (List.getElem?_eq_getElem hi')
          have hg : a0.tmps.getD i undef = vals[i] := by
            simp only [a0, Array.getD_eq_getD_getElem?]
            rw [Array.getElem?_append_left (by simpa using hi')]
            simp [hi']
          rw [hg]
          exact this
        · rw [List.getElem?_append_right (by simp; omega)] at hx
          obtain ⟨_, hx⟩ := List.getElem?_eq_some_iff.1 hx
          simp at hx
          subst hx
          trivial
      · obtain ⟨_, hc⟩ := List.getElem?_eq_some_iff.1 hc
        simp at hc
        exact absurd hc hne
    have hw := h2 G _ a0 w hI
    refine wp_mono hw fun e a' w' hq => ?_
    have finish : (e = .normal ∨ e = .ret) → (∃ vs, resCells C st d.fn.results.toList = some vs ∧ r = (.ret vs, st.sto)) → (∃ G' lam', Ext G w G' w' ∧ Inv C.glob G' lam' a' w' st) → bodyPost P d.fn (fun en w' => ∃ G', Ext G w G' w' ∧ SInv C.glob G' w' r.2 ∧ EndRel G' w' r.1 en) e a' w' := by
      rintro he ⟨vs, hvs, rfl⟩ ⟨G1, lam1, x1, i1⟩
      obtain ⟨G', cs, e1, e2, e3, e4, e5, e6, e7, e8⟩ := resCells_sound hC d.fn.results.toList 0 st vs G1 lam1 a' w' hvs i1
      have hres : (results d.fn a'.tmps).run P w' = .ok (if h : cs.toArray.size = 1 then cs.toArray[0] else .tuple cs.toArray) w' := by
        unfold results
        rw [Sem.run_bind, Array.mapM_eq_mapM_toList]
        simp only [Sem.run_map]
        exact congrArg (fun z : Result (List Value) => (z.andThen fun a w' => Result.ok a.toArray w').andThen fun a w' => Sem.run P (pure (if h : a.size = 1 then a[0] else Value.tuple a)) w') e1
      have hpost : a'.defers = [] ∧ ∃ v, (results d.fn a'.tmps).run P w' = .ok v w' ∧ ∃ G', Ext G w G' w' ∧ SInv C.glob G' w' st.sto ∧ EndRel G' w' (.ret vs) (.returned v) := by
        refine ⟨i1.defers, _, hres, ?_⟩
        -- what is kept: the store's and the results' holdings
        let G2 : Gh := { G' with owner := fun i => match G'.owner i with | some (.blk b) => some (.blk b) | some (.gc b j) => some (.gc b j) | some (.res j) => some (.res j) | _ => none }
        have hE : Ext G' w' G2 w' := ⟨Nat.le_refl _, fun _ _ => rfl, fun _ _ => rfl, fun _ => Nat.le_refl _, fun _ _ _ => rfl, rfl, rfl, rfl, Nat.le_refl _, fun i _ hi => ⟨rfl, rfl, by simp [G2, hi]⟩⟩
        refine ⟨G2, (x1.trans e3).trans hE, ⟨fun i hi => ⟨(e4.wf i hi).1, by simp [G2, (e4.wf i hi).2]⟩, fun g cs hg => (e4.glob g cs hg).mono hE, e4.N, e4.typed, fun b cs hb => ?_⟩, cs, e2, rfl, fun i c x hc hx => ?_⟩
        · obtain ⟨cv, el, g1, g2, g3, g4, g5⟩ := e4.blk b cs hb
          refine ⟨cv, el, g1, g2, ?_, g4, fun j c x hc hx => ⟨(g5 j c x hc hx).1.move hE fun _ i hi => ⟨rfl, rfl, by simp [G2, hi]⟩, (g5 j c x hc hx).2⟩⟩
          show (match G'.owner (G'.μ b) with | some (Place.blk b) => some (Place.blk b) | some (Place.gc b j) => some (Place.gc b j) | some (Place.res j) => some (Place.res j) | _ => none) = some (Place.blk b)
          rw [g3]
        · have := e8 i c x hc hx
          rw [Nat.zero_add] at this
          exact this.move hE fun _ i hi => ⟨rfl, rfl, by simp [G2, hi]⟩
      rcases he with rfl | rfl <;> exact hpost
    cases ex with
    | normal =>
      obtain ⟨rfl, hh⟩ := hq
      simp only [kfin] at h1
      obtain ⟨vs, hvs, h1⟩ := bind2 h1
      exact finish (.inl rfl) ⟨vs, hvs, (Option.some.inj h1).symm⟩ hh
    | ret =>
      obtain ⟨rfl, hh⟩ := hq
      simp only [kfin] at h1
      obtain ⟨vs, hvs, h1⟩ := bind2 h1
      exact finish (.inr rfl) ⟨vs, hvs, (Option.some.inj h1).symm⟩ hh
    | pan v =>
      obtain ⟨c, G', rfl, q1, q2, q3, q4⟩ := hq
      simp only [kfin] at h1
      obtain rfl := Option.some.inj h1
      exact ⟨q4, G', q2, q3, c, rfl, q1⟩
    | exit i => simp [kfin] at h1
  · simp at h

/-- The contracts that are proved by hand. -/
def ExtOk (P : Program) (C : Ctx) : Prop := ∀ f s, C.ext f = some s → CallOk P C (fun g args σ => if g = f then s args σ else none)

theorem mask_length (own : List Nat) : ∀ (i : Nat) (cs : List Cell), (maskArgs own i cs).length = cs.length
  | _, [] => rfl
  | i, c :: cs => by simp [maskArgs, mask_length own (i + 1) cs]
theorem mask_get (own : List Nat) : ∀ (i : Nat) (cs : List Cell) (j : Nat) (c : Cell), (maskArgs own i cs)[j]? = some c → ∃ b, cs[j]? = some b ∧ c.1 = b.1 ∧ (c.2 = true → b.2 = true)
  | i, [], j, c, h => by simp [maskArgs] at h
  | i, b :: cs, 0, c, h => by
    simp only [maskArgs, List.getElem?_cons_zero, Option.some.injEq] at h
    subst h
    exact ⟨b, rfl, rfl, fun h => by simp at h; exact h.2⟩
  | i, b :: cs, j + 1, c, h => by
    simp only [maskArgs, List.getElem?_cons_succ] at h
    simpa using mask_get own (i + 1) cs j c h

theorem acall_sound (hC : CtxOk P C) (hX : ExtOk P C) : ∀ n, CallOk P C (acall C n)
  | 0 => fun f args σ r h => by simp [acall] at h
  | n + 1 => fun f args σ r h => by
    simp only [acall] at h
    split at h
    · rename_i s hs
      have := hX f s hs f args σ r (by simp [h])
      exact this
    · split at h
      · rename_i d hd
        obtain ⟨h1, h2, h3⟩ := hC.fdef f d hd
        exact ⟨h3, fun G w vals hS hcl hl hv => afun_sound hC (acall_sound hC hX n) h1 h2 h G w vals hS (by rw [mask_length]; exact hcl) (by rw [mask_length]; exact hl) fun i c x hc hx => by
          obtain ⟨b, e1, e2, e3⟩ := mask_get _ _ _ _ _ hc
          have := hv i b x e1 hx
          exact ⟨by rw [e2]; exact this.1, fun ho => by rw [e2]; exact this.2 (e3 ho)⟩⟩
      · simp at h
end
end Go.Ab
end
section
namespace Go.Ab

def codeL : Code → Code
  | .seq a _ => a
  | .cond _ a _ => a
  | .block _ b => b
  | .loop b => b
  | c => c
def codeR : Code → Code
  | .seq _ b => b
  | .cond _ _ b => b
  | c => c

/-- A call, and what goes on behind it. -/
def callK (call : CallF) (f : FuncId) (args : List Cell) (σ : Sto) (n : Nat) (K : List Cell → Sto → Option Res) (KP : V → Sto → Option Res) : Option Res :=
  match call f args σ with
  | none => none
  | some r => match r.1 with
    | .ret vs => if vs.length = n then K vs r.2 else none
    | .pan v => KP v r.2

theorem callK_ret {call : CallF} {f : FuncId} {args : List Cell} {σ σ' : Sto} {n : Nat} {K : List Cell → Sto → Option Res} {KP : V → Sto → Option Res} {vs : List Cell} (h : call f args σ = some (.ret vs, σ')) (hn : vs.length = n) :
    callK call f args σ n K KP = K vs σ' := by simp [callK, h, hn]
theorem callK_pan {call : CallF} {f : FuncId} {args : List Cell} {σ σ' : Sto} {n : Nat} {K : List Cell → Sto → Option Res} {KP : V → Sto → Option Res} {v : V} (h : call f args σ = some (.pan v, σ')) :
    callK call f args σ n K KP = KP v σ' := by simp [callK, h]

/-- A table of types. -/
def look : List (TypeId × TI) → TypeId → Option TI
  | [], _ => none
  | (t, i) :: rest, u => bif Nat.beq t u then some i else look rest u
end Go.Ab
end
section
namespace Go.Ab

/-- What the limit says, the family says from some place on. -/
def Conv {α : Type} (x : Nat → Option α) (l : Option α) : Prop := ∀ r, l = some r → ∃ k, ∀ j, k ≤ j → x j = some r

theorem Conv.none {α : Type} (x : Nat → Option α) : Conv x none := fun r h => by simp at h
theorem Conv.const {α : Type} (l : Option α) : Conv (fun _ => l) l := fun r h => ⟨0, fun _ _ => h⟩
theorem Conv.bindC {α β : Type} (o : Option α) {g : Nat → α → Option β} {f : α → Option β} (h : ∀ a, Conv (fun k => g k a) (f a)) : Conv (fun k => o.bind (g k)) (o.bind f) := by
  cases o with
  | none => exact Conv.none _
  | some a => exact h a
theorem Conv.bind {α β : Type} {o : Nat → Option α} {ol : Option α} {g : Nat → α → Option β} {f : α → Option β} (ho : Conv o ol) (h : ∀ a, Conv (fun k => g k a) (f a)) : Conv (fun k => (o k).bind (g k)) (ol.bind f) := by
  intro r hr
  cases hol : ol with
  | none => simp [hol] at hr
  | some a =>
    rw [hol] at hr
    obtain ⟨k1, h1⟩ := ho a hol
    obtain ⟨k2, h2⟩ := h a r hr
    exact ⟨max k1 k2, fun j hj => by show (o j).bind (g j) = _; rw [h1 j (by omega)]; exact h2 j (by omega)⟩
theorem Conv.ite {α : Type} (p : Prop) [Decidable p] {a b : Nat → Option α} {al bl : Option α} (ha : Conv a al) (hb : Conv b bl) : Conv (fun k => if p then a k else b k) (if p then al else bl) := by
  by_cases hp : p
  · simp only [if_pos hp]; exact ha
  · simp only [if_neg hp]; exact hb
theorem Conv.cond {α : Type} (p : Bool) {a b : Nat → Option α} {al bl : Option α} (ha : Conv a al) (hb : Conv b bl) : Conv (fun k => bif p then a k else b k) (bif p then al else bl) := by
  cases p
  · exact hb
  · exact ha

section
variable {C : Ctx} {H : Hints} {ck : Nat → CallF} {cl : CallF}

theorem apply_conv (hc : ∀ f a σ, Conv (fun k => ck k f a σ) (cl f a σ)) (dst : Option Nat) (st : St) {Ks : Nat → Out → Option Res} {Kl : Out → Option Res} (hK : ∀ o, Conv (fun k => Ks k o) (Kl o)) (e : Eff) :
    Conv (fun k => apply H (ck k) dst st (Ks k) e) (apply H cl dst st Kl e) := by
  cases e with
  | val x => exact hK _
  | getL r o n agg steal =>
    simp only [apply]
    refine Conv.ite _ ?_ ?_
    · exact Conv.ite _ (Conv.ite _ (hK _) (Conv.none _)) (Conv.none _)
    · exact Conv.bindC _ fun v => hK _
  | setL r o cs => exact Conv.ite _ (hK _) (Conv.none _)
  | newL cs =>
    cases dst with
    | none => exact Conv.none _
    | some d => exact Conv.ite _ (hK _) (Conv.none _)
  | getS p n agg => exact Conv.bindC _ fun v => hK _
  | takeS p => exact Conv.bindC _ fun v => hK _
  | setS p cs => exact Conv.bindC _ fun v => hK _
  | newS t cs =>
    cases dst with
    | none => exact Conv.none _
    | some d => exact hK _
  | tupTake r i =>
    simp only [apply]
    split
    · split
      · exact hK _
      · exact Conv.none _
    · exact Conv.none _
  | call f args n =>
    intro r hr
    simp only [apply] at hr ⊢
    split at hr
    · simp at hr
    · rename_i r1 hr1
      obtain ⟨k1, h1⟩ := hc f args st.sto r1 hr1
      have hrest : Conv (fun k => match r1.1 with
          | .ret vs => if vs.length = n then (grd (toksOk H dst n vs)).bind fun _ => Ks k (.next ({ st with sto := r1.2 }.put dst (resV H dst n vs))) else none
          | .pan v => Ks k (.pan v { st with sto := r1.2 })) (match r1.1 with
          | .ret vs => if vs.length = n then (grd (toksOk H dst n vs)).bind fun _ => Kl (.next ({ st with sto := r1.2 }.put dst (resV H dst n vs))) else none
          | .pan v => Kl (.pan v { st with sto := r1.2 })) := by
        split
        · exact Conv.ite _ (Conv.bindC _ fun _ => hK _) (Conv.none _)
        · exact hK _
      obtain ⟨k2, h2⟩ := hrest r hr
      refine ⟨max k1 k2, fun j hj => ?_⟩
      have h3 : ck j f args st.sto = some r1 := h1 j (by omega)
      rw [h3]
      exact h2 j (by omega)
  | pan v => exact hK _

theorem aop_conv (hc : ∀ f a σ, Conv (fun k => ck k f a σ) (cl f a σ)) (o : Oper) (st : St) {Ks : Nat → Out → Option Res} {Kl : Out → Option Res} (hK : ∀ o, Conv (fun k => Ks k o) (Kl o)) :
    Conv (fun k => aop C H (ck k) o st (Ks k)) (aop C H cl o st Kl) := by
  simp only [aop, actK_eq]
  exact Conv.bindC _ fun e => apply_conv hc _ _ hK e

theorem aops_conv (hc : ∀ f a σ, Conv (fun k => ck k f a σ) (cl f a σ)) (dr : Option (List (List Nat))) (ops : Array Oper) :
    ∀ (l : List Nat) (st : St) {Ks : Nat → Out → Option Res} {Kl : Out → Option Res} (_ : ∀ o, Conv (fun k => Ks k o) (Kl o)), Conv (fun k => aops C H (ck k) dr ops l st (Ks k)) (aops C H cl dr ops l st Kl)
  | [], st, Ks, Kl, hK => hK _
  | i :: rest, st, Ks, Kl, hK => by
    have step : ∀ (o : Oper) (st : St), Conv (fun k => aop C H (ck k) o st fun out => match out with | .next st => aops C H (ck k) dr ops rest st (Ks k) | .pan v st => (grd (panOk dr i rest)).bind fun _ => Ks k (.pan v st))
        (aop C H cl o st fun out => match out with | .next st => aops C H cl dr ops rest st Kl | .pan v st => (grd (panOk dr i rest)).bind fun _ => Kl (.pan v st)) := by
      intro o st
      refine aop_conv hc o st fun out => ?_
      cases out with
      | next st => exact aops_conv hc dr ops rest st hK
      | pan v st => exact Conv.bindC _ fun _ => hK _
    simp only [aops]
    split
    · exact Conv.none _
    · refine Conv.bindC _ fun _ => ?_
      split
      · exact step _ _
      · split
        · exact Conv.none _
        · split
          · refine Conv.bindC _ fun b => Conv.cond _ ?_ ?_
            · exact Conv.ite _ (step _ _) (aops_conv hc dr ops rest _ hK)
            · exact Conv.ite _ (aops_conv hc dr ops rest _ hK) (step _ _)
          · exact aops_conv hc dr ops rest _ hK
          · exact Conv.none _

theorem aloop_conv {body : Nat → St → (Ex → St → Option Res) → Option Res} {bodyl : St → (Ex → St → Option Res) → Option Res} (keep : List Nat)
    (hb : ∀ st (Ks : Nat → Ex → St → Option Res) (Kl : Ex → St → Option Res), (∀ ex st, Conv (fun k => Ks k ex st) (Kl ex st)) → Conv (fun k => body k st (Ks k)) (bodyl st Kl)) :
    ∀ (n : Nat) (ns : Nat → Nat) (_ : ∃ k0, ∀ k, k0 ≤ k → n ≤ ns k) (st : St) (Ks : Nat → Ex → St → Option Res) (Kl : Ex → St → Option Res), (∀ ex st, Conv (fun k => Ks k ex st) (Kl ex st)) →
      Conv (fun k => aloop (body k) keep (ns k) st (Ks k)) (aloop bodyl keep n st Kl)
  | 0, ns, hn, st, Ks, Kl, hK => Conv.none _
  | n + 1, ns, ⟨k0, hn⟩, st, Ks, Kl, hK => by
    have key : Conv (fun k => body k st (kloop keep (fun st' => aloop (body k) keep (ns k - 1) st' (Ks k)) (Ks k))) (bodyl st (kloop keep (fun st' => aloop bodyl keep n st' Kl) Kl)) := by
      refine hb st (fun k => kloop keep (fun st' => aloop (body k) keep (ns k - 1) st' (Ks k)) (Ks k)) _ fun ex st' => ?_
      cases ex with
      | normal => exact aloop_conv keep hb n (fun k => ns k - 1) ⟨k0, fun k hk => by have := hn k hk; omega⟩ _ Ks Kl hK
      | exit i => exact hK _ _
      | ret => exact hK _ _
      | pan v => exact hK _ _
    intro r hr
    obtain ⟨k1, h1⟩ := key r hr
    refine ⟨max k0 k1, fun j hj => ?_⟩
    have h2 := hn j (by omega)
    obtain ⟨m, hm⟩ : ∃ m, ns j = m + 1 := ⟨ns j - 1, by omega⟩
    have h3 : body j st (kloop keep (fun st' => aloop (body j) keep (ns j - 1) st' (Ks j)) (Ks j)) = some r := h1 j (by omega)
    show aloop (body j) keep (ns j) st (Ks j) = some r
    rw [hm] at h3 ⊢
    exact h3

theorem aexec_conv (hc : ∀ f a σ, Conv (fun k => ck k f a σ) (cl f a σ)) {n : Nat} {ns : Nat → Nat} (hn : ∃ k0, ∀ k, k0 ≤ k → n ≤ ns k) :
    ∀ (c : Code) (id : Nat) (st : St) (Ks : Nat → Ex → St → Option Res) (Kl : Ex → St → Option Res), (∀ ex st, Conv (fun k => Ks k ex st) (Kl ex st)) →
      Conv (fun k => aexec C H (ck k) (ns k) c id st (Ks k)) (aexec C H cl n c id st Kl)
  | .skip, _, st, Ks, Kl, hK => hK _ _
  | .label l, _, st, Ks, Kl, hK => hK _ _
  | .region id ops draw, _, st, Ks, Kl, hK => by
    have fin : ∀ out, Conv (fun k => match out with | Out.next st => Ks k .normal st | .pan v st => Ks k (.pan v) st) (match out with | .next st => Kl .normal st | .pan v st => Kl (.pan v) st) := by
      intro out
      cases out <;> exact hK _ _
    simp only [aexec]
    refine Conv.ite _ ?_ ?_
    · exact Conv.bindC _ fun _ => aops_conv hc _ _ _ _ fin
    · exact aops_conv hc _ _ _ _ fin
  | .seq x y, id, st, Ks, Kl, hK => by
    simp only [aexec]
    refine aexec_conv hc hn x 0 st (fun k => kseq (fun st' => aexec C H (ck k) (ns k) y 0 st' (Ks k)) (Ks k)) _ fun ex st' => ?_
    cases ex with
    | normal => exact aexec_conv hc hn y 0 st' Ks Kl hK
    | exit i => exact hK _ _
    | ret => exact hK _ _
    | pan v => exact hK _ _
  | .cond c x y, id, st, Ks, Kl, hK => by
    simp only [aexec]
    split
    · split
      · exact Conv.bindC _ fun b => Conv.cond _ (aexec_conv hc hn x 0 _ Ks Kl hK) (aexec_conv hc hn y 0 _ Ks Kl hK)
      · exact Conv.none _
    · exact Conv.ite _ (aexec_conv hc hn x 0 _ Ks Kl hK) (aexec_conv hc hn y 0 _ Ks Kl hK)
    · exact Conv.none _
  | .block i body, id, st, Ks, Kl, hK => by
    simp only [aexec]
    refine aexec_conv hc hn body i st (fun k => kblk i (Ks k)) _ fun ex st' => ?_
    cases ex with
    | normal => exact hK _ _
    | exit j => simp only [kblk]; exact Conv.ite _ (hK _ _) (hK _ _)
    | ret => exact hK _ _
    | pan v => exact hK _ _
  | .loop body, id, st, Ks, Kl, hK => by
    simp only [aexec]
    exact aloop_conv (body := fun k st K => aexec C H (ck k) (ns k) body 0 st K) (H.keep id) (fun st Ks Kl hK => aexec_conv hc hn body 0 st Ks Kl hK) n ns hn _ Ks Kl hK
  | .exit i, id, st, Ks, Kl, hK => hK _ _
  | .ret, id, st, Ks, Kl, hK => hK _ _
  | .rangeFunc .., id, st, Ks, Kl, hK => Conv.none _
  | .scope .., id, st, Ks, Kl, hK => Conv.none _
  | .goto _, id, st, Ks, Kl, hK => Conv.none _
  | .refuse _, id, st, Ks, Kl, hK => Conv.none _

theorem afun_conv (hc : ∀ f a σ, Conv (fun k => ck k f a σ) (cl f a σ)) {n : Nat} {ns : Nat → Nat} (hn : ∃ k0, ∀ k, k0 ≤ k → n ≤ ns k) (d : FDef) (args : List Cell) (σ : Sto) :
    Conv (fun k => afun C d (ck k) (ns k) args σ) (afun C d cl n args σ) := by
  simp only [afun]
  exact Conv.ite _ (aexec_conv hc hn _ _ _ (fun _ => kfin C d) (kfin C d) fun ex st => Conv.const _) (Conv.none _)

theorem acall_mono1 : ∀ (n m : Nat) (f : FuncId) (args : List Cell) (σ : Sto) (r : Res), n ≤ m → acall C n f args σ = some r → acall C m f args σ = some r
  | 0, m, f, args, σ, r, hm, h => by simp [acall] at h
  | n + 1, 0, f, args, σ, r, hm, h => by omega
  | n + 1, m + 1, f, args, σ, r, hm, h => by
    simp only [acall] at h ⊢
    split
    · rename_i s hs
      rw [hs] at h
      exact h
    · rename_i hs
      rw [hs] at h
      simp only at h
      split
      · rename_i d hd
        rw [hd] at h
        simp only at h
        obtain ⟨k, hk⟩ := afun_conv (ck := fun _ => acall C m) (ns := fun _ => m) (fun f a σ r hr => ⟨0, fun j _ => acall_mono1 n m f a σ r (by omega) hr⟩) ⟨0, fun k _ => (by omega : n ≤ m)⟩ d (maskArgs d.hints.own 0 args) σ r h
        exact hk k (Nat.le_refl _)
      · rename_i hd
        rw [hd] at h
        simp at h

/-- What a call comes to, at whatever depth. -/
noncomputable def lim (C : Ctx) : CallF := fun f args σ => open Classical in if h : ∃ r n, acall C n f args σ = some r then some h.choose else none

theorem lim_iff {f : FuncId} {args : List Cell} {σ : Sto} {r : Res} : lim C f args σ = some r ↔ ∃ n, acall C n f args σ = some r := by
  unfold lim
  constructor
  · intro h
    split at h
    · rename_i hx
      obtain rfl := Option.some.inj h
      exact hx.choose_spec
    · simp at h
  · rintro ⟨n, hn⟩
    have hx : ∃ r n, acall C n f args σ = some r := ⟨r, n, hn⟩
    rw [dif_pos hx]
    obtain ⟨m, hm⟩ := hx.choose_spec
    have h1 := acall_mono1 n (max n m) f args σ r (by omega) hn
    have h2 := acall_mono1 m (max n m) f args σ _ (by omega) hm
    exact h2.symm.trans h1

theorem lim_conv (f : FuncId) (a : List Cell) (σ : Sto) : Conv (fun k => acall C k f a σ) (lim C f a σ) := by
  intro r hr
  obtain ⟨n, hn⟩ := lim_iff.1 hr
  exact ⟨n, fun j hj => acall_mono1 n j f a σ r hj hn⟩

/-- A function's own run, over the limit. -/
theorem lim_of {f : FuncId} {d : FDef} (hx : C.ext f = none) (hd : C.fdef f = some d) (n : Nat) {args : List Cell} {σ : Sto} {r : Res} (h : afun C d (lim C) n (maskArgs d.hints.own 0 args) σ = some r) : lim C f args σ = some r := by
  obtain ⟨k, hk⟩ := afun_conv (ck := acall C) (ns := id) (n := n) lim_conv ⟨n, fun k hk => hk⟩ d (maskArgs d.hints.own 0 args) σ r h
  exact lim_iff.2 ⟨k + 1, by simp only [acall, hx, hd]; exact hk k (Nat.le_refl _)⟩
theorem lim_ext {f : FuncId} {s : List Cell → Sto → Option Res} (hx : C.ext f = some s) {args : List Cell} {σ : Sto} {r : Res} (h : s args σ = some r) : lim C f args σ = some r :=
  lim_iff.2 ⟨1, by simp only [acall, hx]; exact h⟩

theorem lim_ok {P : Program} (hC : CtxOk P C) (hX : ExtOk P C) : CallOk P C (lim C) := by
  intro f args σ r h
  obtain ⟨n, hn⟩ := lim_iff.1 h
  exact acall_sound hC hX n f args σ r hn
end
end Go.Ab
end
section
namespace Go.Ab

def bytesL (l : List UInt8) : List (List V) := l.map fun b => [.int .u8 b.toNat]
theorem bytesV_eq (s : ByteArray) : bytesV s = bytesL s.data.toList := rfl
theorem bytesL_append (a b : List UInt8) : bytesL (a ++ b) = bytesL a ++ bytesL b := by simp [bytesL]
theorem bytesL_length (a : List UInt8) : (bytesL a).length = a.length := by simp [bytesL]

def unbyte : List V → Option UInt8
  | [.int .u8 n] => if 0 ≤ n ∧ n < 256 then some (UInt8.ofNat n.toNat) else none
  | _ => none
def unbytes : List (List V) → Option (List UInt8)
  | [] => some []
  | e :: es => (unbyte e).bind fun b => (unbytes es).bind fun l => some (b :: l)
theorem unbyte_byte (b : UInt8) : unbyte [.int .u8 b.toNat] = some b := by
  have h : (b.toNat : Int) < 256 := by have := b.toNat_lt; omega
  simp [unbyte, h]
theorem unbytes_bytesL : ∀ l, unbytes (bytesL l) = some l
  | [] => rfl
  | b :: l => by
    have := unbytes_bytesL l
    simp only [bytesL, List.map_cons] at *
    rw [unbytes, unbyte_byte]
    simp only [Option.bind_some]
    rw [this]; rfl
theorem unbyte_inv {e : List V} {b : UInt8} (h : unbyte e = some b) : e = [.int .u8 b.toNat] := by
  unfold unbyte at h
  split at h
  · split at h
    · rename_i n hn
      obtain rfl := Option.some.inj h
      have : (UInt8.ofNat n.toNat).toNat = n.toNat := by
        rw [UInt8.toNat_ofNat']; omega
      rw [this]
      congr 2
      omega
    · simp at h
  · simp at h
theorem unbytes_inv : ∀ {es : List (List V)} {l : List UInt8}, unbytes es = some l → es = bytesL l
  | [], l, h => by simp [unbytes] at h; subst h; rfl
  | e :: es, l, h => by
    simp only [unbytes] at h
    obtain ⟨b, hb, h⟩ := bind2 h
    obtain ⟨l', hl, h⟩ := bind2 h
    obtain rfl := Option.some.inj h
    rw [unbyte_inv hb, unbytes_inv hl]; rfl

def copyCheckS (T : TypeId) (args : List Cell) (σ : Sto) : Option Res :=
  match args with
  | [(.ptr t b 0, _)] => if t = T then (match σ[b]? with
    | some [(.nilp, _), c] => some (.ret [], σ.set b [(.ptr T b 0, false), c])
    | some [(.ptr t' b' 0, _), _] => if t' = T ∧ b' = b then some (.ret [], σ) else none
    | _ => none) else none
  | _ => none

def bldStringS (T e : TypeId) (args : List Cell) (σ : Sto) : Option Res :=
  match args with
  | [(.ptr t b 0, _)] => if t = T then (match σ[b]? with
    | some [_, (.slice 1 e' es, true)] => if e' = e ∧ es ≠ [] ∧ room es.length = true then (unbytes es).bind fun l => some (.ret [(.str ⟨l.toArray⟩, false)], σ) else none
    | _ => none) else none
  | _ => none

section
variable {P : Program} {C : Ctx}

theorem sinv_inv {gl : Nat → Option (List V)} {G : Gh} {w : World} {σ : Sto} (h : SInv gl G w σ) : Inv gl G (fun _ => 0) { tmps := #[], defers := [] } w { regs := [], locs := [], sto := σ } :=
  ⟨rfl, rfl, rfl, fun r x hx => by simp at hx, fun r cs hc => by simp at hc, h⟩

theorem copyCheck_ok (hC : CtxOk P C) {f : FuncId} {T : TypeId} (hcall : ∀ (args : Array Value) (w : World), (callFunc f args).run P w = .ok (.enter f args) w)
    (hused : ∀ (b : Nat) (w : World), w.cell? ⟨b, 0, none⟩ = some (.pointer (some ⟨b, 0, none⟩)) → Calls P f #[.pointer (some ⟨b, 0, none⟩)] w fun e w' => e = .returned (.tuple #[]) ∧ w' = w)
    (hfresh : ∀ (b : Nat) (w : World), w.cell? ⟨b, 0, none⟩ = some (.pointer none) → w.shape? b = some (T, 2) → w.frozen? ⟨b, 0, none⟩ = false →
      Calls P f #[.pointer (some ⟨b, 0, none⟩)] w fun e w' => e = .returned (.tuple #[]) ∧ w' = w.setCell ⟨b, 0, none⟩ (.pointer (some ⟨b, 0, none⟩))) :
    CallOk P C (fun g args σ => if g = f then copyCheckS T args σ else none) := by
  intro g args σ r h
  simp only at h
  split at h
  case isFalse => simp at h
  rename_i hg
  subst hg
  refine ⟨hcall, fun G w vals hS hcl hlen hv => ?_⟩
  unfold copyCheckS at h
  split at h
  case h_2 => simp at h
  rename_i t b ow
  split at h
  case isFalse => simp at h
  rename_i ht
  subst ht
  obtain ⟨x, rfl⟩ : ∃ x, vals = [x] := by
    match vals, hlen with
    | [x], _ => exact ⟨x, rfl⟩
  have hx := (hv 0 _ x rfl rfl).1
  simp only at hx
  cases hx with
  | ptr _ _ _ hbN hty =>
  have hend : EndRel G w (.ret []) (.returned (.tuple #[])) := ⟨[], rfl, by simp, by simp⟩
  split at h
  · rename_i o0 c hb
    obtain rfl := Option.some.inj h
    have hblt : b < σ.length := (List.getElem?_eq_some_iff.1 hb).1
    have hB := hS.blk b _ hb
    obtain ⟨cv, el, g1, g2, g3, g4, g5⟩ := id hB
    obtain ⟨cv', fr', q1⟩ := hS.typed b hblt
    rw [g1] at q1
    obtain ⟨_, rfl, _⟩ : cv = cv' ∧ el = G.ty b ∧ (0, 0) = fr' := by simpa using q1
    simp only [List.length_cons, List.length_nil] at g2
    have hc0 : w.cell? ⟨G.μ b, 0, none⟩ = some (.pointer none) := by
      obtain ⟨y, hy⟩ : ∃ y, cv[0]? = some y := ⟨cv[0], by simp [g2]⟩
      have := (g5 0 _ y rfl hy).1.1
      cases this
      simp only [World.cell?, g1]
      simpa using hy
    have hsh : w.shape? (G.μ b) = some (t, 2) := by rw [← hty]; simp [World.shape?, g1, g2]
    have hfz : w.frozen? ⟨G.μ b, 0, none⟩ = false := by simp [World.frozen?, g1]
    refine (hfresh (G.μ b) w hc0 hsh hfz).mono fun e w' ⟨he, hw⟩ => ?_
    subst he; subst hw
    have hrel : Rel G w (.ptr t b 0) (.pointer (some ⟨G.μ b, 0, none⟩)) := .ptr _ _ _ hbN hty
    obtain ⟨w1, w2, w3, w4, w5⟩ := write_block (P := P) hS.wf hB (by simp) 0 [.pointer (some ⟨G.μ b, 0, none⟩)] [(.ptr t b 0, false)] rfl (by simp) (fun j c x hc hx => by
      match j with
      | 0 => simp at hc hx; subst hc; subst hx; exact ⟨⟨hrel, fun ho => by simp at ho⟩, rfl⟩
      | j + 1 => simp at hc)
    have htt : ∃ cv fr, (putCells w (G.μ b) 0 [.pointer (some ⟨G.μ b, 0, none⟩)]).heap[G.μ b]? = some (.cells cv (G.ty b) fr) := by
      rw [putCells_heap, if_pos rfl, g1]
      exact ⟨_, _, rfl⟩
    have hI := (sinv_inv hS).setSto (b := b) hblt w2 (w3 _ (by simp)) w4 w5 htt
    have hset : setCells [(V.nilp, o0), c] 0 [(V.ptr t b 0, false)] = [(V.ptr t b 0, false), c] := rfl
    refine ⟨G, w2, by have := hI.sto; rw [hset] at this; exact this, ⟨[], rfl, by simp, by simp⟩⟩
  · rename_i t' b' o0 c hb
    split at h
    case isFalse => simp at h
    rename_i hh
    obtain ⟨rfl, rfl⟩ := hh
    obtain rfl := Option.some.inj h
    have hB := hS.blk b' _ hb
    obtain ⟨cv, el, g1, g2, g3, g4, g5⟩ := id hB
    simp only [List.length_cons, List.length_nil] at g2
    have hc0 : w.cell? ⟨G.μ b', 0, none⟩ = some (.pointer (some ⟨G.μ b', 0, none⟩)) := by
      obtain ⟨y, hy⟩ : ∃ y, cv[0]? = some y := ⟨cv[0], by simp [g2]⟩
      have := (g5 0 _ y rfl hy).1.1
      cases this
      simp only [World.cell?, g1]
      simpa using hy
    refine (hused (G.μ b') w hc0).mono fun e w' ⟨he, hw⟩ => ?_
    subst he; subst hw
    exact ⟨G, Ext.refl _ _, hS, hend⟩
  · simp at h

/-- A row is frozen that is held, as far as it is settled. -/
theorem freeze_other (w : World) (g n : Nat) {i : Nat} (hi : i ≠ g) : (w.freeze ⟨g, 0, none⟩ n).heap[i]? = w.heap[i]? := by
  unfold World.freeze
  split
  · rfl
  · show (w.heap.modify g _)[i]? = _
    rw [Array.getElem?_modify, if_neg (fun h => hi h.symm)]
theorem freeze_at (w : World) (g n : Nat) {cv : Array Value} {e : TypeId} {fr : Nat × Nat} (h : w.heap[g]? = some (.cells cv e fr)) :
    ∃ fr', (w.freeze ⟨g, 0, none⟩ n).heap[g]? = some (.cells cv e fr') ∧ (fr'.2 ≤ fr.2 ∨ fr'.2 ≤ max fr.2 n) := by
  obtain ⟨lo, hi⟩ := fr
  unfold World.freeze
  split
  · exact ⟨_, h, .inl (Nat.le_refl _)⟩
  · have : (w.heap.modify g fun
        | .cells c elem (lo, hi) => .cells c elem (if lo == hi then (0, 0 + n) else (min lo 0, max hi (0 + n)))
        | o => o)[g]? = some (.cells cv e (if lo == hi then (0, 0 + n) else (min lo 0, max hi (0 + n)))) := by
      rw [Array.getElem?_modify, if_pos rfl, h]; rfl
    refine ⟨_, this, .inr ?_⟩
    split <;> simp <;> omega
theorem freeze_cell (w : World) (g n b o : Nat) {cv : Array Value} {e : TypeId} {fr : Nat × Nat} (h : w.heap[g]? = some (.cells cv e fr)) : (w.freeze ⟨g, 0, none⟩ n).cell? ⟨b, o, none⟩ = w.cell? ⟨b, o, none⟩ := by
  by_cases hb : b = g
  · subst hb
    obtain ⟨fr', h1, _⟩ := freeze_at w b n h
    simp only [World.cell?, h, h1]
  · simp only [World.cell?]
    rw [freeze_other w g n hb]

theorem SInv.freeze {gl : Nat → Option (List V)} {G : Gh} {w : World} {σ : Sto} (h : SInv gl G w σ) {g n : Nat} {b0 o0 : Nat} (ho : G.owner g = some (.gc b0 o0)) (hn : n ≤ G.lim g) {cv0 : Array Value} {e0 : TypeId} {fr0 : Nat × Nat} (hg0 : w.heap[g]? = some (.cells cv0 e0 fr0)) :
    Ext G w G (w.freeze ⟨g, 0, none⟩ n) ∧ SInv gl G (w.freeze ⟨g, 0, none⟩ n) σ := by
  have hsz : (w.freeze ⟨g, 0, none⟩ n).heap.size = w.heap.size := by
    unfold World.freeze; split <;> simp
  have hother : ∀ i, i ≠ g → (w.freeze ⟨g, 0, none⟩ n).heap[i]? = w.heap[i]? := fun i hi => freeze_other w g n hi
  have hos : (w.freeze ⟨g, 0, none⟩ n).os = w.os ∧ (w.freeze ⟨g, 0, none⟩ n).tape = w.tape ∧ (w.freeze ⟨g, 0, none⟩ n).output = w.output := by
    unfold World.freeze; split <;> exact ⟨rfl, rfl, rfl⟩
  have hE : Ext G w G (w.freeze ⟨g, 0, none⟩ n) := ⟨Nat.le_refl _, fun _ _ => rfl, fun _ _ => rfl, fun _ => Nat.le_refl _, fun b o _ => freeze_cell w g n b o hg0, hos.1, hos.2.1, hos.2.2, by rw [hsz]; exact Nat.le_refl _, fun i _ hi => ⟨hother i (by rintro rfl; rw [ho] at hi; simp at hi), rfl, hi⟩⟩
  have hown : ∀ (p : Place) (v : V) (c : Value), Own G w p v c → Own G (w.freeze ⟨g, 0, none⟩ n) p v c := by
    intro p v c hh
    unfold Own at *
    split at hh
    · obtain ⟨h1, h2, h3, h4, cv, fr, h5, h6, h7⟩ := hh
      rename_i k e es a m cap
      refine ⟨h1, h2, h3, h4, cv, ?_⟩
      by_cases hg : a.block = g
      · rw [hg] at h5 ⊢
        obtain ⟨fr', k1, k2⟩ := freeze_at w g n h5
        have : n ≤ m * k := by rw [← h4, hg]; exact hn
        exact ⟨fr', k1, h6, by omega⟩
      · exact ⟨fr, by rw [hother _ hg]; exact h5, h6, h7⟩
    · exact hh
    · trivial
  refine ⟨hE, fun i hi => h.wf i (by rw [hsz] at hi; exact hi), fun g' cs hg => (h.glob g' cs hg).mono hE, h.N, fun b hb => ?_, fun b cs hb => ?_⟩
  · obtain ⟨cv, fr, q1⟩ := h.typed b hb
    obtain ⟨_, _, _, _, q3, _⟩ := h.blk b σ[b] (List.getElem?_eq_getElem hb)
    exact ⟨cv, fr, by rw [hother _ (fun hh => by rw [hh, ho] at q3; simp at q3)]; exact q1⟩
  · obtain ⟨cv, el, g1, g2, g3, g4, g5⟩ := h.blk b cs hb
    exact ⟨cv, el, by rw [hother _ (fun hh => by rw [hh, ho] at g3; simp at g3)]; exact g1, g2, g3, g4, fun j c x hc hx => ⟨⟨(g5 j c x hc hx).1.1.mono hE, fun hf => hown _ _ _ ((g5 j c x hc hx).1.2 hf)⟩, (g5 j c x hc hx).2⟩⟩

theorem bldString_ok (hC : CtxOk P C) {f : FuncId} {T e : TypeId} (hcall : ∀ (args : Array Value) (w : World), (callFunc f args).run P w = .ok (.enter f args) w)
    (hstr : ∀ (b g cap cells : Nat) (l : List UInt8) (w : World), l ≠ [] → l.length ≤ cap → l.length ≤ cells → cap ≤ cells → w.cell? ⟨b, 1, none⟩ = some (.slice (some ⟨g, 0, none⟩) l.length cap) → w.shape? g = some (e, cells) → l.length ≤ 9223372036854775807 →
      (∀ j x, l[j]? = some x → w.cell? ⟨g, j, none⟩ = some (.int .u8 x.toNat)) →
      Calls P f #[.pointer (some ⟨b, 0, none⟩)] w fun en w' => en = .returned (.string ⟨l.toArray⟩) ∧ w' = w.drew.freeze ⟨g, 0, none⟩ l.length) :
    CallOk P C (fun g args σ => if g = f then bldStringS T e args σ else none) := by
  intro g args σ r h
  simp only at h
  split at h
  case isFalse => simp at h
  rename_i hg
  subst hg
  refine ⟨hcall, fun G w vals hS hcl hlen hv => ?_⟩
  unfold bldStringS at h
  split at h
  case h_2 => simp at h
  rename_i t b ow
  split at h
  case isFalse => simp at h
  rename_i ht
  subst ht
  obtain ⟨x, rfl⟩ : ∃ x, vals = [x] := by
    match vals, hlen with
    | [x], _ => exact ⟨x, rfl⟩
  have hx := (hv 0 _ x rfl rfl).1
  simp only at hx
  cases hx with
  | ptr _ _ _ hbN hty =>
  split at h
  case h_2 => simp at h
  rename_i c0 e' es hb
  split at h
  case isFalse => simp at h
  rename_i hh
  obtain ⟨rfl, hne, hroom⟩ := hh
  obtain ⟨l, hl, h⟩ := bind2 h
  obtain rfl := Option.some.inj h
  obtain rfl := unbytes_inv hl
  have hl0 : l ≠ [] := by rintro rfl; exact hne rfl
  have hB := hS.blk b _ hb
  obtain ⟨cv, el, g1, g2, g3, g4, g5⟩ := id hB
  simp only [List.length_cons, List.length_nil] at g2
  obtain ⟨y, hy⟩ : ∃ y, cv[1]? = some y := ⟨cv[1], by simp [g2]⟩
  obtain ⟨hcr, _⟩ := g5 1 _ y rfl hy
  obtain ⟨hr, hown⟩ := hcr
  have hown := hown rfl
  have hc1 : w.cell? ⟨G.μ b, 1, none⟩ = some y := by
    simp only [World.cell?, g1]
    simpa using hy
  rcases rel_slice hr with ⟨h0, _⟩ | ⟨gb, off, cap, cs, rfl, r1, r2, r3, r4, r5, r6, r7⟩
  · have : l.length = 0 := by rw [← bytesL_length, h0]; rfl
    exact absurd (List.length_eq_zero_iff.1 this) hl0
  · obtain ⟨o1, _, o3, o4, cv2, fr, o5, o6, o7⟩ := hown
    simp only at o1 o3 o4 o5
    subst o1
    simp only [bytesL_length, Nat.mul_one] at r1 r2 r3 o4 o6 o7
    rw [bytesL_length] at hc1
    have hcells : ∀ j z, l[j]? = some z → w.cell? ⟨gb, j, none⟩ = some (.int .u8 z.toNat) := by
      intro j z hz
      have hj : j < l.length := (List.getElem?_eq_some_iff.1 hz).1
      have he : (bytesL l)[j]? = some [V.int .u8 z.toNat] := by simp [bytesL, hz]
      obtain ⟨xr, hxr⟩ : ∃ xr, cs[j]? = some xr := ⟨cs[j], by rw [List.getElem?_eq_getElem]⟩
      have hlen1 := r5 j xr hxr
      obtain ⟨cc, rfl⟩ : ∃ cc, xr = [cc] := by
        match xr, hlen1 with
        | [cc], _ => exact ⟨cc, rfl⟩
      have hrel := r7 j 0 _ _ _ cc he hxr rfl rfl
      cases hrel
      have := (r6 j 0 _ _ hxr rfl).1
      simpa using this
    have hsh : w.shape? gb = some (e', cv2.size) := by simp [World.shape?, o5]
    have h63 : l.length ≤ 9223372036854775807 := by
      have := log2_bound (of_decide_eq_true hroom)
      rw [bytesL_length] at this
      omega
    refine (hstr (G.μ b) gb cap cv2.size l w hl0 r2 (by omega) o6 hc1 hsh h63 hcells).mono fun en w' ⟨he, hw⟩ => ?_
    subst he; subst hw
    have hS' : SInv C.glob G w.drew σ := (((sinv_inv hS).same (w' := w.drew) rfl rfl rfl rfl)).sto
    obtain ⟨f1, f2⟩ := hS'.freeze (g := gb) (n := l.length) o3 (by omega) (show w.drew.heap[gb]? = _ from o5)
    refine ⟨G, Ext.trans (w1 := w.drew) (Ext.same rfl rfl rfl rfl) f1, f2, [.string ⟨l.toArray⟩], rfl, by simp, fun i c x hc hx => ?_⟩
    match i with
    | 0 => simp at hc hx; subst hc; subst hx; exact ⟨.str _, fun ho => by simp at ho⟩
    | i + 1 => simp at hc
end
end Go.Ab
end
section
namespace Go.Ab

inductive Lv where
  | zero
  | succ (l : Lv)
  | max (a b : Lv)
  | imax (a b : Lv)
  | param (s : ByteArray)
  deriving Inhabited

def Lv.kind : Lv → Int
  | .zero => 0 | .succ _ => 1 | .max .. => 2 | .imax .. => 3 | .param _ => 4
def Lv.name : Lv → ByteArray
  | .param s => s
  | _ => ByteArray.mk #[]
def Lv.enc : Lv → List V
  | .zero => [.int .i64 0, .str (ByteArray.mk #[]), .slice 3 31 []]
  | .succ l => [.int .i64 1, .str (ByteArray.mk #[]), .slice 3 31 [l.enc]]
  | .max a b => [.int .i64 2, .str (ByteArray.mk #[]), .slice 3 31 [a.enc, b.enc]]
  | .imax a b => [.int .i64 3, .str (ByteArray.mk #[]), .slice 3 31 [a.enc, b.enc]]
  | .param s => [.int .i64 4, .str s, .slice 3 31 []]
def Lv.kids : Lv → List Lv
  | .succ l => [l]
  | .max a b => [a, b]
  | .imax a b => [a, b]
  | _ => []
def Lv.args (l : Lv) : List (List V) := l.kids.map Lv.enc
def Lv.size : Lv → Nat
  | .succ l => l.size + 1
  | .max a b => a.size + b.size + 1
  | .imax a b => a.size + b.size + 1
  | _ => 1
theorem Lv.size_pos (l : Lv) : 0 < l.size := by cases l <;> simp [Lv.size]
theorem Lv.enc_eq (l : Lv) : l.enc = [.int .i64 l.kind, .str l.name, .slice 3 31 l.args] := by cases l <;> rfl
theorem Lv.enc_len (l : Lv) : l.enc.length = 3 := by cases l <;> rfl
/-- A level whose three cells are read one by one. -/
theorem Lv.cells (l : Lv) : V.agg [l.enc.getD 0 V.any, l.enc.getD 1 V.any, l.enc.getD 2 V.any] = V.agg [.int .i64 l.kind, .str l.name, .slice 3 31 l.args] := by rw [l.enc_eq]; rfl
theorem Lv.kid_size {l c : Lv} (h : c ∈ l.kids) : c.size < l.size := by
  cases l <;> simp [Lv.kids] at h
  · subst h; simp [Lv.size]
  · rcases h with rfl | rfl <;> simp [Lv.size] <;> omega
  · rcases h with rfl | rfl <;> simp [Lv.size] <;> omega
theorem Lv.ind {P : Lv → Prop} (h : ∀ l, (∀ c ∈ l.kids, P c) → P l) : ∀ l, P l
  | .zero => h _ (by simp [Lv.kids])
  | .param _ => h _ (by simp [Lv.kids])
  | .succ l => h _ (by simp only [Lv.kids, List.mem_cons, List.not_mem_nil, or_false]; rintro c rfl; exact Lv.ind h c)
  | .max a b => h _ (by simp only [Lv.kids, List.mem_cons, List.not_mem_nil, or_false]; rintro c (rfl | rfl) <;> exact Lv.ind h _)
  | .imax a b => h _ (by simp only [Lv.kids, List.mem_cons, List.not_mem_nil, or_false]; rintro c (rfl | rfl) <;> exact Lv.ind h _)

def strs (ss : List ByteArray) : List (List V) := ss.map fun s => [.str s]
def ints (ns : List Int) : List (List V) := ns.map fun n => [.int .i64 n]

theorem wrap_nat {n : Nat} (h : n < 2 ^ 62) : IntKind.wrap .i64 (n : Int) = n := by
  unfold IntKind.wrap
  simp [IntKind.bits, IntKind.signed] <;> omega
theorem wrap_succ {n : Nat} (h : n < 2 ^ 61) : IntKind.wrap .i64 ((n : Int) + 1) = ((n + 1 : Nat) : Int) := by rw [← wrap_nat (n := n + 1) (by omega)]; simp
theorem strs_get {ps : List ByteArray} {i : Nat} (h : i < ps.length) : (strs ps).getD i [] = [V.str ps[i]] := by simp [strs, h]
theorem ints_get {ns : List Int} {i : Nat} (h : i < ns.length) : (ints ns).getD i [] = [V.int .i64 ns[i]] := by simp [ints, h]
theorem strs_length (ps : List ByteArray) : (strs ps).length = ps.length := by simp [strs]
theorem ints_length (ps : List Int) : (ints ps).length = ps.length := by simp [ints]
theorem strs_append (ps qs : List ByteArray) : strs (ps ++ qs) = strs ps ++ strs qs := by simp [strs]
theorem room_ok {n : Nat} (h : n < 2 ^ 34) : room n = true := by
  unfold room
  refine decide_eq_true ?_
  by_cases h0 : n = 0
  · subst h0; simp
  · have := (Nat.log2_lt (k := 34) h0).2 h
    omega
theorem callK_ret1 {call : CallF} {f : FuncId} {args : List Cell} {σ σ' : Sto} {K : List Cell → Sto → Option Res} {KP : V → Sto → Option Res} {c : Cell} (h : call f args σ = some (.ret [c], σ')) :
    callK call f args σ 1 K KP = K [c] σ' := callK_ret h rfl
theorem callK_ret0 {call : CallF} {f : FuncId} {args : List Cell} {σ σ' : Sto} {K : List Cell → Sto → Option Res} {KP : V → Sto → Option Res} (h : call f args σ = some (.ret [], σ')) :
    callK call f args σ 0 K KP = K [] σ' := callK_ret h rfl
theorem dlt {i n : Nat} (h : i < n) : decide ((i : Int) < (n : Int)) = true := by simpa using h
theorem dnlt {i n : Nat} (h : ¬ i < n) : decide ((i : Int) < (n : Int)) = false := by simpa using h
theorem d0 (i : Nat) : decide (0 ≤ (i : Int)) = true := by simp
/-- A child is read. -/
theorem kid_get {L : List Lv} {i : Nat} {c : Lv} (hc : L[i]? = some c) : (L.map Lv.enc).getD (Int.toNat (i : Int)) [] = c.enc := by
  obtain ⟨h, rfl⟩ := List.getElem?_eq_some_iff.1 hc
  simp [h]
theorem drop_cons {α : Type} {L : List α} {i : Nat} {c : α} (hc : L[i]? = some c) : L.drop i = c :: L.drop (i + 1) := by
  obtain ⟨h, rfl⟩ := List.getElem?_eq_some_iff.1 hc
  exact List.drop_eq_getElem_cons h
end Go.Ab
end
section
namespace Go.Ab

def kcheck : TK → TypeDesc → Bool
  | .bool, .bool => true
  | .int k, .int k' => decide (k = k')
  | .string, .string => true
  | .pointer e, .pointer e' => e == e'
  | .slice e, .slice e' => e == e'
  | .array n e, .array n' e' => n == n' && e == e'
  | .struct fs, .struct fields => fields.toList.map (fun f => (f.offset, f.type)) == fs
  | .iface, .interface _ => true
  | .func, .func .. => true
  | .map k e, .map k' e' => k == k' && e == e'
  | .tuple _, .tuple _ => true
  | .other, .struct _ => false
  | .other, .array .. => false
  | .other, .interface _ => false
  | .other, _ => true
  | _, _ => false

theorem kcheck_ok {k : TK} {d : TypeDesc} (h : kcheck k d = true) : KOk k d := by
  unfold kcheck at h
  split at h <;> simp_all [KOk]

def tcheck (P : Program) (t : TypeId) (i : TI) : Bool :=
  match P.info? t with
  | none => false
  | some info => info.size == i.size && info.bytes == i.bytes &&
    (match i.kind with
     | .tuple _ => true
     | _ => match info.zero with
       | none => false
       | some z => z.cells.toList.length == i.zero.length && i.zero.length == i.size && (i.zero.zip z.cells.toList).all fun p => zmatch p.1 p.2) &&
    (match P.underlying t with | none => false | some d => kcheck i.kind d)

theorem tcheck_ok {P : Program} {t : TypeId} {i : TI} (h : tcheck P t i = true) : TOk P t i := by
  unfold tcheck at h
  split at h
  · simp at h
  · rename_i info hinfo
    simp only [Bool.and_eq_true, beq_iff_eq] at h
    obtain ⟨⟨⟨h1, h2⟩, h3⟩, h4⟩ := h
    refine ⟨⟨info, hinfo, h1, h2⟩, ?_, ?_⟩
    · split at h3
      · rename_i n hn; exact .inl ⟨n, hn⟩
      · split at h3
        · simp at h3
        · rename_i z hz
          simp only [Bool.and_eq_true, beq_iff_eq, List.all_eq_true] at h3
          obtain ⟨⟨g1, g2⟩, g3⟩ := h3
          refine .inr ⟨info, z, hinfo, hz, g1, g2, fun j v c hv hc => ?_⟩
          exact g3 (v, c) (List.mem_iff_getElem?.2 ⟨j, by rw [List.getElem?_zip_eq_some]; exact ⟨hv, hc⟩⟩)
    · split at h4
      · simp at h4
      · rename_i d hd
        exact ⟨d, hd, kcheck_ok h4⟩

theorem look_ok {P : Program} : ∀ {L : List (TypeId × TI)}, L.all (fun p => tcheck P p.1 p.2) = true → ∀ t i, look L t = some i → TOk P t i
  | [], _, t, i, h => by simp [look] at h
  | (u, j) :: rest, hl, t, i, h => by
    simp only [List.all_cons, Bool.and_eq_true] at hl
    simp only [look] at h
    cases hb : Nat.beq u t with
    | true =>
      rw [hb] at h
      have := Nat.eq_of_beq_eq_true hb
      subst this
      simp only [cond_true, Option.some.injEq] at h
      subst h
      exact tcheck_ok hl.1
    | false =>
      rw [hb] at h
      exact look_ok hl.2 t i h

/-- A table of functions. -/
def lookF : List (FuncId × FDef) → FuncId → Option FDef
  | [], _ => none
  | (t, i) :: rest, u => bif Nat.beq t u then some i else lookF rest u

theorem lookF_ok {P : Program} {Q : FuncId → FDef → Prop} : ∀ {L : List (FuncId × FDef)}, (∀ p ∈ L, Q p.1 p.2) → ∀ f d, lookF L f = some d → Q f d
  | [], _, f, d, h => by simp [lookF] at h
  | (u, j) :: rest, hl, f, d, h => by
    simp only [lookF] at h
    cases hb : Nat.beq u f with
    | true =>
      rw [hb] at h
      have := Nat.eq_of_beq_eq_true hb
      subst this
      simp only [cond_true, Option.some.injEq] at h
      subst h
      exact hl _ (List.mem_cons_self ..)
    | false =>
      rw [hb] at h
      exact lookF_ok (P := P) (fun p hp => hl p (List.mem_cons_of_mem _ hp)) f d h
end Go.Ab
end
section
namespace Go.Ab
open Go.RowKit Go.Maps

abbrev Dm := DataW Unit
def keyL (s : ByteArray) : Lit := .string s.data.toList
theorem keyL_inj {s t : ByteArray} (h : keyL s = keyL t) : s = t := by
  have h1 : s.data.toList = t.data.toList := by simpa [keyL] using h
  apply ByteArray.ext
  exact Array.toList_inj.1 h1
theorem keyL_ne {s t : ByteArray} (h : s ≠ t) : keyL s ≠ keyL t := fun e => h (keyL_inj e)
theorem keyL_is (s : ByteArray) : WideAt.IsKeyLit (keyL s) := trivial
/-- What a map reads as, as a function. -/
def Reads (D : Dm) (f : ByteArray → Option Nat) : Prop := ∀ s, match f s with
  | none => Maps.has D (keyL s) = false
  | some n => Maps.has D (keyL s) = true ∧ ∀ z, D.atKey (keyL s) z = .lit (.int .i64 (n : Int))
def upd1 (f : ByteArray → Option Nat) (s : ByteArray) (x : Option Nat) : ByteArray → Option Nat := fun q => if q = s then x else f q
theorem Reads.nil : Reads (.map []) (fun _ => none) := fun _ => rfl
theorem Reads.put {D : Dm} {f : ByteArray → Option Nat} (h : Reads D f) (hD : IsMap D) (s : ByteArray) (n : Nat) : Reads (D.put (keyL s) (.lit (.int .i64 (n : Int)))) (upd1 f s (some n)) := by
  intro q
  unfold upd1
  by_cases hq : q = s
  · subst hq
    rw [if_pos rfl]
    exact ⟨has_put_same hD (keyL_is q) _, fun z => atKey_put_same hD (keyL_is q) _ z⟩
  · rw [if_neg hq]
    have := h q
    cases hf : f q with
    | none => rw [hf] at this; show Maps.has _ _ = false; rw [has_put_other (keyL_ne hq)]; exact this
    | some m => rw [hf] at this; exact ⟨by rw [has_put_other (keyL_ne hq)]; exact this.1, fun z => by rw [atKey_put_other (keyL_ne hq)]; exact this.2 z⟩
theorem Reads.del {D : Dm} {f : ByteArray → Option Nat} (h : Reads D f) (s : ByteArray) : Reads (D.del (keyL s)) (upd1 f s none) := by
  intro q
  unfold upd1
  by_cases hq : q = s
  · subst hq
    rw [if_pos rfl]
    exact has_del_same
  · rw [if_neg hq]
    have := h q
    cases hf : f q with
    | none => rw [hf] at this; show Maps.has _ _ = false; rw [has_del_other (keyL_ne hq)]; exact this
    | some m => rw [hf] at this; exact ⟨by rw [has_del_other (keyL_ne hq)]; exact this.1, fun z => by rw [atKey_del_other (keyL_ne hq)]; exact this.2 z⟩
theorem Reads.has {D : Dm} {f : ByteArray → Option Nat} (h : Reads D f) (s : ByteArray) : Maps.has D (keyL s) = (f s).isSome := by
  have := h s
  cases hf : f s with
  | none => rw [hf] at this; exact this
  | some n => rw [hf] at this; exact this.1
theorem Reads.look {D : Dm} {f : ByteArray → Option Nat} (h : Reads D f) {s : ByteArray} {c : Int} (hc : D.atKey (keyL s) (.lit (.int .i64 0)) = .lit (.int .i64 c)) : c = (((f s).getD 0 : Nat) : Int) := by
  have := h s
  cases hf : f s with
  | none =>
    rw [hf] at this
    rw [atKey_of_not_has this] at hc
    simp at hc
    exact hc.symm
  | some n =>
    rw [hf] at this
    rw [this.2] at hc
    simp at hc
    exact hc.symm

section
variable {P : Program} {k e t : TypeId}
/-- Block b is a map of at most n entries that reads as f. -/
def MapAt (P : Program) (k e : TypeId) (w : World) (b n : Nat) (f : ByteArray → Option Nat) : Prop := ∃ D : Dm, w.ownsMap P k (plainElem P e) b n D ∧ Reads D f
theorem MapAt.made (w : World) : MapAt P k e (w.alloc (.map #[] 0)) w.heap.size 0 (fun _ => none) := ⟨_, World.ownsMap_made w P k _, Reads.nil⟩
theorem MapAt.lt {w : World} {b n : Nat} {f : ByteArray → Option Nat} (h : MapAt P k e w b n f) : b < w.heap.size := by obtain ⟨D, h1, _⟩ := h; exact h1.lt
theorem MapAt.mono {w : World} {b n n' : Nat} {f : ByteArray → Option Nat} (h : MapAt P k e w b n f) (hn : n ≤ n') : MapAt P k e w b n' f := by obtain ⟨D, h1, h2⟩ := h; exact ⟨D, h1.mono hn, h2⟩
theorem MapAt.kept {w w' : World} {b n : Nat} {f : ByteArray → Option Nat} (h : MapAt P k e w b n f) (hb : w'.heap[b]? = w.heap[b]?) : MapAt P k e w' b n f := by
  obtain ⟨D, ⟨es, clock, h1, h2, h3, h4⟩, h5⟩ := h
  exact ⟨D, ⟨es, clock, hb.trans h1, h2, h3, h4⟩, h5⟩
theorem MapAt.alloc {w : World} {b n : Nat} {f : ByteArray → Option Nat} (h : MapAt P k e w b n f) (o : Obj) : MapAt P k e (w.alloc o) b n f := h.kept (Below.heap_alloc w o b h.lt)
theorem MapAt.drew {w : World} {b n : Nat} {f : ByteArray → Option Nat} (h : MapAt P k e w b n f) : MapAt P k e w.drew b n f := h.kept rfl
theorem MapAt.setCell {w : World} {b n : Nat} {f : ByteArray → Option Nat} (h : MapAt P k e w b n f) (p : Addr) (hp : b ≠ p.block) (u : Value) : MapAt P k e (w.setCell p u) b n f := h.kept (Below.heap_setCell w p u b hp)
theorem MapAt.notCell {w : World} {b n : Nat} {f : ByteArray → Option Nat} (h : MapAt P k e w b n f) (o : Nat) : w.cell? ⟨b, o, none⟩ = none := by
  obtain ⟨D, ⟨es, clock, h1, _⟩, _⟩ := h
  simp [World.cell?, h1]
theorem has_keys (hk : P.underlying k = some .string) {w : World} {b n : Nat} {D : Dm} (h : w.ownsMap P k (plainElem P e) b n D) {kl : Lit} (hh : Maps.has D kl = true) : ∃ s, kl = keyL s := by
  obtain ⟨es, clock, hb, F, _, rfl⟩ := h
  obtain ⟨p, hp, hpk⟩ := List.any_eq_true.1 hh
  obtain ⟨x, hx, rfl⟩ := List.mem_map.1 (mem_sorted.1 hp)
  obtain ⟨v, hv⟩ := fit_keys F _ (List.mem_map.2 ⟨x, hx, rfl⟩)
  rw [WideAt.sameKey_eq hpk] at hv
  cases v <;> simp [keyOf, hk, mapKey] at hv
  exact ⟨_, hv.2.symm⟩
/-- Two readings that agree are one: a map that came back to what it was. -/
theorem MapAt.least (hk : P.underlying k = some .string) {w w' : World} {b b' n m : Nat} {f : ByteArray → Option Nat} (h : MapAt P k e w b n f) (h' : MapAt P k e w' b' m f) : MapAt P k e w' b' n f := by
  obtain ⟨D, h1, h2⟩ := h
  obtain ⟨D', h3, h4⟩ := h'
  have K : Keyed P k := string_keyed hk
  have hhas : ∀ kl, Maps.has D kl = Maps.has D' kl := by
    intro kl
    by_cases hs : ∃ s, kl = keyL s
    · obtain ⟨s, rfl⟩ := hs
      rw [h2.has, h4.has]
    · have a1 : Maps.has D kl = false := by
        cases hh : Maps.has D kl with
        | false => rfl
        | true => exact absurd (has_keys hk h1 hh) hs
      have a2 : Maps.has D' kl = false := by
        cases hh : Maps.has D' kl with
        | false => rfl
        | true => exact absurd (has_keys hk h3 hh) hs
      rw [a1, a2]
  have : D = D' := Maps.ext (h1.canon K) (h3.canon K) hhas fun kl z hh => by
    obtain ⟨s, rfl⟩ := has_keys hk h1 hh
    have e1 := h2 s
    have e2 := h4 s
    cases hf : f s with
    | none => rw [hf] at e1; rw [e1] at hh; simp at hh
    | some x => rw [hf] at e1 e2; rw [e1.2 z, e2.2 z]
  subst this
  obtain ⟨es, clock, g1, g2, g3, g4⟩ := h3
  obtain ⟨es0, clock0, k1, k2, k3, k4⟩ := h1
  refine ⟨D, ⟨es, clock, g1, g2, ?_, g4⟩, h4⟩
  have : es.size = es0.size := by
    have e1 : Maps.size D = es.size := by rw [g4]; simp [Maps.size, length_sorted]
    have e2 : Maps.size D = es0.size := by rw [k4]; simp [Maps.size, length_sorted]
    omega
  omega

variable (w : World) {ops : Array Oper} {rest : List Oper} {o : Oper} {a : Act} {Q : Exit → Act → World → Prop}
theorem wpl_look (hg : o.guard = none) (m x : Operand) (t : TypeId) (hop : o.op = Op.lookup t m x false) (k e : TypeId) (hk : P.underlying k = some .string) (he : P.underlying e = some (.int .i64)) (ht : P.underlying t = some (.map k e)) (hz : (zeroValue e).run P w = .ok (.int .i64 0) w)
    (b n : Nat) (f : ByteArray → Option Nat) (hm : a.eval m = .map (some b)) (h : MapAt P k e w b n f) (s : ByteArray) (hx : a.eval x = .string s) (hs : s.size ≤ maxLen)
    (hK : wpList P ops Q rest (a.put o.dst (.int .i64 (((f s).getD 0 : Nat) : Int))) w) : wpList P ops Q (o :: rest) a w := by
  obtain ⟨D, h1, h2⟩ := h
  refine wpList_lookup_own_int w hg m x t hop k e .i64 (string_keyed hk) ht he hz b n D hm h1 _ (keyL s) hx (WideMaps.keyOf_string_mk hk hs) fun c hc _ => ?_
  rw [h2.look hc]
  exact hK
theorem wpl_look_ok (hg : o.guard = none) (m x : Operand) (t : TypeId) (hop : o.op = Op.lookup t m x true) (k e : TypeId) (hk : P.underlying k = some .string) (he : P.underlying e = some (.int .i64)) (ht : P.underlying t = some (.map k e)) (hz : (zeroValue e).run P w = .ok (.int .i64 0) w)
    (b n : Nat) (f : ByteArray → Option Nat) (hm : a.eval m = .map (some b)) (h : MapAt P k e w b n f) (s : ByteArray) (hx : a.eval x = .string s) (hs : s.size ≤ maxLen)
    (hK : wpList P ops Q rest (a.put o.dst (.tuple #[.int .i64 (((f s).getD 0 : Nat) : Int), .bool (f s).isSome])) w) : wpList P ops Q (o :: rest) a w := by
  obtain ⟨D, h1, h2⟩ := h
  refine wpList_lookup_own_ok_int w hg m x t hop k e .i64 (string_keyed hk) ht he hz b n D hm h1 _ (keyL s) hx (WideMaps.keyOf_string_mk hk hs) fun c hc _ => ?_
  rw [h2.look hc, h2.has]
  exact hK
theorem wpl_update (hg : o.guard = none) (m x v : Operand) (t : TypeId) (hop : o.op = Op.mapUpdate t m x v) (k e : TypeId) (hk : P.underlying k = some .string) (he : P.underlying e = some (.int .i64)) (ht : P.underlying t = some (.map k e))
    (b n : Nat) (f : ByteArray → Option Nat) (hm : a.eval m = .map (some b)) (h : MapAt P k e w b n f) (hn : n < maxLen) (s : ByteArray) (hx : a.eval x = .string s) (hs : s.size ≤ maxLen) (c : Nat) (hv : a.eval v = .int .i64 (c : Int)) (hc : c < 2 ^ 62)
    (hK : ∀ w', MapAt P k e w' b (n + 1) (upd1 f s (some c)) → w.grownBy w' (some b) → wpList P ops Q rest (a.put o.dst undef) w') : wpList P ops Q (o :: rest) a w := by
  obtain ⟨D, h1, h2⟩ := h
  refine wpList_mapUpdate_own w hg m x v t hop k e (string_keyed hk) ht _ b n D hm h1 hn _ _ (keyL s) hx hv (WideMaps.keyOf_string_mk hk hs) _ [] (plainElem_int he (WalkArith.wf_i64 (by omega))) fun w' k1 k2 => ?_
  exact hK w' ⟨_, k1, h2.put h1.isMap s c⟩ k2
theorem wpl_delete (hg : o.guard = none) (m x : Operand) (t k : TypeId) (hop : o.op = Op.call { callee := Callee.builtin Builtin.delete, args := #[m, x], argTypes := #[t, k] }) (e : TypeId) (hk : P.underlying k = some .string) (ht : P.underlying t = some (.map k e))
    (b n : Nat) (f : ByteArray → Option Nat) (hm : a.eval m = .map (some b)) (h : MapAt P k e w b n f) (s : ByteArray) (hx : a.eval x = .string s) (hs : s.size ≤ maxLen)
    (hK : ∀ w', MapAt P k e w' b n (upd1 f s none) → w.grownBy w' (some b) → wpList P ops Q rest (a.put o.dst (.tuple #[])) w') : wpList P ops Q (o :: rest) a w := by
  obtain ⟨D, h1, h2⟩ := h
  refine wpList_delete_own w hg m x t k hop e (string_keyed hk) ht _ b n D hm h1 _ (keyL s) hx (WideMaps.keyOf_string_mk hk hs) fun w' k1 k2 => ?_
  exact hK w' ⟨_, k1, h2.del s⟩ k2.grown
/-- A range under way: what is still to come. -/
def RangeAt (P : Program) (k e : TypeId) (w : World) (b r n : Nat) (f : ByteArray → Option Nat) (left : ByteArray → Bool) (cnt : Nat) : Prop :=
  ∃ (D : Dm) (l : Lit → Bool), w.ranges P k (plainElem P e) b r n D l cnt ∧ Reads D f ∧ ∀ s, left s = l (keyL s)
theorem RangeAt.map {w : World} {b r n : Nat} {f : ByteArray → Option Nat} {left : ByteArray → Bool} {cnt : Nat} (h : RangeAt P k e w b r n f left cnt) : MapAt P k e w b n f := by obtain ⟨D, l, h1, h2, _⟩ := h; exact ⟨D, h1.owns, h2⟩
theorem RangeAt.left_eq {w : World} {b r n : Nat} {f : ByteArray → Option Nat} {left : ByteArray → Bool} {cnt : Nat} (h : RangeAt P k e w b r n f left cnt) : w.rangeLeft b r = cnt := by obtain ⟨D, l, h1, _⟩ := h; exact h1.left_eq
theorem RangeAt.ne {w : World} {b r n : Nat} {f : ByteArray → Option Nat} {left : ByteArray → Bool} {cnt : Nat} (h : RangeAt P k e w b r n f left cnt) : r ≠ b := by obtain ⟨D, l, h1, _⟩ := h; exact h1.ne
theorem RangeAt.lt {w : World} {b r n : Nat} {f : ByteArray → Option Nat} {left : ByteArray → Bool} {cnt : Nat} (h : RangeAt P k e w b r n f left cnt) : r < w.heap.size := by obtain ⟨D, l, h1, _⟩ := h; exact h1.lt
theorem RangeAt.kept {w w' : World} {row : Option Nat} {b r n : Nat} {f : ByteArray → Option Nat} {left : ByteArray → Bool} {cnt : Nat} (h : RangeAt P k e w b r n f left cnt) (hg : w.grownBy w' row) (hb : some b ≠ row) (hr : some r ≠ row) : RangeAt P k e w' b r n f left cnt := by
  obtain ⟨D, l, h1, h2, h3⟩ := h
  exact ⟨D, l, h1.kept hg hb hr, h2, h3⟩
theorem wpl_range (hg : o.guard = none) (m : Operand) (t : TypeId) (hop : o.op = Op.range t m) (k e : TypeId) (hk : P.underlying k = some .string) (ht : P.underlying t = some (.map k e)) (b n : Nat) (f : ByteArray → Option Nat)
    (hm : a.eval m = .map (some b)) (h : MapAt P k e w b n f)
    (hK : ∀ w' cnt, cnt ≤ n → RangeAt P k e w' b w.heap.size n f (fun s => (f s).isSome) cnt → w.grownBy w' none → w'.heap.size = w.heap.size + 1 → wpList P ops Q rest (a.put o.dst (.pointer (some ⟨w.heap.size, 0, none⟩))) w') : wpList P ops Q (o :: rest) a w := by
  obtain ⟨D, h1, h2⟩ := h
  refine wpList_range_own w hg m t hop k e (string_keyed hk) ht _ b n D hm h1 fun w' k1 k2 k3 => ?_
  exact hK w' _ h1.size_le ⟨D, _, k1, h2, fun s => (h2.has s).symm⟩ k2 k3
theorem keyOf_inv (hk : P.underlying k = some .string) {key : Value} {kl : Lit} (h : keyOf P k key = some kl) : ∃ s, key = .string s ∧ kl = keyL s ∧ s.size ≤ maxLen := by
  cases key <;> simp [keyOf, hk, mapKey] at h
  exact ⟨_, rfl, h.2.symm, h.1⟩
theorem wpl_next (hg : o.guard = none) (it : Operand) (hop : o.op = Op.next it false) (k e : TypeId) (hk : P.underlying k = some .string) (he : P.underlying e = some (.int .i64)) (b r n : Nat) (f : ByteArray → Option Nat) (left : ByteArray → Bool) (cnt : Nat)
    (hit : a.eval it = .pointer (some ⟨r, 0, none⟩)) (h : RangeAt P k e w b r n f left cnt)
    (hDone : cnt = 0 → (∀ s, left s = false) → wpList P ops Q rest (a.put o.dst (.tuple #[.bool false])) w)
    (hMore : ∀ (s : ByteArray) (c : Nat) (w' : World) (cnt' : Nat), s.size ≤ maxLen → left s = true → f s = some c → RangeAt P k e w' b r n f (fun q => left q && !(decide (q = s))) cnt' → cnt' < cnt →
      w.grownBy w' (some r) → w'.heap.size = w.heap.size → (Instr.entry (.pointer (some ⟨r, 0, none⟩))).run P w' = .ok (.tuple #[.string s, .int .i64 (c : Int)]) w' → wpList P ops Q rest (a.put o.dst (.tuple #[.bool true, .string s, .int .i64 (c : Int)])) w') :
    wpList P ops Q (o :: rest) a w := by
  obtain ⟨D, l, h1, h2, h3⟩ := h
  refine wpList_next_ranges w hg it hop k (string_keyed hk) (plainElem P e) Value.string (Value.int .i64) (fun key kl hkey => by obtain ⟨s, h, _⟩ := keyOf_inv hk hkey; exact ⟨s, h⟩) (fun v y hv => by obtain ⟨c, rfl, _⟩ := plainElem_int_inv he hv; exact ⟨c, rfl⟩)
    b r n D l cnt hit h1 (fun hc hl => hDone hc fun s => by rw [h3, hl]) (fun s c kl y w' cnt' hkey hlk hv hat hrg hlt hgr hsz hen => ?_)
  obtain ⟨s', es, rfl, hsl⟩ := keyOf_inv hk hkey
  cases es
  obtain ⟨c', ec, rfl, hwc⟩ := plainElem_int_inv he hv
  cases ec
  have hf : f s = some c.toNat ∧ c = ((c.toNat : Nat) : Int) := by
    have := h2 s
    cases hf : f s with
    | none =>
      rw [hf] at this
      have h4 := hat .nil
      rw [atKey_of_not_has this] at h4
      simp at h4
    | some x =>
      rw [hf] at this
      have h4 := hat .nil
      rw [this.2] at h4
      simp at h4
      subst h4
      exact ⟨by simp, by simp⟩
  rw [hf.2] at hen ⊢
  refine hMore s c.toNat w' cnt' hsl (by rw [h3]; exact hlk) hf.1 ⟨D, _, hrg, h2, fun q => ?_⟩ hlt hgr hsz hen
  simp only
  rw [h3]
  congr 2
  by_cases hq : q = s
  · subst hq
    rw [WideAt.sameKey_self (keyL_is q)]; simp
  · rw [sameKey_ne (keyL_ne hq)]; simp [hq]
end

theorem cell_new {w : World} {cs : Array Value} {t : TypeId} {fr : Nat × Nat} {b o : Nat} (hb : b = w.heap.size) : (w.alloc (.cells cs t fr)).cell? ⟨b, o, none⟩ = cs[o]? := by
  subst hb
  simp only [World.cell?, (MapKept.heap_alloc w (.cells cs t fr)).1]
  rfl
theorem cell_old {w : World} {o : Obj} {p : Addr} (h : p.block < w.heap.size) : (w.alloc o).cell? p = w.cell? p := World.cell?_of_block (w := w) (Below.heap_alloc w o p.block h)
theorem frozen_new {w : World} {cs : Array Value} {t : TypeId} {b o : Nat} (hb : b = w.heap.size) : (w.alloc (.cells cs t)).frozen? ⟨b, o, none⟩ = false := by
  subst hb
  simp only [World.frozen?, (MapKept.heap_alloc w (.cells cs t)).1]
  simp
theorem frozen_old {w : World} {o : Obj} {p : Addr} (h : p.block < w.heap.size) : (w.alloc o).frozen? p = w.frozen? p := World.frozen?_of_block (w := w) (Below.heap_alloc w o p.block h)

/-! What has turned: no old block but those of a set. -/
structure OffB (S : Nat → Prop) (w w' : World) : Prop where
  os : w'.os = w.os
  tape : w'.tape = w.tape
  output : w'.output = w.output
  size : w.heap.size ≤ w'.heap.size
  block : ∀ i, i < w.heap.size → ¬ S i → w'.heap[i]? = w.heap[i]?
section
variable {S T : Nat → Prop} {w w1 w2 : World}
theorem OffB.refl (S : Nat → Prop) (w : World) : OffB S w w := ⟨rfl, rfl, rfl, Nat.le_refl _, fun _ _ _ => rfl⟩
theorem OffB.trans (h : OffB S w w1) (k : OffB T w1 w2) (hT : ∀ i, i < w.heap.size → T i → S i) : OffB S w w2 :=
  ⟨k.os.trans h.os, k.tape.trans h.tape, k.output.trans h.output, Nat.le_trans h.size k.size, fun i hi hs => (k.block i (Nat.lt_of_lt_of_le hi h.size) (fun ht => hs (hT i hi ht))).trans (h.block i hi hs)⟩
theorem OffB.mono (h : OffB S w w1) (hT : ∀ i, i < w.heap.size → S i → T i) : OffB T w w1 := ⟨h.os, h.tape, h.output, h.size, fun i hi ht => h.block i hi fun hs => ht (hT i hi hs)⟩
theorem OffB.alloc (h : OffB S w w1) (o : Obj) : OffB S w (w1.alloc o) :=
  ⟨h.os, h.tape, h.output, by have := h.size; simp; omega, fun i hi hs => (Below.heap_alloc w1 o i (Nat.lt_of_lt_of_le hi h.size)).trans (h.block i hi hs)⟩
theorem OffB.drew (h : OffB S w w1) : OffB S w w1.drew := ⟨h.os, h.tape, h.output, h.size, h.block⟩
theorem OffB.setCell (h : OffB S w w1) (p : Addr) (hp : p.block < w.heap.size → S p.block) (u : Value) : OffB S w (w1.setCell p u) :=
  ⟨h.os, h.tape, h.output, by simp [World.setCell]; exact h.size, fun i hi hs => (Below.heap_setCell w1 p u i (fun e => hs (by subst e; exact hp hi))).trans (h.block i hi hs)⟩
theorem OffB.grown (h : OffB S w w1) {row : Option Nat} (k : w1.grownBy w2 row) (hr : ∀ b, row = some b → b < w.heap.size → S b) : OffB S w w2 :=
  ⟨k.os.trans h.os, k.tape.trans h.tape, k.output.trans h.output, Nat.le_trans h.size k.size, fun i hi hs => (k.block i (Nat.lt_of_lt_of_le hi h.size) (fun e => hs (hr i e.symm hi))).trans (h.block i hi hs)⟩
theorem OffB.below (h : OffB S w w1) {B : Nat} (hB : B ≤ w.heap.size) (hS : ∀ i, i < B → ¬ S i) : Below B w w1 := ⟨h.os, h.tape, h.output, h.size, fun i hi => h.block i (Nat.lt_of_lt_of_le hi hB) (hS i hi)⟩
theorem OffB.of_below {B : Nat} (h : Below B w w1) (hS : ∀ i, i < w.heap.size → B ≤ i → S i) : OffB S w w1 := ⟨h.os, h.tape, h.output, h.size, fun i hi hs => h.block i (by
  rcases Nat.lt_or_ge i B with hb | hb
  · exact hb
  · exact absurd (hS i hi hb) hs)⟩
theorem OffB.cell (h : OffB S w w1) {p : Addr} {x : Value} (hx : w.cell? p = some x) (hs : ¬ S p.block) : w1.cell? p = some x := by
  have hlt := World.block_lt_of_cell? _ _ hx
  rw [World.cell?_of_block (w := w) (h.block p.block hlt hs)]
  exact hx
theorem OffB.frozen (h : OffB S w w1) {p : Addr} (hlt : p.block < w.heap.size) (hs : ¬ S p.block) : w1.frozen? p = w.frozen? p := World.frozen?_of_block (w := w) (h.block p.block hlt hs)
theorem OffB.map {P : Program} {k e : TypeId} {b n : Nat} {f : ByteArray → Option Nat} (h : OffB S w w1) (hm : MapAt P k e w b n f) (hs : ¬ S b) : MapAt P k e w1 b n f := hm.kept (h.block b hm.lt hs)
end
/-- Four blocks laid: what lies in them. -/
theorem four_cells (w : World) (ca cb cd : Array Value) (ta tb td : TypeId) (o : Nat) :
    (((((w.alloc (.cells ca ta)).alloc (.cells cb tb)).alloc (.map #[] 0)).alloc (.cells cd td)).cell? ⟨w.heap.size, o, none⟩ = ca[o]?) ∧
    (((((w.alloc (.cells ca ta)).alloc (.cells cb tb)).alloc (.map #[] 0)).alloc (.cells cd td)).cell? ⟨w.heap.size + 1, o, none⟩ = cb[o]?) ∧
    (((((w.alloc (.cells ca ta)).alloc (.cells cb tb)).alloc (.map #[] 0)).alloc (.cells cd td)).cell? ⟨w.heap.size + 3, o, none⟩ = cd[o]?) := by
  refine ⟨?_, ?_, ?_⟩
  · rw [cell_old (by simp; omega), cell_old (by simp; omega), cell_old (by simp), cell_new rfl]
  · rw [cell_old (by simp), cell_old (by simp), cell_new (by simp)]
  · rw [cell_new (by simp)]
theorem four_frozen (w : World) (ca cb cd : Array Value) (ta tb td : TypeId) (o : Nat) :
    (((((w.alloc (.cells ca ta)).alloc (.cells cb tb)).alloc (.map #[] 0)).alloc (.cells cd td)).frozen? ⟨w.heap.size + 1, o, none⟩ = false) ∧
    (((((w.alloc (.cells ca ta)).alloc (.cells cb tb)).alloc (.map #[] 0)).alloc (.cells cd td)).frozen? ⟨w.heap.size + 3, o, none⟩ = false) := by
  refine ⟨?_, ?_⟩
  · rw [frozen_old (by simp), frozen_old (by simp), frozen_new (by simp)]
  · rw [frozen_new (by simp)]
end Go.Ab
end
section
namespace Go.Ab

def Lv.val (v : ByteArray → Nat) : Lv → Nat
  | .zero => 0
  | .succ l => l.val v + 1
  | .max a b => Nat.max (a.val v) (b.val v)
  | .imax a b => if b.val v = 0 then 0 else Nat.max (a.val v) (b.val v)
  | .param s => v s
def Lv.pars : Lv → List ByteArray
  | .zero => []
  | .succ l => l.pars
  | .max a b => a.pars ++ b.pars
  | .imax a b => a.pars ++ b.pars
  | .param s => [s]
def Lv.sucs : Lv → Nat
  | .zero => 0
  | .succ l => l.sucs + 1
  | .max a b => a.sucs + b.sucs
  | .imax a b => a.sucs + b.sucs
  | .param _ => 0
theorem Lv.val_congr {v w : ByteArray → Nat} : ∀ {l : Lv}, (∀ p ∈ l.pars, v p = w p) → l.val v = l.val w
  | .zero, _ => rfl
  | .succ l, h => by simp only [Lv.val, Lv.val_congr (l := l) h]
  | .max a b, h => by
    have h1 := Lv.val_congr (l := a) fun p hp => h p (List.mem_append_left _ hp)
    have h2 := Lv.val_congr (l := b) fun p hp => h p (List.mem_append_right _ hp)
    simp only [Lv.val, h1, h2]
  | .imax a b, h => by
    have h1 := Lv.val_congr (l := a) fun p hp => h p (List.mem_append_left _ hp)
    have h2 := Lv.val_congr (l := b) fun p hp => h p (List.mem_append_right _ hp)
    simp only [Lv.val, h1, h2]
  | .param s, h => h s (by simp [Lv.pars])

/-- Where a parameter is known to be no nought, one is taken off. -/
def one (os : ByteArray → Bool) (p : ByteArray) : Nat := if os p then 1 else 0
theorem one_le (os : ByteArray → Bool) (p : ByteArray) : one os p ≤ 1 := by unfold one; split <;> omega
structure Fits (zs os : ByteArray → Bool) (v : ByteArray → Nat) : Prop where
  z : ∀ p, zs p = true → v p = 0
  o : ∀ p, os p = true → 1 ≤ v p
theorem Fits.one {zs os : ByteArray → Bool} {v : ByteArray → Nat} (h : Fits zs os v) (p : ByteArray) : Go.Ab.one os p ≤ v p := by
  unfold Go.Ab.one
  split
  · rename_i hp; exact h.o p hp
  · omega
structure Fm where
  n : Nat
  f : ByteArray → Option Nat
/-- What a form is worth: the greatest of all. -/
structure Fm.Is (F : Fm) (os : ByteArray → Bool) (v : ByteArray → Nat) (x : Nat) : Prop where
  n : F.n ≤ x
  le : ∀ p k, F.f p = some k → k + v p ≤ x + one os p
  at_ : x = F.n ∨ ∃ p k, F.f p = some k ∧ k + v p = x + one os p
structure FmOk (l : Lv) (zs os : ByteArray → Bool) (F : Fm) : Prop where
  ge : ∀ p k, F.f p = some k → k ≤ F.n
  one : ∀ p k, F.f p = some k → os p = true → 1 ≤ k
  par : ∀ p k, F.f p = some k → p ∈ l.pars ∧ zs p = false
  top : F.n ≤ l.sucs + 1
  val : ∀ v, Fits zs os v → F.Is os v (l.val v)
def Fm.nil : Fm := ⟨0, fun _ => none⟩
def joinO (up : Nat) : Option Nat → Option Nat → Option Nat
  | a, none => a
  | none, some b => some (b + up)
  | some a, some b => some (Nat.max a (b + up))
def Fm.join (F G : Fm) (up : Nat) : Fm := ⟨Nat.max F.n (G.n + up), fun p => joinO up (F.f p) (G.f p)⟩
theorem joinO_some {up : Nat} {a b : Option Nat} {k : Nat} (h : joinO up a b = some k) :
    (∃ x, a = some x ∧ x ≤ k) ∧ (k = a.getD 0 ∨ ∃ y, b = some y ∧ k = y + up) ∨ (∃ y, b = some y ∧ k = y + up) := by
  match a, b with
  | a, none =>
    have h' : a = some k := h
    subst h'
    exact .inl ⟨⟨k, rfl, Nat.le_refl _⟩, .inl rfl⟩
  | none, some b => simp [joinO] at h; exact .inr ⟨b, rfl, h.symm⟩
  | some a, some b =>
    simp only [joinO, Option.some.injEq] at h
    rcases Nat.le_total a (b + up) with h1 | h1
    · rw [show Nat.max a (b + up) = b + up from Nat.max_eq_right h1] at h
      exact .inr ⟨b, rfl, h.symm⟩
    · rw [show Nat.max a (b + up) = a from Nat.max_eq_left h1] at h
      exact .inl ⟨⟨a, rfl, by omega⟩, .inl h.symm⟩
/-- Each part of a join comes of one of the two. -/
theorem joinO_from {up : Nat} {a b : Option Nat} {k : Nat} (h : joinO up a b = some k) : a = some k ∨ ∃ y, b = some y ∧ k = y + up := by
  match a, b with
  | a, none => exact .inl h
  | none, some b => simp [joinO] at h; exact .inr ⟨b, rfl, h.symm⟩
  | some a, some b =>
    simp only [joinO, Option.some.injEq] at h
    rcases Nat.le_total a (b + up) with h1 | h1
    · rw [show Nat.max a (b + up) = b + up from Nat.max_eq_right h1] at h
      exact .inr ⟨b, rfl, h.symm⟩
    · rw [show Nat.max a (b + up) = a from Nat.max_eq_left h1] at h
      exact .inl (by rw [h])
theorem joinO_left {up : Nat} {a b : Option Nat} {x : Nat} (h : a = some x) : ∃ k, joinO up a b = some k ∧ x ≤ k := by
  subst h
  cases b with
  | none => exact ⟨x, rfl, Nat.le_refl _⟩
  | some b => exact ⟨_, rfl, Nat.le_max_left _ _⟩
theorem joinO_right {up : Nat} {a b : Option Nat} {y : Nat} (h : b = some y) : ∃ k, joinO up a b = some k ∧ y + up ≤ k := by
  subst h
  cases a with
  | none => exact ⟨y + up, rfl, Nat.le_refl _⟩
  | some a => exact ⟨_, rfl, Nat.le_max_right _ _⟩
theorem Fm.Is.join {F G : Fm} {os : ByteArray → Bool} {v : ByteArray → Nat} {x y : Nat} (hv : ∀ p, one os p ≤ v p) (h : F.Is os v x) (k : G.Is os v y) (up : Nat) : (F.join G up).Is os v (Nat.max x (y + up)) := by
  have m1 : x ≤ Nat.max x (y + up) := Nat.le_max_left _ _
  have m2 : y + up ≤ Nat.max x (y + up) := Nat.le_max_right _ _
  refine ⟨Nat.max_le.2 ⟨Nat.le_trans h.n m1, Nat.le_trans (Nat.add_le_add_right k.n _) m2⟩, fun p c hp => ?_, ?_⟩
  · rcases joinO_from hp with hp | ⟨b, hb, rfl⟩
    · have := h.le p c hp; omega
    · have := k.le p b hb; omega
  · rcases Nat.le_total x (y + up) with hxy | hxy
    · rw [show Nat.max x (y + up) = y + up from Nat.max_eq_right hxy]
      rcases k.at_ with h1 | ⟨p, c, h1, h2⟩
      · left
        have := h.n
        show y + up = Nat.max F.n (G.n + up)
        rw [show Nat.max F.n (G.n + up) = G.n + up from Nat.max_eq_right (by omega), h1]
      · obtain ⟨c', h3, h4⟩ := joinO_right (up := up) (a := F.f p) h1
        right
        refine ⟨p, c', h3, ?_⟩
        rcases joinO_from h3 with h5 | ⟨b, h5, h6⟩
        · have := h.le p c' h5; have := hv p; omega
        · rw [h1] at h5
          obtain rfl := Option.some.inj h5
          omega
    · rw [show Nat.max x (y + up) = x from Nat.max_eq_left hxy]
      rcases h.at_ with h1 | ⟨p, c, h1, h2⟩
      · left
        have := k.n
        show x = Nat.max F.n (G.n + up)
        rw [show Nat.max F.n (G.n + up) = F.n from Nat.max_eq_left (by omega), h1]
      · obtain ⟨c', h3, h4⟩ := joinO_left (up := up) (b := G.f p) h1
        right
        refine ⟨p, c', h3, ?_⟩
        rcases joinO_from h3 with h5 | ⟨b, h5, h6⟩
        · rw [h1] at h5
          obtain rfl := Option.some.inj h5
          omega
        · have := k.le p b h5; have := hv p; omega
theorem Fm.nil_is (os : ByteArray → Bool) (v : ByteArray → Nat) : Fm.nil.Is os v 0 := ⟨Nat.le_refl _, fun _ _ h => by simp [Fm.nil] at h, .inl rfl⟩
/-- A part of a level's form: what is joined so far. -/
structure Part (l : Lv) (zs os : ByteArray → Bool) (F : Fm) (val : (ByteArray → Nat) → Nat) (top : Nat) : Prop where
  ge : ∀ p k, F.f p = some k → k ≤ F.n
  one : ∀ p k, F.f p = some k → os p = true → 1 ≤ k
  par : ∀ p k, F.f p = some k → p ∈ l.pars ∧ zs p = false
  top : F.n ≤ top
  val : ∀ v, Fits zs os v → F.Is os v (val v)
theorem Part.nil (l : Lv) (zs os : ByteArray → Bool) : Part l zs os Fm.nil (fun _ => 0) 0 :=
  ⟨fun _ _ h => by simp [Fm.nil] at h, fun _ _ h => by simp [Fm.nil] at h, fun _ _ h => by simp [Fm.nil] at h, Nat.le_refl _, fun v _ => Fm.nil_is os v⟩
theorem Part.join {l c : Lv} {zs os : ByteArray → Bool} {F G : Fm} {val : (ByteArray → Nat) → Nat} {top top' : Nat} (h : Part l zs os F val top) (k : FmOk c zs os G) (hc : ∀ p ∈ c.pars, p ∈ l.pars) (up : Nat)
    (ht1 : top ≤ top') (ht2 : c.sucs + 1 + up ≤ top') : Part l zs os (F.join G up) (fun v => Nat.max (val v) (c.val v + up)) top' := by
  refine ⟨fun p x hp => ?_, fun p x hp ho => ?_, fun p x hp => ?_, ?_, fun v hv => (h.val v hv).join (fun p => hv.one p) (k.val v hv) up⟩
  · have m1 : F.n ≤ Nat.max F.n (G.n + up) := Nat.le_max_left _ _
    have m2 : G.n + up ≤ Nat.max F.n (G.n + up) := Nat.le_max_right _ _
    show x ≤ Nat.max F.n (G.n + up)
    rcases joinO_from hp with hp | ⟨b, hb, rfl⟩
    · have := h.ge p x hp; omega
    · have := k.ge p b hb; omega
  · rcases joinO_from hp with hp | ⟨b, hb, rfl⟩
    · exact h.one p x hp ho
    · have := k.one p b hb ho; omega
  · rcases joinO_from hp with hp | ⟨b, hb, rfl⟩
    · exact h.par p x hp
    · exact ⟨hc p (k.par p b hb).1, (k.par p b hb).2⟩
  · have := h.top
    have := k.top
    exact Nat.max_le.2 ⟨by omega, by omega⟩
theorem Part.ok {l : Lv} {zs os : ByteArray → Bool} {F : Fm} {val : (ByteArray → Nat) → Nat} {top : Nat} (h : Part l zs os F val top) (ht : top ≤ l.sucs + 1) (hv : ∀ v, Fits zs os v → val v = l.val v) : FmOk l zs os F :=
  ⟨h.ge, h.one, h.par, Nat.le_trans h.top ht, fun v k => by rw [← hv v k]; exact h.val v k⟩

/-- One form is at most another one. -/
def Fm.leq (F G : Fm) : Prop := (∀ p k, F.f p = some k → ∃ m, G.f p = some m ∧ k ≤ m) ∧ F.n ≤ G.n
theorem leq_worth {a b : Lv} {zs os : ByteArray → Bool} {F G : Fm} (hF : FmOk a zs os F) (hG : FmOk b zs os G) (h : F.leq G) {v : ByteArray → Nat} (hv : Fits zs os v) : a.val v ≤ b.val v := by
  have h1 := hF.val v hv
  have h2 := hG.val v hv
  rcases h1.at_ with h3 | ⟨p, k, h3, h4⟩
  · rw [h3]; exact Nat.le_trans h.2 h2.n
  · obtain ⟨m, h5, h6⟩ := h.1 p k h3
    have := h2.le p m h5
    omega
/-- The least valuation; one that is great at a place. -/
def least (os : ByteArray → Bool) : ByteArray → Nat := fun p => one os p
def great (os : ByteArray → Bool) (B : Nat) (p : ByteArray) : ByteArray → Nat := fun q => if q = p then B else one os q
theorem least_worth {a : Lv} {zs os : ByteArray → Bool} {F : Fm} (hF : FmOk a zs os F) (hv : Fits zs os (least os)) : a.val (least os) = F.n := by
  have h1 := hF.val _ hv
  have h0 := h1.n
  rcases h1.at_ with h2 | ⟨p, k, h2, h3⟩
  · exact h2
  · have := hF.ge p k h2
    have : least os p = one os p := rfl
    omega
theorem leq_of_tests {a b : Lv} {zs os : ByteArray → Bool} {F G : Fm} (hF : FmOk a zs os F) (hG : FmOk b zs os G) (hz : ∀ p, zs p = true → os p = false) {B : Nat} (hB : b.sucs + 2 ≤ B)
    (h0 : a.val (least os) ≤ b.val (least os)) (h1 : ∀ p, zs p = false → a.val (great os B p) ≤ b.val (great os B p)) : F.leq G := by
  have f0 : Fits zs os (least os) := ⟨fun p hp => by simp [least, one, hz p hp], fun p hp => by simp [least, one, hp]⟩
  refine ⟨fun p k hp => ?_, by rw [least_worth hF f0, least_worth hG f0] at h0; exact h0⟩
  have hzp := (hF.par p k hp).2
  have fB : Fits zs os (great os B p) := by
    refine ⟨fun q hq => ?_, fun q hq => ?_⟩
    · have : q ≠ p := by rintro rfl; rw [hzp] at hq; simp at hq
      simp [great, this, one, hz q hq]
    · unfold great
      split
      · omega
      · simp [one, hq]
  have h2 := h1 p hzp
  have h3 := (hF.val _ fB).le p k hp
  have h4 := hG.val _ fB
  have gp : great os B p p = B := by simp [great]
  have htop := hG.top
  have hone : k + B - one os p ≥ B := by
    unfold one
    split
    · rename_i ho; have := hF.one p k hp ho; omega
    · omega
  have ho1 := one_le os p
  rw [gp] at h3
  rcases h4.at_ with h5 | ⟨q, m, h5, h6⟩
  · omega
  · by_cases hq : q = p
    · subst hq
      rw [gp] at h6
      exact ⟨m, h5, by omega⟩
    · have gq : great os B p q = one os q := by simp [great, hq]
      rw [gq] at h6
      have := hG.ge q m h5
      omega
theorem leq_iff {a b : Lv} {zs os : ByteArray → Bool} {F G : Fm} (hF : FmOk a zs os F) (hG : FmOk b zs os G) (hz : ∀ p, zs p = true → os p = false) : F.leq G ↔ ∀ v, Fits zs os v → a.val v ≤ b.val v := by
  refine ⟨fun h v hv => leq_worth hF hG h hv, fun h => leq_of_tests hF hG hz (B := b.sucs + 2) (Nat.le_refl _) (h _ ?_) (fun p hp => h _ ?_)⟩
  · exact ⟨fun p hp => by simp [least, one, hz p hp], fun p hp => by simp [least, one, hp]⟩
  · refine ⟨fun q hq => ?_, fun q hq => ?_⟩
    · have : q ≠ p := by rintro rfl; rw [hp] at hq; simp at hq
      simp [great, this, one, hz q hq]
    · unfold great
      split
      · omega
      · simp [one, hq]

/-! Where each parameter is known to be nought or not, each level has a form. -/
theorem param_form {s : ByteArray} {zs os : ByteArray → Bool} (h : zs s = false) : FmOk (.param s) zs os ⟨one os s, fun p => if p = s then some (one os s) else none⟩ := by
  refine ⟨fun p k hp => ?_, fun p k hp ho => ?_, fun p k hp => ?_, by have := one_le os s; simp [Lv.sucs]; omega, fun v hv => ⟨hv.one s, fun p k hp => ?_, .inr ⟨s, one os s, by simp, by simp [Lv.val]; omega⟩⟩⟩
  · simp only at hp
    split at hp
    · obtain rfl := Option.some.inj hp; exact Nat.le_refl _
    · simp at hp
  · simp only at hp
    split at hp
    · rename_i hps
      obtain rfl := Option.some.inj hp
      subst hps
      simp [Go.Ab.one, ho]
    · simp at hp
  · simp only at hp
    split at hp
    · rename_i hps; subst hps; exact ⟨by simp [Lv.pars], h⟩
    · simp at hp
  · simp only at hp
    split at hp
    · rename_i hps
      obtain rfl := Option.some.inj hp
      subst hps
      simp [Lv.val]; omega
    · simp at hp
theorem param_zero {s : ByteArray} {zs os : ByteArray → Bool} (h : zs s = true) : FmOk (.param s) zs os Fm.nil :=
  (Part.nil (.param s) zs os).ok (Nat.zero_le _) fun v hv => by simp [Lv.val, hv.z s h]
theorem zero_form (zs os : ByteArray → Bool) : FmOk .zero zs os Fm.nil := (Part.nil .zero zs os).ok (Nat.zero_le _) fun _ _ => rfl
theorem succ_form {l : Lv} {zs os : ByteArray → Bool} {F : Fm} (h : FmOk l zs os F) : FmOk (.succ l) zs os (Fm.nil.join F 1) :=
  ((Part.nil (.succ l) zs os).join h (fun _ hp => hp) 1 (Nat.zero_le _) (Nat.le_refl _)).ok (by simp [Lv.sucs]) fun v _ => by simp [Lv.val]
theorem max_form {a b : Lv} {zs os : ByteArray → Bool} {F G : Fm} (h : FmOk a zs os F) (k : FmOk b zs os G) : FmOk (.max a b) zs os ((Fm.nil.join F 0).join G 0) :=
  (((Part.nil (.max a b) zs os).join h (fun _ hp => List.mem_append_left _ hp) 0 (Nat.zero_le _) (Nat.le_refl _)).join k (fun _ hp => List.mem_append_right _ hp) 0 (top' := a.sucs + b.sucs + 1) (by omega) (by omega)).ok (by simp [Lv.sucs])
    fun v _ => by simp [Lv.val]
theorem imax_none {a b : Lv} {zs os : ByteArray → Bool} {G : Fm} (k : FmOk b zs os G) (h0 : G.n = 0) (hf : ∀ p, G.f p = none) : FmOk (.imax a b) zs os Fm.nil :=
  (Part.nil (.imax a b) zs os).ok (Nat.zero_le _) fun v hv => by
    have hb : b.val v = 0 := by
      rcases (k.val v hv).at_ with h1 | ⟨p, c, h1, _⟩
      · rw [h1, h0]
      · rw [hf p] at h1; simp at h1
    simp [Lv.val, hb]
theorem imax_form {a b : Lv} {zs os : ByteArray → Bool} {F G : Fm} (h : FmOk a zs os F) (k : FmOk b zs os G) (h0 : G.n ≠ 0) : FmOk (.imax a b) zs os ((Fm.nil.join G 0).join F 0) :=
  (((Part.nil (.imax a b) zs os).join k (fun _ hp => List.mem_append_right _ hp) 0 (Nat.zero_le _) (Nat.le_refl _)).join h (fun _ hp => List.mem_append_left _ hp) 0 (top' := a.sucs + b.sucs + 1) (by omega) (by omega)).ok (by simp [Lv.sucs])
    fun v hv => by
      have hb : b.val v ≠ 0 := by have := (k.val v hv).n; omega
      simp [Lv.val, hb, Nat.max_comm]
theorem full_form (zs os : ByteArray → Bool) (hc : ∀ p, zs p = false → os p = true) : ∀ l : Lv, ∃ F, FmOk l zs os F
  | .zero => ⟨_, zero_form zs os⟩
  | .succ l => by obtain ⟨F, h⟩ := full_form zs os hc l; exact ⟨_, succ_form h⟩
  | .max a b => by obtain ⟨F, h⟩ := full_form zs os hc a; obtain ⟨G, k⟩ := full_form zs os hc b; exact ⟨_, max_form h k⟩
  | .imax a b => by
    obtain ⟨F, h⟩ := full_form zs os hc a
    obtain ⟨G, k⟩ := full_form zs os hc b
    by_cases h0 : G.n = 0
    · refine ⟨_, imax_none k h0 fun p => ?_⟩
      cases hp : G.f p with
      | none => rfl
      | some c =>
        have := k.one p c hp (hc p (k.par p c hp).2)
        have := k.ge p c hp
        omega
    · exact ⟨_, imax_form h k h0⟩
  | .param s => by
    cases hz : zs s with
    | true => exact ⟨_, param_zero hz⟩
    | false => exact ⟨_, param_form hz⟩

/-- At most, under all valuations. -/
def Lv.Leq (a b : Lv) : Prop := ∀ v, a.val v ≤ b.val v
/-- Nought, one, and a great number are enough. -/
theorem leq_three {a b : Lv} {B : Nat} (hB : b.sucs + 2 ≤ B) (h : ∀ v : ByteArray → Nat, (∀ p, v p = 0 ∨ v p = 1 ∨ v p = B) → a.val v ≤ b.val v) : a.Leq b := by
  intro v
  obtain ⟨F, hF⟩ := full_form (fun p => v p == 0) (fun p => !(v p == 0)) (fun p hp => by have hp' : (v p == 0) = false := hp; show (!(v p == 0)) = true; rw [hp']; rfl) a
  obtain ⟨G, hG⟩ := full_form (fun p => v p == 0) (fun p => !(v p == 0)) (fun p hp => by have hp' : (v p == 0) = false := hp; show (!(v p == 0)) = true; rw [hp']; rfl) b
  have hv : Fits (fun p => v p == 0) (fun p => !(v p == 0)) v := ⟨fun p hp => by simpa using hp, fun p hp => by simp at hp; omega⟩
  refine leq_worth hF hG (leq_of_tests hF hG (fun p hp => by have hp' : (v p == 0) = true := hp; show (!(v p == 0)) = false; rw [hp']; rfl) hB (h _ fun p => ?_) (fun p _ => h _ fun q => ?_)) hv
  · unfold least one
    split
    · exact .inr (.inl rfl)
    · exact .inl rfl
  · unfold great
    split
    · exact .inr (.inr rfl)
    · unfold one
      split
      · exact .inr (.inl rfl)
      · exact .inl rfl
end Go.Ab
end
