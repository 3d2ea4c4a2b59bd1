/- Regions: the abstract run is met by the real one. -/
import Derived.Test.YtcpdcpgblcapeaaDoorAbFrame2
set_option linter.unusedSimpArgs false
set_option linter.unusedVariables false
set_option linter.deprecated false
namespace Go.Ab
section
variable {P : Program} {C : Ctx} {H : Hints} {call : CallF}

theorem aop_sound (hC : CtxOk P C) (hcall : CallOk P C call) {o : Oper} {st : St} {K : Out → Option Res} {r : Res} (h : aop C H call o st K = some r) : ∃ out, K out = some r ∧ Sound1 P C o st out := by
  rw [aop, actK_eq] at h
  obtain ⟨e, he, hk⟩ := bind2 h
  cases e with
  | val x => exact ⟨_, hk, sound_val o x fun G lam a w hI => act_val hC he G lam a w hI⟩
  | getL r of n ag sl => exact eff_getL hC he hk
  | setL r of cs => exact eff_setL hC he hk
  | newL cs => exact eff_newL hC he hk
  | getS p n ag => exact eff_getS hC he hk
  | takeS p => exact eff_takeS hC he hk
  | setS p cs => exact eff_setS hC he hk
  | newS t cs => exact eff_newS hC he hk
  | tupTake r i => exact eff_tupTake he hk
  | call f args n => exact eff_call hcall he hk
  | pan v => exact eff_pan he hk

theorem wp_mono2 {o : Oper} {a : Act} {w : World} {K K' : Act → World → Prop} {Q Q' : Exit → Act → World → Prop} (h : o.wp P a w K Q) (hk : ∀ a w, K a w → K' a w) (hq : ∀ e a w, Q e a w → Q' e a w) : o.wp P a w K' Q' := by
  unfold Oper.wp at *
  generalize (execOp a.eval o).run P w = r at *
  have hl : LetsOut Q → LetsOut Q' := fun ⟨a, w, h⟩ => ⟨a, w, hq _ _ _ h⟩
  cases r with
  | ok x w' =>
    cases x <;> first | exact hk _ _ h | exact h.elim | skip
    · refine Calls.mono h fun e w'' he => ?_
      cases e with
      | returned v => exact hk _ _ he
      | panicked chain => exact hq _ _ _ he
      | outgrown => exact hl he
    · exact Rows.mono h fun v w'' hv => hk _ _ hv
  | halt x w' => cases x <;> first | exact hq _ _ _ h | exact h.elim

def OQ (C : Ctx) (G : Gh) (w : World) (out : Out) (e : Exit) (a' : Act) (w' : World) : Prop := (e = .normal ∧ NP C G w out a' w') ∨ QP C G w out e a' w'

theorem OQ.trans {G G1 : Gh} {w w1 : World} {out : Out} {e : Exit} {a' : Act} {w' : World} (x : Ext G w G1 w1) (h : OQ C G1 w1 out e a' w') : OQ C G w out e a' w' := by
  rcases h with ⟨h1, st', G', lam', h2, h3, h4⟩ | ⟨v, st', c, G', h1, h2, h3, h4, h5, h6⟩
  · exact .inl ⟨h1, st', G', lam', h2, x.trans h3, h4⟩
  · exact .inr ⟨v, st', c, G', h1, h2, h3, x.trans h4, h5, h6⟩

theorem wpOps_mono2 {ops : Array Oper} {Q Q' : Exit → Act → World → Prop} (hq : ∀ e a w, Q e a w → Q' e a w) : ∀ (l : List Nat) (a : Act) (w : World), wpOps P ops Q l a w → wpOps P ops Q' l a w
  | [], _, _, h => hq _ _ _ h
  | i :: rest, a, w, h => by
    simp only [wpOps] at *
    split
    · rename_i hi
      rw [hi] at h
      exact wpOps_mono2 hq rest a w h
    · rename_i o hi
      rw [hi] at h
      simp only at h
      split
      · rename_i hw
        rw [if_pos hw] at h
        rcases h with h | ⟨h1, h2⟩
        · exact .inl (wp_mono2 h (fun a w => wpOps_mono2 hq rest a w) hq)
        · exact .inr ⟨h1, let ⟨a, w, h⟩ := h2; ⟨a, w, hq _ _ _ h⟩⟩
      · rename_i hw
        rw [if_neg hw] at h
        exact wpOps_mono2 hq rest _ w h

/-- What a region's operations come to. -/
def SoundN (P : Program) (C : Ctx) (ops : Array Oper) (l : List Nat) (st : St) (out : Out) : Prop :=
  ∀ G lam a w, Inv C.glob G lam a w st → wpOps P ops (OQ C G w out) l a w

theorem soundN_step {ops : Array Oper} {i : Nat} {rest : List Nat} {o : Oper} (hi : ops[i]? = some o) {st : St} {out1 out : Out} (h1 : Sound1 P C o st out1)
    (hw : ∀ G lam a w, Inv C.glob G lam a w st → Region.wanted o (yielded ops a.tmps) = true)
    (h2 : match out1 with | .next st1 => SoundN P C ops rest st1 out | .pan v st1 => out = .pan v st1) : SoundN P C ops (i :: rest) st out := by
  intro G lam a w h
  simp only [wpOps, hi]
  rw [if_pos (hw G lam a w h)]
  refine .inl (wp_mono2 (h1 G lam a w h) (fun a' w' hn => ?_) (fun e a' w' hq => ?_))
  · obtain ⟨st', G', lam', rfl, e2, e3⟩ := hn
    exact wpOps_mono2 (fun e a w => OQ.trans e2) rest a' w' (h2 G' lam' a' w' e3)
  · obtain ⟨v, st', c, G', rfl, q2, q3, q4, q5, q6⟩ := hq
    simp only at h2
    subst h2
    exact .inr ⟨v, st', c, G', rfl, q2, q3, q4, q5, q6⟩

/-- A register whose value is laid open. -/
theorem Inv.open {gl : Nat → Option (List V)} {G : Gh} {lam : Nat → Nat} {a : Act} {w : World} {st : St} (h : Inv gl G lam a w st) {d : Nat} {v : V} {ow : Bool} (hd : st.regs.getD d .dead = .val v ow) :
    Rel G w v (a.tmps.getD d undef) ∧ Inv gl G lam a w (st.setReg d (.val v false)) ∧ d < a.tmps.size := by
  have hlt : d < st.regs.length := by
    rcases Nat.lt_or_ge d st.regs.length with hh | hh
    · exact hh
    · rw [List.getD_eq_getElem?_getD, List.getElem?_eq_none hh] at hd; simp at hd
  have hg : st.regs[d]? = some (.val v ow) := by rw [List.getD_eq_getElem?_getD, List.getElem?_eq_getElem hlt] at hd; rw [List.getElem?_eq_getElem hlt]; simpa using hd
  have hr := h.regs d _ hg
  refine ⟨hr.1, ⟨h.defers, by simp [St.setReg, h.len], by simp [St.setReg, h.lenl], fun r x hx => ?_, h.locs, h.sto⟩, by rw [h.len]; exact hlt⟩
  simp only [St.setReg, List.getElem?_set] at hx
  split at hx
  · rename_i hr'
    subst hr'
    obtain rfl := Option.some.inj hx
    exact ⟨hr.1, fun ho => by simp at ho⟩
  · exact h.regs r x hx

theorem asBool_rel {v : V} {b : Bool} (h : v.asBool = some b) {G : Gh} {w : World} {c : Value} (hr : Rel G w v c) : c = .bool b := by
  rw [asBool_some h] at hr; exact rel_bool hr

theorem yielded_of {ops : Array Oper} {tmps : Array Value} {j d : Nat} {b : Bool} (hd : (ops[j]?).bind (·.dst) = some d) (hs : d < tmps.size) (hv : tmps.getD d undef = .bool b) : yielded ops tmps j = some b := by
  unfold yielded
  rw [hd]
  have : tmps[d]? = some (.bool b) := by
    rw [Array.getElem?_eq_getElem hs]
    rw [Array.getD_eq_getD_getElem?, Array.getElem?_eq_getElem hs] at hv
    simpa using hv
  simp [this]

theorem setReg_same {st : St} {d : Nat} {v : V} {ow b : Bool} (hd : st.regs.getD d .dead = .val v ow) (hb : v.asBool = some b) : st.setReg d (.val (.bool b) ow) = st := by
  rw [asBool_some hb] at hd
  have : st.regs.set d (.val (.bool b) ow) = st.regs := by
    apply List.ext_getElem?
    intro i
    rw [List.getElem?_set]
    split
    · rename_i h
      subst h
      split
      · rename_i hl
        rw [List.getD_eq_getElem?_getD, List.getElem?_eq_getElem hl] at hd
        rw [List.getElem?_eq_getElem hl]
        simp at hd
        rw [hd]
      · rename_i hl
        rw [List.getElem?_eq_none (by omega)]
    · rfl
  simp only [St.setReg, this]

/-- One operation of a region, with no continuation. -/
def stepF (C : Ctx) (H : Hints) (call : CallF) (dr : Option (List (List Nat))) (ops : Array Oper) (i : Nat) (st : St) : Option Out := match ops[i]? with
  | none => none
  | some o => (grd (chkOk H dr o st.regs)).bind fun _ => match o.guard with
    | none => aopF C H call o st
    | some (j, want) => match (ops[j]?).bind (·.dst) with
      | none => none
      | some d => match st.regs.getD d .dead with
        | .val v _ => v.asBool.bind fun b => if b = want then aopF C H call o st else some (.next (st.put o.dst (.tup [])))
        | .tup [] => some (.next (st.put o.dst (.tup [])))
        | _ => none

def kstep (dr : Option (List (List Nat))) (i : Nat) (rest : List Nat) (go : St → Option Res) (K : Out → Option Res) : Out → Option Res := fun out => match out with
  | .next st => go st
  | .pan v st => (grd (panOk dr i rest)).bind fun _ => K (.pan v st)

theorem aops_cons (dr : Option (List (List Nat))) (ops : Array Oper) (i : Nat) (rest : List Nat) (st : St) (K : Out → Option Res) :
    aops C H call dr ops (i :: rest) st K = (stepF C H call dr ops i st).bind (kstep dr i rest (fun st => aops C H call dr ops rest st K) K) := by
  simp only [aops, stepF]
  cases hi : ops[i]? with
  | none => rfl
  | some o =>
    simp only
    cases grd (chkOk H dr o st.regs) with
    | none => rfl
    | some u =>
      simp only [Option.bind_some]
      cases hg : o.guard with
      | none => exact aop_eq _ _ _
      | some jw =>
        obtain ⟨j, want⟩ := jw
        simp only
        cases hd : (ops[j]?).bind (·.dst) with
        | none => rfl
        | some d =>
          simp only
          cases hv : st.regs.getD d .dead with
          | val v ow =>
            simp only
            cases hb : v.asBool with
            | none => rfl
            | some b =>
              simp only [Option.bind_some]
              have hs := setReg_same hv hb
              cases b with
              | true =>
                simp only [cond_true, hs]
                cases want with
                | true => simp only [if_true]; exact aop_eq _ _ _
                | false => rfl
              | false =>
                simp only [cond_false, hs]
                cases want with
                | true => rfl
                | false => simp only [Bool.false_eq_true, if_false, if_true]; exact aop_eq _ _ _
          | tup cs => cases cs <;> rfl
          | dead => rfl
          | lptr r o => rfl

theorem aopF_sound (hC : CtxOk P C) (hcall : CallOk P C call) {o : Oper} {st : St} {out : Out} (h : aopF C H call o st = some out) : Sound1 P C o st out := by
  classical
  let K : Out → Option Res := fun o' => if o' = out then some (.ret [], []) else none
  have h1 : aop C H call o st K = some (.ret [], []) := by rw [aop_eq, h]; simp [K]
  obtain ⟨o', h2, h3⟩ := aop_sound hC hcall h1
  have : o' = out := by
    simp only [K] at h2
    split at h2
    · assumption
    · simp at h2
  rw [← this]; exact h3

/-- One operation: carried out or passed by. -/
theorem stepF_sound (hC : CtxOk P C) (hcall : CallOk P C call) {dr : Option (List (List Nat))} {ops : Array Oper} {i : Nat} {st : St} {out : Out} (h : stepF C H call dr ops i st = some out) {G : Gh} {lam : Nat → Nat} {a : Act} {w : World} (hI : Inv C.glob G lam a w st) :
    ∃ o, ops[i]? = some o ∧ ((Region.wanted o (yielded ops a.tmps) = true ∧ o.wp P a w (NP C G w out) (QP C G w out)) ∨ (Region.wanted o (yielded ops a.tmps) = false ∧ NP C G w out (a.put o.dst undef) w)) := by
  simp only [stepF] at h
  split at h
  · simp at h
  · rename_i o hi
    refine ⟨o, hi, ?_⟩
    obtain ⟨_, _, h⟩ := bind2 h
    split at h
    · rename_i hg
      exact .inl ⟨by simp [Region.wanted, hg], aopF_sound hC hcall h G lam a w hI⟩
    · rename_i j want hg
      split at h
      · simp at h
      · rename_i d hd
        split at h
        · rename_i v ow hv
          obtain ⟨b, hb, h2⟩ := bind2 h
          clear h
          have hopen : yielded ops a.tmps j = some b := by
            obtain ⟨h1, _, h2⟩ := hI.open hv
            exact yielded_of hd h2 (asBool_rel hb h1)
          split at h2
          · rename_i hbw
            subst hbw
            exact .inl ⟨by simp [Region.wanted, hg, hopen], aopF_sound hC hcall h2 G lam a w hI⟩
          · rename_i hbw
            obtain rfl := Option.some.inj h2
            refine .inr ⟨by simp [Region.wanted, hg, hopen, hbw], _, G, lam, rfl, Ext.refl _ _, hI.put o.dst (.tup []) undef fun _ _ => ⟨[], rfl, rfl, by simp⟩⟩
        · rename_i hv
          have hy : yielded ops a.tmps j ≠ some want := by
            have hr := eval_reg hI d
            rw [hv] at hr
            obtain ⟨xs, hx, _⟩ := hr
            have hx : a.tmps.getD d undef = .tuple xs.toArray := hx
            unfold yielded
            rw [hd]
            simp only [Array.getD_eq_getD_getElem?] at hx
            cases hg2 : a.tmps[d]? with
            | none => simp [hg2]
            | some v => rw [hg2] at hx; simp only [Option.getD_some] at hx; subst hx; simp [hg2]
          obtain rfl := Option.some.inj h
          refine .inr ⟨by simp [Region.wanted, hg, hy], _, G, lam, rfl, Ext.refl _ _, hI.put o.dst (.tup []) undef fun _ _ => ⟨[], rfl, rfl, by simp⟩⟩
        · simp at h

/-- The operations in a given order, one behind the other. -/
inductive Runs (C : Ctx) (H : Hints) (call : CallF) (dr : Option (List (List Nat))) (ops : Array Oper) : List Nat → St → Out → Prop
  | nil (st : St) : Runs C H call dr ops [] st (.next st)
  | next {i : Nat} {rest : List Nat} {st st1 : St} {out : Out} : stepF C H call dr ops i st = some (.next st1) → Runs C H call dr ops rest st1 out → Runs C H call dr ops (i :: rest) st out
  | pan {i : Nat} {rest : List Nat} {st st1 : St} {v : V} : stepF C H call dr ops i st = some (.pan v st1) → panOk dr i rest = true → Runs C H call dr ops (i :: rest) st (.pan v st1)

theorem aops_runs {dr : Option (List (List Nat))} {ops : Array Oper} : ∀ (l : List Nat) (st : St) (K : Out → Option Res) (r : Res), aops C H call dr ops l st K = some r → ∃ out, K out = some r ∧ Runs C H call dr ops l st out
  | [], st, K, r, h => ⟨.next st, h, .nil st⟩
  | i :: rest, st, K, r, h => by
    rw [aops_cons] at h
    obtain ⟨out1, h1, h2⟩ := bind2 h
    cases out1 with
    | next st1 =>
      obtain ⟨out, h3, h4⟩ := aops_runs rest st1 K r h2
      exact ⟨out, h3, .next h1 h4⟩
    | pan v st1 =>
      simp only [kstep] at h2
      obtain ⟨u, hu, h2⟩ := bind2 h2
      exact ⟨_, h2, .pan h1 (grd_some hu)⟩

theorem runs_sound (hC : CtxOk P C) (hcall : CallOk P C call) {dr : Option (List (List Nat))} {ops : Array Oper} {l : List Nat} {st : St} {out : Out} (h : Runs C H call dr ops l st out) : SoundN P C ops l st out := by
  induction h with
  | nil st => exact fun G lam a w hI => .inl ⟨rfl, st, G, lam, rfl, Ext.refl _ _, hI⟩
  | @next i rest st st1 out h1 h2 ih =>
    intro G lam a w hI
    obtain ⟨o, hi, hh⟩ := stepF_sound hC hcall h1 hI
    simp only [wpOps, hi]
    rcases hh with ⟨hw, hh⟩ | ⟨hw, st', G', lam', e1, e2, e3⟩
    · rw [if_pos hw]
      refine .inl (wp_mono2 hh (fun a' w' hn => ?_) (fun e a' w' hq => ?_))
      · obtain ⟨st', G', lam', e1, e2, e3⟩ := hn
        cases e1
        exact wpOps_mono2 (fun e a w => OQ.trans e2) rest a' w' (ih G' lam' a' w' e3)
      · obtain ⟨v, st', c, G', e1, _⟩ := hq; cases e1
    · rw [if_neg (by rw [hw]; simp)]
      cases e1
      exact wpOps_mono2 (fun e a w => OQ.trans e2) rest _ w (ih G' lam' _ w e3)
  | @pan i rest st st1 v h1 h2 =>
    intro G lam a w hI
    obtain ⟨o, hi, hh⟩ := stepF_sound hC hcall h1 hI
    simp only [wpOps, hi]
    rcases hh with ⟨hw, hh⟩ | ⟨hw, st', G', lam', e1, e2, e3⟩
    · rw [if_pos hw]
      refine .inl (wp_mono2 hh (fun a' w' hn => ?_) (fun e a' w' hq => .inr hq))
      obtain ⟨st', G', lam', e1, e2, e3⟩ := hn
      cases e1
    · cases e1

theorem aops_sound (hC : CtxOk P C) (hcall : CallOk P C call) {dr : Option (List (List Nat))} {ops : Array Oper} (l : List Nat) (st : St) (K : Out → Option Res) (r : Res) (h : aops C H call dr ops l st K = some r) : ∃ out, K out = some r ∧ SoundN P C ops l st out :=
  let ⟨out, h1, h2⟩ := aops_runs l st K r h
  ⟨out, h1, runs_sound hC hcall h2⟩
end
end Go.Ab
