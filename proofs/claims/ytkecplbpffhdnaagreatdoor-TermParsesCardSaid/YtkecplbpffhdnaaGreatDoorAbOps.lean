/- The frame of a step: two that touch nothing of each other's may change places. Regions: the abstract run is met by the real one. -/
import Derived.Test.YtkecplbpffhdnaaGreatDoorAbState
import Derived.Test.YtkecplbpffhdnaaGreatDoorAbOp2
set_option linter.unusedSimpArgs false
set_option linter.unusedVariables false
set_option linter.deprecated false
section
namespace Go.Ab
section
variable {C : Ctx} {H : Hints} {call : CallF}

/-- What an effect may touch, by the operation's own text. -/
def Compat (H : Hints) (o : Oper) : Eff → Prop
  | .val _ => True
  | .getL r _ _ _ steal => (locF H o).has r = true ∧ (steal = true → (locW H o).has r = true)
  | .setL r _ _ => (locF H o).has r = true ∧ (locW H o).has r = true
  | .newL _ => wild H o = true
  | .getS .. => stoF H o = true
  | .tupTake r _ => r ∈ regW H o
  | _ => stoW H o = true

theorem opndT_lptr {regs : List RV} {t : TypeId} {y : Operand} {r of : Nat} (h : opndT C regs t y = .lptr r of) : ∃ a, y = .tmp a ∧ regs.getD a .dead = .lptr r of := by
  cases y with
  | tmp a => exact ⟨a, rfl, h⟩
  | const c => simp only [opndT] at h; split at h <;> (try split at h) <;> (try split at h) <;> simp at h
  | global g => simp only [opndT] at h; split at h <;> simp at h
  | func f => simp [opndT] at h

theorem locOf_has {a r of : Nat} {regs : List RV} (hc : addrCls H (.tmp a) = .loc) (hr : regs.getD a .dead = .lptr r of) (hk : (match assoc H.roots a with | some q => isRoot q (regs.getD a .dead) | none => true) = true) : (locOf H (.tmp a)).has r = true := by
  have hl : H.lp.contains a = true := by
    simp only [addrCls] at hc
    split at hc
    · assumption
    · split at hc <;> simp at hc
  simp only [locOf, hl, if_true]
  cases hq : assoc H.roots a with
  | none => rfl
  | some q =>
    rw [hq, hr] at hk
    simp [isRoot] at hk
    simp [LF.has, hk]

theorem act_compat {o : Oper} {e : Eff} {regs : List RV} (ha : act C H o regs = some e) (hk : rootOk H o regs = true) : Compat H o e := by
  have hi := act_inv ha
  cases e with
  | val x => trivial
  | getL r of n ag sl =>
    obtain ⟨t, y, i, ho, hT, hy, rfl, rfl, rfl⟩ := hi
    obtain ⟨a, rfl, hr⟩ := opndT_lptr hy
    simp only [act, ho] at ha
    obtain ⟨i', _, ha⟩ := bind2 ha
    simp only [rootOk, ho] at hk
    have hc : addrCls H (.tmp a) = .loc := by
      split at ha
      · assumption
      · obtain ⟨v, _, ha⟩ := bind2 ha; simp at ha
      · split at ha
        · split at ha <;> simp at ha
        · simp at ha
      · simp at ha
    have := locOf_has hc hr hk
    exact ⟨by simp only [locF, ho]; exact this, fun hs => by simp only [locW, ho, hs, if_true]; exact this⟩
  | setL r of cs =>
    obtain ⟨t, y, z, i, c, ho, hT, _, _, hy, rfl⟩ := hi
    obtain ⟨a, rfl, hr⟩ := opndT_lptr hy
    simp only [act, ho] at ha
    obtain ⟨i', _, ha⟩ := bind2 ha
    obtain ⟨c', _, ha⟩ := bind2 ha
    obtain ⟨u', _, ha⟩ := bind2 ha
    simp only [rootOk, ho] at hk
    have hc : addrCls H (.tmp a) = .loc := by
      split at ha
      · assumption
      · simp at ha
      · simp at ha
    have := locOf_has hc hr hk
    exact ⟨by simp only [locF, ho]; exact this, by simp only [locW, ho]; exact this⟩
  | newL cs =>
    rcases hi with ⟨t, i, ho, _⟩ | ⟨t, x, i, c, ho, _⟩
    · simp only [act, ho] at ha
      obtain ⟨i', _, ha⟩ := bind2 ha
      split at ha
      · simp at ha
      · split at ha
        · simp at ha
        · rename_i hne; simpa [Compat, wild, ho] using hne
    · simp only [act, ho] at ha
      obtain ⟨i', _, ha⟩ := bind2 ha
      obtain ⟨c', _, ha⟩ := bind2 ha
      obtain ⟨u', _, ha⟩ := bind2 ha
      split at ha
      · simp at ha
      · rename_i hne; simpa [Compat, wild, ho] using hne
  | getS p n ag =>
    obtain ⟨t, y, i, ow, ho, _⟩ := hi
    simp only [act, ho] at ha
    obtain ⟨i', _, ha⟩ := bind2 ha
    split at ha
    · simp at ha
    · obtain ⟨v, _, ha⟩ := bind2 ha; simp at ha
    · rename_i hc _
      simp [Compat, stoF, ho, hc]
    · simp at ha
  | takeS p =>
    obtain ⟨t, y, i, ow, ho, _⟩ := hi
    simp only [act, ho] at ha
    obtain ⟨i', _, ha⟩ := bind2 ha
    split at ha
    · simp at ha
    · obtain ⟨v, _, ha⟩ := bind2 ha; simp at ha
    · rename_i hc _
      split at ha
      · rename_i hs
        simp only [Compat, stoW, ho, hc, hs]; rfl
      · simp at ha
    · simp at ha
  | setS p cs =>
    obtain ⟨t, y, z, i, c, ow, ho, _⟩ := hi
    simp only [act, ho] at ha
    obtain ⟨i', _, ha⟩ := bind2 ha
    obtain ⟨c', _, ha⟩ := bind2 ha
    obtain ⟨u', _, ha⟩ := bind2 ha
    split at ha
    · simp at ha
    · rename_i hc _
      simp only [Compat, stoW, ho, hc]; rfl
    · simp at ha
  | newS t cs =>
    rcases hi with ⟨t, i, ho, _⟩ | ⟨t, x, i, c, ho, _⟩ <;> simp [Compat, stoW, ho]
  | tupTake r i =>
    simp only at hi
    simp [Compat, regW, hi, tmpOf]
  | call f args n =>
    obtain ⟨c, g, gv, first, cap, as, ho, hcal, _⟩ := hi
    simp [Compat, stoW, ho, hcal]
  | pan v =>
    obtain ⟨x, ho, _⟩ := hi
    simp [Compat, stoW, ho]

/-- The same effect, with no continuation. -/
def applyF (H : Hints) (call : CallF) (dst : Option Nat) (st : St) : Eff → Option Out
  | .val x => some (.next (st.put dst x))
  | .getL r o n agg steal => if steal then
        (if o < (st.locs.getD r []).length ∧ n = 1 ∧ agg = false then
          (if ((st.locs.getD r []).getD o cellD).2 then some (.next ({ st with locs := st.locs.set r ((st.locs.getD r []).set o (((st.locs.getD r []).getD o cellD).1, false)) }.put dst (.val ((st.locs.getD r []).getD o cellD).1 true))) else none) else none)
      else (gather (st.locs.getD r []) o n agg).bind fun v => some (.next (st.put dst (.val v false)))
  | .setL r o cs => if o + cs.length ≤ (st.locs.getD r []).length then some (.next ({ st with locs := st.locs.set r (setCells (st.locs.getD r []) o cs) }.put dst .dead)) else none
  | .newL cs => match dst with
    | some d => if d < st.locs.length ∧ cs.length ≠ 0 ∧ (st.regs.all fun x => !isLptr d x) = true then some (.next ({ st with locs := st.locs.set d cs }.setReg d (.lptr d 0))) else none
    | none => none
  | .getS p n agg => (memGet st.sto p agg n).bind fun v => some (.next (st.put dst (.val v false)))
  | .takeS p => (memTake st.sto p).bind fun v => some (.next ({ st with sto := v.2 }.put dst (.val v.1 true)))
  | .setS p cs => (memSet st.sto p cs).bind fun σ => some (.next ({ st with sto := σ }.put dst .dead))
  | .newS t cs => match dst with
    | some d => some (.next ({ st with sto := st.sto ++ [cs] }.setReg d (.val (.ptr t st.sto.length 0) false)))
    | none => none
  | .tupTake r i => match st.regs.getD r .dead with
    | .tup cs => match cs[i]? with
      | some c => some (.next ((st.setReg r (.tup (cs.set i (c.1, false)))).put dst (.val c.1 c.2)))
      | none => none
    | _ => none
  | .call f args n => match call f args st.sto with
    | none => none
    | some r => match r.1 with
      | .ret vs => if vs.length = n then (grd (toksOk H dst n vs)).bind fun _ => some (.next ({ st with sto := r.2 }.put dst (resV H dst n vs))) else none
      | .pan v => some (.pan v { st with sto := r.2 })
  | .pan v => some (.pan v st)

theorem apply_eq (dst : Option Nat) (st : St) (K : Out → Option Res) (e : Eff) : apply H call dst st K e = (applyF H call dst st e).bind K := by
  cases e <;> simp only [apply, applyF] <;> (try rfl)
  case getL => split <;> (try split) <;> (try split) <;> (first | rfl | (cases gather _ _ _ _ <;> rfl))
  case setL => split <;> rfl
  case newL =>
    cases dst with
    | none => rfl
    | some d => simp only; split <;> rfl
  case getS => cases memGet _ _ _ _ <;> rfl
  case takeS => cases memTake _ _ <;> rfl
  case setS => cases memSet _ _ _ <;> rfl
  case newS => cases dst <;> rfl
  case tupTake r i =>
    cases st.regs.getD r .dead <;> try rfl
    rename_i cs
    simp only
    cases cs[i]? <;> rfl
  case call f args n =>
    cases call f args st.sto with
    | none => rfl
    | some r =>
      simp only
      cases r.1 with
      | pan v => rfl
      | ret vs =>
        simp only
        split
        · cases grd (toksOk H dst n vs) <;> rfl
        · rfl

def aopF (C : Ctx) (H : Hints) (call : CallF) (o : Oper) (st : St) : Option Out := (act C H o st.regs).bind fun e => applyF H call o.dst (st.clear (clearOf H o)) e
theorem aop_eq (o : Oper) (st : St) (K : Out → Option Res) : aop C H call o st K = (aopF C H call o st).bind K := by
  simp only [aop, aopF, actK_eq]
  cases act C H o st.regs with
  | none => rfl
  | some e => exact apply_eq _ _ _ _

structure Ag (rs : List Nat) (l : LF) (f : Bool) (s t : St) : Prop where
  lenr : s.regs.length = t.regs.length
  lenl : s.locs.length = t.locs.length
  regs : ∀ r, r ∈ rs → s.regs[r]? = t.regs[r]?
  locs : ∀ r, l.has r = true → s.locs[r]? = t.locs[r]?
  sto : f = true → s.sto = t.sto

structure Off (rs : List Nat) (l : LF) (f : Bool) (s t : St) : Prop where
  lenr : t.regs.length = s.regs.length
  lenl : t.locs.length = s.locs.length
  regs : ∀ r, r ∉ rs → t.regs[r]? = s.regs[r]?
  locs : ∀ r, l.has r = false → t.locs[r]? = s.locs[r]?
  sto : f = false → t.sto = s.sto

theorem Off.refl (rs : List Nat) (l : LF) (f : Bool) (s : St) : Off rs l f s s := ⟨rfl, rfl, fun _ _ => rfl, fun _ _ => rfl, fun _ => rfl⟩

theorem Ag.put {rs : List Nat} {l : LF} {f : Bool} {s t : St} (h : Ag rs l f s t) (dst : Option Nat) (x : RV) : Ag rs l f (s.put dst x) (t.put dst x) := by
  cases dst with
  | none => exact h
  | some d =>
    refine ⟨by simp [St.put, St.setReg, h.lenr], h.lenl, fun r hr => ?_, h.locs, h.sto⟩
    simp only [St.put, St.setReg, List.getElem?_set, h.lenr, h.regs r hr]

theorem Off.put {rs : List Nat} {l : LF} {f : Bool} {s t : St} (h : Off rs l f s t) (dst : Option Nat) (x : RV) (hd : ∀ d, dst = some d → d ∈ rs) : Off rs l f s (t.put dst x) := by
  cases dst with
  | none => exact h
  | some d =>
    refine ⟨by simp [St.put, St.setReg, h.lenr], h.lenl, fun r hr => ?_, h.locs, h.sto⟩
    have : d ≠ r := fun e => hr (e ▸ hd d rfl)
    simp only [St.put, St.setReg, List.getElem?_set_ne this, h.regs r hr]

theorem clearRegs_other (cs : List Nat) (r : Nat) (hr : r ∉ cs) : ∀ l : List RV, (clearRegs l cs)[r]? = l[r]? := by
  induction cs with
  | nil => intro l; rfl
  | cons c cs ih =>
    intro l
    rw [clearRegs, ih (fun h => hr (List.mem_cons_of_mem _ h))]
    have : c ≠ r := fun e => hr (e ▸ List.mem_cons_self ..)
    simp [List.getElem?_modify, this]

theorem clearRegs_same (cs : List Nat) (r : Nat) : ∀ l m : List RV, l[r]? = m[r]? → (clearRegs l cs)[r]? = (clearRegs m cs)[r]? := by
  induction cs with
  | nil => intro l m h; exact h
  | cons c cs ih =>
    intro l m h
    rw [clearRegs, clearRegs]
    refine ih _ _ ?_
    simp only [List.getElem?_modify, h]

theorem Ag.clear {rs : List Nat} {l : LF} {f : Bool} {s t : St} (h : Ag rs l f s t) (cs : List Nat) : Ag rs l f (s.clear cs) (t.clear cs) :=
  ⟨by simp only [St.clear, clearRegs_length]; exact h.lenr, h.lenl, fun r hr => clearRegs_same cs r _ _ (h.regs r hr), h.locs, h.sto⟩
theorem Off.clear {rs : List Nat} {l : LF} {f : Bool} {s t : St} (h : Off rs l f s t) (cs : List Nat) (hc : ∀ r ∈ cs, r ∈ rs) : Off rs l f s (t.clear cs) :=
  ⟨by simp only [St.clear, clearRegs_length]; exact h.lenr, h.lenl, fun r hr => by simp only [St.clear]; rw [clearRegs_other cs r (fun h => hr (hc r h))]; exact h.regs r hr, h.locs, h.sto⟩

theorem Ag.setLoc {rs : List Nat} {l : LF} {f : Bool} {s t : St} (h : Ag rs l f s t) (r : Nat) (x : List Cell) : Ag rs l f { s with locs := s.locs.set r x } { t with locs := t.locs.set r x } :=
  ⟨h.lenr, by simp [h.lenl], h.regs, fun r' hr => by simp only [List.getElem?_set, h.lenl, h.locs r' hr], h.sto⟩
theorem Off.setLoc {rs : List Nat} {l : LF} {f : Bool} {s t : St} (h : Off rs l f s t) (r : Nat) (x : List Cell) (hr : l.has r = true) : Off rs l f s { t with locs := t.locs.set r x } :=
  ⟨h.lenr, by simp [h.lenl], h.regs, fun r' hr' => by
    have : r ≠ r' := fun e => by rw [e, hr'] at hr; simp at hr
    simp only [List.getElem?_set_ne this, h.locs r' hr'], h.sto⟩
theorem Ag.setSto {rs : List Nat} {l : LF} {f : Bool} {s t : St} (h : Ag rs l f s t) (σ : Sto) : Ag rs l f { s with sto := σ } { t with sto := σ } := ⟨h.lenr, h.lenl, h.regs, h.locs, fun _ => rfl⟩
theorem Off.setSto {rs : List Nat} {l : LF} {f : Bool} {s t : St} (h : Off rs l f s t) (σ : Sto) (hf : f = true) : Off rs l f s { t with sto := σ } := ⟨h.lenr, h.lenl, h.regs, h.locs, fun h => by rw [hf] at h; simp at h⟩

theorem Ag.loc {rs : List Nat} {l : LF} {f : Bool} {s t : St} (h : Ag rs l f s t) {r : Nat} (hr : l.has r = true) : s.locs.getD r [] = t.locs.getD r [] := by
  rw [List.getD_eq_getElem?_getD, List.getD_eq_getElem?_getD, h.locs r hr]
theorem Ag.reg {rs : List Nat} {l : LF} {f : Bool} {s t : St} (h : Ag rs l f s t) {r : Nat} (hr : r ∈ rs) : s.regs.getD r .dead = t.regs.getD r .dead := by
  rw [List.getD_eq_getElem?_getD, List.getD_eq_getElem?_getD, h.regs r hr]

theorem stoF_of_stoW {o : Oper} (h : stoW H o = true) : stoF H o = true := by simp [stoF, h]

/-- What a step leaves behind, seen from two states that agree where it looks. -/
def Framed (rs ws : List Nat) (l lw : LF) (f fw : Bool) (s t : St) (out : Out) (step : Option Out) : Prop :=
  match out with
  | .next s1 => ∃ t1, step = some (.next t1) ∧ Ag rs l f s1 t1 ∧ Off ws lw fw s s1 ∧ Off ws lw fw t t1
  | .pan v s1 => fw = true ∧ f = true ∧ ∃ t1, step = some (.pan v t1) ∧ t1.sto = s1.sto

theorem applyF_frame {o : Oper} {e : Eff} (hk : Compat H o e) (hw : wild H o = false) {rs : List Nat} {s t s0 t0 : St} {out : Out} (hA : Ag rs (locF H o) (stoF H o) s t) (hrs : ∀ r ∈ regW H o, r ∈ rs)
    (hs : Off (regW H o) (locW H o) (stoW H o) s0 s) (ht : Off (regW H o) (locW H o) (stoW H o) t0 t) (h : applyF H call o.dst s e = some out) :
    Framed rs (regW H o) (locF H o) (locW H o) (stoF H o) (stoW H o) s0 t0 out (applyF H call o.dst t e) := by
  have hd : ∀ d, o.dst = some d → d ∈ regW H o := fun d hd => by simp [regW, hd]
  cases e with
  | val x =>
    simp only [applyF, Option.some.injEq] at h
    subst h
    exact ⟨_, rfl, hA.put _ _, hs.put _ _ hd, ht.put _ _ hd⟩
  | getL r of n ag sl =>
    obtain ⟨k1, k2⟩ := hk
    simp only [applyF] at h ⊢
    rw [← hA.loc k1]
    split at h
    · rename_i hsl
      rw [if_pos hsl]
      split at h
      · rename_i hc
        rw [if_pos hc]
        split at h
        · rename_i hc2
          rw [if_pos hc2]
          simp only [Option.some.injEq] at h
          subst h
          exact ⟨_, rfl, (hA.setLoc _ _).put _ _, (hs.setLoc _ _ (k2 hsl)).put _ _ hd, (ht.setLoc _ _ (k2 hsl)).put _ _ hd⟩
        · simp at h
      · simp at h
    · rename_i hsl
      rw [if_neg hsl]
      obtain ⟨v, hv, h⟩ := bind2 h
      simp only [Option.some.injEq] at h
      subst h
      rw [hv]
      exact ⟨_, rfl, hA.put _ _, hs.put _ _ hd, ht.put _ _ hd⟩
  | setL r of cs =>
    obtain ⟨k1, k2⟩ := hk
    simp only [applyF] at h ⊢
    rw [← hA.loc k1]
    split at h
    · rename_i hc
      rw [if_pos hc]
      simp only [Option.some.injEq] at h
      subst h
      exact ⟨_, rfl, (hA.setLoc _ _).put _ _, (hs.setLoc _ _ k2).put _ _ hd, (ht.setLoc _ _ k2).put _ _ hd⟩
    · simp at h
  | newL cs => simp only [Compat] at hk; rw [hk] at hw; simp at hw
  | getS p n ag =>
    simp only [Compat] at hk
    simp only [applyF] at h ⊢
    rw [← hA.sto hk]
    obtain ⟨v, hv, h⟩ := bind2 h
    simp only [Option.some.injEq] at h
    subst h
    rw [hv]
    exact ⟨_, rfl, hA.put _ _, hs.put _ _ hd, ht.put _ _ hd⟩
  | takeS p =>
    simp only [Compat] at hk
    simp only [applyF] at h ⊢
    rw [← hA.sto (stoF_of_stoW hk)]
    obtain ⟨v, hv, h⟩ := bind2 h
    simp only [Option.some.injEq] at h
    subst h
    rw [hv]
    exact ⟨_, rfl, (hA.setSto _).put _ _, (hs.setSto _ hk).put _ _ hd, (ht.setSto _ hk).put _ _ hd⟩
  | setS p cs =>
    simp only [Compat] at hk
    simp only [applyF] at h ⊢
    rw [← hA.sto (stoF_of_stoW hk)]
    obtain ⟨v, hv, h⟩ := bind2 h
    simp only [Option.some.injEq] at h
    subst h
    rw [hv]
    exact ⟨_, rfl, (hA.setSto _).put _ _, (hs.setSto _ hk).put _ _ hd, (ht.setSto _ hk).put _ _ hd⟩
  | newS t cs =>
    simp only [Compat] at hk
    simp only [applyF] at h ⊢
    rw [← hA.sto (stoF_of_stoW hk)]
    cases hds : o.dst with
    | none => rw [hds] at h; simp at h
    | some d =>
      rw [hds] at h
      simp only [Option.some.injEq] at h
      subst h
      exact ⟨_, rfl, (hA.setSto _).put (some d) _, (hs.setSto _ hk).put (some d) _ (by rw [← hds]; exact hd), (ht.setSto _ hk).put (some d) _ (by rw [← hds]; exact hd)⟩
  | tupTake r i =>
    simp only [Compat] at hk
    simp only [applyF] at h ⊢
    rw [← hA.reg (hrs r hk)]
    have hr : ∀ d, some r = some d → d ∈ regW H o := by rintro d ⟨⟩; exact hk
    split at h
    · split at h
      · simp only [Option.some.injEq] at h
        subst h
        exact ⟨_, rfl, (hA.put (some r) _).put _ _, (hs.put (some r) _ hr).put _ _ hd, (ht.put (some r) _ hr).put _ _ hd⟩
      · simp at h
    · simp at h
  | call f args n =>
    simp only [Compat] at hk
    simp only [applyF] at h ⊢
    rw [← hA.sto (stoF_of_stoW hk)]
    split at h
    · simp at h
    · rename_i r hr
      split at h
      · rename_i vs hvs
        split at h
        · rename_i hn
          obtain ⟨x, hx, h⟩ := bind2 h
          simp only [Option.some.injEq] at h
          subst h
          refine ⟨_, ?_, (hA.setSto r.2).put _ _, (hs.setSto _ hk).put _ _ hd, (ht.setSto _ hk).put _ _ hd⟩
          simp only [if_pos hn, hx, Option.bind_some]
        · simp at h
      · rename_i v hv
        simp only [Option.some.injEq] at h
        subst h
        exact ⟨hk, stoF_of_stoW hk, _, rfl, rfl⟩
  | pan v =>
    simp only [Compat] at hk
    simp only [applyF, Option.some.injEq] at h ⊢
    subst h
    exact ⟨hk, stoF_of_stoW hk, _, rfl, (hA.sto (stoF_of_stoW hk)).symm⟩
end
end Go.Ab
end
section
namespace Go.Ab
section
variable {P : Program} {C : Ctx} {H : Hints} {call : CallF}

theorem aop_sound (hC : CtxOk P C) (hcall : CallOk P C call) {o : Oper} {st : St} {K : Out → Option Res} {r : Res} (h : aop C H call o st K = some r) : ∃ out, K out = some r ∧ Sound1 P C o st out := by
  rw [aop, actK_eq] at h
  obtain ⟨e, he, hk⟩ := bind2 h
  cases e with
  | val x => exact ⟨_, hk, sound_val o x fun G lam a w hI => act_val hC he G lam a w hI⟩
  | getL r of n ag sl => exact eff_getL hC he hk
  | setL r of cs => exact eff_setL hC he hk
  | newL cs => exact eff_newL hC he hk
  | getS p n ag => exact eff_getS hC he hk
  | takeS p => exact eff_takeS hC he hk
  | setS p cs => exact eff_setS hC he hk
  | newS t cs => exact eff_newS hC he hk
  | tupTake r i => exact eff_tupTake he hk
  | call f args n => exact eff_call hcall he hk
  | pan v => exact eff_pan he hk

theorem wp_mono2 {o : Oper} {a : Act} {w : World} {K K' : Act → World → Prop} {Q Q' : Exit → Act → World → Prop} (h : o.wp P a w K Q) (hk : ∀ a w, K a w → K' a w) (hq : ∀ e a w, Q e a w → Q' e a w) : o.wp P a w K' Q' := by
  unfold Oper.wp at *
  generalize (execOp a.eval o).run P w = r at *
  have hl : LetsOut Q → LetsOut Q' := fun ⟨a, w, h⟩ => ⟨a, w, hq _ _ _ h⟩
  cases r with
  | ok x w' =>
    cases x <;> first | exact hk _ _ h | exact h.elim | skip
    · refine Calls.mono h fun e w'' he => ?_
      cases e with
      | returned v => exact hk _ _ he
      | panicked chain => exact hq _ _ _ he
      | outgrown => exact hl he
    · exact Rows.mono h fun v w'' hv => hk _ _ hv
  | halt x w' => cases x <;> first | exact hq _ _ _ h | exact h.elim

def OQ (C : Ctx) (G : Gh) (w : World) (out : Out) (e : Exit) (a' : Act) (w' : World) : Prop := (e = .normal ∧ NP C G w out a' w') ∨ QP C G w out e a' w'

theorem OQ.trans {G G1 : Gh} {w w1 : World} {out : Out} {e : Exit} {a' : Act} {w' : World} (x : Ext G w G1 w1) (h : OQ C G1 w1 out e a' w') : OQ C G w out e a' w' := by
  rcases h with ⟨h1, st', G', lam', h2, h3, h4⟩ | ⟨v, st', c, G', h1, h2, h3, h4, h5, h6⟩
  · exact .inl ⟨h1, st', G', lam', h2, x.trans h3, h4⟩
  · exact .inr ⟨v, st', c, G', h1, h2, h3, x.trans h4, h5, h6⟩

theorem wpOps_mono2 {ops : Array Oper} {Q Q' : Exit → Act → World → Prop} (hq : ∀ e a w, Q e a w → Q' e a w) : ∀ (l : List Nat) (a : Act) (w : World), wpOps P ops Q l a w → wpOps P ops Q' l a w
  | [], _, _, h => hq _ _ _ h
  | i :: rest, a, w, h => by
    simp only [wpOps] at *
    split
    · rename_i hi
      rw [hi] at h
      exact wpOps_mono2 hq rest a w h
    · rename_i o hi
      rw [hi] at h
      simp only at h
      split
      · rename_i hw
        rw [if_pos hw] at h
        rcases h with h | ⟨h1, h2⟩
        · exact .inl (wp_mono2 h (fun a w => wpOps_mono2 hq rest a w) hq)
        · exact .inr ⟨h1, let ⟨a, w, h⟩ := h2; ⟨a, w, hq _ _ _ h⟩⟩
      · rename_i hw
        rw [if_neg hw] at h
        exact wpOps_mono2 hq rest _ w h

/-- What a region's operations come to. -/
def SoundN (P : Program) (C : Ctx) (ops : Array Oper) (l : List Nat) (st : St) (out : Out) : Prop :=
  ∀ G lam a w, Inv C.glob G lam a w st → wpOps P ops (OQ C G w out) l a w

theorem soundN_step {ops : Array Oper} {i : Nat} {rest : List Nat} {o : Oper} (hi : ops[i]? = some o) {st : St} {out1 out : Out} (h1 : Sound1 P C o st out1)
    (hw : ∀ G lam a w, Inv C.glob G lam a w st → Region.wanted o (yielded ops a.tmps) = true)
    (h2 : match out1 with | .next st1 => SoundN P C ops rest st1 out | .pan v st1 => out = .pan v st1) : SoundN P C ops (i :: rest) st out := by
  intro G lam a w h
  simp only [wpOps, hi]
  rw [if_pos (hw G lam a w h)]
  refine .inl (wp_mono2 (h1 G lam a w h) (fun a' w' hn => ?_) (fun e a' w' hq => ?_))
  · obtain ⟨st', G', lam', rfl, e2, e3⟩ := hn
    exact wpOps_mono2 (fun e a w => OQ.trans e2) rest a' w' (h2 G' lam' a' w' e3)
  · obtain ⟨v, st', c, G', rfl, q2, q3, q4, q5, q6⟩ := hq
    simp only at h2
    subst h2
    exact .inr ⟨v, st', c, G', rfl, q2, q3, q4, q5, q6⟩

/-- A register whose value is laid open. -/
theorem Inv.open {gl : Nat → Option (List V)} {G : Gh} {lam : Nat → Nat} {a : Act} {w : World} {st : St} (h : Inv gl G lam a w st) {d : Nat} {v : V} {ow : Bool} (hd : st.regs.getD d .dead = .val v ow) :
    Rel G w v (a.tmps.getD d undef) ∧ Inv gl G lam a w (st.setReg d (.val v false)) ∧ d < a.tmps.size := by
  have hlt : d < st.regs.length := by
    rcases Nat.lt_or_ge d st.regs.length with hh | hh
    · exact hh
    · rw [List.getD_eq_getElem?_getD, List.getElem?_eq_none hh] at hd; simp at hd
  have hg : st.regs[d]? = some (.val v ow) := by rw [List.getD_eq_getElem?_getD, List.getElem?_eq_getElem hlt] at hd; rw [List.getElem?_eq_getElem hlt]; simpa using hd
  have hr := h.regs d _ hg
  refine ⟨hr.1, ⟨h.defers, by simp [St.setReg, h.len], by simp [St.setReg, h.lenl], fun r x hx => ?_, h.locs, h.sto⟩, by rw [h.len]; exact hlt⟩
  simp only [St.setReg, List.getElem?_set] at hx
  split at hx
  · rename_i hr'
    subst hr'
    obtain rfl := Option.some.inj hx
    exact ⟨hr.1, fun ho => by simp at ho⟩
  · exact h.regs r x hx

theorem asBool_rel {v : V} {b : Bool} (h : v.asBool = some b) {G : Gh} {w : World} {c : Value} (hr : Rel G w v c) : c = .bool b := by
  rw [asBool_some h] at hr; exact rel_bool hr

theorem yielded_of {ops : Array Oper} {tmps : Array Value} {j d : Nat} {b : Bool} (hd : (ops[j]?).bind (·.dst) = some d) (hs : d < tmps.size) (hv : tmps.getD d undef = .bool b) : yielded ops tmps j = some b := by
  unfold yielded
  rw [hd]
  have : tmps[d]? = some (.bool b) := by
    rw [Array.getElem?_eq_getElem hs]
    rw [Array.getD_eq_getD_getElem?, Array.getElem?_eq_getElem hs] at hv
    simpa using hv
  simp [this]

theorem setReg_same {st : St} {d : Nat} {v : V} {ow b : Bool} (hd : st.regs.getD d .dead = .val v ow) (hb : v.asBool = some b) : st.setReg d (.val (.bool b) ow) = st := by
  rw [asBool_some hb] at hd
  have : st.regs.set d (.val (.bool b) ow) = st.regs := by
    apply List.ext_getElem?
    intro i
    rw [List.getElem?_set]
    split
    · rename_i h
      subst h
      split
      · rename_i hl
        rw [List.getD_eq_getElem?_getD, List.getElem?_eq_getElem hl] at hd
        rw [List.getElem?_eq_getElem hl]
        simp at hd
        rw [hd]
      · rename_i hl
        rw [List.getElem?_eq_none (by omega)]
    · rfl
  simp only [St.setReg, this]

/-- One operation of a region, with no continuation. -/
def stepF (C : Ctx) (H : Hints) (call : CallF) (dr : Option (List (List Nat))) (ops : Array Oper) (i : Nat) (st : St) : Option Out := match ops[i]? with
  | none => none
  | some o => (grd (chkOk H dr o st.regs)).bind fun _ => match o.guard with
    | none => aopF C H call o st
    | some (j, want) => match (ops[j]?).bind (·.dst) with
      | none => none
      | some d => match st.regs.getD d .dead with
        | .val v _ => v.asBool.bind fun b => if b = want then aopF C H call o st else some (.next (st.put o.dst (.tup [])))
        | .tup [] => some (.next (st.put o.dst (.tup [])))
        | _ => none

def kstep (dr : Option (List (List Nat))) (i : Nat) (rest : List Nat) (go : St → Option Res) (K : Out → Option Res) : Out → Option Res := fun out => match out with
  | .next st => go st
  | .pan v st => (grd (panOk dr i rest)).bind fun _ => K (.pan v st)

theorem aops_cons (dr : Option (List (List Nat))) (ops : Array Oper) (i : Nat) (rest : List Nat) (st : St) (K : Out → Option Res) :
    aops C H call dr ops (i :: rest) st K = (stepF C H call dr ops i st).bind (kstep dr i rest (fun st => aops C H call dr ops rest st K) K) := by
  simp only [aops, stepF]
  cases hi : ops[i]? with
  | none => rfl
  | some o =>
    simp only
    cases grd (chkOk H dr o st.regs) with
    | none => rfl
    | some u =>
      simp only [Option.bind_some]
      cases hg : o.guard with
      | none => exact aop_eq _ _ _
      | some jw =>
        obtain ⟨j, want⟩ := jw
        simp only
        cases hd : (ops[j]?).bind (·.dst) with
        | none => rfl
        | some d =>
          simp only
          cases hv : st.regs.getD d .dead with
          | val v ow =>
            simp only
            cases hb : v.asBool with
            | none => rfl
            | some b =>
              simp only [Option.bind_some]
              have hs := setReg_same hv hb
              cases b with
              | true =>
                simp only [cond_true, hs]
                cases want with
                | true => simp only [if_true]; exact aop_eq _ _ _
                | false => rfl
              | false =>
                simp only [cond_false, hs]
                cases want with
                | true => rfl
                | false => simp only [Bool.false_eq_true, if_false, if_true]; exact aop_eq _ _ _
          | tup cs => cases cs <;> rfl
          | dead => rfl
          | lptr r o => rfl

theorem aopF_sound (hC : CtxOk P C) (hcall : CallOk P C call) {o : Oper} {st : St} {out : Out} (h : aopF C H call o st = some out) : Sound1 P C o st out := by
  classical
  let K : Out → Option Res := fun o' => if o' = out then some (.ret [], []) else none
  have h1 : aop C H call o st K = some (.ret [], []) := by rw [aop_eq, h]; simp [K]
  obtain ⟨o', h2, h3⟩ := aop_sound hC hcall h1
  have : o' = out := by
    simp only [K] at h2
    split at h2
    · assumption
    · simp at h2
  rw [← this]; exact h3

/-- One operation: carried out or passed by. -/
theorem stepF_sound (hC : CtxOk P C) (hcall : CallOk P C call) {dr : Option (List (List Nat))} {ops : Array Oper} {i : Nat} {st : St} {out : Out} (h : stepF C H call dr ops i st = some out) {G : Gh} {lam : Nat → Nat} {a : Act} {w : World} (hI : Inv C.glob G lam a w st) :
    ∃ o, ops[i]? = some o ∧ ((Region.wanted o (yielded ops a.tmps) = true ∧ o.wp P a w (NP C G w out) (QP C G w out)) ∨ (Region.wanted o (yielded ops a.tmps) = false ∧ NP C G w out (a.put o.dst undef) w)) := by
  simp only [stepF] at h
  split at h
  · simp at h
  · rename_i o hi
    refine ⟨o, hi, ?_⟩
    obtain ⟨_, _, h⟩ := bind2 h
    split at h
    · rename_i hg
      exact .inl ⟨by simp [Region.wanted, hg], aopF_sound hC hcall h G lam a w hI⟩
    · rename_i j want hg
      split at h
      · simp at h
      · rename_i d hd
        split at h
        · rename_i v ow hv
          obtain ⟨b, hb, h2⟩ := bind2 h
          clear h
          have hopen : yielded ops a.tmps j = some b := by
            obtain ⟨h1, _, h2⟩ := hI.open hv
            exact yielded_of hd h2 (asBool_rel hb h1)
          split at h2
          · rename_i hbw
            subst hbw
            exact .inl ⟨by simp [Region.wanted, hg, hopen], aopF_sound hC hcall h2 G lam a w hI⟩
          · rename_i hbw
            obtain rfl := Option.some.inj h2
            refine .inr ⟨by simp [Region.wanted, hg, hopen, hbw], _, G, lam, rfl, Ext.refl _ _, hI.put o.dst (.tup []) undef fun _ _ => ⟨[], rfl, rfl, by simp⟩⟩
        · rename_i hv
          have hy : yielded ops a.tmps j ≠ some want := by
            have hr := eval_reg hI d
            rw [hv] at hr
            obtain ⟨xs, hx, _⟩ := hr
            have hx : a.tmps.getD d undef = .tuple xs.toArray := hx
            unfold yielded
            rw [hd]
            simp only [Array.getD_eq_getD_getElem?] at hx
            cases hg2 : a.tmps[d]? with
            | none => simp [hg2]
            | some v => rw [hg2] at hx; simp only [Option.getD_some] at hx; subst hx; simp [hg2]
          obtain rfl := Option.some.inj h
          refine .inr ⟨by simp [Region.wanted, hg, hy], _, G, lam, rfl, Ext.refl _ _, hI.put o.dst (.tup []) undef fun _ _ => ⟨[], rfl, rfl, by simp⟩⟩
        · simp at h

/-- The operations in a given order, one behind the other. -/
inductive Runs (C : Ctx) (H : Hints) (call : CallF) (dr : Option (List (List Nat))) (ops : Array Oper) : List Nat → St → Out → Prop
  | nil (st : St) : Runs C H call dr ops [] st (.next st)
  | next {i : Nat} {rest : List Nat} {st st1 : St} {out : Out} : stepF C H call dr ops i st = some (.next st1) → Runs C H call dr ops rest st1 out → Runs C H call dr ops (i :: rest) st out
  | pan {i : Nat} {rest : List Nat} {st st1 : St} {v : V} : stepF C H call dr ops i st = some (.pan v st1) → panOk dr i rest = true → Runs C H call dr ops (i :: rest) st (.pan v st1)

theorem aops_runs {dr : Option (List (List Nat))} {ops : Array Oper} : ∀ (l : List Nat) (st : St) (K : Out → Option Res) (r : Res), aops C H call dr ops l st K = some r → ∃ out, K out = some r ∧ Runs C H call dr ops l st out
  | [], st, K, r, h => ⟨.next st, h, .nil st⟩
  | i :: rest, st, K, r, h => by
    rw [aops_cons] at h
    obtain ⟨out1, h1, h2⟩ := bind2 h
    cases out1 with
    | next st1 =>
      obtain ⟨out, h3, h4⟩ := aops_runs rest st1 K r h2
      exact ⟨out, h3, .next h1 h4⟩
    | pan v st1 =>
      simp only [kstep] at h2
      obtain ⟨u, hu, h2⟩ := bind2 h2
      exact ⟨_, h2, .pan h1 (grd_some hu)⟩

theorem runs_sound (hC : CtxOk P C) (hcall : CallOk P C call) {dr : Option (List (List Nat))} {ops : Array Oper} {l : List Nat} {st : St} {out : Out} (h : Runs C H call dr ops l st out) : SoundN P C ops l st out := by
  induction h with
  | nil st => exact fun G lam a w hI => .inl ⟨rfl, st, G, lam, rfl, Ext.refl _ _, hI⟩
  | @next i rest st st1 out h1 h2 ih =>
    intro G lam a w hI
    obtain ⟨o, hi, hh⟩ := stepF_sound hC hcall h1 hI
    simp only [wpOps, hi]
    rcases hh with ⟨hw, hh⟩ | ⟨hw, st', G', lam', e1, e2, e3⟩
    · rw [if_pos hw]
      refine .inl (wp_mono2 hh (fun a' w' hn => ?_) (fun e a' w' hq => ?_))
      · obtain ⟨st', G', lam', e1, e2, e3⟩ := hn
        cases e1
        exact wpOps_mono2 (fun e a w => OQ.trans e2) rest a' w' (ih G' lam' a' w' e3)
      · obtain ⟨v, st', c, G', e1, _⟩ := hq; cases e1
    · rw [if_neg (by rw [hw]; simp)]
      cases e1
      exact wpOps_mono2 (fun e a w => OQ.trans e2) rest _ w (ih G' lam' _ w e3)
  | @pan i rest st st1 v h1 h2 =>
    intro G lam a w hI
    obtain ⟨o, hi, hh⟩ := stepF_sound hC hcall h1 hI
    simp only [wpOps, hi]
    rcases hh with ⟨hw, hh⟩ | ⟨hw, st', G', lam', e1, e2, e3⟩
    · rw [if_pos hw]
      refine .inl (wp_mono2 hh (fun a' w' hn => ?_) (fun e a' w' hq => .inr hq))
      obtain ⟨st', G', lam', e1, e2, e3⟩ := hn
      cases e1
    · cases e1

theorem aops_sound (hC : CtxOk P C) (hcall : CallOk P C call) {dr : Option (List (List Nat))} {ops : Array Oper} (l : List Nat) (st : St) (K : Out → Option Res) (r : Res) (h : aops C H call dr ops l st K = some r) : ∃ out, K out = some r ∧ SoundN P C ops l st out :=
  let ⟨out, h1, h2⟩ := aops_runs l st K r h
  ⟨out, h1, runs_sound hC hcall h2⟩
end
end Go.Ab
end
