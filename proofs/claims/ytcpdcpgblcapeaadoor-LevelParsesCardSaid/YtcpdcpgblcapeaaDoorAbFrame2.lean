/- The frame of a step: two that touch nothing of each other's may change places. -/
import Derived.Test.YtcpdcpgblcapeaaDoorAbFrame
import Derived.Test.YtcpdcpgblcapeaaDoorAbOp2
set_option linter.unusedSimpArgs false
set_option linter.unusedVariables false
set_option linter.deprecated false
namespace Go.Ab
section
variable {C : Ctx} {H : Hints} {call : CallF}

/-- What an effect may touch, by the operation's own text. -/
def Compat (H : Hints) (o : Oper) : Eff → Prop
  | .val _ => True
  | .getL r _ _ _ steal => (locF H o).has r = true ∧ (steal = true → (locW H o).has r = true)
  | .setL r _ _ => (locF H o).has r = true ∧ (locW H o).has r = true
  | .newL _ => wild H o = true
  | .getS .. => stoF H o = true
  | .tupTake r _ => r ∈ regW H o
  | _ => stoW H o = true

theorem opndT_lptr {regs : List RV} {t : TypeId} {y : Operand} {r of : Nat} (h : opndT C regs t y = .lptr r of) : ∃ a, y = .tmp a ∧ regs.getD a .dead = .lptr r of := by
  cases y with
  | tmp a => exact ⟨a, rfl, h⟩
  | const c => simp only [opndT] at h; split at h <;> (try split at h) <;> (try split at h) <;> simp at h
  | global g => simp only [opndT] at h; split at h <;> simp at h
  | func f => simp [opndT] at h

theorem locOf_has {a r of : Nat} {regs : List RV} (hc : addrCls H (.tmp a) = .loc) (hr : regs.getD a .dead = .lptr r of) (hk : (match assoc H.roots a with | some q => isRoot q (regs.getD a .dead) | none => true) = true) : (locOf H (.tmp a)).has r = true := by
  have hl : H.lp.contains a = true := by
    simp only [addrCls] at hc
    split at hc
    · assumption
    · split at hc <;> simp at hc
  simp only [locOf, hl, if_true]
  cases hq : assoc H.roots a with
  | none => rfl
  | some q =>
    rw [hq, hr] at hk
    simp [isRoot] at hk
    simp [LF.has, hk]

theorem act_compat {o : Oper} {e : Eff} {regs : List RV} (ha : act C H o regs = some e) (hk : rootOk H o regs = true) : Compat H o e := by
  have hi := act_inv ha
  cases e with
  | val x => trivial
  | getL r of n ag sl =>
    obtain ⟨t, y, i, ho, hT, hy, rfl, rfl, rfl⟩ := hi
    obtain ⟨a, rfl, hr⟩ := opndT_lptr hy
    simp only [act, ho] at ha
    obtain ⟨i', _, ha⟩ := bind2 ha
    simp only [rootOk, ho] at hk
    have hc : addrCls H (.tmp a) = .loc := by
      split at ha
      · assumption
      · obtain ⟨v, _, ha⟩ := bind2 ha; simp at ha
      · split at ha
        · split at ha <;> simp at ha
        · simp at ha
      · simp at ha
    have := locOf_has hc hr hk
    exact ⟨by simp only [locF, ho]; exact this, fun hs => by simp only [locW, ho, hs, if_true]; exact this⟩
  | setL r of cs =>
    obtain ⟨t, y, z, i, c, ho, hT, _, _, hy, rfl⟩ := hi
    obtain ⟨a, rfl, hr⟩ := opndT_lptr hy
    simp only [act, ho] at ha
    obtain ⟨i', _, ha⟩ := bind2 ha
    obtain ⟨c', _, ha⟩ := bind2 ha
    obtain ⟨u', _, ha⟩ := bind2 ha
    simp only [rootOk, ho] at hk
    have hc : addrCls H (.tmp a) = .loc := by
      split at ha
      · assumption
      · simp at ha
      · simp at ha
    have := locOf_has hc hr hk
    exact ⟨by simp only [locF, ho]; exact this, by simp only [locW, ho]; exact this⟩
  | newL cs =>
    rcases hi with ⟨t, i, ho, _⟩ | ⟨t, x, i, c, ho, _⟩
    · simp only [act, ho] at ha
      obtain ⟨i', _, ha⟩ := bind2 ha
      split at ha
      · simp at ha
      · split at ha
        · simp at ha
        · rename_i hne; simpa [Compat, wild, ho] using hne
    · simp only [act, ho] at ha
      obtain ⟨i', _, ha⟩ := bind2 ha
      obtain ⟨c', _, ha⟩ := bind2 ha
      obtain ⟨u', _, ha⟩ := bind2 ha
      split at ha
      · simp at ha
      · rename_i hne; simpa [Compat, wild, ho] using hne
  | getS p n ag =>
    obtain ⟨t, y, i, ow, ho, _⟩ := hi
    simp only [act, ho] at ha
    obtain ⟨i', _, ha⟩ := bind2 ha
    split at ha
    · simp at ha
    · obtain ⟨v, _, ha⟩ := bind2 ha; simp at ha
    · rename_i hc _
      simp [Compat, stoF, ho, hc]
    · simp at ha
  | takeS p =>
    obtain ⟨t, y, i, ow, ho, _⟩ := hi
    simp only [act, ho] at ha
    obtain ⟨i', _, ha⟩ := bind2 ha
    split at ha
    · simp at ha
    · obtain ⟨v, _, ha⟩ := bind2 ha; simp at ha
    · rename_i hc _
      split at ha
      · rename_i hs
        simp only [Compat, stoW, ho, hc, hs]; rfl
      · simp at ha
    · simp at ha
  | setS p cs =>
    obtain ⟨t, y, z, i, c, ow, ho, _⟩ := hi
    simp only [act, ho] at ha
    obtain ⟨i', _, ha⟩ := bind2 ha
    obtain ⟨c', _, ha⟩ := bind2 ha
    obtain ⟨u', _, ha⟩ := bind2 ha
    split at ha
    · simp at ha
    · rename_i hc _
      simp only [Compat, stoW, ho, hc]; rfl
    · simp at ha
  | newS t cs =>
    rcases hi with ⟨t, i, ho, _⟩ | ⟨t, x, i, c, ho, _⟩ <;> simp [Compat, stoW, ho]
  | tupTake r i =>
    simp only at hi
    simp [Compat, regW, hi, tmpOf]
  | call f args n =>
    obtain ⟨c, g, gv, first, cap, as, ho, hcal, _⟩ := hi
    simp [Compat, stoW, ho, hcal]
  | pan v =>
    obtain ⟨x, ho, _⟩ := hi
    simp [Compat, stoW, ho]

/-- The same effect, with no continuation. -/
def applyF (H : Hints) (call : CallF) (dst : Option Nat) (st : St) : Eff → Option Out
  | .val x => some (.next (st.put dst x))
  | .getL r o n agg steal => if steal then
        (if o < (st.locs.getD r []).length ∧ n = 1 ∧ agg = false then
          (if ((st.locs.getD r []).getD o cellD).2 then some (.next ({ st with locs := st.locs.set r ((st.locs.getD r []).set o (((st.locs.getD r []).getD o cellD).1, false)) }.put dst (.val ((st.locs.getD r []).getD o cellD).1 true))) else none) else none)
      else (gather (st.locs.getD r []) o n agg).bind fun v => some (.next (st.put dst (.val v false)))
  | .setL r o cs => if o + cs.length ≤ (st.locs.getD r []).length then some (.next ({ st with locs := st.locs.set r (setCells (st.locs.getD r []) o cs) }.put dst .dead)) else none
  | .newL cs => match dst with
    | some d => if d < st.locs.length ∧ cs.length ≠ 0 ∧ (st.regs.all fun x => !isLptr d x) = true then some (.next ({ st with locs := st.locs.set d cs }.setReg d (.lptr d 0))) else none
    | none => none
  | .getS p n agg => (memGet st.sto p agg n).bind fun v => some (.next (st.put dst (.val v false)))
  | .takeS p => (memTake st.sto p).bind fun v => some (.next ({ st with sto := v.2 }.put dst (.val v.1 true)))
  | .setS p cs => (memSet st.sto p cs).bind fun σ => some (.next ({ st with sto := σ }.put dst .dead))
  | .newS t cs => match dst with
    | some d => some (.next ({ st with sto := st.sto ++ [cs] }.setReg d (.val (.ptr t st.sto.length 0) false)))
    | none => none
  | .tupTake r i => match st.regs.getD r .dead with
    | .tup cs => match cs[i]? with
      | some c => some (.next ((st.setReg r (.tup (cs.set i (c.1, false)))).put dst (.val c.1 c.2)))
      | none => none
    | _ => none
  | .call f args n => match call f args st.sto with
    | none => none
    | some r => match r.1 with
      | .ret vs => if vs.length = n then (grd (toksOk H dst n vs)).bind fun _ => some (.next ({ st with sto := r.2 }.put dst (resV H dst n vs))) else none
      | .pan v => some (.pan v { st with sto := r.2 })
  | .pan v => some (.pan v st)

theorem apply_eq (dst : Option Nat) (st : St) (K : Out → Option Res) (e : Eff) : apply H call dst st K e = (applyF H call dst st e).bind K := by
  cases e <;> simp only [apply, applyF] <;> (try rfl)
  case getL => split <;> (try split) <;> (try split) <;> (first | rfl | (cases gather _ _ _ _ <;> rfl))
  case setL => split <;> rfl
  case newL =>
    cases dst with
    | none => rfl
    | some d => simp only; split <;> rfl
  case getS => cases memGet _ _ _ _ <;> rfl
  case takeS => cases memTake _ _ <;> rfl
  case setS => cases memSet _ _ _ <;> rfl
  case newS => cases dst <;> rfl
  case tupTake r i =>
    cases st.regs.getD r .dead <;> try rfl
    rename_i cs
    simp only
    cases cs[i]? <;> rfl
  case call f args n =>
    cases call f args st.sto with
    | none => rfl
    | some r =>
      simp only
      cases r.1 with
      | pan v => rfl
      | ret vs =>
        simp only
        split
        · cases grd (toksOk H dst n vs) <;> rfl
        · rfl

def aopF (C : Ctx) (H : Hints) (call : CallF) (o : Oper) (st : St) : Option Out := (act C H o st.regs).bind fun e => applyF H call o.dst (st.clear (clearOf H o)) e
theorem aop_eq (o : Oper) (st : St) (K : Out → Option Res) : aop C H call o st K = (aopF C H call o st).bind K := by
  simp only [aop, aopF, actK_eq]
  cases act C H o st.regs with
  | none => rfl
  | some e => exact apply_eq _ _ _ _

structure Ag (rs : List Nat) (l : LF) (f : Bool) (s t : St) : Prop where
  lenr : s.regs.length = t.regs.length
  lenl : s.locs.length = t.locs.length
  regs : ∀ r, r ∈ rs → s.regs[r]? = t.regs[r]?
  locs : ∀ r, l.has r = true → s.locs[r]? = t.locs[r]?
  sto : f = true → s.sto = t.sto

structure Off (rs : List Nat) (l : LF) (f : Bool) (s t : St) : Prop where
  lenr : t.regs.length = s.regs.length
  lenl : t.locs.length = s.locs.length
  regs : ∀ r, r ∉ rs → t.regs[r]? = s.regs[r]?
  locs : ∀ r, l.has r = false → t.locs[r]? = s.locs[r]?
  sto : f = false → t.sto = s.sto

theorem Off.refl (rs : List Nat) (l : LF) (f : Bool) (s : St) : Off rs l f s s := ⟨rfl, rfl, fun _ _ => rfl, fun _ _ => rfl, fun _ => rfl⟩

theorem Ag.put {rs : List Nat} {l : LF} {f : Bool} {s t : St} (h : Ag rs l f s t) (dst : Option Nat) (x : RV) : Ag rs l f (s.put dst x) (t.put dst x) := by
  cases dst with
  | none => exact h
  | some d =>
    refine ⟨by simp [St.put, St.setReg, h.lenr], h.lenl, fun r hr => ?_, h.locs, h.sto⟩
    simp only [St.put, St.setReg, List.getElem?_set, h.lenr, h.regs r hr]

theorem Off.put {rs : List Nat} {l : LF} {f : Bool} {s t : St} (h : Off rs l f s t) (dst : Option Nat) (x : RV) (hd : ∀ d, dst = some d → d ∈ rs) : Off rs l f s (t.put dst x) := by
  cases dst with
  | none => exact h
  | some d =>
    refine ⟨by simp [St.put, St.setReg, h.lenr], h.lenl, fun r hr => ?_, h.locs, h.sto⟩
    have : d ≠ r := fun e => hr (e ▸ hd d rfl)
    simp only [St.put, St.setReg, List.getElem?_set_ne this, h.regs r hr]

theorem clearRegs_other (cs : List Nat) (r : Nat) (hr : r ∉ cs) : ∀ l : List RV, (clearRegs l cs)[r]? = l[r]? := by
  induction cs with
  | nil => intro l; rfl
  | cons c cs ih =>
    intro l
    rw [clearRegs, ih (fun h => hr (List.mem_cons_of_mem _ h))]
    have : c ≠ r := fun e => hr (e ▸ List.mem_cons_self ..)
    simp [List.getElem?_modify, this]

theorem clearRegs_same (cs : List Nat) (r : Nat) : ∀ l m : List RV, l[r]? = m[r]? → (clearRegs l cs)[r]? = (clearRegs m cs)[r]? := by
  induction cs with
  | nil => intro l m h; exact h
  | cons c cs ih =>
    intro l m h
    rw [clearRegs, clearRegs]
    refine ih _ _ ?_
    simp only [List.getElem?_modify, h]

theorem Ag.clear {rs : List Nat} {l : LF} {f : Bool} {s t : St} (h : Ag rs l f s t) (cs : List Nat) : Ag rs l f (s.clear cs) (t.clear cs) :=
  ⟨by simp only [St.clear, clearRegs_length]; exact h.lenr, h.lenl, fun r hr => clearRegs_same cs r _ _ (h.regs r hr), h.locs, h.sto⟩
theorem Off.clear {rs : List Nat} {l : LF} {f : Bool} {s t : St} (h : Off rs l f s t) (cs : List Nat) (hc : ∀ r ∈ cs, r ∈ rs) : Off rs l f s (t.clear cs) :=
  ⟨by simp only [St.clear, clearRegs_length]; exact h.lenr, h.lenl, fun r hr => by simp only [St.clear]; rw [clearRegs_other cs r (fun h => hr (hc r h))]; exact h.regs r hr, h.locs, h.sto⟩

theorem Ag.setLoc {rs : List Nat} {l : LF} {f : Bool} {s t : St} (h : Ag rs l f s t) (r : Nat) (x : List Cell) : Ag rs l f { s with locs := s.locs.set r x } { t with locs := t.locs.set r x } :=
  ⟨h.lenr, by simp [h.lenl], h.regs, fun r' hr => by simp only [List.getElem?_set, h.lenl, h.locs r' hr], h.sto⟩
theorem Off.setLoc {rs : List Nat} {l : LF} {f : Bool} {s t : St} (h : Off rs l f s t) (r : Nat) (x : List Cell) (hr : l.has r = true) : Off rs l f s { t with locs := t.locs.set r x } :=
  ⟨h.lenr, by simp [h.lenl], h.regs, fun r' hr' => by
    have : r ≠ r' := fun e => by rw [e, hr'] at hr; simp at hr
    simp only [List.getElem?_set_ne this, h.locs r' hr'], h.sto⟩
theorem Ag.setSto {rs : List Nat} {l : LF} {f : Bool} {s t : St} (h : Ag rs l f s t) (σ : Sto) : Ag rs l f { s with sto := σ } { t with sto := σ } := ⟨h.lenr, h.lenl, h.regs, h.locs, fun _ => rfl⟩
theorem Off.setSto {rs : List Nat} {l : LF} {f : Bool} {s t : St} (h : Off rs l f s t) (σ : Sto) (hf : f = true) : Off rs l f s { t with sto := σ } := ⟨h.lenr, h.lenl, h.regs, h.locs, fun h => by rw [hf] at h; simp at h⟩

theorem Ag.loc {rs : List Nat} {l : LF} {f : Bool} {s t : St} (h : Ag rs l f s t) {r : Nat} (hr : l.has r = true) : s.locs.getD r [] = t.locs.getD r [] := by
  rw [List.getD_eq_getElem?_getD, List.getD_eq_getElem?_getD, h.locs r hr]
theorem Ag.reg {rs : List Nat} {l : LF} {f : Bool} {s t : St} (h : Ag rs l f s t) {r : Nat} (hr : r ∈ rs) : s.regs.getD r .dead = t.regs.getD r .dead := by
  rw [List.getD_eq_getElem?_getD, List.getD_eq_getElem?_getD, h.regs r hr]

theorem stoF_of_stoW {o : Oper} (h : stoW H o = true) : stoF H o = true := by simp [stoF, h]

/-- What a step leaves behind, seen from two states that agree where it looks. -/
def Framed (rs ws : List Nat) (l lw : LF) (f fw : Bool) (s t : St) (out : Out) (step : Option Out) : Prop :=
  match out with
  | .next s1 => ∃ t1, step = some (.next t1) ∧ Ag rs l f s1 t1 ∧ Off ws lw fw s s1 ∧ Off ws lw fw t t1
  | .pan v s1 => fw = true ∧ f = true ∧ ∃ t1, step = some (.pan v t1) ∧ t1.sto = s1.sto

theorem applyF_frame {o : Oper} {e : Eff} (hk : Compat H o e) (hw : wild H o = false) {rs : List Nat} {s t s0 t0 : St} {out : Out} (hA : Ag rs (locF H o) (stoF H o) s t) (hrs : ∀ r ∈ regW H o, r ∈ rs)
    (hs : Off (regW H o) (locW H o) (stoW H o) s0 s) (ht : Off (regW H o) (locW H o) (stoW H o) t0 t) (h : applyF H call o.dst s e = some out) :
    Framed rs (regW H o) (locF H o) (locW H o) (stoF H o) (stoW H o) s0 t0 out (applyF H call o.dst t e) := by
  have hd : ∀ d, o.dst = some d → d ∈ regW H o := fun d hd => by simp [regW, hd]
  cases e with
  | val x =>
    simp only [applyF, Option.some.injEq] at h
    subst h
    exact ⟨_, rfl, hA.put _ _, hs.put _ _ hd, ht.put _ _ hd⟩
  | getL r of n ag sl =>
    obtain ⟨k1, k2⟩ := hk
    simp only [applyF] at h ⊢
    rw [← hA.loc k1]
    split at h
    · rename_i hsl
      rw [if_pos hsl]
      split at h
      · rename_i hc
        rw [if_pos hc]
        split at h
        · rename_i hc2
          rw [if_pos hc2]
          simp only [Option.some.injEq] at h
          subst h
          exact ⟨_, rfl, (hA.setLoc _ _).put _ _, (hs.setLoc _ _ (k2 hsl)).put _ _ hd, (ht.setLoc _ _ (k2 hsl)).put _ _ hd⟩
        · simp at h
      · simp at h
    · rename_i hsl
      rw [if_neg hsl]
      obtain ⟨v, hv, h⟩ := bind2 h
      simp only [Option.some.injEq] at h
      subst h
      rw [hv]
      exact ⟨_, rfl, hA.put _ _, hs.put _ _ hd, ht.put _ _ hd⟩
  | setL r of cs =>
    obtain ⟨k1, k2⟩ := hk
    simp only [applyF] at h ⊢
    rw [← hA.loc k1]
    split at h
    · rename_i hc
      rw [if_pos hc]
      simp only [Option.some.injEq] at h
      subst h
      exact ⟨_, rfl, (hA.setLoc _ _).put _ _, (hs.setLoc _ _ k2).put _ _ hd, (ht.setLoc _ _ k2).put _ _ hd⟩
    · simp at h
  | newL cs => simp only [Compat] at hk; rw [hk] at hw; simp at hw
  | getS p n ag =>
    simp only [Compat] at hk
    simp only [applyF] at h ⊢
    rw [← hA.sto hk]
    obtain ⟨v, hv, h⟩ := bind2 h
    simp only [Option.some.injEq] at h
    subst h
    rw [hv]
    exact ⟨_, rfl, hA.put _ _, hs.put _ _ hd, ht.put _ _ hd⟩
  | takeS p =>
    simp only [Compat] at hk
    simp only [applyF] at h ⊢
    rw [← hA.sto (stoF_of_stoW hk)]
    obtain ⟨v, hv, h⟩ := bind2 h
    simp only [Option.some.injEq] at h
    subst h
    rw [hv]
    exact ⟨_, rfl, (hA.setSto _).put _ _, (hs.setSto _ hk).put _ _ hd, (ht.setSto _ hk).put _ _ hd⟩
  | setS p cs =>
    simp only [Compat] at hk
    simp only [applyF] at h ⊢
    rw [← hA.sto (stoF_of_stoW hk)]
    obtain ⟨v, hv, h⟩ := bind2 h
    simp only [Option.some.injEq] at h
    subst h
    rw [hv]
    exact ⟨_, rfl, (hA.setSto _).put _ _, (hs.setSto _ hk).put _ _ hd, (ht.setSto _ hk).put _ _ hd⟩
  | newS t cs =>
    simp only [Compat] at hk
    simp only [applyF] at h ⊢
    rw [← hA.sto (stoF_of_stoW hk)]
    cases hds : o.dst with
    | none => rw [hds] at h; simp at h
    | some d =>
      rw [hds] at h
      simp only [Option.some.injEq] at h
      subst h
      exact ⟨_, rfl, (hA.setSto _).put (some d) _, (hs.setSto _ hk).put (some d) _ (by rw [← hds]; exact hd), (ht.setSto _ hk).put (some d) _ (by rw [← hds]; exact hd)⟩
  | tupTake r i =>
    simp only [Compat] at hk
    simp only [applyF] at h ⊢
    rw [← hA.reg (hrs r hk)]
    have hr : ∀ d, some r = some d → d ∈ regW H o := by rintro d ⟨⟩; exact hk
    split at h
    · split at h
      · simp only [Option.some.injEq] at h
        subst h
        exact ⟨_, rfl, (hA.put (some r) _).put _ _, (hs.put (some r) _ hr).put _ _ hd, (ht.put (some r) _ hr).put _ _ hd⟩
      · simp at h
    · simp at h
  | call f args n =>
    simp only [Compat] at hk
    simp only [applyF] at h ⊢
    rw [← hA.sto (stoF_of_stoW hk)]
    split at h
    · simp at h
    · rename_i r hr
      split at h
      · rename_i vs hvs
        split at h
        · rename_i hn
          obtain ⟨x, hx, h⟩ := bind2 h
          simp only [Option.some.injEq] at h
          subst h
          refine ⟨_, ?_, (hA.setSto r.2).put _ _, (hs.setSto _ hk).put _ _ hd, (ht.setSto _ hk).put _ _ hd⟩
          simp only [if_pos hn, hx, Option.bind_some]
        · simp at h
      · rename_i v hv
        simp only [Option.some.injEq] at h
        subst h
        exact ⟨hk, stoF_of_stoW hk, _, rfl, rfl⟩
  | pan v =>
    simp only [Compat] at hk
    simp only [applyF, Option.some.injEq] at h ⊢
    subst h
    exact ⟨hk, stoF_of_stoW hk, _, rfl, (hA.sto (stoF_of_stoW hk)).symm⟩
end
end Go.Ab
