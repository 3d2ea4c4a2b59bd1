/- What keeps the blocks of old keeps what is known of the store. -/
import Derived.Test.YtblgboigcpbidaaGreatDoorAbOps
import Derived.Orders
import Derived.KernelRfl
import Derived.Maps.RangeWalk
import Derived.Maps.OwnSet
import Derived.Maps.OwnOps
import Derived.Maps.Ext
import Derived.StringKeys
import Derived.Below
import Derived.WalkArith
set_option linter.unusedSimpArgs false
set_option linter.unusedVariables false
set_option linter.deprecated false
section
namespace Go.Ab
section
variable {P : Program} {C : Ctx} {H : Hints} {call : CallF} {T : List (List Nat)} {ops : Array Oper}
theorem mem_operands {o : Oper} {r : Nat} (h : Operand.tmp r ∈ o.op.operands.toList) : r ∈ regF H ops o :=
 List.mem_append_left _ (List.mem_append_left _ (List.mem_flatMap.2 ⟨_, h, by simp [tmpOf]⟩))
theorem mem_guard {o : Oper} {r : Nat} (h : r ∈ guardReg ops o) : r ∈ regF H ops o := List.mem_append_left _ (List.mem_append_right _ h)
theorem mem_regW {o : Oper} {r : Nat} (h : r ∈ regW H o) : r ∈ regF H ops o := List.mem_append_right _ h
theorem Ag.same {o : Oper} {l : LF} {f : Bool} {s t : St} (h : Ag (regF H ops o) l f s t) : SameOn o.op.operands.toList s.regs t.regs := fun _ hr => h.reg (mem_operands hr)
theorem rootOk_same {o : Oper} {s t : List RV} (h : SameOn o.op.operands.toList s t) : rootOk H o s = rootOk H o t := by
 unfold rootOk
 cases ho : o.op with
 | load ty a =>
  rw [ho] at h
  cases a with
  | tmp r => simp only; rw [h r (by simp [Op.operands])]
  | _ => rfl
 | store ty a x =>
  rw [ho] at h
  cases a with
  | tmp r => simp only; rw [h r (by simp [Op.operands])]
  | _ => rfl
 | _ => rfl
theorem clear_regW {o : Oper} {r : Nat} (h : r ∈ clearOf H o) : r ∈ regW H o := List.mem_append_left _ (List.mem_append_right _ h)
theorem aopF_frame {o : Oper} {s t : St} {out : Out} (hk : rootOk H o s.regs = true) (hw : wild H o = false) (hA : Ag (regF H ops o) (locF H o) (stoF H o) s t) (h : aopF C H call o s = some out) :
  Framed (regF H ops o) (regW H o) (locF H o) (locW H o) (stoF H o) (stoW H o) s t out (aopF C H call o t) := by
 obtain ⟨e, he, h⟩ := bind2 h
 have he2 : act C H o t.regs = some e := by rw [← act_same o hA.same]; exact he
 have := applyF_frame (act_compat he hk) hw (hA.clear (clearOf H o)) (fun r hr => mem_regW hr) ((Off.refl _ _ _ s).clear _ fun r hr => clear_regW hr) ((Off.refl _ _ _ t).clear _ fun r hr => clear_regW hr) h
 simp only [aopF, he2, Option.bind_some]
 exact this
theorem stepF_frame {i : Nat} {o : Oper} (hi : ops[i]? = some o) {s t : St} {out : Out} (hw : wild H o = false) (hA : Ag (regF H ops o) (locF H o) (stoF H o) s t) (h : stepF C H call (some T) ops i s = some out) :
  Framed (regF H ops o) (regW H o) (locF H o) (locW H o) (stoF H o) (stoW H o) s t out (stepF C H call (some T) ops i t) := by
 simp only [stepF, hi] at h ⊢
 obtain ⟨u, hu, h⟩ := bind2 h
 have hk : rootOk H o s.regs = true := grd_some hu
 have hk2 : grd (chkOk H (some T) o t.regs) = some () := by
  show grd (rootOk H o t.regs) = _
  rw [← rootOk_same hA.same, hk]; rfl
 simp only [hk2, Option.bind_some]
 cases hg : o.guard with
 | none =>
  rw [hg] at h
  exact aopF_frame hk hw hA h
 | some jw =>
  obtain ⟨j, want⟩ := jw
  rw [hg] at h
  simp only at h ⊢
  cases hd : (ops[j]?).bind (·.dst) with
  | none => rw [hd] at h; simp at h
  | some d =>
   rw [hd] at h
   simp only at h ⊢
   rw [← hA.reg (mem_guard (by simp [guardReg, hg, hd]))]
   split at h
   ·obtain ⟨b, hb, h⟩ := bind2 h
    simp only [hb, Option.bind_some]
    by_cases hbw : b = want
    ·rw [if_pos hbw] at h ⊢
     exact aopF_frame hk hw hA h
    ·rw [if_neg hbw] at h ⊢
     obtain rfl := Option.some.inj h
     exact ⟨_, rfl, hA.put _ _, (Off.refl _ _ _ s).put _ _ fun d hd => by simp [regW, hd], (Off.refl _ _ _ t).put _ _ fun d hd => by simp [regW, hd]⟩
   ·obtain rfl := Option.some.inj h
    exact ⟨_, rfl, hA.put _ _, (Off.refl _ _ _ s).put _ _ fun d hd => by simp [regW, hd], (Off.refl _ _ _ t).put _ _ fun d hd => by simp [regW, hd]⟩
   ·simp at h
theorem Ag.refl (rs : List Nat) (l : LF) (f : Bool) (s : St) : Ag rs l f s s := ⟨rfl, rfl, fun _ _ => rfl, fun _ _ => rfl, fun _ => rfl⟩
theorem meets_has {a b : LF} {r : Nat} (h : a.meets b = false) (ha : a.has r = true) : b.has r = false := by
 cases a <;> cases b <;> simp_all [LF.meets, LF.has]
 intro e; exact h e.symm
theorem has_meets {a b : LF} {r : Nat} (h : a.meets b = false) (hb : b.has r = true) : a.has r = false := by
 cases ha : a.has r with
 | false => rfl
 | true => rw [meets_has h ha] at hb; simp at hb
theorem locW_locF {o : Oper} {r : Nat} (h : (locW H o).has r = true) : (locF H o).has r = true := by
 unfold locW at h; unfold locF
 split at h
 ·split at h
  ·exact h
  ·simp [LF.has] at h
 ·exact h
 ·simp [LF.has] at h
theorem apart_not {xs ys : List Nat} (h : apart xs ys = true) {r : Nat} (hx : r ∈ xs) : r ∉ ys := by
 simp only [apart, List.all_eq_true] at h
 have := h r hx
 simpa using this
theorem Off.ag {rs ws : List Nat} {l lw : LF} {f fw : Bool} {s t : St} (h : Off ws lw fw s t) (h1 : apart ws rs = true) (h2 : lw.meets l = false) (h3 : (fw && f) = false) : Ag rs l f s t where
 lenr := h.lenr.symm
 lenl := h.lenl.symm
 regs r hr := (h.regs r fun hw => apart_not h1 hw hr).symm
 locs r hr := (h.locs r (has_meets h2 hr)).symm
 sto hf := (h.sto (by rw [hf] at h3; simpa using h3)).symm
theorem Ag.symm {rs : List Nat} {l : LF} {f : Bool} {s t : St} (h : Ag rs l f s t) : Ag rs l f t s := ⟨h.lenr.symm, h.lenl.symm, fun r hr => (h.regs r hr).symm, fun r hr => (h.locs r hr).symm, fun hf => (h.sto hf).symm⟩
def NoL (d : Nat) (l : List RV) : Prop := ∀ k of : Nat, l[k]? ≠ some (.lptr d of)
theorem noL_all {d : Nat} {l : List RV} : (l.all fun x => !isLptr d x) = true ↔ NoL d l := by
 simp only [List.all_eq_true]
 constructor
 ·intro h k of hk
  have := h _ (List.mem_of_getElem? hk)
  simp [isLptr] at this
 ·intro h x hx
  obtain ⟨k, hk⟩ := List.mem_iff_getElem?.1 hx
  cases x with
  | lptr r of =>
   by_cases hr : r = d
   ·subst hr; exact absurd hk (h k of)
   ·simp [isLptr, hr]
  | _ => simp [isLptr]
theorem NoL.set {d : Nat} {l : List RV} (h : NoL d l) {x : RV} (hx : ∀ of, x ≠ .lptr d of) (i : Nat) : NoL d (l.set i x) := by
 intro k of hk
 rw [List.getElem?_set] at hk
 split at hk
 ·split at hk
  ·exact hx of (Option.some.inj hk)
  ·simp at hk
 ·exact h k of hk
theorem NoL.put {d : Nat} {s : St} (h : NoL d s.regs) (dst : Option Nat) {x : RV} (hx : ∀ of, x ≠ .lptr d of) : NoL d (s.put dst x).regs := by
 cases dst with
 | none => exact h
 | some k => exact NoL.set h hx k
theorem NoL.putR {d : Nat} {r : List RV} {l : List (List Cell)} {σ : Sto} (h : NoL d r) (dst : Option Nat) {x : RV} (hx : ∀ of, x ≠ .lptr d of) : NoL d ((⟨r, l, σ⟩ : St).put dst x).regs := NoL.put (s := ⟨r, l, σ⟩) h dst hx
theorem NoL.clear {d : Nat} : ∀ (rs : List Nat) {l : List RV}, NoL d l → NoL d (clearRegs l rs)
 | [], _, h => h
 | r :: rs, l, h => by
  refine NoL.clear rs fun k of hk => ?_
  rw [List.getElem?_modify] at hk
  cases hl : l[k]? with
  | none => rw [hl] at hk; simp at hk
  | some x =>
   rw [hl] at hk
   split at hk
   ·have hk : clr x = .lptr d of := Option.some.inj hk
    cases x <;> simp [clr] at hk
    exact h k of (by rw [hl, hk.1, hk.2])
   ·have hk : x = .lptr d of := Option.some.inj hk
    exact h k of (by rw [hl, hk])
theorem noL_apply {d : Nat} {dst : Option Nat} {s s1 : St} {e : Eff} (h : applyF H call dst s e = some (.next s1)) (hn : NoL d s.regs) (he : ∀ x of, e = .val x → x ≠ .lptr d of) (hl : ∀ cs, e ≠ .newL cs) : NoL d s1.regs := by
 cases e with
 | val x => simp only [applyF, Option.some.injEq, Out.next.injEq] at h; subst h; exact hn.put _ fun of => he x of rfl
 | getL r o n agg steal =>
  simp only [applyF] at h
  split at h
  ·split at h
   ·split at h
    ·simp only [Option.some.injEq, Out.next.injEq] at h; subst h; exact NoL.putR hn _ (by simp)
    ·simp at h
   ·simp at h
  ·obtain ⟨v, _, h⟩ := bind2 h
   simp only [Option.some.injEq, Out.next.injEq] at h; subst h; exact hn.put _ (by simp)
 | setL r o cs =>
  simp only [applyF] at h
  split at h
  ·simp only [Option.some.injEq, Out.next.injEq] at h; subst h; exact NoL.putR hn _ (by simp)
  ·simp at h
 | newL cs => exact absurd rfl (hl cs)
 | getS p n agg =>
  simp only [applyF] at h
  obtain ⟨v, _, h⟩ := bind2 h
  simp only [Option.some.injEq, Out.next.injEq] at h; subst h; exact hn.put _ (by simp)
 | takeS p =>
  simp only [applyF] at h
  obtain ⟨v, _, h⟩ := bind2 h
  simp only [Option.some.injEq, Out.next.injEq] at h; subst h; exact NoL.putR hn _ (by simp)
 | setS p cs =>
  simp only [applyF] at h
  obtain ⟨v, _, h⟩ := bind2 h
  simp only [Option.some.injEq, Out.next.injEq] at h; subst h; exact NoL.putR hn _ (by simp)
 | newS t cs =>
  simp only [applyF] at h
  split at h
  ·simp only [Option.some.injEq, Out.next.injEq] at h; subst h; exact NoL.set (l := s.regs) hn (by simp) _
  ·simp at h
 | tupTake r i =>
  simp only [applyF] at h
  split at h
  ·split at h
   ·simp only [Option.some.injEq, Out.next.injEq] at h; subst h
    exact NoL.put (s := s.setReg r _) (NoL.set hn (by simp) _) _ (by simp)
   ·simp at h
  ·simp at h
 | call f args n =>
  simp only [applyF] at h
  split at h
  ·simp at h
  ·split at h
   ·split at h
    ·obtain ⟨_, _, h⟩ := bind2 h
     simp only [Option.some.injEq, Out.next.injEq] at h; subst h
     refine NoL.putR hn _ fun of => ?_
     unfold resV
     split <;> simp
    ·simp at h
   ·simp at h
 | pcall f args n =>
  simp only [applyF] at h
  obtain ⟨vs, _, h⟩ := bind2 h
  split at h
  ·obtain ⟨_, _, h⟩ := bind2 h
   simp only [Option.some.injEq, Out.next.injEq] at h; subst h
   refine hn.put _ fun of => ?_
   unfold resV
   split <;> simp
  ·simp at h
 | pan v => simp [applyF] at h
theorem noL_aop {d : Nat} {o : Oper} {s s1 : St} (hk : rootOk H o s.regs = true) (hw : wild H o = false) (hn : NoL d s.regs) (h : aopF C H call o s = some (.next s1)) : NoL d s1.regs := by
 obtain ⟨e, he, h⟩ := bind2 h
 refine noL_apply h (NoL.clear _ hn) (fun x of hx => ?_) fun cs hc => ?_
 ·rintro rfl
  subst hx
  obtain ⟨a, of', h1⟩ := act_inv he d of rfl
  rw [List.getD_eq_getElem?_getD] at h1
  cases h2 : s.regs[a]? with
  | none => rw [h2] at h1; simp at h1
  | some y => rw [h2] at h1; simp only [Option.getD_some] at h1; exact hn a of' (by rw [h2, h1])
 ·subst hc
  have := act_compat he hk
  simp only [Compat] at this
  rw [hw] at this
  simp at this
theorem noL_step {d : Nat} {i : Nat} {o : Oper} (hi : ops[i]? = some o) {s s1 : St} (hw : wild H o = false) (hn : NoL d s.regs) (h : stepF C H call (some T) ops i s = some (.next s1)) : NoL d s1.regs := by
 simp only [stepF, hi] at h
 obtain ⟨u, hu, h⟩ := bind2 h
 have hk : rootOk H o s.regs = true := grd_some hu
 split at h
 ·exact noL_aop hk hw hn h
 ·split at h
  ·simp at h
  ·split at h
   ·obtain ⟨b, _, h⟩ := bind2 h
    split at h
    ·exact noL_aop hk hw hn h
    ·simp only [Option.some.injEq, Out.next.injEq] at h; subst h; exact hn.put _ (by simp)
   ·simp only [Option.some.injEq, Out.next.injEq] at h; subst h; exact hn.put _ (by simp)
   ·simp at h
theorem swapA {i j : Nat} {x y : Oper} (hi : ops[i]? = some x) (hj : ops[j]? = some y) (hind : allocFirst H ops x y = true) {s s1 : St} {out : Out} (h1 : stepF C H call (some T) ops i s = some (.next s1)) (h2 : stepF C H call (some T) ops j s1 = some out) :
  match out with
  | .next s2 => ∃ s1', stepF C H call (some T) ops j s = some (.next s1') ∧ stepF C H call (some T) ops i s1' = some (.next s2)
  | .pan v s2 => ∃ s1', stepF C H call (some T) ops j s = some (.pan v s1') ∧ s1'.sto = s2.sto := by
 simp only [allocFirst, Bool.and_eq_true, Bool.not_eq_true'] at hind
 obtain ⟨⟨⟨hop, hgd⟩, wy⟩, hdd⟩ := hind
 split at hop
 case h_2 => simp at hop
 rename_i t hxo
 split at hdd
 case h_2 => simp at hdd
 rename_i d hds
 simp only [Bool.and_eq_true, Bool.not_eq_true'] at hdd
 obtain ⟨⟨hesc, hreg⟩, hloc⟩ := hdd
 have hgn : x.guard = none := by simpa using hgd
 have hesc' : x.dst.any H.esc.contains = false := by rw [hds]; simpa using hesc
 -- what the laying comes to, from whatever state
 have hact : ∀ regs, act C H x regs = (C.T t).bind fun i => if i.isTup = true then none else some (.newL (i.zero.map fun v => (v, v.isSl))) := by
  intro regs
  simp only [act, hxo, hesc', Bool.false_eq_true, if_false]
 have hcl : clearOf H x = [] := by simp [clearOf, hxo]
 have hstep : ∀ u : St, stepF C H call (some T) ops i u = aopF C H call x u := by
  intro u
  have : chkOk H (some T) x u.regs = true := by simp [chkOk, rootOk, hxo]
  simp [stepF, hi, hgn, this, grd]
 rw [hstep] at h1
 simp only [aopF, hact, hcl] at h1
 obtain ⟨e, he, h1⟩ := bind2 h1
 obtain ⟨ti, hti, he⟩ := bind2 he
 split at he
 ·simp at he
 rename_i htup
 obtain rfl := Option.some.inj he
 simp only [applyF, hds] at h1
 split at h1
 case isFalse => simp at h1
 rename_i hc
 obtain ⟨c1, c2, c3⟩ := hc
 simp only [Option.some.injEq, Out.next.injEq] at h1
 subst h1
 generalize hcs : (ti.zero.map fun v => (v, v.isSl)) = cs at *
 have hnl : NoL d s.regs := noL_all.1 c3
 have hag : Ag (regF H ops y) (locF H y) (stoF H y) (({ s with locs := s.locs.set d cs } : St).setReg d (.lptr d 0)) s := by
  refine ⟨by simp [St.setReg], by simp [St.setReg], fun r hr => ?_, fun r hr => ?_, fun _ => rfl⟩
  ·have : d ≠ r := by rintro rfl; simp at hreg; exact hreg hr
   simp only [St.setReg, List.getElem?_set_ne this]
  ·have : d ≠ r := by rintro rfl; rw [hloc] at hr; simp at hr
   simp only [St.setReg, List.getElem?_set_ne this]
 have fy := stepF_frame hj wy hag h2
 cases out with
 | pan v s2 =>
  obtain ⟨_, _, t1, e1, e2⟩ := fy
  exact ⟨t1, e1, e2⟩
 | next s2 =>
  obtain ⟨s1', e1, ay, oy, oy'⟩ := fy
  refine ⟨s1', e1, ?_⟩
  have hn1 := noL_step hj wy hnl e1
  rw [hstep]
  simp only [aopF, hact, hcl, hti, Option.bind_some, if_neg htup, hcs, applyF, hds]
  have c1' : d < s.locs.length := c1
  have hlt : d < s1'.locs.length := by rw [oy'.lenl]; exact c1'
  rw [if_pos ⟨hlt, c2, by simp only [St.clear, clearRegs]; exact noL_all.2 hn1⟩]
  simp only [St.clear, clearRegs]
  congr 2
  have hdy : d ∉ regW H y := fun h => by simp at hreg; exact hreg (mem_regW h)
  have hly : (locW H y).has d = false := by
   cases hh : (locW H y).has d with
   | false => rfl
   | true => rw [locW_locF hh] at hloc; simp at hloc
  have hr : s1'.regs.set d (.lptr d 0) = s2.regs := by
   apply List.ext_getElem?
   intro r
   by_cases hx : d = r
   ·subst hx
    rw [oy.regs d hdy]
    simp only [St.setReg, List.getElem?_set_self', ← oy'.lenr]
    have : s1'.regs[d]?.map (fun _ => RV.lptr d 0) = s.regs[d]?.map (fun _ => RV.lptr d 0) := by rw [oy'.regs d hdy]
    exact this
   ·rw [List.getElem?_set_ne hx]
    by_cases hy : r ∈ regW H y
    ·exact (ay.regs r (mem_regW hy)).symm
    ·rw [oy'.regs r hy, oy.regs r hy]
     simp only [St.setReg, List.getElem?_set_ne hx]
  have hl : s1'.locs.set d cs = s2.locs := by
   apply List.ext_getElem?
   intro r
   by_cases hx : d = r
   ·subst hx
    rw [oy.locs d hly]
    simp only [St.setReg, List.getElem?_set_self']
    have : s1'.locs[d]?.map (fun _ => cs) = s.locs[d]?.map (fun _ => cs) := by rw [oy'.locs d hly]
    exact this
   ·rw [List.getElem?_set_ne hx]
    cases hy : (locW H y).has r with
    | true => exact (ay.locs r (locW_locF hy)).symm
    | false =>
     rw [oy'.locs r hy, oy.locs r hy]
     simp only [St.setReg, List.getElem?_set_ne hx]
  have hs : s1'.sto = s2.sto := by
   cases hy : stoW H y with
   | true => exact (ay.sto (stoF_of_stoW hy)).symm
   | false => rw [oy'.sto hy, oy.sto hy]; rfl
  obtain ⟨b1, b2, b3⟩ := s2
  simp only at hr hl hs
  simp only [St.setReg, hr, hl, hs]
theorem swap {i j : Nat} {x y : Oper} (hi : ops[i]? = some x) (hj : ops[j]? = some y) (hind : indep H ops x y = true) {s s1 : St} {out : Out} (h1 : stepF C H call (some T) ops i s = some (.next s1)) (h2 : stepF C H call (some T) ops j s1 = some out) :
  match out with
  | .next s2 => ∃ s1', stepF C H call (some T) ops j s = some (.next s1') ∧ stepF C H call (some T) ops i s1' = some (.next s2)
  | .pan v s2 => ∃ s1', stepF C H call (some T) ops j s = some (.pan v s1') ∧ s1'.sto = s2.sto := by
 rw [indep, Bool.or_eq_true] at hind
 rcases hind with hind | hind
 ·exact swapA hi hj hind h1 h2
 simp only [Bool.and_eq_true, Bool.not_eq_true'] at hind
 obtain ⟨⟨⟨⟨⟨⟨⟨wx, wy⟩, rxy⟩, ryx⟩, lxy⟩, lyx⟩, sxy⟩, syx⟩ := hind
 obtain ⟨_, _, _, ox, _⟩ := stepF_frame hi wx (Ag.refl _ _ _ s) h1
 have fy := stepF_frame hj wy (ox.ag rxy lxy sxy).symm h2
 cases out with
 | pan v s2 =>
  obtain ⟨_, _, t1, e1, e2⟩ := fy
  exact ⟨t1, e1, e2⟩
 | next s2 =>
  obtain ⟨s1', e1, ay, oy, oy'⟩ := fy
  obtain ⟨s2', e2, ax, ox2, ox'⟩ := stepF_frame hi wx (oy'.ag ryx lyx syx) h1
  refine ⟨s1', e1, ?_⟩
  have hsame : s2' = s2 := by
   have hr : s2'.regs = s2.regs := by
    apply List.ext_getElem?
    intro r
    by_cases hx : r ∈ regW H x
    ·have hny : r ∉ regW H y := fun hy => apart_not rxy hx (mem_regW hy)
     rw [← ax.regs r (mem_regW hx), oy.regs r hny]
    ·rw [ox'.regs r hx]
     by_cases hy : r ∈ regW H y
     ·rw [ay.regs r (mem_regW hy)]
     ·rw [oy'.regs r hy, oy.regs r hy, ox.regs r hx]
   have hl : s2'.locs = s2.locs := by
    apply List.ext_getElem?
    intro r
    cases hx : (locW H x).has r with
    | true =>
     have hny : (locW H y).has r = false := by
      cases hh : (locW H y).has r with
      | false => rfl
      | true => have h3 := meets_has lxy hx; rw [locW_locF hh] at h3; simp at h3
     rw [← ax.locs r (locW_locF hx), oy.locs r hny]
    | false =>
     rw [ox'.locs r hx]
     cases hy : (locW H y).has r with
     | true => rw [ay.locs r (locW_locF hy)]
     | false => rw [oy'.locs r hy, oy.locs r hy, ox.locs r hx]
   have hs : s2'.sto = s2.sto := by
    cases hx : stoW H x with
    | true =>
     have hny : stoW H y = false := by
      cases hh : stoW H y with
      | false => rfl
      | true => rw [hx, stoF_of_stoW hh] at sxy; simp at sxy
     rw [← ax.sto (stoF_of_stoW hx), oy.sto hny]
    | false =>
     rw [ox'.sto hx]
     cases hy : stoW H y with
     | true => rw [ay.sto (stoF_of_stoW hy)]
     | false => rw [oy'.sto hy, oy.sto hy, ox.sto hx]
   obtain ⟨a1, a2, a3⟩ := s2'
   obtain ⟨b1, b2, b3⟩ := s2
   simp only at hr hl hs
   rw [hr, hl, hs]
  rw [← hsame]; exact e2
theorem bubble {i : Nat} {B : List Nat} {out : Out} : ∀ (A : List Nat) (s : St), Runs C H call (some T) ops (A ++ i :: B) s out → (∀ j ∈ A, indepAt H ops j i = true ∧ (T.getD i []).contains j = false) →
  (∃ s1, stepF C H call (some T) ops i s = some (.next s1) ∧ Runs C H call (some T) ops (A ++ B) s1 out) ∨ ∃ v s1 s2, stepF C H call (some T) ops i s = some (.pan v s1) ∧ out = .pan v s2 ∧ s1.sto = s2.sto
 | [], s, h, _ => by
  cases h with
  | next h1 h2 => exact .inl ⟨_, h1, h2⟩
  | pan h1 h2 => exact .inr ⟨_, _, _, h1, rfl, rfl⟩
 | j :: A, s, h, hA => by
  obtain ⟨hind, hnot⟩ := hA j (List.mem_cons_self ..)
  cases h with
  | pan h1 h2 =>
   simp only [panOk, List.all_eq_true] at h2
   have := h2 i (by simp)
   rw [hnot] at this
   simp at this
  | @next _ _ _ st1 _ h1 h2 =>
   unfold indepAt at hind
   split at hind
   ·rename_i x y hj hi
    rcases bubble A st1 h2 fun k hk => hA k (List.mem_cons_of_mem _ hk) with ⟨s2, e1, e2⟩ | ⟨v, s2, s3, e1, e2, e3⟩
    ·obtain ⟨s1', f1, f2⟩ := swap hj hi hind h1 e1
     exact .inl ⟨s1', f1, .next f2 e2⟩
    ·obtain ⟨s1', f1, f2⟩ := swap hj hi hind h1 e1
     exact .inr ⟨v, s1', s3, f1, e2, f2.trans e3⟩
   ·simp at hind
structure Good (H : Hints) (T : List (List Nat)) (ops : Array Oper) (listed : Array Bool) (L : List Nat) : Prop where
 size : listed.size = ops.size
 mem : ∀ i, i ∈ L ↔ listed.getD i true = false
 nodup : L.Nodup
 pw : L.Pairwise fun i j => j ∉ edgesAt ops i ∧ ((T.getD j []).contains i = true ∨ indepAt H ops i j = true)
 closed : ∀ k, listed.getD k false = true → ∀ j ∈ edgesAt ops k, listed.getD j false = true
def TOkA (T : List (List Nat)) (ops : Array Oper) : Prop := ∀ S : Nat → Prop, (∀ k, S k → ∀ j ∈ edgesAt ops k, S j) → ∀ i, (∀ k ∈ edgesAt ops i, S k) → ∀ j ∈ T.getD i [], S j
theorem mem_addAll : ∀ (xs acc : List Nat) (j : Nat), j ∈ addAll xs acc → j ∈ xs ∨ j ∈ acc
 | [], _, _, h => .inr h
 | x :: xs, acc, j, h => by
  simp only [addAll] at h
  split at h
  ·rcases mem_addAll xs acc j h with h | h
   ·exact .inl (List.mem_cons_of_mem _ h)
   ·exact .inr h
  ·rcases mem_addAll xs _ j h with h | h
   ·exact .inl (List.mem_cons_of_mem _ h)
   ·rcases List.mem_cons.1 h with h | h
    ·exact .inl (h ▸ List.mem_cons_self ..)
    ·exact .inr h
theorem ancs_go {S : Nat → Prop} (hS : ∀ k, S k → ∀ j ∈ edgesAt ops k, S j) : ∀ (rest : List Oper) (T : List (List Nat)), (∀ n o, rest[n]? = some o → ops[T.length + n]? = some o) → (∀ i, (∀ k ∈ edgesAt ops i, S k) → ∀ j ∈ T.getD i [], S j) →
  ∀ i, (∀ k ∈ edgesAt ops i, S k) → ∀ j ∈ (ancs rest T).getD i [], S j
 | [], T, _, hT => hT
 | o :: rest, T, hr, hT => by
  simp only [ancs]
  refine ancs_go hS rest _ (fun n o' hn => ?_) fun i hi j hj => ?_
  ·have := hr (n + 1) o' (by simpa using hn)
   rw [← this]; congr 1; simp; omega
  ·rw [List.getD_eq_getElem?_getD] at hj
   by_cases hlt : i < T.length
   ·rw [List.getElem?_append_left hlt, ← List.getD_eq_getElem?_getD] at hj
    exact hT i hi j hj
   ·rw [List.getElem?_append_right (by omega)] at hj
    by_cases he : i = T.length
    ·subst he
     have ho : ops[T.length]? = some o := hr 0 o rfl
     simp only [Nat.sub_self, List.getElem?_cons_zero, Option.getD_some] at hj
     rcases mem_addAll _ _ _ hj with hj | hj
     ·obtain ⟨k, hk, hj⟩ := List.mem_flatMap.1 hj
      have hSk : S k := hi k (by simp only [edgesAt, ho]; exact hk)
      rcases List.mem_cons.1 hj with rfl | hj
      ·exact hSk
      ·exact hT k (hS k hSk) j hj
     ·simp at hj
    ·rw [List.getElem?_eq_none (by simp; omega)] at hj
     simp at hj
theorem ancs_ok : TOkA (ancs ops.toList []) ops := fun S hS => ancs_go hS ops.toList [] (fun n o hn => by simpa using hn) fun i _ j hj => by simp at hj
theorem mem_edgesOf {o : Oper} {e : Edge} (he : e ∈ o.after) (hb : Region.binds .any e = true) : e.on ∈ edgesOf o :=
 List.mem_map.2 ⟨e, List.mem_filter.2 ⟨by simpa using he, hb⟩, rfl⟩
theorem listed_of {listed : Array Bool} {k : Nat} (hk : k < listed.size) (h : listed.getD k true ≠ false) : listed.getD k false = true := by
 simp [hk] at h ⊢; exact h
theorem runs_any (hC : CtxOk P C) (hcall : CallsOk P C H call) (hT : TOkA T ops) (hE : ∀ i, ∀ k ∈ edgesAt ops i, k < ops.size ∧ k ≠ i) {out : Out} {G0 : Gh} {w0 : World} :
  ∀ (fuel : Nat) (listed : Array Bool) (L : List Nat) (s : St), Good H T ops listed L → L.length ≤ fuel → Runs C H call (some T) ops L s out →
   ∀ G lam a w, Ext G0 w0 G w → Inv C.glob G lam a w s → wpAny P .any ops (OQ C G0 w0 out) fuel listed a w
 | fuel, listed, [], s, hg, _, hr, G, lam, a, w, x, hI => by
  have hnil : Region.ready .any ops listed = [] := by
   cases hh : Region.ready .any ops listed with
   | nil => rfl
   | cons j js =>
    have := (mem_ready.1 (hh ▸ List.mem_cons_self .. : j ∈ Region.ready .any ops listed)).1
    exact absurd ((hg.mem j).2 this) (by simp)
  cases hr
  have hq : OQ C G0 w0 (.next s) .normal a w := .inl ⟨rfl, s, G, lam, rfl, x, hI⟩
  cases fuel with
  | zero => exact ⟨hnil, hq⟩
  | succ fuel => exact ⟨fun _ => hq, fun i hi => by rw [hnil] at hi; simp at hi⟩
 | 0, listed, i :: L, s, hg, hf, hr, G, lam, a, w, x, hI => by simp at hf
 | fuel + 1, listed, i0 :: L, s, hg, hf, hr, G, lam, a, w, x, hI => by
  have hhead : i0 ∈ Region.ready .any ops listed := by
   refine mem_ready.2 ⟨(hg.mem i0).1 (List.mem_cons_self ..), ?_⟩
   have hlt : i0 < ops.size := by
    rw [← hg.size]
    have := (hg.mem i0).1 (List.mem_cons_self ..)
    rcases Nat.lt_or_ge i0 listed.size with h | h
    ·exact h
    ·simp [Array.getElem?_eq_none h] at this
   refine ⟨ops[i0], by simp [hlt], fun e he hb => ?_⟩
   have hmem : e.on ∈ edgesAt ops i0 := by simp only [edgesAt, Array.getElem?_eq_getElem hlt]; exact mem_edgesOf he hb
   obtain ⟨h1, h2⟩ := hE i0 _ hmem
   refine listed_of (by rw [hg.size]; exact h1) fun hh => ?_
   rcases List.mem_cons.1 ((hg.mem _).2 hh) with h3 | h3
   ·exact h2 h3
   ·exact ((List.pairwise_cons.1 hg.pw).1 _ h3).1 hmem
  refine ⟨fun hnil => by rw [hnil] at hhead; simp at hhead, fun i hi => ?_⟩
  obtain ⟨hun, oi, hoi, hall⟩ := mem_ready.1 hi
  have hedges : ∀ k ∈ edgesAt ops i, listed.getD k false = true := fun k hk => by
   simp only [edgesAt, hoi, edgesOf, List.mem_map, List.mem_filter] at hk
   obtain ⟨e, ⟨he, hb⟩, rfl⟩ := hk
   exact hall e (by simpa using he) hb
  obtain ⟨A, B, hAB⟩ := List.append_of_mem ((hg.mem i).2 hun)
  rw [hAB] at hr
  have hpw := hg.pw
  have hnd := hg.nodup
  rw [hAB] at hpw hnd
  have hfree : ∀ j ∈ A, indepAt H ops j i = true ∧ (T.getD i []).contains j = false := by
   intro j hj
   have h1 := ((List.pairwise_append.1 hpw).2.2 j hj i (List.mem_cons_self ..)).2
   have hnot : (T.getD i []).contains j = false := by
    cases hc : (T.getD i []).contains j with
    | false => rfl
    | true =>
     have hl := hT (fun k => listed.getD k false = true) hg.closed i hedges j (by simpa using hc)
     have hu := (hg.mem j).1 (by rw [hAB]; simp [hj])
     rcases Nat.lt_or_ge j listed.size with h | h
     ·simp [h] at hl hu; rw [hu] at hl; simp at hl
     ·simp [Array.getElem?_eq_none h] at hu
   rw [hnot] at h1
   exact ⟨h1.resolve_left (by simp), hnot⟩
  have hi_lt : i < listed.size := by
   rcases Nat.lt_or_ge i listed.size with h | h
   ·exact h
   ·simp [Array.getElem?_eq_none h] at hun
  have hgood : Good H T ops (listed.setIfInBounds i true) (A ++ B) := by
   refine ⟨by simp [hg.size], fun k => ?_, ?_, ?_, fun k hk j hj => ?_⟩
   ·by_cases hki : k = i
    ·subst hki
     refine ⟨fun hm => ?_, fun hm => ?_⟩
     ·have := (List.perm_middle.nodup_iff).1 hnd
      exact absurd hm (List.nodup_cons.1 this).1
     ·simp [hi_lt] at hm
    ·rw [getD_set_ne true (Ne.symm hki), ← hg.mem k, hAB]
     simp [hki]
   ·exact hnd.sublist (List.Sublist.append (List.Sublist.refl _) (List.sublist_cons_self ..))
   ·exact hpw.sublist (List.Sublist.append (List.Sublist.refl _) (List.sublist_cons_self ..))
   ·by_cases hki : k = i
    ·subst hki; exact getD_set_true (hedges j hj)
    ·rw [getD_set_ne false (Ne.symm hki)] at hk
     exact getD_set_true (hg.closed k hk j hj)
  have hlen : (A ++ B).length ≤ fuel := by
   have : (i0 :: L).length = (A ++ i :: B).length := by rw [hAB]
   simp at this hf ⊢
   omega
  unfold wpOp
  rcases bubble A s hr hfree with ⟨s1, e1, e2⟩ | ⟨v, s1, s2, e1, e2, e3⟩
  ·obtain ⟨o, ho, hh⟩ := stepF_sound hC hcall e1 hI
   rw [ho]
   simp only
   rcases hh with ⟨hw, hh⟩ | ⟨hw, st', G', lam', f1, f2, f3⟩
   ·rw [if_pos hw]
    refine .inl (wp_mono2 hh (fun a' w' hn => ?_) (fun e a' w' hq => ?_))
    ·obtain ⟨st', G', lam', f1, f2, f3⟩ := hn
     cases f1
     exact runs_any hC hcall hT hE fuel _ _ s1 hgood hlen e2 G' lam' a' w' (x.trans f2) f3
    ·obtain ⟨v, st', c, G', f1, _⟩ := hq; cases f1
   ·rw [if_neg (by rw [hw]; simp)]
    cases f1
    exact runs_any hC hcall hT hE fuel _ _ s1 hgood hlen e2 G' lam' _ w (x.trans f2) f3
  ·obtain ⟨o, ho, hh⟩ := stepF_sound hC hcall e1 hI
   rw [ho]
   simp only
   rcases hh with ⟨hw, hh⟩ | ⟨hw, st', G', lam', f1, f2, f3⟩
   ·rw [if_pos hw]
    refine .inl (wp_mono2 hh (fun a' w' hn => ?_) (fun e a' w' hq => ?_))
    ·obtain ⟨st', G', lam', f1, f2, f3⟩ := hn; cases f1
    ·obtain ⟨v', st', c, G', f1, f2, f3, f4, f5, f6⟩ := hq
     cases f1
     exact .inr ⟨v, s2, c, G', e2, f2, f3, x.trans f4, by rw [← e3]; exact f5, f6⟩
   ·cases f1
theorem distinct_nodup : ∀ {l : List Nat}, distinct l = true → l.Nodup
 | [], _ => List.nodup_nil
 | x :: xs, h => by
  simp only [distinct, Bool.and_eq_true, Bool.not_eq_true'] at h
  exact List.nodup_cons.2 ⟨by simpa using h.1, distinct_nodup h.2⟩
theorem pairs_pairwise {f : Nat → Nat → Bool} : ∀ {l : List Nat}, pairs f l = true → l.Pairwise fun i j => f i j = true
 | [], _ => List.Pairwise.nil
 | x :: xs, h => by
  simp only [pairs, Bool.and_eq_true, List.all_eq_true] at h
  exact List.pairwise_cons.2 ⟨fun y hy => h.1 y hy, pairs_pairwise h.2⟩
theorem draw_sound (hC : CtxOk P C) (hcall : CallsOk P C H call) {L : List Nat} (hf : free H ops L = true) {s : St} {K : Out → Option Res} {r : Res} (h : aops C H call (some (ancs ops.toList [])) ops L s K = some r) :
  ∃ out, K out = some r ∧ ∀ G lam a w, Inv C.glob G lam a w s → wpAny P .any ops (OQ C G w out) ops.size (Array.replicate ops.size false) a { w with drawn := w.drawn + 1 } := by
 obtain ⟨out, h1, h2⟩ := aops_runs _ _ _ _ h
 refine ⟨out, h1, fun G lam a w hI => ?_⟩
 simp only [free, Bool.and_eq_true, List.all_eq_true, beq_iff_eq] at hf
 obtain ⟨⟨⟨⟨⟨f1, f2⟩, f3⟩, f3b⟩, f4⟩, f5⟩ := hf
 have hlt : ∀ i ∈ L, i < ops.size := fun i hi => by simpa using f3 i hi
 have hE : ∀ i, ∀ k ∈ edgesAt ops i, k < ops.size ∧ k ≠ i := by
  intro i k hk
  have hi : i < ops.size := by
   rcases Nat.lt_or_ge i ops.size with h | h
   ·exact h
   ·simp [edgesAt, Array.getElem?_eq_none h] at hk
  have := f4 i (by simpa using hi) k hk
  simpa using this
 have hall : ∀ i, i < ops.size → i ∈ L := by
  intro i hi
  simpa using f3b i (by simpa using hi)
 have hgood : Good H (ancs ops.toList []) ops (Array.replicate ops.size false) L := by
  refine ⟨by simp, fun i => ?_, distinct_nodup f2, (pairs_pairwise f5).imp fun hh => ?_, fun k hk => ?_⟩
  ·refine ⟨fun hi => by simp [hlt i hi], fun hi => hall i ?_⟩
   rcases Nat.lt_or_ge i ops.size with h | h
   ·exact h
   ·simp [Nat.not_lt.2 h] at hi
  ·simpa using hh
  ·simp [Array.getD_eq_getD_getElem?, Array.getElem?_replicate] at hk
   split at hk <;> simp at hk
 exact runs_any hC hcall ancs_ok hE ops.size _ L s hgood (by rw [f1]; exact Nat.le_refl _) h2 G lam a _ (Ext.same rfl rfl rfl rfl) (hI.same rfl rfl rfl rfl)
end
end Go.Ab
end
section
namespace Go.Ab
section
variable {P : Program} {C : Ctx} {H : Hints} {call : CallF}
def EP (C : Ctx) (G : Gh) (w : World) (ex : Ex) (st : St) (e : Exit) (a' : Act) (w' : World) : Prop :=
 match ex with
 | .normal => e = .normal ∧ ∃ G' lam', Ext G w G' w' ∧ Inv C.glob G' lam' a' w' st
 | .exit i => e = .exit i ∧ ∃ G' lam', Ext G w G' w' ∧ Inv C.glob G' lam' a' w' st
 | .ret => e = .ret ∧ ∃ G' lam', Ext G w G' w' ∧ Inv C.glob G' lam' a' w' st
 | .pan v => ∃ c G', e = .panic [{ v := c, recovered := false }] ∧ Rel G' w' v c ∧ Ext G w G' w' ∧ SInv C.glob G' w' st.sto ∧ a'.defers = []
theorem EP.trans {G G1 : Gh} {w w1 : World} {ex : Ex} {st : St} {e : Exit} {a' : Act} {w' : World} (x : Ext G w G1 w1) (h : EP C G1 w1 ex st e a' w') : EP C G w ex st e a' w' := by
 cases ex with
 | pan v => obtain ⟨c, G', h1, h2, h3, h4, h5⟩ := h; exact ⟨c, G', h1, h2, x.trans h3, h4, h5⟩
 | normal => obtain ⟨h1, G', lam', h2, h3⟩ := h; exact ⟨h1, G', lam', x.trans h2, h3⟩
 | exit i => obtain ⟨h1, G', lam', h2, h3⟩ := h; exact ⟨h1, G', lam', x.trans h2, h3⟩
 | ret => obtain ⟨h1, G', lam', h2, h3⟩ := h; exact ⟨h1, G', lam', x.trans h2, h3⟩
def SoundC (P : Program) (C : Ctx) (c : Code) (st : St) (ex : Ex) (st' : St) : Prop := ∀ G lam a w, Inv C.glob G lam a w st → c.wp P (EP C G w ex st') a w
theorem keepRegs_get (keep : List Nat) : ∀ (l : List RV) (i r : Nat), (keepRegs keep i l)[r]? = (l[r]?).map fun x => if keep.contains (i + r) then x else .dead
 | [], _, _ => by simp [keepRegs]
 | x :: xs, i, r => by
  cases r with
  | zero => simp [keepRegs]
  | succ r => simp only [keepRegs, List.getElem?_cons_succ]; rw [keepRegs_get keep xs (i + 1) r]; simp [Nat.add_assoc, Nat.add_comm 1]
theorem keepLocs_get (keep : List Nat) : ∀ (l : List (List Cell)) (i r : Nat), (keepLocs keep i l)[r]? = (l[r]?).map fun x => if keep.contains (i + r) then x else []
 | [], _, _ => by simp [keepLocs]
 | x :: xs, i, r => by
  cases r with
  | zero => simp [keepLocs]
  | succ r => simp only [keepLocs, List.getElem?_cons_succ]; rw [keepLocs_get keep xs (i + 1) r]; simp [Nat.add_assoc, Nat.add_comm 1]
theorem keepRegs_length (keep : List Nat) : ∀ (l : List RV) (i : Nat), (keepRegs keep i l).length = l.length
 | [], _ => rfl
 | x :: xs, i => by simp [keepRegs, keepRegs_length keep xs]
theorem keepLocs_length (keep : List Nat) : ∀ (l : List (List Cell)) (i : Nat), (keepLocs keep i l).length = l.length
 | [], _ => rfl
 | x :: xs, i => by simp [keepLocs, keepLocs_length keep xs]
theorem Inv.kill {gl : Nat → Option (List V)} {G : Gh} {lam : Nat → Nat} {a : Act} {w : World} {st : St} (h : Inv gl G lam a w st) (keep : List Nat) : Inv gl G lam a w (st.kill keep) := by
 refine ⟨h.defers, by simp only [St.kill, keepRegs_length]; exact h.len, by simp only [St.kill, keepRegs_length, keepLocs_length]; exact h.lenl, fun r x hx => ?_, fun r cs hc hne => ?_, h.sto⟩
 ·simp only [St.kill, keepRegs_get, Option.map_eq_some_iff] at hx
  obtain ⟨y, hy, rfl⟩ := hx
  split
  ·exact h.regs r y hy
  ·trivial
 ·simp only [St.kill, keepLocs_get, Option.map_eq_some_iff] at hc
  obtain ⟨y, hy, rfl⟩ := hc
  split
  ·rename_i hk
   rw [if_pos hk] at hne
   exact h.locs r y hy hne
  ·rename_i hk
   rw [if_neg hk] at hne
   exact absurd rfl hne
theorem aloop_sound {c : Code} {body : St → (Ex → St → Option Res) → Option Res} (hb : ∀ st K r, body st K = some r → ∃ ex st', K ex st' = some r ∧ SoundC P C c st ex st') (keep : List Nat) :
  ∀ (n : Nat) (st : St) (K : Ex → St → Option Res) (r : Res), aloop body keep n st K = some r → ∃ ex st', K ex st' = some r ∧ ∀ G lam a w, Inv C.glob G lam a w st → ∀ (b : Frame) (k : List Item) (cs : List Frame),
   ∃ e a' w', EP C G w ex st' e a' w' ∧ Arrives P (lone (b.at a (.code c :: .inLoop c :: k)) cs w) b k cs e a' w'
 | 0, st, K, r, h => by simp [aloop] at h
 | n + 1, st, K, r, h => by
  simp only [aloop] at h
  obtain ⟨ex, st1, h1, h2⟩ := hb _ _ _ h
  cases ex with
  | normal =>
   simp only [kloop] at h1
   obtain ⟨ex2, st2, h3, h4⟩ := aloop_sound hb keep n _ K r h1
   refine ⟨ex2, st2, h3, fun G lam a w hI b k cs => ?_⟩
   obtain ⟨e, a1, w1, ⟨rfl, G1, lam1, x1, i1⟩, harr⟩ := h2 G lam a w hI b (.inLoop c :: k) cs
   obtain ⟨e2, a2, w2, q2, harr2⟩ := h4 G1 lam1 a1 w1 (i1.kill keep) b k cs
   exact ⟨e2, a2, w2, q2.trans x1, .of_steps (Steps.trans harr (.one step_inLoop)) harr2⟩
  | exit i =>
   refine ⟨_, st1, h1, fun G lam a w hI b k cs => ?_⟩
   obtain ⟨e, a1, w1, hq, harr⟩ := h2 G lam a w hI b (.inLoop c :: k) cs
   have he := hq.1
   exact ⟨e, a1, w1, hq, .pass (x := .inLoop c) rfl (fun _ _ => .inl (by rw [he]; simp)) harr⟩
  | ret =>
   refine ⟨_, st1, h1, fun G lam a w hI b k cs => ?_⟩
   obtain ⟨e, a1, w1, hq, harr⟩ := h2 G lam a w hI b (.inLoop c :: k) cs
   have he := hq.1
   exact ⟨e, a1, w1, hq, .pass (x := .inLoop c) rfl (fun _ _ => .inl (by rw [he]; simp)) harr⟩
  | pan v =>
   refine ⟨_, st1, h1, fun G lam a w hI b k cs => ?_⟩
   obtain ⟨e, a1, w1, hq, harr⟩ := h2 G lam a w hI b (.inLoop c :: k) cs
   obtain ⟨cc, G', he, _⟩ := id hq
   exact ⟨e, a1, w1, hq, .pass (x := .inLoop c) rfl (fun _ _ => .inl (by rw [he]; simp)) harr⟩
theorem aexec_sound (hC : CtxOk P C) (hcall : CallsOk P C H call) (n : Nat) : ∀ (c : Code) (id : Nat) (st : St) (K : Ex → St → Option Res) (r : Res), aexec C H call n c id st K = some r → ∃ ex st', K ex st' = some r ∧ SoundC P C c st ex st'
 | .skip, _, st, K, r, h => ⟨.normal, st, h, fun G lam a w hI => wp_skip ⟨rfl, G, lam, Ext.refl _ _, hI⟩⟩
 | .label l, _, st, K, r, h => ⟨.normal, st, h, fun G lam a w hI => wp_label ⟨rfl, G, lam, Ext.refl _ _, hI⟩⟩
 | .region id ops draw, _, st, K, r, h => by
  simp only [aexec] at h
  have fin : ∀ out, (match out with | .next st => K .normal st | .pan v st => K (.pan v) st) = some r → ∃ ex st', K ex st' = some r ∧ ∀ (G : Gh) (w : World) e a' w', OQ C G w out e a' w' → EP C G w ex st' e a' w' := by
   intro out h1
   cases out with
   | next st1 =>
    refine ⟨.normal, st1, h1, fun G w e a' w' hq => ?_⟩
    rcases hq with ⟨rfl, st', G', lam', hh, e2, e3⟩ | ⟨v, st', c, G', hh, _⟩
    ·cases hh; exact ⟨rfl, G', lam', e2, e3⟩
    ·cases hh
   | pan v st1 =>
    refine ⟨.pan v, st1, h1, fun G w e a' w' hq => ?_⟩
    rcases hq with ⟨rfl, st', G', lam', hh, e2, e3⟩ | ⟨v', st', c, G', hh, q1, q2, q3, q4, q5⟩
    ·cases hh
    ·cases hh; exact ⟨c, G', q1, q2, q3, q4, q5⟩
  cases draw with
  | true =>
   simp only [if_true] at h
   obtain ⟨u, hu, h⟩ := bind2 h
   obtain ⟨out, h1, h2⟩ := draw_sound hC hcall (grd_some hu) h
   obtain ⟨ex, st', h3, h4⟩ := fin out h1
   exact ⟨ex, st', h3, fun G lam a w hI => wp_mono (wp_region_any hC.mixed (h2 G lam a w hI)) fun e a' w' hq => h4 G w e a' w' hq⟩
  | false =>
   simp only [Bool.false_eq_true, if_false] at h
   obtain ⟨out, h1, h2⟩ := aops_sound hC hcall _ _ _ _ h
   obtain ⟨ex, st', h3, h4⟩ := fin out h1
   exact ⟨ex, st', h3, fun G lam a w hI => wp_mono (wp_region (h2 G lam a w hI)) fun e a' w' hq => h4 G w e a' w' hq⟩
 | .seq x y, id, st, K, r, h => by
  simp only [aexec] at h
  obtain ⟨ex, st1, h1, h2⟩ := aexec_sound hC hcall n x 0 st _ r h
  cases ex with
  | normal =>
   obtain ⟨ex2, st2, h3, h4⟩ := aexec_sound hC hcall n y 0 st1 K r h1
   refine ⟨ex2, st2, h3, fun G lam a w hI => wp_seq (wp_mono (h2 G lam a w hI) fun e a' w' hq => ?_)⟩
   obtain ⟨rfl, G', lam', e2, e3⟩ := hq
   exact wp_mono (h4 G' lam' a' w' e3) fun e a w hq => hq.trans e2
  | exit i =>
   refine ⟨_, st1, h1, fun G lam a w hI => wp_seq (wp_mono (h2 G lam a w hI) fun e a' w' hq => ?_)⟩
   obtain ⟨rfl, hh⟩ := hq; exact ⟨rfl, hh⟩
  | ret =>
   refine ⟨_, st1, h1, fun G lam a w hI => wp_seq (wp_mono (h2 G lam a w hI) fun e a' w' hq => ?_)⟩
   obtain ⟨rfl, hh⟩ := hq; exact ⟨rfl, hh⟩
  | pan v =>
   refine ⟨_, st1, h1, fun G lam a w hI => wp_seq (wp_mono (h2 G lam a w hI) fun e a' w' hq => ?_)⟩
   obtain ⟨c, G', rfl, hh⟩ := hq; exact ⟨c, G', rfl, hh⟩
 | .cond c x y, id, st, K, r, h => by
  simp only [aexec] at h
  split at h
  ·rename_i r0
   split at h
   ·rename_i v ow hv
    obtain ⟨b, hb, h⟩ := bind2 h
    have key : ∀ G lam a w, Inv C.glob G lam a w st → a.eval (.tmp r0) = .bool b := by
     intro G lam a w hI
     obtain ⟨q1, _, _⟩ := hI.open hv
     exact asBool_rel hb q1
    have hs := setReg_same hv hb
    cases b with
    | true =>
     simp only [cond_true, hs] at h
     obtain ⟨ex, st1, h1, h2⟩ := aexec_sound hC hcall n x 0 _ K r h
     exact ⟨ex, st1, h1, fun G lam a w hI => wp_cond_true (key G lam a w hI) (h2 G lam a w hI)⟩
    | false =>
     simp only [cond_false, hs] at h
     obtain ⟨ex, st1, h1, h2⟩ := aexec_sound hC hcall n y 0 _ K r h
     exact ⟨ex, st1, h1, fun G lam a w hI => wp_cond_false (key G lam a w hI) (h2 G lam a w hI)⟩
   ·simp at h
  ·rename_i b
   cases b with
   | true =>
    simp only [if_true] at h
    obtain ⟨ex, st1, h1, h2⟩ := aexec_sound hC hcall n x 0 _ K r h
    exact ⟨ex, st1, h1, fun G lam a w hI => wp_cond_true rfl (h2 G lam a w hI)⟩
   | false =>
    simp only [Bool.false_eq_true, if_false] at h
    obtain ⟨ex, st1, h1, h2⟩ := aexec_sound hC hcall n y 0 _ K r h
    exact ⟨ex, st1, h1, fun G lam a w hI => wp_cond_false rfl (h2 G lam a w hI)⟩
  ·simp at h
 | .block i body, id, st, K, r, h => by
  simp only [aexec] at h
  obtain ⟨ex, st1, h1, h2⟩ := aexec_sound hC hcall n body i st _ r h
  cases ex with
  | normal =>
   refine ⟨_, st1, h1, fun G lam a w hI => wp_block (wp_mono (h2 G lam a w hI) fun e a' w' hq => ?_)⟩
   obtain ⟨rfl, hh⟩ := hq; exact ⟨rfl, hh⟩
  | exit j =>
   simp only [kblk] at h1
   by_cases hj : j = i
   ·rw [if_pos hj] at h1
    refine ⟨_, st1, h1, fun G lam a w hI => wp_block (wp_mono (h2 G lam a w hI) fun e a' w' hq => ?_)⟩
    obtain ⟨rfl, hh⟩ := hq
    simp only [Exit.inBlock, if_pos hj]
    exact ⟨rfl, hh⟩
   ·rw [if_neg hj] at h1
    refine ⟨_, st1, h1, fun G lam a w hI => wp_block (wp_mono (h2 G lam a w hI) fun e a' w' hq => ?_)⟩
    obtain ⟨rfl, hh⟩ := hq
    simp only [Exit.inBlock, if_neg hj]
    exact ⟨rfl, hh⟩
  | ret =>
   refine ⟨_, st1, h1, fun G lam a w hI => wp_block (wp_mono (h2 G lam a w hI) fun e a' w' hq => ?_)⟩
   obtain ⟨rfl, hh⟩ := hq; exact ⟨rfl, hh⟩
  | pan v =>
   refine ⟨_, st1, h1, fun G lam a w hI => wp_block (wp_mono (h2 G lam a w hI) fun e a' w' hq => ?_)⟩
   obtain ⟨c, G', rfl, hh⟩ := hq; exact ⟨c, G', rfl, hh⟩
 | .loop body, id, st, K, r, h => by
  simp only [aexec] at h
  obtain ⟨ex, st1, h1, h2⟩ := aloop_sound (c := body) (fun st K r hh => aexec_sound hC hcall n body 0 st K r hh) (H.keep id) n _ K r h
  refine ⟨ex, st1, h1, fun G lam a w hI => ?_⟩
  intro b k cs
  obtain ⟨e, a', w', q1, q2⟩ := h2 G lam a w (hI.kill _) b k cs
  exact ⟨e, a', w', q1, .of_steps (.one step_loop) q2⟩
 | .exit i, _, st, K, r, h => ⟨.exit i, st, h, fun G lam a w hI => wp_exit ⟨rfl, G, lam, Ext.refl _ _, hI⟩⟩
 | .ret, _, st, K, r, h => ⟨.ret, st, h, fun G lam a w hI => wp_ret ⟨rfl, G, lam, Ext.refl _ _, hI⟩⟩
 | .rangeFunc .., _, st, K, r, h => by simp [aexec] at h
 | .scope _, _, st, K, r, h => by simp [aexec] at h
 | .goto _, _, st, K, r, h => by simp [aexec] at h
 | .refuse _, _, st, K, r, h => by simp [aexec] at h
end
end Go.Ab
end
section
namespace Go.Ab
section
variable {P : Program} {C : Ctx} {H : Hints} {call : CallF}
theorem resCells_sound (hC : CtxOk P C) : ∀ (rs : List ResultVar) (k : Nat) (st : St) (vs : List Cell) (G : Gh) (lam : Nat → Nat) (a : Act) (w : World), resCells C st rs = some vs → Inv C.glob G lam a w st →
  ∃ (G' : Gh) (cs : List Value), (rs.mapM (fun (r : ResultVar) => match r with | .tmp t => (pure (a.tmps.getD t undef) : Sem Value) | .cell ad t => do loadVar t (← asAddr (a.tmps.getD ad undef)))).run P w = .ok cs w ∧ cs.length = vs.length ∧ Ext G w G' w ∧ SInv C.glob G' w st.sto ∧ G'.N = G.N ∧
   (∀ i p, G'.owner i = some p → G.owner i = some p ∨ ∃ j, k ≤ j ∧ p = .res j) ∧ (∀ i j, G.owner i = some (.res j) → j < k → G'.owner i = some (.res j) ∧ G'.lim i = G.lim i) ∧
   ∀ (i : Nat) c x, vs[i]? = some c → cs[i]? = some x → CRel G' w (.res (k + i)) c x
 | [], k, st, vs, G, lam, a, w, h, hI => by
  simp [resCells] at h
  subst h
  exact ⟨G, [], by simp, rfl, Ext.refl _ _, hI.sto, rfl, fun i p hp => .inl hp, fun i j hj _ => ⟨hj, rfl⟩, by simp⟩
 | .tmp t :: rest, k, st, vs, G, lam, a, w, h, hI => by
  simp only [resCells] at h
  split at h
  ·rename_i v ow hv
   obtain ⟨vs', h1, h2⟩ := bind2 h
   obtain rfl := Option.some.inj h2
   have hr := eval_reg hI t
   rw [hv] at hr
   have hcl := hI.clear [t]
   -- the token goes to the result's place
   have tok : ∃ G1, Ext G w G1 w ∧ Inv C.glob G1 lam a w (st.clear [t]) ∧ G1.N = G.N ∧ CRel G1 w (.res k) (v, ow) (a.tmps.getD t undef) ∧
     (∀ i p, G1.owner i = some p → G.owner i = some p ∨ p = .res k) ∧ (∀ i j, G.owner i = some (.res j) → j < k → G1.owner i = some (.res j) ∧ G1.lim i = G.lim i) := by
    cases ow with
    | false => exact ⟨G, Ext.refl _ _, hcl, rfl, ⟨hr.1, fun ho => by simp at ho⟩, fun i p hp => .inl hp, fun i j hj _ => ⟨hj, rfl⟩⟩
    | true =>
     have ho := hr.2 rfl
     have hnf := clear_not_flagged (st := st) [t] t (by simp)
     by_cases hd : ∃ (kk : Nat) (et : TypeId) (es : List (List V)) (ad : Addr) (n cap : Nat), v = V.slice kk et es ∧ a.eval (.tmp t) = .slice (some ad) n cap
     ·obtain ⟨kk, et, es, ad, n, cap, rfl, hev⟩ := hd
      rw [hev] at ho
      obtain ⟨q1, q2, q3, q4, q5⟩ := ho
      ·let G1 : Gh := { G with owner := upd G.owner ad.block (some (.res k)) }
       have hE : Ext G w G1 w := ⟨Nat.le_refl _, fun _ _ => rfl, fun _ _ => rfl, fun _ => Nat.le_refl _, fun _ _ _ => rfl, rfl, rfl, rfl, Nat.le_refl _, fun i _ hi => ⟨rfl, rfl, by
        show upd G.owner ad.block _ i = none
        rw [upd_other]
        ·exact hi
        ·rintro rfl; rw [q3] at hi; simp at hi⟩⟩
       refine ⟨G1, hE, ?_, rfl, ⟨rel_owner hr.1 _, fun _ => ?_⟩, fun i p hp => ?_, fun i j hj hjk => ⟨?_, rfl⟩⟩
       ·refine hcl.move hE ⟨fun i p hp hf => ⟨rfl, rfl, ?_⟩⟩ (fun i hi => ⟨(hI.sto.wf i hi).1, ?_⟩) rfl
        ·show upd G.owner ad.block _ i = some p
         rw [upd_other]
         ·exact hp
         ·rintro rfl
          rw [q3] at hp
          obtain rfl := Option.some.inj hp
          rcases hf with hf | ⟨r, hr⟩ | ⟨b, hb⟩
          ·exact hnf hf
          ·simp at hr
          ·simp at hb
        ·show upd G.owner ad.block _ i = none
         rw [upd_other]
         ·exact (hI.sto.wf i hi).2
         ·rintro rfl; rw [(hI.sto.wf _ hi).2] at q3; simp at q3
       ·have hev' : a.tmps.getD t undef = .slice (some ad) n cap := hev
        rw [hev']
        exact ⟨q1, q2, by show upd G.owner _ _ _ = _; simp, q4, q5⟩
       ·have hp' : upd G.owner ad.block (some (.res k)) i = some p := hp
        by_cases hi : i = ad.block
        ·subst hi; simp at hp'; exact .inr hp'.symm
        ·rw [upd_other _ _ hi] at hp'; exact .inl hp'
       ·show upd G.owner ad.block _ i = _
        rw [upd_other]
        ·exact hj
        ·rintro rfl; rw [q3] at hj; simp at hj
     ·refine ⟨G, Ext.refl _ _, hcl, rfl, ⟨hr.1, fun _ => ?_⟩, fun i p hp => .inl hp, fun i j hj _ => ⟨hj, rfl⟩⟩
      have hev' : a.tmps.getD t undef = a.eval (.tmp t) := rfl
      rw [hev']
      unfold Own at ho ⊢
      split at ho
      ·rename_i kk et es ad n cap hvv heq
       exact absurd ⟨kk, et, es, ad, n, cap, hvv, heq⟩ hd
      ·exact ho
      ·trivial
   obtain ⟨G1, t1, t2, t3, t4, t5, t6⟩ := tok
   obtain ⟨G', cs, e1, e2, e3, e4, e5, e6, e7, e8⟩ := resCells_sound hC rest (k + 1) _ vs' G1 lam a w h1 t2
   refine ⟨G', a.tmps.getD t undef :: cs, ?_, by simp [e2], t1.trans e3, e4, e5.trans t3, fun i p hp => ?_, fun i j hj hjk => ?_, fun i c x hc hx => ?_⟩
   ·simp only [List.mapM_cons, Sem.run_bind, Sem.run_pure, Result.andThen_ok]
    rw [e1]
    rfl
   ·rcases e6 i p hp with hh | ⟨j, hj, rfl⟩
    ·rcases t5 i p hh with hh | rfl
     ·exact .inl hh
     ·exact .inr ⟨k, Nat.le_refl _, rfl⟩
    ·exact .inr ⟨j, by omega, rfl⟩
   ·obtain ⟨u1, u2⟩ := t6 i j hj hjk
    obtain ⟨u3, u4⟩ := e7 i j u1 (by omega)
    exact ⟨u3, u4.trans u2⟩
   ·cases i with
    | zero =>
     simp at hc hx
     subst hc; subst hx
     have := t4.move e3 fun _ i hi => ⟨rfl, (e7 i k hi (by omega)).2, (e7 i k hi (by omega)).1⟩
     simpa using this
    | succ i =>
     simp at hc hx
     have := e8 i c x hc hx
     rw [show k + 1 + i = k + (i + 1) by omega] at this
     exact this
  ·simp at h
 | .cell ad t :: rest, k, st, vs, G, lam, a, w, h, hI => by
  simp only [resCells] at h
  obtain ⟨i, hi, h⟩ := bind2 h
  have hT := hC.T t i hi
  have fin : ∀ v vs', resCells C st rest = some vs' → vs = (v, false) :: vs' → ∀ b o x, a.tmps.getD ad undef = .pointer (some ⟨b, o, none⟩) → (loadVar t ⟨b, o, none⟩).run P w = .ok x w → Rel G w v x →
    ∃ (G' : Gh) (cs : List Value), ((ResultVar.cell ad t :: rest).mapM (fun (r : ResultVar) => match r with | .tmp t => (pure (a.tmps.getD t undef) : Sem Value) | .cell ad t => do loadVar t (← asAddr (a.tmps.getD ad undef)))).run P w = .ok cs w ∧ cs.length = vs.length ∧ Ext G w G' w ∧ SInv C.glob G' w st.sto ∧ G'.N = G.N ∧
    (∀ i p, G'.owner i = some p → G.owner i = some p ∨ ∃ j, k ≤ j ∧ p = .res j) ∧ (∀ i j, G.owner i = some (.res j) → j < k → G'.owner i = some (.res j) ∧ G'.lim i = G.lim i) ∧
    ∀ (i : Nat) c x, vs[i]? = some c → cs[i]? = some x → CRel G' w (.res (k + i)) c x := by
   intro v vs' h1 hvs b o x hp hrun hrel
   obtain ⟨G', cs, e1, e2, e3, e4, e5, e6, e7, e8⟩ := resCells_sound hC rest (k + 1) _ vs' G lam a w h1 hI
   subst hvs
   refine ⟨G', x :: cs, ?_, by simp [e2], e3, e4, e5, fun i p hp => ?_, fun i j hj hjk => e7 i j hj (by omega), fun i c y hc hy => ?_⟩
   ·have hl : ((match (ResultVar.cell ad t) with | .tmp t => (pure (a.tmps.getD t undef) : Sem Value) | .cell ad t => do loadVar t (← asAddr (a.tmps.getD ad undef)))).run P w = .ok x w := by
     simp only [Sem.run_bind, hp, asAddr, Sem.run_pure, Result.andThen_ok, hrun]
    rw [List.mapM_cons, Sem.run_bind, hl, Result.andThen_ok, Sem.run_bind, e1]
    rfl
   ·rcases e6 i p hp with hh | ⟨j, hj, rfl⟩
    ·exact .inl hh
    ·exact .inr ⟨j, by omega, rfl⟩
   ·cases i with
    | zero =>
     simp at hc hy
     subst hc; subst hy
     exact ⟨hrel.mono e3, fun ho => by simp at ho⟩
    | succ i =>
     simp at hc hy
     have := e8 i c y hc hy
     rw [show k + 1 + i = k + (i + 1) by omega] at this
     exact this
  split at h
  ·rename_i r o hr
   obtain ⟨v, hv, h1⟩ := bind2 h
   obtain ⟨vs', h2, h3⟩ := bind2 h1
   have hp := eval_reg hI ad
   rw [hr] at hp
   obtain ⟨x, e1, e2⟩ := gather_rel (P := P) hT (locs_ok hI r) hv
   exact fin v vs' h2 (Option.some.inj h3).symm _ _ x hp e1 e2
  ·rename_i p ow hr
   obtain ⟨v, hv, h1⟩ := bind2 h
   obtain ⟨vs', h2, h3⟩ := bind2 h1
   have hp := eval_reg hI ad
   rw [hr] at hp
   obtain ⟨x, e1, e2⟩ := memGet_run hC hI hi hp.1 hv
   have hpt : ∃ b o, a.tmps.getD ad undef = .pointer (some ⟨b, o, none⟩) := by
    have hp1 := hp.1
    have hev : a.eval (.tmp ad) = a.tmps.getD ad undef := rfl
    rw [hev] at hp1
    cases p with
    | ptr tt b o => generalize a.tmps.getD ad undef = q at hp1; cases hp1; exact ⟨_, _, rfl⟩
    | eptr kk e o => generalize a.tmps.getD ad undef = q at hp1; cases hp1; exact ⟨_, _, rfl⟩
    | _ => simp [memGet] at hv
   obtain ⟨b, o, hb⟩ := hpt
   have hev : a.eval (.tmp ad) = .pointer (some ⟨b, o, none⟩) := hb
   rw [hev] at e1
   simp only [Instr.loadAt, Instr.sureAddr, Sem.run_bind, Sem.run_pure, Result.andThen_ok] at e1
   exact fin v vs' h2 (Option.some.inj h3).symm b o x hb e1 e2
  ·simp at h
theorem afun_sound (hC : CtxOk P C) (hcall : CallOk P C call) {f : FuncId} {d : FDef} (hpu : PureOk d.hints call) (hf : P.funcs[f]? = some d.fn) (hbody : d.fn.body = some d.code) {n : Nat} {args : List Cell} {σ : Sto} {r : Res} (h : afun C d call n args σ = some r)
  (G : Gh) (w : World) (vals : List Value) (hS : SInv C.glob G w σ) (hcl : Clean G args.length) (hlen : vals.length = args.length) (hv : ∀ (i : Nat) c x, args[i]? = some c → vals[i]? = some x → CRel G w (.reg i) c x) :
  Calls P f vals.toArray w fun en w' => ∃ G', Ext G w G' w' ∧ SInv C.glob G' w' r.2 ∧ EndRel G' w' r.1 en := by
 simp only [afun] at h
 split at h
 ·rename_i hle
  obtain ⟨ex, st, h1, h2⟩ := aexec_sound hC ⟨hcall, hpu⟩ n d.code 0 _ _ r h
  refine calls_of_wp hf hbody ?_
  let a0 : Act := { tmps := vals.toArray ++ Array.replicate (d.fn.ntmps - vals.toArray.size) undef, defers := [] }
  have hI : Inv C.glob G (fun _ => 0) a0 w { regs := args.map (fun c => RV.val c.1 c.2) ++ List.replicate (d.fn.ntmps - args.length) .dead, locs := List.replicate d.fn.ntmps [], sto := σ } := by
   refine ⟨rfl, by simp [a0, hlen], by simp; omega, fun i x hx => ?_, fun i cs hc hne => ?_, hS⟩
   ·by_cases hi : i < args.length
    ·rw [List.getElem?_append_left (by simpa using hi), List.getElem?_map, Option.map_eq_some_iff] at hx
     obtain ⟨c, hc, rfl⟩ := hx
     have hi' : i < vals.length := by omega
     have := hv i c vals[i] hc (List.getElem?_eq_getElem hi')
     have hg : a0.tmps.getD i undef = vals[i] := by
      simp only [a0, Array.getD_eq_getD_getElem?]
      rw [Array.getElem?_append_left (by simpa using hi')]
      simp [hi']
     rw [hg]
     exact this
    ·rw [List.getElem?_append_right (by simp; omega)] at hx
     obtain ⟨_, hx⟩ := List.getElem?_eq_some_iff.1 hx
     simp at hx
     subst hx
     trivial
   ·obtain ⟨_, hc⟩ := List.getElem?_eq_some_iff.1 hc
    simp at hc
    exact absurd hc hne
  have hw := h2 G _ a0 w hI
  refine wp_mono hw fun e a' w' hq => ?_
  have finish : (e = .normal ∨ e = .ret) → (∃ vs, resCells C st d.fn.results.toList = some vs ∧ r = (.ret vs, st.sto)) → (∃ G' lam', Ext G w G' w' ∧ Inv C.glob G' lam' a' w' st) → bodyPost P d.fn (fun en w' => ∃ G', Ext G w G' w' ∧ SInv C.glob G' w' r.2 ∧ EndRel G' w' r.1 en) e a' w' := by
   rintro he ⟨vs, hvs, rfl⟩ ⟨G1, lam1, x1, i1⟩
   obtain ⟨G', cs, e1, e2, e3, e4, e5, e6, e7, e8⟩ := resCells_sound hC d.fn.results.toList 0 st vs G1 lam1 a' w' hvs i1
   have hres : (results d.fn a'.tmps).run P w' = .ok (if h : cs.toArray.size = 1 then cs.toArray[0] else .tuple cs.toArray) w' := by
    unfold results
    rw [Sem.run_bind, Array.mapM_eq_mapM_toList]
    simp only [Sem.run_map]
    exact congrArg (fun z : Result (List Value) => (z.andThen fun a w' => Result.ok a.toArray w').andThen fun a w' => Sem.run P (pure (if h : a.size = 1 then a[0] else Value.tuple a)) w') e1
   have hpost : a'.defers = [] ∧ ∃ v, (results d.fn a'.tmps).run P w' = .ok v w' ∧ ∃ G', Ext G w G' w' ∧ SInv C.glob G' w' st.sto ∧ EndRel G' w' (.ret vs) (.returned v) := by
    refine ⟨i1.defers, _, hres, ?_⟩
    -- what is kept: the store's and the results' holdings
    let G2 : Gh := { G' with owner := fun i => match G'.owner i with | some (.blk b) => some (.blk b) | some (.gc b j) => some (.gc b j) | some (.res j) => some (.res j) | _ => none }
    have hE : Ext G' w' G2 w' := ⟨Nat.le_refl _, fun _ _ => rfl, fun _ _ => rfl, fun _ => Nat.le_refl _, fun _ _ _ => rfl, rfl, rfl, rfl, Nat.le_refl _, fun i _ hi => ⟨rfl, rfl, by simp [G2, hi]⟩⟩
    refine ⟨G2, (x1.trans e3).trans hE, ⟨fun i hi => ⟨(e4.wf i hi).1, by simp [G2, (e4.wf i hi).2]⟩, fun g cs hg => (e4.glob g cs hg).mono hE, e4.N, e4.typed, fun b cs hb => ?_, e4.gsz.mono hE⟩, cs, e2, rfl, fun i c x hc hx => ?_⟩
    ·obtain ⟨cv, el, g1, g2, g3, g4, g5⟩ := e4.blk b cs hb
     refine ⟨cv, el, g1, g2, ?_, g4, fun j c x hc hx => ⟨(g5 j c x hc hx).1.move hE fun _ i hi => ⟨rfl, rfl, by simp [G2, hi]⟩, (g5 j c x hc hx).2⟩⟩
     show (match G'.owner (G'.μ b) with | some (Place.blk b) => some (Place.blk b) | some (Place.gc b j) => some (Place.gc b j) | some (Place.res j) => some (Place.res j) | _ => none) = some (Place.blk b)
     rw [g3]
    ·have := e8 i c x hc hx
     rw [Nat.zero_add] at this
     exact this.move hE fun _ i hi => ⟨rfl, rfl, by simp [G2, hi]⟩
   rcases he with rfl | rfl <;> exact hpost
  cases ex with
  | normal =>
   obtain ⟨rfl, hh⟩ := hq
   simp only [kfin] at h1
   obtain ⟨vs, hvs, h1⟩ := bind2 h1
   exact finish (.inl rfl) ⟨vs, hvs, (Option.some.inj h1).symm⟩ hh
  | ret =>
   obtain ⟨rfl, hh⟩ := hq
   simp only [kfin] at h1
   obtain ⟨vs, hvs, h1⟩ := bind2 h1
   exact finish (.inr rfl) ⟨vs, hvs, (Option.some.inj h1).symm⟩ hh
  | pan v =>
   obtain ⟨c, G', rfl, q1, q2, q3, q4⟩ := hq
   simp only [kfin] at h1
   obtain rfl := Option.some.inj h1
   exact ⟨q4, G', q2, q3, c, rfl, q1⟩
  | exit i => simp [kfin] at h1
 ·simp at h
def ExtOk (P : Program) (C : Ctx) : Prop := ∀ f s, C.ext f = some s → CallOk P C (fun g args σ => if g = f then s args σ else none)
theorem mask_length (own : List Nat) : ∀ (i : Nat) (cs : List Cell), (maskArgs own i cs).length = cs.length
 | _, [] => rfl
 | i, c :: cs => by simp [maskArgs, mask_length own (i + 1) cs]
theorem mask_get (own : List Nat) : ∀ (i : Nat) (cs : List Cell) (j : Nat) (c : Cell), (maskArgs own i cs)[j]? = some c → ∃ b, cs[j]? = some b ∧ c.1 = b.1 ∧ (c.2 = true → b.2 = true)
 | i, [], j, c, h => by simp [maskArgs] at h
 | i, b :: cs, 0, c, h => by
  simp only [maskArgs, List.getElem?_cons_zero, Option.some.injEq] at h
  subst h
  exact ⟨b, rfl, rfl, fun h => by simp at h; exact h.2⟩
 | i, b :: cs, j + 1, c, h => by
  simp only [maskArgs, List.getElem?_cons_succ] at h
  simpa using mask_get own (i + 1) cs j c h
theorem acall_pure (hC : CtxOk P C) {f : FuncId} {d : FDef} (hd : C.fdef f = some d) : ∀ n, PureOk d.hints (acall C n)
 | 0 => fun g args vs hg h => by simp [acall] at h
 | n + 1 => fun g args vs hg h σ => by
  obtain ⟨s, h1, h2⟩ := hC.pure f d hd g hg
  simp only [acall, h1] at h ⊢
  exact h2 args vs h σ
theorem acall_sound (hC : CtxOk P C) (hX : ExtOk P C) : ∀ n, CallOk P C (acall C n)
 | 0 => fun f args σ r h => by simp [acall] at h
 | n + 1 => fun f args σ r h => by
  simp only [acall] at h
  split at h
  ·rename_i s hs
   have := hX f s hs f args σ r (by simp [h])
   exact this
  ·split at h
   ·rename_i d hd
    obtain ⟨h1, h2, h3⟩ := hC.fdef f d hd
    exact ⟨h3, fun G w vals hS hcl hl hv => afun_sound hC (acall_sound hC hX n) (acall_pure hC hd n) h1 h2 h G w vals hS (by rw [mask_length]; exact hcl) (by rw [mask_length]; exact hl) fun i c x hc hx => by
     obtain ⟨b, e1, e2, e3⟩ := mask_get _ _ _ _ _ hc
     have := hv i b x e1 hx
     exact ⟨by rw [e2]; exact this.1, fun ho => by rw [e2]; exact this.2 (e3 ho)⟩⟩
   ·simp at h
end
end Go.Ab
end
section
namespace Go.Ab
def codeL : Code → Code
 | .seq a _ => a
 | .cond _ a _ => a
 | .block _ b => b
 | .loop b => b
 | c => c
def codeR : Code → Code
 | .seq _ b => b
 | .cond _ _ b => b
 | c => c
def callK (call : CallF) (f : FuncId) (args : List Cell) (σ : Sto) (n : Nat) (K : List Cell → Sto → Option Res) (KP : V → Sto → Option Res) : Option Res :=
 match call f args σ with
 | none => none
 | some r => match r.1 with
  | .ret vs => if vs.length = n then K vs r.2 else none
  | .pan v => KP v r.2
theorem callK_ret {call : CallF} {f : FuncId} {args : List Cell} {σ σ' : Sto} {n : Nat} {K : List Cell → Sto → Option Res} {KP : V → Sto → Option Res} {vs : List Cell} (h : call f args σ = some (.ret vs, σ')) (hn : vs.length = n) :
  callK call f args σ n K KP = K vs σ' := by simp [callK, h, hn]
theorem callK_pan {call : CallF} {f : FuncId} {args : List Cell} {σ σ' : Sto} {n : Nat} {K : List Cell → Sto → Option Res} {KP : V → Sto → Option Res} {v : V} (h : call f args σ = some (.pan v, σ')) :
  callK call f args σ n K KP = KP v σ' := by simp [callK, h]
def look : List (TypeId × TI) → TypeId → Option TI
 | [], _ => none
 | (t, i) :: rest, u => bif Nat.beq t u then some i else look rest u
abbrev LL := List (List V)
abbrev RR := Sto → Option Res
def uu5 (v : V) : V := .agg [v.cell 0, v.cell 1, v.cell 2, v.cell 3, v.cell 4]
abbrev pnK (p : V) (σ : Sto) : Option Res := some (.pan p, σ)
def dd : Nat → List RV → List RV
 | 0, L => L
 | n + 1, L => .dead :: dd n L
def nn : Nat → List (List Cell) → List (List Cell)
 | 0, L => L
 | n + 1, L => [] :: nn n L
def cp : List Nat → Code → Code
 | [], c => c
 | 0 :: L, c => codeL (cp L c)
 | _ :: L, c => codeR (cp L c)
end Go.Ab
end
section
namespace Go.Ab
def Conv {α : Type} (x : Nat → Option α) (l : Option α) : Prop := ∀ r, l = some r → ∃ k, ∀ j, k ≤ j → x j = some r
theorem Conv.none {α : Type} (x : Nat → Option α) : Conv x none := fun r h => by simp at h
theorem Conv.const {α : Type} (l : Option α) : Conv (fun _ => l) l := fun r h => ⟨0, fun _ _ => h⟩
theorem Conv.bindC {α β : Type} (o : Option α) {g : Nat → α → Option β} {f : α → Option β} (h : ∀ a, Conv (fun k => g k a) (f a)) : Conv (fun k => o.bind (g k)) (o.bind f) := by
 cases o with
 | none => exact Conv.none _
 | some a => exact h a
theorem Conv.bind {α β : Type} {o : Nat → Option α} {ol : Option α} {g : Nat → α → Option β} {f : α → Option β} (ho : Conv o ol) (h : ∀ a, Conv (fun k => g k a) (f a)) : Conv (fun k => (o k).bind (g k)) (ol.bind f) := by
 intro r hr
 cases hol : ol with
 | none => simp [hol] at hr
 | some a =>
  rw [hol] at hr
  obtain ⟨k1, h1⟩ := ho a hol
  obtain ⟨k2, h2⟩ := h a r hr
  exact ⟨max k1 k2, fun j hj => by show (o j).bind (g j) = _; rw [h1 j (by omega)]; exact h2 j (by omega)⟩
theorem Conv.ite {α : Type} (p : Prop) [Decidable p] {a b : Nat → Option α} {al bl : Option α} (ha : Conv a al) (hb : Conv b bl) : Conv (fun k => if p then a k else b k) (if p then al else bl) := by
 by_cases hp : p
 ·simp only [if_pos hp]; exact ha
 ·simp only [if_neg hp]; exact hb
theorem Conv.cond {α : Type} (p : Bool) {a b : Nat → Option α} {al bl : Option α} (ha : Conv a al) (hb : Conv b bl) : Conv (fun k => bif p then a k else b k) (bif p then al else bl) := by
 cases p
 ·exact hb
 ·exact ha
section
variable {C : Ctx} {H : Hints} {ck : Nat → CallF} {cl : CallF}
theorem apply_conv (hc : ∀ f a σ, Conv (fun k => ck k f a σ) (cl f a σ)) (dst : Option Nat) (st : St) {Ks : Nat → Out → Option Res} {Kl : Out → Option Res} (hK : ∀ o, Conv (fun k => Ks k o) (Kl o)) (e : Eff) :
  Conv (fun k => apply H (ck k) dst st (Ks k) e) (apply H cl dst st Kl e) := by
 cases e with
 | val x => exact hK _
 | getL r o n agg steal =>
  simp only [apply]
  refine Conv.ite _ ?_ ?_
  ·exact Conv.ite _ (Conv.ite _ (hK _) (Conv.none _)) (Conv.none _)
  ·exact Conv.bindC _ fun v => hK _
 | setL r o cs => exact Conv.ite _ (hK _) (Conv.none _)
 | newL cs =>
  cases dst with
  | none => exact Conv.none _
  | some d => exact Conv.ite _ (hK _) (Conv.none _)
 | getS p n agg => exact Conv.bindC _ fun v => hK _
 | takeS p => exact Conv.bindC _ fun v => hK _
 | setS p cs => exact Conv.bindC _ fun v => hK _
 | newS t cs =>
  cases dst with
  | none => exact Conv.none _
  | some d => exact hK _
 | tupTake r i =>
  simp only [apply]
  split
  ·split
   ·exact hK _
   ·exact Conv.none _
  ·exact Conv.none _
 | pcall f args n =>
  simp only [apply]
  refine Conv.bind (o := fun k => pcallR (ck k f args [])) ?_ fun vs => Conv.ite _ (Conv.bindC _ fun _ => hK _) (Conv.none _)
  intro vs h
  obtain ⟨k1, h1⟩ := hc f args [] _ (pcallR_some h)
  exact ⟨k1, fun j hj => by simp only [h1 j hj]; rfl⟩
 | call f args n =>
  intro r hr
  simp only [apply] at hr ⊢
  split at hr
  ·simp at hr
  ·rename_i r1 hr1
   obtain ⟨k1, h1⟩ := hc f args st.sto r1 hr1
   have hrest : Conv (fun k => match r1.1 with
     | .ret vs => if vs.length = n then (grd (toksOk H dst n vs)).bind fun _ => Ks k (.next ({ st with sto := r1.2 }.put dst (resV H dst n vs))) else none
     | .pan v => Ks k (.pan v { st with sto := r1.2 })) (match r1.1 with
     | .ret vs => if vs.length = n then (grd (toksOk H dst n vs)).bind fun _ => Kl (.next ({ st with sto := r1.2 }.put dst (resV H dst n vs))) else none
     | .pan v => Kl (.pan v { st with sto := r1.2 })) := by
    split
    ·exact Conv.ite _ (Conv.bindC _ fun _ => hK _) (Conv.none _)
    ·exact hK _
   obtain ⟨k2, h2⟩ := hrest r hr
   refine ⟨max k1 k2, fun j hj => ?_⟩
   have h3 : ck j f args st.sto = some r1 := h1 j (by omega)
   rw [h3]
   exact h2 j (by omega)
 | pan v => exact hK _
theorem aop_conv (hc : ∀ f a σ, Conv (fun k => ck k f a σ) (cl f a σ)) (o : Oper) (st : St) {Ks : Nat → Out → Option Res} {Kl : Out → Option Res} (hK : ∀ o, Conv (fun k => Ks k o) (Kl o)) :
  Conv (fun k => aop C H (ck k) o st (Ks k)) (aop C H cl o st Kl) := by
 simp only [aop, actK_eq]
 exact Conv.bindC _ fun e => apply_conv hc _ _ hK e
theorem aops_conv (hc : ∀ f a σ, Conv (fun k => ck k f a σ) (cl f a σ)) (dr : Option (List (List Nat))) (ops : Array Oper) :
  ∀ (l : List Nat) (st : St) {Ks : Nat → Out → Option Res} {Kl : Out → Option Res} (_ : ∀ o, Conv (fun k => Ks k o) (Kl o)), Conv (fun k => aops C H (ck k) dr ops l st (Ks k)) (aops C H cl dr ops l st Kl)
 | [], st, Ks, Kl, hK => hK _
 | i :: rest, st, Ks, Kl, hK => by
  have step : ∀ (o : Oper) (st : St), Conv (fun k => aop C H (ck k) o st fun out => match out with | .next st => aops C H (ck k) dr ops rest st (Ks k) | .pan v st => (grd (panOk dr i rest)).bind fun _ => Ks k (.pan v st))
    (aop C H cl o st fun out => match out with | .next st => aops C H cl dr ops rest st Kl | .pan v st => (grd (panOk dr i rest)).bind fun _ => Kl (.pan v st)) := by
   intro o st
   refine aop_conv hc o st fun out => ?_
   cases out with
   | next st => exact aops_conv hc dr ops rest st hK
   | pan v st => exact Conv.bindC _ fun _ => hK _
  simp only [aops]
  split
  ·exact Conv.none _
  ·refine Conv.bindC _ fun _ => ?_
   split
   ·exact step _ _
   ·split
    ·exact Conv.none _
    ·split
     ·refine Conv.bindC _ fun b => Conv.cond _ ?_ ?_
      ·exact Conv.ite _ (step _ _) (aops_conv hc dr ops rest _ hK)
      ·exact Conv.ite _ (aops_conv hc dr ops rest _ hK) (step _ _)
     ·exact aops_conv hc dr ops rest _ hK
     ·exact Conv.none _
theorem aloop_conv {body : Nat → St → (Ex → St → Option Res) → Option Res} {bodyl : St → (Ex → St → Option Res) → Option Res} (keep : List Nat)
  (hb : ∀ st (Ks : Nat → Ex → St → Option Res) (Kl : Ex → St → Option Res), (∀ ex st, Conv (fun k => Ks k ex st) (Kl ex st)) → Conv (fun k => body k st (Ks k)) (bodyl st Kl)) :
  ∀ (n : Nat) (ns : Nat → Nat) (_ : ∃ k0, ∀ k, k0 ≤ k → n ≤ ns k) (st : St) (Ks : Nat → Ex → St → Option Res) (Kl : Ex → St → Option Res), (∀ ex st, Conv (fun k => Ks k ex st) (Kl ex st)) →
   Conv (fun k => aloop (body k) keep (ns k) st (Ks k)) (aloop bodyl keep n st Kl)
 | 0, ns, hn, st, Ks, Kl, hK => Conv.none _
 | n + 1, ns, ⟨k0, hn⟩, st, Ks, Kl, hK => by
  have key : Conv (fun k => body k st (kloop keep (fun st' => aloop (body k) keep (ns k - 1) st' (Ks k)) (Ks k))) (bodyl st (kloop keep (fun st' => aloop bodyl keep n st' Kl) Kl)) := by
   refine hb st (fun k => kloop keep (fun st' => aloop (body k) keep (ns k - 1) st' (Ks k)) (Ks k)) _ fun ex st' => ?_
   cases ex with
   | normal => exact aloop_conv keep hb n (fun k => ns k - 1) ⟨k0, fun k hk => by have := hn k hk; omega⟩ _ Ks Kl hK
   | exit i => exact hK _ _
   | ret => exact hK _ _
   | pan v => exact hK _ _
  intro r hr
  obtain ⟨k1, h1⟩ := key r hr
  refine ⟨max k0 k1, fun j hj => ?_⟩
  have h2 := hn j (by omega)
  obtain ⟨m, hm⟩ : ∃ m, ns j = m + 1 := ⟨ns j - 1, by omega⟩
  have h3 : body j st (kloop keep (fun st' => aloop (body j) keep (ns j - 1) st' (Ks j)) (Ks j)) = some r := h1 j (by omega)
  show aloop (body j) keep (ns j) st (Ks j) = some r
  rw [hm] at h3 ⊢
  exact h3
theorem aexec_conv (hc : ∀ f a σ, Conv (fun k => ck k f a σ) (cl f a σ)) {n : Nat} {ns : Nat → Nat} (hn : ∃ k0, ∀ k, k0 ≤ k → n ≤ ns k) :
  ∀ (c : Code) (id : Nat) (st : St) (Ks : Nat → Ex → St → Option Res) (Kl : Ex → St → Option Res), (∀ ex st, Conv (fun k => Ks k ex st) (Kl ex st)) →
   Conv (fun k => aexec C H (ck k) (ns k) c id st (Ks k)) (aexec C H cl n c id st Kl)
 | .skip, _, st, Ks, Kl, hK => hK _ _
 | .label l, _, st, Ks, Kl, hK => hK _ _
 | .region id ops draw, _, st, Ks, Kl, hK => by
  have fin : ∀ out, Conv (fun k => match out with | Out.next st => Ks k .normal st | .pan v st => Ks k (.pan v) st) (match out with | .next st => Kl .normal st | .pan v st => Kl (.pan v) st) := by
   intro out
   cases out <;> exact hK _ _
  simp only [aexec]
  refine Conv.ite _ ?_ ?_
  ·exact Conv.bindC _ fun _ => aops_conv hc _ _ _ _ fin
  ·exact aops_conv hc _ _ _ _ fin
 | .seq x y, id, st, Ks, Kl, hK => by
  simp only [aexec]
  refine aexec_conv hc hn x 0 st (fun k => kseq (fun st' => aexec C H (ck k) (ns k) y 0 st' (Ks k)) (Ks k)) _ fun ex st' => ?_
  cases ex with
  | normal => exact aexec_conv hc hn y 0 st' Ks Kl hK
  | exit i => exact hK _ _
  | ret => exact hK _ _
  | pan v => exact hK _ _
 | .cond c x y, id, st, Ks, Kl, hK => by
  simp only [aexec]
  split
  ·split
   ·exact Conv.bindC _ fun b => Conv.cond _ (aexec_conv hc hn x 0 _ Ks Kl hK) (aexec_conv hc hn y 0 _ Ks Kl hK)
   ·exact Conv.none _
  ·exact Conv.ite _ (aexec_conv hc hn x 0 _ Ks Kl hK) (aexec_conv hc hn y 0 _ Ks Kl hK)
  ·exact Conv.none _
 | .block i body, id, st, Ks, Kl, hK => by
  simp only [aexec]
  refine aexec_conv hc hn body i st (fun k => kblk i (Ks k)) _ fun ex st' => ?_
  cases ex with
  | normal => exact hK _ _
  | exit j => simp only [kblk]; exact Conv.ite _ (hK _ _) (hK _ _)
  | ret => exact hK _ _
  | pan v => exact hK _ _
 | .loop body, id, st, Ks, Kl, hK => by
  simp only [aexec]
  exact aloop_conv (body := fun k st K => aexec C H (ck k) (ns k) body 0 st K) (H.keep id) (fun st Ks Kl hK => aexec_conv hc hn body 0 st Ks Kl hK) n ns hn _ Ks Kl hK
 | .exit i, id, st, Ks, Kl, hK => hK _ _
 | .ret, id, st, Ks, Kl, hK => hK _ _
 | .rangeFunc .., id, st, Ks, Kl, hK => Conv.none _
 | .scope .., id, st, Ks, Kl, hK => Conv.none _
 | .goto _, id, st, Ks, Kl, hK => Conv.none _
 | .refuse _, id, st, Ks, Kl, hK => Conv.none _
theorem afun_conv (hc : ∀ f a σ, Conv (fun k => ck k f a σ) (cl f a σ)) {n : Nat} {ns : Nat → Nat} (hn : ∃ k0, ∀ k, k0 ≤ k → n ≤ ns k) (d : FDef) (args : List Cell) (σ : Sto) :
  Conv (fun k => afun C d (ck k) (ns k) args σ) (afun C d cl n args σ) := by
 simp only [afun]
 exact Conv.ite _ (aexec_conv hc hn _ _ _ (fun _ => kfin C d) (kfin C d) fun ex st => Conv.const _) (Conv.none _)
theorem acall_mono1 : ∀ (n m : Nat) (f : FuncId) (args : List Cell) (σ : Sto) (r : Res), n ≤ m → acall C n f args σ = some r → acall C m f args σ = some r
 | 0, m, f, args, σ, r, hm, h => by simp [acall] at h
 | n + 1, 0, f, args, σ, r, hm, h => by omega
 | n + 1, m + 1, f, args, σ, r, hm, h => by
  simp only [acall] at h ⊢
  split
  ·rename_i s hs
   rw [hs] at h
   exact h
  ·rename_i hs
   rw [hs] at h
   simp only at h
   split
   ·rename_i d hd
    rw [hd] at h
    simp only at h
    obtain ⟨k, hk⟩ := afun_conv (ck := fun _ => acall C m) (ns := fun _ => m) (fun f a σ r hr => ⟨0, fun j _ => acall_mono1 n m f a σ r (by omega) hr⟩) ⟨0, fun k _ => (by omega : n ≤ m)⟩ d (maskArgs d.hints.own 0 args) σ r h
    exact hk k (Nat.le_refl _)
   ·rename_i hd
    rw [hd] at h
    simp at h
noncomputable def lim (C : Ctx) : CallF := fun f args σ => open Classical in if h : ∃ r n, acall C n f args σ = some r then some h.choose else none
theorem lim_iff {f : FuncId} {args : List Cell} {σ : Sto} {r : Res} : lim C f args σ = some r ↔ ∃ n, acall C n f args σ = some r := by
 unfold lim
 constructor
 ·intro h
  split at h
  ·rename_i hx
   obtain rfl := Option.some.inj h
   exact hx.choose_spec
  ·simp at h
 ·rintro ⟨n, hn⟩
  have hx : ∃ r n, acall C n f args σ = some r := ⟨r, n, hn⟩
  rw [dif_pos hx]
  obtain ⟨m, hm⟩ := hx.choose_spec
  have h1 := acall_mono1 n (max n m) f args σ r (by omega) hn
  have h2 := acall_mono1 m (max n m) f args σ _ (by omega) hm
  exact h2.symm.trans h1
theorem lim_conv (f : FuncId) (a : List Cell) (σ : Sto) : Conv (fun k => acall C k f a σ) (lim C f a σ) := by
 intro r hr
 obtain ⟨n, hn⟩ := lim_iff.1 hr
 exact ⟨n, fun j hj => acall_mono1 n j f a σ r hj hn⟩
theorem lim_of {f : FuncId} {d : FDef} (hx : C.ext f = none) (hd : C.fdef f = some d) (n : Nat) {args : List Cell} {σ : Sto} {r : Res} (h : afun C d (lim C) n (maskArgs d.hints.own 0 args) σ = some r) : lim C f args σ = some r := by
 obtain ⟨k, hk⟩ := afun_conv (ck := acall C) (ns := id) (n := n) lim_conv ⟨n, fun k hk => hk⟩ d (maskArgs d.hints.own 0 args) σ r h
 exact lim_iff.2 ⟨k + 1, by simp only [acall, hx, hd]; exact hk k (Nat.le_refl _)⟩
theorem lim_ext {f : FuncId} {s : List Cell → Sto → Option Res} (hx : C.ext f = some s) {args : List Cell} {σ : Sto} {r : Res} (h : s args σ = some r) : lim C f args σ = some r :=
 lim_iff.2 ⟨1, by simp only [acall, hx]; exact h⟩
theorem lim_ok {P : Program} (hC : CtxOk P C) (hX : ExtOk P C) : CallOk P C (lim C) := by
 intro f args σ r h
 obtain ⟨n, hn⟩ := lim_iff.1 h
 exact acall_sound hC hX n f args σ r hn
end
end Go.Ab
end
section
namespace Go.Ab
def bytesL (l : List UInt8) : List (List V) := l.map fun b => [.int .u8 b.toNat]
theorem bytesL_append (a b : List UInt8) : bytesL (a ++ b) = bytesL a ++ bytesL b := by simp [bytesL]
theorem bytesL_length (a : List UInt8) : (bytesL a).length = a.length := by simp [bytesL]
def unbyte : List V → Option UInt8
 | [.int .u8 n] => if 0 ≤ n ∧ n < 256 then some (UInt8.ofNat n.toNat) else none
 | _ => none
def unbytes : List (List V) → Option (List UInt8)
 | [] => some []
 | e :: es => (unbyte e).bind fun b => (unbytes es).bind fun l => some (b :: l)
theorem unbyte_byte (b : UInt8) : unbyte [.int .u8 b.toNat] = some b := by
 have h : (b.toNat : Int) < 256 := by have := b.toNat_lt; omega
 simp [unbyte, h]
theorem unbytes_bytesL : ∀ l, unbytes (bytesL l) = some l
 | [] => rfl
 | b :: l => by
  have := unbytes_bytesL l
  simp only [bytesL, List.map_cons] at *
  rw [unbytes, unbyte_byte]
  simp only [Option.bind_some]
  rw [this]; rfl
theorem unbyte_inv {e : List V} {b : UInt8} (h : unbyte e = some b) : e = [.int .u8 b.toNat] := by
 unfold unbyte at h
 split at h
 ·split at h
  ·rename_i n hn
   obtain rfl := Option.some.inj h
   have : (UInt8.ofNat n.toNat).toNat = n.toNat := by
    rw [UInt8.toNat_ofNat']; omega
   rw [this]
   congr 2
   omega
  ·simp at h
 ·simp at h
theorem unbytes_inv : ∀ {es : List (List V)} {l : List UInt8}, unbytes es = some l → es = bytesL l
 | [], l, h => by simp [unbytes] at h; subst h; rfl
 | e :: es, l, h => by
  simp only [unbytes] at h
  obtain ⟨b, hb, h⟩ := bind2 h
  obtain ⟨l', hl, h⟩ := bind2 h
  obtain rfl := Option.some.inj h
  rw [unbyte_inv hb, unbytes_inv hl]; rfl
def copyCheckS (T : TypeId) (args : List Cell) (σ : Sto) : Option Res :=
 match args with
 | [(.ptr t b 0, _)] => if t = T then (match σ[b]? with
  | some [(.nilp, _), c] => some (.ret [], σ.set b [(.ptr T b 0, false), c])
  | some [(.ptr t' b' 0, _), _] => if t' = T ∧ b' = b then some (.ret [], σ) else none
  | _ => none) else none
 | _ => none
def bldStringS (T e : TypeId) (args : List Cell) (σ : Sto) : Option Res :=
 match args with
 | [(.ptr t b 0, _)] => if t = T then (match σ[b]? with
  | some [_, (.slice 1 e' es, true)] => if e' = e ∧ es ≠ [] ∧ room es.length = true then (unbytes es).bind fun l => some (.ret [(.str ⟨l.toArray⟩, false)], σ) else none
  | _ => none) else none
 | _ => none
section
variable {P : Program} {C : Ctx}
theorem sinv_inv {gl : Nat → Option (List V)} {G : Gh} {w : World} {σ : Sto} (h : SInv gl G w σ) : Inv gl G (fun _ => 0) { tmps := #[], defers := [] } w { regs := [], locs := [], sto := σ } :=
 ⟨rfl, rfl, rfl, fun r x hx => by simp at hx, fun r cs hc => by simp at hc, h⟩
theorem copyCheck_ok (hC : CtxOk P C) {f : FuncId} {T : TypeId} (hcall : ∀ (args : Array Value) (w : World), (callFunc f args).run P w = .ok (.enter f args) w)
  (hused : ∀ (b : Nat) (w : World), w.cell? ⟨b, 0, none⟩ = some (.pointer (some ⟨b, 0, none⟩)) → Calls P f #[.pointer (some ⟨b, 0, none⟩)] w fun e w' => e = .returned (.tuple #[]) ∧ w' = w)
  (hfresh : ∀ (b : Nat) (w : World), w.cell? ⟨b, 0, none⟩ = some (.pointer none) → w.shape? b = some (T, 2) → w.frozen? ⟨b, 0, none⟩ = false →
   Calls P f #[.pointer (some ⟨b, 0, none⟩)] w fun e w' => e = .returned (.tuple #[]) ∧ w' = w.setCell ⟨b, 0, none⟩ (.pointer (some ⟨b, 0, none⟩))) :
  CallOk P C (fun g args σ => if g = f then copyCheckS T args σ else none) := by
 intro g args σ r h
 simp only at h
 split at h
 case isFalse => simp at h
 rename_i hg
 subst hg
 refine ⟨hcall, fun G w vals hS hcl hlen hv => ?_⟩
 unfold copyCheckS at h
 split at h
 case h_2 => simp at h
 rename_i t b ow
 split at h
 case isFalse => simp at h
 rename_i ht
 subst ht
 obtain ⟨x, rfl⟩ : ∃ x, vals = [x] := by
  match vals, hlen with
  | [x], _ => exact ⟨x, rfl⟩
 have hx := (hv 0 _ x rfl rfl).1
 simp only at hx
 cases hx with
 | ptr _ _ _ hbN hty =>
 have hend : EndRel G w (.ret []) (.returned (.tuple #[])) := ⟨[], rfl, by simp, by simp⟩
 split at h
 ·rename_i o0 c hb
  obtain rfl := Option.some.inj h
  have hblt : b < σ.length := (List.getElem?_eq_some_iff.1 hb).1
  have hB := hS.blk b _ hb
  obtain ⟨cv, el, g1, g2, g3, g4, g5⟩ := id hB
  obtain ⟨cv', fr', q1⟩ := hS.typed b hblt
  rw [g1] at q1
  obtain ⟨_, rfl, _⟩ : cv = cv' ∧ el = G.ty b ∧ (0, 0) = fr' := by simpa using q1
  simp only [List.length_cons, List.length_nil] at g2
  have hc0 : w.cell? ⟨G.μ b, 0, none⟩ = some (.pointer none) := by
   obtain ⟨y, hy⟩ : ∃ y, cv[0]? = some y := ⟨cv[0], by simp [g2]⟩
   have := (g5 0 _ y rfl hy).1.1
   cases this
   simp only [World.cell?, g1]
   simpa using hy
  have hsh : w.shape? (G.μ b) = some (t, 2) := by rw [← hty]; simp [World.shape?, g1, g2]
  have hfz : w.frozen? ⟨G.μ b, 0, none⟩ = false := by simp [World.frozen?, g1]
  refine (hfresh (G.μ b) w hc0 hsh hfz).mono fun e w' ⟨he, hw⟩ => ?_
  subst he; subst hw
  have hrel : Rel G w (.ptr t b 0) (.pointer (some ⟨G.μ b, 0, none⟩)) := .ptr _ _ _ hbN hty
  obtain ⟨w1, w2, w3, w4, w5⟩ := write_block (P := P) hS.wf hB (by simp) 0 [.pointer (some ⟨G.μ b, 0, none⟩)] [(.ptr t b 0, false)] rfl (by simp) (fun j c x hc hx => by
   match j with
   | 0 => simp at hc hx; subst hc; subst hx; exact ⟨⟨hrel, fun ho => by simp at ho⟩, rfl⟩
   | j + 1 => simp at hc)
  have htt : ∃ cv fr, (putCells w (G.μ b) 0 [.pointer (some ⟨G.μ b, 0, none⟩)]).heap[G.μ b]? = some (.cells cv (G.ty b) fr) := by
   rw [putCells_heap, if_pos rfl, g1]
   exact ⟨_, _, rfl⟩
  have hI := (sinv_inv hS).setSto (b := b) hblt w2 (w3 _ (by simp)) w4 w5 htt
  have hset : setCells [(V.nilp, o0), c] 0 [(V.ptr t b 0, false)] = [(V.ptr t b 0, false), c] := rfl
  refine ⟨G, w2, by have := hI.sto; rw [hset] at this; exact this, ⟨[], rfl, by simp, by simp⟩⟩
 ·rename_i t' b' o0 c hb
  split at h
  case isFalse => simp at h
  rename_i hh
  obtain ⟨rfl, rfl⟩ := hh
  obtain rfl := Option.some.inj h
  have hB := hS.blk b' _ hb
  obtain ⟨cv, el, g1, g2, g3, g4, g5⟩ := id hB
  simp only [List.length_cons, List.length_nil] at g2
  have hc0 : w.cell? ⟨G.μ b', 0, none⟩ = some (.pointer (some ⟨G.μ b', 0, none⟩)) := by
   obtain ⟨y, hy⟩ : ∃ y, cv[0]? = some y := ⟨cv[0], by simp [g2]⟩
   have := (g5 0 _ y rfl hy).1.1
   cases this
   simp only [World.cell?, g1]
   simpa using hy
  refine (hused (G.μ b') w hc0).mono fun e w' ⟨he, hw⟩ => ?_
  subst he; subst hw
  exact ⟨G, Ext.refl _ _, hS, hend⟩
 ·simp at h
theorem freeze_other (w : World) (g n : Nat) {i : Nat} (hi : i ≠ g) : (w.freeze ⟨g, 0, none⟩ n).heap[i]? = w.heap[i]? := by
 unfold World.freeze
 split
 ·rfl
 ·show (w.heap.modify g _)[i]? = _
  rw [Array.getElem?_modify, if_neg (fun h => hi h.symm)]
theorem freeze_at (w : World) (g n : Nat) {cv : Array Value} {e : TypeId} {fr : Nat × Nat} (h : w.heap[g]? = some (.cells cv e fr)) :
  ∃ fr', (w.freeze ⟨g, 0, none⟩ n).heap[g]? = some (.cells cv e fr') ∧ (fr'.2 ≤ fr.2 ∨ fr'.2 ≤ max fr.2 n) := by
 obtain ⟨lo, hi⟩ := fr
 unfold World.freeze
 split
 ·exact ⟨_, h, .inl (Nat.le_refl _)⟩
 ·have : (w.heap.modify g fun
    | .cells c elem (lo, hi) => .cells c elem (if lo == hi then (0, 0 + n) else (min lo 0, max hi (0 + n)))
    | o => o)[g]? = some (.cells cv e (if lo == hi then (0, 0 + n) else (min lo 0, max hi (0 + n)))) := by
   rw [Array.getElem?_modify, if_pos rfl, h]; rfl
  refine ⟨_, this, .inr ?_⟩
  split <;> simp <;> omega
theorem freeze_cell (w : World) (g n b o : Nat) {cv : Array Value} {e : TypeId} {fr : Nat × Nat} (h : w.heap[g]? = some (.cells cv e fr)) : (w.freeze ⟨g, 0, none⟩ n).cell? ⟨b, o, none⟩ = w.cell? ⟨b, o, none⟩ := by
 by_cases hb : b = g
 ·subst hb
  obtain ⟨fr', h1, _⟩ := freeze_at w b n h
  simp only [World.cell?, h, h1]
 ·simp only [World.cell?]
  rw [freeze_other w g n hb]
theorem freeze_peek (w : World) (g n b o : Nat) {cv : Array Value} {e : TypeId} {fr : Nat × Nat} (h : w.heap[g]? = some (.cells cv e fr)) : peek (w.freeze ⟨g, 0, none⟩ n) b o = peek w b o := by
 by_cases hb : b = g
 ·subst hb
  obtain ⟨fr', h1, _⟩ := freeze_at w b n h
  exact peek_cell (freeze_cell w b n b o h) (fun es c => by rw [h]; simp) (fun es c => by rw [h1]; simp)
 ·exact peek_block (freeze_other w g n hb) o
theorem SInv.freeze {gl : Nat → Option (List V)} {G : Gh} {w : World} {σ : Sto} (h : SInv gl G w σ) {g n : Nat} {b0 o0 : Nat} (ho : G.owner g = some (.gc b0 o0)) (hn : n ≤ G.lim g) {cv0 : Array Value} {e0 : TypeId} {fr0 : Nat × Nat} (hg0 : w.heap[g]? = some (.cells cv0 e0 fr0)) :
  Ext G w G (w.freeze ⟨g, 0, none⟩ n) ∧ SInv gl G (w.freeze ⟨g, 0, none⟩ n) σ := by
 have hsz : (w.freeze ⟨g, 0, none⟩ n).heap.size = w.heap.size := by
  unfold World.freeze; split <;> simp
 have hother : ∀ i, i ≠ g → (w.freeze ⟨g, 0, none⟩ n).heap[i]? = w.heap[i]? := fun i hi => freeze_other w g n hi
 have hos : (w.freeze ⟨g, 0, none⟩ n).os = w.os ∧ (w.freeze ⟨g, 0, none⟩ n).tape = w.tape ∧ (w.freeze ⟨g, 0, none⟩ n).output = w.output := by
  unfold World.freeze; split <;> exact ⟨rfl, rfl, rfl⟩
 have hE : Ext G w G (w.freeze ⟨g, 0, none⟩ n) := ⟨Nat.le_refl _, fun _ _ => rfl, fun _ _ => rfl, fun _ => Nat.le_refl _, fun b o _ => freeze_peek w g n b o hg0, hos.1, hos.2.1, hos.2.2, by rw [hsz]; exact Nat.le_refl _, fun i _ hi => ⟨hother i (by rintro rfl; rw [ho] at hi; simp at hi), rfl, hi⟩⟩
 have hown : ∀ (p : Place) (v : V) (c : Value), Own G w p v c → Own G (w.freeze ⟨g, 0, none⟩ n) p v c := by
  intro p v c hh
  unfold Own at *
  split at hh
  ·obtain ⟨h1, h2, h3, h4, cv, fr, h5, h6, h7⟩ := hh
   rename_i k e es a m cap
   refine ⟨h1, h2, h3, h4, cv, ?_⟩
   by_cases hg : a.block = g
   ·rw [hg] at h5 ⊢
    obtain ⟨fr', k1, k2⟩ := freeze_at w g n h5
    have : n ≤ m * k := by rw [← h4, hg]; exact hn
    exact ⟨fr', k1, h6, by omega⟩
   ·exact ⟨fr, by rw [hother _ hg]; exact h5, h6, h7⟩
  ·exact hh
  ·trivial
 refine ⟨hE, fun i hi => h.wf i (by rw [hsz] at hi; exact hi), fun g' cs hg => (h.glob g' cs hg).mono hE, h.N, fun b hb => ?_, fun b cs hb => ?_, h.gsz.mono hE⟩
 ·obtain ⟨cv, fr, q1⟩ := h.typed b hb
  obtain ⟨_, _, _, _, q3, _⟩ := h.blk b σ[b] (List.getElem?_eq_getElem hb)
  exact ⟨cv, fr, by rw [hother _ (fun hh => by rw [hh, ho] at q3; simp at q3)]; exact q1⟩
 ·obtain ⟨cv, el, g1, g2, g3, g4, g5⟩ := h.blk b cs hb
  exact ⟨cv, el, by rw [hother _ (fun hh => by rw [hh, ho] at g3; simp at g3)]; exact g1, g2, g3, g4, fun j c x hc hx => ⟨⟨(g5 j c x hc hx).1.1.mono hE, fun hf => hown _ _ _ ((g5 j c x hc hx).1.2 hf)⟩, (g5 j c x hc hx).2⟩⟩
theorem bldString_ok (hC : CtxOk P C) {f : FuncId} {T e : TypeId} (hcall : ∀ (args : Array Value) (w : World), (callFunc f args).run P w = .ok (.enter f args) w)
  (hstr : ∀ (b g cap cells : Nat) (l : List UInt8) (w : World), l ≠ [] → l.length ≤ cap → l.length ≤ cells → cap ≤ cells → w.cell? ⟨b, 1, none⟩ = some (.slice (some ⟨g, 0, none⟩) l.length cap) → w.shape? g = some (e, cells) → l.length ≤ 9223372036854775807 →
   (∀ j x, l[j]? = some x → w.cell? ⟨g, j, none⟩ = some (.int .u8 x.toNat)) →
   Calls P f #[.pointer (some ⟨b, 0, none⟩)] w fun en w' => en = .returned (.string ⟨l.toArray⟩) ∧ w' = w.drew.freeze ⟨g, 0, none⟩ l.length) :
  CallOk P C (fun g args σ => if g = f then bldStringS T e args σ else none) := by
 intro g args σ r h
 simp only at h
 split at h
 case isFalse => simp at h
 rename_i hg
 subst hg
 refine ⟨hcall, fun G w vals hS hcl hlen hv => ?_⟩
 unfold bldStringS at h
 split at h
 case h_2 => simp at h
 rename_i t b ow
 split at h
 case isFalse => simp at h
 rename_i ht
 subst ht
 obtain ⟨x, rfl⟩ : ∃ x, vals = [x] := by
  match vals, hlen with
  | [x], _ => exact ⟨x, rfl⟩
 have hx := (hv 0 _ x rfl rfl).1
 simp only at hx
 cases hx with
 | ptr _ _ _ hbN hty =>
 split at h
 case h_2 => simp at h
 rename_i c0 e' es hb
 split at h
 case isFalse => simp at h
 rename_i hh
 obtain ⟨rfl, hne, hroom⟩ := hh
 obtain ⟨l, hl, h⟩ := bind2 h
 obtain rfl := Option.some.inj h
 obtain rfl := unbytes_inv hl
 have hl0 : l ≠ [] := by rintro rfl; exact hne rfl
 have hB := hS.blk b _ hb
 obtain ⟨cv, el, g1, g2, g3, g4, g5⟩ := id hB
 simp only [List.length_cons, List.length_nil] at g2
 obtain ⟨y, hy⟩ : ∃ y, cv[1]? = some y := ⟨cv[1], by simp [g2]⟩
 obtain ⟨hcr, _⟩ := g5 1 _ y rfl hy
 obtain ⟨hr, hown⟩ := hcr
 have hown := hown rfl
 have hc1 : w.cell? ⟨G.μ b, 1, none⟩ = some y := by
  simp only [World.cell?, g1]
  simpa using hy
 rcases rel_slice hr with ⟨h0, _⟩ | ⟨gb, off, cap, cs, rfl, r1, r2, r3, r4, r5, r6, r7⟩
 ·have : l.length = 0 := by rw [← bytesL_length, h0]; rfl
  exact absurd (List.length_eq_zero_iff.1 this) hl0
 ·obtain ⟨o1, _, o3, o4, cv2, fr, o5, o6, o7⟩ := hown
  simp only at o1 o3 o4 o5
  subst o1
  simp only [bytesL_length, Nat.mul_one] at r1 r2 r3 o4 o6 o7
  rw [bytesL_length] at hc1
  have hcells : ∀ j z, l[j]? = some z → w.cell? ⟨gb, j, none⟩ = some (.int .u8 z.toNat) := by
   intro j z hz
   have hj : j < l.length := (List.getElem?_eq_some_iff.1 hz).1
   have he : (bytesL l)[j]? = some [V.int .u8 z.toNat] := by simp [bytesL, hz]
   obtain ⟨xr, hxr⟩ : ∃ xr, cs[j]? = some xr := ⟨cs[j], by rw [List.getElem?_eq_getElem]⟩
   have hlen1 := r5 j xr hxr
   obtain ⟨cc, rfl⟩ : ∃ cc, xr = [cc] := by
    match xr, hlen1 with
    | [cc], _ => exact ⟨cc, rfl⟩
   have hrel := r7 j 0 _ _ _ cc he hxr rfl rfl
   cases hrel
   have := (r6 j 0 _ _ hxr rfl).1
   simpa using this
  have hsh : w.shape? gb = some (e', cv2.size) := by simp [World.shape?, o5]
  have h63 : l.length ≤ 9223372036854775807 := by
   have := log2_bound (of_decide_eq_true hroom)
   rw [bytesL_length] at this
   omega
  refine (hstr (G.μ b) gb cap cv2.size l w hl0 r2 (by omega) o6 hc1 hsh h63 hcells).mono fun en w' ⟨he, hw⟩ => ?_
  subst he; subst hw
  have hS' : SInv C.glob G w.drew σ := (((sinv_inv hS).same (w' := w.drew) rfl rfl rfl rfl)).sto
  obtain ⟨f1, f2⟩ := hS'.freeze (g := gb) (n := l.length) o3 (by omega) (show w.drew.heap[gb]? = _ from o5)
  refine ⟨G, Ext.trans (w1 := w.drew) (Ext.same rfl rfl rfl rfl) f1, f2, [.string ⟨l.toArray⟩], rfl, by simp, fun i c x hc hx => ?_⟩
  match i with
  | 0 => simp at hc hx; subst hc; subst hx; exact ⟨.str _, fun ho => by simp at ho⟩
  | i + 1 => simp at hc
end
end Go.Ab
end
section
namespace Go.Ab
inductive Lv where
 | zero
 | succ (l : Lv)
 | max (a b : Lv)
 | imax (a b : Lv)
 | param (s : ByteArray)
 deriving Inhabited
def Lv.kind : Lv → Int
 | .zero => 0 | .succ _ => 1 | .max .. => 2 | .imax .. => 3 | .param _ => 4
def Lv.name : Lv → ByteArray
 | .param s => s
 | _ => ByteArray.mk #[]
def Lv.enc : Lv → List V
 | .zero => [.int .i64 0, .str (ByteArray.mk #[]), .slice 3 92 []]
 | .succ l => [.int .i64 1, .str (ByteArray.mk #[]), .slice 3 92 [l.enc]]
 | .max a b => [.int .i64 2, .str (ByteArray.mk #[]), .slice 3 92 [a.enc, b.enc]]
 | .imax a b => [.int .i64 3, .str (ByteArray.mk #[]), .slice 3 92 [a.enc, b.enc]]
 | .param s => [.int .i64 4, .str s, .slice 3 92 []]
def Lv.kids : Lv → List Lv
 | .succ l => [l]
 | .max a b => [a, b]
 | .imax a b => [a, b]
 | _ => []
def Lv.args (l : Lv) : List (List V) := l.kids.map Lv.enc
def Lv.size : Lv → Nat
 | .succ l => l.size + 1
 | .max a b => a.size + b.size + 1
 | .imax a b => a.size + b.size + 1
 | _ => 1
theorem Lv.size_pos (l : Lv) : 0 < l.size := by cases l <;> simp [Lv.size]
theorem Lv.enc_eq (l : Lv) : l.enc = [.int .i64 l.kind, .str l.name, .slice 3 92 l.args] := by cases l <;> rfl
theorem Lv.enc_len (l : Lv) : l.enc.length = 3 := by cases l <;> rfl
theorem Lv.cells (l : Lv) : V.agg [l.enc.getD 0 V.any, l.enc.getD 1 V.any, l.enc.getD 2 V.any] = V.agg [.int .i64 l.kind, .str l.name, .slice 3 92 l.args] := by rw [l.enc_eq]; rfl
theorem Lv.ind {P : Lv → Prop} (h : ∀ l, (∀ c ∈ l.kids, P c) → P l) : ∀ l, P l
 | .zero => h _ (by simp [Lv.kids])
 | .param _ => h _ (by simp [Lv.kids])
 | .succ l => h _ (by simp only [Lv.kids, List.mem_cons, List.not_mem_nil, or_false]; rintro c rfl; exact Lv.ind h c)
 | .max a b => h _ (by simp only [Lv.kids, List.mem_cons, List.not_mem_nil, or_false]; rintro c (rfl | rfl) <;> exact Lv.ind h _)
 | .imax a b => h _ (by simp only [Lv.kids, List.mem_cons, List.not_mem_nil, or_false]; rintro c (rfl | rfl) <;> exact Lv.ind h _)
def strs (ss : List ByteArray) : List (List V) := ss.map fun s => [.str s]
theorem wrap_nat {n : Nat} (h : n < 2 ^ 62) : IntKind.wrap .i64 (n : Int) = n := by
 unfold IntKind.wrap
 simp [IntKind.bits, IntKind.signed] <;> omega
theorem wrap_succ {n : Nat} (h : n < 2 ^ 61) : IntKind.wrap .i64 ((n : Int) + 1) = ((n + 1 : Nat) : Int) := by rw [← wrap_nat (n := n + 1) (by omega)]; simp
theorem strs_get {ps : List ByteArray} {i : Nat} (h : i < ps.length) : (strs ps).getD i [] = [V.str ps[i]] := by simp [strs, h]
theorem strs_length (ps : List ByteArray) : (strs ps).length = ps.length := by simp [strs]
theorem room_ok {n : Nat} (h : n < 2 ^ 34) : room n = true := by
 unfold room
 refine decide_eq_true ?_
 by_cases h0 : n = 0
 ·subst h0; simp
 ·have := (Nat.log2_lt (k := 34) h0).2 h
  omega
theorem callK_ret1 {call : CallF} {f : FuncId} {args : List Cell} {σ σ' : Sto} {K : List Cell → Sto → Option Res} {KP : V → Sto → Option Res} {c : Cell} (h : call f args σ = some (.ret [c], σ')) :
  callK call f args σ 1 K KP = K [c] σ' := callK_ret h rfl
theorem callK_ret0 {call : CallF} {f : FuncId} {args : List Cell} {σ σ' : Sto} {K : List Cell → Sto → Option Res} {KP : V → Sto → Option Res} (h : call f args σ = some (.ret [], σ')) :
  callK call f args σ 0 K KP = K [] σ' := callK_ret h rfl
theorem dlt {i n : Nat} (h : i < n) : decide ((i : Int) < (n : Int)) = true := by simpa using h
theorem dnlt {i n : Nat} (h : ¬ i < n) : decide ((i : Int) < (n : Int)) = false := by simpa using h
theorem d0 (i : Nat) : decide (0 ≤ (i : Int)) = true := by simp
theorem kid_get {L : List Lv} {i : Nat} {c : Lv} (hc : L[i]? = some c) : (L.map Lv.enc).getD (Int.toNat (i : Int)) [] = c.enc := by
 obtain ⟨h, rfl⟩ := List.getElem?_eq_some_iff.1 hc
 simp [h]
theorem drop_cons {α : Type} {L : List α} {i : Nat} {c : α} (hc : L[i]? = some c) : L.drop i = c :: L.drop (i + 1) := by
 obtain ⟨h, rfl⟩ := List.getElem?_eq_some_iff.1 hc
 exact List.drop_eq_getElem_cons h
end Go.Ab
end
section
namespace Go.Ab
def kcheck : TK → TypeDesc → Bool
 | .bool, .bool => true
 | .int k, .int k' => decide (k = k')
 | .string, .string => true
 | .pointer e, .pointer e' => e == e'
 | .slice e, .slice e' => e == e'
 | .array n e, .array n' e' => n == n' && e == e'
 | .struct fs, .struct fields => fields.toList.map (fun f => (f.offset, f.type)) == fs
 | .iface, .interface _ => true
 | .func, .func .. => true
 | .map k e, .map k' e' => k == k' && e == e'
 | .tuple _, .tuple _ => true
 | .other, .struct _ => false
 | .other, .array .. => false
 | .other, .interface _ => false
 | .other, _ => true
 | _, _ => false
theorem kcheck_ok {k : TK} {d : TypeDesc} (h : kcheck k d = true) : KOk k d := by
 unfold kcheck at h
 split at h <;> simp_all [KOk]
def tcheck (P : Program) (t : TypeId) (i : TI) : Bool :=
  match P.info? t with
  | none => false
  | some info => info.size == i.size && info.bytes == i.bytes &&
    (match i.kind with
     | .tuple _ => true
     | _ => match info.zero with
       | none => false
       | some z => z.cells.toList.length == i.zero.length && i.zero.length == i.size && (i.zero.zip z.cells.toList).all fun p => zmatch p.1 p.2) &&
    (match P.underlying t with | none => false | some d => kcheck i.kind d) &&
    (match i.kind with
     | .int k => match info.zero with
       | some (.int k' n) => decide (k' = k) && n == 0
       | _ => false
     | _ => true)
theorem tcheck_ok {P : Program} {t : TypeId} {i : TI} (h : tcheck P t i = true) : TOk P t i := by
 unfold tcheck at h
 split at h
 ·simp at h
 ·rename_i info hinfo
  simp only [Bool.and_eq_true, beq_iff_eq] at h
  obtain ⟨⟨⟨⟨h1, h2⟩, h3⟩, h4⟩, h5⟩ := h
  refine ⟨⟨info, hinfo, h1, h2⟩, ?_, ?_, ?_⟩
  ·split at h3
   ·rename_i n hn; exact .inl ⟨n, hn⟩
   ·split at h3
    ·simp at h3
    ·rename_i z hz
     simp only [Bool.and_eq_true, beq_iff_eq, List.all_eq_true] at h3
     obtain ⟨⟨g1, g2⟩, g3⟩ := h3
     refine .inr ⟨info, z, hinfo, hz, g1, g2, fun j v c hv hc => ?_⟩
     exact g3 (v, c) (List.mem_iff_getElem?.2 ⟨j, by rw [List.getElem?_zip_eq_some]; exact ⟨hv, hc⟩⟩)
  ·split at h4
   ·simp at h4
   ·rename_i d hd
    exact ⟨d, hd, kcheck_ok h4⟩
  ·intro k hk
   rw [hk] at h5
   simp only at h5
   split at h5
   ·rename_i k' n hz
    simp only [Bool.and_eq_true, decide_eq_true_eq, beq_iff_eq] at h5
    obtain ⟨rfl, rfl⟩ := h5
    exact ⟨info, hinfo, hz⟩
   ·simp at h5
theorem look_ok {P : Program} : ∀ {L : List (TypeId × TI)}, L.all (fun p => tcheck P p.1 p.2) = true → ∀ t i, look L t = some i → TOk P t i
 | [], _, t, i, h => by simp [look] at h
 | (u, j) :: rest, hl, t, i, h => by
  simp only [List.all_cons, Bool.and_eq_true] at hl
  simp only [look] at h
  cases hb : Nat.beq u t with
  | true =>
   rw [hb] at h
   have := Nat.eq_of_beq_eq_true hb
   subst this
   simp only [cond_true, Option.some.injEq] at h
   subst h
   exact tcheck_ok hl.1
  | false =>
   rw [hb] at h
   exact look_ok hl.2 t i h
def lookF : List (FuncId × FDef) → FuncId → Option FDef
 | [], _ => none
 | (t, i) :: rest, u => bif Nat.beq t u then some i else lookF rest u
theorem lookF_ok {P : Program} {Q : FuncId → FDef → Prop} : ∀ {L : List (FuncId × FDef)}, (∀ p ∈ L, Q p.1 p.2) → ∀ f d, lookF L f = some d → Q f d
 | [], _, f, d, h => by simp [lookF] at h
 | (u, j) :: rest, hl, f, d, h => by
  simp only [lookF] at h
  cases hb : Nat.beq u f with
  | true =>
   rw [hb] at h
   have := Nat.eq_of_beq_eq_true hb
   subst this
   simp only [cond_true, Option.some.injEq] at h
   subst h
   exact hl _ (List.mem_cons_self ..)
  | false =>
   rw [hb] at h
   exact lookF_ok (P := P) (fun p hp => hl p (List.mem_cons_of_mem _ hp)) f d h
end Go.Ab
end
section
namespace Go.Ab
structure ExtB (B : Nat) (G : Gh) (w : World) (G' : Gh) (w' : World) : Prop where
 N : G.N ≤ G'.N
 μ : ∀ b, b < G.N → G'.μ b = G.μ b
 ty : ∀ b, b < G.N → G'.ty b = G.ty b
 lim : ∀ b, G.lim b ≤ G'.lim b
 peek : ∀ b o, o < G.lim b → peek w' b o = peek w b o
 os : w'.os = w.os
 tape : w'.tape = w.tape
 output : w'.output = w.output
 size : w.heap.size ≤ w'.heap.size
 old : ∀ i, i < B → G.owner i = none → w'.heap[i]? = w.heap[i]? ∧ G'.lim i = G.lim i ∧ G'.owner i = none
theorem Ext.toB {B : Nat} {G G' : Gh} {w w' : World} (h : Ext G w G' w') (hB : B ≤ w.heap.size) : ExtB B G w G' w' :=
 ⟨h.N, h.μ, h.ty, h.lim, h.peek, h.os, h.tape, h.output, h.size, fun i hi ho => h.old i (Nat.lt_of_lt_of_le hi hB) ho⟩
theorem ExtB.toExt {G G' : Gh} {w w' : World} (h : ExtB w.heap.size G w G' w') : Ext G w G' w' :=
 ⟨h.N, h.μ, h.ty, h.lim, h.peek, h.os, h.tape, h.output, h.size, h.old⟩
theorem ExtB.trans {B : Nat} {G G1 G2 : Gh} {w w1 w2 : World} (h : ExtB B G w G1 w1) (k : ExtB B G1 w1 G2 w2) : ExtB B G w G2 w2 where
 N := Nat.le_trans h.N k.N
 μ b hb := (k.μ b (Nat.lt_of_lt_of_le hb h.N)).trans (h.μ b hb)
 ty b hb := (k.ty b (Nat.lt_of_lt_of_le hb h.N)).trans (h.ty b hb)
 lim b := Nat.le_trans (h.lim b) (k.lim b)
 peek b o ho := (k.peek b o (Nat.lt_of_lt_of_le ho (h.lim b))).trans (h.peek b o ho)
 os := k.os.trans h.os
 tape := k.tape.trans h.tape
 output := k.output.trans h.output
 size := Nat.le_trans h.size k.size
 old i hi ho := by
  obtain ⟨a1, a2, a3⟩ := h.old i hi ho
  obtain ⟨b1, b2, b3⟩ := k.old i hi a3
  exact ⟨b1.trans a1, b2.trans a2, b3⟩
structure Near (a b : Nat) (w w' : World) : Prop where
 os : w'.os = w.os
 tape : w'.tape = w.tape
 output : w'.output = w.output
 size : w'.heap.size = w.heap.size
 heap : ∀ i, i ≠ a → i ≠ b → w'.heap[i]? = w.heap[i]?
theorem Near.refl (a b : Nat) (w : World) : Near a b w w := ⟨rfl, rfl, rfl, rfl, fun _ _ _ => rfl⟩
theorem Near.setCell {a b : Nat} {w w' : World} (h : Near a b w w') (p : Addr) (hp : p.block = a ∨ p.block = b) (v : Value) : Near a b w (w'.setCell p v) := by
 refine ⟨h.os, h.tape, h.output, by simp [World.setCell]; exact h.size, fun i h1 h2 => ?_⟩
 rw [← h.heap i h1 h2]
 show (w'.heap.modify p.block _)[i]? = _
 rw [Array.getElem?_modify, if_neg (by rintro rfl; rcases hp with hp | hp <;> contradiction)]
section
variable {gl : Nat → Option (List V)} {G : Gh} {w w' : World} {σ : Sto} {a b : Nat}
theorem Near.rel (h : Near a b w w') (la : G.lim a = 0) (lb : G.lim b = 0) {v : V} {c : Value} (hr : Rel G w v c) : Rel G w' v c := by
 have hcell : ∀ i o, o < G.lim i → peek w' i o = peek w i o := fun i o ho => peek_block (h.heap i (by rintro rfl; omega) (by rintro rfl; omega)) o
 let G1 : Gh := { G with owner := fun _ => some (.res 0) }
 have e : Ext G1 w G1 w' := ⟨Nat.le_refl _, fun _ _ => rfl, fun _ _ => rfl, fun _ => Nat.le_refl _, hcell, h.os, h.tape, h.output, by rw [h.size]; exact Nat.le_refl _, fun i _ ho => by simp [G1] at ho⟩
 have := (rel_owner hr (fun _ => some (.res 0))).mono (G' := G1) e
 exact rel_owner this G.owner
theorem Near.sinv (h : Near a b w w') (la : G.lim a = 0) (lb : G.lim b = 0) (oa : G.owner a = none) (ob : G.owner b = none) (hS : SInv gl G w σ) : SInv gl G w' σ := by
 have hne : ∀ i p, G.owner i = some p → w'.heap[i]? = w.heap[i]? := fun i p hp => h.heap i (by rintro rfl; rw [oa] at hp; simp at hp) (by rintro rfl; rw [ob] at hp; simp at hp)
 have hown : ∀ (p : Place) (v : V) (c : Value), Own G w p v c → Own G w' p v c := by
  intro p v c hh
  unfold Own at *
  split at hh
  ·obtain ⟨h1, h2, h3, h4, cv, fr, h5, h6, h7⟩ := hh
   exact ⟨h1, h2, h3, h4, cv, fr, by rw [hne _ _ h3]; exact h5, h6, h7⟩
  ·exact hh
  ·trivial
 refine ⟨fun i hi => hS.wf i (by rw [h.size] at hi; exact hi), fun g cs hg => h.rel la lb (hS.glob g cs hg), hS.N, fun k hk => ?_, fun k cs hk => ?_, fun g cs hg => (by
  obtain ⟨k1, k2, cv, el, fr, k3, k4⟩ := hS.gsz g cs hg
  exact ⟨k1, k2, cv, el, fr, (h.heap g (by rintro rfl; omega) (by rintro rfl; omega)).trans k3, k4⟩)⟩
 ·obtain ⟨cv, fr, q1⟩ := hS.typed k hk
  obtain ⟨_, _, _, _, q3, _⟩ := hS.blk k σ[k] (List.getElem?_eq_getElem hk)
  exact ⟨cv, fr, by rw [hne _ _ q3]; exact q1⟩
 ·obtain ⟨cv, el, g1, g2, g3, g4, g5⟩ := hS.blk k cs hk
  exact ⟨cv, el, by rw [hne _ _ g3]; exact g1, g2, g3, g4, fun j c x hc hx => ⟨⟨h.rel la lb (g5 j c x hc hx).1.1, fun hf => hown _ _ _ ((g5 j c x hc hx).1.2 hf)⟩, (g5 j c x hc hx).2⟩⟩
theorem Near.extB {B : Nat} (h : Near a b w w') (la : G.lim a = 0) (lb : G.lim b = 0) (ha : B ≤ a) (hb : B ≤ b) : ExtB B G w G w' :=
 ⟨Nat.le_refl _, fun _ _ => rfl, fun _ _ => rfl, fun _ => Nat.le_refl _, fun i o ho => peek_block (h.heap i (by rintro rfl; omega) (by rintro rfl; omega)) o, h.os, h.tape, h.output, by rw [h.size]; exact Nat.le_refl _, fun i hi ho => ⟨h.heap i (by omega) (by omega), rfl, ho⟩⟩
end
def Gh.bare (G : Gh) : Gh := { G with owner := fun i => match G.owner i with | some (.blk b) => some (.blk b) | some (.gc b o) => some (.gc b o) | _ => none }
section
variable {G : Gh} {w : World} {σ : Sto} {gl : Nat → Option (List V)}
theorem Gh.bare_none {i : Nat} (h : G.owner i = none) : G.bare.owner i = none := by simp [Gh.bare, h]
theorem Gh.bare_ext : Ext G w G.bare w :=
 ⟨Nat.le_refl _, fun _ _ => rfl, fun _ _ => rfl, fun _ => Nat.le_refl _, fun _ _ _ => rfl, rfl, rfl, rfl, Nat.le_refl _, fun _ _ h => ⟨rfl, rfl, Gh.bare_none h⟩⟩
theorem Gh.bare_clean (n : Nat) : Clean G.bare n := by
 intro i p hp
 simp only [Gh.bare] at hp
 split at hp
 ·simp at hp; exact .inl ⟨_, hp.symm⟩
 ·simp at hp; exact .inr (.inl ⟨_, _, hp.symm⟩)
 ·simp at hp
theorem SInv.bare (h : SInv gl G w σ) : SInv gl G.bare w σ := by
 refine ⟨fun i hi => ⟨(h.wf i hi).1, Gh.bare_none (h.wf i hi).2⟩, fun g cs hg => (h.glob g cs hg).mono Gh.bare_ext, h.N, h.typed, fun b cs hbc => ?_, h.gsz.mono Gh.bare_ext⟩
 obtain ⟨cvv, el, g1, g2, g3, g4, g5⟩ := h.blk b cs hbc
 refine ⟨cvv, el, g1, g2, by show G.bare.owner (G.μ b) = _; simp [Gh.bare, g3], g4, fun j cc x hc hx => ?_⟩
 obtain ⟨e1, e2⟩ := g5 j cc x hc hx
 exact ⟨e1.move Gh.bare_ext fun _ i hi => ⟨rfl, rfl, by simp [Gh.bare, hi]⟩, e2⟩
end
def slv (v : V) : Bool := match v with | .slice .. | .nils => true | _ => false
section
theorem end_two {G : Gh} {w : World} {v1 v2 : V} {c1 c2 : Value} (h1 : Rel G w v1 c1) (h2 : Rel G w v2 c2) : EndRel G w (.ret [(v1, false), (v2, false)]) (.returned (.tuple #[c1, c2])) := by
 refine ⟨[c1, c2], rfl, by simp, fun i c x hc hx => ?_⟩
 match i with
 | 0 => simp at hc hx; subst hc; subst hx; exact ⟨h1, fun ho => by simp at ho⟩
 | 1 => simp at hc hx; subst hc; subst hx; exact ⟨h2, fun ho => by simp at ho⟩
 | i + 2 => simp at hc
end
end Go.Ab
end
section
namespace Go.Ab
structure Own1 (n0 : Nat) (G : Gh) (i : Nat) : Prop where
 ge : n0 ≤ i
 lim : G.lim i = 0
 own : G.owner i = none
structure Mine (n0 : Nat) (G : Gh) (w w' : World) : Prop where
 os : w'.os = w.os
 tape : w'.tape = w.tape
 output : w'.output = w.output
 size : w.heap.size ≤ w'.heap.size
 heap : ∀ i, i < w.heap.size → ¬ Own1 n0 G i → w'.heap[i]? = w.heap[i]?
section
variable {n0 : Nat} {G : Gh} {w w' w'' : World} {gl : Nat → Option (List V)} {σ : Sto}
theorem Mine.refl (n0 : Nat) (G : Gh) (w : World) : Mine n0 G w w := ⟨rfl, rfl, rfl, Nat.le_refl _, fun _ _ _ => rfl⟩
theorem Mine.trans (h : Mine n0 G w w') (k : Mine n0 G w' w'') : Mine n0 G w w'' :=
 ⟨k.os.trans h.os, k.tape.trans h.tape, k.output.trans h.output, Nat.le_trans h.size k.size, fun i hi hn => (k.heap i (Nat.lt_of_lt_of_le hi h.size) hn).trans (h.heap i hi hn)⟩
theorem Mine.setCell (h : Mine n0 G w w') (p : Addr) (hp : p.block < w.heap.size → Own1 n0 G p.block) (v : Value) : Mine n0 G w (w'.setCell p v) := by
 refine ⟨h.os, h.tape, h.output, by simp [World.setCell]; exact h.size, fun i hi hn => ?_⟩
 rw [← h.heap i hi hn]
 show (w'.heap.modify p.block _)[i]? = _
 rw [Array.getElem?_modify, if_neg (by rintro rfl; exact hn (hp hi))]
theorem Mine.alloc (h : Mine n0 G w w') (o : Obj) : Mine n0 G w (w'.alloc o) :=
 ⟨h.os, h.tape, h.output, by show w.heap.size ≤ (w'.heap.push o).size; rw [Array.size_push]; exact Nat.le_succ_of_le h.size, fun i hi hn => by rw [heap_alloc_lt (Nat.lt_of_lt_of_le hi h.size)]; exact h.heap i hi hn⟩
theorem Mine.wf (h : Mine n0 G w w') (hw : WF G w) : WF G w' := fun i hi => hw i (Nat.le_trans h.size hi)
theorem Mine.rel (h : Mine n0 G w w') (hw : WF G w) {v : V} {c : Value} (hr : Rel G w v c) : Rel G w' v c := by
 have hcell : ∀ i o, o < G.lim i → peek w' i o = peek w i o := fun i o ho => peek_block (h.heap i (lim_lt hw ho) (fun hm => by have := hm.lim; omega)) o
 let G1 : Gh := { G with owner := fun _ => some (.res 0) }
 have e : Ext G1 w G1 w' := ⟨Nat.le_refl _, fun _ _ => rfl, fun _ _ => rfl, fun _ => Nat.le_refl _, hcell, h.os, h.tape, h.output, h.size, fun i _ ho => by simp [G1] at ho⟩
 exact rel_owner ((rel_owner hr (fun _ => some (.res 0))).mono (G' := G1) e) G.owner
theorem Mine.own (h : Mine n0 G w w') (hw : WF G w) {p : Place} {v : V} {c : Value} (ho : Own G w p v c) : Own G w' p v c :=
 ho.move fun i hi => ⟨h.heap i (owner_lt hw hi) (fun hm => by rw [hm.own] at hi; simp at hi), rfl, hi⟩
theorem Mine.sinv (h : Mine n0 G w w') (hS : SInv gl G w σ) : SInv gl G w' σ := by
 have hne : ∀ i p, G.owner i = some p → w'.heap[i]? = w.heap[i]? := fun i p hp => h.heap i (owner_lt hS.wf hp) (fun hm => by rw [hm.own] at hp; simp at hp)
 refine ⟨h.wf hS.wf, fun g cs hg => h.rel hS.wf (hS.glob g cs hg), hS.N, fun k hk => ?_, fun k cs hk => ?_, fun g cs hg => (by
  obtain ⟨k1, k2, cv, el, fr, k3, k4⟩ := hS.gsz g cs hg
  exact ⟨k1, k2, cv, el, fr, (h.heap g (Array.getElem?_eq_some_iff.1 k3).1 (fun hm => by have := hm.lim; omega)).trans k3, k4⟩)⟩
 ·obtain ⟨cv, fr, q1⟩ := hS.typed k hk
  obtain ⟨_, _, _, _, q3, _⟩ := hS.blk k σ[k] (List.getElem?_eq_getElem hk)
  exact ⟨cv, fr, by rw [hne _ _ q3]; exact q1⟩
 ·obtain ⟨cv, el, g1, g2, g3, g4, g5⟩ := hS.blk k cs hk
  exact ⟨cv, el, by rw [hne _ _ g3]; exact g1, g2, g3, g4, fun j c x hc hx => ⟨⟨h.rel hS.wf (g5 j c x hc hx).1.1, fun hf => h.own hS.wf ((g5 j c x hc hx).1.2 hf)⟩, (g5 j c x hc hx).2⟩⟩
theorem Mine.extB (h : Mine n0 G w w') (hw : WF G w) (hn : n0 ≤ w.heap.size) : ExtB n0 G w G w' :=
 ⟨Nat.le_refl _, fun _ _ => rfl, fun _ _ => rfl, fun _ => Nat.le_refl _, fun i o ho => peek_block (h.heap i (lim_lt hw ho) (fun hm => by have := hm.lim; omega)) o, h.os, h.tape, h.output, h.size,
  fun i hi ho => ⟨h.heap i (by omega) (fun hm => by have := hm.ge; omega), rfl, ho⟩⟩
theorem Own1.ext {G' : Gh} {i : Nat} (h : Own1 n0 G i) (e : Ext G w G' w') (hi : i < w.heap.size) : Own1 n0 G' i ∧ w'.heap[i]? = w.heap[i]? := by
 obtain ⟨a1, a2, a3⟩ := e.old i hi h.own
 exact ⟨⟨h.ge, by rw [a2]; exact h.lim, a3⟩, a1⟩
theorem Own1.bare {i : Nat} (h : Own1 n0 G i) : Own1 n0 G.bare i := ⟨h.ge, h.lim, Gh.bare_none h.own⟩
theorem Own1.new {i : Nat} (hw : WF G w) (hn : n0 ≤ w.heap.size) (hi : w.heap.size ≤ i) : Own1 n0 G i := ⟨Nat.le_trans hn hi, (hw i hi).1, (hw i hi).2⟩
def Gh.settle (G : Gh) (r n : Nat) : Gh := { G with lim := fun i => if i = r then n else G.lim i }
theorem Gh.settle_ext {r n : Nat} (h : Own1 n0 G r) : ExtB n0 G w (G.settle r n) w :=
 ⟨Nat.le_refl _, fun _ _ => rfl, fun _ _ => rfl, fun i => (by
  show G.lim i ≤ if i = r then n else G.lim i
  split
  ·rename_i e; subst e; have := h.lim; omega
  ·exact Nat.le_refl _), fun _ _ _ => rfl, rfl, rfl, rfl, Nat.le_refl _,
  fun i hi ho => ⟨rfl, (by
   show (if i = r then n else G.lim i) = G.lim i
   rw [if_neg (by rintro rfl; have := h.ge; omega)]), ho⟩⟩
theorem Gh.settle_rel {r n : Nat} (h : G.lim r = 0) {v : V} {c : Value} (hr : Rel G w v c) : Rel (G.settle r n) w v c := by
 let G1 : Gh := { G with owner := fun _ => some (.res 0) }
 let G2 : Gh := { G.settle r n with owner := fun _ => some (.res 0) }
 have e : Ext G1 w G2 w := ⟨Nat.le_refl _, fun _ _ => rfl, fun _ _ => rfl, fun i => by
  show G.lim i ≤ if i = r then n else G.lim i
  split
  ·rename_i e; subst e; omega
  ·exact Nat.le_refl _, fun _ _ _ => rfl, rfl, rfl, rfl, Nat.le_refl _, fun i _ ho => by simp [G1] at ho⟩
 exact rel_owner ((rel_owner hr (fun _ => some (.res 0))).mono (G' := G2) e) G.owner
theorem Gh.settle_sinv {r n : Nat} (h : Own1 n0 G r) (hr : r < w.heap.size) (hS : SInv gl G w σ) : SInv gl (G.settle r n) w σ := by
 refine ⟨fun i hi => ⟨?_, (hS.wf i hi).2⟩, fun g cs hg => Gh.settle_rel h.lim (hS.glob g cs hg), hS.N, hS.typed, fun k cs hk => ?_, fun g cs hg => (by
  obtain ⟨k1, k2, cv, el, fr, k3, k4⟩ := hS.gsz g cs hg
  refine ⟨k1, ?_, cv, el, fr, k3, k4⟩
  show 0 < if g = r then n else G.lim g
  rw [if_neg (by rintro rfl; have := h.lim; omega)]
  exact k2)⟩
 ·show (if i = r then n else G.lim i) = 0
  rw [if_neg (by omega)]
  exact (hS.wf i hi).1
 ·obtain ⟨cv, el, g1, g2, g3, g4, g5⟩ := hS.blk k cs hk
  refine ⟨cv, el, g1, g2, g3, ?_, fun j c x hc hx => ⟨⟨Gh.settle_rel h.lim (g5 j c x hc hx).1.1, fun hf => ?_⟩, (g5 j c x hc hx).2⟩⟩
  ·show (if G.μ k = r then n else G.lim (G.μ k)) = 0
   rw [if_neg (by intro e; rw [e, h.own] at g3; simp at g3)]
   exact g4
  ·refine Own.move ((g5 j c x hc hx).1.2 hf) fun i hi => ⟨rfl, ?_, hi⟩
   show (if i = r then n else G.lim i) = G.lim i
   rw [if_neg (by rintro rfl; rw [h.own] at hi; simp at hi)]
end
end Go.Ab
end
section
namespace Go.Ab
open Go.RowKit Go.Maps
abbrev Dm := DataW Unit
def keyL (s : ByteArray) : Lit := .string s.data.toList
theorem keyL_inj {s t : ByteArray} (h : keyL s = keyL t) : s = t := by
 have h1 : s.data.toList = t.data.toList := by simpa [keyL] using h
 apply ByteArray.ext
 exact Array.toList_inj.1 h1
theorem keyL_ne {s t : ByteArray} (h : s ≠ t) : keyL s ≠ keyL t := fun e => h (keyL_inj e)
theorem keyL_is (s : ByteArray) : WideAt.IsKeyLit (keyL s) := trivial
def Reads (D : Dm) (f : ByteArray → Option Nat) : Prop := ∀ s, match f s with
 | none => Maps.has D (keyL s) = false
 | some n => Maps.has D (keyL s) = true ∧ ∀ z, D.atKey (keyL s) z = .lit (.int .i64 (n : Int))
def upd1 (f : ByteArray → Option Nat) (s : ByteArray) (x : Option Nat) : ByteArray → Option Nat := fun q => if q = s then x else f q
theorem Reads.nil : Reads (.map []) (fun _ => none) := fun _ => rfl
theorem Reads.put {D : Dm} {f : ByteArray → Option Nat} (h : Reads D f) (hD : IsMap D) (s : ByteArray) (n : Nat) : Reads (D.put (keyL s) (.lit (.int .i64 (n : Int)))) (upd1 f s (some n)) := by
 intro q
 unfold upd1
 by_cases hq : q = s
 ·subst hq
  rw [if_pos rfl]
  exact ⟨has_put_same hD (keyL_is q) _, fun z => atKey_put_same hD (keyL_is q) _ z⟩
 ·rw [if_neg hq]
  have := h q
  cases hf : f q with
  | none => rw [hf] at this; show Maps.has _ _ = false; rw [has_put_other (keyL_ne hq)]; exact this
  | some m => rw [hf] at this; exact ⟨by rw [has_put_other (keyL_ne hq)]; exact this.1, fun z => by rw [atKey_put_other (keyL_ne hq)]; exact this.2 z⟩
theorem Reads.has {D : Dm} {f : ByteArray → Option Nat} (h : Reads D f) (s : ByteArray) : Maps.has D (keyL s) = (f s).isSome := by
 have := h s
 cases hf : f s with
 | none => rw [hf] at this; exact this
 | some n => rw [hf] at this; exact this.1
theorem Reads.look {D : Dm} {f : ByteArray → Option Nat} (h : Reads D f) {s : ByteArray} {c : Int} (hc : D.atKey (keyL s) (.lit (.int .i64 0)) = .lit (.int .i64 c)) : c = (((f s).getD 0 : Nat) : Int) := by
 have := h s
 cases hf : f s with
 | none =>
  rw [hf] at this
  rw [atKey_of_not_has this] at hc
  simp at hc
  exact hc.symm
 | some n =>
  rw [hf] at this
  rw [this.2] at hc
  simp at hc
  exact hc.symm
section
variable {P : Program} {k e t : TypeId}
def MapAt (P : Program) (k e : TypeId) (w : World) (b n : Nat) (f : ByteArray → Option Nat) : Prop := ∃ D : Dm, w.ownsMap P k (plainElem P e) b n D ∧ Reads D f
theorem MapAt.made (w : World) : MapAt P k e (w.alloc (.map #[] 0)) w.heap.size 0 (fun _ => none) := ⟨_, World.ownsMap_made w P k _, Reads.nil⟩
theorem MapAt.lt {w : World} {b n : Nat} {f : ByteArray → Option Nat} (h : MapAt P k e w b n f) : b < w.heap.size := by obtain ⟨D, h1, _⟩ := h; exact h1.lt
theorem MapAt.mono {w : World} {b n n' : Nat} {f : ByteArray → Option Nat} (h : MapAt P k e w b n f) (hn : n ≤ n') : MapAt P k e w b n' f := by obtain ⟨D, h1, h2⟩ := h; exact ⟨D, h1.mono hn, h2⟩
theorem MapAt.kept {w w' : World} {b n : Nat} {f : ByteArray → Option Nat} (h : MapAt P k e w b n f) (hb : w'.heap[b]? = w.heap[b]?) : MapAt P k e w' b n f := by
 obtain ⟨D, ⟨es, clock, h1, h2, h3, h4⟩, h5⟩ := h
 exact ⟨D, ⟨es, clock, hb.trans h1, h2, h3, h4⟩, h5⟩
theorem MapAt.alloc {w : World} {b n : Nat} {f : ByteArray → Option Nat} (h : MapAt P k e w b n f) (o : Obj) : MapAt P k e (w.alloc o) b n f := h.kept (Below.heap_alloc w o b h.lt)
theorem MapAt.drew {w : World} {b n : Nat} {f : ByteArray → Option Nat} (h : MapAt P k e w b n f) : MapAt P k e w.drew b n f := h.kept rfl
theorem MapAt.setCell {w : World} {b n : Nat} {f : ByteArray → Option Nat} (h : MapAt P k e w b n f) (p : Addr) (hp : b ≠ p.block) (u : Value) : MapAt P k e (w.setCell p u) b n f := h.kept (Below.heap_setCell w p u b hp)
variable (w : World) {ops : Array Oper} {rest : List Oper} {o : Oper} {a : Act} {Q : Exit → Act → World → Prop}
def RangeAt (P : Program) (k e : TypeId) (w : World) (b r n : Nat) (f : ByteArray → Option Nat) (left : ByteArray → Bool) (cnt : Nat) : Prop :=
 ∃ (D : Dm) (l : Lit → Bool), w.ranges P k (plainElem P e) b r n D l cnt ∧ Reads D f ∧ ∀ s, left s = l (keyL s)
theorem RangeAt.map {w : World} {b r n : Nat} {f : ByteArray → Option Nat} {left : ByteArray → Bool} {cnt : Nat} (h : RangeAt P k e w b r n f left cnt) : MapAt P k e w b n f := by obtain ⟨D, l, h1, h2, _⟩ := h; exact ⟨D, h1.owns, h2⟩
theorem RangeAt.ne {w : World} {b r n : Nat} {f : ByteArray → Option Nat} {left : ByteArray → Bool} {cnt : Nat} (h : RangeAt P k e w b r n f left cnt) : r ≠ b := by obtain ⟨D, l, h1, _⟩ := h; exact h1.ne
theorem RangeAt.lt {w : World} {b r n : Nat} {f : ByteArray → Option Nat} {left : ByteArray → Bool} {cnt : Nat} (h : RangeAt P k e w b r n f left cnt) : r < w.heap.size := by obtain ⟨D, l, h1, _⟩ := h; exact h1.lt
theorem RangeAt.kept {w w' : World} {row : Option Nat} {b r n : Nat} {f : ByteArray → Option Nat} {left : ByteArray → Bool} {cnt : Nat} (h : RangeAt P k e w b r n f left cnt) (hg : w.grownBy w' row) (hb : some b ≠ row) (hr : some r ≠ row) : RangeAt P k e w' b r n f left cnt := by
 obtain ⟨D, l, h1, h2, h3⟩ := h
 exact ⟨D, l, h1.kept hg hb hr, h2, h3⟩
end
theorem cell_new {w : World} {cs : Array Value} {t : TypeId} {fr : Nat × Nat} {b o : Nat} (hb : b = w.heap.size) : (w.alloc (.cells cs t fr)).cell? ⟨b, o, none⟩ = cs[o]? := by
 subst hb
 simp only [World.cell?, (MapKept.heap_alloc w (.cells cs t fr)).1]
 rfl
theorem cell_old {w : World} {o : Obj} {p : Addr} (h : p.block < w.heap.size) : (w.alloc o).cell? p = w.cell? p := World.cell?_of_block (w := w) (Below.heap_alloc w o p.block h)
structure OffB (S : Nat → Prop) (w w' : World) : Prop where
 os : w'.os = w.os
 tape : w'.tape = w.tape
 output : w'.output = w.output
 size : w.heap.size ≤ w'.heap.size
 block : ∀ i, i < w.heap.size → ¬ S i → w'.heap[i]? = w.heap[i]?
section
variable {S T : Nat → Prop} {w w1 w2 : World}
theorem OffB.refl (S : Nat → Prop) (w : World) : OffB S w w := ⟨rfl, rfl, rfl, Nat.le_refl _, fun _ _ _ => rfl⟩
theorem OffB.trans (h : OffB S w w1) (k : OffB T w1 w2) (hT : ∀ i, i < w.heap.size → T i → S i) : OffB S w w2 :=
 ⟨k.os.trans h.os, k.tape.trans h.tape, k.output.trans h.output, Nat.le_trans h.size k.size, fun i hi hs => (k.block i (Nat.lt_of_lt_of_le hi h.size) (fun ht => hs (hT i hi ht))).trans (h.block i hi hs)⟩
theorem OffB.mono (h : OffB S w w1) (hT : ∀ i, i < w.heap.size → S i → T i) : OffB T w w1 := ⟨h.os, h.tape, h.output, h.size, fun i hi ht => h.block i hi fun hs => ht (hT i hi hs)⟩
theorem OffB.alloc (h : OffB S w w1) (o : Obj) : OffB S w (w1.alloc o) :=
 ⟨h.os, h.tape, h.output, by have := h.size; simp; omega, fun i hi hs => (Below.heap_alloc w1 o i (Nat.lt_of_lt_of_le hi h.size)).trans (h.block i hi hs)⟩
theorem OffB.drew (h : OffB S w w1) : OffB S w w1.drew := ⟨h.os, h.tape, h.output, h.size, h.block⟩
theorem OffB.setCell (h : OffB S w w1) (p : Addr) (hp : p.block < w.heap.size → S p.block) (u : Value) : OffB S w (w1.setCell p u) :=
 ⟨h.os, h.tape, h.output, by simp [World.setCell]; exact h.size, fun i hi hs => (Below.heap_setCell w1 p u i (fun e => hs (by subst e; exact hp hi))).trans (h.block i hi hs)⟩
theorem OffB.below (h : OffB S w w1) {B : Nat} (hB : B ≤ w.heap.size) (hS : ∀ i, i < B → ¬ S i) : Below B w w1 := ⟨h.os, h.tape, h.output, h.size, fun i hi => h.block i (Nat.lt_of_lt_of_le hi hB) (hS i hi)⟩
theorem OffB.cell (h : OffB S w w1) {p : Addr} {x : Value} (hx : w.cell? p = some x) (hs : ¬ S p.block) : w1.cell? p = some x := by
 have hlt := World.block_lt_of_cell? _ _ hx
 rw [World.cell?_of_block (w := w) (h.block p.block hlt hs)]
 exact hx
theorem OffB.frozen (h : OffB S w w1) {p : Addr} (hlt : p.block < w.heap.size) (hs : ¬ S p.block) : w1.frozen? p = w.frozen? p := World.frozen?_of_block (w := w) (h.block p.block hlt hs)
theorem OffB.map {P : Program} {k e : TypeId} {b n : Nat} {f : ByteArray → Option Nat} (h : OffB S w w1) (hm : MapAt P k e w b n f) (hs : ¬ S b) : MapAt P k e w1 b n f := hm.kept (h.block b hm.lt hs)
end
end Go.Ab
end
section
namespace Go.Ab
open Go.RowKit
theorem below_sinv {gl : Nat → Option (List V)} {G : Gh} {w w' : World} {σ : Sto} (h : SInv gl G w σ) (hB : RowKit.Below w.heap.size w w') : Ext G w G w' ∧ SInv gl G w' σ := by
 have e : Ext G w G w' := ⟨Nat.le_refl _, fun _ _ => rfl, fun _ _ => rfl, fun _ => Nat.le_refl _, fun b o ho => peek_block (hB.block b (lim_lt h.wf ho)) o, hB.os, hB.tape, hB.output, hB.size, fun i hi ho => ⟨hB.block i hi, rfl, ho⟩⟩
 refine ⟨e, fun i hi => h.wf i (Nat.le_trans hB.size hi), fun g cs hg => (h.glob g cs hg).mono e, h.N, fun b hb => ?_, fun b cs hb => ?_, h.gsz.mono e⟩
 ·obtain ⟨cv, fr, q1⟩ := h.typed b hb
  obtain ⟨_, _, _, _, q3, _⟩ := h.blk b σ[b] (List.getElem?_eq_getElem hb)
  exact ⟨cv, fr, by rw [hB.block _ (owner_lt h.wf q3)]; exact q1⟩
 ·obtain ⟨cv, el, g1, g2, g3, g4, g5⟩ := h.blk b cs hb
  refine ⟨cv, el, by rw [hB.block _ (owner_lt h.wf g3)]; exact g1, g2, g3, g4, fun j c x hc hx => ?_⟩
  obtain ⟨e1, e2⟩ := g5 j c x hc hx
  exact ⟨e1.move e fun _ i hi => ⟨hB.block i (owner_lt h.wf hi), rfl, hi⟩, e2⟩
end Go.Ab
end
