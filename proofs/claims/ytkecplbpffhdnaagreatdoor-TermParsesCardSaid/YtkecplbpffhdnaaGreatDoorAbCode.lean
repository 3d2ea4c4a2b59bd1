/- Regions whose order is drawn: whatever the order, the abstract run in the given one is met. Code, loops: the abstract run is met by the real one. -/
import Derived.Test.YtkecplbpffhdnaaGreatDoorAbOps
import Derived.Orders
set_option linter.unusedSimpArgs false
set_option linter.unusedVariables false
set_option linter.deprecated false
section
namespace Go.Ab
section
variable {P : Program} {C : Ctx} {H : Hints} {call : CallF} {T : List (List Nat)} {ops : Array Oper}

theorem mem_operands {o : Oper} {r : Nat} (h : Operand.tmp r ∈ o.op.operands.toList) : r ∈ regF H ops o :=
  List.mem_append_left _ (List.mem_append_left _ (List.mem_flatMap.2 ⟨_, h, by simp [tmpOf]⟩))
theorem mem_guard {o : Oper} {r : Nat} (h : r ∈ guardReg ops o) : r ∈ regF H ops o := List.mem_append_left _ (List.mem_append_right _ h)
theorem mem_regW {o : Oper} {r : Nat} (h : r ∈ regW H o) : r ∈ regF H ops o := List.mem_append_right _ h

theorem Ag.same {o : Oper} {l : LF} {f : Bool} {s t : St} (h : Ag (regF H ops o) l f s t) : SameOn o.op.operands.toList s.regs t.regs := fun _ hr => h.reg (mem_operands hr)

theorem rootOk_same {o : Oper} {s t : List RV} (h : SameOn o.op.operands.toList s t) : rootOk H o s = rootOk H o t := by
  unfold rootOk
  cases ho : o.op with
  | load ty a =>
    rw [ho] at h
    cases a with
    | tmp r => simp only; rw [h r (by simp [Op.operands])]
    | _ => rfl
  | store ty a x =>
    rw [ho] at h
    cases a with
    | tmp r => simp only; rw [h r (by simp [Op.operands])]
    | _ => rfl
  | _ => rfl

theorem clear_regW {o : Oper} {r : Nat} (h : r ∈ clearOf H o) : r ∈ regW H o := List.mem_append_left _ (List.mem_append_right _ h)

theorem aopF_frame {o : Oper} {s t : St} {out : Out} (hk : rootOk H o s.regs = true) (hw : wild H o = false) (hA : Ag (regF H ops o) (locF H o) (stoF H o) s t) (h : aopF C H call o s = some out) :
    Framed (regF H ops o) (regW H o) (locF H o) (locW H o) (stoF H o) (stoW H o) s t out (aopF C H call o t) := by
  obtain ⟨e, he, h⟩ := bind2 h
  have he2 : act C H o t.regs = some e := by rw [← act_same o hA.same]; exact he
  have := applyF_frame (act_compat he hk) hw (hA.clear (clearOf H o)) (fun r hr => mem_regW hr) ((Off.refl _ _ _ s).clear _ fun r hr => clear_regW hr) ((Off.refl _ _ _ t).clear _ fun r hr => clear_regW hr) h
  simp only [aopF, he2, Option.bind_some]
  exact this

theorem stepF_frame {i : Nat} {o : Oper} (hi : ops[i]? = some o) {s t : St} {out : Out} (hw : wild H o = false) (hA : Ag (regF H ops o) (locF H o) (stoF H o) s t) (h : stepF C H call (some T) ops i s = some out) :
    Framed (regF H ops o) (regW H o) (locF H o) (locW H o) (stoF H o) (stoW H o) s t out (stepF C H call (some T) ops i t) := by
  simp only [stepF, hi] at h ⊢
  obtain ⟨u, hu, h⟩ := bind2 h
  have hk : rootOk H o s.regs = true := grd_some hu
  have hk2 : grd (chkOk H (some T) o t.regs) = some () := by
    show grd (rootOk H o t.regs) = _
    rw [← rootOk_same hA.same, hk]; rfl
  simp only [hk2, Option.bind_some]
  cases hg : o.guard with
  | none =>
    rw [hg] at h
    exact aopF_frame hk hw hA h
  | some jw =>
    obtain ⟨j, want⟩ := jw
    rw [hg] at h
    simp only at h ⊢
    cases hd : (ops[j]?).bind (·.dst) with
    | none => rw [hd] at h; simp at h
    | some d =>
      rw [hd] at h
      simp only at h ⊢
      rw [← hA.reg (mem_guard (by simp [guardReg, hg, hd]))]
      split at h
      · obtain ⟨b, hb, h⟩ := bind2 h
        simp only [hb, Option.bind_some]
        by_cases hbw : b = want
        · rw [if_pos hbw] at h ⊢
          exact aopF_frame hk hw hA h
        · rw [if_neg hbw] at h ⊢
          obtain rfl := Option.some.inj h
          exact ⟨_, rfl, hA.put _ _, (Off.refl _ _ _ s).put _ _ fun d hd => by simp [regW, hd], (Off.refl _ _ _ t).put _ _ fun d hd => by simp [regW, hd]⟩
      · obtain rfl := Option.some.inj h
        exact ⟨_, rfl, hA.put _ _, (Off.refl _ _ _ s).put _ _ fun d hd => by simp [regW, hd], (Off.refl _ _ _ t).put _ _ fun d hd => by simp [regW, hd]⟩
      · simp at h

theorem Ag.refl (rs : List Nat) (l : LF) (f : Bool) (s : St) : Ag rs l f s s := ⟨rfl, rfl, fun _ _ => rfl, fun _ _ => rfl, fun _ => rfl⟩

theorem meets_has {a b : LF} {r : Nat} (h : a.meets b = false) (ha : a.has r = true) : b.has r = false := by
  cases a <;> cases b <;> simp_all [LF.meets, LF.has]
  intro e; exact h e.symm
theorem has_meets {a b : LF} {r : Nat} (h : a.meets b = false) (hb : b.has r = true) : a.has r = false := by
  cases ha : a.has r with
  | false => rfl
  | true => rw [meets_has h ha] at hb; simp at hb
theorem locW_locF {o : Oper} {r : Nat} (h : (locW H o).has r = true) : (locF H o).has r = true := by
  unfold locW at h; unfold locF
  split at h
  · split at h
    · exact h
    · simp [LF.has] at h
  · exact h
  · simp [LF.has] at h

theorem apart_not {xs ys : List Nat} (h : apart xs ys = true) {r : Nat} (hx : r ∈ xs) : r ∉ ys := by
  simp only [apart, List.all_eq_true] at h
  have := h r hx
  simpa using this

theorem Off.ag {rs ws : List Nat} {l lw : LF} {f fw : Bool} {s t : St} (h : Off ws lw fw s t) (h1 : apart ws rs = true) (h2 : lw.meets l = false) (h3 : (fw && f) = false) : Ag rs l f s t where
  lenr := h.lenr.symm
  lenl := h.lenl.symm
  regs r hr := (h.regs r fun hw => apart_not h1 hw hr).symm
  locs r hr := (h.locs r (has_meets h2 hr)).symm
  sto hf := (h.sto (by rw [hf] at h3; simpa using h3)).symm
theorem Ag.symm {rs : List Nat} {l : LF} {f : Bool} {s t : St} (h : Ag rs l f s t) : Ag rs l f t s := ⟨h.lenr.symm, h.lenl.symm, fun r hr => (h.regs r hr).symm, fun r hr => (h.locs r hr).symm, fun hf => (h.sto hf).symm⟩

theorem swap {i j : Nat} {x y : Oper} (hi : ops[i]? = some x) (hj : ops[j]? = some y) (hind : indep H ops x y = true) {s s1 : St} {out : Out} (h1 : stepF C H call (some T) ops i s = some (.next s1)) (h2 : stepF C H call (some T) ops j s1 = some out) :
    match out with
    | .next s2 => ∃ s1', stepF C H call (some T) ops j s = some (.next s1') ∧ stepF C H call (some T) ops i s1' = some (.next s2)
    | .pan v s2 => ∃ s1', stepF C H call (some T) ops j s = some (.pan v s1') ∧ s1'.sto = s2.sto := by
  simp only [indep, Bool.and_eq_true, Bool.not_eq_true'] at hind
  obtain ⟨⟨⟨⟨⟨⟨⟨wx, wy⟩, rxy⟩, ryx⟩, lxy⟩, lyx⟩, sxy⟩, syx⟩ := hind
  obtain ⟨_, _, _, ox, _⟩ := stepF_frame hi wx (Ag.refl _ _ _ s) h1
  have fy := stepF_frame hj wy (ox.ag rxy lxy sxy).symm h2
  cases out with
  | pan v s2 =>
    obtain ⟨_, _, t1, e1, e2⟩ := fy
    exact ⟨t1, e1, e2⟩
  | next s2 =>
    obtain ⟨s1', e1, ay, oy, oy'⟩ := fy
    obtain ⟨s2', e2, ax, ox2, ox'⟩ := stepF_frame hi wx (oy'.ag ryx lyx syx) h1
    refine ⟨s1', e1, ?_⟩
    have hsame : s2' = s2 := by
      have hr : s2'.regs = s2.regs := by
        apply List.ext_getElem?
        intro r
        by_cases hx : r ∈ regW H x
        · have hny : r ∉ regW H y := fun hy => apart_not rxy hx (mem_regW hy)
          rw [← ax.regs r (mem_regW hx), oy.regs r hny]
        · rw [ox'.regs r hx]
          by_cases hy : r ∈ regW H y
          · rw [ay.regs r (mem_regW hy)]
          · rw [oy'.regs r hy, oy.regs r hy, ox.regs r hx]
      have hl : s2'.locs = s2.locs := by
        apply List.ext_getElem?
        intro r
        cases hx : (locW H x).has r with
        | true =>
          have hny : (locW H y).has r = false := by
            cases hh : (locW H y).has r with
            | false => rfl
            | true => have h3 := meets_has lxy hx; rw [locW_locF hh] at h3; simp at h3
          rw [← ax.locs r (locW_locF hx), oy.locs r hny]
        | false =>
          rw [ox'.locs r hx]
          cases hy : (locW H y).has r with
          | true => rw [ay.locs r (locW_locF hy)]
          | false => rw [oy'.locs r hy, oy.locs r hy, ox.locs r hx]
      have hs : s2'.sto = s2.sto := by
        cases hx : stoW H x with
        | true =>
          have hny : stoW H y = false := by
            cases hh : stoW H y with
            | false => rfl
            | true => rw [hx, stoF_of_stoW hh] at sxy; simp at sxy
          rw [← ax.sto (stoF_of_stoW hx), oy.sto hny]
        | false =>
          rw [ox'.sto hx]
          cases hy : stoW H y with
          | true => rw [ay.sto (stoF_of_stoW hy)]
          | false => rw [oy'.sto hy, oy.sto hy, ox.sto hx]
      obtain ⟨a1, a2, a3⟩ := s2'
      obtain ⟨b1, b2, b3⟩ := s2
      simp only at hr hl hs
      rw [hr, hl, hs]
    rw [← hsame]; exact e2

theorem bubble {i : Nat} {B : List Nat} {out : Out} : ∀ (A : List Nat) (s : St), Runs C H call (some T) ops (A ++ i :: B) s out → (∀ j ∈ A, indepAt H ops j i = true ∧ (T.getD i []).contains j = false) →
    (∃ s1, stepF C H call (some T) ops i s = some (.next s1) ∧ Runs C H call (some T) ops (A ++ B) s1 out) ∨ ∃ v s1 s2, stepF C H call (some T) ops i s = some (.pan v s1) ∧ out = .pan v s2 ∧ s1.sto = s2.sto
  | [], s, h, _ => by
    cases h with
    | next h1 h2 => exact .inl ⟨_, h1, h2⟩
    | pan h1 h2 => exact .inr ⟨_, _, _, h1, rfl, rfl⟩
  | j :: A, s, h, hA => by
    obtain ⟨hind, hnot⟩ := hA j (List.mem_cons_self ..)
    cases h with
    | pan h1 h2 =>
      simp only [panOk, List.all_eq_true] at h2
      have := h2 i (by simp)
      rw [hnot] at this
      simp at this
    | @next _ _ _ st1 _ h1 h2 =>
      unfold indepAt at hind
      split at hind
      · rename_i x y hj hi
        rcases bubble A st1 h2 fun k hk => hA k (List.mem_cons_of_mem _ hk) with ⟨s2, e1, e2⟩ | ⟨v, s2, s3, e1, e2, e3⟩
        · obtain ⟨s1', f1, f2⟩ := swap hj hi hind h1 e1
          exact .inl ⟨s1', f1, .next f2 e2⟩
        · obtain ⟨s1', f1, f2⟩ := swap hj hi hind h1 e1
          exact .inr ⟨v, s1', s3, f1, e2, f2.trans e3⟩
      · simp at hind

/-- What the check of a region has shown. -/
structure Good (H : Hints) (T : List (List Nat)) (ops : Array Oper) (listed : Array Bool) (L : List Nat) : Prop where
  size : listed.size = ops.size
  mem : ∀ i, i ∈ L ↔ listed.getD i true = false
  nodup : L.Nodup
  pw : L.Pairwise fun i j => j ∉ edgesAt ops i ∧ ((T.getD j []).contains i = true ∨ indepAt H ops i j = true)
  closed : ∀ k, listed.getD k false = true → ∀ j ∈ edgesAt ops k, listed.getD j false = true

def TOkA (T : List (List Nat)) (ops : Array Oper) : Prop := ∀ S : Nat → Prop, (∀ k, S k → ∀ j ∈ edgesAt ops k, S j) → ∀ i, (∀ k ∈ edgesAt ops i, S k) → ∀ j ∈ T.getD i [], S j

theorem mem_addAll : ∀ (xs acc : List Nat) (j : Nat), j ∈ addAll xs acc → j ∈ xs ∨ j ∈ acc
  | [], _, _, h => .inr h
  | x :: xs, acc, j, h => by
    simp only [addAll] at h
    split at h
    · rcases mem_addAll xs acc j h with h | h
      · exact .inl (List.mem_cons_of_mem _ h)
      · exact .inr h
    · rcases mem_addAll xs _ j h with h | h
      · exact .inl (List.mem_cons_of_mem _ h)
      · rcases List.mem_cons.1 h with h | h
        · exact .inl (h ▸ List.mem_cons_self ..)
        · exact .inr h

theorem ancs_go {S : Nat → Prop} (hS : ∀ k, S k → ∀ j ∈ edgesAt ops k, S j) : ∀ (rest : List Oper) (T : List (List Nat)), (∀ n o, rest[n]? = some o → ops[T.length + n]? = some o) → (∀ i, (∀ k ∈ edgesAt ops i, S k) → ∀ j ∈ T.getD i [], S j) →
    ∀ i, (∀ k ∈ edgesAt ops i, S k) → ∀ j ∈ (ancs rest T).getD i [], S j
  | [], T, _, hT => hT
  | o :: rest, T, hr, hT => by
    simp only [ancs]
    refine ancs_go hS rest _ (fun n o' hn => ?_) fun i hi j hj => ?_
    · have := hr (n + 1) o' (by simpa using hn)
      rw [← this]; congr 1; simp; omega
    · rw [List.getD_eq_getElem?_getD] at hj
      by_cases hlt : i < T.length
      · rw [List.getElem?_append_left hlt, ← List.getD_eq_getElem?_getD] at hj
        exact hT i hi j hj
      · rw [List.getElem?_append_right (by omega)] at hj
        by_cases he : i = T.length
        · subst he
          have ho : ops[T.length]? = some o := hr 0 o rfl
          simp only [Nat.sub_self, List.getElem?_cons_zero, Option.getD_some] at hj
          rcases mem_addAll _ _ _ hj with hj | hj
          · obtain ⟨k, hk, hj⟩ := List.mem_flatMap.1 hj
            have hSk : S k := hi k (by simp only [edgesAt, ho]; exact hk)
            rcases List.mem_cons.1 hj with rfl | hj
            · exact hSk
            · exact hT k (hS k hSk) j hj
          · simp at hj
        · rw [List.getElem?_eq_none (by simp; omega)] at hj
          simp at hj

theorem ancs_ok : TOkA (ancs ops.toList []) ops := fun S hS => ancs_go hS ops.toList [] (fun n o hn => by simpa using hn) fun i _ j hj => by simp at hj

theorem mem_edgesOf {o : Oper} {e : Edge} (he : e ∈ o.after) (hb : Region.binds .any e = true) : e.on ∈ edgesOf o :=
  List.mem_map.2 ⟨e, List.mem_filter.2 ⟨by simpa using he, hb⟩, rfl⟩

theorem listed_of {listed : Array Bool} {k : Nat} (hk : k < listed.size) (h : listed.getD k true ≠ false) : listed.getD k false = true := by
  simp [hk] at h ⊢; exact h

theorem runs_any (hC : CtxOk P C) (hcall : CallOk P C call) (hT : TOkA T ops) (hE : ∀ i, ∀ k ∈ edgesAt ops i, k < ops.size ∧ k ≠ i) {out : Out} {G0 : Gh} {w0 : World} :
    ∀ (fuel : Nat) (listed : Array Bool) (L : List Nat) (s : St), Good H T ops listed L → L.length ≤ fuel → Runs C H call (some T) ops L s out →
      ∀ G lam a w, Ext G0 w0 G w → Inv C.glob G lam a w s → wpAny P .any ops (OQ C G0 w0 out) fuel listed a w
  | fuel, listed, [], s, hg, _, hr, G, lam, a, w, x, hI => by
    have hnil : Region.ready .any ops listed = [] := by
      cases hh : Region.ready .any ops listed with
      | nil => rfl
      | cons j js =>
        have := (mem_ready.1 (hh ▸ List.mem_cons_self .. : j ∈ Region.ready .any ops listed)).1
        exact absurd ((hg.mem j).2 this) (by simp)
    cases hr
    have hq : OQ C G0 w0 (.next s) .normal a w := .inl ⟨rfl, s, G, lam, rfl, x, hI⟩
    cases fuel with
    | zero => exact ⟨hnil, hq⟩
    | succ fuel => exact ⟨fun _ => hq, fun i hi => by rw [hnil] at hi; simp at hi⟩
  | 0, listed, i :: L, s, hg, hf, hr, G, lam, a, w, x, hI => by simp at hf
  | fuel + 1, listed, i0 :: L, s, hg, hf, hr, G, lam, a, w, x, hI => by
    have hhead : i0 ∈ Region.ready .any ops listed := by
      refine mem_ready.2 ⟨(hg.mem i0).1 (List.mem_cons_self ..), ?_⟩
      have hlt : i0 < ops.size := by
        rw [← hg.size]
        have := (hg.mem i0).1 (List.mem_cons_self ..)
        rcases Nat.lt_or_ge i0 listed.size with h | h
        · exact h
        · simp [Array.getElem?_eq_none h] at this
      refine ⟨ops[i0], by simp [hlt], fun e he hb => ?_⟩
      have hmem : e.on ∈ edgesAt ops i0 := by simp only [edgesAt, Array.getElem?_eq_getElem hlt]; exact mem_edgesOf he hb
      obtain ⟨h1, h2⟩ := hE i0 _ hmem
      refine listed_of (by rw [hg.size]; exact h1) fun hh => ?_
      rcases List.mem_cons.1 ((hg.mem _).2 hh) with h3 | h3
      · exact h2 h3
      · exact ((List.pairwise_cons.1 hg.pw).1 _ h3).1 hmem
    refine ⟨fun hnil => by rw [hnil] at hhead; simp at hhead, fun i hi => ?_⟩
    obtain ⟨hun, oi, hoi, hall⟩ := mem_ready.1 hi
    have hedges : ∀ k ∈ edgesAt ops i, listed.getD k false = true := fun k hk => by
      simp only [edgesAt, hoi, edgesOf, List.mem_map, List.mem_filter] at hk
      obtain ⟨e, ⟨he, hb⟩, rfl⟩ := hk
      exact hall e (by simpa using he) hb
    obtain ⟨A, B, hAB⟩ := List.append_of_mem ((hg.mem i).2 hun)
    rw [hAB] at hr
    have hpw := hg.pw
    have hnd := hg.nodup
    rw [hAB] at hpw hnd
    have hfree : ∀ j ∈ A, indepAt H ops j i = true ∧ (T.getD i []).contains j = false := by
      intro j hj
      have h1 := ((List.pairwise_append.1 hpw).2.2 j hj i (List.mem_cons_self ..)).2
      have hnot : (T.getD i []).contains j = false := by
        cases hc : (T.getD i []).contains j with
        | false => rfl
        | true =>
          have hl := hT (fun k => listed.getD k false = true) hg.closed i hedges j (by simpa using hc)
          have hu := (hg.mem j).1 (by rw [hAB]; simp [hj])
          rcases Nat.lt_or_ge j listed.size with h | h
          · simp [h] at hl hu; rw [hu] at hl; simp at hl
          · simp [Array.getElem?_eq_none h] at hu
      rw [hnot] at h1
      exact ⟨h1.resolve_left (by simp), hnot⟩
    have hi_lt : i < listed.size := by
      rcases Nat.lt_or_ge i listed.size with h | h
      · exact h
      · simp [Array.getElem?_eq_none h] at hun
    have hgood : Good H T ops (listed.setIfInBounds i true) (A ++ B) := by
      refine ⟨by simp [hg.size], fun k => ?_, ?_, ?_, fun k hk j hj => ?_⟩
      · by_cases hki : k = i
        · subst hki
          refine ⟨fun hm => ?_, fun hm => ?_⟩
          · have := (List.perm_middle.nodup_iff).1 hnd
            exact absurd hm (List.nodup_cons.1 this).1
          · simp [hi_lt] at hm
        · rw [getD_set_ne true (Ne.symm hki), ← hg.mem k, hAB]
          simp [hki]
      · exact hnd.sublist (List.Sublist.append (List.Sublist.refl _) (List.sublist_cons_self ..))
      · exact hpw.sublist (List.Sublist.append (List.Sublist.refl _) (List.sublist_cons_self ..))
      · by_cases hki : k = i
        · subst hki; exact getD_set_true (hedges j hj)
        · rw [getD_set_ne false (Ne.symm hki)] at hk
          exact getD_set_true (hg.closed k hk j hj)
    have hlen : (A ++ B).length ≤ fuel := by
      have : (i0 :: L).length = (A ++ i :: B).length := by rw [hAB]
      simp at this hf ⊢
      omega
    unfold wpOp
    rcases bubble A s hr hfree with ⟨s1, e1, e2⟩ | ⟨v, s1, s2, e1, e2, e3⟩
    · obtain ⟨o, ho, hh⟩ := stepF_sound hC hcall e1 hI
      rw [ho]
      simp only
      rcases hh with ⟨hw, hh⟩ | ⟨hw, st', G', lam', f1, f2, f3⟩
      · rw [if_pos hw]
        refine .inl (wp_mono2 hh (fun a' w' hn => ?_) (fun e a' w' hq => ?_))
        · obtain ⟨st', G', lam', f1, f2, f3⟩ := hn
          cases f1
          exact runs_any hC hcall hT hE fuel _ _ s1 hgood hlen e2 G' lam' a' w' (x.trans f2) f3
        · obtain ⟨v, st', c, G', f1, _⟩ := hq; cases f1
      · rw [if_neg (by rw [hw]; simp)]
        cases f1
        exact runs_any hC hcall hT hE fuel _ _ s1 hgood hlen e2 G' lam' _ w (x.trans f2) f3
    · obtain ⟨o, ho, hh⟩ := stepF_sound hC hcall e1 hI
      rw [ho]
      simp only
      rcases hh with ⟨hw, hh⟩ | ⟨hw, st', G', lam', f1, f2, f3⟩
      · rw [if_pos hw]
        refine .inl (wp_mono2 hh (fun a' w' hn => ?_) (fun e a' w' hq => ?_))
        · obtain ⟨st', G', lam', f1, f2, f3⟩ := hn; cases f1
        · obtain ⟨v', st', c, G', f1, f2, f3, f4, f5, f6⟩ := hq
          cases f1
          exact .inr ⟨v, s2, c, G', e2, f2, f3, x.trans f4, by rw [← e3]; exact f5, f6⟩
      · cases f1

theorem distinct_nodup : ∀ {l : List Nat}, distinct l = true → l.Nodup
  | [], _ => List.nodup_nil
  | x :: xs, h => by
    simp only [distinct, Bool.and_eq_true, Bool.not_eq_true'] at h
    exact List.nodup_cons.2 ⟨by simpa using h.1, distinct_nodup h.2⟩

theorem pairs_pairwise {f : Nat → Nat → Bool} : ∀ {l : List Nat}, pairs f l = true → l.Pairwise fun i j => f i j = true
  | [], _ => List.Pairwise.nil
  | x :: xs, h => by
    simp only [pairs, Bool.and_eq_true, List.all_eq_true] at h
    exact List.pairwise_cons.2 ⟨fun y hy => h.1 y hy, pairs_pairwise h.2⟩

theorem draw_sound (hC : CtxOk P C) (hcall : CallOk P C call) {L : List Nat} (hf : free H ops L = true) {s : St} {K : Out → Option Res} {r : Res} (h : aops C H call (some (ancs ops.toList [])) ops L s K = some r) :
    ∃ out, K out = some r ∧ ∀ G lam a w, Inv C.glob G lam a w s → wpAny P .any ops (OQ C G w out) ops.size (Array.replicate ops.size false) a { w with drawn := w.drawn + 1 } := by
  obtain ⟨out, h1, h2⟩ := aops_runs _ _ _ _ h
  refine ⟨out, h1, fun G lam a w hI => ?_⟩
  simp only [free, Bool.and_eq_true, List.all_eq_true, beq_iff_eq] at hf
  obtain ⟨⟨⟨⟨⟨f1, f2⟩, f3⟩, f3b⟩, f4⟩, f5⟩ := hf
  have hlt : ∀ i ∈ L, i < ops.size := fun i hi => by simpa using f3 i hi
  have hE : ∀ i, ∀ k ∈ edgesAt ops i, k < ops.size ∧ k ≠ i := by
    intro i k hk
    have hi : i < ops.size := by
      rcases Nat.lt_or_ge i ops.size with h | h
      · exact h
      · simp [edgesAt, Array.getElem?_eq_none h] at hk
    have := f4 i (by simpa using hi) k hk
    simpa using this
  have hall : ∀ i, i < ops.size → i ∈ L := by
    intro i hi
    simpa using f3b i (by simpa using hi)
  have hgood : Good H (ancs ops.toList []) ops (Array.replicate ops.size false) L := by
    refine ⟨by simp, fun i => ?_, distinct_nodup f2, (pairs_pairwise f5).imp fun hh => ?_, fun k hk => ?_⟩
    · refine ⟨fun hi => by simp [hlt i hi], fun hi => hall i ?_⟩
      rcases Nat.lt_or_ge i ops.size with h | h
      · exact h
      · simp [Nat.not_lt.2 h] at hi
    · simpa using hh
    · simp [Array.getD_eq_getD_getElem?, Array.getElem?_replicate] at hk
      split at hk <;> simp at hk
  exact runs_any hC hcall ancs_ok hE ops.size _ L s hgood (by rw [f1]; exact Nat.le_refl _) h2 G lam a _ (Ext.same rfl rfl rfl rfl) (hI.same rfl rfl rfl rfl)
end
end Go.Ab
end
section
namespace Go.Ab
section
variable {P : Program} {C : Ctx} {H : Hints} {call : CallF}

/-- How the code's end stands to the abstract one. -/
def EP (C : Ctx) (G : Gh) (w : World) (ex : Ex) (st : St) (e : Exit) (a' : Act) (w' : World) : Prop :=
  match ex with
  | .normal => e = .normal ∧ ∃ G' lam', Ext G w G' w' ∧ Inv C.glob G' lam' a' w' st
  | .exit i => e = .exit i ∧ ∃ G' lam', Ext G w G' w' ∧ Inv C.glob G' lam' a' w' st
  | .ret => e = .ret ∧ ∃ G' lam', Ext G w G' w' ∧ Inv C.glob G' lam' a' w' st
  | .pan v => ∃ c G', e = .panic [{ v := c, recovered := false }] ∧ Rel G' w' v c ∧ Ext G w G' w' ∧ SInv C.glob G' w' st.sto ∧ a'.defers = []

theorem EP.trans {G G1 : Gh} {w w1 : World} {ex : Ex} {st : St} {e : Exit} {a' : Act} {w' : World} (x : Ext G w G1 w1) (h : EP C G1 w1 ex st e a' w') : EP C G w ex st e a' w' := by
  cases ex with
  | pan v => obtain ⟨c, G', h1, h2, h3, h4, h5⟩ := h; exact ⟨c, G', h1, h2, x.trans h3, h4, h5⟩
  | normal => obtain ⟨h1, G', lam', h2, h3⟩ := h; exact ⟨h1, G', lam', x.trans h2, h3⟩
  | exit i => obtain ⟨h1, G', lam', h2, h3⟩ := h; exact ⟨h1, G', lam', x.trans h2, h3⟩
  | ret => obtain ⟨h1, G', lam', h2, h3⟩ := h; exact ⟨h1, G', lam', x.trans h2, h3⟩

def SoundC (P : Program) (C : Ctx) (c : Code) (st : St) (ex : Ex) (st' : St) : Prop := ∀ G lam a w, Inv C.glob G lam a w st → c.wp P (EP C G w ex st') a w

theorem keepRegs_get (keep : List Nat) : ∀ (l : List RV) (i r : Nat), (keepRegs keep i l)[r]? = (l[r]?).map fun x => if keep.contains (i + r) then x else .dead
  | [], _, _ => by simp [keepRegs]
  | x :: xs, i, r => by
    cases r with
    | zero => simp [keepRegs]
    | succ r => simp only [keepRegs, List.getElem?_cons_succ]; rw [keepRegs_get keep xs (i + 1) r]; simp [Nat.add_assoc, Nat.add_comm 1]

theorem keepLocs_get (keep : List Nat) : ∀ (l : List (List Cell)) (i r : Nat), (keepLocs keep i l)[r]? = (l[r]?).map fun x => if keep.contains (i + r) then x else []
  | [], _, _ => by simp [keepLocs]
  | x :: xs, i, r => by
    cases r with
    | zero => simp [keepLocs]
    | succ r => simp only [keepLocs, List.getElem?_cons_succ]; rw [keepLocs_get keep xs (i + 1) r]; simp [Nat.add_assoc, Nat.add_comm 1]

theorem keepRegs_length (keep : List Nat) : ∀ (l : List RV) (i : Nat), (keepRegs keep i l).length = l.length
  | [], _ => rfl
  | x :: xs, i => by simp [keepRegs, keepRegs_length keep xs]
theorem keepLocs_length (keep : List Nat) : ∀ (l : List (List Cell)) (i : Nat), (keepLocs keep i l).length = l.length
  | [], _ => rfl
  | x :: xs, i => by simp [keepLocs, keepLocs_length keep xs]

theorem Inv.kill {gl : Nat → Option (List V)} {G : Gh} {lam : Nat → Nat} {a : Act} {w : World} {st : St} (h : Inv gl G lam a w st) (keep : List Nat) : Inv gl G lam a w (st.kill keep) := by
  refine ⟨h.defers, by simp only [St.kill, keepRegs_length]; exact h.len, by simp only [St.kill, keepRegs_length, keepLocs_length]; exact h.lenl, fun r x hx => ?_, fun r cs hc hne => ?_, h.sto⟩
  · simp only [St.kill, keepRegs_get, Option.map_eq_some_iff] at hx
    obtain ⟨y, hy, rfl⟩ := hx
    split
    · exact h.regs r y hy
    · trivial
  · simp only [St.kill, keepLocs_get, Option.map_eq_some_iff] at hc
    obtain ⟨y, hy, rfl⟩ := hc
    split
    · rename_i hk
      rw [if_pos hk] at hne
      exact h.locs r y hy hne
    · rename_i hk
      rw [if_neg hk] at hne
      exact absurd rfl hne

/-- A loop of so many rounds at most. -/
theorem aloop_sound {c : Code} {body : St → (Ex → St → Option Res) → Option Res} (hb : ∀ st K r, body st K = some r → ∃ ex st', K ex st' = some r ∧ SoundC P C c st ex st') (keep : List Nat) :
    ∀ (n : Nat) (st : St) (K : Ex → St → Option Res) (r : Res), aloop body keep n st K = some r → ∃ ex st', K ex st' = some r ∧ ∀ G lam a w, Inv C.glob G lam a w st → ∀ (b : Frame) (k : List Item) (cs : List Frame),
      ∃ e a' w', EP C G w ex st' e a' w' ∧ Arrives P (lone (b.at a (.code c :: .inLoop c :: k)) cs w) b k cs e a' w'
  | 0, st, K, r, h => by simp [aloop] at h
  | n + 1, st, K, r, h => by
    simp only [aloop] at h
    obtain ⟨ex, st1, h1, h2⟩ := hb _ _ _ h
    cases ex with
    | normal =>
      simp only [kloop] at h1
      obtain ⟨ex2, st2, h3, h4⟩ := aloop_sound hb keep n _ K r h1
      refine ⟨ex2, st2, h3, fun G lam a w hI b k cs => ?_⟩
      obtain ⟨e, a1, w1, ⟨rfl, G1, lam1, x1, i1⟩, harr⟩ := h2 G lam a w hI b (.inLoop c :: k) cs
      obtain ⟨e2, a2, w2, q2, harr2⟩ := h4 G1 lam1 a1 w1 (i1.kill keep) b k cs
      exact ⟨e2, a2, w2, q2.trans x1, .of_steps (Steps.trans harr (.one step_inLoop)) harr2⟩
    | exit i =>
      refine ⟨_, st1, h1, fun G lam a w hI b k cs => ?_⟩
      obtain ⟨e, a1, w1, hq, harr⟩ := h2 G lam a w hI b (.inLoop c :: k) cs
      have he := hq.1
      exact ⟨e, a1, w1, hq, .pass (x := .inLoop c) rfl (fun _ _ => .inl (by rw [he]; simp)) harr⟩
    | ret =>
      refine ⟨_, st1, h1, fun G lam a w hI b k cs => ?_⟩
      obtain ⟨e, a1, w1, hq, harr⟩ := h2 G lam a w hI b (.inLoop c :: k) cs
      have he := hq.1
      exact ⟨e, a1, w1, hq, .pass (x := .inLoop c) rfl (fun _ _ => .inl (by rw [he]; simp)) harr⟩
    | pan v =>
      refine ⟨_, st1, h1, fun G lam a w hI b k cs => ?_⟩
      obtain ⟨e, a1, w1, hq, harr⟩ := h2 G lam a w hI b (.inLoop c :: k) cs
      obtain ⟨cc, G', he, _⟩ := id hq
      exact ⟨e, a1, w1, hq, .pass (x := .inLoop c) rfl (fun _ _ => .inl (by rw [he]; simp)) harr⟩

theorem aexec_sound (hC : CtxOk P C) (hcall : CallOk P C call) (n : Nat) : ∀ (c : Code) (id : Nat) (st : St) (K : Ex → St → Option Res) (r : Res), aexec C H call n c id st K = some r → ∃ ex st', K ex st' = some r ∧ SoundC P C c st ex st'
  | .skip, _, st, K, r, h => ⟨.normal, st, h, fun G lam a w hI => wp_skip ⟨rfl, G, lam, Ext.refl _ _, hI⟩⟩
  | .label l, _, st, K, r, h => ⟨.normal, st, h, fun G lam a w hI => wp_label ⟨rfl, G, lam, Ext.refl _ _, hI⟩⟩
  | .region id ops draw, _, st, K, r, h => by
    simp only [aexec] at h
    have fin : ∀ out, (match out with | .next st => K .normal st | .pan v st => K (.pan v) st) = some r → ∃ ex st', K ex st' = some r ∧ ∀ (G : Gh) (w : World) e a' w', OQ C G w out e a' w' → EP C G w ex st' e a' w' := by
      intro out h1
      cases out with
      | next st1 =>
        refine ⟨.normal, st1, h1, fun G w e a' w' hq => ?_⟩
        rcases hq with ⟨rfl, st', G', lam', hh, e2, e3⟩ | ⟨v, st', c, G', hh, _⟩
        · cases hh; exact ⟨rfl, G', lam', e2, e3⟩
        · cases hh
      | pan v st1 =>
        refine ⟨.pan v, st1, h1, fun G w e a' w' hq => ?_⟩
        rcases hq with ⟨rfl, st', G', lam', hh, e2, e3⟩ | ⟨v', st', c, G', hh, q1, q2, q3, q4, q5⟩
        · cases hh
        · cases hh; exact ⟨c, G', q1, q2, q3, q4, q5⟩
    cases draw with
    | true =>
      simp only [if_true] at h
      obtain ⟨u, hu, h⟩ := bind2 h
      obtain ⟨out, h1, h2⟩ := draw_sound hC hcall (grd_some hu) h
      obtain ⟨ex, st', h3, h4⟩ := fin out h1
      exact ⟨ex, st', h3, fun G lam a w hI => wp_mono (wp_region_any hC.mixed (h2 G lam a w hI)) fun e a' w' hq => h4 G w e a' w' hq⟩
    | false =>
      simp only [Bool.false_eq_true, if_false] at h
      obtain ⟨out, h1, h2⟩ := aops_sound hC hcall _ _ _ _ h
      obtain ⟨ex, st', h3, h4⟩ := fin out h1
      exact ⟨ex, st', h3, fun G lam a w hI => wp_mono (wp_region (h2 G lam a w hI)) fun e a' w' hq => h4 G w e a' w' hq⟩
  | .seq x y, id, st, K, r, h => by
    simp only [aexec] at h
    obtain ⟨ex, st1, h1, h2⟩ := aexec_sound hC hcall n x 0 st _ r h
    cases ex with
    | normal =>
      obtain ⟨ex2, st2, h3, h4⟩ := aexec_sound hC hcall n y 0 st1 K r h1
      refine ⟨ex2, st2, h3, fun G lam a w hI => wp_seq (wp_mono (h2 G lam a w hI) fun e a' w' hq => ?_)⟩
      obtain ⟨rfl, G', lam', e2, e3⟩ := hq
      exact wp_mono (h4 G' lam' a' w' e3) fun e a w hq => hq.trans e2
    | exit i =>
      refine ⟨_, st1, h1, fun G lam a w hI => wp_seq (wp_mono (h2 G lam a w hI) fun e a' w' hq => ?_)⟩
      obtain ⟨rfl, hh⟩ := hq; exact ⟨rfl, hh⟩
    | ret =>
      refine ⟨_, st1, h1, fun G lam a w hI => wp_seq (wp_mono (h2 G lam a w hI) fun e a' w' hq => ?_)⟩
      obtain ⟨rfl, hh⟩ := hq; exact ⟨rfl, hh⟩
    | pan v =>
      refine ⟨_, st1, h1, fun G lam a w hI => wp_seq (wp_mono (h2 G lam a w hI) fun e a' w' hq => ?_)⟩
      obtain ⟨c, G', rfl, hh⟩ := hq; exact ⟨c, G', rfl, hh⟩
  | .cond c x y, id, st, K, r, h => by
    simp only [aexec] at h
    split at h
    · rename_i r0
      split at h
      · rename_i v ow hv
        obtain ⟨b, hb, h⟩ := bind2 h
        have key : ∀ G lam a w, Inv C.glob G lam a w st → a.eval (.tmp r0) = .bool b := by
          intro G lam a w hI
          obtain ⟨q1, _, _⟩ := hI.open hv
          exact asBool_rel hb q1
        have hs := setReg_same hv hb
        cases b with
        | true =>
          simp only [cond_true, hs] at h
          obtain ⟨ex, st1, h1, h2⟩ := aexec_sound hC hcall n x 0 _ K r h
          exact ⟨ex, st1, h1, fun G lam a w hI => wp_cond_true (key G lam a w hI) (h2 G lam a w hI)⟩
        | false =>
          simp only [cond_false, hs] at h
          obtain ⟨ex, st1, h1, h2⟩ := aexec_sound hC hcall n y 0 _ K r h
          exact ⟨ex, st1, h1, fun G lam a w hI => wp_cond_false (key G lam a w hI) (h2 G lam a w hI)⟩
      · simp at h
    · rename_i b
      cases b with
      | true =>
        simp only [if_true] at h
        obtain ⟨ex, st1, h1, h2⟩ := aexec_sound hC hcall n x 0 _ K r h
        exact ⟨ex, st1, h1, fun G lam a w hI => wp_cond_true rfl (h2 G lam a w hI)⟩
      | false =>
        simp only [Bool.false_eq_true, if_false] at h
        obtain ⟨ex, st1, h1, h2⟩ := aexec_sound hC hcall n y 0 _ K r h
        exact ⟨ex, st1, h1, fun G lam a w hI => wp_cond_false rfl (h2 G lam a w hI)⟩
    · simp at h
  | .block i body, id, st, K, r, h => by
    simp only [aexec] at h
    obtain ⟨ex, st1, h1, h2⟩ := aexec_sound hC hcall n body i st _ r h
    cases ex with
    | normal =>
      refine ⟨_, st1, h1, fun G lam a w hI => wp_block (wp_mono (h2 G lam a w hI) fun e a' w' hq => ?_)⟩
      obtain ⟨rfl, hh⟩ := hq; exact ⟨rfl, hh⟩
    | exit j =>
      simp only [kblk] at h1
      by_cases hj : j = i
      · rw [if_pos hj] at h1
        refine ⟨_, st1, h1, fun G lam a w hI => wp_block (wp_mono (h2 G lam a w hI) fun e a' w' hq => ?_)⟩
        obtain ⟨rfl, hh⟩ := hq
        simp only [Exit.inBlock, if_pos hj]
        exact ⟨rfl, hh⟩
      · rw [if_neg hj] at h1
        refine ⟨_, st1, h1, fun G lam a w hI => wp_block (wp_mono (h2 G lam a w hI) fun e a' w' hq => ?_)⟩
        obtain ⟨rfl, hh⟩ := hq
        simp only [Exit.inBlock, if_neg hj]
        exact ⟨rfl, hh⟩
    | ret =>
      refine ⟨_, st1, h1, fun G lam a w hI => wp_block (wp_mono (h2 G lam a w hI) fun e a' w' hq => ?_)⟩
      obtain ⟨rfl, hh⟩ := hq; exact ⟨rfl, hh⟩
    | pan v =>
      refine ⟨_, st1, h1, fun G lam a w hI => wp_block (wp_mono (h2 G lam a w hI) fun e a' w' hq => ?_)⟩
      obtain ⟨c, G', rfl, hh⟩ := hq; exact ⟨c, G', rfl, hh⟩
  | .loop body, id, st, K, r, h => by
    simp only [aexec] at h
    obtain ⟨ex, st1, h1, h2⟩ := aloop_sound (c := body) (fun st K r hh => aexec_sound hC hcall n body 0 st K r hh) (H.keep id) n _ K r h
    refine ⟨ex, st1, h1, fun G lam a w hI => ?_⟩
    intro b k cs
    obtain ⟨e, a', w', q1, q2⟩ := h2 G lam a w (hI.kill _) b k cs
    exact ⟨e, a', w', q1, .of_steps (.one step_loop) q2⟩
  | .exit i, _, st, K, r, h => ⟨.exit i, st, h, fun G lam a w hI => wp_exit ⟨rfl, G, lam, Ext.refl _ _, hI⟩⟩
  | .ret, _, st, K, r, h => ⟨.ret, st, h, fun G lam a w hI => wp_ret ⟨rfl, G, lam, Ext.refl _ _, hI⟩⟩
  | .rangeFunc .., _, st, K, r, h => by simp [aexec] at h
  | .scope _, _, st, K, r, h => by simp [aexec] at h
  | .goto _, _, st, K, r, h => by simp [aexec] at h
  | .refuse _, _, st, K, r, h => by simp [aexec] at h
end
end Go.Ab
end
