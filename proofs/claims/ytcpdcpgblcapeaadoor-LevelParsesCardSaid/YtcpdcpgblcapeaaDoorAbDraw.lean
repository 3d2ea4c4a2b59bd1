/- Regions whose order is drawn: whatever the order, the abstract run in the given one is met. -/
import Derived.Test.YtcpdcpgblcapeaaDoorAbOps
import Derived.Orders
set_option linter.unusedSimpArgs false
set_option linter.unusedVariables false
set_option linter.deprecated false
namespace Go.Ab
section
variable {P : Program} {C : Ctx} {H : Hints} {call : CallF} {T : List (List Nat)} {ops : Array Oper}

theorem mem_operands {o : Oper} {r : Nat} (h : Operand.tmp r ∈ o.op.operands.toList) : r ∈ regF H ops o :=
  List.mem_append_left _ (List.mem_append_left _ (List.mem_flatMap.2 ⟨_, h, by simp [tmpOf]⟩))
theorem mem_guard {o : Oper} {r : Nat} (h : r ∈ guardReg ops o) : r ∈ regF H ops o := List.mem_append_left _ (List.mem_append_right _ h)
theorem mem_regW {o : Oper} {r : Nat} (h : r ∈ regW H o) : r ∈ regF H ops o := List.mem_append_right _ h

theorem Ag.same {o : Oper} {l : LF} {f : Bool} {s t : St} (h : Ag (regF H ops o) l f s t) : SameOn o.op.operands.toList s.regs t.regs := fun _ hr => h.reg (mem_operands hr)

theorem rootOk_same {o : Oper} {s t : List RV} (h : SameOn o.op.operands.toList s t) : rootOk H o s = rootOk H o t := by
  unfold rootOk
  cases ho : o.op with
  | load ty a =>
    rw [ho] at h
    cases a with
    | tmp r => simp only; rw [h r (by simp [Op.operands])]
    | _ => rfl
  | store ty a x =>
    rw [ho] at h
    cases a with
    | tmp r => simp only; rw [h r (by simp [Op.operands])]
    | _ => rfl
  | _ => rfl

theorem clear_regW {o : Oper} {r : Nat} (h : r ∈ clearOf H o) : r ∈ regW H o := List.mem_append_left _ (List.mem_append_right _ h)

theorem aopF_frame {o : Oper} {s t : St} {out : Out} (hk : rootOk H o s.regs = true) (hw : wild H o = false) (hA : Ag (regF H ops o) (locF H o) (stoF H o) s t) (h : aopF C H call o s = some out) :
    Framed (regF H ops o) (regW H o) (locF H o) (locW H o) (stoF H o) (stoW H o) s t out (aopF C H call o t) := by
  obtain ⟨e, he, h⟩ := bind2 h
  have he2 : act C H o t.regs = some e := by rw [← act_same o hA.same]; exact he
  have := applyF_frame (act_compat he hk) hw (hA.clear (clearOf H o)) (fun r hr => mem_regW hr) ((Off.refl _ _ _ s).clear _ fun r hr => clear_regW hr) ((Off.refl _ _ _ t).clear _ fun r hr => clear_regW hr) h
  simp only [aopF, he2, Option.bind_some]
  exact this

theorem stepF_frame {i : Nat} {o : Oper} (hi : ops[i]? = some o) {s t : St} {out : Out} (hw : wild H o = false) (hA : Ag (regF H ops o) (locF H o) (stoF H o) s t) (h : stepF C H call (some T) ops i s = some out) :
    Framed (regF H ops o) (regW H o) (locF H o) (locW H o) (stoF H o) (stoW H o) s t out (stepF C H call (some T) ops i t) := by
  simp only [stepF, hi] at h ⊢
  obtain ⟨u, hu, h⟩ := bind2 h
  have hk : rootOk H o s.regs = true := grd_some hu
  have hk2 : grd (chkOk H (some T) o t.regs) = some () := by
    show grd (rootOk H o t.regs) = _
    rw [← rootOk_same hA.same, hk]; rfl
  simp only [hk2, Option.bind_some]
  cases hg : o.guard with
  | none =>
    rw [hg] at h
    exact aopF_frame hk hw hA h
  | some jw =>
    obtain ⟨j, want⟩ := jw
    rw [hg] at h
    simp only at h ⊢
    cases hd : (ops[j]?).bind (·.dst) with
    | none => rw [hd] at h; simp at h
    | some d =>
      rw [hd] at h
      simp only at h ⊢
      rw [← hA.reg (mem_guard (by simp [guardReg, hg, hd]))]
      split at h
      · obtain ⟨b, hb, h⟩ := bind2 h
        simp only [hb, Option.bind_some]
        by_cases hbw : b = want
        · rw [if_pos hbw] at h ⊢
          exact aopF_frame hk hw hA h
        · rw [if_neg hbw] at h ⊢
          obtain rfl := Option.some.inj h
          exact ⟨_, rfl, hA.put _ _, (Off.refl _ _ _ s).put _ _ fun d hd => by simp [regW, hd], (Off.refl _ _ _ t).put _ _ fun d hd => by simp [regW, hd]⟩
      · obtain rfl := Option.some.inj h
        exact ⟨_, rfl, hA.put _ _, (Off.refl _ _ _ s).put _ _ fun d hd => by simp [regW, hd], (Off.refl _ _ _ t).put _ _ fun d hd => by simp [regW, hd]⟩
      · simp at h

theorem Ag.refl (rs : List Nat) (l : LF) (f : Bool) (s : St) : Ag rs l f s s := ⟨rfl, rfl, fun _ _ => rfl, fun _ _ => rfl, fun _ => rfl⟩

theorem meets_has {a b : LF} {r : Nat} (h : a.meets b = false) (ha : a.has r = true) : b.has r = false := by
  cases a <;> cases b <;> simp_all [LF.meets, LF.has]
  intro e; exact h e.symm
theorem has_meets {a b : LF} {r : Nat} (h : a.meets b = false) (hb : b.has r = true) : a.has r = false := by
  cases ha : a.has r with
  | false => rfl
  | true => rw [meets_has h ha] at hb; simp at hb
theorem locW_locF {o : Oper} {r : Nat} (h : (locW H o).has r = true) : (locF H o).has r = true := by
  unfold locW at h; unfold locF
  split at h
  · split at h
    · exact h
    · simp [LF.has] at h
  · exact h
  · simp [LF.has] at h

theorem apart_not {xs ys : List Nat} (h : apart xs ys = true) {r : Nat} (hx : r ∈ xs) : r ∉ ys := by
  simp only [apart, List.all_eq_true] at h
  have := h r hx
  simpa using this

theorem Off.ag {rs ws : List Nat} {l lw : LF} {f fw : Bool} {s t : St} (h : Off ws lw fw s t) (h1 : apart ws rs = true) (h2 : lw.meets l = false) (h3 : (fw && f) = false) : Ag rs l f s t where
  lenr := h.lenr.symm
  lenl := h.lenl.symm
  regs r hr := (h.regs r fun hw => apart_not h1 hw hr).symm
  locs r hr := (h.locs r (has_meets h2 hr)).symm
  sto hf := (h.sto (by rw [hf] at h3; simpa using h3)).symm
theorem Ag.symm {rs : List Nat} {l : LF} {f : Bool} {s t : St} (h : Ag rs l f s t) : Ag rs l f t s := ⟨h.lenr.symm, h.lenl.symm, fun r hr => (h.regs r hr).symm, fun r hr => (h.locs r hr).symm, fun hf => (h.sto hf).symm⟩

theorem swap {i j : Nat} {x y : Oper} (hi : ops[i]? = some x) (hj : ops[j]? = some y) (hind : indep H ops x y = true) {s s1 : St} {out : Out} (h1 : stepF C H call (some T) ops i s = some (.next s1)) (h2 : stepF C H call (some T) ops j s1 = some out) :
    match out with
    | .next s2 => ∃ s1', stepF C H call (some T) ops j s = some (.next s1') ∧ stepF C H call (some T) ops i s1' = some (.next s2)
    | .pan v s2 => ∃ s1', stepF C H call (some T) ops j s = some (.pan v s1') ∧ s1'.sto = s2.sto := by
  simp only [indep, Bool.and_eq_true, Bool.not_eq_true'] at hind
  obtain ⟨⟨⟨⟨⟨⟨⟨wx, wy⟩, rxy⟩, ryx⟩, lxy⟩, lyx⟩, sxy⟩, syx⟩ := hind
  obtain ⟨_, _, _, ox, _⟩ := stepF_frame hi wx (Ag.refl _ _ _ s) h1
  have fy := stepF_frame hj wy (ox.ag rxy lxy sxy).symm h2
  cases out with
  | pan v s2 =>
    obtain ⟨_, _, t1, e1, e2⟩ := fy
    exact ⟨t1, e1, e2⟩
  | next s2 =>
    obtain ⟨s1', e1, ay, oy, oy'⟩ := fy
    obtain ⟨s2', e2, ax, ox2, ox'⟩ := stepF_frame hi wx (oy'.ag ryx lyx syx) h1
    refine ⟨s1', e1, ?_⟩
    have hsame : s2' = s2 := by
      have hr : s2'.regs = s2.regs := by
        apply List.ext_getElem?
        intro r
        by_cases hx : r ∈ regW H x
        · have hny : r ∉ regW H y := fun hy => apart_not rxy hx (mem_regW hy)
          rw [← ax.regs r (mem_regW hx), oy.regs r hny]
        · rw [ox'.regs r hx]
          by_cases hy : r ∈ regW H y
          · rw [ay.regs r (mem_regW hy)]
          · rw [oy'.regs r hy, oy.regs r hy, ox.regs r hx]
      have hl : s2'.locs = s2.locs := by
        apply List.ext_getElem?
        intro r
        cases hx : (locW H x).has r with
        | true =>
          have hny : (locW H y).has r = false := by
            cases hh : (locW H y).has r with
            | false => rfl
            | true => have h3 := meets_has lxy hx; rw [locW_locF hh] at h3; simp at h3
          rw [← ax.locs r (locW_locF hx), oy.locs r hny]
        | false =>
          rw [ox'.locs r hx]
          cases hy : (locW H y).has r with
          | true => rw [ay.locs r (locW_locF hy)]
          | false => rw [oy'.locs r hy, oy.locs r hy, ox.locs r hx]
      have hs : s2'.sto = s2.sto := by
        cases hx : stoW H x with
        | true =>
          have hny : stoW H y = false := by
            cases hh : stoW H y with
            | false => rfl
            | true => rw [hx, stoF_of_stoW hh] at sxy; simp at sxy
          rw [← ax.sto (stoF_of_stoW hx), oy.sto hny]
        | false =>
          rw [ox'.sto hx]
          cases hy : stoW H y with
          | true => rw [ay.sto (stoF_of_stoW hy)]
          | false => rw [oy'.sto hy, oy.sto hy, ox.sto hx]
      obtain ⟨a1, a2, a3⟩ := s2'
      obtain ⟨b1, b2, b3⟩ := s2
      simp only at hr hl hs
      rw [hr, hl, hs]
    rw [← hsame]; exact e2

theorem bubble {i : Nat} {B : List Nat} {out : Out} : ∀ (A : List Nat) (s : St), Runs C H call (some T) ops (A ++ i :: B) s out → (∀ j ∈ A, indepAt H ops j i = true ∧ (T.getD i []).contains j = false) →
    (∃ s1, stepF C H call (some T) ops i s = some (.next s1) ∧ Runs C H call (some T) ops (A ++ B) s1 out) ∨ ∃ v s1 s2, stepF C H call (some T) ops i s = some (.pan v s1) ∧ out = .pan v s2 ∧ s1.sto = s2.sto
  | [], s, h, _ => by
    cases h with
    | next h1 h2 => exact .inl ⟨_, h1, h2⟩
    | pan h1 h2 => exact .inr ⟨_, _, _, h1, rfl, rfl⟩
  | j :: A, s, h, hA => by
    obtain ⟨hind, hnot⟩ := hA j (List.mem_cons_self ..)
    cases h with
    | pan h1 h2 =>
      simp only [panOk, List.all_eq_true] at h2
      have := h2 i (by simp)
      rw [hnot] at this
      simp at this
    | @next _ _ _ st1 _ h1 h2 =>
      unfold indepAt at hind
      split at hind
      · rename_i x y hj hi
        rcases bubble A st1 h2 fun k hk => hA k (List.mem_cons_of_mem _ hk) with ⟨s2, e1, e2⟩ | ⟨v, s2, s3, e1, e2, e3⟩
        · obtain ⟨s1', f1, f2⟩ := swap hj hi hind h1 e1
          exact .inl ⟨s1', f1, .next f2 e2⟩
        · obtain ⟨s1', f1, f2⟩ := swap hj hi hind h1 e1
          exact .inr ⟨v, s1', s3, f1, e2, f2.trans e3⟩
      · simp at hind

/-- What the check of a region has shown. -/
structure Good (H : Hints) (T : List (List Nat)) (ops : Array Oper) (listed : Array Bool) (L : List Nat) : Prop where
  size : listed.size = ops.size
  mem : ∀ i, i ∈ L ↔ listed.getD i true = false
  nodup : L.Nodup
  pw : L.Pairwise fun i j => j ∉ edgesAt ops i ∧ ((T.getD j []).contains i = true ∨ indepAt H ops i j = true)
  closed : ∀ k, listed.getD k false = true → ∀ j ∈ edgesAt ops k, listed.getD j false = true

def TOkA (T : List (List Nat)) (ops : Array Oper) : Prop := ∀ S : Nat → Prop, (∀ k, S k → ∀ j ∈ edgesAt ops k, S j) → ∀ i, (∀ k ∈ edgesAt ops i, S k) → ∀ j ∈ T.getD i [], S j

theorem mem_addAll : ∀ (xs acc : List Nat) (j : Nat), j ∈ addAll xs acc → j ∈ xs ∨ j ∈ acc
  | [], _, _, h => .inr h
  | x :: xs, acc, j, h => by
    simp only [addAll] at h
    split at h
    · rcases mem_addAll xs acc j h with h | h
      · exact .inl (List.mem_cons_of_mem _ h)
      · exact .inr h
    · rcases mem_addAll xs _ j h with h | h
      · exact .inl (List.mem_cons_of_mem _ h)
      · rcases List.mem_cons.1 h with h | h
        · exact .inl (h ▸ List.mem_cons_self ..)
        · exact .inr h

theorem ancs_go {S : Nat → Prop} (hS : ∀ k, S k → ∀ j ∈ edgesAt ops k, S j) : ∀ (rest : List Oper) (T : List (List Nat)), (∀ n o, rest[n]? = some o → ops[T.length + n]? = some o) → (∀ i, (∀ k ∈ edgesAt ops i, S k) → ∀ j ∈ T.getD i [], S j) →
    ∀ i, (∀ k ∈ edgesAt ops i, S k) → ∀ j ∈ (ancs rest T).getD i [], S j
  | [], T, _, hT => hT
  | o :: rest, T, hr, hT => by
    simp only [ancs]
    refine ancs_go hS rest _ (fun n o' hn => ?_) fun i hi j hj => ?_
    · have := hr (n + 1) o' (by simpa using hn)
      rw [← this]; congr 1; simp; omega
    · rw [List.getD_eq_getElem?_getD] at hj
      by_cases hlt : i < T.length
      · rw [List.getElem?_append_left hlt, ← List.getD_eq_getElem?_getD] at hj
        exact hT i hi j hj
      · rw [List.getElem?_append_right (by omega)] at hj
        by_cases he : i = T.length
        · subst he
          have ho : ops[T.length]? = some o := hr 0 o rfl
          simp only [Nat.sub_self, List.getElem?_cons_zero, Option.getD_some] at hj
          rcases mem_addAll _ _ _ hj with hj | hj
          · obtain ⟨k, hk, hj⟩ := List.mem_flatMap.1 hj
            have hSk : S k := hi k (by simp only [edgesAt, ho]; exact hk)
            rcases List.mem_cons.1 hj with rfl | hj
            · exact hSk
            · exact hT k (hS k hSk) j hj
          · simp at hj
        · rw [List.getElem?_eq_none (by simp; omega)] at hj
          simp at hj

theorem ancs_ok : TOkA (ancs ops.toList []) ops := fun S hS => ancs_go hS ops.toList [] (fun n o hn => by simpa using hn) fun i _ j hj => by simp at hj

theorem mem_edgesOf {o : Oper} {e : Edge} (he : e ∈ o.after) (hb : Region.binds .any e = true) : e.on ∈ edgesOf o :=
  List.mem_map.2 ⟨e, List.mem_filter.2 ⟨by simpa using he, hb⟩, rfl⟩

theorem listed_of {listed : Array Bool} {k : Nat} (hk : k < listed.size) (h : listed.getD k true ≠ false) : listed.getD k false = true := by
  simp [hk] at h ⊢; exact h

theorem runs_any (hC : CtxOk P C) (hcall : CallOk P C call) (hT : TOkA T ops) (hE : ∀ i, ∀ k ∈ edgesAt ops i, k < ops.size ∧ k ≠ i) {out : Out} {G0 : Gh} {w0 : World} :
    ∀ (fuel : Nat) (listed : Array Bool) (L : List Nat) (s : St), Good H T ops listed L → L.length ≤ fuel → Runs C H call (some T) ops L s out →
      ∀ G lam a w, Ext G0 w0 G w → Inv C.glob G lam a w s → wpAny P .any ops (OQ C G0 w0 out) fuel listed a w
  | fuel, listed, [], s, hg, _, hr, G, lam, a, w, x, hI => by
    have hnil : Region.ready .any ops listed = [] := by
      cases hh : Region.ready .any ops listed with
      | nil => rfl
      | cons j js =>
        have := (mem_ready.1 (hh ▸ List.mem_cons_self .. : j ∈ Region.ready .any ops listed)).1
        exact absurd ((hg.mem j).2 this) (by simp)
    cases hr
    have hq : OQ C G0 w0 (.next s) .normal a w := .inl ⟨rfl, s, G, lam, rfl, x, hI⟩
    cases fuel with
    | zero => exact ⟨hnil, hq⟩
    | succ fuel => exact ⟨fun _ => hq, fun i hi => by rw [hnil] at hi; simp at hi⟩
  | 0, listed, i :: L, s, hg, hf, hr, G, lam, a, w, x, hI => by simp at hf
  | fuel + 1, listed, i0 :: L, s, hg, hf, hr, G, lam, a, w, x, hI => by
    have hhead : i0 ∈ Region.ready .any ops listed := by
      refine mem_ready.2 ⟨(hg.mem i0).1 (List.mem_cons_self ..), ?_⟩
      have hlt : i0 < ops.size := by
        rw [← hg.size]
        have := (hg.mem i0).1 (List.mem_cons_self ..)
        rcases Nat.lt_or_ge i0 listed.size with h | h
        · exact h
        · simp [Array.getElem?_eq_none h] at this
      refine ⟨ops[i0], by simp [hlt], fun e he hb => ?_⟩
      have hmem : e.on ∈ edgesAt ops i0 := by simp only [edgesAt, Array.getElem?_eq_getElem hlt]; exact mem_edgesOf he hb
      obtain ⟨h1, h2⟩ := hE i0 _ hmem
      refine listed_of (by rw [hg.size]; exact h1) fun hh => ?_
      rcases List.mem_cons.1 ((hg.mem _).2 hh) with h3 | h3
      · exact h2 h3
      · exact ((List.pairwise_cons.1 hg.pw).1 _ h3).1 hmem
    refine ⟨fun hnil => by rw [hnil] at hhead; simp at hhead, fun i hi => ?_⟩
    obtain ⟨hun, oi, hoi, hall⟩ := mem_ready.1 hi
    have hedges : ∀ k ∈ edgesAt ops i, listed.getD k false = true := fun k hk => by
      simp only [edgesAt, hoi, edgesOf, List.mem_map, List.mem_filter] at hk
      obtain ⟨e, ⟨he, hb⟩, rfl⟩ := hk
      exact hall e (by simpa using he) hb
    obtain ⟨A, B, hAB⟩ := List.append_of_mem ((hg.mem i).2 hun)
    rw [hAB] at hr
    have hpw := hg.pw
    have hnd := hg.nodup
    rw [hAB] at hpw hnd
    have hfree : ∀ j ∈ A, indepAt H ops j i = true ∧ (T.getD i []).contains j = false := by
      intro j hj
      have h1 := ((List.pairwise_append.1 hpw).2.2 j hj i (List.mem_cons_self ..)).2
      have hnot : (T.getD i []).contains j = false := by
        cases hc : (T.getD i []).contains j with
        | false => rfl
        | true =>
          have hl := hT (fun k => listed.getD k false = true) hg.closed i hedges j (by simpa using hc)
          have hu := (hg.mem j).1 (by rw [hAB]; simp [hj])
          rcases Nat.lt_or_ge j listed.size with h | h
          · simp [h] at hl hu; rw [hu] at hl; simp at hl
          · simp [Array.getElem?_eq_none h] at hu
      rw [hnot] at h1
      exact ⟨h1.resolve_left (by simp), hnot⟩
    have hi_lt : i < listed.size := by
      rcases Nat.lt_or_ge i listed.size with h | h
      · exact h
      · simp [Array.getElem?_eq_none h] at hun
    have hgood : Good H T ops (listed.setIfInBounds i true) (A ++ B) := by
      refine ⟨by simp [hg.size], fun k => ?_, ?_, ?_, fun k hk j hj => ?_⟩
      · by_cases hki : k = i
        · subst hki
          refine ⟨fun hm => ?_, fun hm => ?_⟩
          · have := (List.perm_middle.nodup_iff).1 hnd
            exact absurd hm (List.nodup_cons.1 this).1
          · simp [hi_lt] at hm
        · rw [getD_set_ne true (Ne.symm hki), ← hg.mem k, hAB]
          simp [hki]
      · exact hnd.sublist (List.Sublist.append (List.Sublist.refl _) (List.sublist_cons_self ..))
      · exact hpw.sublist (List.Sublist.append (List.Sublist.refl _) (List.sublist_cons_self ..))
      · by_cases hki : k = i
        · subst hki; exact getD_set_true (hedges j hj)
        · rw [getD_set_ne false (Ne.symm hki)] at hk
          exact getD_set_true (hg.closed k hk j hj)
    have hlen : (A ++ B).length ≤ fuel := by
      have : (i0 :: L).length = (A ++ i :: B).length := by rw [hAB]
      simp at this hf ⊢
      omega
    unfold wpOp
    rcases bubble A s hr hfree with ⟨s1, e1, e2⟩ | ⟨v, s1, s2, e1, e2, e3⟩
    · obtain ⟨o, ho, hh⟩ := stepF_sound hC hcall e1 hI
      rw [ho]
      simp only
      rcases hh with ⟨hw, hh⟩ | ⟨hw, st', G', lam', f1, f2, f3⟩
      · rw [if_pos hw]
        refine .inl (wp_mono2 hh (fun a' w' hn => ?_) (fun e a' w' hq => ?_))
        · obtain ⟨st', G', lam', f1, f2, f3⟩ := hn
          cases f1
          exact runs_any hC hcall hT hE fuel _ _ s1 hgood hlen e2 G' lam' a' w' (x.trans f2) f3
        · obtain ⟨v, st', c, G', f1, _⟩ := hq; cases f1
      · rw [if_neg (by rw [hw]; simp)]
        cases f1
        exact runs_any hC hcall hT hE fuel _ _ s1 hgood hlen e2 G' lam' _ w (x.trans f2) f3
    · obtain ⟨o, ho, hh⟩ := stepF_sound hC hcall e1 hI
      rw [ho]
      simp only
      rcases hh with ⟨hw, hh⟩ | ⟨hw, st', G', lam', f1, f2, f3⟩
      · rw [if_pos hw]
        refine .inl (wp_mono2 hh (fun a' w' hn => ?_) (fun e a' w' hq => ?_))
        · obtain ⟨st', G', lam', f1, f2, f3⟩ := hn; cases f1
        · obtain ⟨v', st', c, G', f1, f2, f3, f4, f5, f6⟩ := hq
          cases f1
          exact .inr ⟨v, s2, c, G', e2, f2, f3, x.trans f4, by rw [← e3]; exact f5, f6⟩
      · cases f1

theorem distinct_nodup : ∀ {l : List Nat}, distinct l = true → l.Nodup
  | [], _ => List.nodup_nil
  | x :: xs, h => by
    simp only [distinct, Bool.and_eq_true, Bool.not_eq_true'] at h
    exact List.nodup_cons.2 ⟨by simpa using h.1, distinct_nodup h.2⟩

theorem pairs_pairwise {f : Nat → Nat → Bool} : ∀ {l : List Nat}, pairs f l = true → l.Pairwise fun i j => f i j = true
  | [], _ => List.Pairwise.nil
  | x :: xs, h => by
    simp only [pairs, Bool.and_eq_true, List.all_eq_true] at h
    exact List.pairwise_cons.2 ⟨fun y hy => h.1 y hy, pairs_pairwise h.2⟩

theorem draw_sound (hC : CtxOk P C) (hcall : CallOk P C call) {L : List Nat} (hf : free H ops L = true) {s : St} {K : Out → Option Res} {r : Res} (h : aops C H call (some (ancs ops.toList [])) ops L s K = some r) :
    ∃ out, K out = some r ∧ ∀ G lam a w, Inv C.glob G lam a w s → wpAny P .any ops (OQ C G w out) ops.size (Array.replicate ops.size false) a { w with drawn := w.drawn + 1 } := by
  obtain ⟨out, h1, h2⟩ := aops_runs _ _ _ _ h
  refine ⟨out, h1, fun G lam a w hI => ?_⟩
  simp only [free, Bool.and_eq_true, List.all_eq_true, beq_iff_eq] at hf
  obtain ⟨⟨⟨⟨⟨f1, f2⟩, f3⟩, f3b⟩, f4⟩, f5⟩ := hf
  have hlt : ∀ i ∈ L, i < ops.size := fun i hi => by simpa using f3 i hi
  have hE : ∀ i, ∀ k ∈ edgesAt ops i, k < ops.size ∧ k ≠ i := by
    intro i k hk
    have hi : i < ops.size := by
      rcases Nat.lt_or_ge i ops.size with h | h
      · exact h
      · simp [edgesAt, Array.getElem?_eq_none h] at hk
    have := f4 i (by simpa using hi) k hk
    simpa using this
  have hall : ∀ i, i < ops.size → i ∈ L := by
    intro i hi
    simpa using f3b i (by simpa using hi)
  have hgood : Good H (ancs ops.toList []) ops (Array.replicate ops.size false) L := by
    refine ⟨by simp, fun i => ?_, distinct_nodup f2, (pairs_pairwise f5).imp fun hh => ?_, fun k hk => ?_⟩
    · refine ⟨fun hi => by simp [hlt i hi], fun hi => hall i ?_⟩
      rcases Nat.lt_or_ge i ops.size with h | h
      · exact h
      · simp [Nat.not_lt.2 h] at hi
    · simpa using hh
    · simp [Array.getD_eq_getD_getElem?, Array.getElem?_replicate] at hk
      split at hk <;> simp at hk
  exact runs_any hC hcall ancs_ok hE ops.size _ L s hgood (by rw [f1]; exact Nat.le_refl _) h2 G lam a _ (Ext.same rfl rfl rfl rfl) (hI.same rfl rfl rfl rfl)
end
end Go.Ab
