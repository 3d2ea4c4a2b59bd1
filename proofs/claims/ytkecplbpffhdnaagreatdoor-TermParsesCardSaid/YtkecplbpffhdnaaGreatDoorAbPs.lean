/- The plain laws: the scanner's terms. errors.As at the fault's own type, walked; api.Code over it. Lines of the worked proof 'toyas', turned to this seat. A function with cells of its own that is walked by hand: what calls leave, cells written beside. -/
import Derived.Test.YtkecplbpffhdnaaGreatDoorLvTd
import Derived.Test.YtkecplbpffhdnaaGreatDoorProg
import Derived.Test.YtkecplbpffhdnaaGreatDoorAbMk0
import Derived.WalkKit
import Derived.LaidEql
import Derived.Stop.Asserts
import Derived.RowKitTokens
set_option linter.unusedSimpArgs false
set_option linter.unusedVariables false
set_option linter.deprecated false
section
namespace Go.Ab.Mk
open Go.Proofs Go.Ab

/-- How a way through the program ends, against what the reference comes to: with a value at a place, or with what is thrown. -/
def Ends (s : ByteArray) (σ : Sto) (r : Nat) (B : Option Res) (y : V) (st : RS) : Prop :=
  (∃ p, st = ⟨p, 0, 0⟩ ∧ B = some (.ret [(y, false)], σ.set r ((stepV s p).cells s))) ∨
  (st.c = 1 ∧ ∃ cs, B = some (.pan (.iface 54 (.ptr 36 σ.length 0)), σ.set r cs ++ [fcell 1 st.a]))
section
variable {s : ByteArray} {σ : Sto} {r : Nat}
theorem Ends.bind {f : FuncId} {args : List Cell} {σ0 : Sto} {x y : V} {st : RS} {K : List Cell → Sto → Option Res} {G : RS → RS} (h : Ends s σ r (lim C f args σ0) x st)
    (hK : ∀ p, st = ⟨p, 0, 0⟩ → Ends s σ r (K [(x, false)] (σ.set r ((stepV s p).cells s))) y (G st)) (hG : st.c ≠ 0 → G st = st) :
    Ends s σ r (callK (lim C) f args σ0 1 K (fun v σ => some (.pan v, σ))) y (G st) := by
  rcases h with ⟨p, h1, h2⟩ | ⟨h1, cs, h2⟩
  · rw [callK_ret1 h2]
    exact hK p h1
  · right
    rw [hG (by rw [h1]; decide)]
    refine ⟨h1, cs, ?_⟩
    rw [callK_panic h2]
theorem ends_level (hs : s.size < 2 ^ 61) (hr : r < σ.length) {p : Nat} (hp : p ≤ s.size) :
    Ends s σ r (lim C 45 [(.ptr 69 r 0, false)] (σ.set r ((stepV s p).cells s))) (.agg [.int .i64 (rlevelV (s.size + 1) s ⟨p, 0, 0⟩).1.kind, .str (rlevelV (s.size + 1) s ⟨p, 0, 0⟩).1.name, .slice 3 90 (rlevelV (s.size + 1) s ⟨p, 0, 0⟩).1.args]) (rlevelV (s.size + 1) s ⟨p, 0, 0⟩).2 := by
  rcases slevel_law hs (s.size + 1) p σ r hr hp (by omega) with ⟨h1, h2, _, _, h5⟩ | ⟨h1, cs, h2⟩
  · exact .inl ⟨_, rs_eta h1 h2, h5⟩
  · exact .inr ⟨h1, cs, h2⟩
theorem ends_name (hs : s.size < 2 ^ 61) (hr : r < σ.length) {p : Nat} (hp : p ≤ s.size) :
    Ends s σ r (lim C 46 [(.ptr 69 r 0, false)] (σ.set r ((stepV s p).cells s))) (.str (rnameV s ⟨p, 0, 0⟩).1) (rnameV s ⟨p, 0, 0⟩).2 := by
  have h := sname_law hr hs hp
  rw [h]
  unfold rnameV rfailV
  cases hn : isNameV (tokV s p).t
  · have hc1 : ((1 : Int) != 0) = true := rfl
    simp only [hn, Bool.not_false, Bool.or_true, cond_true, cond_false, beq_self_eq_true, hc1]
    exact .inr ⟨rfl, (stepV s p).cells s, rfl⟩
  · have hok := (name_ok hp hn).1
    simp only [hn, hok, Bool.not_true, Bool.or_false, cond_true, cond_false, bne_self_eq_false]
    refine .inl ⟨(stepV s p).at_, ?_, rfl⟩
    unfold stepV stepOf; rw [hok]; rfl

variable {N : Nat} {t0 t1 : Int} {t2 : ByteArray} {t3 t4 : List (List V)} {o0 o1 : Int} {o2 : V}
theorem parts_end {m : Nat} {n : Int} {o3 o4 : List (List V)} (hs : s.size < 2 ^ 61) (hr : r < σ.length) {p : Nat} (hp : p ≤ s.size) :
    Ends s σ r (readl0 (lim C) N (m + 1) r n n t0 t1 t2 t3 t4 o0 o1 o2 o3 o4 (σ.set r ((stepV s p).cells s))) (.agg [.int .i64 o0, .int .i64 o1, o2, .slice 3 90 o3, .slice 5 30 o4]) (rtakeV s ⟨p, 0, 0⟩ (ba [41])) := by
  show Ends s σ r (reads0 (lim C) (readl0 (lim C) N m) r n n t0 t1 t2 t3 t4 o0 o1 o2 o3 o4 (σ.set r ((stepV s p).cells s))) _ _
  unfold reads0
  have e : decide (n < n) = false := by simp
  have e41 : ByteArray.mk #[41] = ba [41] := rfl
  simp only [e, cond_false, e41]
  rcases stake_law hr hs hp (w := [41]) (by simp) (by simp) with ⟨h1, h2, h3⟩ | ⟨h1, h2⟩
  · rw [callK_ret0 h3]
    exact .inl ⟨_, h2, rfl⟩
  · rw [callK_panic h2]
    exact .inr ⟨h1, _, rfl⟩
theorem parts_go {m : Nat} {n i : Int} {o3 o4 : List (List V)} {σ0 : Sto} {x : Tm} {y : V} {st : RS} {G : RS → RS} (hlt : i < n) (hroom : room (o4.length + 1) = true)
    (h : Ends s σ r (lim C 22 [(.ptr 69 r 0, false)] σ0) x.val st)
    (hK : ∀ p, st = ⟨p, 0, 0⟩ → Ends s σ r (readl0 (lim C) N m r n (IntKind.wrap .i64 (i + 1)) t0 t1 t2 t3 t4 o0 o1 o2 o3 (o4 ++ [x.enc]) (σ.set r ((stepV s p).cells s))) y (G st)) (hG : st.c ≠ 0 → G st = st) :
    Ends s σ r (readl0 (lim C) N (m + 1) r n i t0 t1 t2 t3 t4 o0 o1 o2 o3 o4 σ0) y (G st) := by
  show Ends s σ r (reads0 (lim C) (readl0 (lim C) N m) r n i t0 t1 t2 t3 t4 o0 o1 o2 o3 o4 σ0) _ _
  unfold reads0
  simp only [decide_eq_true hlt, cond_true]
  refine h.bind (fun p hp => ?_) hG
  simp only [List.getD_cons_zero, tm_fits, tm_cell, grd, Bool.and_self, cond_true, Option.bind_some, hroom]
  exact hK p hp
theorem levels_run (hs : s.size ≤ 20000) (hr : r < σ.length) (hN : 0 < N) : ∀ (m : Nat) (ls : List Lv) (p : Nat), p ≤ s.size → ls.length + (s.size - p) ≤ 20000 → s.size - p + 1 < m →
    Ends s σ r (readl1 (lim C) N m r 0 t0 t1 t2 t3 t4 o0 o1 o2 (ls.map Lv.enc) [] (σ.set r ((stepV s p).cells s)))
      (.agg [.int .i64 o0, .int .i64 o1, o2, .slice 3 90 ((ls ++ (rlvsV m s ⟨p, 0, 0⟩).1).map Lv.enc), .slice 5 30 []]) (rtakeV s (rlvsV m s ⟨p, 0, 0⟩).2 (ba [41]))
  | 0, _, _, _, _, hm => by omega
  | m + 1, ls, p, hp, hb, hm => by
    have hs' : s.size < 2 ^ 61 := by omega
    show Ends s σ r (reads1 (lim C) (readl0 (lim C) N N) (readl1 (lim C) N m) r 0 t0 t1 t2 t3 t4 o0 o1 o2 (ls.map Lv.enc) [] (σ.set r ((stepV s p).cells s))) _ _
    unfold reads1
    have e41 : ∀ t : ByteArray, (t.toList == (ByteArray.mk #[41]).toList) = strIs t [41] := fun _ => rfl
    have tk := stepTok hp (w := [41]) (by simp) (by simp)
    simp only [sg2 hr, Option.bind_some, V.asStr, e41, tk, rlvsV, bne_self_eq_false, cond_false]
    cases h3 : strIs (tokV s p).t [41]
    case true =>
      simp only [Bool.not_true, cond_false, cond_true, List.append_nil]
      obtain ⟨k, rfl⟩ : ∃ k, N = k + 1 := ⟨N - 1, by omega⟩
      exact parts_end hs' hr hp
    simp only [Bool.not_false, cond_true, cond_false]
    have hx := ends_level hs' hr hp
    have hgo := rlevel_goes (s := s) (st := ⟨p, 0, 0⟩) hp
    have hroom : room (List.length (ls.map Lv.enc) + 1) = true := room_ok (by simp; omega)
    have em : List.map Lv.enc ls ++ [(rlevelV (s.size + 1) s ⟨p, 0, 0⟩).1.enc] = List.map Lv.enc (ls ++ [(rlevelV (s.size + 1) s ⟨p, 0, 0⟩).1]) := by simp
    refine hx.bind (G := fun st => rtakeV s (rlvsV m s st).2 (ba [41])) (fun p' hp' => ?_) (fun hc => by rw [rlvs_stuck hc, rtake_stuck hc])
    simp only [List.getD_cons_zero, fits_lv, cell_lv, grd, Bool.and_self, cond_true, Option.bind_some, hroom, em]
    have hc : (rlevelV (s.size + 1) s ⟨p, 0, 0⟩).2.c = 0 := by rw [hp']
    have h1 := (hgo.ok hc).2
    have h2 := hgo.le
    rw [hp'] at h1 h2 ⊢
    simp only at h1 h2
    have ih := levels_run hs hr hN m (ls ++ [(rlevelV (s.size + 1) s ⟨p, 0, 0⟩).1]) p' h2 (by rw [List.length_append]; simp only [List.length_cons, List.length_nil]; omega) (by omega)
    rw [List.append_assoc] at ih
    exact ih
end

theorem hashed_step {s : ByteArray} {p : Nat} (hp : p ≤ s.size) : hashed (stepV s p).tok = hashed (tokV s p).t := by
  cases hk : (tokV s p).ok
  · have h1 := (tokV_ok s hp).no hk
    have e2 : hashed (tokV s p).t = false := by simp [hashed, h1]
    have e1 : (stepV s p).tok = ByteArray.mk #[0] := by unfold stepV stepOf; rw [hk]; rfl
    rw [e1, e2]
    have : byteAt (ByteArray.mk #[0]) 0 = 0 := rfl
    simp [hashed, this]
  · rw [step_tok hk]
theorem wordIx_step {s : ByteArray} {p : Nat} (hp : p ≤ s.size) : wordIx (stepV s p).tok = wordIx (tokV s p).t := by
  have e : ∀ w : List UInt8, w ≠ [] → w ≠ [0] → strIs (stepV s p).tok w = strIs (tokV s p).t w := fun w h1 h2 => stepTok hp h1 h2
  unfold wordIx
  rw [e _ (by simp) (by simp), e _ (by simp) (by simp), e _ (by simp) (by simp), e _ (by simp) (by simp), e _ (by simp) (by simp), e _ (by simp) (by simp)]
theorem not_40 {t : ByteArray} (h : hashed t = true) : strIs t [40] = false := by
  cases h2 : strIs t [40] with
  | false => rfl
  | true =>
    rw [strIs_eq h2] at h
    simp only [hashed, Bool.and_eq_true] at h
    exact absurd h.2 (by decide)
theorem bad_or {s : ByteArray} {p : Nat} (hp : p ≤ s.size) : badTok (tokV s p) = (!(hashed (tokV s p).t) && !strIs (tokV s p).t [40]) := by
  have h := (tokV_ok s hp).no
  unfold badTok hashed
  cases hok : (tokV s p).ok
  · have h1 := h hok
    have h2 : strIs (tokV s p).t [40] = false := by
      cases h2 : strIs (tokV s p).t [40] with
      | false => rfl
      | true => have := (strIs_ok hp (by simp) h2).1; rw [hok] at this; simp at this
    simp [h1, h2]
  · cases hno : isNo (tokV s p).t
    · simp
    · have h2 : strIs (tokV s p).t [40] = false := by
        cases h2 : strIs (tokV s p).t [40] with
        | false => rfl
        | true => have := (strIs_ok hp (by simp) h2).2; rw [hno] at this; simp at this
      simp [h2]
theorem read_law {s : ByteArray} (hs : s.size ≤ 20000) : ∀ (n p : Nat) (σ : Sto) (r : Nat), r < σ.length → p ≤ s.size → s.size - p < n →
    Ends s σ r (lim C 22 [(.ptr 69 r 0, false)] (σ.set r ((stepV s p).cells s))) (rtermV n s ⟨p, 0, 0⟩).1.val (rtermV n s ⟨p, 0, 0⟩).2
  | 0, p, σ, r, hr, hp, hn => by omega
  | n + 1, p, σ, r, hr, hp, hn => by
    have hs' : s.size < 2 ^ 61 := by omega
    have key : ∀ {y st}, Ends s σ r (read (lim C) (s.size + 10) r (σ.set r ((stepV s p).cells s))) y st → Ends s σ r (lim C 22 [(.ptr 69 r 0, false)] (σ.set r ((stepV s p).cells s))) y st := by
      intro y st h
      rcases h with ⟨q, h1, h2⟩ | ⟨h1, cs, h2⟩
      · exact .inl ⟨q, h1, read_lim (n := s.size + 10) h2⟩
      · exact .inr ⟨h1, cs, read_lim (n := s.size + 10) h2⟩
    refine key ?_
    clear key
    have hcp := cutPrefix_law (stepV s p).tok (σ.set r ((stepV s p).cells s))
    rw [hashed_step hp] at hcp
    have hst := step_law' hr hs' hp
    simp only [read, readF, sg2 hr, Option.bind_some]
    simp only [callK_ret2 hcp, List.getD_cons_zero, List.getD_cons_succ, V.asBool, Option.bind_some, rtermV, bne_self_eq_false, cond_false, bad_or hp]
    cases hh : hashed (tokV s p).t
    case true =>
      have hno : isNo (tokV s p).t = false := by
        simp only [hashed, Bool.and_eq_true, Bool.not_eq_true'] at hh
        exact hh.1
      have h35 : byteAt (tokV s p).t 0 = 35 := by
        simp only [hashed, Bool.and_eq_true, beq_iff_eq] at hh
        exact hh.2
      have hok : (tokV s p).ok = true := by
        cases hok : (tokV s p).ok with
        | true => rfl
        | false => have := (tokV_ok s hp).no hok; rw [hno] at this; simp at this
      have hdg := tok_num hp hok hno h35
      have hat := atoi_law hdg (σ.set r ((stepV s p).cells s))
      have f1 : ∀ x : Int, V.fits (.int .i64 x) false 1 = true := fun _ => rfl
      simp only [cond_true, step_tok hok, Bool.not_true, Bool.false_and, cond_false, not_40 hh, callK_ret2 hat, List.getD_cons_zero, List.getD_cons_succ, V.ifaceNil, Option.bind_some, callK_ret0 hst, f1, grd, Bool.and_true]
      rw [rnext_at ⟨hok, hno⟩]
      exact .inl ⟨_, rfl, rfl⟩
    simp only [cond_false, Bool.not_false, Bool.true_and]
    have e40 : ByteArray.mk #[40] = ba [40] := rfl
    rw [e40]
    have hz : ∀ {c}, strIs (tokV s p).t [40] = c → (rtakeV s ⟨p, 0, 0⟩ (ba [40])).c = (bif c then 0 else 1) ∧ (c = false → (rtakeV s ⟨p, 0, 0⟩ (ba [40])) = ⟨p, 1, (tokV s p).at_⟩) := by
      intro c hc
      have hc' : ((tokV s p).t.toList == (ba [40]).toList) = c := hc
      unfold rtakeV rfailV
      cases c
      · simp [hc']
      · have hok := (strIs_ok hp (by simp) hc).1
        simp [hc', hok]
    cases h40 : strIs (tokV s p).t [40]
    case false =>
      obtain ⟨z1, z2⟩ := hz h40
      rcases stake_law hr hs' hp (w := [40]) (by simp) (by simp) with ⟨k1, _⟩ | ⟨_, k2⟩
      · rw [z1] at k1; simp at k1
      · rw [z2 rfl] at k2
        simp only [callK_panic k2, Bool.not_false, cond_true]
        right
        refine ⟨by simp [rfailV], (stepV s p).cells s, ?_⟩
        simp [rfailV]
    obtain ⟨z1, _⟩ := hz h40
    have hok := strIs_ok hp (by simp) h40
    rcases stake_law hr hs' hp (w := [40]) (by simp) (by simp) with ⟨_, _, k3⟩ | ⟨k1, _⟩
    case inr => rw [z1] at k1; simp at k1
    have hlt := step_lt hp hok
    have hsle := step_at_le hp
    simp only [callK_ret0 k3, Bool.not_true, cond_false, cond_true]
    rw [rnext_at hok]
    generalize (stepV s p).at_ = p1 at hlt hsle
    clear hcp hst k3
    have hix := index_law (ps := words6) (by decide) (stepV s p1).tok (σ.set r ((stepV s p1).cells s))
    rw [idx_words, wordIx_step hsle] at hix
    have ew : ((((List.map (fun v => [v]) [(V.str (ByteArray.mk #[])), (V.str (ByteArray.mk #[115, 111, 114, 116])), (V.str (ByteArray.mk #[99, 111, 110, 115, 116])), (V.str (ByteArray.mk #[97, 112, 112])), (V.str (ByteArray.mk #[108, 97, 109])), (V.str (ByteArray.mk #[112, 105])), (V.str (ByteArray.mk #[108, 101, 116]))]).take (Int.toNat (7 : Int))).drop (Int.toNat (1 : Int)))) = strs words6 := rfl
    have eg : (decide (0 ≤ (1 : Int)) && decide ((1 : Int) ≤ (7 : Int)) && decide ((7 : Int) ≤ ((7 : Nat) : Int)) && decide ((1 : Int) < ((7 : Nat) : Int))) = true := by decide
    have w1 : IntKind.wrap .i64 ((wordIx (tokV s p1).t : Int) - 1 + 1) = (wordIx (tokV s p1).t : Int) := by
      have := wordIx_le (tokV s p1).t
      rw [wrapI (by omega) (by omega)]; omega
    rw [eg, ew]
    simp only [grd, cond_true, Option.bind_some, sg2 hr, callK_ret1 hix, List.getD_cons_zero, V.asInt, if_true, w1, tmP]
    have hf1 := sfail_law hr (s := s) (stepV s p1)
    rw [step_pos] at hf1
    by_cases hk0 : wordIx (tokV s p1).t = 0
    case pos =>
      simp only [hk0, Int.natCast_zero, beq_self_eq_true, cond_true, callK_panic hf1]
      right
      refine ⟨by simp [rfailV], (stepV s p1).cells s, ?_⟩
      simp [rfailV]
    have hok1 := wordIx_ok hsle hk0
    have hst1 := step_law' hr hs' hsle
    have hlt1 := step_lt hsle hok1
    have hsle1 := step_at_le hsle
    have hk0' : ((wordIx (tokV s p1).t : Int) == 0) = false := by simp; omega
    have hk0'' : (wordIx (tokV s p1).t == 0) = false := by simpa using hk0
    simp only [hk0', hk0'', cond_false, callK_ret0 hst1]
    rw [rnext_at hok1]
    generalize (stepV s p1).at_ = p2 at hlt1 hsle1
    have hk6 := wordIx_le (tokV s p1).t
    clear hix hf1 hst1 w1 eg ew
    generalize wordIx (tokV s p1).t = k at hk0 hk0' hk0'' hk6 ⊢
    have goes0 : Gone s ⟨p2, 0, 0⟩ ⟨p2, 0, 0⟩ := Gone.refl hsle1
    have ih : ∀ q st, st = (⟨q, 0, 0⟩ : RS) → Gone s ⟨p2, 0, 0⟩ st → Ends s σ r (lim C 22 [(.ptr 69 r 0, false)] (σ.set r ((stepV s q).cells s))) (rtermV n s st).1.val (rtermV n s st).2 ∧ Gone s ⟨p2, 0, 0⟩ (rtermV n s st).2 := by
      intro q st hst h
      subst hst
      have h1 := h.le
      have h2 := (h.ok rfl).2
      simp only at h1 h2
      exact ⟨read_law hs n q σ r hr h1 (by omega), h.trans (rterm_goes s n ⟨q, 0, 0⟩ h1 (.inr (by simp only; omega))).gone⟩
    have two : ∀ (f : Tm → Tm → Tm) (o0 : Int), (∀ a b, (f a b).val = .agg [.int .i64 o0, .int .i64 0, .str (ByteArray.mk #[]), .slice 3 90 [], .slice 5 30 [a.enc, b.enc]]) →
        Ends s σ r (readl0 (lim C) (s.size + 10) (s.size + 10) r 2 0 0 0 (ByteArray.mk #[]) [] [] o0 0 (.str (ByteArray.mk #[])) [] [] (σ.set r ((stepV s p2).cells s))) (tm2 (rtermV n s) s f ⟨p2, 0, 0⟩).1.val (tm2 (rtermV n s) s f ⟨p2, 0, 0⟩).2 := by
      intro f o0 hf
      have w1 : IntKind.wrap .i64 ((0 : Int) + 1) = 1 := by decide
      have w2 : IntKind.wrap .i64 ((1 : Int) + 1) = 2 := by decide
      obtain ⟨a1, a2⟩ := ih p2 _ rfl goes0
      show Ends s σ r (readl0 (lim C) (s.size + 10) (s.size + 7 + 1 + 1 + 1) r 2 0 0 0 (ByteArray.mk #[]) [] [] o0 0 (.str (ByteArray.mk #[])) [] [] (σ.set r ((stepV s p2).cells s))) _ _
      refine parts_go (G := fun st => rtakeV s (rtermV n s st).2 (ba [41])) (by omega) (room_ok (by simp)) a1 (fun q hq => ?_) (fun hc => by rw [rterm_stuck hc, rtake_stuck hc])
      obtain ⟨b1, b2⟩ := ih q _ hq a2
      rw [w1]
      refine parts_go (G := fun st => rtakeV s st (ba [41])) (by omega) (room_ok (by simp)) b1 (fun q2 hq2 => ?_) (fun hc => by rw [rtake_stuck hc])
      rw [w2, tm2, hf]
      rw [hq2] at b2 ⊢
      exact parts_end hs' hr b2.le
    have three : ∀ (f : Tm → Tm → Tm → Tm) (o0 : Int), (∀ a b c, (f a b c).val = .agg [.int .i64 o0, .int .i64 0, .str (ByteArray.mk #[]), .slice 3 90 [], .slice 5 30 [a.enc, b.enc, c.enc]]) →
        Ends s σ r (readl0 (lim C) (s.size + 10) (s.size + 10) r 3 0 0 0 (ByteArray.mk #[]) [] [] o0 0 (.str (ByteArray.mk #[])) [] [] (σ.set r ((stepV s p2).cells s))) (tm3 (rtermV n s) s f ⟨p2, 0, 0⟩).1.val (tm3 (rtermV n s) s f ⟨p2, 0, 0⟩).2 := by
      intro f o0 hf
      have w1 : IntKind.wrap .i64 ((0 : Int) + 1) = 1 := by decide
      have w2 : IntKind.wrap .i64 ((1 : Int) + 1) = 2 := by decide
      have w3 : IntKind.wrap .i64 ((2 : Int) + 1) = 3 := by decide
      obtain ⟨a1, a2⟩ := ih p2 _ rfl goes0
      show Ends s σ r (readl0 (lim C) (s.size + 10) (s.size + 6 + 1 + 1 + 1 + 1) r 3 0 0 0 (ByteArray.mk #[]) [] [] o0 0 (.str (ByteArray.mk #[])) [] [] (σ.set r ((stepV s p2).cells s))) _ _
      refine parts_go (G := fun st => rtakeV s (rtermV n s (rtermV n s st).2).2 (ba [41])) (by omega) (room_ok (by simp)) a1 (fun q hq => ?_) (fun hc => by rw [rterm_stuck hc, rterm_stuck hc, rtake_stuck hc])
      obtain ⟨b1, b2⟩ := ih q _ hq a2
      rw [w1]
      refine parts_go (G := fun st => rtakeV s (rtermV n s st).2 (ba [41])) (by omega) (room_ok (by simp)) b1 (fun q2 hq2 => ?_) (fun hc => by rw [rterm_stuck hc, rtake_stuck hc])
      obtain ⟨c1, c2⟩ := ih q2 _ hq2 b2
      rw [w2]
      refine parts_go (G := fun st => rtakeV s st (ba [41])) (by omega) (room_ok (by simp)) c1 (fun q3 hq3 => ?_) (fun hc => by rw [rtake_stuck hc])
      rw [w3, tm3, hf]
      rw [hq3] at c2 ⊢
      exact parts_end hs' hr c2.le
    match k, hk0, hk6 with
    | 0, h, _ => exact absurd rfl h
    | 1, _, _ =>
      have e1 : (((1 : Nat) : Int) == 1) = true := rfl
      simp only [e1, cond_true, tmB]
      have hx := ends_level hs' hr hsle1
      have gx := (rlevel_goes (s := s) (st := ⟨p2, 0, 0⟩) hsle1).le
      refine hx.bind (G := fun st => rtakeV s st (ba [41])) (fun q hq => ?_) (fun hc => by rw [rtake_stuck hc])
      simp only [List.getD_cons_zero, fits_lv, cell_lv, grd, Bool.and_self, cond_true, Option.bind_some]
      rw [hq] at gx ⊢
      exact parts_end (m := s.size + 9) (n := 0) hs' hr gx
    | 2, _, _ =>
      have e1 : (((2 : Nat) : Int) == 1) = false := rfl
      have e2 : (((2 : Nat) : Int) == 2) = true := rfl
      simp only [e1, e2, cond_true, cond_false, tmB]
      have hx := ends_name hs' hr hsle1
      have gx := (rname_goes (s := s) (st := ⟨p2, 0, 0⟩) hsle1).le
      refine hx.bind (G := fun st => rtakeV s (rlvsV (s.size + 10) s st).2 (ba [41])) (fun q hq => ?_) (fun hc => by rw [rlvs_stuck hc, rtake_stuck hc])
      have ef : ∀ b : ByteArray, V.fits (.str b) false 1 = true := fun _ => rfl
      simp only [List.getD_cons_zero, ef, grd, cond_true, Option.bind_some]
      have hl := levels_run (N := s.size + 10) (t0 := 0) (t1 := 0) (t2 := ByteArray.mk #[]) (t3 := []) (t4 := []) (o0 := ((2 : Nat) : Int)) (o1 := 0) (o2 := .str (rnameV s ⟨p2, 0, 0⟩).1) hs hr (by omega) (s.size + 10) [] q (by rw [hq] at gx; exact gx) (by simp; omega) (by omega)
      rw [← hq] at hl
      exact hl
    | 3, _, _ => exact two .app 3 (fun _ _ => rfl)
    | 4, _, _ => exact two .lam 4 (fun _ _ => rfl)
    | 5, _, _ => exact two .pi 5 (fun _ _ => rfl)
    | 6, _, _ => exact three .letin 6 (fun _ _ _ => rfl)
end Go.Ab.Mk
end
section
namespace Go.Proofs
open Go.RowKit Go.Extern.Stop Go.Stop Go.Extern
theorem Mk.valueOf27 (t : Addr) (w : World) : (ReflectliteValue.unpack (.iface 97 (.pointer (some t)))).run Tryz.prog w
    = .ok (.agg #[.pointer (some ⟨10, 97, none⟩), .pointer (some ⟨w.heap.size, 0, none⟩), .int .u64 150]) (w.alloc (.cells #[.pointer (some t)] 97)) := by kernel_rfl
theorem Mk.type27 (a : Addr) (w : World) : (ReflectliteValue.methodAny (ReflectliteValue.valueError "reflectlite.Value.Type" 0) (fun t _ _ _ => ReflectliteType.toType t) #[.agg #[.pointer (some ⟨10, 97, none⟩), .pointer (some a), .int .u64 150]]).run Tryz.prog w
    = .ok (.iface 135 (.agg #[.pointer (some ⟨10, 97, none⟩)])) w := by kernel_rfl
theorem Mk.methodKind (h : Value) (w : World) : (Go.method 309 135 (.agg #[h]) "Kind").run Tryz.prog w = .ok (132, h) w := by kernel_rfl
theorem Mk.kind27 (w : World) : ((ReflectliteType.abiMethod fun t => (fun a : Nat => Value.int IntKind.u8 (a : Int)) <$> Rtype.kind t) #[.pointer (some ⟨10, 97, none⟩)]).run Tryz.prog w = .ok (.int .u8 22) w := by kernel_rfl
theorem Mk.kind25 (w : World) : ((ReflectliteType.abiMethod fun t => (fun a : Nat => Value.int IntKind.u8 (a : Int)) <$> Rtype.kind t) #[.pointer (some ⟨10, 54, none⟩)]).run Tryz.prog w = .ok (.int .u8 22) w := by kernel_rfl

theorem Mk.rlm (z : Sem Value) (f : TypeId → Addr → Nat → Nat → Sem Value) (v : Value) :
    ReflectliteValue.method z f #[v] = (do match ← ReflectliteValue.parts v with | none => z | some (t, a, fl) => f t a fl (fl % 32)) := rfl
theorem Mk.parts27 (a : Addr) (w : World) : (ReflectliteValue.parts (.agg #[.pointer (some ⟨10, 97, none⟩), .pointer (some a), .int .u64 150])).run Tryz.prog w = .ok (some (97, a, 150)) w := by kernel_rfl
theorem Mk.isNil27 (a p : Addr) (W : World) (ha : W.cell? a = some (.pointer (some p))) :
    (ReflectliteValue.method (ReflectliteValue.valueError "reflectlite.Value.IsNil" 0) ReflectliteValue.isNil #[.agg #[.pointer (some ⟨10, 97, none⟩), .pointer (some a), .int .u64 150]]).run Tryz.prog W = .ok (.bool false) W := by
  rw [Mk.rlm]
  simp only [Sem.run_bind, Mk.parts27, Result.andThen]
  simp [ReflectliteValue.isNil, loadVar, isAgg, underlying, Tryz.underlying97, ha, Result.andThen]

theorem Mk.methodElem (h : Value) (w : World) : (Go.method 309 135 (.agg #[h]) "Elem").run Tryz.prog w = .ok (146, .agg #[h]) w := by kernel_rfl
theorem Mk.methodImplements (h : Value) (w : World) : (Go.method 309 135 (.agg #[h]) "Implements").run Tryz.prog w = .ok (147, .agg #[h]) w := by kernel_rfl
theorem Mk.methodAssignableTo (h : Value) (w : World) : (Go.method 309 135 (.agg #[h]) "AssignableTo").run Tryz.prog w = .ok (144, .agg #[h]) w := by kernel_rfl
theorem Mk.elem27 (w : World) : (ReflectliteType.method ReflectliteType.elem #[.agg #[.pointer (some ⟨10, 97, none⟩)]]).run Tryz.prog w = .ok (.iface 135 (.agg #[.pointer (some ⟨10, 54, none⟩)])) w := by kernel_rfl
theorem Mk.implements25 (w : World) : (ReflectliteType.relation "Implements" ReflectliteType.implements_ #[.agg #[.pointer (some ⟨10, 54, none⟩)], .iface 135 (.agg #[.pointer (some ⟨10, 32, none⟩)])]).run Tryz.prog w = .ok (.bool true) w := by kernel_rfl
theorem Mk.typeOf25 (v : Value) (w : World) : (ReflectliteType.typeOf #[.iface 54 v]).run Tryz.prog w = .ok (.iface 135 (.agg #[.pointer (some ⟨10, 54, none⟩)])) w := by kernel_rfl
theorem Mk.assignable25 (w : World) : (ReflectliteType.relation "AssignableTo" ReflectliteType.assignableTo #[.agg #[.pointer (some ⟨10, 54, none⟩)], .iface 135 (.agg #[.pointer (some ⟨10, 54, none⟩)])]).run Tryz.prog w = .ok (.bool true) w := by kernel_rfl
theorem Mk.valueOf25 (e : Addr) (w : World) : (ReflectliteValue.unpack (.iface 54 (.pointer (some e)))).run Tryz.prog w
    = .ok (.agg #[.pointer (some ⟨10, 54, none⟩), .pointer (some ⟨w.heap.size, 0, none⟩), .int .u64 150]) (w.alloc (.cells #[.pointer (some e)] 54)) := by kernel_rfl

theorem Mk.elemOf27 (w : World) : (Rtype.elem? 97).run Tryz.prog w = .ok (some 54) w := by kernel_rfl
theorem Mk.mk25 (p : Addr) (w : World) : (ReflectliteValue.mk 54 p ReflectliteValue.flagAddr).run Tryz.prog w = .ok (.agg #[.pointer (some ⟨10, 54, none⟩), .pointer (some p), .int .u64 406]) w := by kernel_rfl
theorem Mk.elemV27 (a p : Addr) (W : World) (ha : W.cell? a = some (.pointer (some p))) :
    (ReflectliteValue.method (ReflectliteValue.valueError "reflectlite.Value.Elem" 0) ReflectliteValue.elem #[.agg #[.pointer (some ⟨10, 97, none⟩), .pointer (some a), .int .u64 150]]).run Tryz.prog W
      = .ok (.agg #[.pointer (some ⟨10, 54, none⟩), .pointer (some p), .int .u64 406]) W := by
  rw [Mk.rlm]
  simp only [Sem.run_bind, Mk.parts27, Result.andThen]
  simp [ReflectliteValue.elem, loadVar, isAgg, underlying, Tryz.underlying97, ha, Result.andThen, Mk.elemOf27, Mk.mk25]
theorem Mk.rls (v x : Value) : ReflectliteValue.set #[v, x] = (do
    let (some (dst, a, fl), some (src, b, _)) := (← ReflectliteValue.parts v, ← ReflectliteValue.parts x)
      | unsupported (.noEntry "extern/(internal/reflectlite.Value).Set.zeroValue")
    if fl / ReflectliteValue.flagAddr % 2 == 0 then unsupported (.noEntry "extern/(internal/reflectlite.Value).Set.unaddressable")
    let val ← loadVar src b
    if ← Rtype.directlyAssignable dst src then storeVar dst a val
    else if ← Rtype.implements dst src then
      if (← Rtype.kind src) == 20 then
        match val with
        | .nilIface => unsupported (.noEntry "extern/reflectlite: a nil value of one interface type handed on as a value of another")
        | _ => storeVar dst a val
      else storeVar dst a (.iface src val)
    else panicString ("reflectlite.Set: value of type " ++ (← Rtype.spelt src) ++ " is not assignable to type " ++ (← Rtype.spelt dst))
    pure (.tuple #[])) := rfl
theorem Mk.parts25a (a : Addr) (w : World) : (ReflectliteValue.parts (.agg #[.pointer (some ⟨10, 54, none⟩), .pointer (some a), .int .u64 406])).run Tryz.prog w = .ok (some (54, a, 406)) w := by kernel_rfl
theorem Mk.parts25 (a : Addr) (w : World) : (ReflectliteValue.parts (.agg #[.pointer (some ⟨10, 54, none⟩), .pointer (some a), .int .u64 150])).run Tryz.prog w = .ok (some (54, a, 150)) w := by kernel_rfl
theorem Mk.direct25 (w : World) : (Rtype.directlyAssignable 54 54).run Tryz.prog w = .ok true w := by kernel_rfl
theorem Mk.size25 (w : World) : (sizeOf 54).run Tryz.prog w = .ok 1 w := by kernel_rfl
theorem Mk.set25 (ta b e : Addr) (old : Value) (W : World) (hb : W.cell? b = some (.pointer (some e))) (ht : W.cell? ta = some old) (hf : W.frozen? ta = false) :
    (ReflectliteValue.set #[.agg #[.pointer (some ⟨10, 54, none⟩), .pointer (some ta), .int .u64 406], .agg #[.pointer (some ⟨10, 54, none⟩), .pointer (some b), .int .u64 150]]).run Tryz.prog W
      = .ok (.tuple #[]) (W.setCell ta (.pointer (some e))) := by
  rw [Mk.rls]
  simp only [Sem.run_bind, Mk.parts25a, Mk.parts25, Result.andThen]
  simp [ReflectliteValue.flagAddr, loadVar, isAgg, underlying, Tryz.underlying54, hb, Result.andThen, Mk.direct25, storeVar, Value.cells, storeCells, Addr.add]
  rw [run_store Tryz.prog W ta _ _ (by rfl)]
  simp [ht, hf]

set_option maxHeartbeats 4000000 in
theorem Mk.as_hit (e t : Addr) (old : Value) (w : World) (hg : w.cell? ⟨2, 0, none⟩ = some (.iface 135 (.agg #[.pointer (some ⟨10, 32, none⟩)]))) (ht0 : w.cell? t = some old) (hf0 : w.frozen? t = false) :
    Calls Tryz.prog 55 #[.iface 54 (.pointer (some e)), .iface 97 (.pointer (some t))] w fun ev w' => ev = .returned (.bool true) ∧ w' = ((((w.alloc (.cells #[.pointer (some t)] 97)).alloc (.cells #[.pointer (some ⟨10, 97, none⟩), .pointer (some ⟨w.heap.size, 0, none⟩), .int .u64 150] 113)).alloc (.cells #[.pointer (some ⟨10, 97, none⟩), .pointer (some ⟨w.heap.size, 0, none⟩), .int .u64 150] 113)).alloc (.cells #[.pointer (some e)] 54)).setCell t (.pointer (some e)) := by
  have h6 := @run_callFunc_extern Tryz.prog 76 _ (fun args => ReflectliteValue.unpack (args.getD 0 (.tuple #[]))) Tryz.func76 (by kernel_rfl) (by kernel_rfl) (by kernel_rfl) (by kernel_rfl)
  have h7 := @run_callFunc_extern Tryz.prog 77 _ (ReflectliteValue.methodAny (ReflectliteValue.valueError "reflectlite.Value.Type" 0) (fun t _ _ _ => ReflectliteType.toType t)) Tryz.func77 (by kernel_rfl) (by kernel_rfl) (by kernel_rfl) (by kernel_rfl)
  have h8 := @run_callFunc_extern Tryz.prog 78 _ (ReflectliteValue.method (ReflectliteValue.valueError "reflectlite.Value.IsNil" 0) ReflectliteValue.isNil) Tryz.func78 (by kernel_rfl) (by kernel_rfl) (by kernel_rfl) (by kernel_rfl)
  have h27 := @run_callFunc_extern Tryz.prog 132 _ (ReflectliteType.abiMethod fun t => do pure (.int .u8 (← Rtype.kind t))) Tryz.func132 (by kernel_rfl) (by kernel_rfl) (by kernel_rfl) (by kernel_rfl)
  have h37 := @run_callFunc_extern Tryz.prog 146 _ (ReflectliteType.method ReflectliteType.elem) Tryz.func146 (by kernel_rfl) (by kernel_rfl) (by kernel_rfl) (by kernel_rfl)
  have h38 := @run_callFunc_extern Tryz.prog 147 _ (ReflectliteType.relation "Implements" ReflectliteType.implements_) Tryz.func147 (by kernel_rfl) (by kernel_rfl) (by kernel_rfl) (by kernel_rfl)
  have h10 := @run_callFunc_extern Tryz.prog 93 _ ReflectliteType.typeOf Tryz.func93 (by kernel_rfl) (by kernel_rfl) (by kernel_rfl) (by kernel_rfl)
  have h35 := @run_callFunc_extern Tryz.prog 144 _ (ReflectliteType.relation "AssignableTo" ReflectliteType.assignableTo) Tryz.func144 (by kernel_rfl) (by kernel_rfl) (by kernel_rfl) (by kernel_rfl)
  have h11 := @run_callFunc_extern Tryz.prog 94 _ (ReflectliteValue.method (ReflectliteValue.valueError "reflectlite.Value.Elem" 0) ReflectliteValue.elem) Tryz.func94 (by kernel_rfl) (by kernel_rfl) (by kernel_rfl) (by kernel_rfl)
  have h12 := @run_callFunc_extern Tryz.prog 95 _ ReflectliteValue.set Tryz.func95 (by kernel_rfl) (by kernel_rfl) (by kernel_rfl) (by kernel_rfl)
  have tO := Mk.typeOf25
  have mA := Mk.methodAssignableTo
  have a25 := Mk.assignable25
  have v25 := Mk.valueOf25
  have f6 := Mk.valueOf27
  have f7 := Mk.type27
  have mK := Mk.methodKind
  have mE := Mk.methodElem
  have mI := Mk.methodImplements
  have k27 := Mk.kind27
  have k25 := Mk.kind25
  have e27 := Mk.elem27
  have i25 := Mk.implements25
  have n8 := Mk.isNil27 ⟨w.heap.size, 0, none⟩ t ((w.alloc (.cells #[.pointer (some t)] 97)).alloc (.cells #[.pointer (some ⟨10, 97, none⟩), .pointer (some ⟨w.heap.size, 0, none⟩), .int .u64 150] 113)) (by simp)
  have hlt : 2 < w.heap.size := by
    rcases Nat.lt_or_ge 2 w.heap.size with h | h
    · exact h
    · simp [World.cell?, Array.getElem?_eq_none h] at hg
  have hg2 : ((w.alloc (.cells #[.pointer (some t)] 97)).alloc (.cells #[.pointer (some ⟨10, 97, none⟩), .pointer (some ⟨w.heap.size, 0, none⟩), .int .u64 150] 113)).cell? ⟨2, 0, none⟩ = some (.iface 135 (.agg #[.pointer (some ⟨10, 32, none⟩)])) := by
    rw [World.cell?_alloc_lt _ _ ⟨2, 0, none⟩ (by simp; omega), World.cell?_alloc_lt _ _ ⟨2, 0, none⟩ hlt]; exact hg
  have htl : t.block < w.heap.size := by
    rcases Nat.lt_or_ge t.block w.heap.size with h | h
    · exact h
    · simp [World.cell?, Array.getElem?_eq_none h] at ht0
  have el := Mk.elemV27 ⟨w.heap.size, 0, none⟩ t (((w.alloc (.cells #[.pointer (some t)] 97)).alloc (.cells #[.pointer (some ⟨10, 97, none⟩), .pointer (some ⟨w.heap.size, 0, none⟩), .int .u64 150] 113)).alloc (.cells #[.pointer (some ⟨10, 97, none⟩), .pointer (some ⟨w.heap.size, 0, none⟩), .int .u64 150] 113)) (by rw [World.cell?_alloc_lt _ _ ⟨w.heap.size, 0, none⟩ (by simp; omega)]; simp)
  have st := Mk.set25 t ⟨w.heap.size + 1 + 1 + 1, 0, none⟩ e old ((((w.alloc (.cells #[.pointer (some t)] 97)).alloc (.cells #[.pointer (some ⟨10, 97, none⟩), .pointer (some ⟨w.heap.size, 0, none⟩), .int .u64 150] 113)).alloc (.cells #[.pointer (some ⟨10, 97, none⟩), .pointer (some ⟨w.heap.size, 0, none⟩), .int .u64 150] 113)).alloc (.cells #[.pointer (some e)] 54))
    (by rw [World.cell?_alloc_at _ _ _ _ (by simp)]; rfl)
    (by rw [World.cell?_alloc_lt _ _ t (by simp; omega), World.cell?_alloc_lt _ _ t (by simp; omega), World.cell?_alloc_lt _ _ t (by simp; omega), World.cell?_alloc_lt _ _ t htl]; exact ht0)
    (by rw [World.frozen?_alloc_old _ _ t (by simp; omega), World.frozen?_alloc_old _ _ t (by simp; omega), World.frozen?_alloc_old _ _ t (by simp; omega), World.frozen?_alloc_old _ _ t (Nat.ne_of_lt htl)]; exact hf0)
  go_enter Tryz.func55, Tryz.ntmps55
  go_wp2
  refine wp_loop_rounds 1 ?_
  rw [rounds_succ]
  go_wp2
  go_ret
  exact ⟨rfl, rfl⟩
end Go.Proofs
end
section
namespace Go.Ab

/-- From one moment to a later one, as far as what lay below a bound. -/
structure ExtB (B : Nat) (G : Gh) (w : World) (G' : Gh) (w' : World) : Prop where
  N : G.N ≤ G'.N
  μ : ∀ b, b < G.N → G'.μ b = G.μ b
  ty : ∀ b, b < G.N → G'.ty b = G.ty b
  lim : ∀ b, G.lim b ≤ G'.lim b
  cell : ∀ b o, o < G.lim b → w'.cell? ⟨b, o, none⟩ = w.cell? ⟨b, o, none⟩
  os : w'.os = w.os
  tape : w'.tape = w.tape
  output : w'.output = w.output
  size : w.heap.size ≤ w'.heap.size
  old : ∀ i, i < B → G.owner i = none → w'.heap[i]? = w.heap[i]? ∧ G'.lim i = G.lim i ∧ G'.owner i = none
theorem Ext.toB {B : Nat} {G G' : Gh} {w w' : World} (h : Ext G w G' w') (hB : B ≤ w.heap.size) : ExtB B G w G' w' :=
  ⟨h.N, h.μ, h.ty, h.lim, h.cell, h.os, h.tape, h.output, h.size, fun i hi ho => h.old i (Nat.lt_of_lt_of_le hi hB) ho⟩
theorem ExtB.toExt {G G' : Gh} {w w' : World} (h : ExtB w.heap.size G w G' w') : Ext G w G' w' :=
  ⟨h.N, h.μ, h.ty, h.lim, h.cell, h.os, h.tape, h.output, h.size, h.old⟩
theorem ExtB.trans {B : Nat} {G G1 G2 : Gh} {w w1 w2 : World} (h : ExtB B G w G1 w1) (k : ExtB B G1 w1 G2 w2) : ExtB B G w G2 w2 where
  N := Nat.le_trans h.N k.N
  μ b hb := (k.μ b (Nat.lt_of_lt_of_le hb h.N)).trans (h.μ b hb)
  ty b hb := (k.ty b (Nat.lt_of_lt_of_le hb h.N)).trans (h.ty b hb)
  lim b := Nat.le_trans (h.lim b) (k.lim b)
  cell b o ho := (k.cell b o (Nat.lt_of_lt_of_le ho (h.lim b))).trans (h.cell b o ho)
  os := k.os.trans h.os
  tape := k.tape.trans h.tape
  output := k.output.trans h.output
  size := Nat.le_trans h.size k.size
  old i hi ho := by
    obtain ⟨a1, a2, a3⟩ := h.old i hi ho
    obtain ⟨b1, b2, b3⟩ := k.old i hi a3
    exact ⟨b1.trans a1, b2.trans a2, b3⟩

/-- The same but for two blocks. -/
structure Near (a b : Nat) (w w' : World) : Prop where
  os : w'.os = w.os
  tape : w'.tape = w.tape
  output : w'.output = w.output
  size : w'.heap.size = w.heap.size
  heap : ∀ i, i ≠ a → i ≠ b → w'.heap[i]? = w.heap[i]?
theorem Near.refl (a b : Nat) (w : World) : Near a b w w := ⟨rfl, rfl, rfl, rfl, fun _ _ _ => rfl⟩
theorem Near.setCell {a b : Nat} {w w' : World} (h : Near a b w w') (p : Addr) (hp : p.block = a ∨ p.block = b) (v : Value) : Near a b w (w'.setCell p v) := by
  refine ⟨h.os, h.tape, h.output, by simp [World.setCell]; exact h.size, fun i h1 h2 => ?_⟩
  rw [← h.heap i h1 h2]
  show (w'.heap.modify p.block _)[i]? = _
  rw [Array.getElem?_modify, if_neg (by rintro rfl; rcases hp with hp | hp <;> contradiction)]

section
variable {gl : Nat → Option (List V)} {G : Gh} {w w' : World} {σ : Sto} {a b : Nat}
theorem Near.rel (h : Near a b w w') (la : G.lim a = 0) (lb : G.lim b = 0) {v : V} {c : Value} (hr : Rel G w v c) : Rel G w' v c := by
  have hcell : ∀ i o, o < G.lim i → w'.cell? ⟨i, o, none⟩ = w.cell? ⟨i, o, none⟩ := by
    intro i o ho
    simp only [World.cell?]
    rw [h.heap i (by rintro rfl; omega) (by rintro rfl; omega)]
  let G1 : Gh := { G with owner := fun _ => some (.res 0) }
  have e : Ext G1 w G1 w' := ⟨Nat.le_refl _, fun _ _ => rfl, fun _ _ => rfl, fun _ => Nat.le_refl _, hcell, h.os, h.tape, h.output, by rw [h.size]; exact Nat.le_refl _, fun i _ ho => by simp [G1] at ho⟩
  have := (rel_owner hr (fun _ => some (.res 0))).mono (G' := G1) e
  exact rel_owner this G.owner
theorem Near.sinv (h : Near a b w w') (la : G.lim a = 0) (lb : G.lim b = 0) (oa : G.owner a = none) (ob : G.owner b = none) (hS : SInv gl G w σ) : SInv gl G w' σ := by
  have hne : ∀ i p, G.owner i = some p → w'.heap[i]? = w.heap[i]? := fun i p hp => h.heap i (by rintro rfl; rw [oa] at hp; simp at hp) (by rintro rfl; rw [ob] at hp; simp at hp)
  have hown : ∀ (p : Place) (v : V) (c : Value), Own G w p v c → Own G w' p v c := by
    intro p v c hh
    unfold Own at *
    split at hh
    · obtain ⟨h1, h2, h3, h4, cv, fr, h5, h6, h7⟩ := hh
      exact ⟨h1, h2, h3, h4, cv, fr, by rw [hne _ _ h3]; exact h5, h6, h7⟩
    · exact hh
    · trivial
  refine ⟨fun i hi => hS.wf i (by rw [h.size] at hi; exact hi), fun g cs hg => h.rel la lb (hS.glob g cs hg), hS.N, fun k hk => ?_, fun k cs hk => ?_⟩
  · obtain ⟨cv, fr, q1⟩ := hS.typed k hk
    obtain ⟨_, _, _, _, q3, _⟩ := hS.blk k σ[k] (List.getElem?_eq_getElem hk)
    exact ⟨cv, fr, by rw [hne _ _ q3]; exact q1⟩
  · obtain ⟨cv, el, g1, g2, g3, g4, g5⟩ := hS.blk k cs hk
    exact ⟨cv, el, by rw [hne _ _ g3]; exact g1, g2, g3, g4, fun j c x hc hx => ⟨⟨h.rel la lb (g5 j c x hc hx).1.1, fun hf => hown _ _ _ ((g5 j c x hc hx).1.2 hf)⟩, (g5 j c x hc hx).2⟩⟩
theorem Near.extB {B : Nat} (h : Near a b w w') (la : G.lim a = 0) (lb : G.lim b = 0) (ha : B ≤ a) (hb : B ≤ b) : ExtB B G w G w' :=
  ⟨Nat.le_refl _, fun _ _ => rfl, fun _ _ => rfl, fun _ => Nat.le_refl _, fun i o ho => by
    simp only [World.cell?]
    rw [h.heap i (by rintro rfl; omega) (by rintro rfl; omega)], h.os, h.tape, h.output, by rw [h.size]; exact Nat.le_refl _, fun i hi ho => ⟨h.heap i (by omega) (by omega), rfl, ho⟩⟩
end
/-- Only what the store holds stays held. -/
def Gh.bare (G : Gh) : Gh := { G with owner := fun i => match G.owner i with | some (.blk b) => some (.blk b) | some (.gc b o) => some (.gc b o) | _ => none }
section
variable {G : Gh} {w : World} {σ : Sto} {gl : Nat → Option (List V)}
theorem Gh.bare_none {i : Nat} (h : G.owner i = none) : G.bare.owner i = none := by simp [Gh.bare, h]
theorem Gh.bare_ext : Ext G w G.bare w :=
  ⟨Nat.le_refl _, fun _ _ => rfl, fun _ _ => rfl, fun _ => Nat.le_refl _, fun _ _ _ => rfl, rfl, rfl, rfl, Nat.le_refl _, fun _ _ h => ⟨rfl, rfl, Gh.bare_none h⟩⟩
theorem Gh.bare_clean (n : Nat) : Clean G.bare n := by
  intro i p hp
  simp only [Gh.bare] at hp
  split at hp
  · simp at hp; exact .inl ⟨_, hp.symm⟩
  · simp at hp; exact .inr (.inl ⟨_, _, hp.symm⟩)
  · simp at hp
theorem SInv.bare (h : SInv gl G w σ) : SInv gl G.bare w σ := by
  refine ⟨fun i hi => ⟨(h.wf i hi).1, Gh.bare_none (h.wf i hi).2⟩, fun g cs hg => (h.glob g cs hg).mono Gh.bare_ext, h.N, h.typed, fun b cs hbc => ?_⟩
  obtain ⟨cvv, el, g1, g2, g3, g4, g5⟩ := h.blk b cs hbc
  refine ⟨cvv, el, g1, g2, by show G.bare.owner (G.μ b) = _; simp [Gh.bare, g3], g4, fun j cc x hc hx => ?_⟩
  obtain ⟨e1, e2⟩ := g5 j cc x hc hx
  exact ⟨e1.move Gh.bare_ext fun _ i hi => ⟨rfl, rfl, by simp [Gh.bare, hi]⟩, e2⟩
end

def slv (v : V) : Bool := match v with | .slice .. | .nils => true | _ => false
section
/-- Two results, nobody's. -/
theorem end_two {G : Gh} {w : World} {v1 v2 : V} {c1 c2 : Value} (h1 : Rel G w v1 c1) (h2 : Rel G w v2 c2) : EndRel G w (.ret [(v1, false), (v2, false)]) (.returned (.tuple #[c1, c2])) := by
  refine ⟨[c1, c2], rfl, by simp, fun i c x hc hx => ?_⟩
  match i with
  | 0 => simp at hc hx; subst hc; subst hx; exact ⟨h1, fun ho => by simp at ho⟩
  | 1 => simp at hc hx; subst hc; subst hx; exact ⟨h2, fun ho => by simp at ho⟩
  | i + 2 => simp at hc

end
end Go.Ab
end
