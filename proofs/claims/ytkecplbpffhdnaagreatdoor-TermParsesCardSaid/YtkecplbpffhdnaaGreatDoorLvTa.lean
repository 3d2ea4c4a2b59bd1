/- The plain laws: the reader's levels. Terms as trees, how they are laid, and what the reference reads of a text. -/
import Derived.Test.YtkecplbpffhdnaaGreatDoorLvF
import Derived.Laws.Strings
set_option linter.unusedSimpArgs false
set_option linter.unusedVariables false
set_option linter.deprecated false
section
namespace Go.Ab.Mk
open Go.Proofs Go.Ab

def strIs (t : ByteArray) (l : List UInt8) : Bool := t.toList == (ba l).toList
def lv1 (rec : RS → Lv × RS) (s : ByteArray) (f : Lv → Lv) (st : RS) : Lv × RS := (f (rec st).1, rtakeV s (rec st).2 (ba [41]))
def lv2 (rec : RS → Lv × RS) (s : ByteArray) (f : Lv → Lv → Lv) (st : RS) : Lv × RS := (f (rec st).1 (rec (rec st).2).1, rtakeV s (rec (rec st).2).2 (ba [41]))
def lvP (rec : RS → Lv × RS) (s : ByteArray) (st : RS) : Lv × RS :=
  bif strIs (tokV s st.p).t [115] then lv1 rec s .succ (rnextV s st).2 else
  bif strIs (tokV s st.p).t [109, 97, 120] then lv2 rec s .max (rnextV s st).2 else
  bif strIs (tokV s st.p).t [105, 109, 97, 120] then lv2 rec s .imax (rnextV s st).2 else (.zero, rfailV st (tokV s st.p).at_)
/-- The next level, to a depth. -/
def rlevelV : Nat → ByteArray → RS → Lv × RS
  | 0, _, st => (.zero, st)
  | n + 1, s, st =>
    bif st.c != 0 then (.zero, st) else
    bif strIs (tokV s st.p).t [48] then (.zero, (rnextV s st).2) else
    bif isNameV (tokV s st.p).t then (.param (tokV s st.p).t, (rnextV s st).2) else
    bif strIs (tokV s st.p).t [40] then lvP (rlevelV n s) s (rnextV s st).2 else (.zero, rfailV st (tokV s st.p).at_)

theorem rfail_p (st : RS) (i : Nat) : (rfailV st i).p = st.p := by unfold rfailV; cases st.c == 0 <;> rfl
theorem rfail_c (st : RS) (i : Nat) : (rfailV st i).c ≠ 0 := by
  unfold rfailV
  cases h : st.c == 0
  · simpa using h
  · simp
theorem rnext_stuck {s : ByteArray} {st : RS} (h : st.c ≠ 0) : rnextV s st = (ByteArray.mk #[], st) := by
  have h1 : (st.c == 0) = false := by simpa using h
  have h2 : (st.c != 0) = true := by simpa using h
  unfold rnextV rfailV
  simp only [h1, cond_false]
  cases (!(tokV s st.p).ok || isNo (tokV s st.p).t) <;> simp only [cond_true, cond_false, h2]
theorem rnext_p {s : ByteArray} {st : RS} (hp : st.p ≤ s.size) : (rnextV s st).2.p ≤ s.size ∧ ((rnextV s st).2.c = 0 → st.c = 0 ∧ isNo (tokV s st.p).t = false ∧ (rnextV s st).2.p = (tokV s st.p).at_ + (tokV s st.p).t.size) := by
  obtain ⟨k1, k2, k3⟩ := tokV_ok s hp
  by_cases hc : st.c = 0
  · unfold rnextV rfailV
    simp only [hc, beq_self_eq_true, cond_true, bne_self_eq_false]
    cases hx : (!(tokV s st.p).ok || isNo (tokV s st.p).t)
    · simp only [cond_false, hc, bne_self_eq_false]
      simp only [Bool.or_eq_false_iff] at hx
      exact ⟨by omega, fun _ => ⟨trivial, hx.2, by first | rfl | trivial⟩⟩
    · simp only [cond_true]
      exact ⟨hp, fun h => by simp at h⟩
  · rw [rnext_stuck hc]
    exact ⟨hp, fun h => absurd h hc⟩
theorem rtake_p {s : ByteArray} {st : RS} {w : ByteArray} (hp : st.p ≤ s.size) : (rtakeV s st w).p ≤ s.size ∧ ((rtakeV s st w).c = 0 → st.c = 0 ∧ (tokV s st.p).t.toList = w.toList ∧ (rtakeV s st w).p = (tokV s st.p).at_ + (tokV s st.p).t.size) := by
  obtain ⟨k1, k2, k3⟩ := tokV_ok s hp
  by_cases hc : st.c = 0
  · unfold rtakeV rfailV
    simp only [hc, beq_self_eq_true, cond_true]
    cases hx : (!(tokV s st.p).ok || !((tokV s st.p).t.toList == w.toList))
    · simp only [cond_false, hc, beq_self_eq_true, cond_true]
      simp only [Bool.or_eq_false_iff] at hx
      exact ⟨by omega, fun _ => ⟨trivial, by simpa using hx.2, by first | rfl | trivial⟩⟩
    · simp only [cond_true]
      exact ⟨hp, fun h => by simp at h⟩
  · have h1 : (st.c == 0) = false := by simpa using hc
    have : rtakeV s st w = st := by
      unfold rtakeV rfailV
      simp only [h1, cond_false]
      cases (!(tokV s st.p).ok || !((tokV s st.p).t.toList == w.toList)) <;> simp only [cond_true, cond_false, h1]
    rw [this]
    exact ⟨hp, fun h => absurd h hc⟩
theorem rlevel_stuck {n : Nat} {s : ByteArray} {st : RS} (h : st.c ≠ 0) : rlevelV n s st = (.zero, st) := by
  cases n with
  | zero => rfl
  | succ n =>
    have h2 : (st.c != 0) = true := by simpa using h
    rw [rlevelV, h2]; rfl

theorem strIs_size {t : ByteArray} {l : List UInt8} (h : strIs t l = true) : t.size = l.length := by
  rw [strIs, beq_iff_eq, ByteArray.toList_eq, ByteArray.toList_eq] at h
  have := congrArg List.length h
  show t.data.size = l.length
  rw [← Array.length_toList, this]
  simp [ba]
/-- What a level takes of the text; how much it prints. -/
structure Took (s : ByteArray) (st : RS) (x : Lv × RS) : Prop where
  le : x.2.p ≤ s.size
  ok : x.2.c = 0 → st.c = 0 ∧ (printL x.1).length ≤ 2 * (x.2.p - st.p) ∧ x.1.size ≤ x.2.p - st.p ∧ st.p < x.2.p ∧ printL x.1 ≠ []
theorem rlevel_took (s : ByteArray) : ∀ (n : Nat) (st : RS), st.p ≤ s.size → (st.c ≠ 0 ∨ s.size - st.p < n) → Took s st (rlevelV n s st)
  | 0, st, hp, hn => ⟨hp, fun h => by rcases hn with hn | hn; exact absurd h hn; omega⟩
  | n + 1, st, hp, hn => by
    by_cases hc : st.c = 0
    case neg => rw [rlevel_stuck hc]; exact ⟨hp, fun h => absurd h hc⟩
    obtain ⟨k1, k2, k3⟩ := tokV_ok s hp
    obtain ⟨q1, q2⟩ := rnext_p (st := st) hp
    have hc' : (st.c != 0) = false := by simp [hc]
    simp only [rlevelV, hc', cond_false]
    cases h0 : strIs (tokV s st.p).t [48]
    case true =>
      have z := strIs_size h0
      simp only [cond_true, cond_false]
      refine ⟨q1, fun h => ?_⟩
      obtain ⟨_, _, e⟩ := q2 h
      simp only [List.length_cons, List.length_nil] at z
      refine ⟨hc, ?_, ?_, ?_, by simp [printL]⟩ <;> simp only [e, printL, Lv.size, List.length_cons, List.length_nil] <;> omega
    cases h1 : isNameV (tokV s st.p).t
    case true =>
      simp only [cond_true, cond_false]
      refine ⟨q1, fun h => ?_⟩
      obtain ⟨_, e1, e⟩ := q2 h
      have z := isNo_size e1
      have zz : (tokV s st.p).t.data.toList.length = (tokV s st.p).t.size := Array.length_toList
      refine ⟨hc, ?_, ?_, ?_, ?_⟩
      · simp only [e, printL, zz]; omega
      · simp only [e, Lv.size]; omega
      · simp only [e]; omega
      · simp only [printL]; intro hh; rw [hh] at zz; simp at zz; omega
    cases h2 : strIs (tokV s st.p).t [40]
    case false =>
      simp only [cond_false]
      exact ⟨by rw [rfail_p]; exact hp, fun h => absurd h (rfail_c _ _)⟩
    have z2 := strIs_size h2
    simp only [List.length_cons, List.length_nil] at z2
    simp only [cond_true, cond_false]
    obtain ⟨r1, r2⟩ := rnext_p (s := s) (st := (rnextV s st).2) q1
    have hn2 : (rnextV s (rnextV s st).2).2.c ≠ 0 ∨ s.size - (rnextV s (rnextV s st).2).2.p < n := by
      by_cases hz : (rnextV s (rnextV s st).2).2.c = 0
      · obtain ⟨e1, e2, e3⟩ := r2 hz
        obtain ⟨_, _, e4⟩ := q2 e1
        obtain ⟨m1, _, _⟩ := tokV_ok s q1
        rcases hn with hn | hn
        · exact absurd hc hn
        · have := isNo_size e2; right; omega
      · exact .inl hz
    have tx := rlevel_took s n _ r1 hn2
    have hn3 : (rlevelV n s (rnextV s (rnextV s st).2).2).2.c ≠ 0 ∨ s.size - (rlevelV n s (rnextV s (rnextV s st).2).2).2.p < n := by
      by_cases hz : (rlevelV n s (rnextV s (rnextV s st).2).2).2.c = 0
      · obtain ⟨e1, _, _, e2, _⟩ := tx.ok hz
        rcases hn2 with h | h
        · exact absurd e1 h
        · right; omega
      · exact .inl hz
    have ty := rlevel_took s n _ tx.le hn3
    generalize hX : rlevelV n s (rnextV s (rnextV s st).2).2 = X at tx ty hn3
    generalize hY : rlevelV n s X.2 = Y at ty
    have b41 : (ba [41]).toList = [41] := by rw [ByteArray.toList_eq]; rfl
    have one : ∀ (f : Lv → Lv) (w : List UInt8), (∀ l, (printL (f l)).length = (printL l).length + w.length + 3 ∧ (f l).size = l.size + 1 ∧ printL (f l) ≠ []) → strIs (tokV s (rnextV s st).2.p).t w = true → w.length ≥ 1 → Took s st (f X.1, rtakeV s X.2 (ba [41])) := by
      intro f w hf hw hwl
      obtain ⟨t1, t2⟩ := rtake_p (w := ba [41]) tx.le
      refine ⟨t1, fun h => ?_⟩
      obtain ⟨u1, u2, u3⟩ := t2 h
      obtain ⟨v1, v2, v3, v4, v5⟩ := tx.ok u1
      obtain ⟨w1, w2, w3⟩ := r2 v1
      obtain ⟨x1, x2, x3⟩ := q2 w1
      obtain ⟨m1, _, _⟩ := tokV_ok s q1
      obtain ⟨m2, _, _⟩ := tokV_ok s tx.le
      have z4 := strIs_size hw
      have z5 : (tokV s X.2.p).t.size = 1 := by
        have := strIs_size (l := [41]) (t := (tokV s X.2.p).t) (by simp [strIs, u2])
        simpa using this
      obtain ⟨g1, g2, g3⟩ := hf X.1
      simp only
      refine ⟨hc, ?_, ?_, ?_, g3⟩ <;> (try rw [g1]) <;> (try rw [g2]) <;> omega
    have two : ∀ (f : Lv → Lv → Lv) (w : List UInt8), (∀ l m, (printL (f l m)).length = (printL l).length + (printL m).length + w.length + 4 ∧ (f l m).size = l.size + m.size + 1 ∧ printL (f l m) ≠ []) → strIs (tokV s (rnextV s st).2.p).t w = true → w.length ≥ 1 → Took s st (f X.1 Y.1, rtakeV s Y.2 (ba [41])) := by
      intro f w hf hw hwl
      obtain ⟨t1, t2⟩ := rtake_p (w := ba [41]) ty.le
      refine ⟨t1, fun h => ?_⟩
      obtain ⟨u1, u2, u3⟩ := t2 h
      obtain ⟨y1, y2, y3, y4, y5⟩ := ty.ok u1
      obtain ⟨v1, v2, v3, v4, v5⟩ := tx.ok y1
      obtain ⟨w1, w2, w3⟩ := r2 v1
      obtain ⟨x1, x2, x3⟩ := q2 w1
      obtain ⟨m1, _, _⟩ := tokV_ok s q1
      obtain ⟨m2, _, _⟩ := tokV_ok s ty.le
      have z4 := strIs_size hw
      have z5 : (tokV s Y.2.p).t.size = 1 := by
        have := strIs_size (l := [41]) (t := (tokV s Y.2.p).t) (by simp [strIs, u2])
        simpa using this
      obtain ⟨g1, g2, g3⟩ := hf X.1 Y.1
      simp only
      refine ⟨hc, ?_, ?_, ?_, g3⟩ <;> (try rw [g1]) <;> (try rw [g2]) <;> omega
    simp only [lvP, lv1, lv2, hX, hY]
    cases h3 : strIs (tokV s (rnextV s st).2.p).t [115]
    case true => exact one .succ [115] (fun l => ⟨by simp [printL] <;> omega, rfl, by simp [printL]⟩) h3 (by simp)
    cases h4 : strIs (tokV s (rnextV s st).2.p).t [109, 97, 120]
    case true => exact two .max [109, 97, 120] (fun l m => ⟨by simp [printL]; omega, rfl, by simp [printL]⟩) h4 (by simp)
    cases h5 : strIs (tokV s (rnextV s st).2.p).t [105, 109, 97, 120]
    case true => exact two .imax [105, 109, 97, 120] (fun l m => ⟨by simp [printL]; omega, rfl, by simp [printL]⟩) h5 (by simp)
    exact ⟨by simp only [cond_false]; rw [rfail_p]; exact q1, fun h => absurd h (by simp only [cond_false]; exact rfail_c _ _)⟩

theorem lv0 : V.agg [.int .i64 0, .str (ByteArray.mk #[]), .slice 3 90 []] = V.agg [.int .i64 Lv.zero.kind, .str Lv.zero.name, .slice 3 90 Lv.zero.args] := rfl
theorem rlevel_law {r : Nat} {s : ByteArray} (hs : s.size < 2 ^ 61) : ∀ (n : Nat) (st : RS) (σ : Sto), σ[r]? = some (st.cells s) → st.p ≤ s.size → (st.c ≠ 0 ∨ s.size - st.p < n) → 0 < n →
    lim C 51 [(.ptr 62 r 0, false)] σ = some (.ret [(.agg [.int .i64 (rlevelV n s st).1.kind, .str (rlevelV n s st).1.name, .slice 3 90 (rlevelV n s st).1.args], false)], σ.set r ((rlevelV n s st).2.cells s))
  | 0, st, σ, h, hp, hn, h0 => by omega
  | n + 1, st, σ, h, hp, hn, _ => rlevel_lim (n := 0) <| by
    have ht := token_law h hs hp
    have hi := isName_law (tokV s st.p).t σ
    simp only [rlevel, rlevelF, callK_ret3 ht rfl, tok0, tok1, tok2, callK_ret1 hi, rd2 h, V.asInt, V.asStr, if_true, Option.bind_some, List.getD_cons_zero, V.asBool]
    by_cases hc : st.c = 0
    case neg =>
      have h2 : (st.c != 0) = true := by simpa using hc
      rw [rlevel_stuck hc]
      simp only [h2, cond_true, rset_same h]
      rfl
    obtain ⟨q1, q2⟩ := rnext_p (st := st) hp
    obtain ⟨r1, r2⟩ := rnext_p (s := s) (st := (rnextV s st).2) q1
    have hc' : (st.c != 0) = false := by simp [hc]
    have hnx := rnext_law h hs hp
    have hg1 : (σ.set r ((rnextV s st).2.cells s))[r]? = some ((rnextV s st).2.cells s) := set_get h
    have e48 : ∀ t : ByteArray, (t.toList == (ByteArray.mk #[48]).toList) = strIs t [48] := fun _ => rfl
    have e40 : ∀ t : ByteArray, (t.toList == (ByteArray.mk #[40]).toList) = strIs t [40] := fun _ => rfl
    have e115 : ∀ t : ByteArray, (t.toList == (ByteArray.mk #[115]).toList) = strIs t [115] := fun _ => rfl
    have emax : ∀ t : ByteArray, (t.toList == (ByteArray.mk #[109, 97, 120]).toList) = strIs t [109, 97, 120] := fun _ => rfl
    have eimax : ∀ t : ByteArray, (t.toList == (ByteArray.mk #[105, 109, 97, 120]).toList) = strIs t [105, 109, 97, 120] := fun _ => rfl
    have e41 : ByteArray.mk #[41] = ba [41] := rfl
    have hr1 : room (0 + 1) = true := by decide
    have hr2 : room (1 + 1) = true := by decide
    simp only [hc', cond_false, callK_ret1 hnx, e48, e40, e115, emax, eimax, e41, hr1, hr2]
    have ht2 := token_law hg1 hs q1
    simp only [callK_ret3 ht2 rfl, tok0, tok1, V.asStr, Option.bind_some]
    have hnx2 := rnext_law hg1 hs q1
    rw [List.set_set] at hnx2
    have hg2 : (σ.set r ((rnextV s (rnextV s st).2).2.cells s))[r]? = some ((rnextV s (rnextV s st).2).2.cells s) := set_get h
    have hf1 := rfail_law h (tokV s st.p).at_
    have hf2 := rfail_law hg1 (tokV s (rnextV s st).2.p).at_
    rw [List.set_set] at hf2
    simp only [callK_ret1 hnx2, callK_ret0 hf1, callK_ret0 hf2]
    simp only [rlevelV, hc', cond_false]
    cases h0 : strIs (tokV s st.p).t [48]
    case true => rfl
    cases h1 : isNameV (tokV s st.p).t
    case true => rfl
    cases h2 : strIs (tokV s st.p).t [40]
    case false => rfl
    simp only [cond_true, cond_false]
    have z2 := strIs_size h2
    simp only [List.length_cons, List.length_nil] at z2
    obtain ⟨k1, k2, k3⟩ := tokV_ok s hp
    have hn2 : (rnextV s (rnextV s st).2).2.c ≠ 0 ∨ s.size - (rnextV s (rnextV s st).2).2.p < n := by
      by_cases hz : (rnextV s (rnextV s st).2).2.c = 0
      · obtain ⟨e1, e2, e3⟩ := r2 hz
        obtain ⟨_, _, e4⟩ := q2 e1
        obtain ⟨m1, _, _⟩ := tokV_ok s q1
        rcases hn with hn | hn
        · exact absurd hc hn
        · have := isNo_size e2; right; omega
      · exact .inl hz
    have hn0 : 0 < n := by
      rcases hn with hn | hn
      · exact absurd hc hn
      · omega
    have tx := rlevel_took s n _ r1 hn2
    have hn3 : (rlevelV n s (rnextV s (rnextV s st).2).2).2.c ≠ 0 ∨ s.size - (rlevelV n s (rnextV s (rnextV s st).2).2).2.p < n := by
      by_cases hz : (rlevelV n s (rnextV s (rnextV s st).2).2).2.c = 0
      · obtain ⟨e1, _, _, e2, _⟩ := tx.ok hz
        rcases hn2 with h | h
        · exact absurd e1 h
        · right; omega
      · exact .inl hz
    have ty := rlevel_took s n _ tx.le hn3
    have hx := rlevel_law hs n _ _ hg2 r1 hn2 hn0
    rw [List.set_set] at hx
    have hg3 : (σ.set r ((rlevelV n s (rnextV s (rnextV s st).2).2).2.cells s))[r]? = some ((rlevelV n s (rnextV s (rnextV s st).2).2).2.cells s) := set_get h
    have hy := rlevel_law hs n _ _ hg3 tx.le hn3 hn0
    rw [List.set_set] at hy
    simp only [lvP, lv1, lv2]
    generalize rlevelV n s (rnextV s (rnextV s st).2).2 = X at tx hx hg3 hn3 hy ty ⊢
    generalize rlevelV n s X.2 = Y at hy ty ⊢
    have hg4 : (σ.set r (Y.2.cells s))[r]? = some (Y.2.cells s) := set_get h
    have htx := rtake_law hg3 hs tx.le (ba [41])
    have hty := rtake_law hg4 hs ty.le (ba [41])
    rw [List.set_set] at htx hty
    simp only [callK_ret1 hx, callK_ret1 hy, callK_ret0 htx, callK_ret0 hty, List.getD_cons_zero, fits_lv, cell_lv, grd, Bool.and_self, cond_true, Option.bind_some]
    cases h3 : strIs (tokV s (rnextV s st).2.p).t [115]
    case true => rfl
    cases h4 : strIs (tokV s (rnextV s st).2.p).t [109, 97, 120]
    case true => rfl
    cases h5 : strIs (tokV s (rnextV s st).2.p).t [105, 109, 97, 120]
    case true => rfl
    rfl

/-- What is parsed: the level, the fault's code and place. -/
def parseV (s : ByteArray) : Lv × Int × Int :=
  bif decide ((s.size : Int) > 20000) then (.zero, 2, 0) else
  let x := rlevelV (s.size + 1) s ⟨0, 0, 0⟩
  let d := rdoneV s x.2
  bif d.c != 0 then (.zero, d.c, d.a) else (x.1, d.c, d.a)
theorem parseV_ok {s : ByteArray} (h : (parseV s).2.1 = 0) : (printL (parseV s).1).length ≤ 2 * s.size ∧ (parseV s).1.size ≤ s.size ∧ printL (parseV s).1 ≠ [] ∧ s.size ≤ 20000 := by
  unfold parseV at *
  cases hb : decide ((s.size : Int) > 20000)
  · rw [hb] at h
    have tk := rlevel_took s (s.size + 1) ⟨0, 0, 0⟩ (by simp) (.inr (by simp))
    simp only [cond_false] at h ⊢
    have hb' : s.size ≤ 20000 := by have := of_decide_eq_false hb; omega
    cases hd : (rdoneV s (rlevelV (s.size + 1) s ⟨0, 0, 0⟩).2).c != 0
    · rw [hd] at h
      simp only [cond_false] at h ⊢
      have hc : (rlevelV (s.size + 1) s ⟨0, 0, 0⟩).2.c = 0 := by
        have hd' : (rdoneV s (rlevelV (s.size + 1) s ⟨0, 0, 0⟩).2).c = 0 := h
        simp only [rdoneV] at hd'
        cases hx : (!(tokV s (rlevelV (s.size + 1) s ⟨0, 0, 0⟩).2.p).ok || !isNo (tokV s (rlevelV (s.size + 1) s ⟨0, 0, 0⟩).2.p).t)
        · rw [hx] at hd'; exact hd'
        · rw [hx] at hd'; exact absurd hd' (rfail_c _ _)
      obtain ⟨_, a1, a2, a3, a4⟩ := tk.ok hc
      have := tk.le
      simp only at a1 a2 a3
      exact ⟨by omega, by omega, a4, hb'⟩
    · rw [hd] at h
      simp only [cond_true] at h
      rw [h] at hd; simp at hd
  · rw [hb] at h
    simp at h
end Go.Ab.Mk
end
section
namespace Go.Ab.Mk
open Go.Proofs Go.Ab

inductive Tm where
  | var (n : Nat)
  | sort (l : Lv)
  | const (s : ByteArray) (ls : List Lv)
  | app (a b : Tm)
  | lam (a b : Tm)
  | pi (a b : Tm)
  | letin (a b c : Tm)
  deriving Inhabited
def Tm.kind : Tm → Int
  | .var _ => 0 | .sort _ => 1 | .const .. => 2 | .app .. => 3 | .lam .. => 4 | .pi .. => 5 | .letin .. => 6
def Tm.num : Tm → Nat
  | .var n => n
  | _ => 0
def Tm.name : Tm → ByteArray
  | .const s _ => s
  | _ => ByteArray.mk #[]
def Tm.lvs : Tm → List Lv
  | .sort l => [l]
  | .const _ ls => ls
  | _ => []
def Tm.kids : Tm → List Tm
  | .app a b => [a, b]
  | .lam a b => [a, b]
  | .pi a b => [a, b]
  | .letin a b c => [a, b, c]
  | _ => []
def tmCells (k n : Int) (s : ByteArray) (ls : List Lv) (es : List (List V)) : List V := [.int .i64 k, .int .i64 n, .str s, .slice 3 90 (ls.map Lv.enc), .slice 5 30 es]
def Tm.enc : Tm → List V
  | .var n => tmCells 0 n (ByteArray.mk #[]) [] []
  | .sort l => tmCells 1 0 (ByteArray.mk #[]) [l] []
  | .const s ls => tmCells 2 0 s ls []
  | .app a b => tmCells 3 0 (ByteArray.mk #[]) [] [a.enc, b.enc]
  | .lam a b => tmCells 4 0 (ByteArray.mk #[]) [] [a.enc, b.enc]
  | .pi a b => tmCells 5 0 (ByteArray.mk #[]) [] [a.enc, b.enc]
  | .letin a b c => tmCells 6 0 (ByteArray.mk #[]) [] [a.enc, b.enc, c.enc]
def Tm.args (t : Tm) : List (List V) := t.kids.map Tm.enc
def Tm.val (t : Tm) : V := .agg [.int .i64 t.kind, .int .i64 t.num, .str t.name, .slice 3 90 (t.lvs.map Lv.enc), .slice 5 30 t.args]
theorem Tm.enc_eq (t : Tm) : t.enc = [.int .i64 t.kind, .int .i64 t.num, .str t.name, .slice 3 90 (t.lvs.map Lv.enc), .slice 5 30 t.args] := by cases t <;> rfl
theorem Tm.enc_len (t : Tm) : t.enc.length = 5 := by cases t <;> rfl
theorem Tm.ind {P : Tm → Prop} (h : ∀ t, (∀ c ∈ t.kids, P c) → P t) : ∀ t, P t
  | .var _ => h _ (by simp [Tm.kids])
  | .sort _ => h _ (by simp [Tm.kids])
  | .const .. => h _ (by simp [Tm.kids])
  | .app a b => h _ (by simp only [Tm.kids, List.mem_cons, List.not_mem_nil, or_false]; rintro c (rfl | rfl) <;> exact Tm.ind h _)
  | .lam a b => h _ (by simp only [Tm.kids, List.mem_cons, List.not_mem_nil, or_false]; rintro c (rfl | rfl) <;> exact Tm.ind h _)
  | .pi a b => h _ (by simp only [Tm.kids, List.mem_cons, List.not_mem_nil, or_false]; rintro c (rfl | rfl) <;> exact Tm.ind h _)
  | .letin a b d => h _ (by simp only [Tm.kids, List.mem_cons, List.not_mem_nil, or_false]; rintro c (rfl | rfl | rfl) <;> exact Tm.ind h _)

/-! Numbers. -/
/-- The value of a row of digits, from a place on. -/
def numFrom (s : ByteArray) (i : Nat) (acc : Nat) : Nat := if i < s.size then numFrom s (i + 1) (10 * acc + ((byteAt s i).toNat - 48)) else acc
termination_by s.size - i
theorem numFrom_go {s : ByteArray} {i acc : Nat} (h : i < s.size) : numFrom s i acc = numFrom s (i + 1) (10 * acc + ((byteAt s i).toNat - 48)) := by rw [numFrom, if_pos h]
theorem numFrom_end {s : ByteArray} {i acc : Nat} (h : ¬ i < s.size) : numFrom s i acc = acc := by rw [numFrom, if_neg h]
def numV (s : ByteArray) : Nat := numFrom s 0 0
/-- Nothing but digits, and few. -/
structure Digits (s : ByteArray) : Prop where
  pos : 0 < s.size
  few : s.size ≤ 5
  all : ∀ i, i < s.size → isDigit (byteAt s i) = true
theorem Digits.byte {s : ByteArray} (h : Digits s) {i : Nat} (hi : i < s.size) : ∃ n : Nat, byteAt s i = (n : Int) ∧ 48 ≤ n ∧ n ≤ 57 := by
  have := h.all i hi
  simp only [isDigit, Bool.and_eq_true, decide_eq_true_eq] at this
  exact ⟨(byteAt s i).toNat, by omega, by omega, by omega⟩
theorem scan_all {f : Int → Bool} {s : ByteArray} : ∀ (k i : Nat), s.size - i = k → ∀ j, i ≤ j → j < scan f s i → f (byteAt s j) = true
  | k, i, hk, j, h1, h2 => by
    by_cases h : i < s.size ∧ f (byteAt s i) = true
    · rw [scan_go h.1 h.2] at h2
      rcases Nat.eq_or_lt_of_le h1 with rfl | h1
      · exact h.2
      · exact scan_all (k - 1) (i + 1) (by omega) j h1 h2
    · rw [scan_stop h] at h2; omega
theorem byteAt_ext {s : ByteArray} {i q j : Nat} (h : i + j < q) (hq : q ≤ s.size) : byteAt (s.extract i q) j = byteAt s (i + j) := by
  have h1 : (s.extract i q).data.toList.getD j 0 = s.data.toList.getD (i + j) 0 := by
    rw [ByteArray.data_extract]
    simp only [List.getD, Array.getElem?_toList, Array.getElem?_extract]
    have hq' : q ≤ s.data.size := hq
    rw [if_pos (by omega)]
  simp only [byteAt, h1]
/-- A token that begins with '#' is a number behind it. -/
theorem tok_num {s : ByteArray} {p : Nat} (hp : p ≤ s.size) (hok : (tokV s p).ok = true) (h0 : isNo (tokV s p).t = false) (h35 : byteAt (tokV s p).t 0 = 35) : Digits ((tokV s p).t.extract 1 (tokV s p).t.size) := by
  have h1 := le_scan isBlank s p
  have h2 := scan_le (f := isBlank) hp
  unfold tokV at hok h0 h35 ⊢
  generalize scan isBlank s p = i at h1 h2 hok h0 h35 ⊢
  by_cases hi : i = s.size
  · have : tokAt s i = ⟨ByteArray.mk #[], i, true⟩ := by unfold tokAt; simp [hi]
    rw [this] at h0; simp [isNo] at h0
  · have hlt : i < s.size := by omega
    have hz := isNo_size h0
    -- the token begins where it lies
    have hb : ∀ q, i + 1 ≤ q → q ≤ s.size → byteAt (s.extract i q) 0 = byteAt s i := fun q hq1 hq2 => byteAt_ext (by omega) hq2
    unfold tokAt at hok h0 h35 hz ⊢
    have hib : (i == s.size) = false := by simpa using hi
    simp only [hib, cond_false] at hok h0 h35 hz ⊢
    cases e40 : byteAt s i == 40
    case true =>
      simp only [e40, cond_true] at hok h0 h35 hz ⊢
      rw [hb _ (Nat.le_refl _) (by omega)] at h35
      simp only [beq_iff_eq] at e40; omega
    cases e41 : byteAt s i == 41
    case true =>
      simp only [e40, e41, cond_true, cond_false] at hok h0 h35 hz ⊢
      rw [hb _ (Nat.le_refl _) (by omega)] at h35
      simp only [beq_iff_eq] at e41; omega
    simp only [e40, e41, cond_false] at hok h0 h35 hz ⊢
    cases enm : nmByte (byteAt s i) true
    case true =>
      simp only [enm, cond_true] at hok h0 h35 hz ⊢
      have g1 := le_scan (nmByte · false) s (i + 1)
      have g2 := scan_le (f := (nmByte · false)) (s := s) (i := i + 1) (by omega)
      generalize scan (nmByte · false) s (i + 1) = q at g1 g2 hok h0 h35 hz ⊢
      unfold nmTok at hok h0 h35 hz ⊢
      cases e : decide (q - i > 40)
      · simp only [e, cond_false] at hok h0 h35 hz ⊢
        rw [hb q g1 g2] at h35
        rw [h35] at enm
        exact absurd enm (by decide)
      · simp [e, Tok.no] at hok
    simp only [enm, cond_false] at hok h0 h35 hz ⊢
    cases e35 : (byteAt s i == 35 || isDigit (byteAt s i))
    case false => simp [e35, Tok.no] at hok
    simp only [e35, cond_true] at hok h0 h35 hz ⊢
    have g1 := le_scan isDigit s (i + 1)
    have g2 := scan_le (f := isDigit) (s := s) (i := i + 1) (by omega)
    have g3 := scan_all (f := isDigit) (s := s) _ (i + 1) rfl
    generalize scan isDigit s (i + 1) = q at g1 g2 g3 hok h0 h35 hz ⊢
    have hok' : (numTok s i q (byteAt s i)) = ⟨s.extract i q, i, true⟩ ∧ (byteAt s i = 35 → 1 ≤ q - (i + 1) ∧ q - (i + 1) ≤ 5) := by
      simp only [numTok] at hok ⊢
      generalize hd : (bif byteAt s i == 35 then i + 1 else i) = d at hok ⊢
      cases c1 : q == d
      · cases c2 : decide (q - d > 5)
        · cases c3 : (decide (q - d > 1) && byteAt s d == 48)
          · refine ⟨rfl, fun h => ?_⟩
            simp only [h, beq_self_eq_true, cond_true] at hd
            subst hd
            simp at c1 c2
            omega
          · simp [c1, c2, c3, Tok.no] at hok
        · simp [c1, c2, Tok.no] at hok
      · simp [c1, Tok.no] at hok
    rw [hok'.1] at h35 ⊢
    simp only at h35 ⊢
    rw [hb q g1 g2] at h35
    obtain ⟨f1, f2⟩ := hok'.2 h35
    have hsz : (s.extract i q).size = q - i := by rw [ByteArray.size_extract]; omega
    have hsz2 : ((s.extract i q).extract 1 (s.extract i q).size).size = q - (i + 1) := by rw [ByteArray.size_extract]; omega
    refine ⟨by rw [hsz2]; omega, by rw [hsz2]; omega, fun j hj => ?_⟩
    rw [hsz2] at hj
    rw [byteAt_ext (by rw [hsz]; omega) (Nat.le_refl _), byteAt_ext (by omega) g2]
    exact g3 _ (by omega) (by omega)
theorem num_lt {s : ByteArray} (h : Digits s) : ∀ (k i acc : Nat), s.size - i = k → numFrom s i acc + 1 ≤ (acc + 1) * 10 ^ k
  | 0, i, acc, hk => by rw [numFrom_end (by omega)]; simp
  | k + 1, i, acc, hk => by
    rw [numFrom_go (by omega)]
    have := num_lt h k (i + 1) (10 * acc + ((byteAt s i).toNat - 48)) (by omega)
    obtain ⟨n, h1, h2, h3⟩ := h.byte (i := i) (by omega)
    refine Nat.le_trans this ?_
    rw [h1, Nat.pow_succ, Nat.mul_comm (10 ^ k) 10, ← Nat.mul_assoc]
    refine Nat.mul_le_mul_right _ ?_
    simp; omega

/-! What the reference reads. -/
def wordIx (t : ByteArray) : Nat :=
  bif strIs t [115, 111, 114, 116] then 1 else bif strIs t [99, 111, 110, 115, 116] then 2 else bif strIs t [97, 112, 112] then 3 else
  bif strIs t [108, 97, 109] then 4 else bif strIs t [112, 105] then 5 else bif strIs t [108, 101, 116] then 6 else 0
def rnameV (s : ByteArray) (st : RS) : ByteArray × RS :=
  let k := tokV s st.p
  let st1 := bif !k.ok || !isNameV k.t then rfailV st k.at_ else st
  bif st1.c != 0 then (ByteArray.mk #[], st1) else (k.t, ⟨k.at_ + k.t.size, st1.c, st1.a⟩)
/-- Levels up to the closing sign. -/
def rlvsV : Nat → ByteArray → RS → List Lv × RS
  | 0, _, st => ([], st)
  | n + 1, s, st =>
    bif st.c != 0 then ([], st) else
    bif strIs (tokV s st.p).t [41] then ([], st) else
    let x := rlevelV (s.size + 1) s st
    let y := rlvsV n s x.2
    (x.1 :: y.1, y.2)
def tm2 (rec : RS → Tm × RS) (s : ByteArray) (f : Tm → Tm → Tm) (st : RS) : Tm × RS := (f (rec st).1 (rec (rec st).2).1, rtakeV s (rec (rec st).2).2 (ba [41]))
def tm3 (rec : RS → Tm × RS) (s : ByteArray) (f : Tm → Tm → Tm → Tm) (st : RS) : Tm × RS :=
  (f (rec st).1 (rec (rec st).2).1 (rec (rec (rec st).2).2).1, rtakeV s (rec (rec (rec st).2).2).2 (ba [41]))
def tmB (rec : RS → Tm × RS) (s : ByteArray) (k : Nat) (st : RS) : Tm × RS :=
  match k with
  | 1 => (.sort (rlevelV (s.size + 1) s st).1, rtakeV s (rlevelV (s.size + 1) s st).2 (ba [41]))
  | 2 => (.const (rnameV s st).1 (rlvsV (s.size + 10) s (rnameV s st).2).1, rtakeV s (rlvsV (s.size + 10) s (rnameV s st).2).2 (ba [41]))
  | 3 => tm2 rec s .app st
  | 4 => tm2 rec s .lam st
  | 5 => tm2 rec s .pi st
  | _ => tm3 rec s .letin st
def tmP (rec : RS → Tm × RS) (s : ByteArray) (st : RS) : Tm × RS :=
  bif wordIx (tokV s st.p).t == 0 then (.var 0, rfailV st (tokV s st.p).at_) else tmB rec s (wordIx (tokV s st.p).t) (rnextV s st).2
def badTok (k : Tok) : Bool := !k.ok || (isNo k.t || (!(byteAt k.t 0 == 35) && !strIs k.t [40]))
def rtermV : Nat → ByteArray → RS → Tm × RS
  | 0, _, st => (.var 0, st)
  | n + 1, s, st =>
    bif st.c != 0 then (.var 0, st) else
    bif badTok (tokV s st.p) then (.var 0, rfailV st (tokV s st.p).at_) else
    bif strIs (tokV s st.p).t [40] then tmP (rtermV n s) s (rnextV s st).2 else
    (.var (numV ((tokV s st.p).t.extract 1 (tokV s st.p).t.size)), (rnextV s st).2)

theorem rterm_stuck {n : Nat} {s : ByteArray} {st : RS} (h : st.c ≠ 0) : rtermV n s st = (.var 0, st) := by
  cases n with
  | zero => rfl
  | succ n =>
    have h2 : (st.c != 0) = true := by simpa using h
    rw [rtermV, h2]; rfl
theorem rlvs_stuck {n : Nat} {s : ByteArray} {st : RS} (h : st.c ≠ 0) : rlvsV n s st = ([], st) := by
  cases n with
  | zero => rfl
  | succ n =>
    have h2 : (st.c != 0) = true := by simpa using h
    rw [rlvsV, h2]; rfl
/-- What is taken of the text. -/
structure Gone (s : ByteArray) (st st' : RS) : Prop where
  le : st'.p ≤ s.size
  ok : st'.c = 0 → st.c = 0 ∧ st.p ≤ st'.p
structure Goes (s : ByteArray) (st st' : RS) : Prop where
  le : st'.p ≤ s.size
  ok : st'.c = 0 → st.c = 0 ∧ st.p < st'.p
theorem Goes.gone {s : ByteArray} {a b : RS} (h : Goes s a b) : Gone s a b := ⟨h.le, fun e => ⟨(h.ok e).1, Nat.le_of_lt (h.ok e).2⟩⟩
theorem Goes.trans {s : ByteArray} {a b c : RS} (h : Goes s a b) (k : Gone s b c) : Goes s a c := ⟨k.le, fun e => ⟨(h.ok (k.ok e).1).1, by have := (h.ok (k.ok e).1).2; have := (k.ok e).2; omega⟩⟩
theorem Gone.trans {s : ByteArray} {a b c : RS} (h : Gone s a b) (k : Gone s b c) : Gone s a c := ⟨k.le, fun e => ⟨(h.ok (k.ok e).1).1, by have := (h.ok (k.ok e).1).2; have := (k.ok e).2; omega⟩⟩
theorem Gone.refl {s : ByteArray} {a : RS} (h : a.p ≤ s.size) : Gone s a a := ⟨h, fun e => ⟨e, Nat.le_refl _⟩⟩
theorem rfail_gone {s : ByteArray} {st : RS} (h : st.p ≤ s.size) (i : Nat) : Goes s st (rfailV st i) := ⟨by rw [rfail_p]; exact h, fun e => absurd e (rfail_c _ _)⟩
theorem rnext_goes {s : ByteArray} {st : RS} (h : st.p ≤ s.size) : Goes s st (rnextV s st).2 := by
  obtain ⟨a, b⟩ := rnext_p h
  refine ⟨a, fun e => ?_⟩
  obtain ⟨c, d, f⟩ := b e
  have := isNo_size d
  have := (tokV_ok s h).ge
  exact ⟨c, by omega⟩
theorem rtake_gone {s : ByteArray} {st : RS} (h : st.p ≤ s.size) (w : ByteArray) : Gone s st (rtakeV s st w) := by
  obtain ⟨k1, k2, k3⟩ := tokV_ok s h
  unfold rtakeV
  by_cases hc : st.c = 0
  · simp only
    cases hx : (!(tokV s st.p).ok || !((tokV s st.p).t.toList == w.toList))
    · simp only [cond_false, hc, beq_self_eq_true, cond_true]
      exact ⟨by simpa using k2, fun _ => ⟨hc, by simp only; omega⟩⟩
    · have hf : ((rfailV st (tokV s st.p).at_).c == 0) = false := by simpa using rfail_c st (tokV s st.p).at_
      simp only [cond_true, hf, cond_false]
      exact (rfail_gone h _).gone
  · have h1 : (st.c == 0) = false := by simpa using hc
    have : rfailV st (tokV s st.p).at_ = st := by unfold rfailV; rw [h1]; rfl
    simp only [this]
    cases (!(tokV s st.p).ok || !((tokV s st.p).t.toList == w.toList)) <;> simp only [cond_true, cond_false, h1] <;> exact Gone.refl h
theorem rname_goes {s : ByteArray} {st : RS} (h : st.p ≤ s.size) : Goes s st (rnameV s st).2 := by
  obtain ⟨k1, k2, k3⟩ := tokV_ok s h
  unfold rnameV
  by_cases hc : st.c = 0
  · simp only
    cases hx : (!(tokV s st.p).ok || !isNameV (tokV s st.p).t)
    · simp only [cond_false, hc, bne_self_eq_false]
      refine ⟨by simpa using k2, fun _ => ⟨hc, ?_⟩⟩
      simp only [Bool.or_eq_false_iff, Bool.not_eq_false', isNameV, Bool.and_eq_true, Bool.not_eq_true'] at hx
      have := isNo_size hx.2.1
      simp only; omega
    · have hf : ((rfailV st (tokV s st.p).at_).c != 0) = true := by simpa using rfail_c st (tokV s st.p).at_
      simp only [cond_true, hf]
      exact rfail_gone h _
  · have h1 : (st.c == 0) = false := by simpa using hc
    have h2 : (st.c != 0) = true := by simpa using hc
    have : rfailV st (tokV s st.p).at_ = st := by unfold rfailV; rw [h1]; rfl
    simp only [this]
    cases (!(tokV s st.p).ok || !isNameV (tokV s st.p).t) <;> simp only [cond_true, cond_false, h2] <;> exact ⟨h, fun e => absurd e hc⟩
theorem rlevel_goes {s : ByteArray} {st : RS} (h : st.p ≤ s.size) : Goes s st (rlevelV (s.size + 1) s st).2 := by
  have := rlevel_took s (s.size + 1) st h (.inr (by omega))
  exact ⟨this.le, fun e => ⟨(this.ok e).1, (this.ok e).2.2.2.1⟩⟩
theorem rlvs_gone (s : ByteArray) : ∀ (n : Nat) (st : RS), st.p ≤ s.size → Gone s st (rlvsV n s st).2
  | 0, st, h => Gone.refl h
  | n + 1, st, h => by
    unfold rlvsV
    cases st.c != 0
    · cases strIs (tokV s st.p).t [41]
      · exact (rlevel_goes h).gone.trans (rlvs_gone s n _ (rlevel_goes h).le)
      · exact Gone.refl h
    · exact Gone.refl h
theorem rterm_goes (s : ByteArray) : ∀ (n : Nat) (st : RS), st.p ≤ s.size → (st.c ≠ 0 ∨ s.size - st.p < n) → Goes s st (rtermV n s st).2
  | 0, st, hp, hn => ⟨hp, fun h => by rcases hn with hn | hn; exact absurd h hn; omega⟩
  | n + 1, st, hp, hn => by
    by_cases hc : st.c = 0
    case neg => rw [rterm_stuck hc]; exact ⟨hp, fun h => absurd h hc⟩
    have hc' : (st.c != 0) = false := by simp [hc]
    have g1 := rnext_goes hp
    simp only [rtermV, hc', cond_false]
    cases badTok (tokV s st.p)
    case true => exact rfail_gone hp _
    cases strIs (tokV s st.p).t [40]
    case false => exact g1
    simp only [cond_true, cond_false, tmP]
    cases wordIx (tokV s (rnextV s st).2.p).t == 0
    case true => exact g1.trans (rfail_gone g1.le _).gone
    have g2 := g1.trans (rnext_goes g1.le).gone
    simp only [cond_false]
    have hn2 : ∀ st', Goes s st st' → st'.c ≠ 0 ∨ s.size - st'.p < n := by
      intro st' h
      by_cases hz : st'.c = 0
      · have := (h.ok hz).2
        have := h.le
        rcases hn with hn | hn
        · exact absurd hc hn
        · right; omega
      · exact .inl hz
    generalize (rnextV s (rnextV s st).2).2 = st2 at g2
    have k1 : Goes s st (rtermV n s st2).2 := g2.trans (rterm_goes s n st2 g2.le (hn2 _ g2)).gone
    have k2 : Goes s st (rtermV n s (rtermV n s st2).2).2 := k1.trans (rterm_goes s n _ k1.le (hn2 _ k1)).gone
    have k3 : Goes s st (rtermV n s (rtermV n s (rtermV n s st2).2).2).2 := k2.trans (rterm_goes s n _ k2.le (hn2 _ k2)).gone
    unfold tmB
    split
    · have := g2.trans (rlevel_goes g2.le).gone
      exact this.trans (rtake_gone this.le _)
    · have := (g2.trans (rname_goes g2.le).gone)
      have := this.trans (rlvs_gone s (s.size + 10) _ this.le)
      exact this.trans (rtake_gone this.le _)
    · exact k2.trans (rtake_gone k2.le _)
    · exact k2.trans (rtake_gone k2.le _)
    · exact k2.trans (rtake_gone k2.le _)
    · exact k3.trans (rtake_gone k3.le _)
/-- What is parsed: the term, the fault's code and place. -/
def tparseV (s : ByteArray) : Tm × Int × Int :=
  bif decide ((s.size : Int) > 20000) then (.var 0, 2, 0) else
  let x := rtermV (s.size + 1) s ⟨0, 0, 0⟩
  let d := rdoneV s x.2
  bif d.c != 0 then (.var 0, d.c, d.a) else (x.1, d.c, d.a)
end Go.Ab.Mk
end
