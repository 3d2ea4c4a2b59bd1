/- The plain laws: the reader's levels. -/
import Derived.Test.YtcpdcpgblcapeaaDoorLvF
import Derived.Laws.Strings
set_option linter.unusedSimpArgs false
set_option linter.unusedVariables false
set_option linter.deprecated false
namespace Go.Ab.Mk
open Go.Proofs Go.Ab

def strIs (t : ByteArray) (l : List UInt8) : Bool := t.toList == (ba l).toList
def lv1 (rec : RS → Lv × RS) (s : ByteArray) (f : Lv → Lv) (st : RS) : Lv × RS := (f (rec st).1, rtakeV s (rec st).2 (ba [41]))
def lv2 (rec : RS → Lv × RS) (s : ByteArray) (f : Lv → Lv → Lv) (st : RS) : Lv × RS := (f (rec st).1 (rec (rec st).2).1, rtakeV s (rec (rec st).2).2 (ba [41]))
def lvP (rec : RS → Lv × RS) (s : ByteArray) (st : RS) : Lv × RS :=
  bif strIs (tokV s st.p).t [115] then lv1 rec s .succ (rnextV s st).2 else
  bif strIs (tokV s st.p).t [109, 97, 120] then lv2 rec s .max (rnextV s st).2 else
  bif strIs (tokV s st.p).t [105, 109, 97, 120] then lv2 rec s .imax (rnextV s st).2 else (.zero, rfailV st (tokV s st.p).at_)
/-- The next level, to a depth. -/
def rlevelV : Nat → ByteArray → RS → Lv × RS
  | 0, _, st => (.zero, st)
  | n + 1, s, st =>
    bif st.c != 0 then (.zero, st) else
    bif strIs (tokV s st.p).t [48] then (.zero, (rnextV s st).2) else
    bif isNameV (tokV s st.p).t then (.param (tokV s st.p).t, (rnextV s st).2) else
    bif strIs (tokV s st.p).t [40] then lvP (rlevelV n s) s (rnextV s st).2 else (.zero, rfailV st (tokV s st.p).at_)

theorem rfail_p (st : RS) (i : Nat) : (rfailV st i).p = st.p := by unfold rfailV; cases st.c == 0 <;> rfl
theorem rfail_c (st : RS) (i : Nat) : (rfailV st i).c ≠ 0 := by
  unfold rfailV
  cases h : st.c == 0
  · simpa using h
  · simp
theorem rnext_stuck {s : ByteArray} {st : RS} (h : st.c ≠ 0) : rnextV s st = (ByteArray.mk #[], st) := by
  have h1 : (st.c == 0) = false := by simpa using h
  have h2 : (st.c != 0) = true := by simpa using h
  unfold rnextV rfailV
  simp only [h1, cond_false]
  cases (!(tokV s st.p).ok || isNo (tokV s st.p).t) <;> simp only [cond_true, cond_false, h2]
theorem rnext_p {s : ByteArray} {st : RS} (hp : st.p ≤ s.size) : (rnextV s st).2.p ≤ s.size ∧ ((rnextV s st).2.c = 0 → st.c = 0 ∧ isNo (tokV s st.p).t = false ∧ (rnextV s st).2.p = (tokV s st.p).at_ + (tokV s st.p).t.size) := by
  obtain ⟨k1, k2, k3⟩ := tokV_ok s hp
  by_cases hc : st.c = 0
  · unfold rnextV rfailV
    simp only [hc, beq_self_eq_true, cond_true, bne_self_eq_false]
    cases hx : (!(tokV s st.p).ok || isNo (tokV s st.p).t)
    · simp only [cond_false, hc, bne_self_eq_false]
      simp only [Bool.or_eq_false_iff] at hx
      exact ⟨by omega, fun _ => ⟨trivial, hx.2, by first | rfl | trivial⟩⟩
    · simp only [cond_true]
      exact ⟨hp, fun h => by simp at h⟩
  · rw [rnext_stuck hc]
    exact ⟨hp, fun h => absurd h hc⟩
theorem rtake_p {s : ByteArray} {st : RS} {w : ByteArray} (hp : st.p ≤ s.size) : (rtakeV s st w).p ≤ s.size ∧ ((rtakeV s st w).c = 0 → st.c = 0 ∧ (tokV s st.p).t.toList = w.toList ∧ (rtakeV s st w).p = (tokV s st.p).at_ + (tokV s st.p).t.size) := by
  obtain ⟨k1, k2, k3⟩ := tokV_ok s hp
  by_cases hc : st.c = 0
  · unfold rtakeV rfailV
    simp only [hc, beq_self_eq_true, cond_true]
    cases hx : (!(tokV s st.p).ok || !((tokV s st.p).t.toList == w.toList))
    · simp only [cond_false, hc, beq_self_eq_true, cond_true]
      simp only [Bool.or_eq_false_iff] at hx
      exact ⟨by omega, fun _ => ⟨trivial, by simpa using hx.2, by first | rfl | trivial⟩⟩
    · simp only [cond_true]
      exact ⟨hp, fun h => by simp at h⟩
  · have h1 : (st.c == 0) = false := by simpa using hc
    have : rtakeV s st w = st := by
      unfold rtakeV rfailV
      simp only [h1, cond_false]
      cases (!(tokV s st.p).ok || !((tokV s st.p).t.toList == w.toList)) <;> simp only [cond_true, cond_false, h1]
    rw [this]
    exact ⟨hp, fun h => absurd h hc⟩
theorem rlevel_stuck {n : Nat} {s : ByteArray} {st : RS} (h : st.c ≠ 0) : rlevelV n s st = (.zero, st) := by
  cases n with
  | zero => rfl
  | succ n =>
    have h2 : (st.c != 0) = true := by simpa using h
    rw [rlevelV, h2]; rfl

theorem strIs_size {t : ByteArray} {l : List UInt8} (h : strIs t l = true) : t.size = l.length := by
  rw [strIs, beq_iff_eq, ByteArray.toList_eq, ByteArray.toList_eq] at h
  have := congrArg List.length h
  show t.data.size = l.length
  rw [← Array.length_toList, this]
  simp [ba]
/-- What a level takes of the text; how much it prints. -/
structure Took (s : ByteArray) (st : RS) (x : Lv × RS) : Prop where
  le : x.2.p ≤ s.size
  ok : x.2.c = 0 → st.c = 0 ∧ (printL x.1).length ≤ 2 * (x.2.p - st.p) ∧ x.1.size ≤ x.2.p - st.p ∧ st.p < x.2.p ∧ printL x.1 ≠ []
theorem rlevel_took (s : ByteArray) : ∀ (n : Nat) (st : RS), st.p ≤ s.size → (st.c ≠ 0 ∨ s.size - st.p < n) → Took s st (rlevelV n s st)
  | 0, st, hp, hn => ⟨hp, fun h => by rcases hn with hn | hn; exact absurd h hn; omega⟩
  | n + 1, st, hp, hn => by
    by_cases hc : st.c = 0
    case neg => rw [rlevel_stuck hc]; exact ⟨hp, fun h => absurd h hc⟩
    obtain ⟨k1, k2, k3⟩ := tokV_ok s hp
    obtain ⟨q1, q2⟩ := rnext_p (st := st) hp
    have hc' : (st.c != 0) = false := by simp [hc]
    simp only [rlevelV, hc', cond_false]
    cases h0 : strIs (tokV s st.p).t [48]
    case true =>
      have z := strIs_size h0
      simp only [cond_true, cond_false]
      refine ⟨q1, fun h => ?_⟩
      obtain ⟨_, _, e⟩ := q2 h
      simp only [List.length_cons, List.length_nil] at z
      refine ⟨hc, ?_, ?_, ?_, by simp [printL]⟩ <;> simp only [e, printL, Lv.size, List.length_cons, List.length_nil] <;> omega
    cases h1 : isNameV (tokV s st.p).t
    case true =>
      simp only [cond_true, cond_false]
      refine ⟨q1, fun h => ?_⟩
      obtain ⟨_, e1, e⟩ := q2 h
      have z := isNo_size e1
      have zz : (tokV s st.p).t.data.toList.length = (tokV s st.p).t.size := Array.length_toList
      refine ⟨hc, ?_, ?_, ?_, ?_⟩
      · simp only [e, printL, zz]; omega
      · simp only [e, Lv.size]; omega
      · simp only [e]; omega
      · simp only [printL]; intro hh; rw [hh] at zz; simp at zz; omega
    cases h2 : strIs (tokV s st.p).t [40]
    case false =>
      simp only [cond_false]
      exact ⟨by rw [rfail_p]; exact hp, fun h => absurd h (rfail_c _ _)⟩
    have z2 := strIs_size h2
    simp only [List.length_cons, List.length_nil] at z2
    simp only [cond_true, cond_false]
    obtain ⟨r1, r2⟩ := rnext_p (s := s) (st := (rnextV s st).2) q1
    have hn2 : (rnextV s (rnextV s st).2).2.c ≠ 0 ∨ s.size - (rnextV s (rnextV s st).2).2.p < n := by
      by_cases hz : (rnextV s (rnextV s st).2).2.c = 0
      · obtain ⟨e1, e2, e3⟩ := r2 hz
        obtain ⟨_, _, e4⟩ := q2 e1
        obtain ⟨m1, _, _⟩ := tokV_ok s q1
        rcases hn with hn | hn
        · exact absurd hc hn
        · have := isNo_size e2; right; omega
      · exact .inl hz
    have tx := rlevel_took s n _ r1 hn2
    have hn3 : (rlevelV n s (rnextV s (rnextV s st).2).2).2.c ≠ 0 ∨ s.size - (rlevelV n s (rnextV s (rnextV s st).2).2).2.p < n := by
      by_cases hz : (rlevelV n s (rnextV s (rnextV s st).2).2).2.c = 0
      · obtain ⟨e1, _, _, e2, _⟩ := tx.ok hz
        rcases hn2 with h | h
        · exact absurd e1 h
        · right; omega
      · exact .inl hz
    have ty := rlevel_took s n _ tx.le hn3
    generalize hX : rlevelV n s (rnextV s (rnextV s st).2).2 = X at tx ty hn3
    generalize hY : rlevelV n s X.2 = Y at ty
    have b41 : (ba [41]).toList = [41] := by rw [ByteArray.toList_eq]; rfl
    have one : ∀ (f : Lv → Lv) (w : List UInt8), (∀ l, (printL (f l)).length = (printL l).length + w.length + 3 ∧ (f l).size = l.size + 1 ∧ printL (f l) ≠ []) → strIs (tokV s (rnextV s st).2.p).t w = true → w.length ≥ 1 → Took s st (f X.1, rtakeV s X.2 (ba [41])) := by
      intro f w hf hw hwl
      obtain ⟨t1, t2⟩ := rtake_p (w := ba [41]) tx.le
      refine ⟨t1, fun h => ?_⟩
      obtain ⟨u1, u2, u3⟩ := t2 h
      obtain ⟨v1, v2, v3, v4, v5⟩ := tx.ok u1
      obtain ⟨w1, w2, w3⟩ := r2 v1
      obtain ⟨x1, x2, x3⟩ := q2 w1
      obtain ⟨m1, _, _⟩ := tokV_ok s q1
      obtain ⟨m2, _, _⟩ := tokV_ok s tx.le
      have z4 := strIs_size hw
      have z5 : (tokV s X.2.p).t.size = 1 := by
        have := strIs_size (l := [41]) (t := (tokV s X.2.p).t) (by simp [strIs, u2])
        simpa using this
      obtain ⟨g1, g2, g3⟩ := hf X.1
      simp only
      refine ⟨hc, ?_, ?_, ?_, g3⟩ <;> (try rw [g1]) <;> (try rw [g2]) <;> omega
    have two : ∀ (f : Lv → Lv → Lv) (w : List UInt8), (∀ l m, (printL (f l m)).length = (printL l).length + (printL m).length + w.length + 4 ∧ (f l m).size = l.size + m.size + 1 ∧ printL (f l m) ≠ []) → strIs (tokV s (rnextV s st).2.p).t w = true → w.length ≥ 1 → Took s st (f X.1 Y.1, rtakeV s Y.2 (ba [41])) := by
      intro f w hf hw hwl
      obtain ⟨t1, t2⟩ := rtake_p (w := ba [41]) ty.le
      refine ⟨t1, fun h => ?_⟩
      obtain ⟨u1, u2, u3⟩ := t2 h
      obtain ⟨y1, y2, y3, y4, y5⟩ := ty.ok u1
      obtain ⟨v1, v2, v3, v4, v5⟩ := tx.ok y1
      obtain ⟨w1, w2, w3⟩ := r2 v1
      obtain ⟨x1, x2, x3⟩ := q2 w1
      obtain ⟨m1, _, _⟩ := tokV_ok s q1
      obtain ⟨m2, _, _⟩ := tokV_ok s ty.le
      have z4 := strIs_size hw
      have z5 : (tokV s Y.2.p).t.size = 1 := by
        have := strIs_size (l := [41]) (t := (tokV s Y.2.p).t) (by simp [strIs, u2])
        simpa using this
      obtain ⟨g1, g2, g3⟩ := hf X.1 Y.1
      simp only
      refine ⟨hc, ?_, ?_, ?_, g3⟩ <;> (try rw [g1]) <;> (try rw [g2]) <;> omega
    simp only [lvP, lv1, lv2, hX, hY]
    cases h3 : strIs (tokV s (rnextV s st).2.p).t [115]
    case true => exact one .succ [115] (fun l => ⟨by simp [printL] <;> omega, rfl, by simp [printL]⟩) h3 (by simp)
    cases h4 : strIs (tokV s (rnextV s st).2.p).t [109, 97, 120]
    case true => exact two .max [109, 97, 120] (fun l m => ⟨by simp [printL]; omega, rfl, by simp [printL]⟩) h4 (by simp)
    cases h5 : strIs (tokV s (rnextV s st).2.p).t [105, 109, 97, 120]
    case true => exact two .imax [105, 109, 97, 120] (fun l m => ⟨by simp [printL]; omega, rfl, by simp [printL]⟩) h5 (by simp)
    exact ⟨by simp only [cond_false]; rw [rfail_p]; exact q1, fun h => absurd h (by simp only [cond_false]; exact rfail_c _ _)⟩

theorem lv0 : V.agg [.int .i64 0, .str (ByteArray.mk #[]), .slice 3 31 []] = V.agg [.int .i64 Lv.zero.kind, .str Lv.zero.name, .slice 3 31 Lv.zero.args] := rfl
theorem rlevel_law {r : Nat} {s : ByteArray} (hs : s.size < 2 ^ 61) : ∀ (n : Nat) (st : RS) (σ : Sto), σ[r]? = some (st.cells s) → st.p ≤ s.size → (st.c ≠ 0 ∨ s.size - st.p < n) → 0 < n →
    lim C 25 [(.ptr 53 r 0, false)] σ = some (.ret [(.agg [.int .i64 (rlevelV n s st).1.kind, .str (rlevelV n s st).1.name, .slice 3 31 (rlevelV n s st).1.args], false)], σ.set r ((rlevelV n s st).2.cells s))
  | 0, st, σ, h, hp, hn, h0 => by omega
  | n + 1, st, σ, h, hp, hn, _ => rlevel_lim (n := 0) <| by
    have ht := token_law h hs hp
    have hi := isName_law (tokV s st.p).t σ
    simp only [rlevel, rlevelF, callK_ret3 ht rfl, tok0, tok1, tok2, callK_ret1 hi, rd2 h, V.asInt, V.asStr, if_true, Option.bind_some, List.getD_cons_zero, V.asBool]
    by_cases hc : st.c = 0
    case neg =>
      have h2 : (st.c != 0) = true := by simpa using hc
      rw [rlevel_stuck hc]
      simp only [h2, cond_true, rset_same h]
      rfl
    obtain ⟨q1, q2⟩ := rnext_p (st := st) hp
    obtain ⟨r1, r2⟩ := rnext_p (s := s) (st := (rnextV s st).2) q1
    have hc' : (st.c != 0) = false := by simp [hc]
    have hnx := rnext_law h hs hp
    have hg1 : (σ.set r ((rnextV s st).2.cells s))[r]? = some ((rnextV s st).2.cells s) := set_get h
    have e48 : ∀ t : ByteArray, (t.toList == (ByteArray.mk #[48]).toList) = strIs t [48] := fun _ => rfl
    have e40 : ∀ t : ByteArray, (t.toList == (ByteArray.mk #[40]).toList) = strIs t [40] := fun _ => rfl
    have e115 : ∀ t : ByteArray, (t.toList == (ByteArray.mk #[115]).toList) = strIs t [115] := fun _ => rfl
    have emax : ∀ t : ByteArray, (t.toList == (ByteArray.mk #[109, 97, 120]).toList) = strIs t [109, 97, 120] := fun _ => rfl
    have eimax : ∀ t : ByteArray, (t.toList == (ByteArray.mk #[105, 109, 97, 120]).toList) = strIs t [105, 109, 97, 120] := fun _ => rfl
    have e41 : ByteArray.mk #[41] = ba [41] := rfl
    have hr1 : room (0 + 1) = true := by decide
    have hr2 : room (1 + 1) = true := by decide
    simp only [hc', cond_false, callK_ret1 hnx, e48, e40, e115, emax, eimax, e41, hr1, hr2]
    have ht2 := token_law hg1 hs q1
    simp only [callK_ret3 ht2 rfl, tok0, tok1, V.asStr, Option.bind_some]
    have hnx2 := rnext_law hg1 hs q1
    rw [List.set_set] at hnx2
    have hg2 : (σ.set r ((rnextV s (rnextV s st).2).2.cells s))[r]? = some ((rnextV s (rnextV s st).2).2.cells s) := set_get h
    have hf1 := rfail_law h (tokV s st.p).at_
    have hf2 := rfail_law hg1 (tokV s (rnextV s st).2.p).at_
    rw [List.set_set] at hf2
    simp only [callK_ret1 hnx2, callK_ret0 hf1, callK_ret0 hf2]
    simp only [rlevelV, hc', cond_false]
    cases h0 : strIs (tokV s st.p).t [48]
    case true => rfl
    cases h1 : isNameV (tokV s st.p).t
    case true => rfl
    cases h2 : strIs (tokV s st.p).t [40]
    case false => rfl
    simp only [cond_true, cond_false]
    have z2 := strIs_size h2
    simp only [List.length_cons, List.length_nil] at z2
    obtain ⟨k1, k2, k3⟩ := tokV_ok s hp
    have hn2 : (rnextV s (rnextV s st).2).2.c ≠ 0 ∨ s.size - (rnextV s (rnextV s st).2).2.p < n := by
      by_cases hz : (rnextV s (rnextV s st).2).2.c = 0
      · obtain ⟨e1, e2, e3⟩ := r2 hz
        obtain ⟨_, _, e4⟩ := q2 e1
        obtain ⟨m1, _, _⟩ := tokV_ok s q1
        rcases hn with hn | hn
        · exact absurd hc hn
        · have := isNo_size e2; right; omega
      · exact .inl hz
    have hn0 : 0 < n := by
      rcases hn with hn | hn
      · exact absurd hc hn
      · omega
    have tx := rlevel_took s n _ r1 hn2
    have hn3 : (rlevelV n s (rnextV s (rnextV s st).2).2).2.c ≠ 0 ∨ s.size - (rlevelV n s (rnextV s (rnextV s st).2).2).2.p < n := by
      by_cases hz : (rlevelV n s (rnextV s (rnextV s st).2).2).2.c = 0
      · obtain ⟨e1, _, _, e2, _⟩ := tx.ok hz
        rcases hn2 with h | h
        · exact absurd e1 h
        · right; omega
      · exact .inl hz
    have ty := rlevel_took s n _ tx.le hn3
    have hx := rlevel_law hs n _ _ hg2 r1 hn2 hn0
    rw [List.set_set] at hx
    have hg3 : (σ.set r ((rlevelV n s (rnextV s (rnextV s st).2).2).2.cells s))[r]? = some ((rlevelV n s (rnextV s (rnextV s st).2).2).2.cells s) := set_get h
    have hy := rlevel_law hs n _ _ hg3 tx.le hn3 hn0
    rw [List.set_set] at hy
    simp only [lvP, lv1, lv2]
    generalize rlevelV n s (rnextV s (rnextV s st).2).2 = X at tx hx hg3 hn3 hy ty ⊢
    generalize rlevelV n s X.2 = Y at hy ty ⊢
    have hg4 : (σ.set r (Y.2.cells s))[r]? = some (Y.2.cells s) := set_get h
    have htx := rtake_law hg3 hs tx.le (ba [41])
    have hty := rtake_law hg4 hs ty.le (ba [41])
    rw [List.set_set] at htx hty
    simp only [callK_ret1 hx, callK_ret1 hy, callK_ret0 htx, callK_ret0 hty, List.getD_cons_zero, fits_lv, cell_lv, grd, Bool.and_self, cond_true, Option.bind_some]
    cases h3 : strIs (tokV s (rnextV s st).2.p).t [115]
    case true => rfl
    cases h4 : strIs (tokV s (rnextV s st).2.p).t [109, 97, 120]
    case true => rfl
    cases h5 : strIs (tokV s (rnextV s st).2.p).t [105, 109, 97, 120]
    case true => rfl
    rfl

/-- What is parsed: the level, the fault's code and place. -/
def parseV (s : ByteArray) : Lv × Int × Int :=
  bif decide ((s.size : Int) > 20000) then (.zero, 2, 0) else
  let x := rlevelV (s.size + 1) s ⟨0, 0, 0⟩
  let d := rdoneV s x.2
  bif d.c != 0 then (.zero, d.c, d.a) else (x.1, d.c, d.a)
theorem parseLevel_law (s : ByteArray) (hs : s.size < 2 ^ 61) (σ : Sto) : ∃ σ', lim C 9 [(.str s, false)] σ = some (.ret [(.agg [.int .i64 (parseV s).1.kind, .str (parseV s).1.name, .slice 3 31 (parseV s).1.args], false), (.agg [.int .i64 (parseV s).2.1, .int .i64 (parseV s).2.2], false)], σ ++ σ') := by
  cases hb : decide ((s.size : Int) > 20000)
  · have h : (σ ++ [RS.cells s ⟨0, 0, 0⟩])[σ.length]? = some (RS.cells s ⟨0, 0, 0⟩) := by simp
    have h1 := rlevel_law hs (s.size + 1) ⟨0, 0, 0⟩ _ h (by simp) (.inr (by simp)) (by omega)
    have tk := rlevel_took s (s.size + 1) ⟨0, 0, 0⟩ (by simp) (.inr (by simp))
    have hg : ∀ x : List Cell, (σ ++ [RS.cells s ⟨0, 0, 0⟩]).set σ.length x = σ ++ [x] := fun x => by rw [List.set_append_right _ _ (Nat.le_refl _)]; simp
    rw [hg] at h1
    have h2' : (σ ++ [(rlevelV (s.size + 1) s ⟨0, 0, 0⟩).2.cells s])[σ.length]? = some ((rlevelV (s.size + 1) s ⟨0, 0, 0⟩).2.cells s) := by simp
    have h2 := rdone_law h2' hs tk.le
    have hg2 : ∀ x : List Cell, (σ ++ [(rlevelV (s.size + 1) s ⟨0, 0, 0⟩).2.cells s]).set σ.length x = σ ++ [x] := fun x => by rw [List.set_append_right _ _ (Nat.le_refl _)]; simp
    rw [hg2] at h2
    refine ⟨[(rdoneV s (rlevelV (s.size + 1) s ⟨0, 0, 0⟩).2).cells s], parseLevel_lim (n := 0) ?_⟩
    have e0 : [((V.str s), false), ((V.int .i64 (0 : Int)), false), ((V.int .i64 (0 : Int)), false), ((V.int .i64 (0 : Int)), false)] = RS.cells s ⟨0, 0, 0⟩ := rfl
    simp only [parseLevel, parseLevelF, hb, cond_false, e0, callK_ret1 h1, List.getD_cons_zero, fits_lv, grd, cond_true, Option.bind_some, callK_ret1 h2, parseV]
    cases hd : (rdoneV s (rlevelV (s.size + 1) s ⟨0, 0, 0⟩).2).c != 0
    · simp [V.fits, V.asInt, V.cell, hd]
    · simp [V.fits, V.asInt, V.cell, hd]
      first | rfl | exact ⟨rfl, rfl, rfl⟩
  · refine ⟨[], parseLevel_lim (n := 0) ?_⟩
    simp only [parseLevel, parseLevelF, hb, cond_true, parseV, List.append_nil]
    rfl
theorem parseV_ok {s : ByteArray} (h : (parseV s).2.1 = 0) : (printL (parseV s).1).length ≤ 2 * s.size ∧ (parseV s).1.size ≤ s.size ∧ printL (parseV s).1 ≠ [] ∧ s.size ≤ 20000 := by
  unfold parseV at *
  cases hb : decide ((s.size : Int) > 20000)
  · rw [hb] at h
    have tk := rlevel_took s (s.size + 1) ⟨0, 0, 0⟩ (by simp) (.inr (by simp))
    simp only [cond_false] at h ⊢
    have hb' : s.size ≤ 20000 := by have := of_decide_eq_false hb; omega
    cases hd : (rdoneV s (rlevelV (s.size + 1) s ⟨0, 0, 0⟩).2).c != 0
    · rw [hd] at h
      simp only [cond_false] at h ⊢
      have hc : (rlevelV (s.size + 1) s ⟨0, 0, 0⟩).2.c = 0 := by
        have hd' : (rdoneV s (rlevelV (s.size + 1) s ⟨0, 0, 0⟩).2).c = 0 := h
        simp only [rdoneV] at hd'
        cases hx : (!(tokV s (rlevelV (s.size + 1) s ⟨0, 0, 0⟩).2.p).ok || !isNo (tokV s (rlevelV (s.size + 1) s ⟨0, 0, 0⟩).2.p).t)
        · rw [hx] at hd'; exact hd'
        · rw [hx] at hd'; exact absurd hd' (rfail_c _ _)
      obtain ⟨_, a1, a2, a3, a4⟩ := tk.ok hc
      have := tk.le
      simp only at a1 a2 a3
      exact ⟨by omega, by omega, a4, hb'⟩
    · rw [hd] at h
      simp only [cond_true] at h
      rw [h] at hd; simp at hd
  · rw [hb] at h
    simp at h
end Go.Ab.Mk
