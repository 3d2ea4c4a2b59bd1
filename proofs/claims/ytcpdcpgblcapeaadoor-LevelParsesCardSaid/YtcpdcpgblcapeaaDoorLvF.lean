/- The plain laws: the reader. -/
import Derived.Test.YtcpdcpgblcapeaaDoorLvE
set_option linter.unusedSimpArgs false
set_option linter.unusedVariables false
set_option linter.deprecated false
namespace Go.Ab.Mk
open Go.Proofs Go.Ab

structure RS where
  p : Nat
  c : Int
  a : Int
def RS.cells (s : ByteArray) (st : RS) : List Cell := rst s st.p st.c st.a
def isNo (t : ByteArray) : Bool := t.toList == (ByteArray.mk #[]).toList
def rfailV (st : RS) (i : Nat) : RS := bif st.c == 0 then ⟨st.p, 1, i⟩ else st
def rnextV (s : ByteArray) (st : RS) : ByteArray × RS :=
  let k := tokV s st.p
  let st1 := bif !k.ok || isNo k.t then rfailV st k.at_ else st
  bif st1.c != 0 then (ByteArray.mk #[], st1) else (k.t, ⟨k.at_ + k.t.size, st1.c, st1.a⟩)
def rtakeV (s : ByteArray) (st : RS) (w : ByteArray) : RS :=
  let k := tokV s st.p
  let st1 := bif !k.ok || !(k.t.toList == w.toList) then rfailV st k.at_ else st
  bif st1.c == 0 then ⟨k.at_ + k.t.size, st1.c, st1.a⟩ else st1
def isNameV (t : ByteArray) : Bool := !isNo t && nmByte (byteAt t 0) true
def rdoneV (s : ByteArray) (st : RS) : RS :=
  let k := tokV s st.p
  bif !k.ok || !isNo k.t then rfailV st k.at_ else st

theorem isNo_size {t : ByteArray} (h : isNo t = false) : 0 < t.size := by
  rcases Nat.eq_zero_or_pos t.size with h0 | h0
  · have : t = ByteArray.mk #[] := by
      apply ByteArray.ext
      exact Array.eq_empty_of_size_eq_zero h0
    subst this
    simp [isNo] at h
  · exact h0

/-! Where tokens lie. -/
structure TokOk (s : ByteArray) (p : Nat) (k : Tok) : Prop where
  ge : p ≤ k.at_
  le : k.at_ + k.t.size ≤ s.size
  no : k.ok = false → isNo k.t = true
theorem ext_size (s : ByteArray) {i q : Nat} (h1 : i ≤ q) (h2 : q ≤ s.size) : i + (s.extract i q).size = q := by
  rw [ByteArray.size_extract]; omega
theorem tokV_ok (s : ByteArray) {p : Nat} (hp : p ≤ s.size) : TokOk s p (tokV s p) := by
  have h1 := le_scan isBlank s p
  have h2 := scan_le (f := isBlank) hp
  unfold tokV
  generalize scan isBlank s p = i at h1 h2
  unfold tokAt
  have e0 : isNo (ByteArray.mk #[]) = true := by simp [isNo]
  have s0 : (ByteArray.mk #[]).size = 0 := rfl
  have no : TokOk s p (Tok.no i) := ⟨h1, by simp [Tok.no]; omega, fun _ => e0⟩
  by_cases hi : i = s.size
  · subst hi
    simp only [beq_self_eq_true, cond_true]
    exact ⟨h1, by simp [s0], fun _ => e0⟩
  · have hib : (i == s.size) = false := by simpa using hi
    simp only [hib, cond_false]
    have one : TokOk s p ⟨s.extract i (i + 1), i, true⟩ := ⟨h1, by simp only; rw [ext_size s (by omega) (by omega)]; omega, by simp⟩
    have nm : ∀ q, i + 1 ≤ q → q ≤ s.size → TokOk s p (nmTok s i q) := by
      intro q hq1 hq2
      unfold nmTok
      cases decide (q - i > 40)
      · exact ⟨h1, by simp only [cond_false]; rw [ext_size s (by omega) hq2]; exact hq2, by simp⟩
      · exact no
    have num : ∀ q x, i + 1 ≤ q → q ≤ s.size → TokOk s p (numTok s i q x) := by
      intro q x hq1 hq2
      simp only [numTok]
      generalize (bif x == 35 then i + 1 else i) = d
      cases q == d
      · cases decide (q - d > 5)
        · cases (decide (q - d > 1) && byteAt s d == 48)
          · exact ⟨h1, by simp only [cond_false]; rw [ext_size s (by omega) hq2]; exact hq2, by simp⟩
          · exact no
        · exact no
      · exact no
    have g1 := le_scan (nmByte · false) s (i + 1)
    have g2 := scan_le (f := (nmByte · false)) (s := s) (i := i + 1) (by omega)
    have g3 := le_scan isDigit s (i + 1)
    have g4 := scan_le (f := isDigit) (s := s) (i := i + 1) (by omega)
    cases byteAt s i == 40
    · cases byteAt s i == 41
      · cases nmByte (byteAt s i) true
        · cases (byteAt s i == 35 || isDigit (byteAt s i))
          · exact no
          · exact num _ _ g3 g4
        · exact nm _ g1 g2
      · exact one
    · exact one

theorem rset_same {σ : Sto} {r : Nat} {s : ByteArray} {st : RS} (h : σ[r]? = some (st.cells s)) : σ.set r (st.cells s) = σ := by
  obtain ⟨_, h⟩ := List.getElem?_eq_some_iff.1 h
  rw [← h]; simp
theorem callK_ret3 {call : CallF} {f : FuncId} {args : List Cell} {σ σ' : Sto} {K : List Cell → Sto → Option Res} {KP : V → Sto → Option Res} {cs : List Cell} (h : call f args σ = some (.ret cs, σ')) (hl : cs.length = 3) :
    callK call f args σ 3 K KP = K cs σ' := callK_ret h hl
theorem tok0 (k : Tok) : (k.cells.getD 0 cellD).1 = .str k.t := rfl
theorem tok1 (k : Tok) : (k.cells.getD 1 cellD).1 = .int .i64 k.at_ := rfl
theorem tok2 (k : Tok) : (k.cells.getD 2 cellD).1 = .bool k.ok := rfl
theorem rset2 {σ : Sto} {r : Nat} {s : ByteArray} {st : RS} (h : σ[r]? = some (st.cells s)) (t : TypeId) (x y : Int) : memSet σ (.ptr t r 2) [(.int .i64 x, false), (.int .i64 y, false)] = some (σ.set r (RS.cells s ⟨st.p, x, y⟩)) := by
  simp only [memSet, h, Option.bind_some]; rfl
theorem rset1 {σ : Sto} {r : Nat} {s : ByteArray} {st : RS} (h : σ[r]? = some (st.cells s)) (t : TypeId) (x : Nat) : memSet σ (.ptr t r 1) [(.int .i64 x, false)] = some (σ.set r (RS.cells s ⟨x, st.c, st.a⟩)) := by
  simp only [memSet, h, Option.bind_some]; rfl

theorem rfail_law {σ : Sto} {r : Nat} {s : ByteArray} {st : RS} (h : σ[r]? = some (st.cells s)) (i : Nat) :
    lim C 44 [(.ptr 53 r 0, false), (.int .i64 i, false)] σ = some (.ret [], σ.set r ((rfailV st i).cells s)) :=
  rfail_lim (n := 0) <| by
    simp only [rfail, rfailF, rd2 h, Option.bind_some, V.asInt, if_true, rset2 h, rfailV]
    cases st.c == 0
    · simp only [cond_false, rset_same h]
    · rfl
theorem set_get {σ : Sto} {r : Nat} {x : List Cell} {y : List Cell} (h : σ[r]? = some x) : (σ.set r y)[r]? = some y := by
  obtain ⟨hl, _⟩ := List.getElem?_eq_some_iff.1 h
  simp [hl]
theorem wrap_add {a b : Nat} (h : a + b < 2 ^ 62) : IntKind.wrap .i64 ((a : Int) + (b : Int)) = ((a + b : Nat) : Int) := by
  rw [← wrap_nat h]; simp
theorem rnext_law {σ : Sto} {r : Nat} {s : ByteArray} {st : RS} (h : σ[r]? = some (st.cells s)) (hs : s.size < 2 ^ 61) (hp : st.p ≤ s.size) :
    lim C 43 [(.ptr 53 r 0, false)] σ = some (.ret [(.str (rnextV s st).1, false)], σ.set r ((rnextV s st).2.cells s)) :=
  rnext_lim (n := 0) <| by
    obtain ⟨hk1, hk2, hk3⟩ := tokV_ok s hp
    have ht := token_law h hs hp
    have hw : IntKind.wrap .i64 (((tokV s st.p).at_ : Int) + ((tokV s st.p).t.size : Int)) = (((tokV s st.p).at_ + (tokV s st.p).t.size : Nat) : Int) := wrap_add (by omega)
    have fin : ∀ st1 : RS, ∀ σ1 : Sto, σ1[r]? = some (st1.cells s) → st1.p = st.p → σ1 = σ.set r (st1.cells s) →
        (bif st1.c != 0 then some (End.ret [(V.str (ByteArray.mk #[]), false)], σ1) else
          (memSet σ1 (.ptr 53 r 1) [(.int .i64 (IntKind.wrap .i64 (((tokV s st.p).at_ : Int) + ((tokV s st.p).t.size : Int))), false)]).bind fun m => some (End.ret [(V.str (tokV s st.p).t, false)], m)) =
        some (.ret [(.str (bif st1.c != 0 then (ByteArray.mk #[], st1) else ((tokV s st.p).t, (⟨(tokV s st.p).at_ + (tokV s st.p).t.size, st1.c, st1.a⟩ : RS))).1, false)],
          σ.set r ((bif st1.c != 0 then (ByteArray.mk #[], st1) else ((tokV s st.p).t, (⟨(tokV s st.p).at_ + (tokV s st.p).t.size, st1.c, st1.a⟩ : RS))).2.cells s)) := by
      intro st1 σ1 h1 hp1 hσ
      rw [hw, rset1 h1]
      cases st1.c != 0
      · simp only [cond_false, Option.bind_some]
        rw [hσ, List.set_set]
      · simp only [cond_true]
        rw [hσ]
    simp only [rnext, rnextF, callK_ret3 ht rfl, tok0, tok1, tok2, V.asBool, V.asStr, V.asInt, if_true, Option.bind_some, rnextV]
    have hf := rfail_law h (tokV s st.p).at_
    have hg : (σ.set r ((rfailV st (tokV s st.p).at_).cells s))[r]? = some ((rfailV st (tokV s st.p).at_).cells s) := set_get h
    have e0 : ((tokV s st.p).t.toList == (ByteArray.mk #[]).toList) = isNo (tokV s st.p).t := rfl
    have hfp : (rfailV st (tokV s st.p).at_).p = st.p := by unfold rfailV; cases st.c == 0 <;> rfl
    rw [e0]
    cases hok : (tokV s st.p).ok
    · simp only [Bool.not_false, cond_true, Bool.true_or, callK_ret0 hf, rd2 hg, Option.bind_some, V.asInt, if_true]
      exact fin _ _ hg hfp rfl
    · simp only [Bool.not_true, cond_false, Bool.false_or]
      cases hno : isNo (tokV s st.p).t
      · simp only [cond_false, rd2 h, Option.bind_some, V.asInt, if_true]
        exact fin _ _ h rfl (rset_same h).symm
      · simp only [cond_true, callK_ret0 hf, rd2 hg, Option.bind_some, V.asInt, if_true]
        exact fin _ _ hg hfp rfl
theorem rtake_law {σ : Sto} {r : Nat} {s : ByteArray} {st : RS} (h : σ[r]? = some (st.cells s)) (hs : s.size < 2 ^ 61) (hp : st.p ≤ s.size) (w : ByteArray) :
    lim C 45 [(.ptr 53 r 0, false), (.str w, false)] σ = some (.ret [], σ.set r ((rtakeV s st w).cells s)) :=
  rtake_lim (n := 0) <| by
    obtain ⟨hk1, hk2, hk3⟩ := tokV_ok s hp
    have ht := token_law h hs hp
    have hw : IntKind.wrap .i64 (((tokV s st.p).at_ : Int) + ((tokV s st.p).t.size : Int)) = (((tokV s st.p).at_ + (tokV s st.p).t.size : Nat) : Int) := wrap_add (by omega)
    have fin : ∀ st1 : RS, ∀ σ1 : Sto, σ1[r]? = some (st1.cells s) → σ1 = σ.set r (st1.cells s) →
        (bif st1.c == 0 then
          (memSet σ1 (.ptr 53 r 1) [(.int .i64 (IntKind.wrap .i64 (((tokV s st.p).at_ : Int) + ((tokV s st.p).t.size : Int))), false)]).bind fun m => some (End.ret [], m) else some (End.ret [], σ1)) =
        some (.ret [], σ.set r ((bif st1.c == 0 then (⟨(tokV s st.p).at_ + (tokV s st.p).t.size, st1.c, st1.a⟩ : RS) else st1).cells s)) := by
      intro st1 σ1 h1 hσ
      rw [hw, rset1 h1]
      cases st1.c == 0
      · simp only [cond_false]
        rw [hσ]
      · simp only [cond_true, Option.bind_some]
        rw [hσ, List.set_set]
    simp only [rtake, rtakeF, callK_ret3 ht rfl, tok0, tok1, tok2, V.asBool, V.asStr, V.asInt, if_true, Option.bind_some, rtakeV]
    have hf := rfail_law h (tokV s st.p).at_
    have hg : (σ.set r ((rfailV st (tokV s st.p).at_).cells s))[r]? = some ((rfailV st (tokV s st.p).at_).cells s) := set_get h
    cases hok : (tokV s st.p).ok
    · simp only [Bool.not_false, cond_true, Bool.true_or, callK_ret0 hf, rd2 hg, Option.bind_some, V.asInt, if_true]
      exact fin _ _ hg rfl
    · simp only [Bool.not_true, cond_false, Bool.false_or]
      cases hno : ((tokV s st.p).t.toList == w.toList)
      · simp only [Bool.not_false, cond_true, callK_ret0 hf, rd2 hg, Option.bind_some, V.asInt, if_true]
        exact fin _ _ hg rfl
      · simp only [Bool.not_true, cond_false, rd2 h, Option.bind_some, V.asInt, if_true]
        exact fin _ _ h (rset_same h).symm
theorem isName_law (t : ByteArray) (σ : Sto) : lim C 42 [(.str t, false)] σ = some (.ret [(.bool (isNameV t), false)], σ) :=
  isName_lim (n := 0) <| by
    have e0 : (t.toList == (ByteArray.mk #[]).toList) = isNo t := rfl
    simp only [isName, isNameF, e0, isNameV]
    cases hno : isNo t
    · have := isNo_size hno
      have hz : decide ((0 : Int) < (t.size : Int)) = true := by simp; omega
      have hn := nameByte_law (byteAt t 0) true σ
      simp only [Bool.not_false, cond_true, hz, Int.toNat_zero, callK_ret1 hn, Bool.true_and]
      rfl
    · rfl
theorem rdone_law {σ : Sto} {r : Nat} {s : ByteArray} {st : RS} (h : σ[r]? = some (st.cells s)) (hs : s.size < 2 ^ 61) (hp : st.p ≤ s.size) :
    lim C 26 [(.ptr 53 r 0, false)] σ = some (.ret [(.agg [.int .i64 (rdoneV s st).c, .int .i64 (rdoneV s st).a], false)], σ.set r ((rdoneV s st).cells s)) :=
  rdone_lim (n := 0) <| by
    have ht := token_law h hs hp
    have fin : ∀ st1 : RS, ∀ σ1 : Sto, σ1[r]? = some (st1.cells s) → σ1 = σ.set r (st1.cells s) →
        ((memGet σ1 (V.ptr 53 r 2) true 2).bind fun m => (grd (V.fits m true 2)).bind fun _ => some (End.ret [((V.agg [(V.cell m 0), (V.cell m 1)]), false)], σ1)) =
        some (.ret [(.agg [.int .i64 st1.c, .int .i64 st1.a], false)], σ.set r (st1.cells s)) := by
      intro st1 σ1 h1 hσ
      have : memGet σ1 (V.ptr 53 r 2) true 2 = some (.agg [.int .i64 st1.c, .int .i64 st1.a]) := by simp only [memGet, h1, Option.bind_some]; rfl
      rw [this, hσ]; rfl
    simp only [rdone, rdoneF, callK_ret3 ht rfl, tok0, tok1, tok2, V.asBool, V.asStr, Option.bind_some, rdoneV]
    have hf := rfail_law h (tokV s st.p).at_
    have hg : (σ.set r ((rfailV st (tokV s st.p).at_).cells s))[r]? = some ((rfailV st (tokV s st.p).at_).cells s) := set_get h
    have e0 : ((tokV s st.p).t.toList == (ByteArray.mk #[]).toList) = isNo (tokV s st.p).t := rfl
    rw [e0]
    cases hok : (tokV s st.p).ok
    · simp only [Bool.not_false, cond_true, Bool.true_or, callK_ret0 hf]
      exact fin _ _ hg rfl
    · cases hno : isNo (tokV s st.p).t
      · simp only [Bool.not_true, cond_false, Bool.false_or, Bool.not_false, cond_true, callK_ret0 hf]
        exact fin _ _ hg rfl
      · simp only [Bool.not_true, cond_false, Bool.false_or]
        exact fin _ _ h (rset_same h).symm
end Go.Ab.Mk
