/- The plain laws: numbers, the sign ahead of a number, the words of a term. The plain laws: the reference's reader of terms. The plain laws: the reference's reader of terms, the whole. -/
import Derived.Test.YtkecplbpffhdnaaGreatDoorLvTa
import Derived.Test.YtkecplbpffhdnaaGreatDoorLvT
set_option linter.unusedSimpArgs false
set_option linter.unusedVariables false
set_option linter.deprecated false
section
namespace Go.Ab.Mk
open Go.Proofs Go.Ab

theorem wrapI {x : Int} (h0 : 0 ≤ x) (h1 : x < 2 ^ 62) : IntKind.wrap .i64 x = x := by
  obtain ⟨n, rfl⟩ := Int.eq_ofNat_of_zero_le h0
  exact wrap_nat (by omega)
theorem wrapU {x : Int} (h0 : 0 ≤ x) (h1 : x < 256) : IntKind.wrap .u8 x = x := by
  unfold IntKind.wrap
  simp [IntKind.bits, IntKind.signed] <;> omega

theorem number_loop (call : CallF) (n : Nat) {t : ByteArray} (ht : Digits t) (σ : Sto) :
    ∀ (m i acc : Nat), i ≤ t.size → t.size - i < m → acc + 1 ≤ 10 ^ i → numberl0 call n m t acc i σ = some (.ret [(.int .i64 (numFrom t i acc), false)], σ)
  | 0, i, _, _, hm, _ => by omega
  | m + 1, i, acc, hi, hm, ha => by
    show numbers0 call (numberl0 call n m) t acc i σ = _
    unfold numbers0
    have hf := ht.few
    by_cases hlt : i < t.size
    · obtain ⟨b, hb, h1, h2⟩ := ht.byte hlt
      have hp : (10 : Nat) ^ i ≤ 10 ^ 4 := Nat.pow_le_pow_right (by omega) (by omega)
      have hp2 : acc + 1 ≤ 10000 := Nat.le_trans ha hp
      rw [d0, dlt hlt]
      simp only [cond_true, Bool.and_self, grd, Option.bind_some, Int.toNat_natCast, hb]
      have e1 : IntKind.wrap .u8 ((b : Int) - 48) = ((b - 48 : Nat) : Int) := by rw [wrapU (by omega) (by omega)]; omega
      have e2 : IntKind.wrap .i64 ((b - 48 : Nat) : Int) = ((b - 48 : Nat) : Int) := wrap_nat (by omega)
      have e3 : IntKind.wrap .i64 (10 * (acc : Int)) = ((10 * acc : Nat) : Int) := by rw [wrapI (by omega) (by omega)]; omega
      have e4 : IntKind.wrap .i64 (((10 * acc : Nat) : Int) + ((b - 48 : Nat) : Int)) = ((10 * acc + (b - 48) : Nat) : Int) := by rw [wrapI (by omega) (by omega)]; omega
      rw [e1, e2, e3, e4, wrap_succ (show i < 2 ^ 61 by omega), numFrom_go hlt, hb, Int.toNat_natCast]
      exact number_loop call n ht σ m (i + 1) _ (by omega) (by omega) (by rw [Nat.pow_succ]; omega)
    · rw [dnlt hlt, numFrom_end hlt]; rfl
theorem number_law {t : ByteArray} (ht : Digits t) (σ : Sto) : lim C 50 [(.str t, false)] σ = some (.ret [(.int .i64 (numV t), false)], σ) :=
  number_lim (n := t.size + 1) <| number_loop (lim C) (t.size + 1) ht σ (t.size + 1) 0 0 (by omega) (by omega) (by simp)

theorem bytesV_get {s : ByteArray} {i : Nat} (h : i < s.size) : (bytesV s).getD i [] = [.int .u8 (byteAt s i)] := by
  have h' : i < s.data.toList.length := h
  have e : s.data.toList.getD i 0 = s.data.toList[i] := by rw [List.getD_eq_getElem?_getD, List.getElem?_eq_getElem h']; rfl
  simp only [byteAt, e, bytesV, List.getD, List.getElem?_map, List.getElem?_eq_getElem h']
  rfl
theorem bytesV_len (s : ByteArray) : (bytesV s).length = s.size := by simp [bytesV]
theorem iatoi_loop (call : CallF) (n : Nat) {t : ByteArray} (ht : Digits t) (σ : Sto) :
    ∀ (m i acc : Nat), i ≤ t.size → t.size - i < m → acc + 1 ≤ 10 ^ i → iatoil0 call n m t acc (bytesV t) t.size i σ = some (.ret [(.int .i64 (numFrom t i acc), false), (.nilIface, false)], σ)
  | 0, i, _, _, hm, _ => by omega
  | m + 1, i, acc, hi, hm, ha => by
    show iatois0 call (iatoil0 call n m) t acc (bytesV t) t.size i σ = _
    unfold iatois0
    have hf := ht.few
    have hz := ht.pos
    by_cases hlt : i < t.size
    · obtain ⟨b, hb, h1, h2⟩ := ht.byte hlt
      have hp : (10 : Nat) ^ i ≤ 10 ^ 4 := Nat.pow_le_pow_right (by omega) (by omega)
      have hp2 : acc + 1 ≤ 10000 := Nat.le_trans ha hp
      have e1 : IntKind.wrap .u8 ((b : Int) - 48) = ((b - 48 : Nat) : Int) := by rw [wrapU (by omega) (by omega)]; omega
      have e2 : IntKind.wrap .i64 ((b - 48 : Nat) : Int) = ((b - 48 : Nat) : Int) := wrap_nat (by omega)
      have e3 : IntKind.wrap .i64 ((acc : Int) * 10) = ((10 * acc : Nat) : Int) := by rw [wrapI (by omega) (by omega)]; omega
      have e4 : IntKind.wrap .i64 (((10 * acc : Nat) : Int) + ((b - 48 : Nat) : Int)) = ((10 * acc + (b - 48) : Nat) : Int) := by rw [wrapI (by omega) (by omega)]; omega
      have e5 : decide (((b - 48 : Nat) : Int) > 9) = false := by simp; omega
      rw [bytesV_len, d0, dlt hlt]
      simp only [cond_true, Bool.and_self, grd, Option.bind_some, Int.toNat_natCast, bytesV_get hlt, List.getD_cons_zero, V.asInt, if_true, hb, e1, e2, e3, e4, e5, cond_false, wrap_succ (show i < 2 ^ 61 by omega)]
      rw [numFrom_go hlt, hb, Int.toNat_natCast]
      exact iatoi_loop call n ht σ m (i + 1) _ (by omega) (by omega) (by rw [Nat.pow_succ]; omega)
    · obtain ⟨b, hb, h1, h2⟩ := ht.byte hz
      have e45 : ((b : Int) == 45) = false := by simp; omega
      have ez : decide ((0 : Int) < (t.size : Int)) = true := by simp; omega
      rw [dnlt hlt, numFrom_end hlt]
      simp only [cond_false, Int.toNat_zero, hb, e45, Int.le_refl, decide_true, Bool.true_and, ez, grd, cond_true, Option.bind_some]
theorem iatoi_law {t : ByteArray} (ht : Digits t) (σ : Sto) : lim C 72 [(.str t, false)] σ = some (.ret [(.int .i64 (numV t), false), (.nilIface, false)], σ) :=
  iatoi_lim (n := t.size + 1) <| by
    have hf := ht.few
    have hz := ht.pos
    obtain ⟨b, hb, h1, h2⟩ := ht.byte hz
    have e45 : ((b : Int) == 45) = false := by simp; omega
    have e43 : ((b : Int) == 43) = false := by simp; omega
    have ez : decide ((0 : Int) < (t.size : Int)) = true := by simp; omega
    have e19 : decide ((t.size : Int) < 19) = true := by simp; omega
    have hl := iatoi_loop (lim C) (t.size + 1) ht σ (t.size + 1) 0 0 (by omega) (by omega) (by simp)
    simp only [iatoi, iatoiF, ez, e19, cond_true, cond_false, Int.toNat_zero, hb, e45, e43, Int.le_refl, decide_true, Bool.true_and, grd, Option.bind_some, bytesV_len]
    exact hl
theorem atoi_law {t : ByteArray} (ht : Digits t) (σ : Sto) : lim C 41 [(.str t, false)] σ = some (.ret [(.int .i64 (numV t), false), (.nilIface, false)], σ) :=
  atoi_lim (n := 0) <| by
    have hl := iatoi_law ht σ
    simp only [atoi, atoiF, callK_ret2 hl, List.getD_cons_zero, List.getD_cons_succ, V.ifaceNil, Option.bind_some, Bool.not_true, cond_false]

/-! The sign ahead of a number. -/
def hashed (t : ByteArray) : Bool := !isNo t && byteAt t 0 == 35
theorem hashed_size {t : ByteArray} (h : hashed t = true) : 0 < t.size := by
  simp only [hashed, Bool.and_eq_true, Bool.not_eq_true'] at h
  exact isNo_size h.1
theorem isNo_of_size {t : ByteArray} (h : t.size = 0) : isNo t = true := by
  cases hn : isNo t with
  | true => rfl
  | false => have := isNo_size hn; omega
theorem extract_one {t : ByteArray} (h : 0 < t.size) : (t.extract 0 1).toList = [t.data.toList.getD 0 0] := by
  have h' : 0 < t.data.toList.length := h
  rw [ByteArray.toList_eq, ByteArray.data_extract, Array.toList_extract]
  generalize t.data.toList = l at h' ⊢
  match l, h' with
  | x :: xs, _ => rfl
theorem hasPrefix_law (t : ByteArray) (σ : Sto) : lim C 87 [(.str t, false), (.str (ByteArray.mk #[35]), false)] σ = some (.ret [(.bool (hashed t), false)], σ) :=
  hasPrefix_lim (n := 0) <| by
    have e1 : (ByteArray.mk #[35]).size = 1 := rfl
    by_cases hz : 0 < t.size
    · have hd : decide ((t.size : Int) ≥ ((1 : Nat) : Int)) = true := by simp; omega
      have hd2 : decide (((1 : Nat) : Int) ≤ (t.size : Int)) = true := by simp; omega
      have hn : isNo t = false := by
        cases hn : isNo t with
        | false => rfl
        | true =>
          simp only [isNo, beq_iff_eq] at hn
          rw [ByteArray.toList_eq, ByteArray.toList_eq] at hn
          have h' : 0 < t.data.toList.length := hz
          rw [hn] at h'
          simp at h'
      have hr : ((t.extract 0 1).toList == (ByteArray.mk #[35]).toList) = (byteAt t 0 == 35) := by
        rw [extract_one hz, ByteArray.toList_eq]
        simp only [byteAt]
        rw [Bool.eq_iff_iff]
        simp only [beq_iff_eq, List.cons.injEq, and_true]
        constructor
        · intro h; rw [h]; rfl
        · intro h
          apply UInt8.toNat_inj.1
          have : (UInt8.toNat 35 : Int) = 35 := rfl
          omega
      have e0 : ((0 : Int) ≤ ((1 : Nat) : Int)) := by omega
      simp only [hasPrefix, hasPrefixF, e1, hd, hd2, cond_true, Int.le_refl, decide_true, Bool.true_and, grd, Option.bind_some, Int.toNat_zero, Int.toNat_natCast, hr, hashed, hn, Bool.not_false, decide_eq_true e0]
    · have hd : decide ((t.size : Int) ≥ ((1 : Nat) : Int)) = false := by simp; omega
      have hn : isNo t = true := isNo_of_size (by omega)
      simp only [hasPrefix, hasPrefixF, e1, hd, cond_false, hashed, hn, Bool.not_true, Bool.false_and]
theorem cutPrefix1_law (t : ByteArray) (σ : Sto) : lim C 71 [(.str t, false), (.str (ByteArray.mk #[35]), false)] σ =
    some (.ret [(.str (bif hashed t then t.extract 1 t.size else t), false), (.bool (hashed t), false)], σ) :=
  cutPrefix1_lim (n := 0) <| by
    have e1 : (ByteArray.mk #[35]).size = 1 := rfl
    have hp := hasPrefix_law t σ
    simp only [cutPrefix1, cutPrefix1F, callK_ret1 hp, List.getD_cons_zero, V.asBool, Option.bind_some]
    cases hh : hashed t
    · rfl
    · have hz := hashed_size hh
      have hd2 : decide (((1 : Nat) : Int) ≤ (t.size : Int)) = true := by simp; omega
      have e0 : ((0 : Int) ≤ ((1 : Nat) : Int)) := by omega
      simp only [e1, Bool.not_true, cond_false, cond_true, hd2, Int.le_refl, decide_true, Bool.true_and, grd, Option.bind_some, Int.toNat_natCast, decide_eq_true e0]
theorem cutPrefix_law (t : ByteArray) (σ : Sto) : lim C 40 [(.str t, false), (.str (ByteArray.mk #[35]), false)] σ =
    some (.ret [(.str (bif hashed t then t.extract 1 t.size else t), false), (.bool (hashed t), false)], σ) :=
  cutPrefix_lim (n := 0) <| by
    have hp := cutPrefix1_law t σ
    simp only [cutPrefix, cutPrefixF, callK_ret2 hp, List.getD_cons_zero, List.getD_cons_succ]

/-! The words. -/
def wsort : List UInt8 := [115, 111, 114, 116]
def wconst : List UInt8 := [99, 111, 110, 115, 116]
def wapp : List UInt8 := [97, 112, 112]
def wlam : List UInt8 := [108, 97, 109]
def wpi : List UInt8 := [112, 105]
def wlet : List UInt8 := [108, 101, 116]
theorem strIs_eq {t : ByteArray} {l : List UInt8} (h : strIs t l = true) : t = ba l := by
  rw [strIs, beq_iff_eq, ByteArray.toList_eq, ByteArray.toList_eq] at h
  apply ByteArray.ext
  exact Array.toList_inj.1 h
theorem strIs_ba (a b : List UInt8) : strIs (ba a) b = (a == b) := by rw [strIs, ByteArray.toList_eq, ByteArray.toList_eq]; rfl
/-- At most one of them. -/
theorem word_cases (t : ByteArray) :
    (wordIx t = 0 ∧ strIs t wsort = false ∧ strIs t wconst = false ∧ strIs t wapp = false ∧ strIs t wlam = false ∧ strIs t wpi = false ∧ strIs t wlet = false) ∨
    (wordIx t = 1 ∧ strIs t wsort = true ∧ strIs t wconst = false ∧ strIs t wapp = false ∧ strIs t wlam = false ∧ strIs t wpi = false ∧ strIs t wlet = false) ∨
    (wordIx t = 2 ∧ strIs t wsort = false ∧ strIs t wconst = true ∧ strIs t wapp = false ∧ strIs t wlam = false ∧ strIs t wpi = false ∧ strIs t wlet = false) ∨
    (wordIx t = 3 ∧ strIs t wsort = false ∧ strIs t wconst = false ∧ strIs t wapp = true ∧ strIs t wlam = false ∧ strIs t wpi = false ∧ strIs t wlet = false) ∨
    (wordIx t = 4 ∧ strIs t wsort = false ∧ strIs t wconst = false ∧ strIs t wapp = false ∧ strIs t wlam = true ∧ strIs t wpi = false ∧ strIs t wlet = false) ∨
    (wordIx t = 5 ∧ strIs t wsort = false ∧ strIs t wconst = false ∧ strIs t wapp = false ∧ strIs t wlam = false ∧ strIs t wpi = true ∧ strIs t wlet = false) ∨
    (wordIx t = 6 ∧ strIs t wsort = false ∧ strIs t wconst = false ∧ strIs t wapp = false ∧ strIs t wlam = false ∧ strIs t wpi = false ∧ strIs t wlet = true) := by
  unfold wordIx
  have f1 : [115, 111, 114, 116] = wsort := rfl
  have f2 : [99, 111, 110, 115, 116] = wconst := rfl
  have f3 : [97, 112, 112] = wapp := rfl
  have f4 : [108, 97, 109] = wlam := rfl
  have f5 : [112, 105] = wpi := rfl
  have f6 : [108, 101, 116] = wlet := rfl
  rw [f1, f2, f3, f4, f5, f6]
  cases h1 : strIs t wsort
  case true => rw [strIs_eq h1]; simp only [strIs_ba]; decide
  cases h2 : strIs t wconst
  case true => rw [strIs_eq h2]; simp only [strIs_ba]; decide
  cases h3 : strIs t wapp
  case true => rw [strIs_eq h3]; simp only [strIs_ba]; decide
  cases h4 : strIs t wlam
  case true => rw [strIs_eq h4]; simp only [strIs_ba]; decide
  cases h5 : strIs t wpi
  case true => rw [strIs_eq h5]; simp only [strIs_ba]; decide
  cases h6 : strIs t wlet
  case true => decide
  exact .inl ⟨rfl, rfl, rfl, rfl, rfl, rfl, rfl⟩
theorem wordIx_le (t : ByteArray) : wordIx t ≤ 6 := by
  rcases word_cases t with h | h | h | h | h | h | h <;> (rw [h.1]; decide)
theorem wordIx_ok {s : ByteArray} {p : Nat} (hp : p ≤ s.size) (h : wordIx (tokV s p).t ≠ 0) : (tokV s p).ok = true ∧ isNo (tokV s p).t = false := by
  rcases word_cases (tokV s p).t with k | k | k | k | k | k | k
  · exact absurd k.1 h
  · exact strIs_ok hp (by decide) k.2.1
  · exact strIs_ok hp (by decide) k.2.2.1
  · exact strIs_ok hp (by decide) k.2.2.2.1
  · exact strIs_ok hp (by decide) k.2.2.2.2.1
  · exact strIs_ok hp (by decide) k.2.2.2.2.2.1
  · exact strIs_ok hp (by decide) k.2.2.2.2.2.2
/-- The words behind the first. -/
def words6 : List ByteArray := [ba wsort, ba wconst, ba wapp, ba wlam, ba wpi, ba wlet]
theorem beq_comm' (a b : List UInt8) : (a == b) = (b == a) := by rw [Bool.eq_iff_iff, beq_iff_eq, beq_iff_eq]; exact eq_comm
theorem idx_words (t : ByteArray) : idx t words6 0 = (wordIx t : Int) - 1 := by
  have e : ∀ l : List UInt8, (t.toList == (ba l).toList) = strIs t l := fun _ => rfl
  unfold words6
  simp only [idx, e]
  rcases word_cases t with ⟨h0, h1, h2, h3, h4, h5, h6⟩ | ⟨h0, h1, h2, h3, h4, h5, h6⟩ | ⟨h0, h1, h2, h3, h4, h5, h6⟩ | ⟨h0, h1, h2, h3, h4, h5, h6⟩ | ⟨h0, h1, h2, h3, h4, h5, h6⟩ | ⟨h0, h1, h2, h3, h4, h5, h6⟩ | ⟨h0, h1, h2, h3, h4, h5, h6⟩ <;> simp [h0, h1, h2, h3, h4, h5, h6]
end Go.Ab.Mk
end
section
namespace Go.Ab.Mk
open Go.Proofs Go.Ab

theorem rname_law {σ : Sto} {r : Nat} {s : ByteArray} {st : RS} (h : σ[r]? = some (st.cells s)) (hs : s.size < 2 ^ 61) (hp : st.p ≤ s.size) :
    lim C 52 [(.ptr 62 r 0, false)] σ = some (.ret [(.str (rnameV s st).1, false)], σ.set r ((rnameV s st).2.cells s)) :=
  rname_lim (n := 0) <| by
    obtain ⟨hk1, hk2, hk3⟩ := tokV_ok s hp
    have ht := token_law h hs hp
    have hi := isName_law (tokV s st.p).t σ
    have hw : IntKind.wrap .i64 (((tokV s st.p).at_ : Int) + ((tokV s st.p).t.size : Int)) = (((tokV s st.p).at_ + (tokV s st.p).t.size : Nat) : Int) := wrap_add (by omega)
    have fin : ∀ st1 : RS, ∀ σ1 : Sto, σ1[r]? = some (st1.cells s) → st1.p = st.p → σ1 = σ.set r (st1.cells s) →
        (bif st1.c != 0 then some (End.ret [(V.str (ByteArray.mk #[]), false)], σ1) else
          (memSet σ1 (.ptr 62 r 1) [(.int .i64 (IntKind.wrap .i64 (((tokV s st.p).at_ : Int) + ((tokV s st.p).t.size : Int))), false)]).bind fun m => some (End.ret [(V.str (tokV s st.p).t, false)], m)) =
        some (.ret [(.str (bif st1.c != 0 then (ByteArray.mk #[], st1) else ((tokV s st.p).t, (⟨(tokV s st.p).at_ + (tokV s st.p).t.size, st1.c, st1.a⟩ : RS))).1, false)],
          σ.set r ((bif st1.c != 0 then (ByteArray.mk #[], st1) else ((tokV s st.p).t, (⟨(tokV s st.p).at_ + (tokV s st.p).t.size, st1.c, st1.a⟩ : RS))).2.cells s)) := by
      intro st1 σ1 h1 hp1 hσ
      rw [hw, rset1 h1]
      cases st1.c != 0
      · simp only [cond_false, Option.bind_some]
        rw [hσ, List.set_set]
      · simp only [cond_true]
        rw [hσ]
    simp only [rname, rnameF, callK_ret3 ht rfl, tok0, tok1, tok2, callK_ret1 hi, List.getD_cons_zero, V.asBool, V.asStr, V.asInt, if_true, Option.bind_some, rnameV]
    have hf := rfail_law h (tokV s st.p).at_
    have hg : (σ.set r ((rfailV st (tokV s st.p).at_).cells s))[r]? = some ((rfailV st (tokV s st.p).at_).cells s) := set_get h
    have hfp : (rfailV st (tokV s st.p).at_).p = st.p := rfail_p _ _
    cases hok : (tokV s st.p).ok
    · simp only [Bool.not_false, cond_true, Bool.true_or, callK_ret0 hf, rd2 hg, Option.bind_some, V.asInt, if_true]
      exact fin _ _ hg hfp rfl
    · simp only [Bool.not_true, cond_false, Bool.false_or]
      cases hno : isNameV (tokV s st.p).t
      · simp only [Bool.not_false, cond_true, callK_ret0 hf, rd2 hg, Option.bind_some, V.asInt, if_true]
        exact fin _ _ hg hfp rfl
      · simp only [Bool.not_true, cond_false, rd2 h, Option.bind_some, V.asInt, if_true]
        exact fin _ _ h rfl (rset_same h).symm
def peekV (s : ByteArray) (st : RS) : ByteArray := bif (tokV s st.p).ok && st.c == 0 then (tokV s st.p).t else ByteArray.mk #[]
theorem rpeek_law {σ : Sto} {r : Nat} {s : ByteArray} {st : RS} (h : σ[r]? = some (st.cells s)) (hs : s.size < 2 ^ 61) (hp : st.p ≤ s.size) :
    lim C 53 [(.ptr 62 r 0, false)] σ = some (.ret [(.str (peekV s st), false)], σ) :=
  rpeek_lim (n := 0) <| by
    have ht := token_law h hs hp
    simp only [rpeek, rpeekF, callK_ret3 ht rfl, tok0, tok1, tok2, V.asBool, V.asInt, if_true, rd2 h, Option.bind_some, peekV]
    have e : (st.c != 0) = !(st.c == 0) := rfl
    rw [e]
    cases (tokV s st.p).ok <;> cases st.c == 0 <;> rfl
theorem peek_close {s : ByteArray} {st : RS} (hp : st.p ≤ s.size) (hc : st.c = 0) : ((peekV s st).toList == (ByteArray.mk #[41]).toList) = strIs (tokV s st.p).t [41] := by
  unfold peekV
  have e : ∀ t : ByteArray, (t.toList == (ByteArray.mk #[41]).toList) = strIs t [41] := fun _ => rfl
  rw [e]
  cases hk : (tokV s st.p).ok
  · have h1 := (tokV_ok s hp).no hk
    have : strIs (tokV s st.p).t [41] = false := by
      cases h2 : strIs (tokV s st.p).t [41] with
      | false => rfl
      | true => have := (strIs_ok hp (by simp) h2).1; rw [hk] at this; simp at this
    rw [this, hc]
    simp only [Bool.false_and, cond_false]
    rw [strIs, ByteArray.toList_eq, ByteArray.toList_eq]; rfl
  · simp [hc]

theorem tm_fits (t : Tm) : V.fits t.val true 5 = true := rfl
theorem tm_cell (t : Tm) : [V.cell t.val 0, V.cell t.val 1, V.cell t.val 2, V.cell t.val 3, V.cell t.val 4] = t.enc := by rw [t.enc_eq]; rfl
theorem set_setN {σ : Sto} {r : Nat} {a b : List Cell} : (σ.set r a).set r b = σ.set r b := List.set_set ..

section
variable {N : Nat} {r : Nat} {σ σ' : Sto}
/-- The parts' loop: its end, a round. -/
theorem rargs_end {t0 t1 : Int} {t2 : ByteArray} {t3 t4 : List (List V)} {o0 o1 : Int} {o2 : V} {o3 o4 : List (List V)} {m : Nat} {n : Int}
    (h : lim C 54 [(.ptr 62 r 0, false), (.str (ba [41]), false)] σ = some (.ret [], σ')) :
    rterml1 (lim C) N (m + 1) r n n t0 t1 t2 t3 t4 o0 o1 o2 o3 o4 σ = some (.ret [(.agg [.int .i64 o0, .int .i64 o1, o2, .slice 3 90 o3, .slice 5 30 o4], false)], σ') := by
  show rterms1 (lim C) (rterml1 (lim C) N m) r n n t0 t1 t2 t3 t4 o0 o1 o2 o3 o4 σ = _
  unfold rterms1
  have e : decide (n < n) = false := by simp
  have e41 : ByteArray.mk #[41] = ba [41] := rfl
  simp only [e, cond_false, e41, callK_ret0 h]
theorem rargs_go {t0 t1 : Int} {t2 : ByteArray} {t3 t4 : List (List V)} {o0 o1 : Int} {o2 : V} {o3 o4 : List (List V)} {m : Nat} {n i : Int} {x : Tm} (hlt : i < n)
    (h : lim C 24 [(.ptr 62 r 0, false)] σ = some (.ret [(x.val, false)], σ')) (hr : room (o4.length + 1) = true) :
    rterml1 (lim C) N (m + 1) r n i t0 t1 t2 t3 t4 o0 o1 o2 o3 o4 σ = rterml1 (lim C) N m r n (IntKind.wrap .i64 (i + 1)) t0 t1 t2 t3 t4 o0 o1 o2 o3 (o4 ++ [x.enc]) σ' := by
  show rterms1 (lim C) (rterml1 (lim C) N m) r n i t0 t1 t2 t3 t4 o0 o1 o2 o3 o4 σ = _
  unfold rterms1
  simp only [decide_eq_true hlt, cond_true, callK_ret1 h, List.getD_cons_zero, tm_fits, tm_cell, grd, Bool.and_self, Option.bind_some, hr]
end

/-- The levels' loop. -/
theorem rlvs_run {N : Nat} (hN : 0 < N) {r : Nat} {s : ByteArray} (hs : s.size ≤ 20000) {t0 t1 : Int} {t2 : ByteArray} {t3 t4 : List (List V)} {o0 o1 : Int} {o2 : V} :
    ∀ (m : Nat) (ls : List Lv) (st : RS) (σ : Sto), σ[r]? = some (st.cells s) → st.p ≤ s.size → ((st.c ≠ 0 ∧ 0 < m) ∨ (ls.length + (s.size - st.p) ≤ 20000 ∧ s.size - st.p + 1 < m)) →
      rterml2 (lim C) N m r 0 t0 t1 t2 t3 t4 o0 o1 o2 (ls.map Lv.enc) [] σ =
        some (.ret [(.agg [.int .i64 o0, .int .i64 o1, o2, .slice 3 90 ((ls ++ (rlvsV m s st).1).map Lv.enc), .slice 5 30 []], false)], σ.set r ((rtakeV s (rlvsV m s st).2 (ba [41])).cells s))
  | 0, _, _, _, _, _, hm => by omega
  | m + 1, ls, st, σ, h, hp, hm => by
    have hs' : s.size < 2 ^ 61 := by omega
    show rterms2 (lim C) (rterml1 (lim C) N N) (rterml2 (lim C) N m) r 0 t0 t1 t2 t3 t4 o0 o1 o2 (ls.map Lv.enc) [] σ = _
    unfold rterms2
    have ht := rtake_law h hs' hp (ba [41])
    have hend : rterml1 (lim C) N N r 0 (0 : Int) t0 t1 t2 t3 t4 o0 o1 o2 (ls.map Lv.enc) [] σ = some (.ret [(.agg [.int .i64 o0, .int .i64 o1, o2, .slice 3 90 (ls.map Lv.enc), .slice 5 30 []], false)], σ.set r ((rtakeV s st (ba [41])).cells s)) := by
      obtain ⟨k, rfl⟩ : ∃ k, N = k + 1 := ⟨N - 1, by omega⟩
      exact rargs_end ht
    simp only [rd2 h, Option.bind_some, V.asInt, if_true]
    by_cases hc : st.c = 0
    case neg =>
      have h1 : (st.c == 0) = false := by simpa using hc
      rw [rlvs_stuck hc]
      simp only [h1, cond_false, hend, List.append_nil]
    have hpk := rpeek_law h hs' hp
    obtain ⟨hb, hm⟩ : ls.length + (s.size - st.p) ≤ 20000 ∧ s.size - st.p + 1 < m + 1 := by
      rcases hm with hm | hm
      · exact absurd hc hm.1
      · exact hm
    have h1 : (st.c == 0) = true := by simpa using hc
    have h2 : (st.c != 0) = false := by simp [hc]
    simp only [h1, cond_true, callK_ret1 hpk, List.getD_cons_zero, V.asStr, Option.bind_some, peek_close hp hc, rlvsV, h2, cond_false]
    cases h3 : strIs (tokV s st.p).t [41]
    case true => simp only [Bool.not_true, cond_false, hend, cond_true, List.append_nil]
    have hx := rlevel_law hs' (s.size + 1) st σ h hp (.inr (by omega)) (by omega)
    have hgo := rlevel_goes (s := s) (st := st) hp
    have htk := rlevel_took s (s.size + 1) st hp (.inr (by omega))
    have hroom : room (List.length (ls.map Lv.enc) + 1) = true := room_ok (by simp; omega)
    have hg : (σ.set r ((rlevelV (s.size + 1) s st).2.cells s))[r]? = some ((rlevelV (s.size + 1) s st).2.cells s) := set_get h
    simp only [Bool.not_false, cond_true, callK_ret1 hx, List.getD_cons_zero, fits_lv, cell_lv, grd, Bool.and_self, Option.bind_some, hroom, cond_false]
    have em : List.map Lv.enc ls ++ [(rlevelV (s.size + 1) s st).1.enc] = List.map Lv.enc (ls ++ [(rlevelV (s.size + 1) s st).1]) := by simp
    rw [em]
    have ih := rlvs_run hN hs (t0 := t0) (t1 := t1) (t2 := t2) (t3 := t3) (t4 := t4) (o0 := o0) (o1 := o1) (o2 := o2) m (ls ++ [(rlevelV (s.size + 1) s st).1]) _ _ hg hgo.le (by
      by_cases hz : (rlevelV (s.size + 1) s st).2.c = 0
      · have hlt := (hgo.ok hz).2
        have hle := hgo.le
        right
        refine ⟨?_, ?_⟩
        · rw [List.length_append]; simp only [List.length_cons, List.length_nil]; omega
        · omega
      · exact .inl ⟨hz, by omega⟩)
    rw [ih, set_setN]
    simp
end Go.Ab.Mk
end
section
namespace Go.Ab.Mk
open Go.Proofs Go.Ab

theorem ba_eqs : ByteArray.mk #[115, 111, 114, 116] = ba wsort ∧ ByteArray.mk #[99, 111, 110, 115, 116] = ba wconst ∧ ByteArray.mk #[97, 112, 112] = ba wapp ∧ ByteArray.mk #[108, 97, 109] = ba wlam ∧ ByteArray.mk #[112, 105] = ba wpi ∧ ByteArray.mk #[108, 101, 116] = ba wlet := ⟨rfl, rfl, rfl, rfl, rfl, rfl⟩
/-- The row of words, the empty one ahead. -/
def words7 : List ByteArray := ByteArray.mk #[] :: words6
def strIs' (a b : ByteArray) : Bool := a.toList == b.toList
theorem rwords_step {N m r : Nat} {w : ByteArray} {wat : V} {k : Int} {i : Nat} (hi : i < 7) {t0 t1 : Int} {t2 : ByteArray} {t3 t4 : List (List V)} {σ : Sto} :
    rterml0 (lim C) N (m + 1) r (.str w) wat k i t0 t1 t2 t3 t4 σ = rterml0 (lim C) N m r (.str w) wat (bif strIs' (words7.getD i (ByteArray.mk #[])) w then (i : Int) else k) ((i + 1 : Nat) : Int) t0 t1 t2 t3 t4 σ := by
  show rterms0 (lim C) (rterml1 (lim C) N N) (rterml2 (lim C) N N) (rterml0 (lim C) N m) r (.str w) wat k i t0 t1 t2 t3 t4 σ = _
  unfold rterms0
  have e : V.asSlice (V.slice 1 9 [[V.str (ByteArray.mk #[])], [V.str (ByteArray.mk #[115, 111, 114, 116])], [V.str (ByteArray.mk #[99, 111, 110, 115, 116])], [V.str (ByteArray.mk #[97, 112, 112])], [V.str (ByteArray.mk #[108, 97, 109])], [V.str (ByteArray.mk #[112, 105])], [V.str (ByteArray.mk #[108, 101, 116])]]) 1 9 = some (strs words7) := rfl
  have hl : (strs words7).length = 7 := rfl
  have hi' : i < words7.length := hi
  have hs : (strs words7).getD (Int.toNat (i : Int)) [] = [V.str words7[i]] := by rw [Int.toNat_natCast]; exact strs_get hi'
  have hw : words7.getD i (ByteArray.mk #[]) = words7[i] := by rw [List.getD_eq_getElem?_getD, List.getElem?_eq_getElem hi']; rfl
  have hd : decide ((i : Int) < ((7 : Nat) : Int)) = true := by simp; omega
  simp only [e, Option.bind_some, hl, hd, cond_true, d0, Bool.and_self, grd, hs, List.getD_cons_zero, V.asStr, wrap_succ (show i < 2 ^ 61 by omega), hw, strIs']
  cases words7[i].toList == w.toList <;> rfl
theorem strIs'_ba (l : List UInt8) (w : ByteArray) : strIs' (ba l) w = strIs w l := by
  unfold strIs' strIs
  rw [Bool.eq_iff_iff, beq_iff_eq, beq_iff_eq]; exact eq_comm
/-- The words are gone through: what is left to do goes by the last that fits. -/
theorem rwords_run {N m r : Nat} {w : ByteArray} {wat : V} {t0 t1 : Int} {t2 : ByteArray} {t3 t4 : List (List V)} {σ : Sto} :
    rterml0 (lim C) N (m + 7) r (.str w) wat 0 1 t0 t1 t2 t3 t4 σ = rterms0 (lim C) (rterml1 (lim C) N N) (rterml2 (lim C) N N) (rterml0 (lim C) N m) r (.str w) wat (wordIx w) ((7 : Nat) : Int) t0 t1 t2 t3 t4 σ := by
  show rterml0 (lim C) N (m + 1 + 1 + 1 + 1 + 1 + 1 + 1) r (.str w) wat 0 ((1 : Nat) : Int) t0 t1 t2 t3 t4 σ = _
  rw [rwords_step (by omega), rwords_step (by omega), rwords_step (by omega), rwords_step (by omega), rwords_step (by omega), rwords_step (by omega)]
  have e1 : words7.getD 1 (ByteArray.mk #[]) = ba wsort := rfl
  have e2 : words7.getD (1 + 1) (ByteArray.mk #[]) = ba wconst := rfl
  have e3 : words7.getD (1 + 1 + 1) (ByteArray.mk #[]) = ba wapp := rfl
  have e4 : words7.getD (1 + 1 + 1 + 1) (ByteArray.mk #[]) = ba wlam := rfl
  have e5 : words7.getD (1 + 1 + 1 + 1 + 1) (ByteArray.mk #[]) = ba wpi := rfl
  have e6 : words7.getD (1 + 1 + 1 + 1 + 1 + 1) (ByteArray.mk #[]) = ba wlet := rfl
  simp only [e1, e2, e3, e4, e5, e6, strIs'_ba]
  have hk : (bif strIs w wlet then (((1 + 1 + 1 + 1 + 1 + 1 : Nat)) : Int) else bif strIs w wpi then ((1 + 1 + 1 + 1 + 1 : Nat) : Int) else bif strIs w wlam then ((1 + 1 + 1 + 1 : Nat) : Int) else bif strIs w wapp then ((1 + 1 + 1 : Nat) : Int) else bif strIs w wconst then ((1 + 1 : Nat) : Int) else bif strIs w wsort then ((1 : Nat) : Int) else 0) = (wordIx w : Int) := by
    rcases word_cases w with ⟨h0, h1, h2, h3, h4, h5, h6⟩ | ⟨h0, h1, h2, h3, h4, h5, h6⟩ | ⟨h0, h1, h2, h3, h4, h5, h6⟩ | ⟨h0, h1, h2, h3, h4, h5, h6⟩ | ⟨h0, h1, h2, h3, h4, h5, h6⟩ | ⟨h0, h1, h2, h3, h4, h5, h6⟩ | ⟨h0, h1, h2, h3, h4, h5, h6⟩ <;> simp [h0, h1, h2, h3, h4, h5, h6]
  rw [hk]
  rfl

theorem tm0 : V.agg [.int .i64 0, .int .i64 0, .str (ByteArray.mk #[]), .slice 3 90 [], .slice 5 30 []] = (Tm.var 0).val := rfl
theorem hash_bad (t : ByteArray) (ok : Bool) (a : Nat) : badTok ⟨t, a, ok⟩ = (!ok || (isNo t || (!(byteAt t 0 == 35) && !strIs t [40]))) := rfl
/-- What lies behind the word: by its number. -/
theorem rparts_run {N r : Nat} {s : ByteArray} (hs : s.size ≤ 20000) (hN : N = s.size + 10) {n : Nat} {m : Nat} {w : ByteArray} {wat : Nat} {k : Nat} (hk6 : k ≤ 6) {t0 t1 : Int} {t2 : ByteArray} {t3 t4 : List (List V)} {st : RS} {σ : Sto}
    (h : σ[r]? = some (st.cells s)) (hp : st.p ≤ s.size) (hn2 : ∀ st', Goes s st st' → st'.c ≠ 0 ∨ s.size - st'.p < n)
    (rec : ∀ (st' : RS) (σ' : Sto), σ'[r]? = some (st'.cells s) → st'.p ≤ s.size → (st'.c ≠ 0 ∨ s.size - st'.p < n) → lim C 24 [(.ptr 62 r 0, false)] σ' = some (.ret [((rtermV n s st').1.val, false)], σ'.set r ((rtermV n s st').2.cells s))) :
    rterms0 (lim C) (rterml1 (lim C) N N) (rterml2 (lim C) N N) (rterml0 (lim C) N m) r (.str w) (.int .i64 wat) k ((7 : Nat) : Int) t0 t1 t2 t3 t4 σ =
      bif k == 0 then some (.ret [((Tm.var 0).val, false)], σ.set r ((rfailV st wat).cells s)) else
        some (.ret [((tmB (rtermV n s) s k (rnextV s st).2).1.val, false)], σ.set r ((tmB (rtermV n s) s k (rnextV s st).2).2.cells s)) := by
  have hs' : s.size < 2 ^ 61 := by omega
  unfold rterms0
  have e : V.asSlice (V.slice 1 9 [[V.str (ByteArray.mk #[])], [V.str (ByteArray.mk #[115, 111, 114, 116])], [V.str (ByteArray.mk #[99, 111, 110, 115, 116])], [V.str (ByteArray.mk #[97, 112, 112])], [V.str (ByteArray.mk #[108, 97, 109])], [V.str (ByteArray.mk #[112, 105])], [V.str (ByteArray.mk #[108, 101, 116])]]) 1 9 = some (strs words7) := rfl
  have hl : (strs words7).length = 7 := rfl
  have hd : decide (((7 : Nat) : Int) < ((7 : Nat) : Int)) = false := by simp
  have hf := rfail_law h wat
  have hnx := rnext_law h hs' hp
  have g1 := rnext_goes (s := s) (st := st) hp
  have hg1 : (σ.set r ((rnextV s st).2.cells s))[r]? = some ((rnextV s st).2.cells s) := set_get h
  simp only [e, Option.bind_some, hl, hd, cond_false, callK_ret0 hf, callK_ret1 hnx]
  generalize (rnextV s st).2 = st2 at g1 hg1 ⊢
  have r1 : room (0 + 1) = true := by decide
  obtain ⟨N', rfl⟩ : ∃ N', N = N' + 5 := ⟨N - 5, by omega⟩
  have two : ∀ (f : Tm → Tm → Tm) (o0 : Int), (∀ a b, (f a b).val = .agg [.int .i64 o0, .int .i64 0, .str (ByteArray.mk #[]), .slice 3 90 [], .slice 5 30 [a.enc, b.enc]]) →
      rterml1 (lim C) (N' + 5) (N' + 5) r 2 0 t0 t1 t2 t3 t4 o0 0 (.str (ByteArray.mk #[])) [] [] (σ.set r (st2.cells s)) =
        some (.ret [((tm2 (rtermV n s) s f st2).1.val, false)], σ.set r ((tm2 (rtermV n s) s f st2).2.cells s)) := by
    intro f o0 hf
    have ha := rec _ _ hg1 g1.le (hn2 _ g1)
    rw [set_setN] at ha
    have ga : Goes s st (rtermV n s st2).2 := g1.trans (rterm_goes s n st2 g1.le (hn2 _ g1)).gone
    have hga : (σ.set r ((rtermV n s st2).2.cells s))[r]? = some ((rtermV n s st2).2.cells s) := set_get h
    have hb := rec _ _ hga ga.le (hn2 _ ga)
    rw [set_setN] at hb
    have gb : Goes s st (rtermV n s (rtermV n s st2).2).2 := ga.trans (rterm_goes s n _ ga.le (hn2 _ ga)).gone
    have hgb : (σ.set r ((rtermV n s (rtermV n s st2).2).2.cells s))[r]? = some ((rtermV n s (rtermV n s st2).2).2.cells s) := set_get h
    have ht := rtake_law hgb hs' gb.le (ba [41])
    rw [set_setN] at ht
    have w1 : IntKind.wrap .i64 ((0 : Int) + 1) = 1 := by decide
    have w2 : IntKind.wrap .i64 ((1 : Int) + 1) = 2 := by decide
    show rterml1 (lim C) (N' + 5) (N' + 2 + 1 + 1 + 1) r 2 0 t0 t1 t2 t3 t4 o0 0 (.str (ByteArray.mk #[])) [] [] (σ.set r (st2.cells s)) = _
    rw [rargs_go (by omega) ha (room_ok (by simp)), w1, rargs_go (by omega) hb (room_ok (by simp)), w2, rargs_end ht]
    simp only [tm2, hf]
    rfl
  have three : ∀ (f : Tm → Tm → Tm → Tm) (o0 : Int), (∀ a b c, (f a b c).val = .agg [.int .i64 o0, .int .i64 0, .str (ByteArray.mk #[]), .slice 3 90 [], .slice 5 30 [a.enc, b.enc, c.enc]]) →
      rterml1 (lim C) (N' + 5) (N' + 5) r 3 0 t0 t1 t2 t3 t4 o0 0 (.str (ByteArray.mk #[])) [] [] (σ.set r (st2.cells s)) =
        some (.ret [((tm3 (rtermV n s) s f st2).1.val, false)], σ.set r ((tm3 (rtermV n s) s f st2).2.cells s)) := by
    intro f o0 hf
    have ha := rec _ _ hg1 g1.le (hn2 _ g1)
    rw [set_setN] at ha
    have ga : Goes s st (rtermV n s st2).2 := g1.trans (rterm_goes s n st2 g1.le (hn2 _ g1)).gone
    have hga : (σ.set r ((rtermV n s st2).2.cells s))[r]? = some ((rtermV n s st2).2.cells s) := set_get h
    have hb := rec _ _ hga ga.le (hn2 _ ga)
    rw [set_setN] at hb
    have gb : Goes s st (rtermV n s (rtermV n s st2).2).2 := ga.trans (rterm_goes s n _ ga.le (hn2 _ ga)).gone
    have hgb : (σ.set r ((rtermV n s (rtermV n s st2).2).2.cells s))[r]? = some ((rtermV n s (rtermV n s st2).2).2.cells s) := set_get h
    have hc := rec _ _ hgb gb.le (hn2 _ gb)
    rw [set_setN] at hc
    have gc : Goes s st (rtermV n s (rtermV n s (rtermV n s st2).2).2).2 := gb.trans (rterm_goes s n _ gb.le (hn2 _ gb)).gone
    have hgc : (σ.set r ((rtermV n s (rtermV n s (rtermV n s st2).2).2).2.cells s))[r]? = some ((rtermV n s (rtermV n s (rtermV n s st2).2).2).2.cells s) := set_get h
    have ht := rtake_law hgc hs' gc.le (ba [41])
    rw [set_setN] at ht
    have w1 : IntKind.wrap .i64 ((0 : Int) + 1) = 1 := by decide
    have w2 : IntKind.wrap .i64 ((1 : Int) + 1) = 2 := by decide
    have w3 : IntKind.wrap .i64 ((2 : Int) + 1) = 3 := by decide
    show rterml1 (lim C) (N' + 5) (N' + 1 + 1 + 1 + 1 + 1) r 3 0 t0 t1 t2 t3 t4 o0 0 (.str (ByteArray.mk #[])) [] [] (σ.set r (st2.cells s)) = _
    rw [rargs_go (by omega) ha (room_ok (by simp)), w1, rargs_go (by omega) hb (room_ok (by simp)), w2, rargs_go (by omega) hc (room_ok (by simp)), w3, rargs_end ht]
    simp only [tm3, hf]
    rfl
  match k, hk6 with
  | 0, _ => rfl
  | 1, _ =>
    have hx := rlevel_law hs' (s.size + 1) st2 _ hg1 g1.le (.inr (by omega)) (by omega)
    rw [set_setN] at hx
    have gx := g1.trans (rlevel_goes g1.le).gone
    have hgx : (σ.set r ((rlevelV (s.size + 1) s st2).2.cells s))[r]? = some ((rlevelV (s.size + 1) s st2).2.cells s) := set_get h
    have ht := rtake_law hgx hs' gx.le (ba [41])
    rw [set_setN] at ht
    have e1 : (((1 : Nat) : Int) == 0) = false := rfl
    have e2 : (((1 : Nat) : Int) == 1) = true := rfl
    have e3 : ((1 : Nat) == 0) = false := rfl
    simp only [e1, e2, e3, cond_false, cond_true, callK_ret1 hx, List.getD_cons_zero, fits_lv, cell_lv, grd, Bool.and_self, Option.bind_some, r1]
    rw [rargs_end ht]
    rfl
  | 2, _ =>
    have hx := rname_law hg1 hs' g1.le
    rw [set_setN] at hx
    have gx := g1.trans (rname_goes g1.le).gone
    have hgx : (σ.set r ((rnameV s st2).2.cells s))[r]? = some ((rnameV s st2).2.cells s) := set_get h
    have e1 : (((2 : Nat) : Int) == 0) = false := rfl
    have e2 : (((2 : Nat) : Int) == 1) = false := rfl
    have e3 : ((2 : Nat) == 0) = false := rfl
    have e4 : (((2 : Nat) : Int) == 2) = true := rfl
    have ef : ∀ b : ByteArray, V.fits (.str b) false 1 = true := fun _ => rfl
    simp only [e1, e2, e3, e4, cond_false, cond_true, callK_ret1 hx, List.getD_cons_zero, ef, grd, Option.bind_some]
    have hr := rlvs_run (N := N' + 5) (by omega) hs (t0 := t0) (t1 := t1) (t2 := t2) (t3 := t3) (t4 := t4) (o0 := ((2 : Nat) : Int)) (o1 := 0) (o2 := .str (rnameV s st2).1) (N' + 5) [] _ _ hgx gx.le (.inr ⟨by have := gx.le; simp; omega, by omega⟩)
    rw [set_setN] at hr
    simp only [List.map_nil, List.nil_append] at hr
    rw [hr, hN]
    rfl
  | 3, _ => exact two .app 3 (fun _ _ => rfl)
  | 4, _ => exact two .lam 4 (fun _ _ => rfl)
  | 5, _ => exact two .pi 5 (fun _ _ => rfl)
  | 6, _ => exact three .letin 6 (fun _ _ _ => rfl)
theorem rterm_law {r : Nat} {s : ByteArray} (hs : s.size ≤ 20000) : ∀ (n : Nat) (st : RS) (σ : Sto), σ[r]? = some (st.cells s) → st.p ≤ s.size → (st.c ≠ 0 ∨ s.size - st.p < n) →
    lim C 24 [(.ptr 62 r 0, false)] σ = some (.ret [((rtermV n s st).1.val, false)], σ.set r ((rtermV n s st).2.cells s))
  | n, st, σ, h, hp, hn => rterm_lim (n := s.size + 10) <| by
    have hs' : s.size < 2 ^ 61 := by omega
    have ht := token_law h hs' hp
    simp only [rterm, rtermF, callK_ret3 ht rfl, tok0, tok1, tok2, rd2 h, V.asInt, if_true, Option.bind_some]
    by_cases hc : st.c = 0
    case neg =>
      have h2 : (st.c != 0) = true := by simpa using hc
      rw [rterm_stuck hc]
      simp only [h2, cond_true, rset_same h]
      rfl
    obtain ⟨n, rfl⟩ : ∃ k, n = k + 1 := ⟨n - 1, by rcases hn with hn | hn; exact absurd hc hn; omega⟩
    have g1 := rnext_goes (s := s) (st := st) hp
    have hc' : (st.c != 0) = false := by simp [hc]
    have hf := rfail_law h (tokV s st.p).at_
    have hnx := rnext_law h hs' hp
    have e40 : ∀ t : ByteArray, (t.toList == (ByteArray.mk #[40]).toList) = strIs t [40] := fun _ => rfl
    have e0 : ∀ t : ByteArray, (t.toList == (ByteArray.mk #[]).toList) = isNo t := fun _ => rfl
    have e35 : ∀ x : Int, (x != 35) = !(x == 35) := fun _ => rfl
    have hg1 : (σ.set r ((rnextV s st).2.cells s))[r]? = some ((rnextV s st).2.cells s) := set_get h
    have ht2 := token_law hg1 hs' g1.le
    have hn2 : ∀ st', Goes s (rnextV s st).2 st' → st'.c ≠ 0 ∨ s.size - st'.p < n := by
      intro st' h'
      have h := g1.trans h'.gone
      by_cases hz : st'.c = 0
      · have := (h.ok hz).2
        have := h.le
        rcases hn with hn | hn
        · exact absurd hc hn
        · right; omega
      · exact .inl hz
    have hw := rwords_run (N := s.size + 10) (m := s.size + 3) (r := r) (w := (tokV s (rnextV s st).2.p).t) (wat := .int .i64 (tokV s (rnextV s st).2.p).at_) (t0 := 0) (t1 := 0) (t2 := ByteArray.mk #[]) (t3 := []) (t4 := []) (σ := σ.set r ((rnextV s st).2.cells s))
    have hq := rparts_run (r := r) hs (N := s.size + 10) rfl (n := n) (m := s.size + 3) (w := (tokV s (rnextV s st).2.p).t) (wat := (tokV s (rnextV s st).2.p).at_) (k := wordIx (tokV s (rnextV s st).2.p).t) (wordIx_le _) (t0 := 0) (t1 := 0) (t2 := ByteArray.mk #[]) (t3 := []) (t4 := []) hg1 g1.le hn2
      (fun st' σ' k1 k2 k3 => rterm_law hs n st' σ' k1 k2 k3)
    rw [hq, set_setN, set_setN] at hw
    simp only [hc', cond_false, V.asBool, V.asStr, Option.bind_some, callK_ret0 hf, callK_ret1 hnx, e40, e0, e35, callK_ret3 ht2 rfl, tok0, tok1]
    have hw' : rterml0 (lim C) (s.size + 10) (s.size + 10) r (.str (tokV s (rnextV s st).2.p).t) (.int .i64 (tokV s (rnextV s st).2.p).at_) 0 1 0 0 (ByteArray.mk #[]) [] [] (σ.set r ((rnextV s st).2.cells s)) = _ := hw
    rw [hw']
    simp only [rtermV, hc', cond_false, badTok, tmP]
    clear hw hw' hq
    cases hok : (tokV s st.p).ok
    case false => rfl
    cases hno : isNo (tokV s st.p).t
    case true => rfl
    have hz := isNo_size hno
    have hz' : decide ((0 : Int) < ((tokV s st.p).t.size : Int)) = true := by simp; omega
    have hz2 : decide ((1 : Int) ≤ ((tokV s st.p).t.size : Int)) = true := by simp; omega
    simp only [Bool.not_true, cond_false, Int.le_refl, decide_true, Bool.true_and, hz', grd, cond_true, Option.bind_some, Int.toNat_zero, Bool.false_or]
    cases h40 : strIs (tokV s st.p).t [40]
    case true =>
      simp only [Bool.not_true, cond_false, Bool.and_false, cond_true]
      cases (byteAt (tokV s st.p).t 0 == 35) <;> simp only [Bool.not_true, Bool.not_false, cond_true, cond_false] <;> cases (wordIx (tokV s (rnextV s st).2.p).t == 0) <;> rfl
    cases h35 : byteAt (tokV s st.p).t 0 == 35
    case false => rfl
    have hdg := tok_num hp hok hno (by simpa using h35)
    have hnum := number_law hdg (σ.set r ((rnextV s st).2.cells s))
    have e01 : decide ((0 : Int) ≤ 1) = true := by decide
    have f1 : ∀ x : Int, V.fits (.int .i64 x) false 1 = true := fun _ => rfl
    have t1 : Int.toNat 1 = 1 := rfl
    simp only [Bool.not_true, Bool.not_false, cond_false, cond_true, hz2, e01, t1, Bool.and_self, Bool.and_true, Int.toNat_natCast, callK_ret1 hnum, List.getD_cons_zero, f1, Option.bind_some, Bool.false_and]
    rfl
end Go.Ab.Mk
end
