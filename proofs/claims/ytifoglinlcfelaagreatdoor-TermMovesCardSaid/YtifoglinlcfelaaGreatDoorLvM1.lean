/- Terms are moved: lift and substitution, in plain mathematics; what the program's Lift and Subst come to. -/
import Derived.Test.YtifoglinlcfelaaGreatDoorLvD
import Derived.Laws.Strings
import Derived.Test.YtifoglinlcfelaaGreatDoorAbWk3
import Derived.Test.YtifoglinlcfelaaGreatDoorLvO1
import Derived.Test.YtifoglinlcfelaaGreatDoorAbMk1
set_option linter.unusedSimpArgs false
set_option linter.unusedVariables false
set_option linter.deprecated false
section
namespace Go.Ab.Mk
open Go.Proofs Go.Ab
def isDigit (c : Int) : Bool := decide (48 ≤ c) && decide (c ≤ 57)
def isLetter (c : Int) : Bool := (decide (97 ≤ c) && decide (c ≤ 122)) || (decide (65 ≤ c) && decide (c ≤ 90)) || c == 95
def nmByte (c : Int) (first : Bool) : Bool := isLetter c || (!first && (isDigit c || c == 46 || c == 39))
def isBlank (c : Int) : Bool := c == 32 || c == 9 || c == 10
theorem nameByte_law (c : Int) (f : Bool) (σ : Sto) : lim C 82 [(.int .u8 c, false), (.bool f, false)] σ = some (.ret [(.bool (nmByte c f), false)], σ) :=
 nameByte_lim (n := 0) <| by
  simp only [nameByte, nameByteF, nmByte, isLetter, isDigit, ge_iff_le]
  cases decide (97 ≤ c) <;> cases decide (c ≤ 122) <;> cases decide (65 ≤ c) <;> cases decide (c ≤ 90) <;> cases c == 95 <;> cases f <;> cases decide (48 ≤ c) <;> cases decide (c ≤ 57) <;> cases c == 46 <;> cases c == 39 <;> rfl
def scan (f : Int → Bool) (s : ByteArray) (i : Nat) : Nat :=
 if h : i < s.size then (bif f (byteAt s i) then scan f s (i + 1) else i) else i
termination_by s.size - i
theorem scan_go {f : Int → Bool} {s : ByteArray} {i : Nat} (h : i < s.size) (hf : f (byteAt s i) = true) : scan f s i = scan f s (i + 1) := by
 rw [scan, dif_pos h, hf]; rfl
theorem scan_stop {f : Int → Bool} {s : ByteArray} {i : Nat} (h : ¬ (i < s.size ∧ f (byteAt s i) = true)) : scan f s i = i := by
 rw [scan]
 split
 ·rename_i hi
  cases hf : f (byteAt s i) with
  | true => exact absurd ⟨hi, hf⟩ h
  | false => rfl
 ·rfl
theorem scan_ge (f : Int → Bool) (s : ByteArray) : ∀ (k i : Nat), s.size - i = k → i ≤ scan f s i ∧ (i ≤ s.size → scan f s i ≤ s.size)
 | k, i, hk => by
  by_cases h : i < s.size ∧ f (byteAt s i) = true
  ·rw [scan_go h.1 h.2]
   have := scan_ge f s (k - 1) (i + 1) (by omega)
   omega
  ·rw [scan_stop h]; omega
theorem le_scan (f : Int → Bool) (s : ByteArray) (i : Nat) : i ≤ scan f s i := (scan_ge f s _ i rfl).1
theorem scan_le {f : Int → Bool} {s : ByteArray} {i : Nat} (h : i ≤ s.size) : scan f s i ≤ s.size := (scan_ge f s _ i rfl).2 h
structure Tok where
 t : ByteArray
 at_ : Nat
 ok : Bool
def Tok.no (i : Nat) : Tok := ⟨ByteArray.mk #[], i, false⟩
def Tok.cells (k : Tok) : List Cell := [(.str k.t, false), (.int .i64 k.at_, false), (.bool k.ok, false)]
def numTok (s : ByteArray) (i q : Nat) (c : Int) : Tok :=
 let d := bif c == 35 then i + 1 else i
 bif q == d then .no i else bif decide (q - d > 5) then .no i else bif (decide (q - d > 1) && byteAt s d == 48) then .no i else ⟨s.extract i q, i, true⟩
def nmTok (s : ByteArray) (i q : Nat) : Tok := bif decide (q - i > 40) then .no i else ⟨s.extract i q, i, true⟩
def tokAt (s : ByteArray) (i : Nat) : Tok :=
  bif i == s.size then ⟨ByteArray.mk #[], i, true⟩ else
  bif byteAt s i == 40 then ⟨s.extract i (i + 1), i, true⟩ else bif byteAt s i == 41 then ⟨s.extract i (i + 1), i, true⟩ else
  bif nmByte (byteAt s i) true then nmTok s i (scan (nmByte · false) s (i + 1)) else
  bif byteAt s i == 35 || isDigit (byteAt s i) then numTok s i (scan isDigit s (i + 1)) (byteAt s i) else .no i
def tokV (s : ByteArray) (p : Nat) : Tok := tokAt s (scan isBlank s p)
def rst (s : ByteArray) (p : Nat) (c a : Int) : List Cell := [(.str s, false), (.int .i64 p, false), (.int .i64 c, false), (.int .i64 a, false)]
theorem rd0 {σ : Sto} {r : Nat} {s : ByteArray} {p : Nat} {c a : Int} (h : σ[r]? = some (rst s p c a)) (t : TypeId) : memGet σ (.ptr t r 0) false 1 = some (.str s) := by simp [memGet, h, gather, rst]
theorem rd1 {σ : Sto} {r : Nat} {s : ByteArray} {p : Nat} {c a : Int} (h : σ[r]? = some (rst s p c a)) (t : TypeId) : memGet σ (.ptr t r 1) false 1 = some (.int .i64 p) := by simp [memGet, h, gather, rst]
theorem rd2 {σ : Sto} {r : Nat} {s : ByteArray} {p : Nat} {c a : Int} (h : σ[r]? = some (rst s p c a)) (t : TypeId) : memGet σ (.ptr t r 2) false 1 = some (.int .i64 c) := by simp [memGet, h, gather, rst]
theorem wrap_sub {q i : Nat} (h : i ≤ q) (hq : q < 2 ^ 61) : IntKind.wrap .i64 ((q : Int) - (i : Int)) = ((q - i : Nat) : Int) := by
 rw [← wrap_nat (n := q - i) (by omega)]
 congr 1
 omega
theorem dgt (a b : Nat) : decide ((a : Int) > (b : Int)) = decide (a > b) := by simp
theorem beqN (a b : Nat) : ((a : Int) == (b : Int)) = (a == b) := by
 rw [Bool.eq_iff_iff, beq_iff_eq, beq_iff_eq]; omega
theorem bnd2 {i q n : Nat} (h1 : i ≤ q) (h2 : q ≤ n) : (decide ((i : Int) ≤ (q : Int)) && decide ((q : Int) ≤ (n : Int))) = true := by simp; omega
theorem bnd {i q n : Nat} (h1 : i ≤ q) (h2 : q ≤ n) : (decide (0 ≤ (i : Int)) && decide ((i : Int) ≤ (q : Int)) && decide ((q : Int) ≤ (n : Int))) = true := by simp; omega
theorem tokens1_step (call : CallF) (n m : Nat) {σ : Sto} {r : Nat} {s : ByteArray} {p : Nat} {c a : Int} (h : σ[r]? = some (rst s p c a)) (hs : s.size < 2 ^ 61)
  (hc : ∀ x, call 82 [(.int .u8 x, false), (.bool false, false)] σ = some (.ret [(.bool (nmByte x false), false)], σ)) {i q : Nat} (hi : i ≤ q) (hq : q ≤ s.size) :
  rtokenl1 call n (m + 1) r (.int .i64 i) q σ = bif decide (q < s.size) && nmByte (byteAt s q) false then rtokenl1 call n m r (.int .i64 i) (q + 1 : Nat) σ else some (.ret (nmTok s i q).cells, σ) := by
 show rtokens1 call (rtokenl1 call n m) r (.int .i64 i) q σ = _
 unfold rtokens1
 have h40 : ((40 : Int)) = ((40 : Nat) : Int) := rfl
 simp only [rd0 h, Option.bind_some, V.asStr, V.asInt, if_true, callK_ret1 (hc _), Int.toNat_natCast, List.getD_cons_zero, V.asBool, wrap_sub hi (show q < 2 ^ 61 by omega), h40, dgt, bnd hi hq, grd, cond_true, nmTok, Tok.cells, Tok.no]
 by_cases h1 : q < s.size
 ·simp only [dlt h1, d0, cond_true, Bool.and_self, Option.bind_some, wrap_succ (show q < 2 ^ 61 by omega), decide_eq_true h1, Bool.true_and]
  cases nmByte (byteAt s q) false with
  | true => rfl
  | false => simp only [cond_false]; cases decide (q - i > 40) <;> rfl
 ·simp only [dnlt h1, cond_false, decide_eq_false h1, Bool.false_and]
  cases decide (q - i > 40) <;> rfl
theorem tokens1_loop (call : CallF) (n : Nat) {σ : Sto} {r : Nat} {s : ByteArray} {p : Nat} {c a : Int} (h : σ[r]? = some (rst s p c a)) (hs : s.size < 2 ^ 61)
    (hc : ∀ x, call 82 [(.int .u8 x, false), (.bool false, false)] σ = some (.ret [(.bool (nmByte x false), false)], σ)) {i : Nat} :
    ∀ (m q : Nat), i ≤ q → q ≤ s.size → s.size - q < m → rtokenl1 call n m r (.int .i64 i) q σ = some (.ret (nmTok s i (scan (nmByte · false) s q)).cells, σ)
  | 0, q, _, _, hm => by omega
  | m + 1, q, hi, hq, hm => by
    rw [tokens1_step call n m h hs hc hi hq]
    by_cases h1 : q < s.size ∧ nmByte (byteAt s q) false = true
    · rw [scan_go (f := (nmByte · false)) h1.1 h1.2, decide_eq_true h1.1, h1.2]
      exact tokens1_loop call n h hs hc m (q + 1) (by omega) (by omega) (by omega)
    · rw [scan_stop (f := (nmByte · false)) h1]
      have : (decide (q < s.size) && nmByte (byteAt s q) false) = false := by
        cases hb : nmByte (byteAt s q) false <;> simp_all
      rw [this]; rfl
theorem tokens2_step (call : CallF) (n m : Nat) {σ : Sto} {r : Nat} {s : ByteArray} {p : Nat} {c a : Int} (h : σ[r]? = some (rst s p c a)) (hs : s.size < 2 ^ 61) {i q : Nat} (x : Int) (hi : i < q) (hq : q ≤ s.size) :
  rtokenl2 call n (m + 1) r (.int .i64 i) q x σ = bif decide (q < s.size) && isDigit (byteAt s q) then rtokenl2 call n m r (.int .i64 i) (q + 1 : Nat) x σ else some (.ret (numTok s i q x).cells, σ) := by
 show rtokens2 call (rtokenl2 call n m) r (.int .i64 i) q x σ = _
 unfold rtokens2
 have h5 : ((5 : Int)) = ((5 : Nat) : Int) := rfl
 have h1' : ((1 : Int)) = ((1 : Nat) : Int) := rfl
 have e48 : ∀ z : Int, decide (z ≥ 48) = decide (48 ≤ z) := fun _ => rfl
 have w1 : IntKind.wrap .i64 ((i : Int) + ((1 : Nat) : Int)) = ((i + 1 : Nat) : Int) := wrap_succ (show i < 2 ^ 61 by omega)
 have w2 : IntKind.wrap .i64 ((q : Int) + ((1 : Nat) : Int)) = ((q + 1 : Nat) : Int) := wrap_succ (show q < 2 ^ 61 by omega)
 simp only [rd0 h, Option.bind_some, V.asStr, V.asInt, if_true, Int.toNat_natCast, h5, h1', w1, w2, wrap_sub (show i ≤ q by omega) (show q < 2 ^ 61 by omega), wrap_sub (show i + 1 ≤ q by omega) (show q < 2 ^ 61 by omega), dgt, beqN, bnd2 (show i ≤ q by omega) hq, d0, Bool.true_and, decide_eq_true (show s.size > i by omega), grd, cond_true, e48, numTok, Tok.cells, Tok.no]
 by_cases h1 : q < s.size
 ·simp only [decide_eq_true (show s.size > q from h1), cond_true, Option.bind_some, decide_eq_true h1, Bool.true_and, isDigit]
  by_cases hx : x == 35
  ·by_cases hd : q = i + 1
   ·subst hd
    cases decide (48 ≤ byteAt s (i + 1)) <;> cases decide (byteAt s (i + 1) ≤ 57) <;> simp [hx]
   ·have hlt : i + 1 < s.size := by omega
    have hd' : (q == i + 1) = false := by simpa using hd
    simp only [decide_eq_true (show s.size > i + 1 from hlt), hx, cond_true, hd', cond_false, Option.bind_some]
    cases decide (48 ≤ byteAt s q) <;> cases decide (byteAt s q ≤ 57) <;> cases decide (q - (i + 1) > 5) <;> cases decide (q - (i + 1) > 1) <;> cases byteAt s (i + 1) == 48 <;> rfl
  ·have hd' : (q == i) = false := by simp; omega
   simp only [hx, cond_false, hd', Option.bind_some]
   cases decide (48 ≤ byteAt s q) <;> cases decide (byteAt s q ≤ 57) <;> cases decide (q - i > 5) <;> cases decide (q - i > 1) <;> cases byteAt s i == 48 <;> rfl
 ·simp only [decide_eq_false (show ¬ s.size > q from h1), cond_false, decide_eq_false h1, Bool.false_and]
  by_cases hx : x == 35
  ·by_cases hd : q = i + 1
   ·subst hd
    simp [hx]
   ·have hlt : i + 1 < s.size := by omega
    have hd' : (q == i + 1) = false := by simpa using hd
    simp only [decide_eq_true (show s.size > i + 1 from hlt), hx, cond_true, hd', cond_false, Option.bind_some]
    cases decide (q - (i + 1) > 5) <;> cases decide (q - (i + 1) > 1) <;> cases byteAt s (i + 1) == 48 <;> rfl
  ·have hd' : (q == i) = false := by simp; omega
   simp only [hx, cond_false, hd', Option.bind_some]
   cases decide (q - i > 5) <;> cases decide (q - i > 1) <;> cases byteAt s i == 48 <;> rfl
theorem tokens2_loop (call : CallF) (n : Nat) {σ : Sto} {r : Nat} {s : ByteArray} {p : Nat} {c a : Int} (h : σ[r]? = some (rst s p c a)) (hs : s.size < 2 ^ 61) {i : Nat} (x : Int) :
  ∀ (m q : Nat), i < q → q ≤ s.size → s.size - q < m → rtokenl2 call n m r (.int .i64 i) q x σ = some (.ret (numTok s i (scan isDigit s q) x).cells, σ)
 | 0, q, _, _, hm => by omega
 | m + 1, q, hi, hq, hm => by
  rw [tokens2_step call n m h hs x hi hq]
  by_cases h1 : q < s.size ∧ isDigit (byteAt s q) = true
  ·rw [scan_go (f := isDigit) h1.1 h1.2, decide_eq_true h1.1, h1.2]
   exact tokens2_loop call n h hs x m (q + 1) (by omega) (by omega) (by omega)
  ·rw [scan_stop (f := isDigit) h1]
   have : (decide (q < s.size) && isDigit (byteAt s q)) = false := by
    cases hb : isDigit (byteAt s q) <;> simp_all
   rw [this]; rfl
theorem tokens0_loop (call : CallF) (n : Nat) {σ : Sto} {r : Nat} {s : ByteArray} {p0 : Nat} {c a : Int} (h : σ[r]? = some (rst s p0 c a)) (hs : s.size < 2 ^ 61) (hn : s.size < n)
  (hc : ∀ x f, call 82 [(.int .u8 x, false), (.bool f, false)] σ = some (.ret [(.bool (nmByte x f), false)], σ)) :
  ∀ (m p : Nat), p ≤ s.size → s.size - p < m → rtokenl0 call n m r (.int .i64 p) σ = some (.ret (tokV s p).cells, σ)
 | 0, q, _, hm => by omega
 | m + 1, p, hp, hm => by
  show rtokens0 call (rtokenl1 call n n) (rtokenl2 call n n) (rtokenl0 call n m) r (.int .i64 p) σ = _
  unfold rtokens0
  have e48 : ∀ z : Int, decide (z ≥ 48) = decide (48 ≤ z) := fun _ => rfl
  simp only [rd0 h, Option.bind_some, V.asStr, V.asInt, if_true, Int.toNat_natCast, wrap_succ (show p < 2 ^ 61 by omega), d0, Bool.true_and, callK_ret1 (hc _ _), List.getD_cons_zero, V.asBool, beqN, e48]
  by_cases h1 : p < s.size
  ·have hpe : (p == s.size) = false := by simp; omega
   have hb1 : ((decide ((p : Int) ≤ ((p + 1 : Nat) : Int))) && decide (((p + 1 : Nat) : Int) ≤ (s.size : Int))) = true := by simp; omega
   simp only [dlt h1, cond_true, grd, Option.bind_some, hpe, cond_false, hb1]
   by_cases hb : isBlank (byteAt s p) = true
   ·rw [tokV, scan_go h1 hb, ← tokV]
    have ih := tokens0_loop call n h hs hn hc m (p + 1) (by omega) (by omega)
    simp only [isBlank, Bool.or_eq_true] at hb
    rw [ih]
    rcases hb with (hb | hb) | hb
    ·simp only [hb, cond_true]
    ·cases byteAt s p == 32 <;> simp only [hb, cond_true, cond_false]
    ·cases byteAt s p == 32 <;> cases byteAt s p == 9 <;> simp only [hb, cond_true, cond_false]
   ·rw [tokV, scan_stop (fun hh => hb hh.2)]
    have hb' : isBlank (byteAt s p) = false := by simpa using hb
    simp only [isBlank, Bool.or_eq_false_iff] at hb'
    obtain ⟨⟨b1, b2⟩, b3⟩ := hb'
    have l1 := tokens1_loop call n h hs (fun x => hc x false) (i := p) n (p + 1) (by omega) (by omega) (by omega)
    have l2 := tokens2_loop call n h hs (i := p) (byteAt s p) n (p + 1) (by omega) (by omega) (by omega)
    simp only [b1, b2, b3, cond_false, l1, l2, tokAt, hpe, isDigit]
    cases byteAt s p == 40 <;> cases byteAt s p == 41 <;> cases nmByte (byteAt s p) true <;> cases byteAt s p == 35 <;> cases decide (48 ≤ byteAt s p) <;> cases decide (byteAt s p ≤ 57) <;> rfl
  ·have hpe : p = s.size := by omega
   rw [tokV, scan_stop (fun hh => h1 hh.1)]
   rw [dnlt h1]
   simp only [cond_false, hpe, beq_self_eq_true, cond_true, tokAt, Tok.cells]
theorem token_law {σ : Sto} {r : Nat} {s : ByteArray} {p : Nat} {c a : Int} (h : σ[r]? = some (rst s p c a)) (hs : s.size < 2 ^ 61) (hp : p ≤ s.size) :
  lim C 67 [(.ptr 65 r 0, false)] σ = some (.ret (tokV s p).cells, σ) :=
 rtoken_lim (n := s.size + 1) <| by
  have := tokens0_loop (lim C) (s.size + 1) h hs (by omega) (fun x f => nameByte_law x f σ) (s.size + 1) p hp (by omega)
  simp only [rtoken, rtokenF, rd1 h, Option.bind_some]
  exact this
end Go.Ab.Mk
end
section
namespace Go.Ab.Mk
open Go.Proofs Go.Ab
structure RS where
 p : Nat
 c : Int
 a : Int
def RS.cells (s : ByteArray) (st : RS) : List Cell := rst s st.p st.c st.a
def isNo (t : ByteArray) : Bool := t.toList == (ByteArray.mk #[]).toList
def rfailV (st : RS) (i : Nat) : RS := bif st.c == 0 then ⟨st.p, 1, i⟩ else st
def rnextV (s : ByteArray) (st : RS) : ByteArray × RS :=
 let k := tokV s st.p
 let st1 := bif !k.ok || isNo k.t then rfailV st k.at_ else st
 bif st1.c != 0 then (ByteArray.mk #[], st1) else (k.t, ⟨k.at_ + k.t.size, st1.c, st1.a⟩)
def rtakeV (s : ByteArray) (st : RS) (w : ByteArray) : RS :=
 let k := tokV s st.p
 let st1 := bif !k.ok || !(k.t.toList == w.toList) then rfailV st k.at_ else st
 bif st1.c == 0 then ⟨k.at_ + k.t.size, st1.c, st1.a⟩ else st1
def isNameV (t : ByteArray) : Bool := !isNo t && nmByte (byteAt t 0) true
def rdoneV (s : ByteArray) (st : RS) : RS :=
 let k := tokV s st.p
 bif !k.ok || !isNo k.t then rfailV st k.at_ else st
theorem isNo_size {t : ByteArray} (h : isNo t = false) : 0 < t.size := by
 rcases Nat.eq_zero_or_pos t.size with h0 | h0
 ·have : t = ByteArray.mk #[] := by
   apply ByteArray.ext
   exact Array.eq_empty_of_size_eq_zero h0
  subst this
  simp [isNo] at h
 ·exact h0
structure TokOk (s : ByteArray) (p : Nat) (k : Tok) : Prop where
 ge : p ≤ k.at_
 le : k.at_ + k.t.size ≤ s.size
 no : k.ok = false → isNo k.t = true
theorem ext_size (s : ByteArray) {i q : Nat} (h1 : i ≤ q) (h2 : q ≤ s.size) : i + (s.extract i q).size = q := by
 rw [ByteArray.size_extract]; omega
theorem tokV_ok (s : ByteArray) {p : Nat} (hp : p ≤ s.size) : TokOk s p (tokV s p) := by
  have h1 := le_scan isBlank s p
  have h2 := scan_le (f := isBlank) hp
  unfold tokV
  generalize scan isBlank s p = i at h1 h2
  unfold tokAt
  have e0 : isNo (ByteArray.mk #[]) = true := by simp [isNo]
  have s0 : (ByteArray.mk #[]).size = 0 := rfl
  have no : TokOk s p (Tok.no i) := ⟨h1, by simp [Tok.no]; omega, fun _ => e0⟩
  by_cases hi : i = s.size
  · subst hi
    simp only [beq_self_eq_true, cond_true]
    exact ⟨h1, by simp [s0], fun _ => e0⟩
  · have hib : (i == s.size) = false := by simpa using hi
    simp only [hib, cond_false]
    have one : TokOk s p ⟨s.extract i (i + 1), i, true⟩ := ⟨h1, by simp only; rw [ext_size s (by omega) (by omega)]; omega, by simp⟩
    have nm : ∀ q, i + 1 ≤ q → q ≤ s.size → TokOk s p (nmTok s i q) := by
      intro q hq1 hq2
      unfold nmTok
      cases decide (q - i > 40)
      · exact ⟨h1, by simp only [cond_false]; rw [ext_size s (by omega) hq2]; exact hq2, by simp⟩
      · exact no
    have num : ∀ q x, i + 1 ≤ q → q ≤ s.size → TokOk s p (numTok s i q x) := by
      intro q x hq1 hq2
      simp only [numTok]
      generalize (bif x == 35 then i + 1 else i) = d
      cases q == d
      · cases decide (q - d > 5)
        · cases (decide (q - d > 1) && byteAt s d == 48)
          · exact ⟨h1, by simp only [cond_false]; rw [ext_size s (by omega) hq2]; exact hq2, by simp⟩
          · exact no
        · exact no
      · exact no
    have g1 := le_scan (nmByte · false) s (i + 1)
    have g2 := scan_le (f := (nmByte · false)) (s := s) (i := i + 1) (by omega)
    have g3 := le_scan isDigit s (i + 1)
    have g4 := scan_le (f := isDigit) (s := s) (i := i + 1) (by omega)
    cases byteAt s i == 40
    · cases byteAt s i == 41
      · cases nmByte (byteAt s i) true
        · cases (byteAt s i == 35 || isDigit (byteAt s i))
          · exact no
          · exact num _ _ g3 g4
        · exact nm _ g1 g2
      · exact one
    · exact one
theorem rset_same {σ : Sto} {r : Nat} {s : ByteArray} {st : RS} (h : σ[r]? = some (st.cells s)) : σ.set r (st.cells s) = σ := by
 obtain ⟨_, h⟩ := List.getElem?_eq_some_iff.1 h
 rw [← h]; simp
theorem callK_ret3 {call : CallF} {f : FuncId} {args : List Cell} {σ σ' : Sto} {K : List Cell → Sto → Option Res} {KP : V → Sto → Option Res} {cs : List Cell} (h : call f args σ = some (.ret cs, σ')) (hl : cs.length = 3) :
  callK call f args σ 3 K KP = K cs σ' := callK_ret h hl
theorem tok0 (k : Tok) : (k.cells.getD 0 cellD).1 = .str k.t := rfl
theorem tok1 (k : Tok) : (k.cells.getD 1 cellD).1 = .int .i64 k.at_ := rfl
theorem tok2 (k : Tok) : (k.cells.getD 2 cellD).1 = .bool k.ok := rfl
theorem rset2 {σ : Sto} {r : Nat} {s : ByteArray} {st : RS} (h : σ[r]? = some (st.cells s)) (t : TypeId) (x y : Int) : memSet σ (.ptr t r 2) [(.int .i64 x, false), (.int .i64 y, false)] = some (σ.set r (RS.cells s ⟨st.p, x, y⟩)) := by
 simp only [memSet, h, Option.bind_some]; rfl
theorem rset1 {σ : Sto} {r : Nat} {s : ByteArray} {st : RS} (h : σ[r]? = some (st.cells s)) (t : TypeId) (x : Nat) : memSet σ (.ptr t r 1) [(.int .i64 x, false)] = some (σ.set r (RS.cells s ⟨x, st.c, st.a⟩)) := by
 simp only [memSet, h, Option.bind_some]; rfl
theorem rfail_law {σ : Sto} {r : Nat} {s : ByteArray} {st : RS} (h : σ[r]? = some (st.cells s)) (i : Nat) :
  lim C 70 [(.ptr 65 r 0, false), (.int .i64 i, false)] σ = some (.ret [], σ.set r ((rfailV st i).cells s)) :=
 rfail_lim (n := 0) <| by
  simp only [rfail, rfailF, rd2 h, Option.bind_some, V.asInt, if_true, rset2 h, rfailV]
  cases st.c == 0
  ·simp only [cond_false, rset_same h]
  ·rfl
theorem set_get {σ : Sto} {r : Nat} {x : List Cell} {y : List Cell} (h : σ[r]? = some x) : (σ.set r y)[r]? = some y := by
 obtain ⟨hl, _⟩ := List.getElem?_eq_some_iff.1 h
 simp [hl]
theorem wrap_add {a b : Nat} (h : a + b < 2 ^ 62) : IntKind.wrap .i64 ((a : Int) + (b : Int)) = ((a + b : Nat) : Int) := by
 rw [← wrap_nat h]; simp
theorem rnext_law {σ : Sto} {r : Nat} {s : ByteArray} {st : RS} (h : σ[r]? = some (st.cells s)) (hs : s.size < 2 ^ 61) (hp : st.p ≤ s.size) :
  lim C 69 [(.ptr 65 r 0, false)] σ = some (.ret [(.str (rnextV s st).1, false)], σ.set r ((rnextV s st).2.cells s)) :=
 rnext_lim (n := 0) <| by
  obtain ⟨hk1, hk2, hk3⟩ := tokV_ok s hp
  have ht := token_law h hs hp
  have hw : IntKind.wrap .i64 (((tokV s st.p).at_ : Int) + ((tokV s st.p).t.size : Int)) = (((tokV s st.p).at_ + (tokV s st.p).t.size : Nat) : Int) := wrap_add (by omega)
  have fin : ∀ st1 : RS, ∀ σ1 : Sto, σ1[r]? = some (st1.cells s) → st1.p = st.p → σ1 = σ.set r (st1.cells s) →
    (bif st1.c != 0 then some (End.ret [(V.str (ByteArray.mk #[]), false)], σ1) else
     (memSet σ1 (.ptr 65 r 1) [(.int .i64 (IntKind.wrap .i64 (((tokV s st.p).at_ : Int) + ((tokV s st.p).t.size : Int))), false)]).bind fun m => some (End.ret [(V.str (tokV s st.p).t, false)], m)) =
    some (.ret [(.str (bif st1.c != 0 then (ByteArray.mk #[], st1) else ((tokV s st.p).t, (⟨(tokV s st.p).at_ + (tokV s st.p).t.size, st1.c, st1.a⟩ : RS))).1, false)],
     σ.set r ((bif st1.c != 0 then (ByteArray.mk #[], st1) else ((tokV s st.p).t, (⟨(tokV s st.p).at_ + (tokV s st.p).t.size, st1.c, st1.a⟩ : RS))).2.cells s)) := by
   intro st1 σ1 h1 hp1 hσ
   rw [hw, rset1 h1]
   cases st1.c != 0
   ·simp only [cond_false, Option.bind_some]
    rw [hσ, List.set_set]
   ·simp only [cond_true]
    rw [hσ]
  simp only [rnext, rnextF, callK_ret3 ht rfl, tok0, tok1, tok2, V.asBool, V.asStr, V.asInt, if_true, Option.bind_some, rnextV]
  have hf := rfail_law h (tokV s st.p).at_
  have hg : (σ.set r ((rfailV st (tokV s st.p).at_).cells s))[r]? = some ((rfailV st (tokV s st.p).at_).cells s) := set_get h
  have e0 : ((tokV s st.p).t.toList == (ByteArray.mk #[]).toList) = isNo (tokV s st.p).t := rfl
  have hfp : (rfailV st (tokV s st.p).at_).p = st.p := by unfold rfailV; cases st.c == 0 <;> rfl
  rw [e0]
  cases hok : (tokV s st.p).ok
  ·simp only [Bool.not_false, cond_true, Bool.true_or, callK_ret0 hf, rd2 hg, Option.bind_some, V.asInt, if_true]
   exact fin _ _ hg hfp rfl
  ·simp only [Bool.not_true, cond_false, Bool.false_or]
   cases hno : isNo (tokV s st.p).t
   ·simp only [cond_false, rd2 h, Option.bind_some, V.asInt, if_true]
    exact fin _ _ h rfl (rset_same h).symm
   ·simp only [cond_true, callK_ret0 hf, rd2 hg, Option.bind_some, V.asInt, if_true]
    exact fin _ _ hg hfp rfl
theorem rtake_law {σ : Sto} {r : Nat} {s : ByteArray} {st : RS} (h : σ[r]? = some (st.cells s)) (hs : s.size < 2 ^ 61) (hp : st.p ≤ s.size) (w : ByteArray) :
  lim C 71 [(.ptr 65 r 0, false), (.str w, false)] σ = some (.ret [], σ.set r ((rtakeV s st w).cells s)) :=
 rtake_lim (n := 0) <| by
  obtain ⟨hk1, hk2, hk3⟩ := tokV_ok s hp
  have ht := token_law h hs hp
  have hw : IntKind.wrap .i64 (((tokV s st.p).at_ : Int) + ((tokV s st.p).t.size : Int)) = (((tokV s st.p).at_ + (tokV s st.p).t.size : Nat) : Int) := wrap_add (by omega)
  have fin : ∀ st1 : RS, ∀ σ1 : Sto, σ1[r]? = some (st1.cells s) → σ1 = σ.set r (st1.cells s) →
    (bif st1.c == 0 then
     (memSet σ1 (.ptr 65 r 1) [(.int .i64 (IntKind.wrap .i64 (((tokV s st.p).at_ : Int) + ((tokV s st.p).t.size : Int))), false)]).bind fun m => some (End.ret [], m) else some (End.ret [], σ1)) =
    some (.ret [], σ.set r ((bif st1.c == 0 then (⟨(tokV s st.p).at_ + (tokV s st.p).t.size, st1.c, st1.a⟩ : RS) else st1).cells s)) := by
   intro st1 σ1 h1 hσ
   rw [hw, rset1 h1]
   cases st1.c == 0
   ·simp only [cond_false]
    rw [hσ]
   ·simp only [cond_true, Option.bind_some]
    rw [hσ, List.set_set]
  simp only [rtake, rtakeF, callK_ret3 ht rfl, tok0, tok1, tok2, V.asBool, V.asStr, V.asInt, if_true, Option.bind_some, rtakeV]
  have hf := rfail_law h (tokV s st.p).at_
  have hg : (σ.set r ((rfailV st (tokV s st.p).at_).cells s))[r]? = some ((rfailV st (tokV s st.p).at_).cells s) := set_get h
  cases hok : (tokV s st.p).ok
  ·simp only [Bool.not_false, cond_true, Bool.true_or, callK_ret0 hf, rd2 hg, Option.bind_some, V.asInt, if_true]
   exact fin _ _ hg rfl
  ·simp only [Bool.not_true, cond_false, Bool.false_or]
   cases hno : ((tokV s st.p).t.toList == w.toList)
   ·simp only [Bool.not_false, cond_true, callK_ret0 hf, rd2 hg, Option.bind_some, V.asInt, if_true]
    exact fin _ _ hg rfl
   ·simp only [Bool.not_true, cond_false, rd2 h, Option.bind_some, V.asInt, if_true]
    exact fin _ _ h (rset_same h).symm
theorem isName_law (t : ByteArray) (σ : Sto) : lim C 68 [(.str t, false)] σ = some (.ret [(.bool (isNameV t), false)], σ) :=
 isName_lim (n := 0) <| by
  have e0 : (t.toList == (ByteArray.mk #[]).toList) = isNo t := rfl
  simp only [isName, isNameF, e0, isNameV]
  cases hno : isNo t
  ·have := isNo_size hno
   have hz : decide ((0 : Int) < (t.size : Int)) = true := by simp; omega
   have hn := nameByte_law (byteAt t 0) true σ
   simp only [Bool.not_false, cond_true, hz, Int.toNat_zero, callK_ret1 hn, Bool.true_and]
   rfl
  ·rfl
theorem rdone_law {σ : Sto} {r : Nat} {s : ByteArray} {st : RS} (h : σ[r]? = some (st.cells s)) (hs : s.size < 2 ^ 61) (hp : st.p ≤ s.size) :
  lim C 48 [(.ptr 65 r 0, false)] σ = some (.ret [(.agg [.int .i64 (rdoneV s st).c, .int .i64 (rdoneV s st).a], false)], σ.set r ((rdoneV s st).cells s)) :=
 rdone_lim (n := 0) <| by
  have ht := token_law h hs hp
  have fin : ∀ st1 : RS, ∀ σ1 : Sto, σ1[r]? = some (st1.cells s) → σ1 = σ.set r (st1.cells s) →
    ((memGet σ1 (V.ptr 65 r 2) true 2).bind fun m => (grd (V.fits m true 2)).bind fun _ => some (End.ret [((V.agg [(V.cell m 0), (V.cell m 1)]), false)], σ1)) =
    some (.ret [(.agg [.int .i64 st1.c, .int .i64 st1.a], false)], σ.set r (st1.cells s)) := by
   intro st1 σ1 h1 hσ
   have : memGet σ1 (V.ptr 65 r 2) true 2 = some (.agg [.int .i64 st1.c, .int .i64 st1.a]) := by simp only [memGet, h1, Option.bind_some]; rfl
   rw [this, hσ]; rfl
  simp only [rdone, rdoneF, callK_ret3 ht rfl, tok0, tok1, tok2, V.asBool, V.asStr, Option.bind_some, rdoneV]
  have hf := rfail_law h (tokV s st.p).at_
  have hg : (σ.set r ((rfailV st (tokV s st.p).at_).cells s))[r]? = some ((rfailV st (tokV s st.p).at_).cells s) := set_get h
  have e0 : ((tokV s st.p).t.toList == (ByteArray.mk #[]).toList) = isNo (tokV s st.p).t := rfl
  rw [e0]
  cases hok : (tokV s st.p).ok
  ·simp only [Bool.not_false, cond_true, Bool.true_or, callK_ret0 hf]
   exact fin _ _ hg rfl
  ·cases hno : isNo (tokV s st.p).t
   ·simp only [Bool.not_true, cond_false, Bool.false_or, Bool.not_false, cond_true, callK_ret0 hf]
    exact fin _ _ hg rfl
   ·simp only [Bool.not_true, cond_false, Bool.false_or]
    exact fin _ _ h (rset_same h).symm
end Go.Ab.Mk
end
section
namespace Go.Ab.Mk
open Go.Proofs Go.Ab
def strIs (t : ByteArray) (l : List UInt8) : Bool := t.toList == (ba l).toList
def lv1 (rec : RS → Lv × RS) (s : ByteArray) (f : Lv → Lv) (st : RS) : Lv × RS := (f (rec st).1, rtakeV s (rec st).2 (ba [41]))
def lv2 (rec : RS → Lv × RS) (s : ByteArray) (f : Lv → Lv → Lv) (st : RS) : Lv × RS := (f (rec st).1 (rec (rec st).2).1, rtakeV s (rec (rec st).2).2 (ba [41]))
def lvP (rec : RS → Lv × RS) (s : ByteArray) (st : RS) : Lv × RS :=
 bif strIs (tokV s st.p).t [115] then lv1 rec s .succ (rnextV s st).2 else
 bif strIs (tokV s st.p).t [109, 97, 120] then lv2 rec s .max (rnextV s st).2 else
 bif strIs (tokV s st.p).t [105, 109, 97, 120] then lv2 rec s .imax (rnextV s st).2 else (.zero, rfailV st (tokV s st.p).at_)
def rlevelV : Nat → ByteArray → RS → Lv × RS
 | 0, _, st => (.zero, st)
 | n + 1, s, st =>
  bif st.c != 0 then (.zero, st) else
  bif strIs (tokV s st.p).t [48] then (.zero, (rnextV s st).2) else
  bif isNameV (tokV s st.p).t then (.param (tokV s st.p).t, (rnextV s st).2) else
  bif strIs (tokV s st.p).t [40] then lvP (rlevelV n s) s (rnextV s st).2 else (.zero, rfailV st (tokV s st.p).at_)
theorem rfail_p (st : RS) (i : Nat) : (rfailV st i).p = st.p := by unfold rfailV; cases st.c == 0 <;> rfl
theorem rfail_c (st : RS) (i : Nat) : (rfailV st i).c ≠ 0 := by
 unfold rfailV
 cases h : st.c == 0
 ·simpa using h
 ·simp
theorem rnext_stuck {s : ByteArray} {st : RS} (h : st.c ≠ 0) : rnextV s st = (ByteArray.mk #[], st) := by
 have h1 : (st.c == 0) = false := by simpa using h
 have h2 : (st.c != 0) = true := by simpa using h
 unfold rnextV rfailV
 simp only [h1, cond_false]
 cases (!(tokV s st.p).ok || isNo (tokV s st.p).t) <;> simp only [cond_true, cond_false, h2]
theorem rnext_p {s : ByteArray} {st : RS} (hp : st.p ≤ s.size) : (rnextV s st).2.p ≤ s.size ∧ ((rnextV s st).2.c = 0 → st.c = 0 ∧ isNo (tokV s st.p).t = false ∧ (rnextV s st).2.p = (tokV s st.p).at_ + (tokV s st.p).t.size) := by
 obtain ⟨k1, k2, k3⟩ := tokV_ok s hp
 by_cases hc : st.c = 0
 ·unfold rnextV rfailV
  simp only [hc, beq_self_eq_true, cond_true, bne_self_eq_false]
  cases hx : (!(tokV s st.p).ok || isNo (tokV s st.p).t)
  ·simp only [cond_false, hc, bne_self_eq_false]
   simp only [Bool.or_eq_false_iff] at hx
   exact ⟨by omega, fun _ => ⟨trivial, hx.2, by first | rfl | trivial⟩⟩
  ·simp only [cond_true]
   exact ⟨hp, fun h => by simp at h⟩
 ·rw [rnext_stuck hc]
  exact ⟨hp, fun h => absurd h hc⟩
theorem rtake_p {s : ByteArray} {st : RS} {w : ByteArray} (hp : st.p ≤ s.size) : (rtakeV s st w).p ≤ s.size ∧ ((rtakeV s st w).c = 0 → st.c = 0 ∧ (tokV s st.p).t.toList = w.toList ∧ (rtakeV s st w).p = (tokV s st.p).at_ + (tokV s st.p).t.size) := by
 obtain ⟨k1, k2, k3⟩ := tokV_ok s hp
 by_cases hc : st.c = 0
 ·unfold rtakeV rfailV
  simp only [hc, beq_self_eq_true, cond_true]
  cases hx : (!(tokV s st.p).ok || !((tokV s st.p).t.toList == w.toList))
  ·simp only [cond_false, hc, beq_self_eq_true, cond_true]
   simp only [Bool.or_eq_false_iff] at hx
   exact ⟨by omega, fun _ => ⟨trivial, by simpa using hx.2, by first | rfl | trivial⟩⟩
  ·simp only [cond_true]
   exact ⟨hp, fun h => by simp at h⟩
 ·have h1 : (st.c == 0) = false := by simpa using hc
  have : rtakeV s st w = st := by
   unfold rtakeV rfailV
   simp only [h1, cond_false]
   cases (!(tokV s st.p).ok || !((tokV s st.p).t.toList == w.toList)) <;> simp only [cond_true, cond_false, h1]
  rw [this]
  exact ⟨hp, fun h => absurd h hc⟩
theorem rlevel_stuck {n : Nat} {s : ByteArray} {st : RS} (h : st.c ≠ 0) : rlevelV n s st = (.zero, st) := by
 cases n with
 | zero => rfl
 | succ n =>
  have h2 : (st.c != 0) = true := by simpa using h
  rw [rlevelV, h2]; rfl
theorem strIs_size {t : ByteArray} {l : List UInt8} (h : strIs t l = true) : t.size = l.length := by
 rw [strIs, beq_iff_eq, ByteArray.toList_eq, ByteArray.toList_eq] at h
 have := congrArg List.length h
 show t.data.size = l.length
 rw [← Array.length_toList, this]
 simp [ba]
structure Took (s : ByteArray) (st : RS) (x : Lv × RS) : Prop where
 le : x.2.p ≤ s.size
 ok : x.2.c = 0 → st.c = 0 ∧ (printL x.1).length ≤ 2 * (x.2.p - st.p) ∧ x.1.size ≤ x.2.p - st.p ∧ st.p < x.2.p ∧ printL x.1 ≠ []
theorem rlevel_took (s : ByteArray) : ∀ (n : Nat) (st : RS), st.p ≤ s.size → (st.c ≠ 0 ∨ s.size - st.p < n) → Took s st (rlevelV n s st)
 | 0, st, hp, hn => ⟨hp, fun h => by rcases hn with hn | hn; exact absurd h hn; omega⟩
 | n + 1, st, hp, hn => by
  by_cases hc : st.c = 0
  case neg => rw [rlevel_stuck hc]; exact ⟨hp, fun h => absurd h hc⟩
  obtain ⟨k1, k2, k3⟩ := tokV_ok s hp
  obtain ⟨q1, q2⟩ := rnext_p (st := st) hp
  have hc' : (st.c != 0) = false := by simp [hc]
  simp only [rlevelV, hc', cond_false]
  cases h0 : strIs (tokV s st.p).t [48]
  case true =>
   have z := strIs_size h0
   simp only [cond_true, cond_false]
   refine ⟨q1, fun h => ?_⟩
   obtain ⟨_, _, e⟩ := q2 h
   simp only [List.length_cons, List.length_nil] at z
   refine ⟨hc, ?_, ?_, ?_, by simp [printL]⟩ <;> simp only [e, printL, Lv.size, List.length_cons, List.length_nil] <;> omega
  cases h1 : isNameV (tokV s st.p).t
  case true =>
   simp only [cond_true, cond_false]
   refine ⟨q1, fun h => ?_⟩
   obtain ⟨_, e1, e⟩ := q2 h
   have z := isNo_size e1
   have zz : (tokV s st.p).t.data.toList.length = (tokV s st.p).t.size := Array.length_toList
   refine ⟨hc, ?_, ?_, ?_, ?_⟩
   ·simp only [e, printL, zz]; omega
   ·simp only [e, Lv.size]; omega
   ·simp only [e]; omega
   ·simp only [printL]; intro hh; rw [hh] at zz; simp at zz; omega
  cases h2 : strIs (tokV s st.p).t [40]
  case false =>
   simp only [cond_false]
   exact ⟨by rw [rfail_p]; exact hp, fun h => absurd h (rfail_c _ _)⟩
  have z2 := strIs_size h2
  simp only [List.length_cons, List.length_nil] at z2
  simp only [cond_true, cond_false]
  obtain ⟨r1, r2⟩ := rnext_p (s := s) (st := (rnextV s st).2) q1
  have hn2 : (rnextV s (rnextV s st).2).2.c ≠ 0 ∨ s.size - (rnextV s (rnextV s st).2).2.p < n := by
   by_cases hz : (rnextV s (rnextV s st).2).2.c = 0
   ·obtain ⟨e1, e2, e3⟩ := r2 hz
    obtain ⟨_, _, e4⟩ := q2 e1
    obtain ⟨m1, _, _⟩ := tokV_ok s q1
    rcases hn with hn | hn
    ·exact absurd hc hn
    ·have := isNo_size e2; right; omega
   ·exact .inl hz
  have tx := rlevel_took s n _ r1 hn2
  have hn3 : (rlevelV n s (rnextV s (rnextV s st).2).2).2.c ≠ 0 ∨ s.size - (rlevelV n s (rnextV s (rnextV s st).2).2).2.p < n := by
   by_cases hz : (rlevelV n s (rnextV s (rnextV s st).2).2).2.c = 0
   ·obtain ⟨e1, _, _, e2, _⟩ := tx.ok hz
    rcases hn2 with h | h
    ·exact absurd e1 h
    ·right; omega
   ·exact .inl hz
  have ty := rlevel_took s n _ tx.le hn3
  generalize hX : rlevelV n s (rnextV s (rnextV s st).2).2 = X at tx ty hn3
  generalize hY : rlevelV n s X.2 = Y at ty
  have b41 : (ba [41]).toList = [41] := by rw [ByteArray.toList_eq]; rfl
  have one : ∀ (f : Lv → Lv) (w : List UInt8), (∀ l, (printL (f l)).length = (printL l).length + w.length + 3 ∧ (f l).size = l.size + 1 ∧ printL (f l) ≠ []) → strIs (tokV s (rnextV s st).2.p).t w = true → w.length ≥ 1 → Took s st (f X.1, rtakeV s X.2 (ba [41])) := by
   intro f w hf hw hwl
   obtain ⟨t1, t2⟩ := rtake_p (w := ba [41]) tx.le
   refine ⟨t1, fun h => ?_⟩
   obtain ⟨u1, u2, u3⟩ := t2 h
   obtain ⟨v1, v2, v3, v4, v5⟩ := tx.ok u1
   obtain ⟨w1, w2, w3⟩ := r2 v1
   obtain ⟨x1, x2, x3⟩ := q2 w1
   obtain ⟨m1, _, _⟩ := tokV_ok s q1
   obtain ⟨m2, _, _⟩ := tokV_ok s tx.le
   have z4 := strIs_size hw
   have z5 : (tokV s X.2.p).t.size = 1 := by
    have := strIs_size (l := [41]) (t := (tokV s X.2.p).t) (by simp [strIs, u2])
    simpa using this
   obtain ⟨g1, g2, g3⟩ := hf X.1
   simp only
   refine ⟨hc, ?_, ?_, ?_, g3⟩ <;> (try rw [g1]) <;> (try rw [g2]) <;> omega
  have two : ∀ (f : Lv → Lv → Lv) (w : List UInt8), (∀ l m, (printL (f l m)).length = (printL l).length + (printL m).length + w.length + 4 ∧ (f l m).size = l.size + m.size + 1 ∧ printL (f l m) ≠ []) → strIs (tokV s (rnextV s st).2.p).t w = true → w.length ≥ 1 → Took s st (f X.1 Y.1, rtakeV s Y.2 (ba [41])) := by
   intro f w hf hw hwl
   obtain ⟨t1, t2⟩ := rtake_p (w := ba [41]) ty.le
   refine ⟨t1, fun h => ?_⟩
   obtain ⟨u1, u2, u3⟩ := t2 h
   obtain ⟨y1, y2, y3, y4, y5⟩ := ty.ok u1
   obtain ⟨v1, v2, v3, v4, v5⟩ := tx.ok y1
   obtain ⟨w1, w2, w3⟩ := r2 v1
   obtain ⟨x1, x2, x3⟩ := q2 w1
   obtain ⟨m1, _, _⟩ := tokV_ok s q1
   obtain ⟨m2, _, _⟩ := tokV_ok s ty.le
   have z4 := strIs_size hw
   have z5 : (tokV s Y.2.p).t.size = 1 := by
    have := strIs_size (l := [41]) (t := (tokV s Y.2.p).t) (by simp [strIs, u2])
    simpa using this
   obtain ⟨g1, g2, g3⟩ := hf X.1 Y.1
   simp only
   refine ⟨hc, ?_, ?_, ?_, g3⟩ <;> (try rw [g1]) <;> (try rw [g2]) <;> omega
  simp only [lvP, lv1, lv2, hX, hY]
  cases h3 : strIs (tokV s (rnextV s st).2.p).t [115]
  case true => exact one .succ [115] (fun l => ⟨by simp [printL] <;> omega, rfl, by simp [printL]⟩) h3 (by simp)
  cases h4 : strIs (tokV s (rnextV s st).2.p).t [109, 97, 120]
  case true => exact two .max [109, 97, 120] (fun l m => ⟨by simp [printL]; omega, rfl, by simp [printL]⟩) h4 (by simp)
  cases h5 : strIs (tokV s (rnextV s st).2.p).t [105, 109, 97, 120]
  case true => exact two .imax [105, 109, 97, 120] (fun l m => ⟨by simp [printL]; omega, rfl, by simp [printL]⟩) h5 (by simp)
  exact ⟨by simp only [cond_false]; rw [rfail_p]; exact q1, fun h => absurd h (by simp only [cond_false]; exact rfail_c _ _)⟩
theorem rlevel_law {r : Nat} {s : ByteArray} (hs : s.size < 2 ^ 61) : ∀ (n : Nat) (st : RS) (σ : Sto), σ[r]? = some (st.cells s) → st.p ≤ s.size → (st.c ≠ 0 ∨ s.size - st.p < n) → 0 < n →
  lim C 47 [(.ptr 65 r 0, false)] σ = some (.ret [(.agg [.int .i64 (rlevelV n s st).1.kind, .str (rlevelV n s st).1.name, .slice 3 44 (rlevelV n s st).1.args], false)], σ.set r ((rlevelV n s st).2.cells s))
 | 0, st, σ, h, hp, hn, h0 => by omega
 | n + 1, st, σ, h, hp, hn, _ => rlevel_lim (n := 0) <| by
  have ht := token_law h hs hp
  have hi := isName_law (tokV s st.p).t σ
  simp only [rlevel, rlevelF, callK_ret3 ht rfl, tok0, tok1, tok2, callK_ret1 hi, rd2 h, V.asInt, V.asStr, if_true, Option.bind_some, List.getD_cons_zero, V.asBool]
  by_cases hc : st.c = 0
  case neg =>
   have h2 : (st.c != 0) = true := by simpa using hc
   rw [rlevel_stuck hc]
   simp only [h2, cond_true, rset_same h]
   rfl
  obtain ⟨q1, q2⟩ := rnext_p (st := st) hp
  obtain ⟨r1, r2⟩ := rnext_p (s := s) (st := (rnextV s st).2) q1
  have hc' : (st.c != 0) = false := by simp [hc]
  have hnx := rnext_law h hs hp
  have hg1 : (σ.set r ((rnextV s st).2.cells s))[r]? = some ((rnextV s st).2.cells s) := set_get h
  have e48 : ∀ t : ByteArray, (t.toList == (ByteArray.mk #[48]).toList) = strIs t [48] := fun _ => rfl
  have e40 : ∀ t : ByteArray, (t.toList == (ByteArray.mk #[40]).toList) = strIs t [40] := fun _ => rfl
  have e115 : ∀ t : ByteArray, (t.toList == (ByteArray.mk #[115]).toList) = strIs t [115] := fun _ => rfl
  have emax : ∀ t : ByteArray, (t.toList == (ByteArray.mk #[109, 97, 120]).toList) = strIs t [109, 97, 120] := fun _ => rfl
  have eimax : ∀ t : ByteArray, (t.toList == (ByteArray.mk #[105, 109, 97, 120]).toList) = strIs t [105, 109, 97, 120] := fun _ => rfl
  have e41 : ByteArray.mk #[41] = ba [41] := rfl
  have hr1 : room (0 + 1) = true := by decide
  have hr2 : room (1 + 1) = true := by decide
  simp only [hc', cond_false, callK_ret1 hnx, e48, e40, e115, emax, eimax, e41, hr1, hr2]
  have ht2 := token_law hg1 hs q1
  simp only [callK_ret3 ht2 rfl, tok0, tok1, V.asStr, Option.bind_some]
  have hnx2 := rnext_law hg1 hs q1
  rw [List.set_set] at hnx2
  have hg2 : (σ.set r ((rnextV s (rnextV s st).2).2.cells s))[r]? = some ((rnextV s (rnextV s st).2).2.cells s) := set_get h
  have hf1 := rfail_law h (tokV s st.p).at_
  have hf2 := rfail_law hg1 (tokV s (rnextV s st).2.p).at_
  rw [List.set_set] at hf2
  simp only [callK_ret1 hnx2, callK_ret0 hf1, callK_ret0 hf2]
  simp only [rlevelV, hc', cond_false]
  cases h0 : strIs (tokV s st.p).t [48]
  case true => rfl
  cases h1 : isNameV (tokV s st.p).t
  case true => rfl
  cases h2 : strIs (tokV s st.p).t [40]
  case false => rfl
  simp only [cond_true, cond_false]
  have z2 := strIs_size h2
  simp only [List.length_cons, List.length_nil] at z2
  obtain ⟨k1, k2, k3⟩ := tokV_ok s hp
  have hn2 : (rnextV s (rnextV s st).2).2.c ≠ 0 ∨ s.size - (rnextV s (rnextV s st).2).2.p < n := by
   by_cases hz : (rnextV s (rnextV s st).2).2.c = 0
   ·obtain ⟨e1, e2, e3⟩ := r2 hz
    obtain ⟨_, _, e4⟩ := q2 e1
    obtain ⟨m1, _, _⟩ := tokV_ok s q1
    rcases hn with hn | hn
    ·exact absurd hc hn
    ·have := isNo_size e2; right; omega
   ·exact .inl hz
  have hn0 : 0 < n := by
   rcases hn with hn | hn
   ·exact absurd hc hn
   ·omega
  have tx := rlevel_took s n _ r1 hn2
  have hn3 : (rlevelV n s (rnextV s (rnextV s st).2).2).2.c ≠ 0 ∨ s.size - (rlevelV n s (rnextV s (rnextV s st).2).2).2.p < n := by
   by_cases hz : (rlevelV n s (rnextV s (rnextV s st).2).2).2.c = 0
   ·obtain ⟨e1, _, _, e2, _⟩ := tx.ok hz
    rcases hn2 with h | h
    ·exact absurd e1 h
    ·right; omega
   ·exact .inl hz
  have ty := rlevel_took s n _ tx.le hn3
  have hx := rlevel_law hs n _ _ hg2 r1 hn2 hn0
  rw [List.set_set] at hx
  have hg3 : (σ.set r ((rlevelV n s (rnextV s (rnextV s st).2).2).2.cells s))[r]? = some ((rlevelV n s (rnextV s (rnextV s st).2).2).2.cells s) := set_get h
  have hy := rlevel_law hs n _ _ hg3 tx.le hn3 hn0
  rw [List.set_set] at hy
  simp only [lvP, lv1, lv2]
  generalize rlevelV n s (rnextV s (rnextV s st).2).2 = X at tx hx hg3 hn3 hy ty ⊢
  generalize rlevelV n s X.2 = Y at hy ty ⊢
  have hg4 : (σ.set r (Y.2.cells s))[r]? = some (Y.2.cells s) := set_get h
  have htx := rtake_law hg3 hs tx.le (ba [41])
  have hty := rtake_law hg4 hs ty.le (ba [41])
  rw [List.set_set] at htx hty
  simp only [callK_ret1 hx, callK_ret1 hy, callK_ret0 htx, callK_ret0 hty, List.getD_cons_zero, fits_lv, cell_lv, grd, Bool.and_self, cond_true, Option.bind_some]
  cases h3 : strIs (tokV s (rnextV s st).2.p).t [115]
  case true => rfl
  cases h4 : strIs (tokV s (rnextV s st).2.p).t [109, 97, 120]
  case true => rfl
  cases h5 : strIs (tokV s (rnextV s st).2.p).t [105, 109, 97, 120]
  case true => rfl
  rfl
def parseV (s : ByteArray) : Lv × Int × Int :=
 bif decide ((s.size : Int) > 20000) then (.zero, 2, 0) else
 let x := rlevelV (s.size + 1) s ⟨0, 0, 0⟩
 let d := rdoneV s x.2
 bif d.c != 0 then (.zero, d.c, d.a) else (x.1, d.c, d.a)
theorem parseLevel_law (s : ByteArray) (hs : s.size < 2 ^ 61) (σ : Sto) : ∃ σ', lim C 20 [(.str s, false)] σ = some (.ret [(.agg [.int .i64 (parseV s).1.kind, .str (parseV s).1.name, .slice 3 44 (parseV s).1.args], false), (.agg [.int .i64 (parseV s).2.1, .int .i64 (parseV s).2.2], false)], σ ++ σ') := by
 cases hb : decide ((s.size : Int) > 20000)
 ·have h : (σ ++ [RS.cells s ⟨0, 0, 0⟩])[σ.length]? = some (RS.cells s ⟨0, 0, 0⟩) := by simp
  have h1 := rlevel_law hs (s.size + 1) ⟨0, 0, 0⟩ _ h (by simp) (.inr (by simp)) (by omega)
  have tk := rlevel_took s (s.size + 1) ⟨0, 0, 0⟩ (by simp) (.inr (by simp))
  have hg : ∀ x : List Cell, (σ ++ [RS.cells s ⟨0, 0, 0⟩]).set σ.length x = σ ++ [x] := fun x => by rw [List.set_append_right _ _ (Nat.le_refl _)]; simp
  rw [hg] at h1
  have h2' : (σ ++ [(rlevelV (s.size + 1) s ⟨0, 0, 0⟩).2.cells s])[σ.length]? = some ((rlevelV (s.size + 1) s ⟨0, 0, 0⟩).2.cells s) := by simp
  have h2 := rdone_law h2' hs tk.le
  have hg2 : ∀ x : List Cell, (σ ++ [(rlevelV (s.size + 1) s ⟨0, 0, 0⟩).2.cells s]).set σ.length x = σ ++ [x] := fun x => by rw [List.set_append_right _ _ (Nat.le_refl _)]; simp
  rw [hg2] at h2
  refine ⟨[(rdoneV s (rlevelV (s.size + 1) s ⟨0, 0, 0⟩).2).cells s], parseLevel_lim (n := 0) ?_⟩
  have e0 : [((V.str s), false), ((V.int .i64 (0 : Int)), false), ((V.int .i64 (0 : Int)), false), ((V.int .i64 (0 : Int)), false)] = RS.cells s ⟨0, 0, 0⟩ := rfl
  simp only [parseLevel, parseLevelF, hb, cond_false, e0, callK_ret1 h1, List.getD_cons_zero, fits_lv, grd, cond_true, Option.bind_some, callK_ret1 h2, parseV]
  cases hd : (rdoneV s (rlevelV (s.size + 1) s ⟨0, 0, 0⟩).2).c != 0
  ·simp [V.fits, V.asInt, V.cell, hd]
  ·simp [V.fits, V.asInt, V.cell, hd]
   first | rfl | exact ⟨rfl, rfl, rfl⟩
 ·refine ⟨[], parseLevel_lim (n := 0) ?_⟩
  simp only [parseLevel, parseLevelF, hb, cond_true, parseV, List.append_nil]
  rfl
end Go.Ab.Mk
end
section
namespace Go.Ab.Mk
open Go.Proofs Go.Ab
theorem scan_all {f : Int → Bool} {s : ByteArray} : ∀ (k i : Nat), s.size - i = k → ∀ j, i ≤ j → j < scan f s i → f (byteAt s j) = true
 | k, i, hk, j, h1, h2 => by
  by_cases h : i < s.size ∧ f (byteAt s i) = true
  ·rw [scan_go h.1 h.2] at h2
   rcases Nat.eq_or_lt_of_le h1 with rfl | h1
   ·exact h.2
   ·exact scan_all (k - 1) (i + 1) (by omega) j h1 h2
  ·rw [scan_stop h] at h2; omega
theorem byteAt_ext {s : ByteArray} {i q j : Nat} (h : i + j < q) (hq : q ≤ s.size) : byteAt (s.extract i q) j = byteAt s (i + j) := by
 have h1 : (s.extract i q).data.toList.getD j 0 = s.data.toList.getD (i + j) 0 := by
  rw [ByteArray.data_extract]
  simp only [List.getD, Array.getElem?_toList, Array.getElem?_extract]
  have hq' : q ≤ s.data.size := hq
  rw [if_pos (by omega)]
 simp only [byteAt, h1]
end Go.Ab.Mk
end
section
namespace Go.Ab.Mk
open Go.Proofs Go.Ab
def numFrom (s : ByteArray) (i : Nat) (acc : Nat) : Nat := if i < s.size then numFrom s (i + 1) (10 * acc + ((byteAt s i).toNat - 48)) else acc
termination_by s.size - i
theorem numFrom_go {s : ByteArray} {i acc : Nat} (h : i < s.size) : numFrom s i acc = numFrom s (i + 1) (10 * acc + ((byteAt s i).toNat - 48)) := by rw [numFrom, if_pos h]
theorem numFrom_end {s : ByteArray} {i acc : Nat} (h : ¬ i < s.size) : numFrom s i acc = acc := by rw [numFrom, if_neg h]
def numV (s : ByteArray) : Nat := numFrom s 0 0
structure Digits (s : ByteArray) : Prop where
 pos : 0 < s.size
 few : s.size ≤ 5
 all : ∀ i, i < s.size → isDigit (byteAt s i) = true
theorem Digits.byte {s : ByteArray} (h : Digits s) {i : Nat} (hi : i < s.size) : ∃ n : Nat, byteAt s i = (n : Int) ∧ 48 ≤ n ∧ n ≤ 57 := by
 have := h.all i hi
 simp only [isDigit, Bool.and_eq_true, decide_eq_true_eq] at this
 exact ⟨(byteAt s i).toNat, by omega, by omega, by omega⟩
theorem tok_num {s : ByteArray} {p : Nat} (hp : p ≤ s.size) (hok : (tokV s p).ok = true) (h0 : isNo (tokV s p).t = false) (h35 : byteAt (tokV s p).t 0 = 35) : Digits ((tokV s p).t.extract 1 (tokV s p).t.size) := by
  have h1 := le_scan isBlank s p
  have h2 := scan_le (f := isBlank) hp
  unfold tokV at hok h0 h35 ⊢
  generalize scan isBlank s p = i at h1 h2 hok h0 h35 ⊢
  by_cases hi : i = s.size
  · have : tokAt s i = ⟨ByteArray.mk #[], i, true⟩ := by unfold tokAt; simp [hi]
    rw [this] at h0; simp [isNo] at h0
  · have hlt : i < s.size := by omega
    have hz := isNo_size h0
    -- the token begins where it lies
    have hb : ∀ q, i + 1 ≤ q → q ≤ s.size → byteAt (s.extract i q) 0 = byteAt s i := fun q hq1 hq2 => byteAt_ext (by omega) hq2
    unfold tokAt at hok h0 h35 hz ⊢
    have hib : (i == s.size) = false := by simpa using hi
    simp only [hib, cond_false] at hok h0 h35 hz ⊢
    cases e40 : byteAt s i == 40
    case true =>
      simp only [e40, cond_true] at hok h0 h35 hz ⊢
      rw [hb _ (Nat.le_refl _) (by omega)] at h35
      simp only [beq_iff_eq] at e40; omega
    cases e41 : byteAt s i == 41
    case true =>
      simp only [e40, e41, cond_true, cond_false] at hok h0 h35 hz ⊢
      rw [hb _ (Nat.le_refl _) (by omega)] at h35
      simp only [beq_iff_eq] at e41; omega
    simp only [e40, e41, cond_false] at hok h0 h35 hz ⊢
    cases enm : nmByte (byteAt s i) true
    case true =>
      simp only [enm, cond_true] at hok h0 h35 hz ⊢
      have g1 := le_scan (nmByte · false) s (i + 1)
      have g2 := scan_le (f := (nmByte · false)) (s := s) (i := i + 1) (by omega)
      generalize scan (nmByte · false) s (i + 1) = q at g1 g2 hok h0 h35 hz ⊢
      unfold nmTok at hok h0 h35 hz ⊢
      cases e : decide (q - i > 40)
      · simp only [e, cond_false] at hok h0 h35 hz ⊢
        rw [hb q g1 g2] at h35
        rw [h35] at enm
        exact absurd enm (by decide)
      · simp [e, Tok.no] at hok
    simp only [enm, cond_false] at hok h0 h35 hz ⊢
    cases e35 : (byteAt s i == 35 || isDigit (byteAt s i))
    case false => simp [e35, Tok.no] at hok
    simp only [e35, cond_true] at hok h0 h35 hz ⊢
    have g1 := le_scan isDigit s (i + 1)
    have g2 := scan_le (f := isDigit) (s := s) (i := i + 1) (by omega)
    have g3 := scan_all (f := isDigit) (s := s) _ (i + 1) rfl
    generalize scan isDigit s (i + 1) = q at g1 g2 g3 hok h0 h35 hz ⊢
    have hok' : (numTok s i q (byteAt s i)) = ⟨s.extract i q, i, true⟩ ∧ (byteAt s i = 35 → 1 ≤ q - (i + 1) ∧ q - (i + 1) ≤ 5) := by
      simp only [numTok] at hok ⊢
      generalize hd : (bif byteAt s i == 35 then i + 1 else i) = d at hok ⊢
      cases c1 : q == d
      · cases c2 : decide (q - d > 5)
        · cases c3 : (decide (q - d > 1) && byteAt s d == 48)
          · refine ⟨rfl, fun h => ?_⟩
            simp only [h, beq_self_eq_true, cond_true] at hd
            subst hd
            simp at c1 c2
            omega
          · simp [c1, c2, c3, Tok.no] at hok
        · simp [c1, c2, Tok.no] at hok
      · simp [c1, Tok.no] at hok
    rw [hok'.1] at h35 ⊢
    simp only at h35 ⊢
    rw [hb q g1 g2] at h35
    obtain ⟨f1, f2⟩ := hok'.2 h35
    have hsz : (s.extract i q).size = q - i := by rw [ByteArray.size_extract]; omega
    have hsz2 : ((s.extract i q).extract 1 (s.extract i q).size).size = q - (i + 1) := by rw [ByteArray.size_extract]; omega
    refine ⟨by rw [hsz2]; omega, by rw [hsz2]; omega, fun j hj => ?_⟩
    rw [hsz2] at hj
    rw [byteAt_ext (by rw [hsz]; omega) (Nat.le_refl _), byteAt_ext (by omega) g2]
    exact g3 _ (by omega) (by omega)
theorem num_lt {s : ByteArray} (h : Digits s) : ∀ (k i acc : Nat), s.size - i = k → numFrom s i acc + 1 ≤ (acc + 1) * 10 ^ k
 | 0, i, acc, hk => by rw [numFrom_end (by omega)]; simp
 | k + 1, i, acc, hk => by
  rw [numFrom_go (by omega)]
  have := num_lt h k (i + 1) (10 * acc + ((byteAt s i).toNat - 48)) (by omega)
  obtain ⟨n, h1, h2, h3⟩ := h.byte (i := i) (by omega)
  refine Nat.le_trans this ?_
  rw [h1, Nat.pow_succ, Nat.mul_comm (10 ^ k) 10, ← Nat.mul_assoc]
  refine Nat.mul_le_mul_right _ ?_
  simp; omega
def wordIx (t : ByteArray) : Nat :=
 bif strIs t [115, 111, 114, 116] then 1 else bif strIs t [99, 111, 110, 115, 116] then 2 else bif strIs t [97, 112, 112] then 3 else
 bif strIs t [108, 97, 109] then 4 else bif strIs t [112, 105] then 5 else bif strIs t [108, 101, 116] then 6 else 0
def rnameV (s : ByteArray) (st : RS) : ByteArray × RS :=
 let k := tokV s st.p
 let st1 := bif !k.ok || !isNameV k.t then rfailV st k.at_ else st
 bif st1.c != 0 then (ByteArray.mk #[], st1) else (k.t, ⟨k.at_ + k.t.size, st1.c, st1.a⟩)
def rlvsV : Nat → ByteArray → RS → List Lv × RS
 | 0, _, st => ([], st)
 | n + 1, s, st =>
  bif st.c != 0 then ([], st) else
  bif strIs (tokV s st.p).t [41] then ([], st) else
  let x := rlevelV (s.size + 1) s st
  let y := rlvsV n s x.2
  (x.1 :: y.1, y.2)
def tm2 (rec : RS → Tm × RS) (s : ByteArray) (f : Tm → Tm → Tm) (st : RS) : Tm × RS := (f (rec st).1 (rec (rec st).2).1, rtakeV s (rec (rec st).2).2 (ba [41]))
def tm3 (rec : RS → Tm × RS) (s : ByteArray) (f : Tm → Tm → Tm → Tm) (st : RS) : Tm × RS :=
 (f (rec st).1 (rec (rec st).2).1 (rec (rec (rec st).2).2).1, rtakeV s (rec (rec (rec st).2).2).2 (ba [41]))
def tmB (rec : RS → Tm × RS) (s : ByteArray) (k : Nat) (st : RS) : Tm × RS :=
 match k with
 | 1 => (.sort (rlevelV (s.size + 1) s st).1, rtakeV s (rlevelV (s.size + 1) s st).2 (ba [41]))
 | 2 => (.const (rnameV s st).1 (rlvsV (s.size + 10) s (rnameV s st).2).1, rtakeV s (rlvsV (s.size + 10) s (rnameV s st).2).2 (ba [41]))
 | 3 => tm2 rec s .app st
 | 4 => tm2 rec s .lam st
 | 5 => tm2 rec s .pi st
 | _ => tm3 rec s .letin st
def tmP (rec : RS → Tm × RS) (s : ByteArray) (st : RS) : Tm × RS :=
 bif wordIx (tokV s st.p).t == 0 then (.var 0, rfailV st (tokV s st.p).at_) else tmB rec s (wordIx (tokV s st.p).t) (rnextV s st).2
def badTok (k : Tok) : Bool := !k.ok || (isNo k.t || (!(byteAt k.t 0 == 35) && !strIs k.t [40]))
def rtermV : Nat → ByteArray → RS → Tm × RS
 | 0, _, st => (.var 0, st)
 | n + 1, s, st =>
  bif st.c != 0 then (.var 0, st) else
  bif badTok (tokV s st.p) then (.var 0, rfailV st (tokV s st.p).at_) else
  bif strIs (tokV s st.p).t [40] then tmP (rtermV n s) s (rnextV s st).2 else
  (.var (numV ((tokV s st.p).t.extract 1 (tokV s st.p).t.size)), (rnextV s st).2)
theorem rterm_stuck {n : Nat} {s : ByteArray} {st : RS} (h : st.c ≠ 0) : rtermV n s st = (.var 0, st) := by
 cases n with
 | zero => rfl
 | succ n =>
  have h2 : (st.c != 0) = true := by simpa using h
  rw [rtermV, h2]; rfl
theorem rlvs_stuck {n : Nat} {s : ByteArray} {st : RS} (h : st.c ≠ 0) : rlvsV n s st = ([], st) := by
 cases n with
 | zero => rfl
 | succ n =>
  have h2 : (st.c != 0) = true := by simpa using h
  rw [rlvsV, h2]; rfl
structure Gone (s : ByteArray) (st st' : RS) : Prop where
 le : st'.p ≤ s.size
 ok : st'.c = 0 → st.c = 0 ∧ st.p ≤ st'.p
structure Goes (s : ByteArray) (st st' : RS) : Prop where
 le : st'.p ≤ s.size
 ok : st'.c = 0 → st.c = 0 ∧ st.p < st'.p
theorem Goes.gone {s : ByteArray} {a b : RS} (h : Goes s a b) : Gone s a b := ⟨h.le, fun e => ⟨(h.ok e).1, Nat.le_of_lt (h.ok e).2⟩⟩
theorem Goes.trans {s : ByteArray} {a b c : RS} (h : Goes s a b) (k : Gone s b c) : Goes s a c := ⟨k.le, fun e => ⟨(h.ok (k.ok e).1).1, by have := (h.ok (k.ok e).1).2; have := (k.ok e).2; omega⟩⟩
theorem Gone.trans {s : ByteArray} {a b c : RS} (h : Gone s a b) (k : Gone s b c) : Gone s a c := ⟨k.le, fun e => ⟨(h.ok (k.ok e).1).1, by have := (h.ok (k.ok e).1).2; have := (k.ok e).2; omega⟩⟩
theorem Gone.refl {s : ByteArray} {a : RS} (h : a.p ≤ s.size) : Gone s a a := ⟨h, fun e => ⟨e, Nat.le_refl _⟩⟩
theorem rfail_gone {s : ByteArray} {st : RS} (h : st.p ≤ s.size) (i : Nat) : Goes s st (rfailV st i) := ⟨by rw [rfail_p]; exact h, fun e => absurd e (rfail_c _ _)⟩
theorem rnext_goes {s : ByteArray} {st : RS} (h : st.p ≤ s.size) : Goes s st (rnextV s st).2 := by
 obtain ⟨a, b⟩ := rnext_p h
 refine ⟨a, fun e => ?_⟩
 obtain ⟨c, d, f⟩ := b e
 have := isNo_size d
 have := (tokV_ok s h).ge
 exact ⟨c, by omega⟩
theorem rtake_gone {s : ByteArray} {st : RS} (h : st.p ≤ s.size) (w : ByteArray) : Gone s st (rtakeV s st w) := by
 obtain ⟨k1, k2, k3⟩ := tokV_ok s h
 unfold rtakeV
 by_cases hc : st.c = 0
 ·simp only
  cases hx : (!(tokV s st.p).ok || !((tokV s st.p).t.toList == w.toList))
  ·simp only [cond_false, hc, beq_self_eq_true, cond_true]
   exact ⟨by simpa using k2, fun _ => ⟨hc, by simp only; omega⟩⟩
  ·have hf : ((rfailV st (tokV s st.p).at_).c == 0) = false := by simpa using rfail_c st (tokV s st.p).at_
   simp only [cond_true, hf, cond_false]
   exact (rfail_gone h _).gone
 ·have h1 : (st.c == 0) = false := by simpa using hc
  have : rfailV st (tokV s st.p).at_ = st := by unfold rfailV; rw [h1]; rfl
  simp only [this]
  cases (!(tokV s st.p).ok || !((tokV s st.p).t.toList == w.toList)) <;> simp only [cond_true, cond_false, h1] <;> exact Gone.refl h
theorem rname_goes {s : ByteArray} {st : RS} (h : st.p ≤ s.size) : Goes s st (rnameV s st).2 := by
 obtain ⟨k1, k2, k3⟩ := tokV_ok s h
 unfold rnameV
 by_cases hc : st.c = 0
 ·simp only
  cases hx : (!(tokV s st.p).ok || !isNameV (tokV s st.p).t)
  ·simp only [cond_false, hc, bne_self_eq_false]
   refine ⟨by simpa using k2, fun _ => ⟨hc, ?_⟩⟩
   simp only [Bool.or_eq_false_iff, Bool.not_eq_false', isNameV, Bool.and_eq_true, Bool.not_eq_true'] at hx
   have := isNo_size hx.2.1
   simp only; omega
  ·have hf : ((rfailV st (tokV s st.p).at_).c != 0) = true := by simpa using rfail_c st (tokV s st.p).at_
   simp only [cond_true, hf]
   exact rfail_gone h _
 ·have h1 : (st.c == 0) = false := by simpa using hc
  have h2 : (st.c != 0) = true := by simpa using hc
  have : rfailV st (tokV s st.p).at_ = st := by unfold rfailV; rw [h1]; rfl
  simp only [this]
  cases (!(tokV s st.p).ok || !isNameV (tokV s st.p).t) <;> simp only [cond_true, cond_false, h2] <;> exact ⟨h, fun e => absurd e hc⟩
theorem rlevel_goes {s : ByteArray} {st : RS} (h : st.p ≤ s.size) : Goes s st (rlevelV (s.size + 1) s st).2 := by
 have := rlevel_took s (s.size + 1) st h (.inr (by omega))
 exact ⟨this.le, fun e => ⟨(this.ok e).1, (this.ok e).2.2.2.1⟩⟩
theorem rlvs_gone (s : ByteArray) : ∀ (n : Nat) (st : RS), st.p ≤ s.size → Gone s st (rlvsV n s st).2
 | 0, st, h => Gone.refl h
 | n + 1, st, h => by
  unfold rlvsV
  cases st.c != 0
  ·cases strIs (tokV s st.p).t [41]
   ·exact (rlevel_goes h).gone.trans (rlvs_gone s n _ (rlevel_goes h).le)
   ·exact Gone.refl h
  ·exact Gone.refl h
theorem rterm_goes (s : ByteArray) : ∀ (n : Nat) (st : RS), st.p ≤ s.size → (st.c ≠ 0 ∨ s.size - st.p < n) → Goes s st (rtermV n s st).2
 | 0, st, hp, hn => ⟨hp, fun h => by rcases hn with hn | hn; exact absurd h hn; omega⟩
 | n + 1, st, hp, hn => by
  by_cases hc : st.c = 0
  case neg => rw [rterm_stuck hc]; exact ⟨hp, fun h => absurd h hc⟩
  have hc' : (st.c != 0) = false := by simp [hc]
  have g1 := rnext_goes hp
  simp only [rtermV, hc', cond_false]
  cases badTok (tokV s st.p)
  case true => exact rfail_gone hp _
  cases strIs (tokV s st.p).t [40]
  case false => exact g1
  simp only [cond_true, cond_false, tmP]
  cases wordIx (tokV s (rnextV s st).2.p).t == 0
  case true => exact g1.trans (rfail_gone g1.le _).gone
  have g2 := g1.trans (rnext_goes g1.le).gone
  simp only [cond_false]
  have hn2 : ∀ st', Goes s st st' → st'.c ≠ 0 ∨ s.size - st'.p < n := by
   intro st' h
   by_cases hz : st'.c = 0
   ·have := (h.ok hz).2
    have := h.le
    rcases hn with hn | hn
    ·exact absurd hc hn
    ·right; omega
   ·exact .inl hz
  generalize (rnextV s (rnextV s st).2).2 = st2 at g2
  have k1 : Goes s st (rtermV n s st2).2 := g2.trans (rterm_goes s n st2 g2.le (hn2 _ g2)).gone
  have k2 : Goes s st (rtermV n s (rtermV n s st2).2).2 := k1.trans (rterm_goes s n _ k1.le (hn2 _ k1)).gone
  have k3 : Goes s st (rtermV n s (rtermV n s (rtermV n s st2).2).2).2 := k2.trans (rterm_goes s n _ k2.le (hn2 _ k2)).gone
  unfold tmB
  split
  ·have := g2.trans (rlevel_goes g2.le).gone
   exact this.trans (rtake_gone this.le _)
  ·have := (g2.trans (rname_goes g2.le).gone)
   have := this.trans (rlvs_gone s (s.size + 10) _ this.le)
   exact this.trans (rtake_gone this.le _)
  ·exact k2.trans (rtake_gone k2.le _)
  ·exact k2.trans (rtake_gone k2.le _)
  ·exact k2.trans (rtake_gone k2.le _)
  ·exact k3.trans (rtake_gone k3.le _)
def tparseV (s : ByteArray) : Tm × Int × Int :=
 bif decide ((s.size : Int) > 20000) then (.var 0, 2, 0) else
 let x := rtermV (s.size + 1) s ⟨0, 0, 0⟩
 let d := rdoneV s x.2
 bif d.c != 0 then (.var 0, d.c, d.a) else (x.1, d.c, d.a)
end Go.Ab.Mk
end
section
namespace Go.Ab.Mk
open Go.Proofs Go.Ab
structure SC where
 at_ : Nat
 tok : ByteArray
 pos : Nat
def SC.cells (s : ByteArray) (st : SC) : List Cell := [(.str s, false), (.int .i64 st.at_, false), (.str st.tok, false), (.int .i64 st.pos, false)]
section
variable {σ : Sto} {r : Nat} {s : ByteArray} {st : SC} {t : TypeId}
end
end Go.Ab.Mk
end
section
namespace Go.Ab.Mk
open Go.Proofs Go.Ab
theorem strIs_ok {s : ByteArray} {p : Nat} (hp : p ≤ s.size) {w : List UInt8} (hw : w ≠ []) (h : strIs (tokV s p).t w = true) : (tokV s p).ok = true ∧ isNo (tokV s p).t = false := by
 have hz := strIs_size h
 have hl : 0 < w.length := List.length_pos_iff.2 hw
 have hn : isNo (tokV s p).t = false := by
  cases hn : isNo (tokV s p).t with
  | false => rfl
  | true =>
   have : strIs (tokV s p).t [] = true := hn
   have h0 := strIs_size this
   simp only [List.length_nil] at h0; omega
 refine ⟨?_, hn⟩
 cases hk : (tokV s p).ok with
 | true => rfl
 | false => have := (tokV_ok s hp).no hk; rw [this] at hn; simp at hn
end Go.Ab.Mk
end
section
namespace Go.Ab.Mk
open Go.Proofs Go.Ab
theorem wrapI {x : Int} (h0 : 0 ≤ x) (h1 : x < 2 ^ 62) : IntKind.wrap .i64 x = x := by
 obtain ⟨n, rfl⟩ := Int.eq_ofNat_of_zero_le h0
 exact wrap_nat (by omega)
theorem wrapU {x : Int} (h0 : 0 ≤ x) (h1 : x < 256) : IntKind.wrap .u8 x = x := by
 unfold IntKind.wrap
 simp [IntKind.bits, IntKind.signed] <;> omega
theorem number_loop (call : CallF) (n : Nat) {t : ByteArray} (ht : Digits t) (σ : Sto) :
  ∀ (m i acc : Nat), i ≤ t.size → t.size - i < m → acc + 1 ≤ 10 ^ i → numberl0 call n m t acc i σ = some (.ret [(.int .i64 (numFrom t i acc), false)], σ)
 | 0, i, _, _, hm, _ => by omega
 | m + 1, i, acc, hi, hm, ha => by
  show numbers0 call (numberl0 call n m) t acc i σ = _
  unfold numbers0
  have hf := ht.few
  by_cases hlt : i < t.size
  ·obtain ⟨b, hb, h1, h2⟩ := ht.byte hlt
   have hp : (10 : Nat) ^ i ≤ 10 ^ 4 := Nat.pow_le_pow_right (by omega) (by omega)
   have hp2 : acc + 1 ≤ 10000 := Nat.le_trans ha hp
   rw [d0, dlt hlt]
   simp only [cond_true, Bool.and_self, grd, Option.bind_some, Int.toNat_natCast, hb]
   have e1 : IntKind.wrap .u8 ((b : Int) - 48) = ((b - 48 : Nat) : Int) := by rw [wrapU (by omega) (by omega)]; omega
   have e2 : IntKind.wrap .i64 ((b - 48 : Nat) : Int) = ((b - 48 : Nat) : Int) := wrap_nat (by omega)
   have e3 : IntKind.wrap .i64 (10 * (acc : Int)) = ((10 * acc : Nat) : Int) := by rw [wrapI (by omega) (by omega)]; omega
   have e4 : IntKind.wrap .i64 (((10 * acc : Nat) : Int) + ((b - 48 : Nat) : Int)) = ((10 * acc + (b - 48) : Nat) : Int) := by rw [wrapI (by omega) (by omega)]; omega
   rw [e1, e2, e3, e4, wrap_succ (show i < 2 ^ 61 by omega), numFrom_go hlt, hb, Int.toNat_natCast]
   exact number_loop call n ht σ m (i + 1) _ (by omega) (by omega) (by rw [Nat.pow_succ]; omega)
  ·rw [dnlt hlt, numFrom_end hlt]; rfl
theorem number_law {t : ByteArray} (ht : Digits t) (σ : Sto) : lim C 77 [(.str t, false)] σ = some (.ret [(.int .i64 (numV t), false)], σ) :=
 number_lim (n := t.size + 1) <| number_loop (lim C) (t.size + 1) ht σ (t.size + 1) 0 0 (by omega) (by omega) (by simp)
def wsort : List UInt8 := [115, 111, 114, 116]
def wconst : List UInt8 := [99, 111, 110, 115, 116]
def wapp : List UInt8 := [97, 112, 112]
def wlam : List UInt8 := [108, 97, 109]
def wpi : List UInt8 := [112, 105]
def wlet : List UInt8 := [108, 101, 116]
theorem strIs_eq {t : ByteArray} {l : List UInt8} (h : strIs t l = true) : t = ba l := by
 rw [strIs, beq_iff_eq, ByteArray.toList_eq, ByteArray.toList_eq] at h
 apply ByteArray.ext
 exact Array.toList_inj.1 h
theorem strIs_ba (a b : List UInt8) : strIs (ba a) b = (a == b) := by rw [strIs, ByteArray.toList_eq, ByteArray.toList_eq]; rfl
theorem word_cases (t : ByteArray) :
  (wordIx t = 0 ∧ strIs t wsort = false ∧ strIs t wconst = false ∧ strIs t wapp = false ∧ strIs t wlam = false ∧ strIs t wpi = false ∧ strIs t wlet = false) ∨
  (wordIx t = 1 ∧ strIs t wsort = true ∧ strIs t wconst = false ∧ strIs t wapp = false ∧ strIs t wlam = false ∧ strIs t wpi = false ∧ strIs t wlet = false) ∨
  (wordIx t = 2 ∧ strIs t wsort = false ∧ strIs t wconst = true ∧ strIs t wapp = false ∧ strIs t wlam = false ∧ strIs t wpi = false ∧ strIs t wlet = false) ∨
  (wordIx t = 3 ∧ strIs t wsort = false ∧ strIs t wconst = false ∧ strIs t wapp = true ∧ strIs t wlam = false ∧ strIs t wpi = false ∧ strIs t wlet = false) ∨
  (wordIx t = 4 ∧ strIs t wsort = false ∧ strIs t wconst = false ∧ strIs t wapp = false ∧ strIs t wlam = true ∧ strIs t wpi = false ∧ strIs t wlet = false) ∨
  (wordIx t = 5 ∧ strIs t wsort = false ∧ strIs t wconst = false ∧ strIs t wapp = false ∧ strIs t wlam = false ∧ strIs t wpi = true ∧ strIs t wlet = false) ∨
  (wordIx t = 6 ∧ strIs t wsort = false ∧ strIs t wconst = false ∧ strIs t wapp = false ∧ strIs t wlam = false ∧ strIs t wpi = false ∧ strIs t wlet = true) := by
 unfold wordIx
 have f1 : [115, 111, 114, 116] = wsort := rfl
 have f2 : [99, 111, 110, 115, 116] = wconst := rfl
 have f3 : [97, 112, 112] = wapp := rfl
 have f4 : [108, 97, 109] = wlam := rfl
 have f5 : [112, 105] = wpi := rfl
 have f6 : [108, 101, 116] = wlet := rfl
 rw [f1, f2, f3, f4, f5, f6]
 cases h1 : strIs t wsort
 case true => rw [strIs_eq h1]; simp only [strIs_ba]; decide
 cases h2 : strIs t wconst
 case true => rw [strIs_eq h2]; simp only [strIs_ba]; decide
 cases h3 : strIs t wapp
 case true => rw [strIs_eq h3]; simp only [strIs_ba]; decide
 cases h4 : strIs t wlam
 case true => rw [strIs_eq h4]; simp only [strIs_ba]; decide
 cases h5 : strIs t wpi
 case true => rw [strIs_eq h5]; simp only [strIs_ba]; decide
 cases h6 : strIs t wlet
 case true => decide
 exact .inl ⟨rfl, rfl, rfl, rfl, rfl, rfl, rfl⟩
theorem wordIx_le (t : ByteArray) : wordIx t ≤ 6 := by
 rcases word_cases t with h | h | h | h | h | h | h <;> (rw [h.1]; decide)
def words6 : List ByteArray := [ba wsort, ba wconst, ba wapp, ba wlam, ba wpi, ba wlet]
end Go.Ab.Mk
end
section
namespace Go.Ab.Mk
open Go.Proofs Go.Ab
theorem rname_law {σ : Sto} {r : Nat} {s : ByteArray} {st : RS} (h : σ[r]? = some (st.cells s)) (hs : s.size < 2 ^ 61) (hp : st.p ≤ s.size) :
  lim C 78 [(.ptr 65 r 0, false)] σ = some (.ret [(.str (rnameV s st).1, false)], σ.set r ((rnameV s st).2.cells s)) :=
 rname_lim (n := 0) <| by
  obtain ⟨hk1, hk2, hk3⟩ := tokV_ok s hp
  have ht := token_law h hs hp
  have hi := isName_law (tokV s st.p).t σ
  have hw : IntKind.wrap .i64 (((tokV s st.p).at_ : Int) + ((tokV s st.p).t.size : Int)) = (((tokV s st.p).at_ + (tokV s st.p).t.size : Nat) : Int) := wrap_add (by omega)
  have fin : ∀ st1 : RS, ∀ σ1 : Sto, σ1[r]? = some (st1.cells s) → st1.p = st.p → σ1 = σ.set r (st1.cells s) →
    (bif st1.c != 0 then some (End.ret [(V.str (ByteArray.mk #[]), false)], σ1) else
     (memSet σ1 (.ptr 65 r 1) [(.int .i64 (IntKind.wrap .i64 (((tokV s st.p).at_ : Int) + ((tokV s st.p).t.size : Int))), false)]).bind fun m => some (End.ret [(V.str (tokV s st.p).t, false)], m)) =
    some (.ret [(.str (bif st1.c != 0 then (ByteArray.mk #[], st1) else ((tokV s st.p).t, (⟨(tokV s st.p).at_ + (tokV s st.p).t.size, st1.c, st1.a⟩ : RS))).1, false)],
     σ.set r ((bif st1.c != 0 then (ByteArray.mk #[], st1) else ((tokV s st.p).t, (⟨(tokV s st.p).at_ + (tokV s st.p).t.size, st1.c, st1.a⟩ : RS))).2.cells s)) := by
   intro st1 σ1 h1 hp1 hσ
   rw [hw, rset1 h1]
   cases st1.c != 0
   ·simp only [cond_false, Option.bind_some]
    rw [hσ, List.set_set]
   ·simp only [cond_true]
    rw [hσ]
  simp only [rname, rnameF, callK_ret3 ht rfl, tok0, tok1, tok2, callK_ret1 hi, List.getD_cons_zero, V.asBool, V.asStr, V.asInt, if_true, Option.bind_some, rnameV]
  have hf := rfail_law h (tokV s st.p).at_
  have hg : (σ.set r ((rfailV st (tokV s st.p).at_).cells s))[r]? = some ((rfailV st (tokV s st.p).at_).cells s) := set_get h
  have hfp : (rfailV st (tokV s st.p).at_).p = st.p := rfail_p _ _
  cases hok : (tokV s st.p).ok
  ·simp only [Bool.not_false, cond_true, Bool.true_or, callK_ret0 hf, rd2 hg, Option.bind_some, V.asInt, if_true]
   exact fin _ _ hg hfp rfl
  ·simp only [Bool.not_true, cond_false, Bool.false_or]
   cases hno : isNameV (tokV s st.p).t
   ·simp only [Bool.not_false, cond_true, callK_ret0 hf, rd2 hg, Option.bind_some, V.asInt, if_true]
    exact fin _ _ hg hfp rfl
   ·simp only [Bool.not_true, cond_false, rd2 h, Option.bind_some, V.asInt, if_true]
    exact fin _ _ h rfl (rset_same h).symm
def peekV (s : ByteArray) (st : RS) : ByteArray := bif (tokV s st.p).ok && st.c == 0 then (tokV s st.p).t else ByteArray.mk #[]
theorem rpeek_law {σ : Sto} {r : Nat} {s : ByteArray} {st : RS} (h : σ[r]? = some (st.cells s)) (hs : s.size < 2 ^ 61) (hp : st.p ≤ s.size) :
  lim C 79 [(.ptr 65 r 0, false)] σ = some (.ret [(.str (peekV s st), false)], σ) :=
 rpeek_lim (n := 0) <| by
  have ht := token_law h hs hp
  simp only [rpeek, rpeekF, callK_ret3 ht rfl, tok0, tok1, tok2, V.asBool, V.asInt, if_true, rd2 h, Option.bind_some, peekV]
  have e : (st.c != 0) = !(st.c == 0) := rfl
  rw [e]
  cases (tokV s st.p).ok <;> cases st.c == 0 <;> rfl
theorem peek_close {s : ByteArray} {st : RS} (hp : st.p ≤ s.size) (hc : st.c = 0) : ((peekV s st).toList == (ByteArray.mk #[41]).toList) = strIs (tokV s st.p).t [41] := by
 unfold peekV
 have e : ∀ t : ByteArray, (t.toList == (ByteArray.mk #[41]).toList) = strIs t [41] := fun _ => rfl
 rw [e]
 cases hk : (tokV s st.p).ok
 ·have h1 := (tokV_ok s hp).no hk
  have : strIs (tokV s st.p).t [41] = false := by
   cases h2 : strIs (tokV s st.p).t [41] with
   | false => rfl
   | true => have := (strIs_ok hp (by simp) h2).1; rw [hk] at this; simp at this
  rw [this, hc]
  simp only [Bool.false_and, cond_false]
  rw [strIs, ByteArray.toList_eq, ByteArray.toList_eq]; rfl
 ·simp [hc]
theorem tm_fits (t : Tm) : V.fits t.val true 5 = true := rfl
theorem tm_cell (t : Tm) : [V.cell t.val 0, V.cell t.val 1, V.cell t.val 2, V.cell t.val 3, V.cell t.val 4] = t.enc := by rw [t.enc_eq]; rfl
theorem set_setN {σ : Sto} {r : Nat} {a b : List Cell} : (σ.set r a).set r b = σ.set r b := List.set_set ..
section
variable {N : Nat} {r : Nat} {σ σ' : Sto}
theorem rargs_end {t0 t1 : Int} {t2 : ByteArray} {t3 t4 : List (List V)} {o0 o1 : Int} {o2 : V} {o3 o4 : List (List V)} {m : Nat} {n : Int}
  (h : lim C 71 [(.ptr 65 r 0, false), (.str (ba [41]), false)] σ = some (.ret [], σ')) :
  rterml1 (lim C) N (m + 1) r n n t0 t1 t2 t3 t4 o0 o1 o2 o3 o4 σ = some (.ret [(.agg [.int .i64 o0, .int .i64 o1, o2, .slice 3 44 o3, .slice 5 30 o4], false)], σ') := by
 show rterms1 (lim C) (rterml1 (lim C) N m) r n n t0 t1 t2 t3 t4 o0 o1 o2 o3 o4 σ = _
 unfold rterms1
 have e : decide (n < n) = false := by simp
 have e41 : ByteArray.mk #[41] = ba [41] := rfl
 simp only [e, cond_false, e41, callK_ret0 h]
theorem rargs_go {t0 t1 : Int} {t2 : ByteArray} {t3 t4 : List (List V)} {o0 o1 : Int} {o2 : V} {o3 o4 : List (List V)} {m : Nat} {n i : Int} {x : Tm} (hlt : i < n)
  (h : lim C 59 [(.ptr 65 r 0, false)] σ = some (.ret [(x.val, false)], σ')) (hr : room (o4.length + 1) = true) :
  rterml1 (lim C) N (m + 1) r n i t0 t1 t2 t3 t4 o0 o1 o2 o3 o4 σ = rterml1 (lim C) N m r n (IntKind.wrap .i64 (i + 1)) t0 t1 t2 t3 t4 o0 o1 o2 o3 (o4 ++ [x.enc]) σ' := by
 show rterms1 (lim C) (rterml1 (lim C) N m) r n i t0 t1 t2 t3 t4 o0 o1 o2 o3 o4 σ = _
 unfold rterms1
 simp only [decide_eq_true hlt, cond_true, callK_ret1 h, List.getD_cons_zero, tm_fits, tm_cell, grd, Bool.and_self, Option.bind_some, hr]
end
theorem rlvs_run {N : Nat} (hN : 0 < N) {r : Nat} {s : ByteArray} (hs : s.size ≤ 20000) {t0 t1 : Int} {t2 : ByteArray} {t3 t4 : List (List V)} {o0 o1 : Int} {o2 : V} :
  ∀ (m : Nat) (ls : List Lv) (st : RS) (σ : Sto), σ[r]? = some (st.cells s) → st.p ≤ s.size → ((st.c ≠ 0 ∧ 0 < m) ∨ (ls.length + (s.size - st.p) ≤ 20000 ∧ s.size - st.p + 1 < m)) →
   rterml2 (lim C) N m r 0 t0 t1 t2 t3 t4 o0 o1 o2 (ls.map Lv.enc) [] σ =
    some (.ret [(.agg [.int .i64 o0, .int .i64 o1, o2, .slice 3 44 ((ls ++ (rlvsV m s st).1).map Lv.enc), .slice 5 30 []], false)], σ.set r ((rtakeV s (rlvsV m s st).2 (ba [41])).cells s))
 | 0, _, _, _, _, _, hm => by omega
 | m + 1, ls, st, σ, h, hp, hm => by
  have hs' : s.size < 2 ^ 61 := by omega
  show rterms2 (lim C) (rterml1 (lim C) N N) (rterml2 (lim C) N m) r 0 t0 t1 t2 t3 t4 o0 o1 o2 (ls.map Lv.enc) [] σ = _
  unfold rterms2
  have ht := rtake_law h hs' hp (ba [41])
  have hend : rterml1 (lim C) N N r 0 (0 : Int) t0 t1 t2 t3 t4 o0 o1 o2 (ls.map Lv.enc) [] σ = some (.ret [(.agg [.int .i64 o0, .int .i64 o1, o2, .slice 3 44 (ls.map Lv.enc), .slice 5 30 []], false)], σ.set r ((rtakeV s st (ba [41])).cells s)) := by
   obtain ⟨k, rfl⟩ : ∃ k, N = k + 1 := ⟨N - 1, by omega⟩
   exact rargs_end ht
  simp only [rd2 h, Option.bind_some, V.asInt, if_true]
  by_cases hc : st.c = 0
  case neg =>
   have h1 : (st.c == 0) = false := by simpa using hc
   rw [rlvs_stuck hc]
   simp only [h1, cond_false, hend, List.append_nil]
  have hpk := rpeek_law h hs' hp
  obtain ⟨hb, hm⟩ : ls.length + (s.size - st.p) ≤ 20000 ∧ s.size - st.p + 1 < m + 1 := by
   rcases hm with hm | hm
   ·exact absurd hc hm.1
   ·exact hm
  have h1 : (st.c == 0) = true := by simpa using hc
  have h2 : (st.c != 0) = false := by simp [hc]
  simp only [h1, cond_true, callK_ret1 hpk, List.getD_cons_zero, V.asStr, Option.bind_some, peek_close hp hc, rlvsV, h2, cond_false]
  cases h3 : strIs (tokV s st.p).t [41]
  case true => simp only [Bool.not_true, cond_false, hend, cond_true, List.append_nil]
  have hx := rlevel_law hs' (s.size + 1) st σ h hp (.inr (by omega)) (by omega)
  have hgo := rlevel_goes (s := s) (st := st) hp
  have htk := rlevel_took s (s.size + 1) st hp (.inr (by omega))
  have hroom : room (List.length (ls.map Lv.enc) + 1) = true := room_ok (by simp; omega)
  have hg : (σ.set r ((rlevelV (s.size + 1) s st).2.cells s))[r]? = some ((rlevelV (s.size + 1) s st).2.cells s) := set_get h
  simp only [Bool.not_false, cond_true, callK_ret1 hx, List.getD_cons_zero, fits_lv, cell_lv, grd, Bool.and_self, Option.bind_some, hroom, cond_false]
  have em : List.map Lv.enc ls ++ [(rlevelV (s.size + 1) s st).1.enc] = List.map Lv.enc (ls ++ [(rlevelV (s.size + 1) s st).1]) := by simp
  rw [em]
  have ih := rlvs_run hN hs (t0 := t0) (t1 := t1) (t2 := t2) (t3 := t3) (t4 := t4) (o0 := o0) (o1 := o1) (o2 := o2) m (ls ++ [(rlevelV (s.size + 1) s st).1]) _ _ hg hgo.le (by
   by_cases hz : (rlevelV (s.size + 1) s st).2.c = 0
   ·have hlt := (hgo.ok hz).2
    have hle := hgo.le
    right
    refine ⟨?_, ?_⟩
    ·rw [List.length_append]; simp only [List.length_cons, List.length_nil]; omega
    ·omega
   ·exact .inl ⟨hz, by omega⟩)
  rw [ih, set_setN]
  simp
end Go.Ab.Mk
end
section
namespace Go.Ab.Mk
open Go.Proofs Go.Ab
def words7 : List ByteArray := ByteArray.mk #[] :: words6
def strIs' (a b : ByteArray) : Bool := a.toList == b.toList
theorem rwords_step {N m r : Nat} {w : ByteArray} {wat : V} {k : Int} {i : Nat} (hi : i < 7) {t0 t1 : Int} {t2 : ByteArray} {t3 t4 : List (List V)} {σ : Sto} :
  rterml0 (lim C) N (m + 1) r (.str w) wat k i t0 t1 t2 t3 t4 σ = rterml0 (lim C) N m r (.str w) wat (bif strIs' (words7.getD i (ByteArray.mk #[])) w then (i : Int) else k) ((i + 1 : Nat) : Int) t0 t1 t2 t3 t4 σ := by
 show rterms0 (lim C) (rterml1 (lim C) N N) (rterml2 (lim C) N N) (rterml0 (lim C) N m) r (.str w) wat k i t0 t1 t2 t3 t4 σ = _
 unfold rterms0
 have e : V.asSlice (V.slice 1 9 [[V.str (ByteArray.mk #[])], [V.str (ByteArray.mk #[115, 111, 114, 116])], [V.str (ByteArray.mk #[99, 111, 110, 115, 116])], [V.str (ByteArray.mk #[97, 112, 112])], [V.str (ByteArray.mk #[108, 97, 109])], [V.str (ByteArray.mk #[112, 105])], [V.str (ByteArray.mk #[108, 101, 116])]]) 1 9 = some (strs words7) := rfl
 have hl : (strs words7).length = 7 := rfl
 have hi' : i < words7.length := hi
 have hs : (strs words7).getD (Int.toNat (i : Int)) [] = [V.str words7[i]] := by rw [Int.toNat_natCast]; exact strs_get hi'
 have hw : words7.getD i (ByteArray.mk #[]) = words7[i] := by rw [List.getD_eq_getElem?_getD, List.getElem?_eq_getElem hi']; rfl
 have hd : decide ((i : Int) < ((7 : Nat) : Int)) = true := by simp; omega
 simp only [e, Option.bind_some, hl, hd, cond_true, d0, Bool.and_self, grd, hs, List.getD_cons_zero, V.asStr, wrap_succ (show i < 2 ^ 61 by omega), hw, strIs']
 cases words7[i].toList == w.toList <;> rfl
theorem strIs'_ba (l : List UInt8) (w : ByteArray) : strIs' (ba l) w = strIs w l := by
 unfold strIs' strIs
 rw [Bool.eq_iff_iff, beq_iff_eq, beq_iff_eq]; exact eq_comm
theorem rwords_run {N m r : Nat} {w : ByteArray} {wat : V} {t0 t1 : Int} {t2 : ByteArray} {t3 t4 : List (List V)} {σ : Sto} :
  rterml0 (lim C) N (m + 7) r (.str w) wat 0 1 t0 t1 t2 t3 t4 σ = rterms0 (lim C) (rterml1 (lim C) N N) (rterml2 (lim C) N N) (rterml0 (lim C) N m) r (.str w) wat (wordIx w) ((7 : Nat) : Int) t0 t1 t2 t3 t4 σ := by
 show rterml0 (lim C) N (m + 1 + 1 + 1 + 1 + 1 + 1 + 1) r (.str w) wat 0 ((1 : Nat) : Int) t0 t1 t2 t3 t4 σ = _
 rw [rwords_step (by omega), rwords_step (by omega), rwords_step (by omega), rwords_step (by omega), rwords_step (by omega), rwords_step (by omega)]
 have e1 : words7.getD 1 (ByteArray.mk #[]) = ba wsort := rfl
 have e2 : words7.getD (1 + 1) (ByteArray.mk #[]) = ba wconst := rfl
 have e3 : words7.getD (1 + 1 + 1) (ByteArray.mk #[]) = ba wapp := rfl
 have e4 : words7.getD (1 + 1 + 1 + 1) (ByteArray.mk #[]) = ba wlam := rfl
 have e5 : words7.getD (1 + 1 + 1 + 1 + 1) (ByteArray.mk #[]) = ba wpi := rfl
 have e6 : words7.getD (1 + 1 + 1 + 1 + 1 + 1) (ByteArray.mk #[]) = ba wlet := rfl
 simp only [e1, e2, e3, e4, e5, e6, strIs'_ba]
 have hk : (bif strIs w wlet then (((1 + 1 + 1 + 1 + 1 + 1 : Nat)) : Int) else bif strIs w wpi then ((1 + 1 + 1 + 1 + 1 : Nat) : Int) else bif strIs w wlam then ((1 + 1 + 1 + 1 : Nat) : Int) else bif strIs w wapp then ((1 + 1 + 1 : Nat) : Int) else bif strIs w wconst then ((1 + 1 : Nat) : Int) else bif strIs w wsort then ((1 : Nat) : Int) else 0) = (wordIx w : Int) := by
  rcases word_cases w with ⟨h0, h1, h2, h3, h4, h5, h6⟩ | ⟨h0, h1, h2, h3, h4, h5, h6⟩ | ⟨h0, h1, h2, h3, h4, h5, h6⟩ | ⟨h0, h1, h2, h3, h4, h5, h6⟩ | ⟨h0, h1, h2, h3, h4, h5, h6⟩ | ⟨h0, h1, h2, h3, h4, h5, h6⟩ | ⟨h0, h1, h2, h3, h4, h5, h6⟩ <;> simp [h0, h1, h2, h3, h4, h5, h6]
 rw [hk]
 rfl
theorem rparts_run {N r : Nat} {s : ByteArray} (hs : s.size ≤ 20000) (hN : N = s.size + 10) {n : Nat} {m : Nat} {w : ByteArray} {wat : Nat} {k : Nat} (hk6 : k ≤ 6) {t0 t1 : Int} {t2 : ByteArray} {t3 t4 : List (List V)} {st : RS} {σ : Sto}
  (h : σ[r]? = some (st.cells s)) (hp : st.p ≤ s.size) (hn2 : ∀ st', Goes s st st' → st'.c ≠ 0 ∨ s.size - st'.p < n)
  (rec : ∀ (st' : RS) (σ' : Sto), σ'[r]? = some (st'.cells s) → st'.p ≤ s.size → (st'.c ≠ 0 ∨ s.size - st'.p < n) → lim C 59 [(.ptr 65 r 0, false)] σ' = some (.ret [((rtermV n s st').1.val, false)], σ'.set r ((rtermV n s st').2.cells s))) :
  rterms0 (lim C) (rterml1 (lim C) N N) (rterml2 (lim C) N N) (rterml0 (lim C) N m) r (.str w) (.int .i64 wat) k ((7 : Nat) : Int) t0 t1 t2 t3 t4 σ =
   bif k == 0 then some (.ret [((Tm.var 0).val, false)], σ.set r ((rfailV st wat).cells s)) else
    some (.ret [((tmB (rtermV n s) s k (rnextV s st).2).1.val, false)], σ.set r ((tmB (rtermV n s) s k (rnextV s st).2).2.cells s)) := by
 have hs' : s.size < 2 ^ 61 := by omega
 unfold rterms0
 have e : V.asSlice (V.slice 1 9 [[V.str (ByteArray.mk #[])], [V.str (ByteArray.mk #[115, 111, 114, 116])], [V.str (ByteArray.mk #[99, 111, 110, 115, 116])], [V.str (ByteArray.mk #[97, 112, 112])], [V.str (ByteArray.mk #[108, 97, 109])], [V.str (ByteArray.mk #[112, 105])], [V.str (ByteArray.mk #[108, 101, 116])]]) 1 9 = some (strs words7) := rfl
 have hl : (strs words7).length = 7 := rfl
 have hd : decide (((7 : Nat) : Int) < ((7 : Nat) : Int)) = false := by simp
 have hf := rfail_law h wat
 have hnx := rnext_law h hs' hp
 have g1 := rnext_goes (s := s) (st := st) hp
 have hg1 : (σ.set r ((rnextV s st).2.cells s))[r]? = some ((rnextV s st).2.cells s) := set_get h
 simp only [e, Option.bind_some, hl, hd, cond_false, callK_ret0 hf, callK_ret1 hnx]
 generalize (rnextV s st).2 = st2 at g1 hg1 ⊢
 have r1 : room (0 + 1) = true := by decide
 obtain ⟨N', rfl⟩ : ∃ N', N = N' + 5 := ⟨N - 5, by omega⟩
 have two : ∀ (f : Tm → Tm → Tm) (o0 : Int), (∀ a b, (f a b).val = .agg [.int .i64 o0, .int .i64 0, .str (ByteArray.mk #[]), .slice 3 44 [], .slice 5 30 [a.enc, b.enc]]) →
   rterml1 (lim C) (N' + 5) (N' + 5) r 2 0 t0 t1 t2 t3 t4 o0 0 (.str (ByteArray.mk #[])) [] [] (σ.set r (st2.cells s)) =
    some (.ret [((tm2 (rtermV n s) s f st2).1.val, false)], σ.set r ((tm2 (rtermV n s) s f st2).2.cells s)) := by
  intro f o0 hf
  have ha := rec _ _ hg1 g1.le (hn2 _ g1)
  rw [set_setN] at ha
  have ga : Goes s st (rtermV n s st2).2 := g1.trans (rterm_goes s n st2 g1.le (hn2 _ g1)).gone
  have hga : (σ.set r ((rtermV n s st2).2.cells s))[r]? = some ((rtermV n s st2).2.cells s) := set_get h
  have hb := rec _ _ hga ga.le (hn2 _ ga)
  rw [set_setN] at hb
  have gb : Goes s st (rtermV n s (rtermV n s st2).2).2 := ga.trans (rterm_goes s n _ ga.le (hn2 _ ga)).gone
  have hgb : (σ.set r ((rtermV n s (rtermV n s st2).2).2.cells s))[r]? = some ((rtermV n s (rtermV n s st2).2).2.cells s) := set_get h
  have ht := rtake_law hgb hs' gb.le (ba [41])
  rw [set_setN] at ht
  have w1 : IntKind.wrap .i64 ((0 : Int) + 1) = 1 := by decide
  have w2 : IntKind.wrap .i64 ((1 : Int) + 1) = 2 := by decide
  show rterml1 (lim C) (N' + 5) (N' + 2 + 1 + 1 + 1) r 2 0 t0 t1 t2 t3 t4 o0 0 (.str (ByteArray.mk #[])) [] [] (σ.set r (st2.cells s)) = _
  rw [rargs_go (by omega) ha (room_ok (by simp)), w1, rargs_go (by omega) hb (room_ok (by simp)), w2, rargs_end ht]
  simp only [tm2, hf]
  rfl
 have three : ∀ (f : Tm → Tm → Tm → Tm) (o0 : Int), (∀ a b c, (f a b c).val = .agg [.int .i64 o0, .int .i64 0, .str (ByteArray.mk #[]), .slice 3 44 [], .slice 5 30 [a.enc, b.enc, c.enc]]) →
   rterml1 (lim C) (N' + 5) (N' + 5) r 3 0 t0 t1 t2 t3 t4 o0 0 (.str (ByteArray.mk #[])) [] [] (σ.set r (st2.cells s)) =
    some (.ret [((tm3 (rtermV n s) s f st2).1.val, false)], σ.set r ((tm3 (rtermV n s) s f st2).2.cells s)) := by
  intro f o0 hf
  have ha := rec _ _ hg1 g1.le (hn2 _ g1)
  rw [set_setN] at ha
  have ga : Goes s st (rtermV n s st2).2 := g1.trans (rterm_goes s n st2 g1.le (hn2 _ g1)).gone
  have hga : (σ.set r ((rtermV n s st2).2.cells s))[r]? = some ((rtermV n s st2).2.cells s) := set_get h
  have hb := rec _ _ hga ga.le (hn2 _ ga)
  rw [set_setN] at hb
  have gb : Goes s st (rtermV n s (rtermV n s st2).2).2 := ga.trans (rterm_goes s n _ ga.le (hn2 _ ga)).gone
  have hgb : (σ.set r ((rtermV n s (rtermV n s st2).2).2.cells s))[r]? = some ((rtermV n s (rtermV n s st2).2).2.cells s) := set_get h
  have hc := rec _ _ hgb gb.le (hn2 _ gb)
  rw [set_setN] at hc
  have gc : Goes s st (rtermV n s (rtermV n s (rtermV n s st2).2).2).2 := gb.trans (rterm_goes s n _ gb.le (hn2 _ gb)).gone
  have hgc : (σ.set r ((rtermV n s (rtermV n s (rtermV n s st2).2).2).2.cells s))[r]? = some ((rtermV n s (rtermV n s (rtermV n s st2).2).2).2.cells s) := set_get h
  have ht := rtake_law hgc hs' gc.le (ba [41])
  rw [set_setN] at ht
  have w1 : IntKind.wrap .i64 ((0 : Int) + 1) = 1 := by decide
  have w2 : IntKind.wrap .i64 ((1 : Int) + 1) = 2 := by decide
  have w3 : IntKind.wrap .i64 ((2 : Int) + 1) = 3 := by decide
  show rterml1 (lim C) (N' + 5) (N' + 1 + 1 + 1 + 1 + 1) r 3 0 t0 t1 t2 t3 t4 o0 0 (.str (ByteArray.mk #[])) [] [] (σ.set r (st2.cells s)) = _
  rw [rargs_go (by omega) ha (room_ok (by simp)), w1, rargs_go (by omega) hb (room_ok (by simp)), w2, rargs_go (by omega) hc (room_ok (by simp)), w3, rargs_end ht]
  simp only [tm3, hf]
  rfl
 match k, hk6 with
 | 0, _ => rfl
 | 1, _ =>
  have hx := rlevel_law hs' (s.size + 1) st2 _ hg1 g1.le (.inr (by omega)) (by omega)
  rw [set_setN] at hx
  have gx := g1.trans (rlevel_goes g1.le).gone
  have hgx : (σ.set r ((rlevelV (s.size + 1) s st2).2.cells s))[r]? = some ((rlevelV (s.size + 1) s st2).2.cells s) := set_get h
  have ht := rtake_law hgx hs' gx.le (ba [41])
  rw [set_setN] at ht
  have e1 : (((1 : Nat) : Int) == 0) = false := rfl
  have e2 : (((1 : Nat) : Int) == 1) = true := rfl
  have e3 : ((1 : Nat) == 0) = false := rfl
  simp only [e1, e2, e3, cond_false, cond_true, callK_ret1 hx, List.getD_cons_zero, fits_lv, cell_lv, grd, Bool.and_self, Option.bind_some, r1]
  rw [rargs_end ht]
  rfl
 | 2, _ =>
  have hx := rname_law hg1 hs' g1.le
  rw [set_setN] at hx
  have gx := g1.trans (rname_goes g1.le).gone
  have hgx : (σ.set r ((rnameV s st2).2.cells s))[r]? = some ((rnameV s st2).2.cells s) := set_get h
  have e1 : (((2 : Nat) : Int) == 0) = false := rfl
  have e2 : (((2 : Nat) : Int) == 1) = false := rfl
  have e3 : ((2 : Nat) == 0) = false := rfl
  have e4 : (((2 : Nat) : Int) == 2) = true := rfl
  have ef : ∀ b : ByteArray, V.fits (.str b) false 1 = true := fun _ => rfl
  simp only [e1, e2, e3, e4, cond_false, cond_true, callK_ret1 hx, List.getD_cons_zero, ef, grd, Option.bind_some]
  have hr := rlvs_run (N := N' + 5) (by omega) hs (t0 := t0) (t1 := t1) (t2 := t2) (t3 := t3) (t4 := t4) (o0 := ((2 : Nat) : Int)) (o1 := 0) (o2 := .str (rnameV s st2).1) (N' + 5) [] _ _ hgx gx.le (.inr ⟨by have := gx.le; simp; omega, by omega⟩)
  rw [set_setN] at hr
  simp only [List.map_nil, List.nil_append] at hr
  rw [hr, hN]
  rfl
 | 3, _ => exact two .app 3 (fun _ _ => rfl)
 | 4, _ => exact two .lam 4 (fun _ _ => rfl)
 | 5, _ => exact two .pi 5 (fun _ _ => rfl)
 | 6, _ => exact three .letin 6 (fun _ _ _ => rfl)
theorem rterm_law {r : Nat} {s : ByteArray} (hs : s.size ≤ 20000) : ∀ (n : Nat) (st : RS) (σ : Sto), σ[r]? = some (st.cells s) → st.p ≤ s.size → (st.c ≠ 0 ∨ s.size - st.p < n) →
  lim C 59 [(.ptr 65 r 0, false)] σ = some (.ret [((rtermV n s st).1.val, false)], σ.set r ((rtermV n s st).2.cells s))
 | n, st, σ, h, hp, hn => rterm_lim (n := s.size + 10) <| by
  have hs' : s.size < 2 ^ 61 := by omega
  have ht := token_law h hs' hp
  simp only [rterm, rtermF, callK_ret3 ht rfl, tok0, tok1, tok2, rd2 h, V.asInt, if_true, Option.bind_some]
  by_cases hc : st.c = 0
  case neg =>
   have h2 : (st.c != 0) = true := by simpa using hc
   rw [rterm_stuck hc]
   simp only [h2, cond_true, rset_same h]
   rfl
  obtain ⟨n, rfl⟩ : ∃ k, n = k + 1 := ⟨n - 1, by rcases hn with hn | hn; exact absurd hc hn; omega⟩
  have g1 := rnext_goes (s := s) (st := st) hp
  have hc' : (st.c != 0) = false := by simp [hc]
  have hf := rfail_law h (tokV s st.p).at_
  have hnx := rnext_law h hs' hp
  have e40 : ∀ t : ByteArray, (t.toList == (ByteArray.mk #[40]).toList) = strIs t [40] := fun _ => rfl
  have e0 : ∀ t : ByteArray, (t.toList == (ByteArray.mk #[]).toList) = isNo t := fun _ => rfl
  have e35 : ∀ x : Int, (x != 35) = !(x == 35) := fun _ => rfl
  have hg1 : (σ.set r ((rnextV s st).2.cells s))[r]? = some ((rnextV s st).2.cells s) := set_get h
  have ht2 := token_law hg1 hs' g1.le
  have hn2 : ∀ st', Goes s (rnextV s st).2 st' → st'.c ≠ 0 ∨ s.size - st'.p < n := by
   intro st' h'
   have h := g1.trans h'.gone
   by_cases hz : st'.c = 0
   ·have := (h.ok hz).2
    have := h.le
    rcases hn with hn | hn
    ·exact absurd hc hn
    ·right; omega
   ·exact .inl hz
  have hw := rwords_run (N := s.size + 10) (m := s.size + 3) (r := r) (w := (tokV s (rnextV s st).2.p).t) (wat := .int .i64 (tokV s (rnextV s st).2.p).at_) (t0 := 0) (t1 := 0) (t2 := ByteArray.mk #[]) (t3 := []) (t4 := []) (σ := σ.set r ((rnextV s st).2.cells s))
  have hq := rparts_run (r := r) hs (N := s.size + 10) rfl (n := n) (m := s.size + 3) (w := (tokV s (rnextV s st).2.p).t) (wat := (tokV s (rnextV s st).2.p).at_) (k := wordIx (tokV s (rnextV s st).2.p).t) (wordIx_le _) (t0 := 0) (t1 := 0) (t2 := ByteArray.mk #[]) (t3 := []) (t4 := []) hg1 g1.le hn2
   (fun st' σ' k1 k2 k3 => rterm_law hs n st' σ' k1 k2 k3)
  rw [hq, set_setN, set_setN] at hw
  simp only [hc', cond_false, V.asBool, V.asStr, Option.bind_some, callK_ret0 hf, callK_ret1 hnx, e40, e0, e35, callK_ret3 ht2 rfl, tok0, tok1]
  have hw' : rterml0 (lim C) (s.size + 10) (s.size + 10) r (.str (tokV s (rnextV s st).2.p).t) (.int .i64 (tokV s (rnextV s st).2.p).at_) 0 1 0 0 (ByteArray.mk #[]) [] [] (σ.set r ((rnextV s st).2.cells s)) = _ := hw
  rw [hw']
  simp only [rtermV, hc', cond_false, badTok, tmP]
  clear hw hw' hq
  cases hok : (tokV s st.p).ok
  case false => rfl
  cases hno : isNo (tokV s st.p).t
  case true => rfl
  have hz := isNo_size hno
  have hz' : decide ((0 : Int) < ((tokV s st.p).t.size : Int)) = true := by simp; omega
  have hz2 : decide ((1 : Int) ≤ ((tokV s st.p).t.size : Int)) = true := by simp; omega
  simp only [Bool.not_true, cond_false, Int.le_refl, decide_true, Bool.true_and, hz', grd, cond_true, Option.bind_some, Int.toNat_zero, Bool.false_or]
  cases h40 : strIs (tokV s st.p).t [40]
  case true =>
   simp only [Bool.not_true, cond_false, Bool.and_false, cond_true]
   cases (byteAt (tokV s st.p).t 0 == 35) <;> simp only [Bool.not_true, Bool.not_false, cond_true, cond_false] <;> cases (wordIx (tokV s (rnextV s st).2.p).t == 0) <;> rfl
  cases h35 : byteAt (tokV s st.p).t 0 == 35
  case false => rfl
  have hdg := tok_num hp hok hno (by simpa using h35)
  have hnum := number_law hdg (σ.set r ((rnextV s st).2.cells s))
  have e01 : decide ((0 : Int) ≤ 1) = true := by decide
  have f1 : ∀ x : Int, V.fits (.int .i64 x) false 1 = true := fun _ => rfl
  have t1 : Int.toNat 1 = 1 := rfl
  simp only [Bool.not_true, Bool.not_false, cond_false, cond_true, hz2, e01, t1, Bool.and_self, Bool.and_true, Int.toNat_natCast, callK_ret1 hnum, List.getD_cons_zero, f1, Option.bind_some, Bool.false_and]
  rfl
end Go.Ab.Mk
end
section
namespace Go.Ab.Mk
open Go.Proofs Go.Ab
theorem tl_inj {s t : ByteArray} (h : s.toList = t.toList) : s = t := by
 rw [ByteArray.toList_eq, ByteArray.toList_eq] at h
 apply ByteArray.ext
 exact Array.toList_inj.1 h
theorem has_iff {s : ByteArray} {ps : List ByteArray} : has s ps = true ↔ s ∈ ps := by
 unfold has
 rw [List.any_eq_true]
 constructor
 ·rintro ⟨x, hx, he⟩
  have := tl_inj (beq_iff_eq.1 he)
  rw [← this]; exact hx
 ·intro h
  exact ⟨s, h, by simp⟩
theorem rparams_mem {s : ByteArray} : ∀ {l : Lv} {ps : List ByteArray}, s ∈ rparamsV l ps ↔ s ∈ ps ∨ s ∈ l.pars
 | .param t, ps => by
  simp only [rparamsV, Lv.pars]
  cases h : has t ps with
  | true => simp only [cond_true]; exact ⟨fun h => .inl h, fun h' => by rcases h' with h' | h'; exact h'; rw [List.mem_singleton] at h'; subst h'; exact has_iff.1 h⟩
  | false => simp
 | .zero, ps => by simp [rparamsV, Lv.pars]
 | .succ l, ps => by simp only [rparamsV, Lv.pars]; exact rparams_mem
 | .max a b, ps => by simp only [rparamsV, Lv.pars, rparams_mem (l := b), rparams_mem (l := a), List.mem_append, or_assoc]
 | .imax a b, ps => by simp only [rparamsV, Lv.pars, rparams_mem (l := b), rparams_mem (l := a), List.mem_append, or_assoc]
theorem rparams_nodup : ∀ {l : Lv} {ps : List ByteArray}, ps.Nodup → (rparamsV l ps).Nodup
 | .param t, ps, h => by
  simp only [rparamsV]
  cases ht : has t ps with
  | true => exact h
  | false =>
   simp only [cond_false]
   refine List.nodup_append.2 ⟨h, by simp, fun a ha b hb => ?_⟩
   rw [List.mem_singleton] at hb
   subst hb
   rintro rfl
   rw [has_iff.2 ha] at ht
   simp at ht
 | .zero, ps, h => h
 | .succ l, ps, h => rparams_nodup (l := l) h
 | .max a b, ps, h => rparams_nodup (l := b) (rparams_nodup (l := a) h)
 | .imax a b, ps, h => rparams_nodup (l := b) (rparams_nodup (l := a) h)
theorem nodup_len {α : Type} [DecidableEq α] : ∀ {l m : List α}, l.Nodup → (∀ x ∈ l, x ∈ m) → l.length ≤ m.length
 | [], _, _, _ => by simp
 | x :: l, m, h, hs => by
  have hx := hs x (List.mem_cons_self ..)
  rw [List.nodup_cons] at h
  have := nodup_len (l := l) (m := m.erase x) h.2 (fun y hy => by
   have hne : y ≠ x := fun e => h.1 (e ▸ hy)
   exact (List.mem_erase_of_ne hne).2 (hs y (List.mem_cons_of_mem _ hy)))
  rw [List.length_erase_of_mem hx] at this
  have hpos : 0 < m.length := List.length_pos_of_mem hx
  simp only [List.length_cons]
  omega
theorem params_len (a b : Lv) : (rparamsV b (rparamsV a [])).length ≤ (rparamsV a (rparamsV b [])).length :=
 nodup_len (rparams_nodup (rparams_nodup List.nodup_nil)) fun x hx => by
  rw [rparams_mem, rparams_mem] at hx ⊢
  simp only [List.not_mem_nil, false_or] at hx ⊢
  exact hx.symm
theorem val_le {v : ByteArray → Nat} {M : Nat} : ∀ {l : Lv}, (∀ s ∈ l.pars, v s ≤ M) → l.val v ≤ M + l.sucs
 | .zero, _ => by simp [Lv.val]
 | .succ l, h => by have := val_le (l := l) h; simp only [Lv.val, Lv.sucs]; omega
 | .max a b, h => by
  have h1 := val_le (l := a) fun s hs => h s (List.mem_append_left _ hs)
  have h2 := val_le (l := b) fun s hs => h s (List.mem_append_right _ hs)
  simp only [Lv.val, Lv.sucs]
  exact Nat.max_le.2 ⟨by omega, by omega⟩
 | .imax a b, h => by
  have h1 := val_le (l := a) fun s hs => h s (List.mem_append_left _ hs)
  have h2 := val_le (l := b) fun s hs => h s (List.mem_append_right _ hs)
  simp only [Lv.val, Lv.sucs]
  split
  ·omega
  ·exact Nat.max_le.2 ⟨by omega, by omega⟩
 | .param s, h => by have := h s (by simp [Lv.pars]); simp only [Lv.val, Lv.sucs]; omega
theorem max_cond (x y : Nat) : (bif decide ((y : Int) > (x : Int)) then (y : Int) else (x : Int)) = ((Nat.max x y : Nat) : Int) := by
 cases h : decide ((y : Int) > (x : Int)) with
 | true =>
  have := of_decide_eq_true h
  rw [show Nat.max x y = y from Nat.max_eq_right (by omega)]; rfl
 | false =>
  have := of_decide_eq_false h
  rw [show Nat.max x y = x from Nat.max_eq_left (by omega)]; rfl
theorem rworth_val {P : List ByteArray} {ns : List Int} {v : ByteArray → Nat} {M : Nat} : ∀ {l : Lv}, (∀ s ∈ l.pars, pval s P ns = (v s : Int)) → (∀ s ∈ l.pars, v s ≤ M) → M + l.sucs < 2 ^ 61 → rworthV P ns l = ((l.val v : Nat) : Int)
 | .zero, _, _, _ => rfl
 | .succ l, h, hb, hm => by
  simp only [Lv.sucs] at hm
  have := val_le (l := l) hb
  rw [rworthV, rworth_val (l := l) h hb (by omega), wrap_succ (by omega)]
  rfl
 | .max a b, h, hb, hm => by
  simp only [Lv.sucs] at hm
  rw [rworthV, rworth_val (l := a) (fun s hs => h s (List.mem_append_left _ hs)) (fun s hs => hb s (List.mem_append_left _ hs)) (by omega), rworth_val (l := b) (fun s hs => h s (List.mem_append_right _ hs)) (fun s hs => hb s (List.mem_append_right _ hs)) (by omega), max_cond]
  rfl
 | .imax a b, h, hb, hm => by
  simp only [Lv.sucs] at hm
  rw [rworthV, rworth_val (l := a) (fun s hs => h s (List.mem_append_left _ hs)) (fun s hs => hb s (List.mem_append_left _ hs)) (by omega), rworth_val (l := b) (fun s hs => h s (List.mem_append_right _ hs)) (fun s hs => hb s (List.mem_append_right _ hs)) (by omega), max_cond]
  simp only [Lv.val]
  by_cases h0 : b.val v = 0
  ·simp [h0]
  ·have : (((b.val v : Nat) : Int) == 0) = false := by simp; omega
   rw [this, if_neg h0]; rfl
 | .param s, h, _, _ => h s (by simp [Lv.pars])
def dig : Nat → Nat → List Nat
 | 0, _ => []
 | n + 1, r => (r % 3) :: dig n (r / 3)
def vd (B d : Nat) : Nat := if d = 0 then 0 else if d = 1 then 1 else B
def nsV (B n k : Nat) : List Int := (dig n k).map fun d => (vd B d : Int)
theorem dig_all : ∀ (ds : List Nat), (∀ d ∈ ds, d < 3) → ∃ k, k < 3 ^ ds.length ∧ dig ds.length k = ds
 | [], _ => ⟨0, by simp, rfl⟩
 | d :: ds, h => by
  obtain ⟨k, h1, h2⟩ := dig_all ds fun x hx => h x (List.mem_cons_of_mem _ hx)
  have hd := h d (List.mem_cons_self ..)
  refine ⟨3 * k + d, ?_, ?_⟩
  ·simp only [List.length_cons, Nat.pow_succ]; omega
  ·simp only [List.length_cons, dig]
   have e1 : (3 * k + d) % 3 = d := by omega
   have e2 : (3 * k + d) / 3 = k := by omega
   rw [e1, e2, h2]
theorem pval_map {v : ByteArray → Nat} {s : ByteArray} : ∀ {P : List ByteArray}, s ∈ P → pval s P (P.map fun p => (v p : Int)) = (v s : Int)
 | p :: P, h => by
  simp only [List.map_cons, pval]
  by_cases hp : p.toList = s.toList
  ·have : p = s := tl_inj hp
   subst this; simp
  ·rcases List.mem_cons.1 h with rfl | h
   ·exact absurd rfl hp
   ·simp only [beq_iff_eq, hp, if_false]
    exact pval_map h
theorem pval_of {s : ByteArray} {B : Nat} (hB : 1 ≤ B) : ∀ {P : List ByteArray} {ds : List Nat}, ∃ x : Nat, pval s P (ds.map fun d => (vd B d : Int)) = (x : Int) ∧ x ≤ B
 | [], ds => ⟨0, by cases ds <;> rfl, Nat.zero_le _⟩
 | p :: P, [] => ⟨0, rfl, Nat.zero_le _⟩
 | p :: P, d :: ds => by
  simp only [List.map_cons, pval]
  split
  ·refine ⟨vd B d, rfl, ?_⟩
   unfold vd
   split
   ·omega
   ·split <;> omega
  ·exact pval_of hB
theorem tests_iff {a b : Lv} {P : List ByteArray} (ha : ∀ s ∈ a.pars, s ∈ P) (hb : ∀ s ∈ b.pars, s ∈ P) (hs : a.sucs + b.sucs < 2 ^ 50) :
  (∀ k, k < 3 ^ P.length → rworthV P (nsV (2 + a.sucs + b.sucs) P.length k) a ≤ rworthV P (nsV (2 + a.sucs + b.sucs) P.length k) b) ↔ a.Leq b := by
 constructor
 ·intro h
  refine leq_three (B := 2 + a.sucs + b.sucs) (by omega) fun v hv => ?_
  let d : ByteArray → Nat := fun p => if v p = 0 then 0 else if v p = 1 then 1 else 2
  have hd : ∀ p, vd (2 + a.sucs + b.sucs) (d p) = v p := by
   intro p
   simp only [d, vd]
   rcases hv p with h0 | h0 | h0
   ·simp [h0]
   ·simp [h0]
   ·have e1 : ¬ (v p = 0) := by omega
    have e2 : ¬ (v p = 1) := by omega
    have e3 : ¬ (2 + a.sucs + b.sucs = 1) := by omega
    simp [e1, e2, h0, e3]
  obtain ⟨k, hk, hdig⟩ := dig_all (P.map d) (fun x hx => by
   obtain ⟨p, _, rfl⟩ := List.mem_map.1 hx
   simp only [d]
   split
   ·omega
   ·split <;> omega)
  rw [List.length_map] at hk hdig
  have hns : nsV (2 + a.sucs + b.sucs) P.length k = P.map fun p => (v p : Int) := by
   simp only [nsV, hdig, List.map_map]
   refine List.map_congr_left fun p _ => ?_
   simp only [Function.comp, hd]
  have hM : ∀ p, v p ≤ 2 + a.sucs + b.sucs := fun p => by rcases hv p with h0 | h0 | h0 <;> omega
  have := h k hk
  rw [hns, rworth_val (v := v) (M := 2 + a.sucs + b.sucs) (fun s hs => pval_map (ha s hs)) (fun s _ => hM s) (by omega), rworth_val (v := v) (M := 2 + a.sucs + b.sucs) (fun s hs => pval_map (hb s hs)) (fun s _ => hM s) (by omega)] at this
  omega
 ·intro h k _
  have hx : ∀ s, ∃ x : Nat, pval s P (nsV (2 + a.sucs + b.sucs) P.length k) = (x : Int) ∧ x ≤ 2 + a.sucs + b.sucs := fun s => pval_of (by omega)
  have hv : ∀ s, pval s P (nsV (2 + a.sucs + b.sucs) P.length k) = (((hx s).choose : Nat) : Int) := fun s => (hx s).choose_spec.1
  have hM : ∀ s, (hx s).choose ≤ 2 + a.sucs + b.sucs := fun s => (hx s).choose_spec.2
  rw [rworth_val (v := fun s => (hx s).choose) (M := 2 + a.sucs + b.sucs) (fun s _ => hv s) (fun s _ => hM s) (by omega), rworth_val (v := fun s => (hx s).choose) (M := 2 + a.sucs + b.sucs) (fun s _ => hv s) (fun s _ => hM s) (by omega)]
  have := h (fun s => (hx s).choose)
  omega
theorem tok_size (s : ByteArray) (p : Nat) : (tokV s p).t.size ≤ s.size := by
  have h0 : (ByteArray.mk #[]).size = 0 := rfl
  have he : ∀ i q, (s.extract i q).size ≤ s.size := fun i q => by rw [ByteArray.size_extract]; omega
  have he0 : (ByteArray.mk #[]).size ≤ s.size := by rw [h0]; exact Nat.zero_le _
  unfold tokV tokAt
  generalize scan isBlank s p = i
  cases i == s.size
  · simp only [cond_false]
    cases byteAt s i == 40
    · cases byteAt s i == 41
      · cases nmByte (byteAt s i) true
        · cases (byteAt s i == 35 || isDigit (byteAt s i))
          · exact he0
          · simp only [cond_false, cond_true, numTok]
            generalize (bif byteAt s i == 35 then i + 1 else i) = d
            cases scan isDigit s (i + 1) == d
            · cases decide (scan isDigit s (i + 1) - d > 5)
              · cases (decide (scan isDigit s (i + 1) - d > 1) && byteAt s d == 48)
                · exact he _ _
                · exact he0
              · exact he0
            · exact he0
        · simp only [cond_false, cond_true, nmTok]
          cases decide (scan (nmByte · false) s (i + 1) - i > 40)
          · exact he _ _
          · exact he0
      · exact he _ _
    · exact he _ _
  · exact he0
theorem rlevel_names (s : ByteArray) : ∀ (n : Nat) (st : RS), ∀ x ∈ (rlevelV n s st).1.pars, 0 < x.size ∧ x.size ≤ s.size
 | 0, st => by simp [rlevelV, Lv.pars]
 | n + 1, st => by
  have ih := rlevel_names s n
  unfold rlevelV
  cases st.c != 0
  case true => simp [Lv.pars]
  cases strIs (tokV s st.p).t [48]
  case true => simp [Lv.pars]
  cases h1 : isNameV (tokV s st.p).t
  case true =>
   intro x hx
   simp only [cond_false, cond_true, Lv.pars, List.mem_singleton] at hx
   subst hx
   simp only [isNameV, Bool.and_eq_true, Bool.not_eq_true'] at h1
   exact ⟨isNo_size h1.1, tok_size s st.p⟩
  cases strIs (tokV s st.p).t [40]
  case false => simp [Lv.pars]
  simp only [cond_false, cond_true, lvP]
  have two : ∀ (f : Lv → Lv → Lv) (st : RS), (∀ a b, (f a b).pars = a.pars ++ b.pars) → ∀ x ∈ (lv2 (rlevelV n s) s f st).1.pars, 0 < x.size ∧ x.size ≤ s.size := by
   intro f st hf x hx
   simp only [lv2, hf, List.mem_append] at hx
   rcases hx with hx | hx
   ·exact ih _ x hx
   ·exact ih _ x hx
  cases strIs (tokV s (rnextV s st).2.p).t [115]
  case true => exact ih _
  cases strIs (tokV s (rnextV s st).2.p).t [109, 97, 120]
  case true => exact two .max _ fun _ _ => rfl
  cases strIs (tokV s (rnextV s st).2.p).t [105, 109, 97, 120]
  case true => exact two .imax _ fun _ _ => rfl
  simp [Lv.pars]
theorem sucs_size : ∀ l : Lv, l.sucs ≤ l.size
 | .zero => by simp [Lv.sucs]
 | .param _ => by simp [Lv.sucs]
 | .succ l => by have := sucs_size l; simp only [Lv.sucs, Lv.size]; omega
 | .max a b => by have := sucs_size a; have := sucs_size b; simp only [Lv.sucs, Lv.size]; omega
 | .imax a b => by have := sucs_size a; have := sucs_size b; simp only [Lv.sucs, Lv.size]; omega
end Go.Ab.Mk
end
section
namespace Go.Ab.Mk
open Go.Proofs Go.Ab
open Classical
theorem leq_law {a b : Lv} (ha : GoodL a) (hb : GoodL b) (σ : Sto) :
  lim C 80 [(.agg [.int .i64 a.kind, .str a.name, .slice 3 44 a.args], false), (.agg [.int .i64 b.kind, .str b.name, .slice 3 44 b.args], false)] σ = some (.ret [(.bool (decide (a.Leq b)), false)], σ) :=
 lim_ext (C := C) (f := 80) (s := Mk.leqS) (by kernel_rfl) (Mk.leqS_eq ha hb false false σ)
theorem same_law {a b : Lv} (ha : GoodL a) (hb : GoodL b) (σ : Sto) :
  lim C 63 [(.agg [.int .i64 a.kind, .str a.name, .slice 3 44 a.args], false), (.agg [.int .i64 b.kind, .str b.name, .slice 3 44 b.args], false)] σ = some (.ret [(.bool (decide (a.Leq b) && decide (b.Leq a)), false)], σ) :=
 same_lim (n := 0) <| by
  have h1 := leq_law ha hb σ
  have h2 := leq_law hb ha σ
  simp only [same, sameF, callK_ret1 h1, List.getD_cons_zero, V.asBool, Option.bind_some]
  cases decide (a.Leq b)
  ·rfl
  ·simp only [cond_true, callK_ret1 h2, List.getD_cons_zero, Bool.true_and]
end Go.Ab.Mk
end
section
set_option maxRecDepth 100000
namespace Go.Ab.Ma
open Go.Proofs Go.Ab
open List (getD)
open IntKind (wrap)
noncomputable def lift1F (call : CallF) (b a : Int) (c : ByteArray) (d e : LL) (f : Int) (g h : Nat) (σ : Sto) : Option Res :=
 (memGet σ (V.ptr 3 g 0) false 1).bind fun m1 =>
 (V.asInt m1 .i64).bind fun i2 =>
 bif (decide (a ≥ (wrap .i64 (i2 + f)))) then
 (memGet σ (V.ptr 3 h 0) false 1).bind fun m3 =>
 (V.asInt m3 .i64).bind fun i4 =>
 some (.ret [(V.agg [V.int .i64 b, V.int .i64 (wrap .i64 (a + i4)), V.str c, V.slice 3 44 d, V.slice 5 30 e], false)], σ)
 else
 some (.ret [(V.agg [V.int .i64 b, V.int .i64 a, V.str c, V.slice 3 44 d, V.slice 5 30 e], false)], σ)
noncomputable def lift1 (call : CallF) (n : Nat) (a b : Int) (c : ByteArray) (d e : LL) (f : Int) (g h : Nat) (σ : Sto) : Option Res := lift1F call a b c d e f g h σ
theorem lift1_eqF (call : CallF) (n : Nat) (a b : Int) (c : ByteArray) (d e : LL) (f : Int) (g h : Nat) (σ : Sto) : afun C lift1D call n [(V.agg [V.int .i64 a, V.int .i64 b, V.str c, V.slice 3 44 d, V.slice 5 30 e], false), (V.int .i64 f, false), (V.ptr 3 g 0, false), (V.ptr 3 h 0, false)] σ =
  lift1F call a b c d e f g h σ := by kernel_rfl
theorem lift1_eq (call : CallF) (n : Nat) (a b : Int) (c : ByteArray) (d e : LL) (f : Int) (g h : Nat) (σ : Sto) : afun C lift1D call n [(V.agg [V.int .i64 a, V.int .i64 b, V.str c, V.slice 3 44 d, V.slice 5 30 e], false), (V.int .i64 f, false), (V.ptr 3 g 0, false), (V.ptr 3 h 0, false)] σ = lift1 call n a b c d e f g h σ := lift1_eqF call n a b c d e f g h σ
theorem lift1_lim {n : Nat} {a : Int} {b : Int} {c : ByteArray} {e : LL} {f : LL} {g : Int} {i : Nat} {j : Nat} {b0 b1 b2 b3 : Bool} {σ : Sto} {r : Res} (h : lift1 (lim C) n a b c e f g i j σ = some r) : lim C 34 [(V.agg [V.int .i64 a, V.int .i64 b, V.str c, V.slice 3 44 e, V.slice 5 30 f], b0), (V.int .i64 g, b1), (V.ptr 3 i 0, b2), (V.ptr 3 j 0, b3)] σ = some r :=
 lim_of (d := lift1D) (by kernel_rfl) (by kernel_rfl) n (show afun C lift1D (lim C) n [(V.agg [V.int .i64 a, V.int .i64 b, V.str c, V.slice 3 44 e, V.slice 5 30 f], false), (V.int .i64 g, false), (V.ptr 3 i 0, false), (V.ptr 3 j 0, false)] σ = some r from (lift1_eq (lim C) n a b c e f g i j σ).trans h)
end Go.Ab.Ma
end
section
set_option maxRecDepth 100000
namespace Go.Ab.Mb
open Go.Proofs Go.Ab
open List (getD)
open IntKind (wrap)
noncomputable def tliftF (call : CallF) (d e : Int) (f : ByteArray) (g h : LL) (b c : Int) (σ : Sto) : Option Res :=
 (memGet ((σ ++ [[(V.int .i64 b, false)]]) ++ [[(V.int .i64 c, false)]]) (V.ptr 3 (List.length σ) 0) false 1).bind fun m1 =>
 (V.asInt m1 .i64).bind fun i2 =>
 bif (i2 == (0 : Int)) then
 some (.ret [(V.agg [V.int .i64 d, V.int .i64 e, V.str f, V.slice 3 44 g, V.slice 5 30 h], false)], ((σ ++ [[(V.int .i64 b, false)]]) ++ [[(V.int .i64 c, false)]]))
 else
 callK call 33 [(V.agg [V.int .i64 d, V.int .i64 e, V.str f, V.slice 3 44 g, V.slice 5 30 h], false), ((V.func (.func 34) [] [V.ptr 3 (List.length (σ ++ [[(V.int .i64 b, false)]])) 0, V.ptr 3 (List.length σ) 0]), false)] ((σ ++ [[(V.int .i64 b, false)]]) ++ [[(V.int .i64 c, false)]]) 1 (fun a i =>
 (grd (V.fits (getD a 0 cellD).1 true 5)).bind fun _ =>
 some (.ret [(V.agg [V.cell (getD a 0 cellD).1 0, V.cell (getD a 0 cellD).1 1, V.cell (getD a 0 cellD).1 2, V.cell (getD a 0 cellD).1 3, V.cell (getD a 0 cellD).1 4], false)], i)) pnK
noncomputable def tlift (call : CallF) (n : Nat) (a b : Int) (c : ByteArray) (d e : LL) (f g : Int) (σ : Sto) : Option Res := tliftF call a b c d e f g σ
theorem tlift_eqF (call : CallF) (n : Nat) (a b : Int) (c : ByteArray) (d e : LL) (f g : Int) (σ : Sto) : afun C tliftD call n [(V.agg [V.int .i64 a, V.int .i64 b, V.str c, V.slice 3 44 d, V.slice 5 30 e], false), (V.int .i64 f, false), (V.int .i64 g, false)] σ =
  tliftF call a b c d e f g σ := by kernel_rfl
theorem tlift_eq (call : CallF) (n : Nat) (a b : Int) (c : ByteArray) (d e : LL) (f g : Int) (σ : Sto) : afun C tliftD call n [(V.agg [V.int .i64 a, V.int .i64 b, V.str c, V.slice 3 44 d, V.slice 5 30 e], false), (V.int .i64 f, false), (V.int .i64 g, false)] σ = tlift call n a b c d e f g σ := tlift_eqF call n a b c d e f g σ
theorem tlift_lim {n : Nat} {a : Int} {b : Int} {c : ByteArray} {e : LL} {f : LL} {g : Int} {i : Int} {b0 b1 b2 : Bool} {σ : Sto} {r : Res} (h : tlift (lim C) n a b c e f g i σ = some r) : lim C 8 [(V.agg [V.int .i64 a, V.int .i64 b, V.str c, V.slice 3 44 e, V.slice 5 30 f], b0), (V.int .i64 g, b1), (V.int .i64 i, b2)] σ = some r :=
 lim_of (d := tliftD) (by kernel_rfl) (by kernel_rfl) n (show afun C tliftD (lim C) n [(V.agg [V.int .i64 a, V.int .i64 b, V.str c, V.slice 3 44 e, V.slice 5 30 f], false), (V.int .i64 g, false), (V.int .i64 i, false)] σ = some r from (tlift_eq (lim C) n a b c e f g i σ).trans h)
noncomputable def tmapF (call : CallF) (b c : Int) (d : ByteArray) (e f : LL) (g : V) (σ : Sto) : Option Res :=
 callK call 60 [(V.agg [V.int .i64 b, V.int .i64 c, V.str d, V.slice 3 44 e, V.slice 5 30 f], false), ((V.int .i64 (0 : Int)), false), (g, false)] σ 1 (fun a h =>
 (grd (V.fits (getD a 0 cellD).1 true 5)).bind fun _ =>
 some (.ret [(V.agg [V.cell (getD a 0 cellD).1 0, V.cell (getD a 0 cellD).1 1, V.cell (getD a 0 cellD).1 2, V.cell (getD a 0 cellD).1 3, V.cell (getD a 0 cellD).1 4], false)], h)) pnK
noncomputable def tmap (call : CallF) (n : Nat) (a b : Int) (c : ByteArray) (d e : LL) (f : V) (σ : Sto) : Option Res := tmapF call a b c d e f σ
theorem tmap_eqF (call : CallF) (n : Nat) (a b : Int) (c : ByteArray) (d e : LL) (f : V) (σ : Sto) : afun C tmapD call n [(V.agg [V.int .i64 a, V.int .i64 b, V.str c, V.slice 3 44 d, V.slice 5 30 e], false), (f, false)] σ =
  tmapF call a b c d e f σ := by kernel_rfl
theorem tmap_eq (call : CallF) (n : Nat) (a b : Int) (c : ByteArray) (d e : LL) (f : V) (σ : Sto) : afun C tmapD call n [(V.agg [V.int .i64 a, V.int .i64 b, V.str c, V.slice 3 44 d, V.slice 5 30 e], false), (f, false)] σ = tmap call n a b c d e f σ := tmap_eqF call n a b c d e f σ
theorem tmap_lim {n : Nat} {a : Int} {b : Int} {c : ByteArray} {e : LL} {f : LL} {g : V} {b0 b1 : Bool} {σ : Sto} {r : Res} (h : tmap (lim C) n a b c e f g σ = some r) : lim C 33 [(V.agg [V.int .i64 a, V.int .i64 b, V.str c, V.slice 3 44 e, V.slice 5 30 f], b0), (g, b1)] σ = some r :=
 lim_of (d := tmapD) (by kernel_rfl) (by kernel_rfl) n (show afun C tmapD (lim C) n [(V.agg [V.int .i64 a, V.int .i64 b, V.str c, V.slice 3 44 e, V.slice 5 30 f], false), (g, false)] σ = some r from (tmap_eq (lim C) n a b c e f g σ).trans h)
noncomputable def inst1F (call : CallF) (e a : Int) (f : ByteArray) (g h : LL) (b : Int) (d : Nat) (σ : Sto) : Option Res :=
 bif (decide ((wrap .i64 (a - b)) < (0 : Int))) then
 some (.ret [(V.agg [V.int .i64 e, V.int .i64 a, V.str f, V.slice 3 44 g, V.slice 5 30 h], false)], σ)
 else
 (memGet σ (V.ptr 28 d 0) false 1).bind fun m1 =>
 (V.asSlice m1 5 30).bind fun l2 =>
 bif (decide ((wrap .i64 (a - b)) < (l2.length : Int))) then
 (memGet σ (V.ptr 28 d 0) false 1).bind fun m3 =>
 (memGet σ (V.ptr 28 d 0) false 1).bind fun m4 =>
 (V.asSlice m4 5 30).bind fun l5 =>
 (V.asSlice m3 5 30).bind fun l6 =>
 (grd (decide (0 ≤ (wrap .i64 ((wrap .i64 ((l5.length : Int) - (1 : Int))) - (wrap .i64 (a - b))))) && decide ((wrap .i64 ((wrap .i64 ((l5.length : Int) - (1 : Int))) - (wrap .i64 (a - b)))) < l6.length))).bind fun _ =>
 callK call 8 [((V.agg [(getD (getD l6 (Int.toNat (wrap .i64 ((wrap .i64 ((l5.length : Int) - (1 : Int))) - (wrap .i64 (a - b))))) []) 0 V.any), (getD (getD l6 (Int.toNat (wrap .i64 ((wrap .i64 ((l5.length : Int) - (1 : Int))) - (wrap .i64 (a - b))))) []) 1 V.any), (getD (getD l6 (Int.toNat (wrap .i64 ((wrap .i64 ((l5.length : Int) - (1 : Int))) - (wrap .i64 (a - b))))) []) 2 V.any), (getD (getD l6 (Int.toNat (wrap .i64 ((wrap .i64 ((l5.length : Int) - (1 : Int))) - (wrap .i64 (a - b))))) []) 3 V.any), (getD (getD l6 (Int.toNat (wrap .i64 ((wrap .i64 ((l5.length : Int) - (1 : Int))) - (wrap .i64 (a - b))))) []) 4 V.any)]), false), (V.int .i64 b, false), ((V.int .i64 (0 : Int)), false)] σ 1 (fun c i =>
 (grd (V.fits (getD c 0 cellD).1 true 5)).bind fun _ =>
 some (.ret [(V.agg [V.cell (getD c 0 cellD).1 0, V.cell (getD c 0 cellD).1 1, V.cell (getD c 0 cellD).1 2, V.cell (getD c 0 cellD).1 3, V.cell (getD c 0 cellD).1 4], false)], i)) pnK
 else
 (memGet σ (V.ptr 28 d 0) false 1).bind fun m10 =>
 (V.asSlice m10 5 30).bind fun l11 =>
 some (.ret [((V.agg [V.int .i64 e, (V.int .i64 (wrap .i64 (a - (l11.length : Int)))), V.str f, V.slice 3 44 g, V.slice 5 30 h]), false)], σ)
noncomputable def inst1 (call : CallF) (n : Nat) (a b : Int) (c : ByteArray) (d e : LL) (f : Int) (g : Nat) (σ : Sto) : Option Res := inst1F call a b c d e f g σ
theorem inst1_eqF (call : CallF) (n : Nat) (a b : Int) (c : ByteArray) (d e : LL) (f : Int) (g : Nat) (σ : Sto) : afun C inst1D call n [(V.agg [V.int .i64 a, V.int .i64 b, V.str c, V.slice 3 44 d, V.slice 5 30 e], false), (V.int .i64 f, false), (V.ptr 28 g 0, false)] σ =
  inst1F call a b c d e f g σ := by kernel_rfl
theorem inst1_eq (call : CallF) (n : Nat) (a b : Int) (c : ByteArray) (d e : LL) (f : Int) (g : Nat) (σ : Sto) : afun C inst1D call n [(V.agg [V.int .i64 a, V.int .i64 b, V.str c, V.slice 3 44 d, V.slice 5 30 e], false), (V.int .i64 f, false), (V.ptr 28 g 0, false)] σ = inst1 call n a b c d e f g σ := inst1_eqF call n a b c d e f g σ
theorem inst1_lim {n : Nat} {a : Int} {b : Int} {c : ByteArray} {e : LL} {f : LL} {g : Int} {i : Nat} {b0 b1 b2 : Bool} {σ : Sto} {r : Res} (h : inst1 (lim C) n a b c e f g i σ = some r) : lim C 61 [(V.agg [V.int .i64 a, V.int .i64 b, V.str c, V.slice 3 44 e, V.slice 5 30 f], b0), (V.int .i64 g, b1), (V.ptr 28 i 0, b2)] σ = some r :=
 lim_of (d := inst1D) (by kernel_rfl) (by kernel_rfl) n (show afun C inst1D (lim C) n [(V.agg [V.int .i64 a, V.int .i64 b, V.str c, V.slice 3 44 e, V.slice 5 30 f], false), (V.int .i64 g, false), (V.ptr 28 i 0, false)] σ = some r from (inst1_eq (lim C) n a b c e f g i σ).trans h)
end Go.Ab.Mb
end
section
namespace Go.Ab.Mk
open Go.Proofs Go.Ab Go.Proofs.Mk
def Tm.depth : Tm → Nat
 | .app a b => max a.depth b.depth + 1
 | .lam a b => max a.depth b.depth + 1
 | .pi a b => max a.depth b.depth + 1
 | .letin a b c => max a.depth (max b.depth c.depth) + 1
 | _ => 0
def Tm.top : Tm → Nat
 | .var n => n
 | .app a b => max a.top b.top
 | .lam a b => max a.top b.top
 | .pi a b => max a.top b.top
 | .letin a b c => max a.top (max b.top c.top)
 | _ => 0
def liftT (n : Nat) : Tm → Nat → Tm
 | .var m, k => if k ≤ m then .var (m + n) else .var m
 | .sort l, _ => .sort l
 | .const s ls, _ => .const s ls
 | .app a b, k => .app (liftT n a k) (liftT n b k)
 | .lam a b, k => .lam (liftT n a k) (liftT n b (k + 1))
 | .pi a b, k => .pi (liftT n a k) (liftT n b (k + 1))
 | .letin a b c, k => .letin (liftT n a k) (liftT n b k) (liftT n c (k + 1))
def substT (v : Tm) : Tm → Nat → Tm
 | .var m, k => if m = k then liftT k v 0 else if k < m then .var (m - 1) else .var m
 | .sort l, _ => .sort l
 | .const s ls, _ => .const s ls
 | .app a b, k => .app (substT v a k) (substT v b k)
 | .lam a b, k => .lam (substT v a k) (substT v b (k + 1))
 | .pi a b, k => .pi (substT v a k) (substT v b (k + 1))
 | .letin a b c, k => .letin (substT v a k) (substT v b k) (substT v c (k + 1))
theorem lift_zero : ∀ (t : Tm) (k : Nat), liftT 0 t k = t
 | .var m, k => by simp only [liftT]; split <;> rfl
 | .sort l, _ => rfl
 | .const s ls, _ => rfl
 | .app a b, k => by rw [liftT, lift_zero a, lift_zero b]
 | .lam a b, k => by rw [liftT, lift_zero a, lift_zero b]
 | .pi a b, k => by rw [liftT, lift_zero a, lift_zero b]
 | .letin a b c, k => by rw [liftT, lift_zero a, lift_zero b, lift_zero c]
theorem grd_ok {d : Nat} (h : d < 2 ^ 60) : grd (decide (0 ≤ (d : Int)) && decide ((d : Int) < 2 ^ 60)) = some () := by
 rw [show (decide (0 ≤ (d : Int)) && decide ((d : Int) < 2 ^ 60)) = true by simp; omega]
 rfl
theorem cells5_tm (t : Tm) : cells5 t.val = some t.enc := by rw [t.enc_eq]; rfl
theorem mem1 {σ : Sto} {b : Nat} {v : V} {o : Bool} (h : σ[b]? = some [(v, o)]) (t : TypeId) : memGet σ (.ptr t b 0) false 1 = some v := by simp [memGet, h, gather]
theorem walk_lift {σ : Sto} {bf bn n f : Nat} (hf : σ[bf]? = some [(.int .i64 f, false)]) (hn : σ[bn]? = some [(.int .i64 n, false)]) (hnb : n < 2 ^ 50) (hfb : f < 2 ^ 50) :
  ∀ (t : Tm) (d : Nat), t.top < 2 ^ 50 → d + t.depth < 2 ^ 50 → walkV (lim Ma.C) 34 [.ptr 3 bf 0, .ptr 3 bn 0] t d σ = some ((liftT n t (f + d)).enc, σ)
 | .var m, d, ht, hd => by
  simp only [Tm.top] at ht
  simp only [Tm.depth] at hd
  have h1 : lim Ma.C 34 [((Tm.var m).val, false), (.int .i64 d, false), (.ptr 3 bf 0, false), (.ptr 3 bn 0, false)] σ = some (.ret [((liftT n (.var m) (f + d)).val, false)], σ) := Ma.lift1_lim (n := 0) <| by
   have w1 : IntKind.wrap .i64 ((f : Int) + (d : Int)) = ((f + d : Nat) : Int) := wrap_add (by omega)
   have w2 : IntKind.wrap .i64 ((m : Int) + (n : Int)) = ((m + n : Nat) : Int) := wrap_add (by omega)
   have w3 : IntKind.wrap .i64 (((Tm.var m).num : Int) + (n : Int)) = ((m + n : Nat) : Int) := w2
   simp only [Ma.lift1, Ma.lift1F, mem1 hf, mem1 hn, Option.bind_some, V.asInt, if_true, w1, w3, liftT]
   by_cases hk : f + d ≤ m
   ·rw [if_pos hk, show decide (((Tm.var m).num : Int) ≥ ((f + d : Nat) : Int)) = true by simp [Tm.num]; omega]; rfl
   ·rw [if_neg hk, show decide (((Tm.var m).num : Int) ≥ ((f + d : Nat) : Int)) = false by simp [Tm.num]; omega]; rfl
  unfold walkV
  simp only [List.map_cons, List.map_nil, List.cons_append, List.nil_append, h1, cells5_tm, Option.bind_some]
 | .sort l, d, _, _ => rfl
 | .const s ls, d, _, _ => rfl
 | .app a b, d, ht, hd => by
  simp only [Tm.top] at ht
  simp only [Tm.depth] at hd
  rw [walkV, walk_lift hf hn hnb hfb a d (by omega) (by omega), Option.bind_some, walk_lift hf hn hnb hfb b d (by omega) (by omega)]
  rfl
 | .lam a b, d, ht, hd => by
  simp only [Tm.top] at ht
  simp only [Tm.depth] at hd
  rw [walkV, walk_lift hf hn hnb hfb a d (by omega) (by omega), Option.bind_some, grd_ok (by omega), Option.bind_some, show ((d : Int) + 1) = ((d + 1 : Nat) : Int) by omega, walk_lift hf hn hnb hfb b (d + 1) (by omega) (by omega)]
  rfl
 | .pi a b, d, ht, hd => by
  simp only [Tm.top] at ht
  simp only [Tm.depth] at hd
  rw [walkV, walk_lift hf hn hnb hfb a d (by omega) (by omega), Option.bind_some, grd_ok (by omega), Option.bind_some, show ((d : Int) + 1) = ((d + 1 : Nat) : Int) by omega, walk_lift hf hn hnb hfb b (d + 1) (by omega) (by omega)]
  rfl
 | .letin a b c, d, ht, hd => by
  simp only [Tm.top] at ht
  simp only [Tm.depth] at hd
  rw [walkV, walk_lift hf hn hnb hfb a d (by omega) (by omega), Option.bind_some, walk_lift hf hn hnb hfb b d (by omega) (by omega), Option.bind_some, grd_ok (by omega), Option.bind_some, show ((d : Int) + 1) = ((d + 1 : Nat) : Int) by omega, walk_lift hf hn hnb hfb c (d + 1) (by omega) (by omega)]
  rfl
theorem tlift_lawB (t : Tm) {n f : Nat} (ht : t.top < 2 ^ 50) (hd : t.depth < 2 ^ 49) (hnb : n < 2 ^ 50) (hfb : f < 2 ^ 50) (σ : Sto) :
  ∃ τ, lim Mb.C 8 [(t.val, false), (.int .i64 n, false), (.int .i64 f, false)] σ = some (.ret [((liftT n t f).val, false)], σ ++ τ) := by
 refine ⟨[[(.int .i64 n, false)], [(.int .i64 f, false)]], Mb.tlift_lim (n := 0) ?_⟩
 have e1 : (σ ++ [[((V.int .i64 n), false)]]) ++ [[((V.int .i64 f), false)]] = σ ++ [[(.int .i64 n, false)], [(.int .i64 f, false)]] := by simp
 have hn : (σ ++ [[((V.int .i64 n), false)], [((V.int .i64 f), false)]])[σ.length]? = some [(.int .i64 n, false)] := by simp
 have hf : (σ ++ [[((V.int .i64 n), false)], [((V.int .i64 f), false)]])[(σ ++ [[((V.int .i64 n), false)]]).length]? = some [(.int .i64 f, false)] := by simp
 have h1 := walkS_eq (o1 := false) (o2 := false) (o3 := false) (walk_lift hf hn hnb hfb t 0 ht (by omega))
 have h2 : lim Mb.C 33 [(t.val, false), (.func (.func 34) [] [.ptr 3 (σ ++ [[((V.int .i64 n), false)]]).length 0, .ptr 3 σ.length 0], false)] (σ ++ [[((V.int .i64 n), false)], [((V.int .i64 f), false)]]) = some (.ret [((liftT n t f).val, false)], σ ++ [[((V.int .i64 n), false)], [((V.int .i64 f), false)]]) := Mb.tmap_lim (n := 0) <| by
  have h3 := lim_ext (C := Mb.C) (f := 60) (s := walkS (lim Ma.C)) (by kernel_rfl) h1
  rw [Nat.add_zero, ← tval_enc] at h3
  simp only [Mb.tmap, Mb.tmapF]
  refine (callK_ret1 h3).trans ?_
  rfl
 simp only [Mb.tlift, Mb.tliftF, e1, mem1 hn, Option.bind_some, V.asInt, if_true]
 by_cases h0 : n = 0
 ·subst h0
  rw [lift_zero]
  rfl
 ·rw [show ((n : Int) == 0) = false by simp; omega, cond_false]
  refine (callK_ret1 h2).trans ?_
  rfl
end Go.Ab.Mk
end
