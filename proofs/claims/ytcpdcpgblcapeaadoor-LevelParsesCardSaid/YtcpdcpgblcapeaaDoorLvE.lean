/- The plain laws: the reader's tokens. -/
import Derived.Test.YtcpdcpgblcapeaaDoorLvD
set_option linter.unusedSimpArgs false
set_option linter.unusedVariables false
set_option linter.deprecated false
namespace Go.Ab.Mk
open Go.Proofs Go.Ab

def isDigit (c : Int) : Bool := decide (48 ≤ c) && decide (c ≤ 57)
def isLetter (c : Int) : Bool := (decide (97 ≤ c) && decide (c ≤ 122)) || (decide (65 ≤ c) && decide (c ≤ 90)) || c == 95
def nmByte (c : Int) (first : Bool) : Bool := isLetter c || (!first && (isDigit c || c == 46 || c == 39))
def isBlank (c : Int) : Bool := c == 32 || c == 9 || c == 10

theorem nameByte_law (c : Int) (f : Bool) (σ : Sto) : lim C 55 [(.int .u8 c, false), (.bool f, false)] σ = some (.ret [(.bool (nmByte c f), false)], σ) :=
  nameByte_lim (n := 0) <| by
    simp only [nameByte, nameByteF, nmByte, isLetter, isDigit, ge_iff_le]
    cases decide (97 ≤ c) <;> cases decide (c ≤ 122) <;> cases decide (65 ≤ c) <;> cases decide (c ≤ 90) <;> cases c == 95 <;> cases f <;> cases decide (48 ≤ c) <;> cases decide (c ≤ 57) <;> cases c == 46 <;> cases c == 39 <;> rfl

/-- The first place from i on where f is false. -/
def scan (f : Int → Bool) (s : ByteArray) (i : Nat) : Nat :=
  if h : i < s.size then (bif f (byteAt s i) then scan f s (i + 1) else i) else i
termination_by s.size - i
theorem scan_go {f : Int → Bool} {s : ByteArray} {i : Nat} (h : i < s.size) (hf : f (byteAt s i) = true) : scan f s i = scan f s (i + 1) := by
  rw [scan, dif_pos h, hf]; rfl
theorem scan_stop {f : Int → Bool} {s : ByteArray} {i : Nat} (h : ¬ (i < s.size ∧ f (byteAt s i) = true)) : scan f s i = i := by
  rw [scan]
  split
  · rename_i hi
    cases hf : f (byteAt s i) with
    | true => exact absurd ⟨hi, hf⟩ h
    | false => rfl
  · rfl
theorem scan_ge (f : Int → Bool) (s : ByteArray) : ∀ (k i : Nat), s.size - i = k → i ≤ scan f s i ∧ (i ≤ s.size → scan f s i ≤ s.size)
  | k, i, hk => by
    by_cases h : i < s.size ∧ f (byteAt s i) = true
    · rw [scan_go h.1 h.2]
      have := scan_ge f s (k - 1) (i + 1) (by omega)
      omega
    · rw [scan_stop h]; omega
theorem le_scan (f : Int → Bool) (s : ByteArray) (i : Nat) : i ≤ scan f s i := (scan_ge f s _ i rfl).1
theorem scan_le {f : Int → Bool} {s : ByteArray} {i : Nat} (h : i ≤ s.size) : scan f s i ≤ s.size := (scan_ge f s _ i rfl).2 h
theorem scan_end (f : Int → Bool) (s : ByteArray) : ∀ (k i : Nat), s.size - i = k → ¬ (scan f s i < s.size ∧ f (byteAt s (scan f s i)) = true)
  | k, i, hk => by
    by_cases h : i < s.size ∧ f (byteAt s i) = true
    · rw [scan_go h.1 h.2]
      exact scan_end f s (k - 1) (i + 1) (by omega)
    · rw [scan_stop h]; exact h

structure Tok where
  t : ByteArray
  at_ : Nat
  ok : Bool
def Tok.no (i : Nat) : Tok := ⟨ByteArray.mk #[], i, false⟩
def Tok.cells (k : Tok) : List Cell := [(.str k.t, false), (.int .i64 k.at_, false), (.bool k.ok, false)]
/-- A row of digits from i on, that ends ahead of q. -/
def numTok (s : ByteArray) (i q : Nat) (c : Int) : Tok :=
  let d := bif c == 35 then i + 1 else i
  bif q == d then .no i else bif decide (q - d > 5) then .no i else bif (decide (q - d > 1) && byteAt s d == 48) then .no i else ⟨s.extract i q, i, true⟩
def nmTok (s : ByteArray) (i q : Nat) : Tok := bif decide (q - i > 40) then .no i else ⟨s.extract i q, i, true⟩
def tokAt (s : ByteArray) (i : Nat) : Tok :=
  bif i == s.size then ⟨ByteArray.mk #[], i, true⟩ else
  bif byteAt s i == 40 then ⟨s.extract i (i + 1), i, true⟩ else bif byteAt s i == 41 then ⟨s.extract i (i + 1), i, true⟩ else
  bif nmByte (byteAt s i) true then nmTok s i (scan (nmByte · false) s (i + 1)) else
  bif byteAt s i == 35 || isDigit (byteAt s i) then numTok s i (scan isDigit s (i + 1)) (byteAt s i) else .no i
def tokV (s : ByteArray) (p : Nat) : Tok := tokAt s (scan isBlank s p)

/-- The reader's cells. -/
def rst (s : ByteArray) (p : Nat) (c a : Int) : List Cell := [(.str s, false), (.int .i64 p, false), (.int .i64 c, false), (.int .i64 a, false)]
theorem rd0 {σ : Sto} {r : Nat} {s : ByteArray} {p : Nat} {c a : Int} (h : σ[r]? = some (rst s p c a)) (t : TypeId) : memGet σ (.ptr t r 0) false 1 = some (.str s) := by simp [memGet, h, gather, rst]
theorem rd1 {σ : Sto} {r : Nat} {s : ByteArray} {p : Nat} {c a : Int} (h : σ[r]? = some (rst s p c a)) (t : TypeId) : memGet σ (.ptr t r 1) false 1 = some (.int .i64 p) := by simp [memGet, h, gather, rst]
theorem rd2 {σ : Sto} {r : Nat} {s : ByteArray} {p : Nat} {c a : Int} (h : σ[r]? = some (rst s p c a)) (t : TypeId) : memGet σ (.ptr t r 2) false 1 = some (.int .i64 c) := by simp [memGet, h, gather, rst]
theorem wrap_sub {q i : Nat} (h : i ≤ q) (hq : q < 2 ^ 61) : IntKind.wrap .i64 ((q : Int) - (i : Int)) = ((q - i : Nat) : Int) := by
  rw [← wrap_nat (n := q - i) (by omega)]
  congr 1
  omega
theorem dgt (a b : Nat) : decide ((a : Int) > (b : Int)) = decide (a > b) := by simp
theorem beqN (a b : Nat) : ((a : Int) == (b : Int)) = (a == b) := by
  rw [Bool.eq_iff_iff, beq_iff_eq, beq_iff_eq]; omega
theorem bnd2 {i q n : Nat} (h1 : i ≤ q) (h2 : q ≤ n) : (decide ((i : Int) ≤ (q : Int)) && decide ((q : Int) ≤ (n : Int))) = true := by simp; omega
theorem bnd {i q n : Nat} (h1 : i ≤ q) (h2 : q ≤ n) : (decide (0 ≤ (i : Int)) && decide ((i : Int) ≤ (q : Int)) && decide ((q : Int) ≤ (n : Int))) = true := by simp; omega

theorem tokens1_step (call : CallF) (n m : Nat) {σ : Sto} {r : Nat} {s : ByteArray} {p : Nat} {c a : Int} (h : σ[r]? = some (rst s p c a)) (hs : s.size < 2 ^ 61)
    (hc : ∀ x, call 55 [(.int .u8 x, false), (.bool false, false)] σ = some (.ret [(.bool (nmByte x false), false)], σ)) {i q : Nat} (hi : i ≤ q) (hq : q ≤ s.size) :
    rtokenl1 call n (m + 1) r (.int .i64 i) q σ = bif decide (q < s.size) && nmByte (byteAt s q) false then rtokenl1 call n m r (.int .i64 i) (q + 1 : Nat) σ else some (.ret (nmTok s i q).cells, σ) := by
  show rtokens1 call (rtokenl1 call n m) r (.int .i64 i) q σ = _
  unfold rtokens1
  have h40 : ((40 : Int)) = ((40 : Nat) : Int) := rfl
  simp only [rd0 h, Option.bind_some, V.asStr, V.asInt, if_true, callK_ret1 (hc _), Int.toNat_natCast, List.getD_cons_zero, V.asBool, wrap_sub hi (show q < 2 ^ 61 by omega), h40, dgt, bnd hi hq, grd, cond_true, nmTok, Tok.cells, Tok.no]
  by_cases h1 : q < s.size
  · simp only [dlt h1, d0, cond_true, Bool.and_self, Option.bind_some, wrap_succ (show q < 2 ^ 61 by omega), decide_eq_true h1, Bool.true_and]
    cases nmByte (byteAt s q) false with
    | true => rfl
    | false => simp only [cond_false]; cases decide (q - i > 40) <;> rfl
  · simp only [dnlt h1, cond_false, decide_eq_false h1, Bool.false_and]
    cases decide (q - i > 40) <;> rfl
theorem tokens1_loop (call : CallF) (n : Nat) {σ : Sto} {r : Nat} {s : ByteArray} {p : Nat} {c a : Int} (h : σ[r]? = some (rst s p c a)) (hs : s.size < 2 ^ 61)
    (hc : ∀ x, call 55 [(.int .u8 x, false), (.bool false, false)] σ = some (.ret [(.bool (nmByte x false), false)], σ)) {i : Nat} :
    ∀ (m q : Nat), i ≤ q → q ≤ s.size → s.size - q < m → rtokenl1 call n m r (.int .i64 i) q σ = some (.ret (nmTok s i (scan (nmByte · false) s q)).cells, σ)
  | 0, q, _, _, hm => by omega
  | m + 1, q, hi, hq, hm => by
    rw [tokens1_step call n m h hs hc hi hq]
    by_cases h1 : q < s.size ∧ nmByte (byteAt s q) false = true
    · rw [scan_go (f := (nmByte · false)) h1.1 h1.2, decide_eq_true h1.1, h1.2]
      exact tokens1_loop call n h hs hc m (q + 1) (by omega) (by omega) (by omega)
    · rw [scan_stop (f := (nmByte · false)) h1]
      have : (decide (q < s.size) && nmByte (byteAt s q) false) = false := by
        cases hb : nmByte (byteAt s q) false <;> simp_all
      rw [this]; rfl

theorem tokens2_step (call : CallF) (n m : Nat) {σ : Sto} {r : Nat} {s : ByteArray} {p : Nat} {c a : Int} (h : σ[r]? = some (rst s p c a)) (hs : s.size < 2 ^ 61) {i q : Nat} (x : Int) (hi : i < q) (hq : q ≤ s.size) :
    rtokenl2 call n (m + 1) r (.int .i64 i) q x σ = bif decide (q < s.size) && isDigit (byteAt s q) then rtokenl2 call n m r (.int .i64 i) (q + 1 : Nat) x σ else some (.ret (numTok s i q x).cells, σ) := by
  show rtokens2 call (rtokenl2 call n m) r (.int .i64 i) q x σ = _
  unfold rtokens2
  have h5 : ((5 : Int)) = ((5 : Nat) : Int) := rfl
  have h1' : ((1 : Int)) = ((1 : Nat) : Int) := rfl
  have e48 : ∀ z : Int, decide (z ≥ 48) = decide (48 ≤ z) := fun _ => rfl
  have w1 : IntKind.wrap .i64 ((i : Int) + ((1 : Nat) : Int)) = ((i + 1 : Nat) : Int) := wrap_succ (show i < 2 ^ 61 by omega)
  have w2 : IntKind.wrap .i64 ((q : Int) + ((1 : Nat) : Int)) = ((q + 1 : Nat) : Int) := wrap_succ (show q < 2 ^ 61 by omega)
  simp only [rd0 h, Option.bind_some, V.asStr, V.asInt, if_true, Int.toNat_natCast, h5, h1', w1, w2, wrap_sub (show i ≤ q by omega) (show q < 2 ^ 61 by omega), wrap_sub (show i + 1 ≤ q by omega) (show q < 2 ^ 61 by omega), dgt, beqN, bnd2 (show i ≤ q by omega) hq, d0, Bool.true_and, decide_eq_true (show s.size > i by omega), grd, cond_true, e48, numTok, Tok.cells, Tok.no]
  by_cases h1 : q < s.size
  · simp only [decide_eq_true (show s.size > q from h1), cond_true, Option.bind_some, decide_eq_true h1, Bool.true_and, isDigit]
    by_cases hx : x == 35
    · by_cases hd : q = i + 1
      · subst hd
        cases decide (48 ≤ byteAt s (i + 1)) <;> cases decide (byteAt s (i + 1) ≤ 57) <;> simp [hx]
      · have hlt : i + 1 < s.size := by omega
        have hd' : (q == i + 1) = false := by simpa using hd
        simp only [decide_eq_true (show s.size > i + 1 from hlt), hx, cond_true, hd', cond_false, Option.bind_some]
        cases decide (48 ≤ byteAt s q) <;> cases decide (byteAt s q ≤ 57) <;> cases decide (q - (i + 1) > 5) <;> cases decide (q - (i + 1) > 1) <;> cases byteAt s (i + 1) == 48 <;> rfl
    · have hd' : (q == i) = false := by simp; omega
      simp only [hx, cond_false, hd', Option.bind_some]
      cases decide (48 ≤ byteAt s q) <;> cases decide (byteAt s q ≤ 57) <;> cases decide (q - i > 5) <;> cases decide (q - i > 1) <;> cases byteAt s i == 48 <;> rfl
  · simp only [decide_eq_false (show ¬ s.size > q from h1), cond_false, decide_eq_false h1, Bool.false_and]
    by_cases hx : x == 35
    · by_cases hd : q = i + 1
      · subst hd
        simp [hx]
      · have hlt : i + 1 < s.size := by omega
        have hd' : (q == i + 1) = false := by simpa using hd
        simp only [decide_eq_true (show s.size > i + 1 from hlt), hx, cond_true, hd', cond_false, Option.bind_some]
        cases decide (q - (i + 1) > 5) <;> cases decide (q - (i + 1) > 1) <;> cases byteAt s (i + 1) == 48 <;> rfl
    · have hd' : (q == i) = false := by simp; omega
      simp only [hx, cond_false, hd', Option.bind_some]
      cases decide (q - i > 5) <;> cases decide (q - i > 1) <;> cases byteAt s i == 48 <;> rfl
theorem tokens2_loop (call : CallF) (n : Nat) {σ : Sto} {r : Nat} {s : ByteArray} {p : Nat} {c a : Int} (h : σ[r]? = some (rst s p c a)) (hs : s.size < 2 ^ 61) {i : Nat} (x : Int) :
    ∀ (m q : Nat), i < q → q ≤ s.size → s.size - q < m → rtokenl2 call n m r (.int .i64 i) q x σ = some (.ret (numTok s i (scan isDigit s q) x).cells, σ)
  | 0, q, _, _, hm => by omega
  | m + 1, q, hi, hq, hm => by
    rw [tokens2_step call n m h hs x hi hq]
    by_cases h1 : q < s.size ∧ isDigit (byteAt s q) = true
    · rw [scan_go (f := isDigit) h1.1 h1.2, decide_eq_true h1.1, h1.2]
      exact tokens2_loop call n h hs x m (q + 1) (by omega) (by omega) (by omega)
    · rw [scan_stop (f := isDigit) h1]
      have : (decide (q < s.size) && isDigit (byteAt s q)) = false := by
        cases hb : isDigit (byteAt s q) <;> simp_all
      rw [this]; rfl

theorem tokens0_loop (call : CallF) (n : Nat) {σ : Sto} {r : Nat} {s : ByteArray} {p0 : Nat} {c a : Int} (h : σ[r]? = some (rst s p0 c a)) (hs : s.size < 2 ^ 61) (hn : s.size < n)
    (hc : ∀ x f, call 55 [(.int .u8 x, false), (.bool f, false)] σ = some (.ret [(.bool (nmByte x f), false)], σ)) :
    ∀ (m p : Nat), p ≤ s.size → s.size - p < m → rtokenl0 call n m r (.int .i64 p) σ = some (.ret (tokV s p).cells, σ)
  | 0, q, _, hm => by omega
  | m + 1, p, hp, hm => by
    show rtokens0 call (rtokenl1 call n n) (rtokenl2 call n n) (rtokenl0 call n m) r (.int .i64 p) σ = _
    unfold rtokens0
    have e48 : ∀ z : Int, decide (z ≥ 48) = decide (48 ≤ z) := fun _ => rfl
    simp only [rd0 h, Option.bind_some, V.asStr, V.asInt, if_true, Int.toNat_natCast, wrap_succ (show p < 2 ^ 61 by omega), d0, Bool.true_and, callK_ret1 (hc _ _), List.getD_cons_zero, V.asBool, beqN, e48]
    by_cases h1 : p < s.size
    · have hpe : (p == s.size) = false := by simp; omega
      have hb1 : ((decide ((p : Int) ≤ ((p + 1 : Nat) : Int))) && decide (((p + 1 : Nat) : Int) ≤ (s.size : Int))) = true := by simp; omega
      simp only [dlt h1, cond_true, grd, Option.bind_some, hpe, cond_false, hb1]
      by_cases hb : isBlank (byteAt s p) = true
      · rw [tokV, scan_go h1 hb, ← tokV]
        have ih := tokens0_loop call n h hs hn hc m (p + 1) (by omega) (by omega)
        simp only [isBlank, Bool.or_eq_true] at hb
        rw [ih]
        rcases hb with (hb | hb) | hb
        · simp only [hb, cond_true]
        · cases byteAt s p == 32 <;> simp only [hb, cond_true, cond_false]
        · cases byteAt s p == 32 <;> cases byteAt s p == 9 <;> simp only [hb, cond_true, cond_false]
      · rw [tokV, scan_stop (fun hh => hb hh.2)]
        have hb' : isBlank (byteAt s p) = false := by simpa using hb
        simp only [isBlank, Bool.or_eq_false_iff] at hb'
        obtain ⟨⟨b1, b2⟩, b3⟩ := hb'
        have l1 := tokens1_loop call n h hs (fun x => hc x false) (i := p) n (p + 1) (by omega) (by omega) (by omega)
        have l2 := tokens2_loop call n h hs (i := p) (byteAt s p) n (p + 1) (by omega) (by omega) (by omega)
        simp only [b1, b2, b3, cond_false, l1, l2, tokAt, hpe, isDigit]
        cases byteAt s p == 40 <;> cases byteAt s p == 41 <;> cases nmByte (byteAt s p) true <;> cases byteAt s p == 35 <;> cases decide (48 ≤ byteAt s p) <;> cases decide (byteAt s p ≤ 57) <;> rfl
    · have hpe : p = s.size := by omega
      rw [tokV, scan_stop (fun hh => h1 hh.1)]
      rw [dnlt h1]
      simp only [cond_false, hpe, beq_self_eq_true, cond_true, tokAt, Tok.cells]
theorem token_law {σ : Sto} {r : Nat} {s : ByteArray} {p : Nat} {c a : Int} (h : σ[r]? = some (rst s p c a)) (hs : s.size < 2 ^ 61) (hp : p ≤ s.size) :
    lim C 41 [(.ptr 53 r 0, false)] σ = some (.ret (tokV s p).cells, σ) :=
  rtoken_lim (n := s.size + 1) <| by
    have := tokens0_loop (lim C) (s.size + 1) h hs (by omega) (fun x f => nameByte_law x f σ) (s.size + 1) p hp (by omega)
    simp only [rtoken, rtokenF, rd1 h, Option.bind_some]
    exact this
end Go.Ab.Mk
