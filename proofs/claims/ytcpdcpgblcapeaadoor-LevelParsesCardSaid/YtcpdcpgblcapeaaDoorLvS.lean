/- The plain laws: the program's scanner. -/
import Derived.Test.YtcpdcpgblcapeaaDoorLvG
set_option linter.unusedSimpArgs false
set_option linter.unusedVariables false
set_option linter.deprecated false
namespace Go.Ab.Mk
open Go.Proofs Go.Ab

def letV (c : Int) : Bool := (decide ((IntKind.wrap .u8 ((BitVec.ofInt (IntKind.bits .u8) c ||| BitVec.ofInt (IntKind.bits .u8) (32 : Int)).toNat : Int)) ≥ (97 : Int)) && decide ((IntKind.wrap .u8 ((BitVec.ofInt (IntKind.bits .u8) c ||| BitVec.ofInt (IntKind.bits .u8) (32 : Int)).toNat : Int)) ≤ (122 : Int))) || c == 95
theorem letV_all : (List.range 256).all (fun n => letV (n : Int) == isLetter (n : Int)) = true := by decide +kernel
theorem letV_eq {n : Nat} (h : n < 256) : letV (n : Int) = isLetter (n : Int) := by
  have := List.all_eq_true.1 letV_all n (by simpa using h)
  simpa using this
theorem byteAt_lt (s : ByteArray) (i : Nat) : ∃ n : Nat, n < 256 ∧ byteAt s i = (n : Int) := ⟨(s.data.toList.getD i 0).toNat, UInt8.toNat_lt _, rfl⟩
theorem letter_law (n : Nat) (h : n < 256) (σ : Sto) : lim C 60 [(.int .u8 n, false)] σ = some (.ret [(.bool (isLetter n), false)], σ) :=
  letter_lim (n := 0) <| by
    rw [← letV_eq h]
    simp only [letter, letterF, letV]
    cases decide ((IntKind.wrap .u8 ((BitVec.ofInt (IntKind.bits .u8) (n : Int) ||| BitVec.ofInt (IntKind.bits .u8) (32 : Int)).toNat : Int)) ≥ (97 : Int)) <;> cases decide ((IntKind.wrap .u8 ((BitVec.ofInt (IntKind.bits .u8) (n : Int) ||| BitVec.ofInt (IntKind.bits .u8) (32 : Int)).toNat : Int)) ≤ (122 : Int)) <;> cases (n : Int) == 95 <;> rfl
theorem digit_law (c : Int) (σ : Sto) : lim C 62 [(.int .u8 c, false)] σ = some (.ret [(.bool (isDigit c), false)], σ) :=
  digit_lim (n := 0) <| by
    simp only [digit, digitF, isDigit, ge_iff_le]
    cases decide (48 ≤ c) <;> cases decide (c ≤ 57) <;> rfl
theorem sblank_law (c : Int) (σ : Sto) : lim C 59 [(.int .u8 c, false)] σ = some (.ret [(.bool (isBlank c), false)], σ) :=
  sblank_lim (n := 0) <| by
    simp only [sblank, sblankF, isBlank]
    cases c == 32 <;> cases c == 9 <;> cases c == 10 <;> rfl
theorem snmb_law (n : Nat) (h : n < 256) (σ : Sto) : lim C 61 [(.int .u8 n, false)] σ = some (.ret [(.bool (nmByte n false), false)], σ) :=
  snmb_lim (n := 0) <| by
    simp only [snmb, snmbF, callK_ret1 (letter_law n h σ), callK_ret1 (digit_law _ σ), List.getD_cons_zero, V.asBool, Option.bind_some, nmByte]
    cases isLetter n <;> cases isDigit n <;> cases (n : Int) == 46 <;> cases (n : Int) == 39 <;> rfl

structure SC where
  at_ : Nat
  tok : ByteArray
  pos : Nat
def SC.cells (s : ByteArray) (st : SC) : List Cell := [(.str s, false), (.int .i64 st.at_, false), (.str st.tok, false), (.int .i64 st.pos, false)]
section
variable {σ : Sto} {r : Nat} {s : ByteArray} {st : SC} {t : TypeId}
theorem sg0 (hr : r < σ.length) : memGet (σ.set r (st.cells s)) (.ptr t r 0) false 1 = some (.str s) := by simp [memGet, hr, gather, SC.cells]
theorem sg1 (hr : r < σ.length) : memGet (σ.set r (st.cells s)) (.ptr t r 1) false 1 = some (.int .i64 st.at_) := by simp [memGet, hr, gather, SC.cells]
theorem sg2 (hr : r < σ.length) : memGet (σ.set r (st.cells s)) (.ptr t r 2) false 1 = some (.str st.tok) := by simp [memGet, hr, gather, SC.cells]
theorem sg3 (hr : r < σ.length) : memGet (σ.set r (st.cells s)) (.ptr t r 3) false 1 = some (.int .i64 st.pos) := by simp [memGet, hr, gather, SC.cells]
theorem ss1 (hr : r < σ.length) (x : Nat) : memSet (σ.set r (st.cells s)) (.ptr t r 1) [(.int .i64 x, false)] = some (σ.set r (SC.cells s { st with at_ := x })) := by
  simp [memSet, hr, setCells, SC.cells]
theorem ss2 (hr : r < σ.length) (x : ByteArray) : memSet (σ.set r (st.cells s)) (.ptr t r 2) [(.str x, false)] = some (σ.set r (SC.cells s { st with tok := x })) := by
  simp [memSet, hr, setCells, SC.cells]
theorem ss3 (hr : r < σ.length) (x : Nat) : memSet (σ.set r (st.cells s)) (.ptr t r 3) [(.int .i64 x, false)] = some (σ.set r (SC.cells s { st with pos := x })) := by
  simp [memSet, hr, setCells, SC.cells]
end

theorem srun_loop (call : CallF) (n : Nat) {σ : Sto} {r : Nat} (hr : r < σ.length) {s : ByteArray} (hs : s.size < 2 ^ 61) {st : SC} {fn : FuncId} {f : Int → Bool}
    (hf : ∀ k : Nat, k < 256 → call fn [(.int .u8 k, false)] (σ.set r (st.cells s)) = some (.ret [(.bool (f k), false)], σ.set r (st.cells s))) :
    ∀ (m i : Nat), i ≤ s.size → s.size - i < m → srunl0 call n m r i (.func (.func fn) [] []) (σ.set r (st.cells s)) = some (.ret [(.int .i64 (scan f s i), false)], σ.set r (st.cells s))
  | 0, i, _, hm => by omega
  | m + 1, i, hi, hm => by
    show sruns0 call (srunl0 call n m) r i (.func (.func fn) [] []) (σ.set r (st.cells s)) = _
    unfold sruns0
    simp only [sg0 hr, Option.bind_some, V.asStr, V.asFunc, List.map_nil, List.nil_append, List.append_nil, Int.toNat_natCast]
    by_cases h1 : i < s.size
    · obtain ⟨k, hk, hb⟩ := byteAt_lt s i
      rw [hb, dlt h1, d0]
      simp only [cond_true, Bool.and_self, grd, Option.bind_some, callK_ret1 (hf k hk), List.getD_cons_zero, V.asBool, wrap_succ (show i < 2 ^ 61 by omega)]
      cases hfk : f k with
      | true =>
        rw [scan_go h1 (by rw [hb]; exact hfk)]
        exact srun_loop call n hr hs hf m (i + 1) (by omega) (by omega)
      | false =>
        rw [scan_stop (fun hh => by rw [hb, hfk] at hh; simp at hh)]
        rfl
    · rw [dnlt h1, scan_stop (fun hh => h1 hh.1)]; rfl
theorem srun_law {σ : Sto} {r : Nat} (hr : r < σ.length) {s : ByteArray} (hs : s.size < 2 ^ 61) {st : SC} {fn : FuncId} {f : Int → Bool}
    (hf : ∀ (k : Nat) (σ : Sto), k < 256 → lim C fn [(.int .u8 k, false)] σ = some (.ret [(.bool (f k), false)], σ)) {i : Nat} (hi : i ≤ s.size) :
    lim C 58 [(.ptr 90 r 0, false), (.int .i64 i, false), (.func (.func fn) [] [], false)] (σ.set r (st.cells s)) = some (.ret [(.int .i64 (scan f s i), false)], σ.set r (st.cells s)) :=
  srun_lim (n := s.size + 1) (srun_loop (lim C) (s.size + 1) hr hs (fun k hk => hf k _ hk) (s.size + 1) i hi (by omega))

/-- What a step from a place makes. -/
def stepOf (p : Nat) (k : Tok) : SC := bif k.ok then ⟨k.at_ + k.t.size, k.t, k.at_⟩ else ⟨p, ByteArray.mk #[0], k.at_⟩
def stepV (s : ByteArray) (p : Nat) : SC := stepOf p (tokV s p)
theorem wneg (n : Nat) : decide (((n : Nat) : Int) < (0 : Int)) = false := by simp
theorem nm_true (c : Int) : nmByte c true = isLetter c := by simp [nmByte]
theorem step_law {σ : Sto} {r : Nat} (hr : r < σ.length) {s : ByteArray} (hs : s.size < 2 ^ 61) {st : SC} (hp : st.at_ ≤ s.size) :
    lim C 50 [(.ptr 90 r 0, false)] (σ.set r (st.cells s)) = some (.ret [], σ.set r ((stepV s st.at_).cells s)) :=
  sstep_lim (n := 0) <| by
    have h1 := srun_law hr hs (st := st) (fn := 59) (f := isBlank) (fun k σ _ => sblank_law k σ) hp
    have hge := le_scan isBlank s st.at_
    have hle := scan_le (f := isBlank) hp
    unfold stepV tokV
    simp only [sstep, sstepF, sg1 hr, Option.bind_some, callK_ret1 h1, List.getD_cons_zero]
    generalize scan isBlank s st.at_ = i at hge hle
    have fi : ∀ x : Int, V.fits (.int .i64 x) false 1 = true := fun _ => rfl
    have h2 : ∀ j, j ≤ s.size → lim C 58 [(.ptr 90 r 0, false), (.int .i64 j, false), (.func (.func 61) [] [], false)] (σ.set r (SC.cells s { st with pos := i })) = some (.ret [(.int .i64 (scan (nmByte · false) s j), false)], σ.set r (SC.cells s { st with pos := i })) :=
      fun j hj => srun_law hr hs (st := { st with pos := i }) (fn := 61) (f := (nmByte · false)) (fun k σ hk => snmb_law k hk σ) hj
    have h3 : ∀ j, j ≤ s.size → lim C 58 [(.ptr 90 r 0, false), (.int .i64 j, false), (.func (.func 62) [] [], false)] (σ.set r (SC.cells s { st with pos := i })) = some (.ret [(.int .i64 (scan isDigit s j), false)], σ.set r (SC.cells s { st with pos := i })) :=
      fun j hj => srun_law hr hs (st := { st with pos := i }) (fn := 62) (f := isDigit) (fun k σ _ => digit_law k σ) hj
    simp only [fi, grd, cond_true, Option.bind_some, ss3 hr, sg0 hr, sg3 hr, V.asStr, V.asInt, if_true, Int.toNat_natCast, beqN]
    unfold tokAt
    by_cases hi : i = s.size
    · simp only [hi, beq_self_eq_true, cond_true, ss2 hr, ss1 hr, Option.bind_some, stepOf]
      rfl
    · have hib : (i == s.size) = false := by simpa using hi
      have hlt : i < s.size := by omega
      have w1 : IntKind.wrap .i64 ((i : Int) + 1) = ((i + 1 : Nat) : Int) := wrap_succ (by omega)
      simp only [hib, cond_false, d0, dlt hlt, Bool.and_self, cond_true, Option.bind_some, w1, wneg]
      obtain ⟨b, hb, hbe⟩ := byteAt_lt s i
      have b1 : (decide ((i : Int) ≤ ((i + 1 : Nat) : Int)) && decide (((i + 1 : Nat) : Int) ≤ (s.size : Int))) = true := by simp; omega
      have es : i + (s.extract i (i + 1)).size = i + 1 := ext_size s (by omega) (by omega)
      have hl := letter_law b hb (σ.set r (SC.cells s { st with pos := i }))
      have hd := digit_law (b : Int) (σ.set r (SC.cells s { st with pos := i }))
      have hscan1 : isLetter b = true → scan (nmByte · false) s i = scan (nmByte · false) s (i + 1) := fun h => scan_go hlt (by rw [hbe]; simp [nmByte, h])
      have hscan2 : isDigit b = true → scan isDigit s i = scan isDigit s (i + 1) := fun h => scan_go hlt (by rw [hbe]; exact h)
      have g1 := le_scan (nmByte · false) s (i + 1)
      have g2 := scan_le (f := (nmByte · false)) (s := s) (i := i + 1) (by omega)
      have g3 := le_scan isDigit s (i + 1)
      have g4 := scan_le (f := isDigit) (s := s) (i := i + 1) (by omega)
      have no : ∀ x, stepOf st.at_ (Tok.no i) = ({ at_ := st.at_, tok := ByteArray.mk #[0], pos := i } : SC) ∨ x := fun _ => .inl rfl
      have h2' := h2 i (by omega)
      have h3' := h3 i (by omega)
      have h3'' := h3 (i + 1) (by omega)
      rw [hbe]
      simp only [ss2 hr, ss1 hr, Option.bind_some, Bool.true_and, bnd2 (show i ≤ i + 1 by omega) (show i + 1 ≤ s.size by omega), Int.toNat_natCast, grd, cond_true, callK_ret1 hl, callK_ret1 hd, List.getD_cons_zero, sg0 hr, sg3 hr, callK_ret1 h2', callK_ret1 h3', callK_ret1 h3'', nm_true, V.asBool, V.asInt, V.asStr, if_true, w1]
      cases e40 : (b : Int) == 40
      case true => simp only [cond_true, stepOf, es]
      cases e41 : (b : Int) == 41
      case true => simp only [cond_true, cond_false, stepOf, es]
      cases el : isLetter b
      case true =>
        rw [hscan1 el]
        generalize scan (nmByte · false) s (i + 1) = q at g1 g2
        have h40 : ((40 : Int)) = ((40 : Nat) : Int) := rfl
        have eq1 : i + (s.extract i q).size = q := ext_size s (by omega) g2
        simp only [cond_true, cond_false, V.asBool, V.asInt, V.asStr, if_true, grd, sg0 hr, sg3 hr, fi, wneg, d0, Option.bind_some, wrap_sub (show i ≤ q by omega) (show q < 2 ^ 61 by omega), h40, dgt, wneg, Bool.true_and, bnd2 (show i ≤ q by omega) g2, Int.toNat_natCast, ss2 hr, ss1 hr, nmTok]
        cases decide (q - i > 40)
        · simp only [cond_false, stepOf, eq1, cond_true]
        · rfl
      have h5 : ((5 : Int)) = ((5 : Nat) : Int) := rfl
      have h1' : ((1 : Int)) = ((1 : Nat) : Int) := rfl
      have w1' : IntKind.wrap .i64 ((i : Int) + ((1 : Nat) : Int)) = ((i + 1 : Nat) : Int) := w1
      have h0' : ((0 : Int)) = ((0 : Nat) : Int) := rfl
      cases e35 : (b : Int) == 35
      case true =>
        generalize scan isDigit s (i + 1) = q at g3 g4
        have eq1 : i + (s.extract i q).size = q := ext_size s (by omega) g4
        simp only [cond_true, cond_false, V.asBool, V.asInt, V.asStr, if_true, grd, sg0 hr, sg3 hr, fi, wneg, d0, Option.bind_some, wrap_sub (show i + 1 ≤ q by omega) (show q < 2 ^ 61 by omega), h5, h1', w1', dgt, Bool.true_and, bnd2 (show i ≤ q by omega) g4, Int.toNat_natCast, ss2 hr, ss1 hr, numTok, e35, Bool.true_or]
        have hz : ((((q - (i + 1) : Nat) : Int)) == 0) = (q == i + 1) := by rw [Bool.eq_iff_iff, beq_iff_eq, beq_iff_eq]; omega
        rw [hz]
        by_cases hq : q = i + 1
        · subst hq; simp only [beq_self_eq_true, cond_true]; rfl
        · have hq' : (q == i + 1) = false := by simpa using hq
          have hlt1 : i + 1 < s.size := by omega
          simp only [hq', cond_false, d0, Bool.true_and, decide_eq_true (show s.size > i + 1 from hlt1), Option.bind_some, cond_true]
          cases decide (q - (i + 1) > 5) <;> cases decide (q - (i + 1) > 1) <;> cases byteAt s (i + 1) == 48 <;> (first | rfl | simp only [cond_true, cond_false, stepOf, eq1, Bool.and_self, Bool.and_false, Bool.false_and, Bool.and_true])
      cases edg : isDigit b
      case true =>
        rw [hscan2 edg]
        generalize scan isDigit s (i + 1) = q at g3 g4
        have eq1 : i + (s.extract i q).size = q := ext_size s (by omega) g4
        simp only [cond_true, cond_false, V.asBool, V.asInt, V.asStr, if_true, grd, sg0 hr, sg3 hr, fi, wneg, d0, Option.bind_some, wrap_sub (show i ≤ q by omega) (show q < 2 ^ 61 by omega), h5, h1', dgt, Bool.true_and, bnd2 (show i ≤ q by omega) g4, Int.toNat_natCast, ss2 hr, ss1 hr, numTok, e35, Bool.or_true]
        have hz : ((((q - i : Nat) : Int)) == 0) = false := by simp; omega
        have hq' : (q == i) = false := by simp; omega
        rw [hz]
        simp only [hq', cond_false, hbe, decide_eq_true (show s.size > i from hlt), cond_true, Option.bind_some]
        cases decide (q - i > 5) <;> cases decide (q - i > 1) <;> cases (b : Int) == 48 <;> (first | rfl | simp only [cond_true, cond_false, stepOf, eq1, Bool.and_self, Bool.and_false, Bool.false_and, Bool.and_true])
      simp only [cond_false, V.asBool, Option.bind_some, Bool.or_false, stepOf, Tok.no]
end Go.Ab.Mk
