/- The plain laws: the program's scanner. The plain laws: the scanner's levels. -/
import Derived.Test.YtkecplbpffhdnaaGreatDoorLvTa
set_option linter.unusedSimpArgs false
set_option linter.unusedVariables false
set_option linter.deprecated false
section
namespace Go.Ab.Mk
open Go.Proofs Go.Ab

def letV (c : Int) : Bool := (decide ((IntKind.wrap .u8 ((BitVec.ofInt (IntKind.bits .u8) c ||| BitVec.ofInt (IntKind.bits .u8) (32 : Int)).toNat : Int)) ≥ (97 : Int)) && decide ((IntKind.wrap .u8 ((BitVec.ofInt (IntKind.bits .u8) c ||| BitVec.ofInt (IntKind.bits .u8) (32 : Int)).toNat : Int)) ≤ (122 : Int))) || c == 95
theorem letV_all : (List.range 256).all (fun n => letV (n : Int) == isLetter (n : Int)) = true := by decide +kernel
theorem letV_eq {n : Nat} (h : n < 256) : letV (n : Int) = isLetter (n : Int) := by
  have := List.all_eq_true.1 letV_all n (by simpa using h)
  simpa using this
theorem byteAt_lt (s : ByteArray) (i : Nat) : ∃ n : Nat, n < 256 ∧ byteAt s i = (n : Int) := ⟨(s.data.toList.getD i 0).toNat, UInt8.toNat_lt _, rfl⟩
theorem letter_law (n : Nat) (h : n < 256) (σ : Sto) : lim C 68 [(.int .u8 n, false)] σ = some (.ret [(.bool (isLetter n), false)], σ) :=
  letter_lim (n := 0) <| by
    rw [← letV_eq h]
    simp only [letter, letterF, letV]
    cases decide ((IntKind.wrap .u8 ((BitVec.ofInt (IntKind.bits .u8) (n : Int) ||| BitVec.ofInt (IntKind.bits .u8) (32 : Int)).toNat : Int)) ≥ (97 : Int)) <;> cases decide ((IntKind.wrap .u8 ((BitVec.ofInt (IntKind.bits .u8) (n : Int) ||| BitVec.ofInt (IntKind.bits .u8) (32 : Int)).toNat : Int)) ≤ (122 : Int)) <;> cases (n : Int) == 95 <;> rfl
theorem digit_law (c : Int) (σ : Sto) : lim C 70 [(.int .u8 c, false)] σ = some (.ret [(.bool (isDigit c), false)], σ) :=
  digit_lim (n := 0) <| by
    simp only [digit, digitF, isDigit, ge_iff_le]
    cases decide (48 ≤ c) <;> cases decide (c ≤ 57) <;> rfl
theorem sblank_law (c : Int) (σ : Sto) : lim C 67 [(.int .u8 c, false)] σ = some (.ret [(.bool (isBlank c), false)], σ) :=
  sblank_lim (n := 0) <| by
    simp only [sblank, sblankF, isBlank]
    cases c == 32 <;> cases c == 9 <;> cases c == 10 <;> rfl
theorem snmb_law (n : Nat) (h : n < 256) (σ : Sto) : lim C 69 [(.int .u8 n, false)] σ = some (.ret [(.bool (nmByte n false), false)], σ) :=
  snmb_lim (n := 0) <| by
    simp only [snmb, snmbF, callK_ret1 (letter_law n h σ), callK_ret1 (digit_law _ σ), List.getD_cons_zero, V.asBool, Option.bind_some, nmByte]
    cases isLetter n <;> cases isDigit n <;> cases (n : Int) == 46 <;> cases (n : Int) == 39 <;> rfl

structure SC where
  at_ : Nat
  tok : ByteArray
  pos : Nat
def SC.cells (s : ByteArray) (st : SC) : List Cell := [(.str s, false), (.int .i64 st.at_, false), (.str st.tok, false), (.int .i64 st.pos, false)]
section
variable {σ : Sto} {r : Nat} {s : ByteArray} {st : SC} {t : TypeId}
theorem sg0 (hr : r < σ.length) : memGet (σ.set r (st.cells s)) (.ptr t r 0) false 1 = some (.str s) := by simp [memGet, hr, gather, SC.cells]
theorem sg1 (hr : r < σ.length) : memGet (σ.set r (st.cells s)) (.ptr t r 1) false 1 = some (.int .i64 st.at_) := by simp [memGet, hr, gather, SC.cells]
theorem sg2 (hr : r < σ.length) : memGet (σ.set r (st.cells s)) (.ptr t r 2) false 1 = some (.str st.tok) := by simp [memGet, hr, gather, SC.cells]
theorem sg3 (hr : r < σ.length) : memGet (σ.set r (st.cells s)) (.ptr t r 3) false 1 = some (.int .i64 st.pos) := by simp [memGet, hr, gather, SC.cells]
theorem ss1 (hr : r < σ.length) (x : Nat) : memSet (σ.set r (st.cells s)) (.ptr t r 1) [(.int .i64 x, false)] = some (σ.set r (SC.cells s { st with at_ := x })) := by
  simp [memSet, hr, setCells, SC.cells]
theorem ss2 (hr : r < σ.length) (x : ByteArray) : memSet (σ.set r (st.cells s)) (.ptr t r 2) [(.str x, false)] = some (σ.set r (SC.cells s { st with tok := x })) := by
  simp [memSet, hr, setCells, SC.cells]
theorem ss3 (hr : r < σ.length) (x : Nat) : memSet (σ.set r (st.cells s)) (.ptr t r 3) [(.int .i64 x, false)] = some (σ.set r (SC.cells s { st with pos := x })) := by
  simp [memSet, hr, setCells, SC.cells]
end

theorem srun_loop (call : CallF) (n : Nat) {σ : Sto} {r : Nat} (hr : r < σ.length) {s : ByteArray} (hs : s.size < 2 ^ 61) {st : SC} {fn : FuncId} {f : Int → Bool}
    (hf : ∀ k : Nat, k < 256 → call fn [(.int .u8 k, false)] (σ.set r (st.cells s)) = some (.ret [(.bool (f k), false)], σ.set r (st.cells s))) :
    ∀ (m i : Nat), i ≤ s.size → s.size - i < m → srunl0 call n m r i (.func (.func fn) [] []) (σ.set r (st.cells s)) = some (.ret [(.int .i64 (scan f s i), false)], σ.set r (st.cells s))
  | 0, i, _, hm => by omega
  | m + 1, i, hi, hm => by
    show sruns0 call (srunl0 call n m) r i (.func (.func fn) [] []) (σ.set r (st.cells s)) = _
    unfold sruns0
    simp only [sg0 hr, Option.bind_some, V.asStr, V.asFunc, List.map_nil, List.nil_append, List.append_nil, Int.toNat_natCast]
    by_cases h1 : i < s.size
    · obtain ⟨k, hk, hb⟩ := byteAt_lt s i
      rw [hb, dlt h1, d0]
      simp only [cond_true, Bool.and_self, grd, Option.bind_some, callK_ret1 (hf k hk), List.getD_cons_zero, V.asBool, wrap_succ (show i < 2 ^ 61 by omega)]
      cases hfk : f k with
      | true =>
        rw [scan_go h1 (by rw [hb]; exact hfk)]
        exact srun_loop call n hr hs hf m (i + 1) (by omega) (by omega)
      | false =>
        rw [scan_stop (fun hh => by rw [hb, hfk] at hh; simp at hh)]
        rfl
    · rw [dnlt h1, scan_stop (fun hh => h1 hh.1)]; rfl
theorem srun_law {σ : Sto} {r : Nat} (hr : r < σ.length) {s : ByteArray} (hs : s.size < 2 ^ 61) {st : SC} {fn : FuncId} {f : Int → Bool}
    (hf : ∀ (k : Nat) (σ : Sto), k < 256 → lim C fn [(.int .u8 k, false)] σ = some (.ret [(.bool (f k), false)], σ)) {i : Nat} (hi : i ≤ s.size) :
    lim C 66 [(.ptr 69 r 0, false), (.int .i64 i, false), (.func (.func fn) [] [], false)] (σ.set r (st.cells s)) = some (.ret [(.int .i64 (scan f s i), false)], σ.set r (st.cells s)) :=
  srun_lim (n := s.size + 1) (srun_loop (lim C) (s.size + 1) hr hs (fun k hk => hf k _ hk) (s.size + 1) i hi (by omega))

/-- What a step from a place makes. -/
def stepOf (p : Nat) (k : Tok) : SC := bif k.ok then ⟨k.at_ + k.t.size, k.t, k.at_⟩ else ⟨p, ByteArray.mk #[0], k.at_⟩
def stepV (s : ByteArray) (p : Nat) : SC := stepOf p (tokV s p)
theorem wneg (n : Nat) : decide (((n : Nat) : Int) < (0 : Int)) = false := by simp
theorem nm_true (c : Int) : nmByte c true = isLetter c := by simp [nmByte]
theorem step_law {σ : Sto} {r : Nat} (hr : r < σ.length) {s : ByteArray} (hs : s.size < 2 ^ 61) {st : SC} (hp : st.at_ ≤ s.size) :
    lim C 39 [(.ptr 69 r 0, false)] (σ.set r (st.cells s)) = some (.ret [], σ.set r ((stepV s st.at_).cells s)) :=
  sstep_lim (n := 0) <| by
    have h1 := srun_law hr hs (st := st) (fn := 67) (f := isBlank) (fun k σ _ => sblank_law k σ) hp
    have hge := le_scan isBlank s st.at_
    have hle := scan_le (f := isBlank) hp
    unfold stepV tokV
    simp only [sstep, sstepF, sg1 hr, Option.bind_some, callK_ret1 h1, List.getD_cons_zero]
    generalize scan isBlank s st.at_ = i at hge hle
    have fi : ∀ x : Int, V.fits (.int .i64 x) false 1 = true := fun _ => rfl
    have h2 : ∀ j, j ≤ s.size → lim C 66 [(.ptr 69 r 0, false), (.int .i64 j, false), (.func (.func 69) [] [], false)] (σ.set r (SC.cells s { st with pos := i })) = some (.ret [(.int .i64 (scan (nmByte · false) s j), false)], σ.set r (SC.cells s { st with pos := i })) :=
      fun j hj => srun_law hr hs (st := { st with pos := i }) (fn := 69) (f := (nmByte · false)) (fun k σ hk => snmb_law k hk σ) hj
    have h3 : ∀ j, j ≤ s.size → lim C 66 [(.ptr 69 r 0, false), (.int .i64 j, false), (.func (.func 70) [] [], false)] (σ.set r (SC.cells s { st with pos := i })) = some (.ret [(.int .i64 (scan isDigit s j), false)], σ.set r (SC.cells s { st with pos := i })) :=
      fun j hj => srun_law hr hs (st := { st with pos := i }) (fn := 70) (f := isDigit) (fun k σ _ => digit_law k σ) hj
    simp only [fi, grd, cond_true, Option.bind_some, ss3 hr, sg0 hr, sg3 hr, V.asStr, V.asInt, if_true, Int.toNat_natCast, beqN]
    unfold tokAt
    by_cases hi : i = s.size
    · simp only [hi, beq_self_eq_true, cond_true, ss2 hr, ss1 hr, Option.bind_some, stepOf]
      rfl
    · have hib : (i == s.size) = false := by simpa using hi
      have hlt : i < s.size := by omega
      have w1 : IntKind.wrap .i64 ((i : Int) + 1) = ((i + 1 : Nat) : Int) := wrap_succ (by omega)
      simp only [hib, cond_false, d0, dlt hlt, Bool.and_self, cond_true, Option.bind_some, w1, wneg]
      obtain ⟨b, hb, hbe⟩ := byteAt_lt s i
      have b1 : (decide ((i : Int) ≤ ((i + 1 : Nat) : Int)) && decide (((i + 1 : Nat) : Int) ≤ (s.size : Int))) = true := by simp; omega
      have es : i + (s.extract i (i + 1)).size = i + 1 := ext_size s (by omega) (by omega)
      have hl := letter_law b hb (σ.set r (SC.cells s { st with pos := i }))
      have hd := digit_law (b : Int) (σ.set r (SC.cells s { st with pos := i }))
      have hscan1 : isLetter b = true → scan (nmByte · false) s i = scan (nmByte · false) s (i + 1) := fun h => scan_go hlt (by rw [hbe]; simp [nmByte, h])
      have hscan2 : isDigit b = true → scan isDigit s i = scan isDigit s (i + 1) := fun h => scan_go hlt (by rw [hbe]; exact h)
      have g1 := le_scan (nmByte · false) s (i + 1)
      have g2 := scan_le (f := (nmByte · false)) (s := s) (i := i + 1) (by omega)
      have g3 := le_scan isDigit s (i + 1)
      have g4 := scan_le (f := isDigit) (s := s) (i := i + 1) (by omega)
      have no : ∀ x, stepOf st.at_ (Tok.no i) = ({ at_ := st.at_, tok := ByteArray.mk #[0], pos := i } : SC) ∨ x := fun _ => .inl rfl
      have h2' := h2 i (by omega)
      have h3' := h3 i (by omega)
      have h3'' := h3 (i + 1) (by omega)
      rw [hbe]
      simp only [ss2 hr, ss1 hr, Option.bind_some, Bool.true_and, bnd2 (show i ≤ i + 1 by omega) (show i + 1 ≤ s.size by omega), Int.toNat_natCast, grd, cond_true, callK_ret1 hl, callK_ret1 hd, List.getD_cons_zero, sg0 hr, sg3 hr, callK_ret1 h2', callK_ret1 h3', callK_ret1 h3'', nm_true, V.asBool, V.asInt, V.asStr, if_true, w1]
      cases e40 : (b : Int) == 40
      case true => simp only [cond_true, stepOf, es]
      cases e41 : (b : Int) == 41
      case true => simp only [cond_true, cond_false, stepOf, es]
      cases el : isLetter b
      case true =>
        rw [hscan1 el]
        generalize scan (nmByte · false) s (i + 1) = q at g1 g2
        have h40 : ((40 : Int)) = ((40 : Nat) : Int) := rfl
        have eq1 : i + (s.extract i q).size = q := ext_size s (by omega) g2
        simp only [cond_true, cond_false, V.asBool, V.asInt, V.asStr, if_true, grd, sg0 hr, sg3 hr, fi, wneg, d0, Option.bind_some, wrap_sub (show i ≤ q by omega) (show q < 2 ^ 61 by omega), h40, dgt, wneg, Bool.true_and, bnd2 (show i ≤ q by omega) g2, Int.toNat_natCast, ss2 hr, ss1 hr, nmTok]
        cases decide (q - i > 40)
        · simp only [cond_false, stepOf, eq1, cond_true]
        · rfl
      have h5 : ((5 : Int)) = ((5 : Nat) : Int) := rfl
      have h1' : ((1 : Int)) = ((1 : Nat) : Int) := rfl
      have w1' : IntKind.wrap .i64 ((i : Int) + ((1 : Nat) : Int)) = ((i + 1 : Nat) : Int) := w1
      have h0' : ((0 : Int)) = ((0 : Nat) : Int) := rfl
      cases e35 : (b : Int) == 35
      case true =>
        generalize scan isDigit s (i + 1) = q at g3 g4
        have eq1 : i + (s.extract i q).size = q := ext_size s (by omega) g4
        simp only [cond_true, cond_false, V.asBool, V.asInt, V.asStr, if_true, grd, sg0 hr, sg3 hr, fi, wneg, d0, Option.bind_some, wrap_sub (show i + 1 ≤ q by omega) (show q < 2 ^ 61 by omega), h5, h1', w1', dgt, Bool.true_and, bnd2 (show i ≤ q by omega) g4, Int.toNat_natCast, ss2 hr, ss1 hr, numTok, e35, Bool.true_or]
        have hz : ((((q - (i + 1) : Nat) : Int)) == 0) = (q == i + 1) := by rw [Bool.eq_iff_iff, beq_iff_eq, beq_iff_eq]; omega
        rw [hz]
        by_cases hq : q = i + 1
        · subst hq; simp only [beq_self_eq_true, cond_true]; rfl
        · have hq' : (q == i + 1) = false := by simpa using hq
          have hlt1 : i + 1 < s.size := by omega
          simp only [hq', cond_false, d0, Bool.true_and, decide_eq_true (show s.size > i + 1 from hlt1), Option.bind_some, cond_true]
          cases decide (q - (i + 1) > 5) <;> cases decide (q - (i + 1) > 1) <;> cases byteAt s (i + 1) == 48 <;> (first | rfl | simp only [cond_true, cond_false, stepOf, eq1, Bool.and_self, Bool.and_false, Bool.false_and, Bool.and_true])
      cases edg : isDigit b
      case true =>
        rw [hscan2 edg]
        generalize scan isDigit s (i + 1) = q at g3 g4
        have eq1 : i + (s.extract i q).size = q := ext_size s (by omega) g4
        simp only [cond_true, cond_false, V.asBool, V.asInt, V.asStr, if_true, grd, sg0 hr, sg3 hr, fi, wneg, d0, Option.bind_some, wrap_sub (show i ≤ q by omega) (show q < 2 ^ 61 by omega), h5, h1', dgt, Bool.true_and, bnd2 (show i ≤ q by omega) g4, Int.toNat_natCast, ss2 hr, ss1 hr, numTok, e35, Bool.or_true]
        have hz : ((((q - i : Nat) : Int)) == 0) = false := by simp; omega
        have hq' : (q == i) = false := by simp; omega
        rw [hz]
        simp only [hq', cond_false, hbe, decide_eq_true (show s.size > i from hlt), cond_true, Option.bind_some]
        cases decide (q - i > 5) <;> cases decide (q - i > 1) <;> cases (b : Int) == 48 <;> (first | rfl | simp only [cond_true, cond_false, stepOf, eq1, Bool.and_self, Bool.and_false, Bool.false_and, Bool.and_true])
      simp only [cond_false, V.asBool, Option.bind_some, Bool.or_false, stepOf, Tok.no]
end Go.Ab.Mk
end
section
namespace Go.Ab.Mk
open Go.Proofs Go.Ab

/-- What is thrown: a fault at a place. -/
def fcell (c a : Int) : List Cell := [(.int .i64 c, false), (.int .i64 a, false)]
theorem sfail_law {σ : Sto} {r : Nat} (hr : r < σ.length) {s : ByteArray} (st : SC) :
    lim C 42 [(.ptr 69 r 0, false)] (σ.set r (st.cells s)) = some (.pan (.iface 54 (.ptr 36 σ.length 0)), σ.set r (st.cells s) ++ [fcell 1 st.pos]) :=
  sfail_lim (n := 0) <| by
    simp only [sfail, sfailF, sg3 hr, Option.bind_some, List.length_set]
    rfl
def noTok : ByteArray := ByteArray.mk #[0]
theorem stepTok {s : ByteArray} {p : Nat} (hp : p ≤ s.size) {w : List UInt8} (hw : w ≠ []) (hw0 : w ≠ [0]) : strIs (stepV s p).tok w = strIs (tokV s p).t w := by
  unfold stepV stepOf
  cases hk : (tokV s p).ok
  · have h1 := (tokV_ok s hp).no hk
    have e1 : strIs (ByteArray.mk #[0]) w = false := by
      rw [strIs, ByteArray.toList_eq, ByteArray.toList_eq]
      simp only [ba, beq_eq_false_iff_ne, ne_eq]
      exact fun h => hw0 h.symm
    have e2 : strIs (tokV s p).t w = false := by
      rw [strIs, beq_eq_false_iff_ne]
      intro h
      simp only [isNo, beq_iff_eq] at h1
      rw [h1, ByteArray.toList_eq, ByteArray.toList_eq] at h
      exact hw h.symm
    simp only [cond_false]
    rw [e1, e2]
  · rfl
theorem strIs_ok {s : ByteArray} {p : Nat} (hp : p ≤ s.size) {w : List UInt8} (hw : w ≠ []) (h : strIs (tokV s p).t w = true) : (tokV s p).ok = true ∧ isNo (tokV s p).t = false := by
  have hz := strIs_size h
  have hl : 0 < w.length := List.length_pos_iff.2 hw
  have hn : isNo (tokV s p).t = false := by
    cases hn : isNo (tokV s p).t with
    | false => rfl
    | true =>
      have : strIs (tokV s p).t [] = true := hn
      have h0 := strIs_size this
      simp only [List.length_nil] at h0; omega
  refine ⟨?_, hn⟩
  cases hk : (tokV s p).ok with
  | true => rfl
  | false => have := (tokV_ok s hp).no hk; rw [this] at hn; simp at hn
theorem name_ok {s : ByteArray} {p : Nat} (hp : p ≤ s.size) (h : isNameV (tokV s p).t = true) : (tokV s p).ok = true ∧ isNo (tokV s p).t = false := by
  have hn : isNo (tokV s p).t = false := by
    cases hn : isNo (tokV s p).t with
    | false => rfl
    | true => simp [isNameV, hn] at h
  refine ⟨?_, hn⟩
  cases hk : (tokV s p).ok with
  | true => rfl
  | false => have := (tokV_ok s hp).no hk; rw [this] at hn; simp at hn
theorem rnext_at {s : ByteArray} {p : Nat} (h : (tokV s p).ok = true ∧ isNo (tokV s p).t = false) : (rnextV s ⟨p, 0, 0⟩).2 = ⟨(stepV s p).at_, 0, 0⟩ := by
  unfold rnextV stepV stepOf
  simp [h.1, h.2]
theorem step_at_le {s : ByteArray} {p : Nat} (hp : p ≤ s.size) : (stepV s p).at_ ≤ s.size := by
  have h := tokV_ok s hp
  unfold stepV stepOf
  cases (tokV s p).ok
  · exact hp
  · exact h.le
theorem step_pos (s : ByteArray) (p : Nat) : (stepV s p).pos = (tokV s p).at_ := by unfold stepV stepOf; cases (tokV s p).ok <;> rfl
theorem step_tok {s : ByteArray} {p : Nat} (h : (tokV s p).ok = true) : (stepV s p).tok = (tokV s p).t := by unfold stepV stepOf; rw [h]; rfl
theorem step_lt {s : ByteArray} {p : Nat} (hp : p ≤ s.size) (h : (tokV s p).ok = true ∧ isNo (tokV s p).t = false) : p < (stepV s p).at_ := by
  have hk := tokV_ok s hp
  have := isNo_size h.2
  have := hk.ge
  unfold stepV stepOf
  rw [h.1]
  simp only [cond_true]
  omega
theorem step_law' {σ : Sto} {r : Nat} (hr : r < σ.length) {s : ByteArray} (hs : s.size < 2 ^ 61) {p : Nat} (hp : p ≤ s.size) :
    lim C 39 [(.ptr 69 r 0, false)] (σ.set r ((stepV s p).cells s)) = some (.ret [], σ.set r ((stepV s (stepV s p).at_).cells s)) := step_law hr hs (step_at_le hp)
theorem callK_panic {call : CallF} {f : FuncId} {args : List Cell} {σ σ' : Sto} {n : Nat} {K : List Cell → Sto → Option Res} {KP : V → Sto → Option Res} {v : V} (h : call f args σ = some (.pan v, σ')) :
    callK call f args σ n K KP = KP v σ' := callK_pan h

theorem stake_law {σ : Sto} {r : Nat} (hr : r < σ.length) {s : ByteArray} (hs : s.size < 2 ^ 61) {p : Nat} (hp : p ≤ s.size) {w : List UInt8} (hw : w ≠ []) (hw0 : w ≠ [0]) :
    ((rtakeV s ⟨p, 0, 0⟩ (ba w)).c = 0 ∧ rtakeV s ⟨p, 0, 0⟩ (ba w) = ⟨(stepV s p).at_, 0, 0⟩ ∧ lim C 43 [(.ptr 69 r 0, false), (.str (ba w), false)] (σ.set r ((stepV s p).cells s)) = some (.ret [], σ.set r ((stepV s (stepV s p).at_).cells s))) ∨
    ((rtakeV s ⟨p, 0, 0⟩ (ba w)).c = 1 ∧ lim C 43 [(.ptr 69 r 0, false), (.str (ba w), false)] (σ.set r ((stepV s p).cells s)) = some (.pan (.iface 54 (.ptr 36 σ.length 0)), σ.set r ((stepV s p).cells s) ++ [fcell 1 (rtakeV s ⟨p, 0, 0⟩ (ba w)).a])) := by
  have h1 := stepTok hp hw hw0
  cases h : strIs (tokV s p).t w
  · right
    have ht : ((stepV s p).tok.toList == (ba w).toList) = false := by rw [← h, ← h1]; rfl
    have ht2 : ((tokV s p).t.toList == (ba w).toList) = false := h
    have hv : rtakeV s ⟨p, 0, 0⟩ (ba w) = ⟨p, 1, (tokV s p).at_⟩ := by
      unfold rtakeV rfailV
      simp [ht2]
    rw [hv]
    refine ⟨rfl, stake_lim (n := 0) ?_⟩
    have hf := sfail_law hr (s := s) (stepV s p)
    simp only [stake, stakeF, sg2 hr, Option.bind_some, V.asStr, ht, Bool.not_false, cond_true, callK_panic hf, step_pos]
  · left
    have hok := strIs_ok hp hw h
    have ht : ((stepV s p).tok.toList == (ba w).toList) = true := by rw [← h, ← h1]; rfl
    have ht2 : ((tokV s p).t.toList == (ba w).toList) = true := h
    have hv : rtakeV s ⟨p, 0, 0⟩ (ba w) = ⟨(stepV s p).at_, 0, 0⟩ := by
      unfold rtakeV rfailV stepV stepOf
      simp [ht2, hok.1]
    rw [hv]
    refine ⟨rfl, rfl, stake_lim (n := 0) ?_⟩
    simp only [stake, stakeF, sg2 hr, Option.bind_some, V.asStr, ht, Bool.not_true, cond_false, callK_ret0 (step_law' hr hs hp)]
theorem sname_law {σ : Sto} {r : Nat} (hr : r < σ.length) {s : ByteArray} (hs : s.size < 2 ^ 61) {p : Nat} (hp : p ≤ s.size) :
    lim C 46 [(.ptr 69 r 0, false)] (σ.set r ((stepV s p).cells s)) =
      (bif isNameV (tokV s p).t then some (.ret [(.str (tokV s p).t, false)], σ.set r ((stepV s (stepV s p).at_).cells s))
       else some (.pan (.iface 54 (.ptr 36 σ.length 0)), σ.set r ((stepV s p).cells s) ++ [fcell 1 (tokV s p).at_])) := by
  have hf := sfail_law hr (s := s) (stepV s p)
  rw [step_pos] at hf
  have e0 : ∀ t : ByteArray, (t.toList == (ByteArray.mk #[]).toList) = isNo t := fun _ => rfl
  cases hk : (tokV s p).ok
  · have hno := (tokV_ok s hp).no hk
    have hn : isNameV (tokV s p).t = false := by simp [isNameV, hno]
    have htk : (stepV s p).tok = ByteArray.mk #[0] := by unfold stepV stepOf; rw [hk]; rfl
    have hl := letter_law 0 (by omega) (σ.set r ((stepV s p).cells s))
    rw [hn]
    refine sname_lim (n := 0) ?_
    have hb0 : byteAt (ByteArray.mk #[0]) 0 = ((0 : Nat) : Int) := rfl
    have hn0 : isNo (ByteArray.mk #[0]) = false := by rw [isNo, ByteArray.toList_eq, ByteArray.toList_eq]; rfl
    simp only [sname, snameF, sg2 hr, Option.bind_some, V.asStr, e0, htk, hn0, cond_false, Int.toNat_zero, hb0, callK_ret1 hl, List.getD_cons_zero, V.asBool, callK_panic hf]
    rfl
  · have htk := step_tok hk
    cases hno : isNo (tokV s p).t
    · have hz := isNo_size hno
      obtain ⟨b, hb, hbe⟩ := byteAt_lt (tokV s p).t 0
      have hl := letter_law b hb (σ.set r ((stepV s p).cells s))
      have hn : isNameV (tokV s p).t = isLetter b := by simp [isNameV, hno, hbe, nmByte]
      have hz' : decide ((0 : Int) < ((tokV s p).t.size : Int)) = true := by simp; omega
      rw [hn]
      cases hlb : isLetter b
      · refine sname_lim (n := 0) ?_
        rw [hlb] at hl
        simp only [sname, snameF, sg2 hr, Option.bind_some, V.asStr, e0, htk, hno, cond_false, Int.toNat_zero, hbe, hz', callK_ret1 hl, List.getD_cons_zero, V.asBool, callK_panic hf, grd, cond_true, Bool.and_true, Bool.not_false]
        rfl
      · refine sname_lim (n := 0) ?_
        rw [hlb] at hl
        simp only [sname, snameF, sg2 hr, Option.bind_some, V.asStr, e0, htk, hno, cond_false, Int.toNat_zero, hbe, hz', callK_ret1 hl, List.getD_cons_zero, V.asBool, grd, cond_true, Bool.and_true, Bool.not_true, callK_ret0 (step_law' hr hs hp)]
        rfl
    · have hn : isNameV (tokV s p).t = false := by simp [isNameV, hno]
      rw [hn]
      refine sname_lim (n := 0) ?_
      simp only [sname, snameF, sg2 hr, Option.bind_some, V.asStr, e0, htk, hno, cond_true, callK_panic hf]
      try rfl
theorem send_law {σ : Sto} {r : Nat} (hr : r < σ.length) {s : ByteArray} {p : Nat} (hp : p ≤ s.size) :
    ((rdoneV s ⟨p, 0, 0⟩).c = 0 ∧ lim C 23 [(.ptr 69 r 0, false)] (σ.set r ((stepV s p).cells s)) = some (.ret [], σ.set r ((stepV s p).cells s))) ∨
    ((rdoneV s ⟨p, 0, 0⟩).c = 1 ∧ lim C 23 [(.ptr 69 r 0, false)] (σ.set r ((stepV s p).cells s)) = some (.pan (.iface 54 (.ptr 36 σ.length 0)), σ.set r ((stepV s p).cells s) ++ [fcell 1 (rdoneV s ⟨p, 0, 0⟩).a])) := by
  have hf := sfail_law hr (s := s) (stepV s p)
  rw [step_pos] at hf
  have e0 : ∀ t : ByteArray, (t.toList == (ByteArray.mk #[]).toList) = isNo t := fun _ => rfl
  have hn0 : isNo (ByteArray.mk #[0]) = false := by rw [isNo, ByteArray.toList_eq, ByteArray.toList_eq]; rfl
  cases hk : (tokV s p).ok
  · right
    have hno := (tokV_ok s hp).no hk
    have htk : (stepV s p).tok = ByteArray.mk #[0] := by unfold stepV stepOf; rw [hk]; rfl
    have hv : rdoneV s ⟨p, 0, 0⟩ = ⟨p, 1, (tokV s p).at_⟩ := by unfold rdoneV rfailV; simp [hk]
    rw [hv]
    refine ⟨rfl, send_lim (n := 0) ?_⟩
    simp only [send, sendF, sg2 hr, Option.bind_some, V.asStr, e0, htk, hn0, Bool.not_false, cond_true, callK_panic hf]
  · have htk := step_tok hk
    cases hno : isNo (tokV s p).t
    · right
      have hv : rdoneV s ⟨p, 0, 0⟩ = ⟨p, 1, (tokV s p).at_⟩ := by unfold rdoneV rfailV; simp [hno]
      rw [hv]
      refine ⟨rfl, send_lim (n := 0) ?_⟩
      simp only [send, sendF, sg2 hr, Option.bind_some, V.asStr, e0, htk, hno, Bool.not_false, cond_true, callK_panic hf]
    · left
      have hv : rdoneV s ⟨p, 0, 0⟩ = ⟨p, 0, 0⟩ := by unfold rdoneV; simp [hk, hno]
      rw [hv]
      refine ⟨rfl, send_lim (n := 0) ?_⟩
      simp only [send, sendF, sg2 hr, Option.bind_some, V.asStr, e0, htk, hno, Bool.not_true, cond_false]

/-- How the scanner's level stands to the reader's. -/
def LvOk (s : ByteArray) (σ : Sto) (r p : Nat) (x : Lv × RS) : Prop :=
  (x.2.c = 0 ∧ x.2.a = 0 ∧ x.2.p ≤ s.size ∧ p < x.2.p ∧ lim C 45 [(.ptr 69 r 0, false)] (σ.set r ((stepV s p).cells s)) = some (.ret [(.agg [.int .i64 x.1.kind, .str x.1.name, .slice 3 90 x.1.args], false)], σ.set r ((stepV s x.2.p).cells s))) ∨
  (x.2.c = 1 ∧ ∃ cs, lim C 45 [(.ptr 69 r 0, false)] (σ.set r ((stepV s p).cells s)) = some (.pan (.iface 54 (.ptr 36 σ.length 0)), σ.set r cs ++ [fcell 1 x.2.a]))
theorem rs_eta {st : RS} (h1 : st.c = 0) (h2 : st.a = 0) : st = ⟨st.p, 0, 0⟩ := by cases st; simp_all
theorem rtake_stuck {s : ByteArray} {st : RS} {w : ByteArray} (hc : st.c ≠ 0) : rtakeV s st w = st := by
  have h1 : (st.c == 0) = false := by simpa using hc
  unfold rtakeV rfailV
  simp only [h1, cond_false]
  cases (!(tokV s st.p).ok || !((tokV s st.p).t.toList == w.toList)) <;> simp only [cond_true, cond_false, h1]
theorem slevel_law {s : ByteArray} (hs : s.size < 2 ^ 61) : ∀ (n p : Nat) (σ : Sto) (r : Nat), r < σ.length → p ≤ s.size → s.size - p < n → LvOk s σ r p (rlevelV n s ⟨p, 0, 0⟩)
  | 0, p, σ, r, hr, hp, hn => by omega
  | n + 1, p, σ, r, hr, hp, hn => by
    have e48 : ∀ t : ByteArray, (t.toList == (ByteArray.mk #[48]).toList) = strIs t [48] := fun _ => rfl
    have e40 : ∀ t : ByteArray, (t.toList == (ByteArray.mk #[40]).toList) = strIs t [40] := fun _ => rfl
    have e115 : ∀ t : ByteArray, (t.toList == (ByteArray.mk #[115]).toList) = strIs t [115] := fun _ => rfl
    have emax : ∀ t : ByteArray, (t.toList == (ByteArray.mk #[109, 97, 120]).toList) = strIs t [109, 97, 120] := fun _ => rfl
    have eimax : ∀ t : ByteArray, (t.toList == (ByteArray.mk #[105, 109, 97, 120]).toList) = strIs t [105, 109, 97, 120] := fun _ => rfl
    have e41 : ByteArray.mk #[41] = ba [41] := rfl
    have hr1 : room (0 + 1) = true := by decide
    have hr2 : room (1 + 1) = true := by decide
    have t48 := stepTok hp (w := [48]) (by simp) (by simp)
    have t40 := stepTok hp (w := [40]) (by simp) (by simp)
    have hst := step_law' hr hs hp
    have hsle := step_at_le hp
    have key : ∀ (x : Lv × RS), rlevelV (n + 1) s ⟨p, 0, 0⟩ = x → (∀ res, slevel (lim C) 0 r (σ.set r ((stepV s p).cells s)) = some res → lim C 45 [(.ptr 69 r 0, false)] (σ.set r ((stepV s p).cells s)) = some res) := fun x _ res h => slevel_lim (n := 0) h
    have run : ∀ res, slevel (lim C) 0 r (σ.set r ((stepV s p).cells s)) = some res → lim C 45 [(.ptr 69 r 0, false)] (σ.set r ((stepV s p).cells s)) = some res := fun res h => slevel_lim (n := 0) h
    simp only [rlevelV, bne_self_eq_false, cond_false]
    cases h0 : strIs (tokV s p).t [48]
    case true =>
      have hok := strIs_ok hp (by simp) h0
      left
      simp only [cond_true]
      rw [rnext_at hok]
      refine ⟨rfl, rfl, hsle, step_lt hp hok, run _ ?_⟩
      rw [h0] at t48
      simp only [slevel, slevelF, sg2 hr, Option.bind_some, V.asStr, e48, t48, cond_true, callK_ret0 hst]
      rfl
    rw [h0] at t48
    simp only [cond_false]
    have hname := sname_law hr hs hp
    cases h1 : isNameV (tokV s p).t
    case true =>
      have hok := name_ok hp h1
      have h40f : strIs (tokV s p).t [40] = false := by
        cases h2 : strIs (tokV s p).t [40] with
        | false => rfl
        | true =>
          exfalso
          simp only [strIs, beq_iff_eq, isNameV, Bool.and_eq_true] at h2 h1
          have : byteAt (tokV s p).t 0 = 40 := by
            rw [ByteArray.toList_eq, ByteArray.toList_eq] at h2
            simp only [byteAt, h2, ba]; rfl
          rw [this] at h1
          exact absurd h1.2 (by decide)
      left
      simp only [cond_true]
      rw [rnext_at hok]
      rw [h1] at hname
      rw [h40f] at t40
      refine ⟨rfl, rfl, hsle, step_lt hp hok, run _ ?_⟩
      simp only [slevel, slevelF, sg2 hr, Option.bind_some, V.asStr, e48, t48, e40, t40, cond_false, callK_ret1 (hname.trans (cond_true ..)), List.getD_cons_zero]
      rfl
    rw [h1] at hname
    simp only [cond_false]
    cases h2 : strIs (tokV s p).t [40]
    case false =>
      right
      simp only [cond_false]
      rw [h2] at t40
      refine ⟨by simp [rfailV], (stepV s p).cells s, run _ ?_⟩
      simp only [slevel, slevelF, sg2 hr, Option.bind_some, V.asStr, e48, t48, e40, t40, cond_false, callK_panic (hname.trans (cond_false ..))]
      simp [rfailV]
    have hok := strIs_ok hp (by simp) h2
    have hlt := step_lt hp hok
    simp only [cond_true]
    rw [rnext_at hok]
    rw [h2] at t40
    generalize hp1 : (stepV s p).at_ = p1 at hst hsle hlt
    have u115 := stepTok hsle (w := [115]) (by simp) (by simp)
    have umax := stepTok hsle (w := [109, 97, 120]) (by simp) (by simp)
    have uimax := stepTok hsle (w := [105, 109, 97, 120]) (by simp) (by simp)
    have hst1 := step_law' hr hs hsle
    have hsle1 := step_at_le hsle
    unfold lvP
    have hf1 := sfail_law hr (s := s) (stepV s p1)
    rw [step_pos] at hf1
    simp only [slevel, slevelF, sg2 hr, Option.bind_some, V.asStr, e48, t48, e40, t40, cond_false, cond_true, callK_ret0 hst, e115, u115, emax, umax, eimax, uimax, e41, hr1, hr2, callK_panic hf1] at run
    -- what a first child comes to
    have first : (tokV s p1).ok = true ∧ isNo (tokV s p1).t = false → LvOk s σ r (stepV s p1).at_ (rlevelV n s ⟨(stepV s p1).at_, 0, 0⟩) := fun h => slevel_law hs n _ σ r hr hsle1 (by have := step_lt hsle h; omega)
    cases h3 : strIs (tokV s p1).t [115]
    case true =>
      have hok1 := strIs_ok hsle (by simp) h3
      have hlt1 := step_lt hsle hok1
      simp only [cond_true, lv1]
      simp only [h3, cond_true, callK_ret0 hst1] at run
      rw [rnext_at hok1]
      have hx := first hok1
      generalize rlevelV n s ⟨(stepV s p1).at_, 0, 0⟩ = X at hx
      rcases hx with ⟨x1, x2, x3, x4, x5⟩ | ⟨x1, cs, x2⟩
      · rw [rs_eta x1 x2]
        rcases stake_law hr hs x3 (w := [41]) (by simp) (by simp) with ⟨_, y2, y3⟩ | ⟨y1, y2⟩
        · left
          rw [y2]
          have z := step_at_le x3
          have z2 := le_scan
          refine ⟨rfl, rfl, z, ?_, run _ ?_⟩
          · have hk := (tokV_ok s x3).ge
            have : X.2.p ≤ (stepV s X.2.p).at_ := by
              have := (tokV_ok s x3)
              unfold stepV stepOf
              cases (tokV s X.2.p).ok <;> simp only [cond_true, cond_false] <;> omega
            simp only
            omega
          · simp only [callK_ret1 x5, List.getD_cons_zero, fits_lv, cell_lv, grd, Bool.and_self, cond_true, Option.bind_some, callK_ret0 y3]
            rfl
        · right
          refine ⟨y1, (stepV s X.2.p).cells s, run _ ?_⟩
          simp only [callK_ret1 x5, List.getD_cons_zero, fits_lv, cell_lv, grd, Bool.and_self, cond_true, Option.bind_some, callK_panic y2]
      · right
        rw [rtake_stuck (by rw [x1]; simp)]
        refine ⟨x1, cs, run _ ?_⟩
        simp only [callK_panic x2]
    simp only [h3, cond_false] at run ⊢
    have two : ∀ (f : Lv → Lv → Lv) (B : Option Res), (tokV s p1).ok = true ∧ isNo (tokV s p1).t = false →
        (∀ (a b : Lv) (σ1 σ2 σ3 : Sto), lim C 45 [(.ptr 69 r 0, false)] (σ.set r ((stepV s (stepV s p1).at_).cells s)) = some (.ret [(.agg [.int .i64 a.kind, .str a.name, .slice 3 90 a.args], false)], σ1) →
          lim C 45 [(.ptr 69 r 0, false)] σ1 = some (.ret [(.agg [.int .i64 b.kind, .str b.name, .slice 3 90 b.args], false)], σ2) → lim C 43 [(.ptr 69 r 0, false), (.str (ba [41]), false)] σ2 = some (.ret [], σ3) →
          B = some (.ret [(.agg [.int .i64 (f a b).kind, .str (f a b).name, .slice 3 90 (f a b).args], false)], σ3)) →
        (∀ (v : V) (σ1 : Sto), lim C 45 [(.ptr 69 r 0, false)] (σ.set r ((stepV s (stepV s p1).at_).cells s)) = some (.pan v, σ1) → B = some (.pan v, σ1)) →
        (∀ (a : Lv) (v : V) (σ1 σ2 : Sto), lim C 45 [(.ptr 69 r 0, false)] (σ.set r ((stepV s (stepV s p1).at_).cells s)) = some (.ret [(.agg [.int .i64 a.kind, .str a.name, .slice 3 90 a.args], false)], σ1) →
          lim C 45 [(.ptr 69 r 0, false)] σ1 = some (.pan v, σ2) → B = some (.pan v, σ2)) →
        (∀ (a b : Lv) (v : V) (σ1 σ2 σ3 : Sto), lim C 45 [(.ptr 69 r 0, false)] (σ.set r ((stepV s (stepV s p1).at_).cells s)) = some (.ret [(.agg [.int .i64 a.kind, .str a.name, .slice 3 90 a.args], false)], σ1) →
          lim C 45 [(.ptr 69 r 0, false)] σ1 = some (.ret [(.agg [.int .i64 b.kind, .str b.name, .slice 3 90 b.args], false)], σ2) → lim C 43 [(.ptr 69 r 0, false), (.str (ba [41]), false)] σ2 = some (.pan v, σ3) →
          B = some (.pan v, σ3)) →
        (∀ res, B = some res → lim C 45 [(.ptr 69 r 0, false)] (σ.set r ((stepV s p).cells s)) = some res) → LvOk s σ r p (lv2 (rlevelV n s) s f (rnextV s ⟨p1, 0, 0⟩).2) := by
      intro f B hok1 hB1 hB2 hB3 hB4 hrun
      have hlt1 := step_lt hsle hok1
      simp only [lv2]
      rw [rnext_at hok1]
      have hx := first hok1
      generalize rlevelV n s ⟨(stepV s p1).at_, 0, 0⟩ = X at hx
      rcases hx with ⟨x1, x2, x3, x4, x5⟩ | ⟨x1, cs, x2⟩
      · rw [rs_eta x1 x2]
        have hy := slevel_law hs n X.2.p σ r hr x3 (by omega)
        generalize rlevelV n s ⟨X.2.p, 0, 0⟩ = Y at hy
        rcases hy with ⟨y1, y2, y3, y4, y5⟩ | ⟨y1, cs, y2⟩
        · rw [rs_eta y1 y2]
          rcases stake_law hr hs y3 (w := [41]) (by simp) (by simp) with ⟨_, w2, w3⟩ | ⟨w1, w2⟩
          · left
            rw [w2]
            have z := step_at_le y3
            refine ⟨rfl, rfl, z, ?_, hrun _ ?_⟩
            · have : Y.2.p ≤ (stepV s Y.2.p).at_ := by
                have := (tokV_ok s y3)
                have := this.ge
                unfold stepV stepOf
                cases (tokV s Y.2.p).ok <;> simp only [cond_true, cond_false] <;> omega
              simp only
              omega
            · exact hB1 _ _ _ _ _ x5 y5 w3
          · right
            refine ⟨w1, (stepV s Y.2.p).cells s, hrun _ ?_⟩
            exact hB4 _ _ _ _ _ _ x5 y5 w2
        · right
          rw [rtake_stuck (by rw [y1]; simp)]
          refine ⟨y1, cs, hrun _ ?_⟩
          exact hB3 _ _ _ _ x5 y2
      · right
        have hst : rlevelV n s X.2 = (.zero, X.2) := rlevel_stuck (by rw [x1]; simp)
        rw [hst, rtake_stuck (by rw [x1]; simp)]
        refine ⟨x1, cs, hrun _ ?_⟩
        exact hB2 _ _ x2
    cases h4 : strIs (tokV s p1).t [109, 97, 120]
    case true =>
      have hok1 := strIs_ok hsle (by simp) h4
      simp only [h4, cond_true, callK_ret0 hst1] at run ⊢
      refine two .max _ hok1 (fun a b σ1 σ2 σ3 k1 k2 k3 => ?_) (fun v σ1 k1 => ?_) (fun a v σ1 σ2 k1 k2 => ?_) (fun a b v σ1 σ2 σ3 k1 k2 k3 => ?_) run
      · simp only [callK_ret1 k1, callK_ret1 k2, callK_ret0 k3, List.getD_cons_zero, fits_lv, cell_lv, grd, Bool.and_self, cond_true, Option.bind_some]; rfl
      · simp only [callK_panic k1]
      · simp only [callK_ret1 k1, callK_panic k2, List.getD_cons_zero, fits_lv, grd, Bool.and_self, cond_true, Option.bind_some]
      · simp only [callK_ret1 k1, callK_ret1 k2, callK_panic k3, List.getD_cons_zero, fits_lv, grd, Bool.and_self, cond_true, Option.bind_some]
    simp only [h4, cond_false] at run ⊢
    cases h5 : strIs (tokV s p1).t [105, 109, 97, 120]
    case true =>
      have hok1 := strIs_ok hsle (by simp) h5
      simp only [h5, cond_true, callK_ret0 hst1] at run ⊢
      refine two .imax _ hok1 (fun a b σ1 σ2 σ3 k1 k2 k3 => ?_) (fun v σ1 k1 => ?_) (fun a v σ1 σ2 k1 k2 => ?_) (fun a b v σ1 σ2 σ3 k1 k2 k3 => ?_) run
      · simp only [callK_ret1 k1, callK_ret1 k2, callK_ret0 k3, List.getD_cons_zero, fits_lv, cell_lv, grd, Bool.and_self, cond_true, Option.bind_some]; rfl
      · simp only [callK_panic k1]
      · simp only [callK_ret1 k1, callK_panic k2, List.getD_cons_zero, fits_lv, grd, Bool.and_self, cond_true, Option.bind_some]
      · simp only [callK_ret1 k1, callK_ret1 k2, callK_panic k3, List.getD_cons_zero, fits_lv, grd, Bool.and_self, cond_true, Option.bind_some]
    simp only [h5, cond_false] at run ⊢
    right
    refine ⟨by simp [rfailV], (stepV s p1).cells s, run _ ?_⟩
    simp [rfailV]
end Go.Ab.Mk
end
