/- Picked by pick.py out of LvO1,LvO2. -/
import Derived.Test.YtblgboigcpbidaaGreatDoorLvTa
set_option linter.unusedSimpArgs false
set_option linter.unusedVariables false
set_option linter.deprecated false
section
namespace Go.Ab.Mk
open Go.Proofs Go.Ab
def letV (c : Int) : Bool := (decide ((IntKind.wrap .u8 ((BitVec.ofInt (IntKind.bits .u8) c ||| BitVec.ofInt (IntKind.bits .u8) (32 : Int)).toNat : Int)) ≥ (97 : Int)) && decide ((IntKind.wrap .u8 ((BitVec.ofInt (IntKind.bits .u8) c ||| BitVec.ofInt (IntKind.bits .u8) (32 : Int)).toNat : Int)) ≤ (122 : Int))) || c == 95
theorem letV_all : (List.range 256).all (fun n => letV (n : Int) == isLetter (n : Int)) = true := by decide +kernel
theorem letV_eq {n : Nat} (h : n < 256) : letV (n : Int) = isLetter (n : Int) := by
 have := List.all_eq_true.1 letV_all n (by simpa using h)
 simpa using this
theorem byteAt_lt (s : ByteArray) (i : Nat) : ∃ n : Nat, n < 256 ∧ byteAt s i = (n : Int) := ⟨(s.data.toList.getD i 0).toNat, UInt8.toNat_lt _, rfl⟩
theorem letter_law (n : Nat) (h : n < 256) (σ : Sto) : lim C 48 [(.int .u8 n, false)] σ = some (.ret [(.bool (isLetter n), false)], σ) :=
 letter_lim (n := 0) <| by
  rw [← letV_eq h]
  simp only [letter, letterF, letV]
  cases decide ((IntKind.wrap .u8 ((BitVec.ofInt (IntKind.bits .u8) (n : Int) ||| BitVec.ofInt (IntKind.bits .u8) (32 : Int)).toNat : Int)) ≥ (97 : Int)) <;> cases decide ((IntKind.wrap .u8 ((BitVec.ofInt (IntKind.bits .u8) (n : Int) ||| BitVec.ofInt (IntKind.bits .u8) (32 : Int)).toNat : Int)) ≤ (122 : Int)) <;> cases (n : Int) == 95 <;> rfl
theorem digit_law (c : Int) (σ : Sto) : lim C 50 [(.int .u8 c, false)] σ = some (.ret [(.bool (isDigit c), false)], σ) :=
 digit_lim (n := 0) <| by
  simp only [digit, digitF, isDigit, ge_iff_le]
  cases decide (48 ≤ c) <;> cases decide (c ≤ 57) <;> rfl
theorem sblank_law (c : Int) (σ : Sto) : lim C 47 [(.int .u8 c, false)] σ = some (.ret [(.bool (isBlank c), false)], σ) :=
 sblank_lim (n := 0) <| by
  simp only [sblank, sblankF, isBlank]
  cases c == 32 <;> cases c == 9 <;> cases c == 10 <;> rfl
theorem snmb_law (n : Nat) (h : n < 256) (σ : Sto) : lim C 49 [(.int .u8 n, false)] σ = some (.ret [(.bool (nmByte n false), false)], σ) :=
 snmb_lim (n := 0) <| by
  simp only [snmb, snmbF, callK_ret1 (letter_law n h σ), callK_ret1 (digit_law _ σ), List.getD_cons_zero, V.asBool, Option.bind_some, nmByte]
  cases isLetter n <;> cases isDigit n <;> cases (n : Int) == 46 <;> cases (n : Int) == 39 <;> rfl
structure SC where
 at_ : Nat
 tok : ByteArray
 pos : Nat
def SC.cells (s : ByteArray) (st : SC) : List Cell := [(.str s, false), (.int .i64 st.at_, false), (.str st.tok, false), (.int .i64 st.pos, false)]
section
variable {σ : Sto} {r : Nat} {s : ByteArray} {st : SC} {t : TypeId}
theorem sg0 (hr : r < σ.length) : memGet (σ.set r (st.cells s)) (.ptr t r 0) false 1 = some (.str s) := by simp [memGet, hr, gather, SC.cells]
theorem sg1 (hr : r < σ.length) : memGet (σ.set r (st.cells s)) (.ptr t r 1) false 1 = some (.int .i64 st.at_) := by simp [memGet, hr, gather, SC.cells]
theorem sg2 (hr : r < σ.length) : memGet (σ.set r (st.cells s)) (.ptr t r 2) false 1 = some (.str st.tok) := by simp [memGet, hr, gather, SC.cells]
theorem sg3 (hr : r < σ.length) : memGet (σ.set r (st.cells s)) (.ptr t r 3) false 1 = some (.int .i64 st.pos) := by simp [memGet, hr, gather, SC.cells]
theorem ss1 (hr : r < σ.length) (x : Nat) : memSet (σ.set r (st.cells s)) (.ptr t r 1) [(.int .i64 x, false)] = some (σ.set r (SC.cells s { st with at_ := x })) := by
 simp [memSet, hr, setCells, SC.cells]
theorem ss2 (hr : r < σ.length) (x : ByteArray) : memSet (σ.set r (st.cells s)) (.ptr t r 2) [(.str x, false)] = some (σ.set r (SC.cells s { st with tok := x })) := by
 simp [memSet, hr, setCells, SC.cells]
theorem ss3 (hr : r < σ.length) (x : Nat) : memSet (σ.set r (st.cells s)) (.ptr t r 3) [(.int .i64 x, false)] = some (σ.set r (SC.cells s { st with pos := x })) := by
 simp [memSet, hr, setCells, SC.cells]
end
theorem srun_loop (call : CallF) (n : Nat) {σ : Sto} {r : Nat} (hr : r < σ.length) {s : ByteArray} (hs : s.size < 2 ^ 61) {st : SC} {fn : FuncId} {f : Int → Bool}
  (hf : ∀ k : Nat, k < 256 → call fn [(.int .u8 k, false)] (σ.set r (st.cells s)) = some (.ret [(.bool (f k), false)], σ.set r (st.cells s))) :
  ∀ (m i : Nat), i ≤ s.size → s.size - i < m → srunl0 call n m r i (.func (.func fn) [] []) (σ.set r (st.cells s)) = some (.ret [(.int .i64 (scan f s i), false)], σ.set r (st.cells s))
 | 0, i, _, hm => by omega
 | m + 1, i, hi, hm => by
  show sruns0 call (srunl0 call n m) r i (.func (.func fn) [] []) (σ.set r (st.cells s)) = _
  unfold sruns0
  simp only [sg0 hr, Option.bind_some, V.asStr, V.asFunc, List.map_nil, List.nil_append, List.append_nil, Int.toNat_natCast]
  by_cases h1 : i < s.size
  ·obtain ⟨k, hk, hb⟩ := byteAt_lt s i
   rw [hb, dlt h1, d0]
   simp only [cond_true, Bool.and_self, grd, Option.bind_some, callK_ret1 (hf k hk), List.getD_cons_zero, V.asBool, wrap_succ (show i < 2 ^ 61 by omega)]
   cases hfk : f k with
   | true =>
    rw [scan_go h1 (by rw [hb]; exact hfk)]
    exact srun_loop call n hr hs hf m (i + 1) (by omega) (by omega)
   | false =>
    rw [scan_stop (fun hh => by rw [hb, hfk] at hh; simp at hh)]
    rfl
  ·rw [dnlt h1, scan_stop (fun hh => h1 hh.1)]; rfl
theorem srun_law {σ : Sto} {r : Nat} (hr : r < σ.length) {s : ByteArray} (hs : s.size < 2 ^ 61) {st : SC} {fn : FuncId} {f : Int → Bool}
  (hf : ∀ (k : Nat) (σ : Sto), k < 256 → lim C fn [(.int .u8 k, false)] σ = some (.ret [(.bool (f k), false)], σ)) {i : Nat} (hi : i ≤ s.size) :
  lim C 46 [(.ptr 55 r 0, false), (.int .i64 i, false), (.func (.func fn) [] [], false)] (σ.set r (st.cells s)) = some (.ret [(.int .i64 (scan f s i), false)], σ.set r (st.cells s)) :=
 srun_lim (n := s.size + 1) (srun_loop (lim C) (s.size + 1) hr hs (fun k hk => hf k _ hk) (s.size + 1) i hi (by omega))
def stepOf (p : Nat) (k : Tok) : SC := bif k.ok then ⟨k.at_ + k.t.size, k.t, k.at_⟩ else ⟨p, ByteArray.mk #[0], k.at_⟩
def stepV (s : ByteArray) (p : Nat) : SC := stepOf p (tokV s p)
theorem wneg (n : Nat) : decide (((n : Nat) : Int) < (0 : Int)) = false := by simp
theorem nm_true (c : Int) : nmByte c true = isLetter c := by simp [nmByte]
theorem step_law {σ : Sto} {r : Nat} (hr : r < σ.length) {s : ByteArray} (hs : s.size < 2 ^ 61) {st : SC} (hp : st.at_ ≤ s.size) :
    lim C 29 [(.ptr 55 r 0, false)] (σ.set r (st.cells s)) = some (.ret [], σ.set r ((stepV s st.at_).cells s)) :=
  sstep_lim (n := 0) <| by
    have h1 := srun_law hr hs (st := st) (fn := 47) (f := isBlank) (fun k σ _ => sblank_law k σ) hp
    have hge := le_scan isBlank s st.at_
    have hle := scan_le (f := isBlank) hp
    unfold stepV tokV
    simp only [sstep, sstepF, sg1 hr, Option.bind_some, callK_ret1 h1, List.getD_cons_zero]
    generalize scan isBlank s st.at_ = i at hge hle
    have fi : ∀ x : Int, V.fits (.int .i64 x) false 1 = true := fun _ => rfl
    have h2 : ∀ j, j ≤ s.size → lim C 46 [(.ptr 55 r 0, false), (.int .i64 j, false), (.func (.func 49) [] [], false)] (σ.set r (SC.cells s { st with pos := i })) = some (.ret [(.int .i64 (scan (nmByte · false) s j), false)], σ.set r (SC.cells s { st with pos := i })) :=
      fun j hj => srun_law hr hs (st := { st with pos := i }) (fn := 49) (f := (nmByte · false)) (fun k σ hk => snmb_law k hk σ) hj
    have h3 : ∀ j, j ≤ s.size → lim C 46 [(.ptr 55 r 0, false), (.int .i64 j, false), (.func (.func 50) [] [], false)] (σ.set r (SC.cells s { st with pos := i })) = some (.ret [(.int .i64 (scan isDigit s j), false)], σ.set r (SC.cells s { st with pos := i })) :=
      fun j hj => srun_law hr hs (st := { st with pos := i }) (fn := 50) (f := isDigit) (fun k σ _ => digit_law k σ) hj
    simp only [fi, grd, cond_true, Option.bind_some, ss3 hr, sg0 hr, sg3 hr, V.asStr, V.asInt, if_true, Int.toNat_natCast, beqN]
    unfold tokAt
    by_cases hi : i = s.size
    · simp only [hi, beq_self_eq_true, cond_true, ss2 hr, ss1 hr, Option.bind_some, stepOf]
      rfl
    · have hib : (i == s.size) = false := by simpa using hi
      have hlt : i < s.size := by omega
      have w1 : IntKind.wrap .i64 ((i : Int) + 1) = ((i + 1 : Nat) : Int) := wrap_succ (by omega)
      simp only [hib, cond_false, d0, dlt hlt, Bool.and_self, cond_true, Option.bind_some, w1, wneg]
      obtain ⟨b, hb, hbe⟩ := byteAt_lt s i
      have b1 : (decide ((i : Int) ≤ ((i + 1 : Nat) : Int)) && decide (((i + 1 : Nat) : Int) ≤ (s.size : Int))) = true := by simp; omega
      have es : i + (s.extract i (i + 1)).size = i + 1 := ext_size s (by omega) (by omega)
      have hl := letter_law b hb (σ.set r (SC.cells s { st with pos := i }))
      have hd := digit_law (b : Int) (σ.set r (SC.cells s { st with pos := i }))
      have hscan1 : isLetter b = true → scan (nmByte · false) s i = scan (nmByte · false) s (i + 1) := fun h => scan_go hlt (by rw [hbe]; simp [nmByte, h])
      have hscan2 : isDigit b = true → scan isDigit s i = scan isDigit s (i + 1) := fun h => scan_go hlt (by rw [hbe]; exact h)
      have g1 := le_scan (nmByte · false) s (i + 1)
      have g2 := scan_le (f := (nmByte · false)) (s := s) (i := i + 1) (by omega)
      have g3 := le_scan isDigit s (i + 1)
      have g4 := scan_le (f := isDigit) (s := s) (i := i + 1) (by omega)
      have no : ∀ x, stepOf st.at_ (Tok.no i) = ({ at_ := st.at_, tok := ByteArray.mk #[0], pos := i } : SC) ∨ x := fun _ => .inl rfl
      have h2' := h2 i (by omega)
      have h3' := h3 i (by omega)
      have h3'' := h3 (i + 1) (by omega)
      rw [hbe]
      simp only [ss2 hr, ss1 hr, Option.bind_some, Bool.true_and, bnd2 (show i ≤ i + 1 by omega) (show i + 1 ≤ s.size by omega), Int.toNat_natCast, grd, cond_true, callK_ret1 hl, callK_ret1 hd, List.getD_cons_zero, sg0 hr, sg3 hr, callK_ret1 h2', callK_ret1 h3', callK_ret1 h3'', nm_true, V.asBool, V.asInt, V.asStr, if_true, w1]
      cases e40 : (b : Int) == 40
      case true => simp only [cond_true, stepOf, es]
      cases e41 : (b : Int) == 41
      case true => simp only [cond_true, cond_false, stepOf, es]
      cases el : isLetter b
      case true =>
        rw [hscan1 el]
        generalize scan (nmByte · false) s (i + 1) = q at g1 g2
        have h40 : ((40 : Int)) = ((40 : Nat) : Int) := rfl
        have eq1 : i + (s.extract i q).size = q := ext_size s (by omega) g2
        simp only [cond_true, cond_false, V.asBool, V.asInt, V.asStr, if_true, grd, sg0 hr, sg3 hr, fi, wneg, d0, Option.bind_some, wrap_sub (show i ≤ q by omega) (show q < 2 ^ 61 by omega), h40, dgt, wneg, Bool.true_and, bnd2 (show i ≤ q by omega) g2, Int.toNat_natCast, ss2 hr, ss1 hr, nmTok]
        cases decide (q - i > 40)
        · simp only [cond_false, stepOf, eq1, cond_true]
        · rfl
      have h5 : ((5 : Int)) = ((5 : Nat) : Int) := rfl
      have h1' : ((1 : Int)) = ((1 : Nat) : Int) := rfl
      have w1' : IntKind.wrap .i64 ((i : Int) + ((1 : Nat) : Int)) = ((i + 1 : Nat) : Int) := w1
      have h0' : ((0 : Int)) = ((0 : Nat) : Int) := rfl
      cases e35 : (b : Int) == 35
      case true =>
        generalize scan isDigit s (i + 1) = q at g3 g4
        have eq1 : i + (s.extract i q).size = q := ext_size s (by omega) g4
        simp only [cond_true, cond_false, V.asBool, V.asInt, V.asStr, if_true, grd, sg0 hr, sg3 hr, fi, wneg, d0, Option.bind_some, wrap_sub (show i + 1 ≤ q by omega) (show q < 2 ^ 61 by omega), h5, h1', w1', dgt, Bool.true_and, bnd2 (show i ≤ q by omega) g4, Int.toNat_natCast, ss2 hr, ss1 hr, numTok, e35, Bool.true_or]
        have hz : ((((q - (i + 1) : Nat) : Int)) == 0) = (q == i + 1) := by rw [Bool.eq_iff_iff, beq_iff_eq, beq_iff_eq]; omega
        rw [hz]
        by_cases hq : q = i + 1
        · subst hq; simp only [beq_self_eq_true, cond_true]; rfl
        · have hq' : (q == i + 1) = false := by simpa using hq
          have hlt1 : i + 1 < s.size := by omega
          simp only [hq', cond_false, d0, Bool.true_and, decide_eq_true (show s.size > i + 1 from hlt1), Option.bind_some, cond_true]
          cases decide (q - (i + 1) > 5) <;> cases decide (q - (i + 1) > 1) <;> cases byteAt s (i + 1) == 48 <;> (first | rfl | simp only [cond_true, cond_false, stepOf, eq1, Bool.and_self, Bool.and_false, Bool.false_and, Bool.and_true])
      cases edg : isDigit b
      case true =>
        rw [hscan2 edg]
        generalize scan isDigit s (i + 1) = q at g3 g4
        have eq1 : i + (s.extract i q).size = q := ext_size s (by omega) g4
        simp only [cond_true, cond_false, V.asBool, V.asInt, V.asStr, if_true, grd, sg0 hr, sg3 hr, fi, wneg, d0, Option.bind_some, wrap_sub (show i ≤ q by omega) (show q < 2 ^ 61 by omega), h5, h1', dgt, Bool.true_and, bnd2 (show i ≤ q by omega) g4, Int.toNat_natCast, ss2 hr, ss1 hr, numTok, e35, Bool.or_true]
        have hz : ((((q - i : Nat) : Int)) == 0) = false := by simp; omega
        have hq' : (q == i) = false := by simp; omega
        rw [hz]
        simp only [hq', cond_false, hbe, decide_eq_true (show s.size > i from hlt), cond_true, Option.bind_some]
        cases decide (q - i > 5) <;> cases decide (q - i > 1) <;> cases (b : Int) == 48 <;> (first | rfl | simp only [cond_true, cond_false, stepOf, eq1, Bool.and_self, Bool.and_false, Bool.false_and, Bool.and_true])
      simp only [cond_false, V.asBool, Option.bind_some, Bool.or_false, stepOf, Tok.no]
end Go.Ab.Mk
end
section
namespace Go.Ab.Mk
open Go.Proofs Go.Ab
def fcell (c a : Int) : List Cell := [(.int .i64 c, false), (.int .i64 a, false)]
theorem sfail_law {σ : Sto} {r : Nat} (hr : r < σ.length) {s : ByteArray} (st : SC) :
  lim C 32 [(.ptr 55 r 0, false)] (σ.set r (st.cells s)) = some (.pan (.iface 49 (.ptr 33 σ.length 0)), σ.set r (st.cells s) ++ [fcell 1 st.pos]) :=
 sfail_lim (n := 0) <| by
  simp only [sfail, sfailF, sg3 hr, Option.bind_some, List.length_set]
  rfl
theorem stepTok {s : ByteArray} {p : Nat} (hp : p ≤ s.size) {w : List UInt8} (hw : w ≠ []) (hw0 : w ≠ [0]) : strIs (stepV s p).tok w = strIs (tokV s p).t w := by
 unfold stepV stepOf
 cases hk : (tokV s p).ok
 ·have h1 := (tokV_ok s hp).no hk
  have e1 : strIs (ByteArray.mk #[0]) w = false := by
   rw [strIs, ByteArray.toList_eq, ByteArray.toList_eq]
   simp only [ba, beq_eq_false_iff_ne, ne_eq]
   exact fun h => hw0 h.symm
  have e2 : strIs (tokV s p).t w = false := by
   rw [strIs, beq_eq_false_iff_ne]
   intro h
   simp only [isNo, beq_iff_eq] at h1
   rw [h1, ByteArray.toList_eq, ByteArray.toList_eq] at h
   exact hw h.symm
  simp only [cond_false]
  rw [e1, e2]
 ·rfl
theorem strIs_ok {s : ByteArray} {p : Nat} (hp : p ≤ s.size) {w : List UInt8} (hw : w ≠ []) (h : strIs (tokV s p).t w = true) : (tokV s p).ok = true ∧ isNo (tokV s p).t = false := by
 have hz := strIs_size h
 have hl : 0 < w.length := List.length_pos_iff.2 hw
 have hn : isNo (tokV s p).t = false := by
  cases hn : isNo (tokV s p).t with
  | false => rfl
  | true =>
   have : strIs (tokV s p).t [] = true := hn
   have h0 := strIs_size this
   simp only [List.length_nil] at h0; omega
 refine ⟨?_, hn⟩
 cases hk : (tokV s p).ok with
 | true => rfl
 | false => have := (tokV_ok s hp).no hk; rw [this] at hn; simp at hn
theorem name_ok {s : ByteArray} {p : Nat} (hp : p ≤ s.size) (h : isNameV (tokV s p).t = true) : (tokV s p).ok = true ∧ isNo (tokV s p).t = false := by
 have hn : isNo (tokV s p).t = false := by
  cases hn : isNo (tokV s p).t with
  | false => rfl
  | true => simp [isNameV, hn] at h
 refine ⟨?_, hn⟩
 cases hk : (tokV s p).ok with
 | true => rfl
 | false => have := (tokV_ok s hp).no hk; rw [this] at hn; simp at hn
theorem rnext_at {s : ByteArray} {p : Nat} (h : (tokV s p).ok = true ∧ isNo (tokV s p).t = false) : (rnextV s ⟨p, 0, 0⟩).2 = ⟨(stepV s p).at_, 0, 0⟩ := by
 unfold rnextV stepV stepOf
 simp [h.1, h.2]
theorem step_at_le {s : ByteArray} {p : Nat} (hp : p ≤ s.size) : (stepV s p).at_ ≤ s.size := by
 have h := tokV_ok s hp
 unfold stepV stepOf
 cases (tokV s p).ok
 ·exact hp
 ·exact h.le
theorem step_pos (s : ByteArray) (p : Nat) : (stepV s p).pos = (tokV s p).at_ := by unfold stepV stepOf; cases (tokV s p).ok <;> rfl
theorem step_tok {s : ByteArray} {p : Nat} (h : (tokV s p).ok = true) : (stepV s p).tok = (tokV s p).t := by unfold stepV stepOf; rw [h]; rfl
theorem step_lt {s : ByteArray} {p : Nat} (hp : p ≤ s.size) (h : (tokV s p).ok = true ∧ isNo (tokV s p).t = false) : p < (stepV s p).at_ := by
 have hk := tokV_ok s hp
 have := isNo_size h.2
 have := hk.ge
 unfold stepV stepOf
 rw [h.1]
 simp only [cond_true]
 omega
theorem step_law' {σ : Sto} {r : Nat} (hr : r < σ.length) {s : ByteArray} (hs : s.size < 2 ^ 61) {p : Nat} (hp : p ≤ s.size) :
  lim C 29 [(.ptr 55 r 0, false)] (σ.set r ((stepV s p).cells s)) = some (.ret [], σ.set r ((stepV s (stepV s p).at_).cells s)) := step_law hr hs (step_at_le hp)
theorem callK_panic {call : CallF} {f : FuncId} {args : List Cell} {σ σ' : Sto} {n : Nat} {K : List Cell → Sto → Option Res} {KP : V → Sto → Option Res} {v : V} (h : call f args σ = some (.pan v, σ')) :
  callK call f args σ n K KP = KP v σ' := callK_pan h
theorem stake_law {σ : Sto} {r : Nat} (hr : r < σ.length) {s : ByteArray} (hs : s.size < 2 ^ 61) {p : Nat} (hp : p ≤ s.size) {w : List UInt8} (hw : w ≠ []) (hw0 : w ≠ [0]) :
  ((rtakeV s ⟨p, 0, 0⟩ (ba w)).c = 0 ∧ rtakeV s ⟨p, 0, 0⟩ (ba w) = ⟨(stepV s p).at_, 0, 0⟩ ∧ lim C 30 [(.ptr 55 r 0, false), (.str (ba w), false)] (σ.set r ((stepV s p).cells s)) = some (.ret [], σ.set r ((stepV s (stepV s p).at_).cells s))) ∨
  ((rtakeV s ⟨p, 0, 0⟩ (ba w)).c = 1 ∧ lim C 30 [(.ptr 55 r 0, false), (.str (ba w), false)] (σ.set r ((stepV s p).cells s)) = some (.pan (.iface 49 (.ptr 33 σ.length 0)), σ.set r ((stepV s p).cells s) ++ [fcell 1 (rtakeV s ⟨p, 0, 0⟩ (ba w)).a])) := by
 have h1 := stepTok hp hw hw0
 cases h : strIs (tokV s p).t w
 ·right
  have ht : ((stepV s p).tok.toList == (ba w).toList) = false := by rw [← h, ← h1]; rfl
  have ht2 : ((tokV s p).t.toList == (ba w).toList) = false := h
  have hv : rtakeV s ⟨p, 0, 0⟩ (ba w) = ⟨p, 1, (tokV s p).at_⟩ := by
   unfold rtakeV rfailV
   simp [ht2]
  rw [hv]
  refine ⟨rfl, stake_lim (n := 0) ?_⟩
  have hf := sfail_law hr (s := s) (stepV s p)
  simp only [stake, stakeF, sg2 hr, Option.bind_some, V.asStr, ht, Bool.not_false, cond_true, callK_panic hf, step_pos]
 ·left
  have hok := strIs_ok hp hw h
  have ht : ((stepV s p).tok.toList == (ba w).toList) = true := by rw [← h, ← h1]; rfl
  have ht2 : ((tokV s p).t.toList == (ba w).toList) = true := h
  have hv : rtakeV s ⟨p, 0, 0⟩ (ba w) = ⟨(stepV s p).at_, 0, 0⟩ := by
   unfold rtakeV rfailV stepV stepOf
   simp [ht2, hok.1]
  rw [hv]
  refine ⟨rfl, rfl, stake_lim (n := 0) ?_⟩
  simp only [stake, stakeF, sg2 hr, Option.bind_some, V.asStr, ht, Bool.not_true, cond_false, callK_ret0 (step_law' hr hs hp)]
theorem sname_law {σ : Sto} {r : Nat} (hr : r < σ.length) {s : ByteArray} (hs : s.size < 2 ^ 61) {p : Nat} (hp : p ≤ s.size) :
    lim C 33 [(.ptr 55 r 0, false)] (σ.set r ((stepV s p).cells s)) =
      (bif isNameV (tokV s p).t then some (.ret [(.str (tokV s p).t, false)], σ.set r ((stepV s (stepV s p).at_).cells s))
       else some (.pan (.iface 49 (.ptr 33 σ.length 0)), σ.set r ((stepV s p).cells s) ++ [fcell 1 (tokV s p).at_])) := by
  have hf := sfail_law hr (s := s) (stepV s p)
  rw [step_pos] at hf
  have e0 : ∀ t : ByteArray, (t.toList == (ByteArray.mk #[]).toList) = isNo t := fun _ => rfl
  cases hk : (tokV s p).ok
  · have hno := (tokV_ok s hp).no hk
    have hn : isNameV (tokV s p).t = false := by simp [isNameV, hno]
    have htk : (stepV s p).tok = ByteArray.mk #[0] := by unfold stepV stepOf; rw [hk]; rfl
    have hl := letter_law 0 (by omega) (σ.set r ((stepV s p).cells s))
    rw [hn]
    refine sname_lim (n := 0) ?_
    have hb0 : byteAt (ByteArray.mk #[0]) 0 = ((0 : Nat) : Int) := rfl
    have hn0 : isNo (ByteArray.mk #[0]) = false := by rw [isNo, ByteArray.toList_eq, ByteArray.toList_eq]; rfl
    simp only [sname, snameF, sg2 hr, Option.bind_some, V.asStr, e0, htk, hn0, cond_false, Int.toNat_zero, hb0, callK_ret1 hl, List.getD_cons_zero, V.asBool, callK_panic hf]
    rfl
  · have htk := step_tok hk
    cases hno : isNo (tokV s p).t
    · have hz := isNo_size hno
      obtain ⟨b, hb, hbe⟩ := byteAt_lt (tokV s p).t 0
      have hl := letter_law b hb (σ.set r ((stepV s p).cells s))
      have hn : isNameV (tokV s p).t = isLetter b := by simp [isNameV, hno, hbe, nmByte]
      have hz' : decide ((0 : Int) < ((tokV s p).t.size : Int)) = true := by simp; omega
      rw [hn]
      cases hlb : isLetter b
      · refine sname_lim (n := 0) ?_
        rw [hlb] at hl
        simp only [sname, snameF, sg2 hr, Option.bind_some, V.asStr, e0, htk, hno, cond_false, Int.toNat_zero, hbe, hz', callK_ret1 hl, List.getD_cons_zero, V.asBool, callK_panic hf, grd, cond_true, Bool.and_true, Bool.not_false]
        rfl
      · refine sname_lim (n := 0) ?_
        rw [hlb] at hl
        simp only [sname, snameF, sg2 hr, Option.bind_some, V.asStr, e0, htk, hno, cond_false, Int.toNat_zero, hbe, hz', callK_ret1 hl, List.getD_cons_zero, V.asBool, grd, cond_true, Bool.and_true, Bool.not_true, callK_ret0 (step_law' hr hs hp)]
        rfl
    · have hn : isNameV (tokV s p).t = false := by simp [isNameV, hno]
      rw [hn]
      refine sname_lim (n := 0) ?_
      simp only [sname, snameF, sg2 hr, Option.bind_some, V.asStr, e0, htk, hno, cond_true, callK_panic hf]
      try rfl
def LvOk (s : ByteArray) (σ : Sto) (r p : Nat) (x : Lv × RS) : Prop :=
 (x.2.c = 0 ∧ x.2.a = 0 ∧ x.2.p ≤ s.size ∧ p < x.2.p ∧ lim C 55 [(.ptr 55 r 0, false)] (σ.set r ((stepV s p).cells s)) = some (.ret [(.agg [.int .i64 x.1.kind, .str x.1.name, .slice 3 92 x.1.args], false)], σ.set r ((stepV s x.2.p).cells s))) ∨
 (x.2.c = 1 ∧ ∃ cs, lim C 55 [(.ptr 55 r 0, false)] (σ.set r ((stepV s p).cells s)) = some (.pan (.iface 49 (.ptr 33 σ.length 0)), σ.set r cs ++ [fcell 1 x.2.a]))
theorem rs_eta {st : RS} (h1 : st.c = 0) (h2 : st.a = 0) : st = ⟨st.p, 0, 0⟩ := by cases st; simp_all
theorem rtake_stuck {s : ByteArray} {st : RS} {w : ByteArray} (hc : st.c ≠ 0) : rtakeV s st w = st := by
 have h1 : (st.c == 0) = false := by simpa using hc
 unfold rtakeV rfailV
 simp only [h1, cond_false]
 cases (!(tokV s st.p).ok || !((tokV s st.p).t.toList == w.toList)) <;> simp only [cond_true, cond_false, h1]
theorem slevel_law {s : ByteArray} (hs : s.size < 2 ^ 61) : ∀ (n p : Nat) (σ : Sto) (r : Nat), r < σ.length → p ≤ s.size → s.size - p < n → LvOk s σ r p (rlevelV n s ⟨p, 0, 0⟩)
 | 0, p, σ, r, hr, hp, hn => by omega
 | n + 1, p, σ, r, hr, hp, hn => by
  have e48 : ∀ t : ByteArray, (t.toList == (ByteArray.mk #[48]).toList) = strIs t [48] := fun _ => rfl
  have e40 : ∀ t : ByteArray, (t.toList == (ByteArray.mk #[40]).toList) = strIs t [40] := fun _ => rfl
  have e115 : ∀ t : ByteArray, (t.toList == (ByteArray.mk #[115]).toList) = strIs t [115] := fun _ => rfl
  have emax : ∀ t : ByteArray, (t.toList == (ByteArray.mk #[109, 97, 120]).toList) = strIs t [109, 97, 120] := fun _ => rfl
  have eimax : ∀ t : ByteArray, (t.toList == (ByteArray.mk #[105, 109, 97, 120]).toList) = strIs t [105, 109, 97, 120] := fun _ => rfl
  have e41 : ByteArray.mk #[41] = ba [41] := rfl
  have hr1 : room (0 + 1) = true := by decide
  have hr2 : room (1 + 1) = true := by decide
  have t48 := stepTok hp (w := [48]) (by simp) (by simp)
  have t40 := stepTok hp (w := [40]) (by simp) (by simp)
  have hst := step_law' hr hs hp
  have hsle := step_at_le hp
  have key : ∀ (x : Lv × RS), rlevelV (n + 1) s ⟨p, 0, 0⟩ = x → (∀ res, slevel (lim C) 0 r (σ.set r ((stepV s p).cells s)) = some res → lim C 55 [(.ptr 55 r 0, false)] (σ.set r ((stepV s p).cells s)) = some res) := fun x _ res h => slevel_lim (n := 0) h
  have run : ∀ res, slevel (lim C) 0 r (σ.set r ((stepV s p).cells s)) = some res → lim C 55 [(.ptr 55 r 0, false)] (σ.set r ((stepV s p).cells s)) = some res := fun res h => slevel_lim (n := 0) h
  simp only [rlevelV, bne_self_eq_false, cond_false]
  cases h0 : strIs (tokV s p).t [48]
  case true =>
   have hok := strIs_ok hp (by simp) h0
   left
   simp only [cond_true]
   rw [rnext_at hok]
   refine ⟨rfl, rfl, hsle, step_lt hp hok, run _ ?_⟩
   rw [h0] at t48
   simp only [slevel, slevelF, sg2 hr, Option.bind_some, V.asStr, e48, t48, cond_true, callK_ret0 hst]
   rfl
  rw [h0] at t48
  simp only [cond_false]
  have hname := sname_law hr hs hp
  cases h1 : isNameV (tokV s p).t
  case true =>
   have hok := name_ok hp h1
   have h40f : strIs (tokV s p).t [40] = false := by
    cases h2 : strIs (tokV s p).t [40] with
    | false => rfl
    | true =>
     exfalso
     simp only [strIs, beq_iff_eq, isNameV, Bool.and_eq_true] at h2 h1
     have : byteAt (tokV s p).t 0 = 40 := by
      rw [ByteArray.toList_eq, ByteArray.toList_eq] at h2
      simp only [byteAt, h2, ba]; rfl
     rw [this] at h1
     exact absurd h1.2 (by decide)
   left
   simp only [cond_true]
   rw [rnext_at hok]
   rw [h1] at hname
   rw [h40f] at t40
   refine ⟨rfl, rfl, hsle, step_lt hp hok, run _ ?_⟩
   simp only [slevel, slevelF, sg2 hr, Option.bind_some, V.asStr, e48, t48, e40, t40, cond_false, callK_ret1 (hname.trans (cond_true ..)), List.getD_cons_zero]
   rfl
  rw [h1] at hname
  simp only [cond_false]
  cases h2 : strIs (tokV s p).t [40]
  case false =>
   right
   simp only [cond_false]
   rw [h2] at t40
   refine ⟨by simp [rfailV], (stepV s p).cells s, run _ ?_⟩
   simp only [slevel, slevelF, sg2 hr, Option.bind_some, V.asStr, e48, t48, e40, t40, cond_false, callK_panic (hname.trans (cond_false ..))]
   simp [rfailV]
  have hok := strIs_ok hp (by simp) h2
  have hlt := step_lt hp hok
  simp only [cond_true]
  rw [rnext_at hok]
  rw [h2] at t40
  generalize hp1 : (stepV s p).at_ = p1 at hst hsle hlt
  have u115 := stepTok hsle (w := [115]) (by simp) (by simp)
  have umax := stepTok hsle (w := [109, 97, 120]) (by simp) (by simp)
  have uimax := stepTok hsle (w := [105, 109, 97, 120]) (by simp) (by simp)
  have hst1 := step_law' hr hs hsle
  have hsle1 := step_at_le hsle
  unfold lvP
  have hf1 := sfail_law hr (s := s) (stepV s p1)
  rw [step_pos] at hf1
  simp only [slevel, slevelF, sg2 hr, Option.bind_some, V.asStr, e48, t48, e40, t40, cond_false, cond_true, callK_ret0 hst, e115, u115, emax, umax, eimax, uimax, e41, hr1, hr2, callK_panic hf1] at run
  -- what a first child comes to
  have first : (tokV s p1).ok = true ∧ isNo (tokV s p1).t = false → LvOk s σ r (stepV s p1).at_ (rlevelV n s ⟨(stepV s p1).at_, 0, 0⟩) := fun h => slevel_law hs n _ σ r hr hsle1 (by have := step_lt hsle h; omega)
  cases h3 : strIs (tokV s p1).t [115]
  case true =>
   have hok1 := strIs_ok hsle (by simp) h3
   have hlt1 := step_lt hsle hok1
   simp only [cond_true, lv1]
   simp only [h3, cond_true, callK_ret0 hst1] at run
   rw [rnext_at hok1]
   have hx := first hok1
   generalize rlevelV n s ⟨(stepV s p1).at_, 0, 0⟩ = X at hx
   rcases hx with ⟨x1, x2, x3, x4, x5⟩ | ⟨x1, cs, x2⟩
   ·rw [rs_eta x1 x2]
    rcases stake_law hr hs x3 (w := [41]) (by simp) (by simp) with ⟨_, y2, y3⟩ | ⟨y1, y2⟩
    ·left
     rw [y2]
     have z := step_at_le x3
     have z2 := le_scan
     refine ⟨rfl, rfl, z, ?_, run _ ?_⟩
     ·have hk := (tokV_ok s x3).ge
      have : X.2.p ≤ (stepV s X.2.p).at_ := by
       have := (tokV_ok s x3)
       unfold stepV stepOf
       cases (tokV s X.2.p).ok <;> simp only [cond_true, cond_false] <;> omega
      simp only
      omega
     ·simp only [callK_ret1 x5, List.getD_cons_zero, fits_lv, cell_lv, grd, Bool.and_self, cond_true, Option.bind_some, callK_ret0 y3]
      rfl
    ·right
     refine ⟨y1, (stepV s X.2.p).cells s, run _ ?_⟩
     simp only [callK_ret1 x5, List.getD_cons_zero, fits_lv, cell_lv, grd, Bool.and_self, cond_true, Option.bind_some, callK_panic y2]
   ·right
    rw [rtake_stuck (by rw [x1]; simp)]
    refine ⟨x1, cs, run _ ?_⟩
    simp only [callK_panic x2]
  simp only [h3, cond_false] at run ⊢
  have two : ∀ (f : Lv → Lv → Lv) (B : Option Res), (tokV s p1).ok = true ∧ isNo (tokV s p1).t = false →
    (∀ (a b : Lv) (σ1 σ2 σ3 : Sto), lim C 55 [(.ptr 55 r 0, false)] (σ.set r ((stepV s (stepV s p1).at_).cells s)) = some (.ret [(.agg [.int .i64 a.kind, .str a.name, .slice 3 92 a.args], false)], σ1) →
     lim C 55 [(.ptr 55 r 0, false)] σ1 = some (.ret [(.agg [.int .i64 b.kind, .str b.name, .slice 3 92 b.args], false)], σ2) → lim C 30 [(.ptr 55 r 0, false), (.str (ba [41]), false)] σ2 = some (.ret [], σ3) →
     B = some (.ret [(.agg [.int .i64 (f a b).kind, .str (f a b).name, .slice 3 92 (f a b).args], false)], σ3)) →
    (∀ (v : V) (σ1 : Sto), lim C 55 [(.ptr 55 r 0, false)] (σ.set r ((stepV s (stepV s p1).at_).cells s)) = some (.pan v, σ1) → B = some (.pan v, σ1)) →
    (∀ (a : Lv) (v : V) (σ1 σ2 : Sto), lim C 55 [(.ptr 55 r 0, false)] (σ.set r ((stepV s (stepV s p1).at_).cells s)) = some (.ret [(.agg [.int .i64 a.kind, .str a.name, .slice 3 92 a.args], false)], σ1) →
     lim C 55 [(.ptr 55 r 0, false)] σ1 = some (.pan v, σ2) → B = some (.pan v, σ2)) →
    (∀ (a b : Lv) (v : V) (σ1 σ2 σ3 : Sto), lim C 55 [(.ptr 55 r 0, false)] (σ.set r ((stepV s (stepV s p1).at_).cells s)) = some (.ret [(.agg [.int .i64 a.kind, .str a.name, .slice 3 92 a.args], false)], σ1) →
     lim C 55 [(.ptr 55 r 0, false)] σ1 = some (.ret [(.agg [.int .i64 b.kind, .str b.name, .slice 3 92 b.args], false)], σ2) → lim C 30 [(.ptr 55 r 0, false), (.str (ba [41]), false)] σ2 = some (.pan v, σ3) →
     B = some (.pan v, σ3)) →
    (∀ res, B = some res → lim C 55 [(.ptr 55 r 0, false)] (σ.set r ((stepV s p).cells s)) = some res) → LvOk s σ r p (lv2 (rlevelV n s) s f (rnextV s ⟨p1, 0, 0⟩).2) := by
   intro f B hok1 hB1 hB2 hB3 hB4 hrun
   have hlt1 := step_lt hsle hok1
   simp only [lv2]
   rw [rnext_at hok1]
   have hx := first hok1
   generalize rlevelV n s ⟨(stepV s p1).at_, 0, 0⟩ = X at hx
   rcases hx with ⟨x1, x2, x3, x4, x5⟩ | ⟨x1, cs, x2⟩
   ·rw [rs_eta x1 x2]
    have hy := slevel_law hs n X.2.p σ r hr x3 (by omega)
    generalize rlevelV n s ⟨X.2.p, 0, 0⟩ = Y at hy
    rcases hy with ⟨y1, y2, y3, y4, y5⟩ | ⟨y1, cs, y2⟩
    ·rw [rs_eta y1 y2]
     rcases stake_law hr hs y3 (w := [41]) (by simp) (by simp) with ⟨_, w2, w3⟩ | ⟨w1, w2⟩
     ·left
      rw [w2]
      have z := step_at_le y3
      refine ⟨rfl, rfl, z, ?_, hrun _ ?_⟩
      ·have : Y.2.p ≤ (stepV s Y.2.p).at_ := by
        have := (tokV_ok s y3)
        have := this.ge
        unfold stepV stepOf
        cases (tokV s Y.2.p).ok <;> simp only [cond_true, cond_false] <;> omega
       simp only
       omega
      ·exact hB1 _ _ _ _ _ x5 y5 w3
     ·right
      refine ⟨w1, (stepV s Y.2.p).cells s, hrun _ ?_⟩
      exact hB4 _ _ _ _ _ _ x5 y5 w2
    ·right
     rw [rtake_stuck (by rw [y1]; simp)]
     refine ⟨y1, cs, hrun _ ?_⟩
     exact hB3 _ _ _ _ x5 y2
   ·right
    have hst : rlevelV n s X.2 = (.zero, X.2) := rlevel_stuck (by rw [x1]; simp)
    rw [hst, rtake_stuck (by rw [x1]; simp)]
    refine ⟨x1, cs, hrun _ ?_⟩
    exact hB2 _ _ x2
  cases h4 : strIs (tokV s p1).t [109, 97, 120]
  case true =>
   have hok1 := strIs_ok hsle (by simp) h4
   simp only [h4, cond_true, callK_ret0 hst1] at run ⊢
   refine two .max _ hok1 (fun a b σ1 σ2 σ3 k1 k2 k3 => ?_) (fun v σ1 k1 => ?_) (fun a v σ1 σ2 k1 k2 => ?_) (fun a b v σ1 σ2 σ3 k1 k2 k3 => ?_) run
   ·simp only [callK_ret1 k1, callK_ret1 k2, callK_ret0 k3, List.getD_cons_zero, fits_lv, cell_lv, grd, Bool.and_self, cond_true, Option.bind_some]; rfl
   ·simp only [callK_panic k1]
   ·simp only [callK_ret1 k1, callK_panic k2, List.getD_cons_zero, fits_lv, grd, Bool.and_self, cond_true, Option.bind_some]
   ·simp only [callK_ret1 k1, callK_ret1 k2, callK_panic k3, List.getD_cons_zero, fits_lv, grd, Bool.and_self, cond_true, Option.bind_some]
  simp only [h4, cond_false] at run ⊢
  cases h5 : strIs (tokV s p1).t [105, 109, 97, 120]
  case true =>
   have hok1 := strIs_ok hsle (by simp) h5
   simp only [h5, cond_true, callK_ret0 hst1] at run ⊢
   refine two .imax _ hok1 (fun a b σ1 σ2 σ3 k1 k2 k3 => ?_) (fun v σ1 k1 => ?_) (fun a v σ1 σ2 k1 k2 => ?_) (fun a b v σ1 σ2 σ3 k1 k2 k3 => ?_) run
   ·simp only [callK_ret1 k1, callK_ret1 k2, callK_ret0 k3, List.getD_cons_zero, fits_lv, cell_lv, grd, Bool.and_self, cond_true, Option.bind_some]; rfl
   ·simp only [callK_panic k1]
   ·simp only [callK_ret1 k1, callK_panic k2, List.getD_cons_zero, fits_lv, grd, Bool.and_self, cond_true, Option.bind_some]
   ·simp only [callK_ret1 k1, callK_ret1 k2, callK_panic k3, List.getD_cons_zero, fits_lv, grd, Bool.and_self, cond_true, Option.bind_some]
  simp only [h5, cond_false] at run ⊢
  right
  refine ⟨by simp [rfailV], (stepV s p1).cells s, run _ ?_⟩
  simp [rfailV]
end Go.Ab.Mk
end
section
namespace Go.Ab.Mk
open Go.Proofs Go.Ab
theorem wrapI {x : Int} (h0 : 0 ≤ x) (h1 : x < 2 ^ 62) : IntKind.wrap .i64 x = x := by
 obtain ⟨n, rfl⟩ := Int.eq_ofNat_of_zero_le h0
 exact wrap_nat (by omega)
theorem wrapU {x : Int} (h0 : 0 ≤ x) (h1 : x < 256) : IntKind.wrap .u8 x = x := by
 unfold IntKind.wrap
 simp [IntKind.bits, IntKind.signed] <;> omega
theorem number_loop (call : CallF) (n : Nat) {t : ByteArray} (ht : Digits t) (σ : Sto) :
  ∀ (m i acc : Nat), i ≤ t.size → t.size - i < m → acc + 1 ≤ 10 ^ i → numberl0 call n m t acc i σ = some (.ret [(.int .i64 (numFrom t i acc), false)], σ)
 | 0, i, _, _, hm, _ => by omega
 | m + 1, i, acc, hi, hm, ha => by
  show numbers0 call (numberl0 call n m) t acc i σ = _
  unfold numbers0
  have hf := ht.few
  by_cases hlt : i < t.size
  ·obtain ⟨b, hb, h1, h2⟩ := ht.byte hlt
   have hp : (10 : Nat) ^ i ≤ 10 ^ 4 := Nat.pow_le_pow_right (by omega) (by omega)
   have hp2 : acc + 1 ≤ 10000 := Nat.le_trans ha hp
   rw [d0, dlt hlt]
   simp only [cond_true, Bool.and_self, grd, Option.bind_some, Int.toNat_natCast, hb]
   have e1 : IntKind.wrap .u8 ((b : Int) - 48) = ((b - 48 : Nat) : Int) := by rw [wrapU (by omega) (by omega)]; omega
   have e2 : IntKind.wrap .i64 ((b - 48 : Nat) : Int) = ((b - 48 : Nat) : Int) := wrap_nat (by omega)
   have e3 : IntKind.wrap .i64 (10 * (acc : Int)) = ((10 * acc : Nat) : Int) := by rw [wrapI (by omega) (by omega)]; omega
   have e4 : IntKind.wrap .i64 (((10 * acc : Nat) : Int) + ((b - 48 : Nat) : Int)) = ((10 * acc + (b - 48) : Nat) : Int) := by rw [wrapI (by omega) (by omega)]; omega
   rw [e1, e2, e3, e4, wrap_succ (show i < 2 ^ 61 by omega), numFrom_go hlt, hb, Int.toNat_natCast]
   exact number_loop call n ht σ m (i + 1) _ (by omega) (by omega) (by rw [Nat.pow_succ]; omega)
  ·rw [dnlt hlt, numFrom_end hlt]; rfl
theorem number_law {t : ByteArray} (ht : Digits t) (σ : Sto) : lim C 62 [(.str t, false)] σ = some (.ret [(.int .i64 (numV t), false)], σ) :=
 number_lim (n := t.size + 1) <| number_loop (lim C) (t.size + 1) ht σ (t.size + 1) 0 0 (by omega) (by omega) (by simp)
def hashed (t : ByteArray) : Bool := !isNo t && byteAt t 0 == 35
theorem hashed_size {t : ByteArray} (h : hashed t = true) : 0 < t.size := by
 simp only [hashed, Bool.and_eq_true, Bool.not_eq_true'] at h
 exact isNo_size h.1
theorem isNo_of_size {t : ByteArray} (h : t.size = 0) : isNo t = true := by
 cases hn : isNo t with
 | true => rfl
 | false => have := isNo_size hn; omega
theorem extract_one {t : ByteArray} (h : 0 < t.size) : (t.extract 0 1).toList = [t.data.toList.getD 0 0] := by
 have h' : 0 < t.data.toList.length := h
 rw [ByteArray.toList_eq, ByteArray.data_extract, Array.toList_extract]
 generalize t.data.toList = l at h' ⊢
 match l, h' with
 | x :: xs, _ => rfl
theorem hasPrefix_law (t : ByteArray) (σ : Sto) : lim C 97 [(.str t, false), (.str (ByteArray.mk #[35]), false)] σ = some (.ret [(.bool (hashed t), false)], σ) :=
 hasPrefix_lim (n := 0) <| by
  have e1 : (ByteArray.mk #[35]).size = 1 := rfl
  by_cases hz : 0 < t.size
  ·have hd : decide ((t.size : Int) ≥ ((1 : Nat) : Int)) = true := by simp; omega
   have hd2 : decide (((1 : Nat) : Int) ≤ (t.size : Int)) = true := by simp; omega
   have hn : isNo t = false := by
    cases hn : isNo t with
    | false => rfl
    | true =>
     simp only [isNo, beq_iff_eq] at hn
     rw [ByteArray.toList_eq, ByteArray.toList_eq] at hn
     have h' : 0 < t.data.toList.length := hz
     rw [hn] at h'
     simp at h'
   have hr : ((t.extract 0 1).toList == (ByteArray.mk #[35]).toList) = (byteAt t 0 == 35) := by
    rw [extract_one hz, ByteArray.toList_eq]
    simp only [byteAt]
    rw [Bool.eq_iff_iff]
    simp only [beq_iff_eq, List.cons.injEq, and_true]
    constructor
    ·intro h; rw [h]; rfl
    ·intro h
     apply UInt8.toNat_inj.1
     have : (UInt8.toNat 35 : Int) = 35 := rfl
     omega
   have e0 : ((0 : Int) ≤ ((1 : Nat) : Int)) := by omega
   simp only [hasPrefix, hasPrefixF, e1, hd, hd2, cond_true, Int.le_refl, decide_true, Bool.true_and, grd, Option.bind_some, Int.toNat_zero, Int.toNat_natCast, hr, hashed, hn, Bool.not_false, decide_eq_true e0]
  ·have hd : decide ((t.size : Int) ≥ ((1 : Nat) : Int)) = false := by simp; omega
   have hn : isNo t = true := isNo_of_size (by omega)
   simp only [hasPrefix, hasPrefixF, e1, hd, cond_false, hashed, hn, Bool.not_true, Bool.false_and]
theorem cutPrefix1_law (t : ByteArray) (σ : Sto) : lim C 81 [(.str t, false), (.str (ByteArray.mk #[35]), false)] σ =
  some (.ret [(.str (bif hashed t then t.extract 1 t.size else t), false), (.bool (hashed t), false)], σ) :=
 cutPrefix1_lim (n := 0) <| by
  have e1 : (ByteArray.mk #[35]).size = 1 := rfl
  have hp := hasPrefix_law t σ
  simp only [cutPrefix1, cutPrefix1F, callK_ret1 hp, List.getD_cons_zero, V.asBool, Option.bind_some]
  cases hh : hashed t
  ·rfl
  ·have hz := hashed_size hh
   have hd2 : decide (((1 : Nat) : Int) ≤ (t.size : Int)) = true := by simp; omega
   have e0 : ((0 : Int) ≤ ((1 : Nat) : Int)) := by omega
   simp only [e1, Bool.not_true, cond_false, cond_true, hd2, Int.le_refl, decide_true, Bool.true_and, grd, Option.bind_some, Int.toNat_natCast, decide_eq_true e0]
theorem cutPrefix_law (t : ByteArray) (σ : Sto) : lim C 53 [(.str t, false), (.str (ByteArray.mk #[35]), false)] σ =
  some (.ret [(.str (bif hashed t then t.extract 1 t.size else t), false), (.bool (hashed t), false)], σ) :=
 cutPrefix_lim (n := 0) <| by
  have hp := cutPrefix1_law t σ
  simp only [cutPrefix, cutPrefixF, callK_ret2 hp, List.getD_cons_zero, List.getD_cons_succ]
def wsort : List UInt8 := [115, 111, 114, 116]
def wconst : List UInt8 := [99, 111, 110, 115, 116]
def wapp : List UInt8 := [97, 112, 112]
def wlam : List UInt8 := [108, 97, 109]
def wpi : List UInt8 := [112, 105]
def wlet : List UInt8 := [108, 101, 116]
theorem strIs_eq {t : ByteArray} {l : List UInt8} (h : strIs t l = true) : t = ba l := by
 rw [strIs, beq_iff_eq, ByteArray.toList_eq, ByteArray.toList_eq] at h
 apply ByteArray.ext
 exact Array.toList_inj.1 h
theorem strIs_ba (a b : List UInt8) : strIs (ba a) b = (a == b) := by rw [strIs, ByteArray.toList_eq, ByteArray.toList_eq]; rfl
theorem word_cases (t : ByteArray) :
  (wordIx t = 0 ∧ strIs t wsort = false ∧ strIs t wconst = false ∧ strIs t wapp = false ∧ strIs t wlam = false ∧ strIs t wpi = false ∧ strIs t wlet = false) ∨
  (wordIx t = 1 ∧ strIs t wsort = true ∧ strIs t wconst = false ∧ strIs t wapp = false ∧ strIs t wlam = false ∧ strIs t wpi = false ∧ strIs t wlet = false) ∨
  (wordIx t = 2 ∧ strIs t wsort = false ∧ strIs t wconst = true ∧ strIs t wapp = false ∧ strIs t wlam = false ∧ strIs t wpi = false ∧ strIs t wlet = false) ∨
  (wordIx t = 3 ∧ strIs t wsort = false ∧ strIs t wconst = false ∧ strIs t wapp = true ∧ strIs t wlam = false ∧ strIs t wpi = false ∧ strIs t wlet = false) ∨
  (wordIx t = 4 ∧ strIs t wsort = false ∧ strIs t wconst = false ∧ strIs t wapp = false ∧ strIs t wlam = true ∧ strIs t wpi = false ∧ strIs t wlet = false) ∨
  (wordIx t = 5 ∧ strIs t wsort = false ∧ strIs t wconst = false ∧ strIs t wapp = false ∧ strIs t wlam = false ∧ strIs t wpi = true ∧ strIs t wlet = false) ∨
  (wordIx t = 6 ∧ strIs t wsort = false ∧ strIs t wconst = false ∧ strIs t wapp = false ∧ strIs t wlam = false ∧ strIs t wpi = false ∧ strIs t wlet = true) := by
 unfold wordIx
 have f1 : [115, 111, 114, 116] = wsort := rfl
 have f2 : [99, 111, 110, 115, 116] = wconst := rfl
 have f3 : [97, 112, 112] = wapp := rfl
 have f4 : [108, 97, 109] = wlam := rfl
 have f5 : [112, 105] = wpi := rfl
 have f6 : [108, 101, 116] = wlet := rfl
 rw [f1, f2, f3, f4, f5, f6]
 cases h1 : strIs t wsort
 case true => rw [strIs_eq h1]; simp only [strIs_ba]; decide
 cases h2 : strIs t wconst
 case true => rw [strIs_eq h2]; simp only [strIs_ba]; decide
 cases h3 : strIs t wapp
 case true => rw [strIs_eq h3]; simp only [strIs_ba]; decide
 cases h4 : strIs t wlam
 case true => rw [strIs_eq h4]; simp only [strIs_ba]; decide
 cases h5 : strIs t wpi
 case true => rw [strIs_eq h5]; simp only [strIs_ba]; decide
 cases h6 : strIs t wlet
 case true => decide
 exact .inl ⟨rfl, rfl, rfl, rfl, rfl, rfl, rfl⟩
theorem wordIx_le (t : ByteArray) : wordIx t ≤ 6 := by
 rcases word_cases t with h | h | h | h | h | h | h <;> (rw [h.1]; decide)
theorem wordIx_ok {s : ByteArray} {p : Nat} (hp : p ≤ s.size) (h : wordIx (tokV s p).t ≠ 0) : (tokV s p).ok = true ∧ isNo (tokV s p).t = false := by
 rcases word_cases (tokV s p).t with k | k | k | k | k | k | k
 ·exact absurd k.1 h
 ·exact strIs_ok hp (by decide) k.2.1
 ·exact strIs_ok hp (by decide) k.2.2.1
 ·exact strIs_ok hp (by decide) k.2.2.2.1
 ·exact strIs_ok hp (by decide) k.2.2.2.2.1
 ·exact strIs_ok hp (by decide) k.2.2.2.2.2.1
 ·exact strIs_ok hp (by decide) k.2.2.2.2.2.2
def words6 : List ByteArray := [ba wsort, ba wconst, ba wapp, ba wlam, ba wpi, ba wlet]
theorem idx_words (t : ByteArray) : idx t words6 0 = (wordIx t : Int) - 1 := by
 have e : ∀ l : List UInt8, (t.toList == (ba l).toList) = strIs t l := fun _ => rfl
 unfold words6
 simp only [idx, e]
 rcases word_cases t with ⟨h0, h1, h2, h3, h4, h5, h6⟩ | ⟨h0, h1, h2, h3, h4, h5, h6⟩ | ⟨h0, h1, h2, h3, h4, h5, h6⟩ | ⟨h0, h1, h2, h3, h4, h5, h6⟩ | ⟨h0, h1, h2, h3, h4, h5, h6⟩ | ⟨h0, h1, h2, h3, h4, h5, h6⟩ | ⟨h0, h1, h2, h3, h4, h5, h6⟩ <;> simp [h0, h1, h2, h3, h4, h5, h6]
end Go.Ab.Mk
end
section
namespace Go.Ab.Mk
open Go.Proofs Go.Ab
theorem rname_law {σ : Sto} {r : Nat} {s : ByteArray} {st : RS} (h : σ[r]? = some (st.cells s)) (hs : s.size < 2 ^ 61) (hp : st.p ≤ s.size) :
  lim C 60 [(.ptr 79 r 0, false)] σ = some (.ret [(.str (rnameV s st).1, false)], σ.set r ((rnameV s st).2.cells s)) :=
 rname_lim (n := 0) <| by
  obtain ⟨hk1, hk2, hk3⟩ := tokV_ok s hp
  have ht := token_law h hs hp
  have hi := isName_law (tokV s st.p).t σ
  have hw : IntKind.wrap .i64 (((tokV s st.p).at_ : Int) + ((tokV s st.p).t.size : Int)) = (((tokV s st.p).at_ + (tokV s st.p).t.size : Nat) : Int) := wrap_add (by omega)
  have fin : ∀ st1 : RS, ∀ σ1 : Sto, σ1[r]? = some (st1.cells s) → st1.p = st.p → σ1 = σ.set r (st1.cells s) →
    (bif st1.c != 0 then some (End.ret [(V.str (ByteArray.mk #[]), false)], σ1) else
     (memSet σ1 (.ptr 79 r 1) [(.int .i64 (IntKind.wrap .i64 (((tokV s st.p).at_ : Int) + ((tokV s st.p).t.size : Int))), false)]).bind fun m => some (End.ret [(V.str (tokV s st.p).t, false)], m)) =
    some (.ret [(.str (bif st1.c != 0 then (ByteArray.mk #[], st1) else ((tokV s st.p).t, (⟨(tokV s st.p).at_ + (tokV s st.p).t.size, st1.c, st1.a⟩ : RS))).1, false)],
     σ.set r ((bif st1.c != 0 then (ByteArray.mk #[], st1) else ((tokV s st.p).t, (⟨(tokV s st.p).at_ + (tokV s st.p).t.size, st1.c, st1.a⟩ : RS))).2.cells s)) := by
   intro st1 σ1 h1 hp1 hσ
   rw [hw, rset1 h1]
   cases st1.c != 0
   ·simp only [cond_false, Option.bind_some]
    rw [hσ, List.set_set]
   ·simp only [cond_true]
    rw [hσ]
  simp only [rname, rnameF, callK_ret3 ht rfl, tok0, tok1, tok2, callK_ret1 hi, List.getD_cons_zero, V.asBool, V.asStr, V.asInt, if_true, Option.bind_some, rnameV]
  have hf := rfail_law h (tokV s st.p).at_
  have hg : (σ.set r ((rfailV st (tokV s st.p).at_).cells s))[r]? = some ((rfailV st (tokV s st.p).at_).cells s) := set_get h
  have hfp : (rfailV st (tokV s st.p).at_).p = st.p := rfail_p _ _
  cases hok : (tokV s st.p).ok
  ·simp only [Bool.not_false, cond_true, Bool.true_or, callK_ret0 hf, rd2 hg, Option.bind_some, V.asInt, if_true]
   exact fin _ _ hg hfp rfl
  ·simp only [Bool.not_true, cond_false, Bool.false_or]
   cases hno : isNameV (tokV s st.p).t
   ·simp only [Bool.not_false, cond_true, callK_ret0 hf, rd2 hg, Option.bind_some, V.asInt, if_true]
    exact fin _ _ hg hfp rfl
   ·simp only [Bool.not_true, cond_false, rd2 h, Option.bind_some, V.asInt, if_true]
    exact fin _ _ h rfl (rset_same h).symm
def peekV (s : ByteArray) (st : RS) : ByteArray := bif (tokV s st.p).ok && st.c == 0 then (tokV s st.p).t else ByteArray.mk #[]
theorem rpeek_law {σ : Sto} {r : Nat} {s : ByteArray} {st : RS} (h : σ[r]? = some (st.cells s)) (hs : s.size < 2 ^ 61) (hp : st.p ≤ s.size) :
  lim C 61 [(.ptr 79 r 0, false)] σ = some (.ret [(.str (peekV s st), false)], σ) :=
 rpeek_lim (n := 0) <| by
  have ht := token_law h hs hp
  simp only [rpeek, rpeekF, callK_ret3 ht rfl, tok0, tok1, tok2, V.asBool, V.asInt, if_true, rd2 h, Option.bind_some, peekV]
  have e : (st.c != 0) = !(st.c == 0) := rfl
  rw [e]
  cases (tokV s st.p).ok <;> cases st.c == 0 <;> rfl
theorem peek_close {s : ByteArray} {st : RS} (hp : st.p ≤ s.size) (hc : st.c = 0) : ((peekV s st).toList == (ByteArray.mk #[41]).toList) = strIs (tokV s st.p).t [41] := by
 unfold peekV
 have e : ∀ t : ByteArray, (t.toList == (ByteArray.mk #[41]).toList) = strIs t [41] := fun _ => rfl
 rw [e]
 cases hk : (tokV s st.p).ok
 ·have h1 := (tokV_ok s hp).no hk
  have : strIs (tokV s st.p).t [41] = false := by
   cases h2 : strIs (tokV s st.p).t [41] with
   | false => rfl
   | true => have := (strIs_ok hp (by simp) h2).1; rw [hk] at this; simp at this
  rw [this, hc]
  simp only [Bool.false_and, cond_false]
  rw [strIs, ByteArray.toList_eq, ByteArray.toList_eq]; rfl
 ·simp [hc]
theorem tm_fits (t : Tm) : V.fits t.val true 5 = true := rfl
theorem tm_cell (t : Tm) : [V.cell t.val 0, V.cell t.val 1, V.cell t.val 2, V.cell t.val 3, V.cell t.val 4] = t.enc := by rw [t.enc_eq]; rfl
theorem set_setN {σ : Sto} {r : Nat} {a b : List Cell} : (σ.set r a).set r b = σ.set r b := List.set_set ..
section
variable {N : Nat} {r : Nat} {σ σ' : Sto}
theorem rargs_end {t0 t1 : Int} {t2 : ByteArray} {t3 t4 : List (List V)} {o0 o1 : Int} {o2 : V} {o3 o4 : List (List V)} {m : Nat} {n : Int}
  (h : lim C 57 [(.ptr 79 r 0, false), (.str (ba [41]), false)] σ = some (.ret [], σ')) :
  rterml1 (lim C) N (m + 1) r n n t0 t1 t2 t3 t4 o0 o1 o2 o3 o4 σ = some (.ret [(.agg [.int .i64 o0, .int .i64 o1, o2, .slice 3 92 o3, .slice 5 44 o4], false)], σ') := by
 show rterms1 (lim C) (rterml1 (lim C) N m) r n n t0 t1 t2 t3 t4 o0 o1 o2 o3 o4 σ = _
 unfold rterms1
 have e : decide (n < n) = false := by simp
 have e41 : ByteArray.mk #[41] = ba [41] := rfl
 simp only [e, cond_false, e41, callK_ret0 h]
theorem rargs_go {t0 t1 : Int} {t2 : ByteArray} {t3 t4 : List (List V)} {o0 o1 : Int} {o2 : V} {o3 o4 : List (List V)} {m : Nat} {n i : Int} {x : Tm} (hlt : i < n)
  (h : lim C 63 [(.ptr 79 r 0, false)] σ = some (.ret [(x.val, false)], σ')) (hr : room (o4.length + 1) = true) :
  rterml1 (lim C) N (m + 1) r n i t0 t1 t2 t3 t4 o0 o1 o2 o3 o4 σ = rterml1 (lim C) N m r n (IntKind.wrap .i64 (i + 1)) t0 t1 t2 t3 t4 o0 o1 o2 o3 (o4 ++ [x.enc]) σ' := by
 show rterms1 (lim C) (rterml1 (lim C) N m) r n i t0 t1 t2 t3 t4 o0 o1 o2 o3 o4 σ = _
 unfold rterms1
 simp only [decide_eq_true hlt, cond_true, callK_ret1 h, List.getD_cons_zero, tm_fits, tm_cell, grd, Bool.and_self, Option.bind_some, hr]
end
theorem rlvs_run {N : Nat} (hN : 0 < N) {r : Nat} {s : ByteArray} (hs : s.size ≤ 200000) {t0 t1 : Int} {t2 : ByteArray} {t3 t4 : List (List V)} {o0 o1 : Int} {o2 : V} :
  ∀ (m : Nat) (ls : List Lv) (st : RS) (σ : Sto), σ[r]? = some (st.cells s) → st.p ≤ s.size → ((st.c ≠ 0 ∧ 0 < m) ∨ (ls.length + (s.size - st.p) ≤ 200000 ∧ s.size - st.p + 1 < m)) →
   rterml2 (lim C) N m r 0 t0 t1 t2 t3 t4 o0 o1 o2 (ls.map Lv.enc) [] σ =
    some (.ret [(.agg [.int .i64 o0, .int .i64 o1, o2, .slice 3 92 ((ls ++ (rlvsV m s st).1).map Lv.enc), .slice 5 44 []], false)], σ.set r ((rtakeV s (rlvsV m s st).2 (ba [41])).cells s))
 | 0, _, _, _, _, _, hm => by omega
 | m + 1, ls, st, σ, h, hp, hm => by
  have hs' : s.size < 2 ^ 61 := by omega
  show rterms2 (lim C) (rterml1 (lim C) N N) (rterml2 (lim C) N m) r 0 t0 t1 t2 t3 t4 o0 o1 o2 (ls.map Lv.enc) [] σ = _
  unfold rterms2
  have ht := rtake_law h hs' hp (ba [41])
  have hend : rterml1 (lim C) N N r 0 (0 : Int) t0 t1 t2 t3 t4 o0 o1 o2 (ls.map Lv.enc) [] σ = some (.ret [(.agg [.int .i64 o0, .int .i64 o1, o2, .slice 3 92 (ls.map Lv.enc), .slice 5 44 []], false)], σ.set r ((rtakeV s st (ba [41])).cells s)) := by
   obtain ⟨k, rfl⟩ : ∃ k, N = k + 1 := ⟨N - 1, by omega⟩
   exact rargs_end ht
  simp only [rd2 h, Option.bind_some, V.asInt, if_true]
  by_cases hc : st.c = 0
  case neg =>
   have h1 : (st.c == 0) = false := by simpa using hc
   rw [rlvs_stuck hc]
   simp only [h1, cond_false, hend, List.append_nil]
  have hpk := rpeek_law h hs' hp
  obtain ⟨hb, hm⟩ : ls.length + (s.size - st.p) ≤ 200000 ∧ s.size - st.p + 1 < m + 1 := by
   rcases hm with hm | hm
   ·exact absurd hc hm.1
   ·exact hm
  have h1 : (st.c == 0) = true := by simpa using hc
  have h2 : (st.c != 0) = false := by simp [hc]
  simp only [h1, cond_true, callK_ret1 hpk, List.getD_cons_zero, V.asStr, Option.bind_some, peek_close hp hc, rlvsV, h2, cond_false]
  cases h3 : strIs (tokV s st.p).t [41]
  case true => simp only [Bool.not_true, cond_false, hend, cond_true, List.append_nil]
  have hx := rlevel_law hs' (s.size + 1) st σ h hp (.inr (by omega)) (by omega)
  have hgo := rlevel_goes (s := s) (st := st) hp
  have htk := rlevel_took s (s.size + 1) st hp (.inr (by omega))
  have hroom : room (List.length (ls.map Lv.enc) + 1) = true := room_ok (by simp; omega)
  have hg : (σ.set r ((rlevelV (s.size + 1) s st).2.cells s))[r]? = some ((rlevelV (s.size + 1) s st).2.cells s) := set_get h
  simp only [Bool.not_false, cond_true, callK_ret1 hx, List.getD_cons_zero, fits_lv, cell_lv, grd, Bool.and_self, Option.bind_some, hroom, cond_false]
  have em : List.map Lv.enc ls ++ [(rlevelV (s.size + 1) s st).1.enc] = List.map Lv.enc (ls ++ [(rlevelV (s.size + 1) s st).1]) := by simp
  rw [em]
  have ih := rlvs_run hN hs (t0 := t0) (t1 := t1) (t2 := t2) (t3 := t3) (t4 := t4) (o0 := o0) (o1 := o1) (o2 := o2) m (ls ++ [(rlevelV (s.size + 1) s st).1]) _ _ hg hgo.le (by
   by_cases hz : (rlevelV (s.size + 1) s st).2.c = 0
   ·have hlt := (hgo.ok hz).2
    have hle := hgo.le
    right
    refine ⟨?_, ?_⟩
    ·rw [List.length_append]; simp only [List.length_cons, List.length_nil]; omega
    ·omega
   ·exact .inl ⟨hz, by omega⟩)
  rw [ih, set_setN]
  simp
end Go.Ab.Mk
end
section
namespace Go.Ab.Mk
open Go.Proofs Go.Ab
def words7 : List ByteArray := ByteArray.mk #[] :: words6
def strIs' (a b : ByteArray) : Bool := a.toList == b.toList
theorem rwords_step {N m r : Nat} {w : ByteArray} {wat : V} {k : Int} {i : Nat} (hi : i < 7) {t0 t1 : Int} {t2 : ByteArray} {t3 t4 : List (List V)} {σ : Sto} :
  rterml0 (lim C) N (m + 1) r (.str w) wat k i t0 t1 t2 t3 t4 σ = rterml0 (lim C) N m r (.str w) wat (bif strIs' (words7.getD i (ByteArray.mk #[])) w then (i : Int) else k) ((i + 1 : Nat) : Int) t0 t1 t2 t3 t4 σ := by
 show rterms0 (lim C) (rterml1 (lim C) N N) (rterml2 (lim C) N N) (rterml0 (lim C) N m) r (.str w) wat k i t0 t1 t2 t3 t4 σ = _
 unfold rterms0
 have e : V.asSlice (V.slice 1 9 [[V.str (ByteArray.mk #[])], [V.str (ByteArray.mk #[115, 111, 114, 116])], [V.str (ByteArray.mk #[99, 111, 110, 115, 116])], [V.str (ByteArray.mk #[97, 112, 112])], [V.str (ByteArray.mk #[108, 97, 109])], [V.str (ByteArray.mk #[112, 105])], [V.str (ByteArray.mk #[108, 101, 116])]]) 1 9 = some (strs words7) := rfl
 have hl : (strs words7).length = 7 := rfl
 have hi' : i < words7.length := hi
 have hs : (strs words7).getD (Int.toNat (i : Int)) [] = [V.str words7[i]] := by rw [Int.toNat_natCast]; exact strs_get hi'
 have hw : words7.getD i (ByteArray.mk #[]) = words7[i] := by rw [List.getD_eq_getElem?_getD, List.getElem?_eq_getElem hi']; rfl
 have hd : decide ((i : Int) < ((7 : Nat) : Int)) = true := by simp; omega
 simp only [e, Option.bind_some, hl, hd, cond_true, d0, Bool.and_self, grd, hs, List.getD_cons_zero, V.asStr, wrap_succ (show i < 2 ^ 61 by omega), hw, strIs']
 cases words7[i].toList == w.toList <;> rfl
theorem strIs'_ba (l : List UInt8) (w : ByteArray) : strIs' (ba l) w = strIs w l := by
 unfold strIs' strIs
 rw [Bool.eq_iff_iff, beq_iff_eq, beq_iff_eq]; exact eq_comm
theorem rwords_run {N m r : Nat} {w : ByteArray} {wat : V} {t0 t1 : Int} {t2 : ByteArray} {t3 t4 : List (List V)} {σ : Sto} :
  rterml0 (lim C) N (m + 7) r (.str w) wat 0 1 t0 t1 t2 t3 t4 σ = rterms0 (lim C) (rterml1 (lim C) N N) (rterml2 (lim C) N N) (rterml0 (lim C) N m) r (.str w) wat (wordIx w) ((7 : Nat) : Int) t0 t1 t2 t3 t4 σ := by
 show rterml0 (lim C) N (m + 1 + 1 + 1 + 1 + 1 + 1 + 1) r (.str w) wat 0 ((1 : Nat) : Int) t0 t1 t2 t3 t4 σ = _
 rw [rwords_step (by omega), rwords_step (by omega), rwords_step (by omega), rwords_step (by omega), rwords_step (by omega), rwords_step (by omega)]
 have e1 : words7.getD 1 (ByteArray.mk #[]) = ba wsort := rfl
 have e2 : words7.getD (1 + 1) (ByteArray.mk #[]) = ba wconst := rfl
 have e3 : words7.getD (1 + 1 + 1) (ByteArray.mk #[]) = ba wapp := rfl
 have e4 : words7.getD (1 + 1 + 1 + 1) (ByteArray.mk #[]) = ba wlam := rfl
 have e5 : words7.getD (1 + 1 + 1 + 1 + 1) (ByteArray.mk #[]) = ba wpi := rfl
 have e6 : words7.getD (1 + 1 + 1 + 1 + 1 + 1) (ByteArray.mk #[]) = ba wlet := rfl
 simp only [e1, e2, e3, e4, e5, e6, strIs'_ba]
 have hk : (bif strIs w wlet then (((1 + 1 + 1 + 1 + 1 + 1 : Nat)) : Int) else bif strIs w wpi then ((1 + 1 + 1 + 1 + 1 : Nat) : Int) else bif strIs w wlam then ((1 + 1 + 1 + 1 : Nat) : Int) else bif strIs w wapp then ((1 + 1 + 1 : Nat) : Int) else bif strIs w wconst then ((1 + 1 : Nat) : Int) else bif strIs w wsort then ((1 : Nat) : Int) else 0) = (wordIx w : Int) := by
  rcases word_cases w with ⟨h0, h1, h2, h3, h4, h5, h6⟩ | ⟨h0, h1, h2, h3, h4, h5, h6⟩ | ⟨h0, h1, h2, h3, h4, h5, h6⟩ | ⟨h0, h1, h2, h3, h4, h5, h6⟩ | ⟨h0, h1, h2, h3, h4, h5, h6⟩ | ⟨h0, h1, h2, h3, h4, h5, h6⟩ | ⟨h0, h1, h2, h3, h4, h5, h6⟩ <;> simp [h0, h1, h2, h3, h4, h5, h6]
 rw [hk]
 rfl
theorem rparts_run {N r : Nat} {s : ByteArray} (hs : s.size ≤ 200000) (hN : N = s.size + 10) {n : Nat} {m : Nat} {w : ByteArray} {wat : Nat} {k : Nat} (hk6 : k ≤ 6) {t0 t1 : Int} {t2 : ByteArray} {t3 t4 : List (List V)} {st : RS} {σ : Sto}
  (h : σ[r]? = some (st.cells s)) (hp : st.p ≤ s.size) (hn2 : ∀ st', Goes s st st' → st'.c ≠ 0 ∨ s.size - st'.p < n)
  (rec : ∀ (st' : RS) (σ' : Sto), σ'[r]? = some (st'.cells s) → st'.p ≤ s.size → (st'.c ≠ 0 ∨ s.size - st'.p < n) → lim C 63 [(.ptr 79 r 0, false)] σ' = some (.ret [((rtermV n s st').1.val, false)], σ'.set r ((rtermV n s st').2.cells s))) :
  rterms0 (lim C) (rterml1 (lim C) N N) (rterml2 (lim C) N N) (rterml0 (lim C) N m) r (.str w) (.int .i64 wat) k ((7 : Nat) : Int) t0 t1 t2 t3 t4 σ =
   bif k == 0 then some (.ret [((Tm.var 0).val, false)], σ.set r ((rfailV st wat).cells s)) else
    some (.ret [((tmB (rtermV n s) s k (rnextV s st).2).1.val, false)], σ.set r ((tmB (rtermV n s) s k (rnextV s st).2).2.cells s)) := by
 have hs' : s.size < 2 ^ 61 := by omega
 unfold rterms0
 have e : V.asSlice (V.slice 1 9 [[V.str (ByteArray.mk #[])], [V.str (ByteArray.mk #[115, 111, 114, 116])], [V.str (ByteArray.mk #[99, 111, 110, 115, 116])], [V.str (ByteArray.mk #[97, 112, 112])], [V.str (ByteArray.mk #[108, 97, 109])], [V.str (ByteArray.mk #[112, 105])], [V.str (ByteArray.mk #[108, 101, 116])]]) 1 9 = some (strs words7) := rfl
 have hl : (strs words7).length = 7 := rfl
 have hd : decide (((7 : Nat) : Int) < ((7 : Nat) : Int)) = false := by simp
 have hf := rfail_law h wat
 have hnx := rnext_law h hs' hp
 have g1 := rnext_goes (s := s) (st := st) hp
 have hg1 : (σ.set r ((rnextV s st).2.cells s))[r]? = some ((rnextV s st).2.cells s) := set_get h
 simp only [e, Option.bind_some, hl, hd, cond_false, callK_ret0 hf, callK_ret1 hnx]
 generalize (rnextV s st).2 = st2 at g1 hg1 ⊢
 have r1 : room (0 + 1) = true := by decide
 obtain ⟨N', rfl⟩ : ∃ N', N = N' + 5 := ⟨N - 5, by omega⟩
 have two : ∀ (f : Tm → Tm → Tm) (o0 : Int), (∀ a b, (f a b).val = .agg [.int .i64 o0, .int .i64 0, .str (ByteArray.mk #[]), .slice 3 92 [], .slice 5 44 [a.enc, b.enc]]) →
   rterml1 (lim C) (N' + 5) (N' + 5) r 2 0 t0 t1 t2 t3 t4 o0 0 (.str (ByteArray.mk #[])) [] [] (σ.set r (st2.cells s)) =
    some (.ret [((tm2 (rtermV n s) s f st2).1.val, false)], σ.set r ((tm2 (rtermV n s) s f st2).2.cells s)) := by
  intro f o0 hf
  have ha := rec _ _ hg1 g1.le (hn2 _ g1)
  rw [set_setN] at ha
  have ga : Goes s st (rtermV n s st2).2 := g1.trans (rterm_goes s n st2 g1.le (hn2 _ g1)).gone
  have hga : (σ.set r ((rtermV n s st2).2.cells s))[r]? = some ((rtermV n s st2).2.cells s) := set_get h
  have hb := rec _ _ hga ga.le (hn2 _ ga)
  rw [set_setN] at hb
  have gb : Goes s st (rtermV n s (rtermV n s st2).2).2 := ga.trans (rterm_goes s n _ ga.le (hn2 _ ga)).gone
  have hgb : (σ.set r ((rtermV n s (rtermV n s st2).2).2.cells s))[r]? = some ((rtermV n s (rtermV n s st2).2).2.cells s) := set_get h
  have ht := rtake_law hgb hs' gb.le (ba [41])
  rw [set_setN] at ht
  have w1 : IntKind.wrap .i64 ((0 : Int) + 1) = 1 := by decide
  have w2 : IntKind.wrap .i64 ((1 : Int) + 1) = 2 := by decide
  show rterml1 (lim C) (N' + 5) (N' + 2 + 1 + 1 + 1) r 2 0 t0 t1 t2 t3 t4 o0 0 (.str (ByteArray.mk #[])) [] [] (σ.set r (st2.cells s)) = _
  rw [rargs_go (by omega) ha (room_ok (by simp)), w1, rargs_go (by omega) hb (room_ok (by simp)), w2, rargs_end ht]
  simp only [tm2, hf]
  rfl
 have three : ∀ (f : Tm → Tm → Tm → Tm) (o0 : Int), (∀ a b c, (f a b c).val = .agg [.int .i64 o0, .int .i64 0, .str (ByteArray.mk #[]), .slice 3 92 [], .slice 5 44 [a.enc, b.enc, c.enc]]) →
   rterml1 (lim C) (N' + 5) (N' + 5) r 3 0 t0 t1 t2 t3 t4 o0 0 (.str (ByteArray.mk #[])) [] [] (σ.set r (st2.cells s)) =
    some (.ret [((tm3 (rtermV n s) s f st2).1.val, false)], σ.set r ((tm3 (rtermV n s) s f st2).2.cells s)) := by
  intro f o0 hf
  have ha := rec _ _ hg1 g1.le (hn2 _ g1)
  rw [set_setN] at ha
  have ga : Goes s st (rtermV n s st2).2 := g1.trans (rterm_goes s n st2 g1.le (hn2 _ g1)).gone
  have hga : (σ.set r ((rtermV n s st2).2.cells s))[r]? = some ((rtermV n s st2).2.cells s) := set_get h
  have hb := rec _ _ hga ga.le (hn2 _ ga)
  rw [set_setN] at hb
  have gb : Goes s st (rtermV n s (rtermV n s st2).2).2 := ga.trans (rterm_goes s n _ ga.le (hn2 _ ga)).gone
  have hgb : (σ.set r ((rtermV n s (rtermV n s st2).2).2.cells s))[r]? = some ((rtermV n s (rtermV n s st2).2).2.cells s) := set_get h
  have hc := rec _ _ hgb gb.le (hn2 _ gb)
  rw [set_setN] at hc
  have gc : Goes s st (rtermV n s (rtermV n s (rtermV n s st2).2).2).2 := gb.trans (rterm_goes s n _ gb.le (hn2 _ gb)).gone
  have hgc : (σ.set r ((rtermV n s (rtermV n s (rtermV n s st2).2).2).2.cells s))[r]? = some ((rtermV n s (rtermV n s (rtermV n s st2).2).2).2.cells s) := set_get h
  have ht := rtake_law hgc hs' gc.le (ba [41])
  rw [set_setN] at ht
  have w1 : IntKind.wrap .i64 ((0 : Int) + 1) = 1 := by decide
  have w2 : IntKind.wrap .i64 ((1 : Int) + 1) = 2 := by decide
  have w3 : IntKind.wrap .i64 ((2 : Int) + 1) = 3 := by decide
  show rterml1 (lim C) (N' + 5) (N' + 1 + 1 + 1 + 1 + 1) r 3 0 t0 t1 t2 t3 t4 o0 0 (.str (ByteArray.mk #[])) [] [] (σ.set r (st2.cells s)) = _
  rw [rargs_go (by omega) ha (room_ok (by simp)), w1, rargs_go (by omega) hb (room_ok (by simp)), w2, rargs_go (by omega) hc (room_ok (by simp)), w3, rargs_end ht]
  simp only [tm3, hf]
  rfl
 match k, hk6 with
 | 0, _ => rfl
 | 1, _ =>
  have hx := rlevel_law hs' (s.size + 1) st2 _ hg1 g1.le (.inr (by omega)) (by omega)
  rw [set_setN] at hx
  have gx := g1.trans (rlevel_goes g1.le).gone
  have hgx : (σ.set r ((rlevelV (s.size + 1) s st2).2.cells s))[r]? = some ((rlevelV (s.size + 1) s st2).2.cells s) := set_get h
  have ht := rtake_law hgx hs' gx.le (ba [41])
  rw [set_setN] at ht
  have e1 : (((1 : Nat) : Int) == 0) = false := rfl
  have e2 : (((1 : Nat) : Int) == 1) = true := rfl
  have e3 : ((1 : Nat) == 0) = false := rfl
  simp only [e1, e2, e3, cond_false, cond_true, callK_ret1 hx, List.getD_cons_zero, fits_lv, cell_lv, grd, Bool.and_self, Option.bind_some, r1]
  rw [rargs_end ht]
  rfl
 | 2, _ =>
  have hx := rname_law hg1 hs' g1.le
  rw [set_setN] at hx
  have gx := g1.trans (rname_goes g1.le).gone
  have hgx : (σ.set r ((rnameV s st2).2.cells s))[r]? = some ((rnameV s st2).2.cells s) := set_get h
  have e1 : (((2 : Nat) : Int) == 0) = false := rfl
  have e2 : (((2 : Nat) : Int) == 1) = false := rfl
  have e3 : ((2 : Nat) == 0) = false := rfl
  have e4 : (((2 : Nat) : Int) == 2) = true := rfl
  have ef : ∀ b : ByteArray, V.fits (.str b) false 1 = true := fun _ => rfl
  simp only [e1, e2, e3, e4, cond_false, cond_true, callK_ret1 hx, List.getD_cons_zero, ef, grd, Option.bind_some]
  have hr := rlvs_run (N := N' + 5) (by omega) hs (t0 := t0) (t1 := t1) (t2 := t2) (t3 := t3) (t4 := t4) (o0 := ((2 : Nat) : Int)) (o1 := 0) (o2 := .str (rnameV s st2).1) (N' + 5) [] _ _ hgx gx.le (.inr ⟨by have := gx.le; simp; omega, by omega⟩)
  rw [set_setN] at hr
  simp only [List.map_nil, List.nil_append] at hr
  rw [hr, hN]
  rfl
 | 3, _ => exact two .app 3 (fun _ _ => rfl)
 | 4, _ => exact two .lam 4 (fun _ _ => rfl)
 | 5, _ => exact two .pi 5 (fun _ _ => rfl)
 | 6, _ => exact three .letin 6 (fun _ _ _ => rfl)
theorem rterm_law {r : Nat} {s : ByteArray} (hs : s.size ≤ 200000) : ∀ (n : Nat) (st : RS) (σ : Sto), σ[r]? = some (st.cells s) → st.p ≤ s.size → (st.c ≠ 0 ∨ s.size - st.p < n) →
  lim C 63 [(.ptr 79 r 0, false)] σ = some (.ret [((rtermV n s st).1.val, false)], σ.set r ((rtermV n s st).2.cells s))
 | n, st, σ, h, hp, hn => rterm_lim (n := s.size + 10) <| by
  have hs' : s.size < 2 ^ 61 := by omega
  have ht := token_law h hs' hp
  simp only [rterm, rtermF, callK_ret3 ht rfl, tok0, tok1, tok2, rd2 h, V.asInt, if_true, Option.bind_some]
  by_cases hc : st.c = 0
  case neg =>
   have h2 : (st.c != 0) = true := by simpa using hc
   rw [rterm_stuck hc]
   simp only [h2, cond_true, rset_same h]
   rfl
  obtain ⟨n, rfl⟩ : ∃ k, n = k + 1 := ⟨n - 1, by rcases hn with hn | hn; exact absurd hc hn; omega⟩
  have g1 := rnext_goes (s := s) (st := st) hp
  have hc' : (st.c != 0) = false := by simp [hc]
  have hf := rfail_law h (tokV s st.p).at_
  have hnx := rnext_law h hs' hp
  have e40 : ∀ t : ByteArray, (t.toList == (ByteArray.mk #[40]).toList) = strIs t [40] := fun _ => rfl
  have e0 : ∀ t : ByteArray, (t.toList == (ByteArray.mk #[]).toList) = isNo t := fun _ => rfl
  have e35 : ∀ x : Int, (x != 35) = !(x == 35) := fun _ => rfl
  have hg1 : (σ.set r ((rnextV s st).2.cells s))[r]? = some ((rnextV s st).2.cells s) := set_get h
  have ht2 := token_law hg1 hs' g1.le
  have hn2 : ∀ st', Goes s (rnextV s st).2 st' → st'.c ≠ 0 ∨ s.size - st'.p < n := by
   intro st' h'
   have h := g1.trans h'.gone
   by_cases hz : st'.c = 0
   ·have := (h.ok hz).2
    have := h.le
    rcases hn with hn | hn
    ·exact absurd hc hn
    ·right; omega
   ·exact .inl hz
  have hw := rwords_run (N := s.size + 10) (m := s.size + 3) (r := r) (w := (tokV s (rnextV s st).2.p).t) (wat := .int .i64 (tokV s (rnextV s st).2.p).at_) (t0 := 0) (t1 := 0) (t2 := ByteArray.mk #[]) (t3 := []) (t4 := []) (σ := σ.set r ((rnextV s st).2.cells s))
  have hq := rparts_run (r := r) hs (N := s.size + 10) rfl (n := n) (m := s.size + 3) (w := (tokV s (rnextV s st).2.p).t) (wat := (tokV s (rnextV s st).2.p).at_) (k := wordIx (tokV s (rnextV s st).2.p).t) (wordIx_le _) (t0 := 0) (t1 := 0) (t2 := ByteArray.mk #[]) (t3 := []) (t4 := []) hg1 g1.le hn2
   (fun st' σ' k1 k2 k3 => rterm_law hs n st' σ' k1 k2 k3)
  rw [hq, set_setN, set_setN] at hw
  simp only [hc', cond_false, V.asBool, V.asStr, Option.bind_some, callK_ret0 hf, callK_ret1 hnx, e40, e0, e35, callK_ret3 ht2 rfl, tok0, tok1]
  have hw' : rterml0 (lim C) (s.size + 10) (s.size + 10) r (.str (tokV s (rnextV s st).2.p).t) (.int .i64 (tokV s (rnextV s st).2.p).at_) 0 1 0 0 (ByteArray.mk #[]) [] [] (σ.set r ((rnextV s st).2.cells s)) = _ := hw
  rw [hw']
  simp only [rtermV, hc', cond_false, badTok, tmP]
  clear hw hw' hq
  cases hok : (tokV s st.p).ok
  case false => rfl
  cases hno : isNo (tokV s st.p).t
  case true => rfl
  have hz := isNo_size hno
  have hz' : decide ((0 : Int) < ((tokV s st.p).t.size : Int)) = true := by simp; omega
  have hz2 : decide ((1 : Int) ≤ ((tokV s st.p).t.size : Int)) = true := by simp; omega
  simp only [Bool.not_true, cond_false, Int.le_refl, decide_true, Bool.true_and, hz', grd, cond_true, Option.bind_some, Int.toNat_zero, Bool.false_or]
  cases h40 : strIs (tokV s st.p).t [40]
  case true =>
   simp only [Bool.not_true, cond_false, Bool.and_false, cond_true]
   cases (byteAt (tokV s st.p).t 0 == 35) <;> simp only [Bool.not_true, Bool.not_false, cond_true, cond_false] <;> cases (wordIx (tokV s (rnextV s st).2.p).t == 0) <;> rfl
  cases h35 : byteAt (tokV s st.p).t 0 == 35
  case false => rfl
  have hdg := tok_num hp hok hno (by simpa using h35)
  have hnum := number_law hdg (σ.set r ((rnextV s st).2.cells s))
  have e01 : decide ((0 : Int) ≤ 1) = true := by decide
  have f1 : ∀ x : Int, V.fits (.int .i64 x) false 1 = true := fun _ => rfl
  have t1 : Int.toNat 1 = 1 := rfl
  simp only [Bool.not_true, Bool.not_false, cond_false, cond_true, hz2, e01, t1, Bool.and_self, Bool.and_true, Int.toNat_natCast, callK_ret1 hnum, List.getD_cons_zero, f1, Option.bind_some, Bool.false_and]
  rfl
end Go.Ab.Mk
end
section
namespace Go.Ab.Mk
open Go.Proofs Go.Ab
def kidsL : List Lv → List UInt8
 | [] => [41]
 | c :: L => 32 :: (printL c ++ kidsL L)
theorem write_loop (call : CallF) (n : Nat) {L : List Lv} (hb : L.length < 2 ^ 61) (b : Nat)
  (h1 : ∀ (σ : Sto) (X : List UInt8) (c : UInt8), σ[b]? = some (bcell b true X) → X.length + 1 < 2 ^ 34 → call 73 [(.ptr 63 b 0, false), (.int .u8 (c.toNat : Int), false)] σ = some (.ret [(.nilIface, false)], σ.set b (bcell b true (X ++ [c]))))
  (h : ∀ d ∈ L, ∀ (σ : Sto) (X : List UInt8), σ[b]? = some (bcell b true X) → X.length + (printL d).length < 2 ^ 34 →
   call 92 [(.ptr 63 b 0, false), (.agg [.int .i64 d.kind, .str d.name, .slice 3 92 d.args], false)] σ = some (.ret [], σ.set b (bcell b true (X ++ printL d)))) :
  ∀ (m i : Nat) (X : List UInt8) (σ : Sto), i ≤ L.length → L.length - i < m → X.length + (kidsL (L.drop i)).length < 2 ^ 34 → σ[b]? = some (bcell b true X) →
   writel0 call n m b (L.map Lv.enc) L.length i σ = some (.ret [], σ.set b (bcell b true (X ++ kidsL (L.drop i))))
 | 0, i, _, _, _, hm, _, _ => by omega
 | m + 1, i, X, σ, hi, hm, hs, hσ => by
  show writes0 call (writel0 call n m) b (L.map Lv.enc) L.length i σ = _
  unfold writes0
  rw [List.length_map]
  obtain ⟨hblt, hget⟩ := List.getElem?_eq_some_iff.1 hσ
  by_cases hlt : i < L.length
  ·have hc := List.getElem?_eq_getElem hlt
   rw [drop_cons hc] at hs
   simp only [kidsL, List.length_cons, List.length_append] at hs
   have e1 : call 73 [(.ptr 63 b 0, false), (.int .u8 32, false)] σ = some (.ret [(.nilIface, false)], σ.set b (bcell b true (X ++ [32]))) := h1 σ X 32 hσ (by omega)
   have e2 := h _ (List.getElem_mem hlt) (σ.set b (bcell b true (X ++ [32]))) (X ++ [32]) (by simp [hblt]) (by simp; omega)
   rw [d0, dlt hlt, kid_get hc, L[i].cells, drop_cons hc]
   simp only [cond_true, Bool.and_self, grd, Option.bind_some, callK_ret1 e1, callK_ret0 e2, wrap_succ (show i < 2 ^ 61 by omega), kidsL]
   rw [write_loop call n hb b h1 h m (i + 1) (X ++ [32] ++ printL L[i]) _ (by omega) (by omega) (by simp; omega) (by simp [hblt])]
   simp [List.set_set]
  ·rw [dnlt hlt, List.drop_eq_nil_of_le (by omega)]
   rw [List.drop_eq_nil_of_le (by omega)] at hs
   simp only [kidsL, List.length_cons, List.length_nil] at hs
   have e1 : call 73 [(.ptr 63 b 0, false), (.int .u8 41, false)] σ = some (.ret [(.nilIface, false)], σ.set b (bcell b true (X ++ [41]))) := h1 σ X 41 hσ (by omega)
   simp only [cond_false, callK_ret1 e1, kidsL]
theorem write_law (b : Nat) : ∀ (l : Lv) (σ : Sto) (u : Bool) (X : List UInt8), σ[b]? = some (bcell b u X) → X.length + (printL l).length < 2 ^ 34 →
  lim C 92 [(.ptr 63 b 0, false), (.agg [.int .i64 l.kind, .str l.name, .slice 3 92 l.args], false)] σ = some (.ret [], σ.set b (bcell b true (X ++ printL l))) :=
 Lv.ind fun l ih σ u X hσ hb => write_lim (n := 4) <| by
  obtain ⟨hblt, hget⟩ := List.getElem?_eq_some_iff.1 hσ
  have hlen : (l.args.length : Int) = (l.kids.length : Int) := by simp [Lv.args]
  have loop := fun (X : List UInt8) (σ : Sto) (h1 : X.length + (kidsL l.kids).length < 2 ^ 34) (h2 : σ[b]? = some (bcell b true X)) =>
   write_loop (lim C) 4 (L := l.kids) (by have := kids_few l; omega) b (fun σ X c h1 h2 => wbyte_law h1 c h2) (fun d hd σ X h1 h2 => ih d hd σ true X h1 h2) 4 0 X σ (by omega) (by have := kids_few l; omega) (by simpa using h1) h2
  simp only [List.drop_zero] at loop
  cases l with
  | zero =>
   have h1 := wstring_law hσ [48] (by simpa [printL] using hb)
   have e1 : ByteArray.mk #[48] = ba [48] := rfl
   simp only [write, writeF, Lv.kind, beq_self_eq_true, cond_true, e1, callK_ret2 h1, printL]
  | param s =>
   have h1 := wstring_law hσ s.data.toList (by simpa [printL] using hb)
   rw [ba_of] at h1
   simp only [write, writeF, Lv.kind, Lv.name, callK_ret2 h1, printL]
   rfl
  | succ l =>
   have h1 := wstring_law hσ [40, 115] (by simp [printL] at hb ⊢; omega)
   have h2 := loop (X ++ [40, 115]) (σ.set b (bcell b true (X ++ [40, 115]))) (by simp [Lv.kids, kidsL, printL] at hb ⊢; omega) (by simp [hblt])
   have e1 : ByteArray.mk #[40] = ba [40] := rfl
   have e2 : ByteArray.mk #[115] = ba [115] := rfl
   have hm : (memGet [] (V.eptr 4 [(V.str (ByteArray.mk #[])), (V.str (ByteArray.mk #[115])), (V.str (ByteArray.mk #[109, 97, 120])), (V.str (ByteArray.mk #[105, 109, 97, 120]))] (0 + Int.toNat (1 : Int) * 1)) false 1) = some (V.str (ba [115])) := rfl
   have hr : strRoom (ba [40]) (ba [115]) = true := strRoom_ok (by simp [ba_size])
   have h1' : callK (lim C) 21 [(.ptr 63 b 0, false), (.str (ba ([40] ++ [115])), false)] σ 2 = fun K KP => K [(.int .i64 ([40, 115] : List UInt8).length, false), (.nilIface, false)] (σ.set b (bcell b true (X ++ [40, 115]))) := by
    funext K KP; exact callK_ret2 h1
   simp only [write, writeF, Lv.kind, Int.reduceBEq, cond_false, hm, e1, Option.bind_some, V.asStr, hr, ba_append, h1']
   rw [hlen]
   simp only [Lv.args]
   refine Eq.trans (show _ = _ from h2) ?_
   simp [List.set_set, Lv.kids, kidsL, printL]
  | max x y =>
   have h1 := wstring_law hσ [40, 109, 97, 120] (by simp [printL] at hb ⊢; omega)
   have h2 := loop (X ++ [40, 109, 97, 120]) (σ.set b (bcell b true (X ++ [40, 109, 97, 120]))) (by simp [Lv.kids, kidsL, printL] at hb ⊢; omega) (by simp [hblt])
   have e1 : ByteArray.mk #[40] = ba [40] := rfl
   have hm : (memGet [] (V.eptr 4 [(V.str (ByteArray.mk #[])), (V.str (ByteArray.mk #[115])), (V.str (ByteArray.mk #[109, 97, 120])), (V.str (ByteArray.mk #[105, 109, 97, 120]))] (0 + Int.toNat (2 : Int) * 1)) false 1) = some (V.str (ba [109, 97, 120])) := rfl
   have hr : strRoom (ba [40]) (ba [109, 97, 120]) = true := strRoom_ok (by simp [ba_size])
   have h1' : callK (lim C) 21 [(.ptr 63 b 0, false), (.str (ba ([40] ++ [109, 97, 120])), false)] σ 2 = fun K KP => K [(.int .i64 ([40, 109, 97, 120] : List UInt8).length, false), (.nilIface, false)] (σ.set b (bcell b true (X ++ [40, 109, 97, 120]))) := by
    funext K KP; exact callK_ret2 h1
   simp only [write, writeF, Lv.kind, Int.reduceBEq, cond_false, hm, e1, Option.bind_some, V.asStr, hr, ba_append, h1']
   rw [hlen]
   simp only [Lv.args]
   refine Eq.trans (show _ = _ from h2) ?_
   simp [List.set_set, Lv.kids, kidsL, printL]
  | imax x y =>
   have h1 := wstring_law hσ [40, 105, 109, 97, 120] (by simp [printL] at hb ⊢; omega)
   have h2 := loop (X ++ [40, 105, 109, 97, 120]) (σ.set b (bcell b true (X ++ [40, 105, 109, 97, 120]))) (by simp [Lv.kids, kidsL, printL] at hb ⊢; omega) (by simp [hblt])
   have e1 : ByteArray.mk #[40] = ba [40] := rfl
   have hm : (memGet [] (V.eptr 4 [(V.str (ByteArray.mk #[])), (V.str (ByteArray.mk #[115])), (V.str (ByteArray.mk #[109, 97, 120])), (V.str (ByteArray.mk #[105, 109, 97, 120]))] (0 + Int.toNat (3 : Int) * 1)) false 1) = some (V.str (ba [105, 109, 97, 120])) := rfl
   have hr : strRoom (ba [40]) (ba [105, 109, 97, 120]) = true := strRoom_ok (by simp [ba_size])
   have h1' : callK (lim C) 21 [(.ptr 63 b 0, false), (.str (ba ([40] ++ [105, 109, 97, 120])), false)] σ 2 = fun K KP => K [(.int .i64 ([40, 105, 109, 97, 120] : List UInt8).length, false), (.nilIface, false)] (σ.set b (bcell b true (X ++ [40, 105, 109, 97, 120]))) := by
    funext K KP; exact callK_ret2 h1
   simp only [write, writeF, Lv.kind, Int.reduceBEq, cond_false, hm, e1, Option.bind_some, V.asStr, hr, ba_append, h1']
   rw [hlen]
   simp only [Lv.args]
   refine Eq.trans (show _ = _ from h2) ?_
   simp [List.set_set, Lv.kids, kidsL, printL]
theorem print_law (σ : Sto) (l : Lv) (hne : printL l ≠ []) (hb : (printL l).length < 2 ^ 33) :
  lim C 72 [(.agg [.int .i64 l.kind, .str l.name, .slice 3 92 l.args], false)] σ = some (.ret [(.str (ba (printL l)), false)], σ ++ [bcell σ.length true (printL l)]) :=
 print_lim (n := 0) <| by
  have h1 := write_law σ.length l (σ ++ [bcell σ.length false []]) false [] (by simp) (by simp; omega)
  have hset : (σ ++ [bcell σ.length false []]).set σ.length (bcell σ.length true ([] ++ printL l)) = σ ++ [bcell σ.length true (printL l)] := by
   rw [List.set_append_right _ _ (Nat.le_refl _)]; simp
  rw [hset] at h1
  have h2 : lim C 22 [(.ptr 63 σ.length 0, false)] (σ ++ [bcell σ.length true (printL l)]) = some (.ret [(.str (ba (printL l)), false)], σ ++ [bcell σ.length true (printL l)]) := by
   refine lim_ext (s := bldStringE 63 5) (by kernel_rfl) (bldStringE_of ?_)
   simp only [bldStringS, if_true]
   rw [show (σ ++ [bcell σ.length true (printL l)])[σ.length]? = some (bcell σ.length true (printL l)) by simp]
   have hn : bytesL (printL l) ≠ [] := by
    intro h0
    have := bytesL_length (printL l)
    rw [h0] at this
    exact hne (List.length_eq_zero_iff.1 this.symm)
   simp only [bcell, cond_true]
   rw [if_pos ⟨trivial, hn, by rw [bytesL_length]; exact room_ok (by omega)⟩, unbytes_bytesL]
   rfl
  have e0 : [(V.nilp, false), ((V.slice 1 5 []), true)] = bcell σ.length false [] := rfl
  simp only [print, printF, e0, callK_ret0 h1, callK_ret1 h2]
  rfl
end Go.Ab.Mk
end
section
namespace Go.Ab.Mk
open Go.Proofs Go.Ab
theorem lv_read (l : Lv) : V.agg [l.enc.getD 0 V.any, l.enc.getD 1 V.any, l.enc.getD 2 V.any] = .agg [.int .i64 l.kind, .str l.name, .slice 3 92 l.args] := by rw [l.enc_eq]; rfl
def Tm.wide : Tm → Nat
 | .const _ ls => ls.length
 | .app a b => max a.wide b.wide
 | .lam a b => max a.wide b.wide
 | .pi a b => max a.wide b.wide
 | .letin a b c => max a.wide (max b.wide c.wide)
 | _ => 1
theorem kids_le (t : Tm) : t.kids.length ≤ 3 := by cases t <;> simp [Tm.kids]
theorem lvs_le (t : Tm) : t.lvs.length ≤ t.wide := by cases t <;> simp [Tm.lvs, Tm.wide]
theorem kid_wide {t c : Tm} (h : c ∈ t.kids) : c.wide ≤ t.wide := by
 cases t <;> simp only [Tm.kids, List.mem_cons, List.not_mem_nil, or_false] at h <;> simp only [Tm.wide]
 ·rcases h with rfl | rfl <;> omega
 ·rcases h with rfl | rfl <;> omega
 ·rcases h with rfl | rfl <;> omega
 ·rcases h with rfl | rfl | rfl <;> omega
def Tm.depth : Tm → Nat
 | .app a b => max a.depth b.depth + 1
 | .lam a b => max a.depth b.depth + 1
 | .pi a b => max a.depth b.depth + 1
 | .letin a b c => max a.depth (max b.depth c.depth) + 1
 | _ => 0
def Tm.top : Tm → Nat
 | .var n => n
 | .app a b => max a.top b.top
 | .lam a b => max a.top b.top
 | .pi a b => max a.top b.top
 | .letin a b c => max a.top (max b.top c.top)
 | _ => 0
theorem tm_readB (t : Tm) : V.agg [t.enc.getD 0 V.any, t.enc.getD 1 V.any, t.enc.getD 2 V.any, t.enc.getD 3 V.any, t.enc.getD 4 V.any] = t.val := by rw [t.enc_eq]; rfl
theorem tm_get {L : List Tm} {i : Nat} (h : i < L.length) : (L.map Tm.enc).getD (Int.toNat (i : Int)) [] = L[i].enc := by simp [h]
theorem kid_depth {t c : Tm} (h : c ∈ t.kids) : c.depth + 1 ≤ t.depth ∧ c.top ≤ t.top := by
 cases t <;> simp only [Tm.kids, List.mem_cons, List.not_mem_nil, or_false] at h
 ·rcases h with rfl | rfl <;> simp only [Tm.depth, Tm.top] <;> omega
 ·rcases h with rfl | rfl <;> simp only [Tm.depth, Tm.top] <;> omega
 ·rcases h with rfl | rfl <;> simp only [Tm.depth, Tm.top] <;> omega
 ·rcases h with rfl | rfl | rfl <;> simp only [Tm.depth, Tm.top] <;> omega
theorem lv_get {L : List Lv} {i : Nat} (h : i < L.length) : (L.map Lv.enc).getD (Int.toNat (i : Int)) [] = L[i].enc := by simp [h]
end Go.Ab.Mk
end
section
namespace Go.Ab.Mk
open Go.Proofs Go.Ab Go.Proofs.Mk
def Tm.word : Tm → List UInt8
 | .var _ => []
 | .sort _ => wsort
 | .const .. => wconst
 | .app .. => wapp
 | .lam .. => wlam
 | .pi .. => wpi
 | .letin .. => wlet
def lvsL (ls : List Lv) : List UInt8 := ls.flatMap fun l => 32 :: printL l
def ksL (ks : List (List UInt8)) : List UInt8 := ks.flatMap (fun k => 32 :: k) ++ [41]
def printT : Tm → List UInt8
 | .var n => 35 :: Go.Lib.decDigits n
 | .sort l => 40 :: wsort ++ lvsL [l] ++ ksL []
 | .const s ls => 40 :: wconst ++ 32 :: s.data.toList ++ lvsL ls ++ ksL []
 | .app a b => 40 :: wapp ++ ksL [printT a, printT b]
 | .lam a b => 40 :: wlam ++ ksL [printT a, printT b]
 | .pi a b => 40 :: wpi ++ ksL [printT a, printT b]
 | .letin a b c => 40 :: wlet ++ ksL [printT a, printT b, printT c]
theorem print_node (t : Tm) (h : t.kind ≠ 0) : printT t = 40 :: t.word ++ (if t.kind = 2 then 32 :: t.name.data.toList else []) ++ lvsL t.lvs ++ ksL (t.kids.map printT) := by
 cases t with
 | var => exact absurd rfl h
 | sort => simp [printT, Tm.word, Tm.kind, Tm.lvs, Tm.kids]
 | const => simp [printT, Tm.word, Tm.kind, Tm.lvs, Tm.kids, Tm.name]
 | app => simp [printT, Tm.word, Tm.kind, Tm.lvs, Tm.kids, lvsL]
 | lam => simp [printT, Tm.word, Tm.kind, Tm.lvs, Tm.kids, lvsL]
 | pi => simp [printT, Tm.word, Tm.kind, Tm.lvs, Tm.kids, lvsL]
 | letin => simp [printT, Tm.word, Tm.kind, Tm.lvs, Tm.kids, lvsL]
def Tm.all : Tm → List Lv
 | .sort l => [l]
 | .const _ ls => ls
 | .app a b => a.all ++ b.all
 | .lam a b => a.all ++ b.all
 | .pi a b => a.all ++ b.all
 | .letin a b c => a.all ++ (b.all ++ c.all)
 | _ => []
theorem all_node (t : Tm) : ∀ l, l ∈ t.all ↔ l ∈ t.lvs ∨ ∃ c ∈ t.kids, l ∈ c.all := by
 intro l
 cases t <;> simp [Tm.all, Tm.lvs, Tm.kids]
theorem kid_all {t c : Tm} (h : c ∈ t.kids) {P : Lv → Prop} (hP : ∀ l ∈ t.all, P l) : ∀ l ∈ c.all, P l := fun l hl => hP l ((all_node t l).2 (.inr ⟨c, h, hl⟩))
theorem lvs_all {t : Tm} {P : Lv → Prop} (hP : ∀ l ∈ t.all, P l) : ∀ l ∈ t.lvs, P l := fun l hl => hP l ((all_node t l).2 (.inl hl))
theorem lvsL_cons (l : Lv) (ls : List Lv) : lvsL (l :: ls) = 32 :: printL l ++ lvsL ls := by simp [lvsL]
theorem ksL_cons (k : List UInt8) (ks : List (List UInt8)) : ksL (k :: ks) = 32 :: k ++ ksL ks := by simp [ksL]
theorem ksL_nil : ksL [] = [41] := rfl
theorem lvsL_nil : lvsL [] = [] := rfl
theorem itoa_law (n : Nat) (h : n < 2 ^ 60) (σ : Sto) : lim C 24 [(.int .i64 n, false)] σ = some (.ret [(.str (ba (Go.Lib.decDigits n)), false)], σ) :=
 lim_ext (C := C) (f := 24) (s := Mk.textA) (by kernel_rfl) (Mk.textA_eq (by omega) false σ)
theorem digits_law (n : Nat) (h : n < 2 ^ 60) (σ : Sto) : lim C 27 [(.int .i64 n, false)] σ = some (.ret [(.str (ba (Go.Lib.decDigits n)), false)], σ) :=
 lim_ext (C := C) (f := 27) (s := Mk.textA) (by kernel_rfl) (Mk.textA_eq (by omega) false σ)
theorem bldString_law {σ : Sto} {b : Nat} {L : List UInt8} (h : σ[b]? = some (bcell b true L)) (hne : L ≠ []) (hb : L.length < 2 ^ 34) : lim C 22 [(.ptr 63 b 0, false)] σ = some (.ret [(.str (ba L), false)], σ) := by
 refine lim_ext (s := bldStringE 63 5) (by kernel_rfl) (bldStringE_of ?_)
 simp only [bldStringS, if_true]
 rw [h]
 have hn : bytesL L ≠ [] := by
  intro h0
  have := bytesL_length L
  rw [h0] at this
  exact hne (List.length_eq_zero_iff.1 this.symm)
 simp only [bcell, cond_true]
 rw [if_pos ⟨trivial, hn, by rw [bytesL_length]; exact room_ok (by omega)⟩, unbytes_bytesL]
 rfl
theorem set_got {σ : Sto} {b : Nat} {x y : List Cell} (h : σ[b]? = some x) : (σ.set b y)[b]? = some y := by
 obtain ⟨hlt, _⟩ := List.getElem?_eq_some_iff.1 h
 simp [hlt]
theorem get_more {σ τ : Sto} {b : Nat} {x : List Cell} (h : σ[b]? = some x) : (σ ++ τ)[b]? = some x := by rw [List.getElem?_append_left (List.getElem?_eq_some_iff.1 h).1]; exact h
theorem words_mem (t : Tm) (h : t.kind ≠ 0) : memGet [] (V.eptr 7 [(V.str (ByteArray.mk #[])), (V.str (ByteArray.mk #[115, 111, 114, 116])), (V.str (ByteArray.mk #[99, 111, 110, 115, 116])), (V.str (ByteArray.mk #[97, 112, 112])), (V.str (ByteArray.mk #[108, 97, 109])), (V.str (ByteArray.mk #[112, 105])), (V.str (ByteArray.mk #[108, 101, 116]))] (0 + Int.toNat t.kind * 1)) false 1 = some (.str (ba t.word)) := by
 cases t <;> first | exact absurd rfl h | rfl
theorem kind_in (t : Tm) : (decide (0 ≤ t.kind) && decide (t.kind < 7)) = true := by cases t <;> rfl
theorem word_len (t : Tm) : t.word.length ≤ 5 := by cases t <;> simp [Tm.word, wsort, wconst, wapp, wlam, wpi, wlet]
theorem printT_ne (t : Tm) : printT t ≠ [] := by cases t <;> simp [printT]
end Go.Ab.Mk
end
section
namespace Go.Ab.Mk
open Go.Proofs Go.Ab
theorem byteAt_get {s : ByteArray} {i : Nat} (h : i < s.size) : byteAt s i = ((s.data.toList[i]'(by simpa using h)).toNat : Int) := by
 unfold byteAt
 rw [List.getD_eq_getElem?_getD, List.getElem?_eq_getElem (by simpa using h)]
 rfl
theorem parse_num (s : ByteArray) : ∀ (k i acc : Nat), s.size - i = k → (acc + 1) * 10 ^ k ≤ 10 ^ 17 → (∀ j, i ≤ j → j < s.size → isDigit (byteAt s j) = true) → Go.Lib.parseUint10 acc (s.data.toList.drop i) = .ok (numFrom s i acc)
 | 0, i, acc, hk, hb, hd => by
  rw [numFrom_end (by omega), List.drop_eq_nil_of_le (by simp; omega)]
  rfl
 | k + 1, i, acc, hk, hb, hd => by
  have hi : i < s.size := by omega
  have hg := hd i (Nat.le_refl _) hi
  rw [byteAt_get hi] at hg
  simp only [isDigit, Bool.and_eq_true, decide_eq_true_eq] at hg
  rw [numFrom_go hi, byteAt_get hi, List.drop_eq_getElem_cons (by simpa using hi)]
  generalize hc : (s.data.toList[i]'(by simpa using hi)) = c at *
  have h1 : 48 ≤ c.toNat ∧ c.toNat ≤ 57 := by omega
  have h3 : (acc + 1) * 10 * 10 ^ k ≤ 10 ^ 17 := by
   have e : (acc + 1) * 10 * 10 ^ k = (acc + 1) * 10 ^ (k + 1) := by rw [Nat.pow_succ, Nat.mul_assoc, Nat.mul_comm 10]
   rw [e]; exact hb
  have h4 : (acc + 1) * 10 ≤ 10 ^ 17 := Nat.le_trans (Nat.le_mul_of_pos_right _ (Nat.pow_pos (by omega))) h3
  have h2 : ¬ 1844674407370955162 ≤ acc := by omega
  have h5 : ¬ 18446744073709551616 ≤ acc * 10 + (c.toNat - 48) := by omega
  simp only [Go.Lib.parseUint10]
  rw [if_pos h1, if_neg h2, if_neg h5, Int.toNat_natCast, Nat.mul_comm 10 acc]
  refine parse_num s k (i + 1) _ (by omega) ?_ fun j hj hl => hd j (by omega) hl
  refine Nat.le_trans (Nat.mul_le_mul_right _ ?_) h3
  omega
theorem atoi_all {t : ByteArray} (ht : Digits t) : Go.Lib.atoiAll t.data.toList = .ok (numV t : Int) := by
 have hp := parse_num t t.size 0 0 rfl (by
  have h1 := Nat.pow_le_pow_right (show 0 < 10 by omega) ht.few
  have h2 : (10 : Nat) ^ 5 ≤ 10 ^ 17 := by decide
  omega) fun j _ hj => ht.all j hj
 rw [List.drop_zero] at hp
 have h0 := ht.all 0 ht.pos
 have hlt := num_lt ht t.size 0 0 rfl
 rw [byteAt_get ht.pos] at h0
 have hn : numV t < 100001 := by
  have h1 := Nat.pow_le_pow_right (show 0 < 10 by omega) ht.few
  have h2 : (10 : Nat) ^ 5 = 100000 := by decide
  unfold numV
  omega
 change Go.Lib.parseUint10 0 t.data.toList = .ok (numV t) at hp
 have hl : t.data.toList.length = t.size := by simp
 have hpos := ht.pos
 generalize numV t = n at *
 cases hL : t.data.toList with
 | nil => rw [hL] at hl; simp at hl; omega
 | cons c r =>
  simp only [hL, List.getElem_cons_zero] at h0
  rw [hL] at hp
  simp only [isDigit, Bool.and_eq_true, decide_eq_true_eq] at h0
  have c1 : ¬ (c.toNat = 43 ∨ c.toNat = 45) := by omega
  have c2 : ¬ c.toNat = 45 := by omega
  have hm : Go.Lib.parseMag (c :: r) = .ok n := by
   unfold Go.Lib.parseMag
   rw [if_neg (by simp)]
   exact hp
  unfold Go.Lib.atoiAll
  simp only [if_neg c1, hm]
  rw [if_neg (by omega), if_neg (by omega), if_neg c2]
theorem atoi_law {t : ByteArray} (ht : Digits t) (σ : Sto) : lim C 34 [(.str t, false)] σ = some (.ret [(.int .i64 (numV t), false), (.nilIface, false)], σ) := by
 refine lim_ext (s := atoiA) (by kernel_rfl) ?_
 have hs := ht.few
 simp only [atoiA, atoiR, atoi_all ht]
 rw [if_pos (by omega)]
 rfl
end Go.Ab.Mk
end
section
namespace Go.Ab.Mk
open Go.Proofs Go.Ab
def Ends (s : ByteArray) (σ : Sto) (r : Nat) (B : Option Res) (y : V) (st : RS) : Prop :=
 (∃ p, st = ⟨p, 0, 0⟩ ∧ B = some (.ret [(y, false)], σ.set r ((stepV s p).cells s))) ∨
 (st.c = 1 ∧ ∃ cs, B = some (.pan (.iface 49 (.ptr 33 σ.length 0)), σ.set r cs ++ [fcell 1 st.a]))
section
variable {s : ByteArray} {σ : Sto} {r : Nat}
theorem Ends.bind {f : FuncId} {args : List Cell} {σ0 : Sto} {x y : V} {st : RS} {K : List Cell → Sto → Option Res} {G : RS → RS} (h : Ends s σ r (lim C f args σ0) x st)
  (hK : ∀ p, st = ⟨p, 0, 0⟩ → Ends s σ r (K [(x, false)] (σ.set r ((stepV s p).cells s))) y (G st)) (hG : st.c ≠ 0 → G st = st) :
  Ends s σ r (callK (lim C) f args σ0 1 K (fun v σ => some (.pan v, σ))) y (G st) := by
 rcases h with ⟨p, h1, h2⟩ | ⟨h1, cs, h2⟩
 ·rw [callK_ret1 h2]
  exact hK p h1
 ·right
  rw [hG (by rw [h1]; decide)]
  refine ⟨h1, cs, ?_⟩
  rw [callK_panic h2]
theorem ends_level (hs : s.size < 2 ^ 61) (hr : r < σ.length) {p : Nat} (hp : p ≤ s.size) :
  Ends s σ r (lim C 55 [(.ptr 55 r 0, false)] (σ.set r ((stepV s p).cells s))) (.agg [.int .i64 (rlevelV (s.size + 1) s ⟨p, 0, 0⟩).1.kind, .str (rlevelV (s.size + 1) s ⟨p, 0, 0⟩).1.name, .slice 3 92 (rlevelV (s.size + 1) s ⟨p, 0, 0⟩).1.args]) (rlevelV (s.size + 1) s ⟨p, 0, 0⟩).2 := by
 rcases slevel_law hs (s.size + 1) p σ r hr hp (by omega) with ⟨h1, h2, _, _, h5⟩ | ⟨h1, cs, h2⟩
 ·exact .inl ⟨_, rs_eta h1 h2, h5⟩
 ·exact .inr ⟨h1, cs, h2⟩
theorem ends_name (hs : s.size < 2 ^ 61) (hr : r < σ.length) {p : Nat} (hp : p ≤ s.size) :
  Ends s σ r (lim C 33 [(.ptr 55 r 0, false)] (σ.set r ((stepV s p).cells s))) (.str (rnameV s ⟨p, 0, 0⟩).1) (rnameV s ⟨p, 0, 0⟩).2 := by
 have h := sname_law hr hs hp
 rw [h]
 unfold rnameV rfailV
 cases hn : isNameV (tokV s p).t
 ·have hc1 : ((1 : Int) != 0) = true := rfl
  simp only [hn, Bool.not_false, Bool.or_true, cond_true, cond_false, beq_self_eq_true, hc1]
  exact .inr ⟨rfl, (stepV s p).cells s, rfl⟩
 ·have hok := (name_ok hp hn).1
  simp only [hn, hok, Bool.not_true, Bool.or_false, cond_true, cond_false, bne_self_eq_false]
  refine .inl ⟨(stepV s p).at_, ?_, rfl⟩
  unfold stepV stepOf; rw [hok]; rfl
variable {N : Nat} {t0 t1 : Int} {t2 : ByteArray} {t3 t4 : List (List V)} {o0 o1 : Int} {o2 : V}
theorem parts_end {m : Nat} {n : Int} {o3 o4 : List (List V)} (hs : s.size < 2 ^ 61) (hr : r < σ.length) {p : Nat} (hp : p ≤ s.size) :
  Ends s σ r (readl0 (lim C) N (m + 1) r n n t0 t1 t2 t3 t4 o0 o1 o2 o3 o4 (σ.set r ((stepV s p).cells s))) (.agg [.int .i64 o0, .int .i64 o1, o2, .slice 3 92 o3, .slice 5 44 o4]) (rtakeV s ⟨p, 0, 0⟩ (ba [41])) := by
 show Ends s σ r (reads0 (lim C) (readl0 (lim C) N m) r n n t0 t1 t2 t3 t4 o0 o1 o2 o3 o4 (σ.set r ((stepV s p).cells s))) _ _
 unfold reads0
 have e : decide (n < n) = false := by simp
 have e41 : ByteArray.mk #[41] = ba [41] := rfl
 simp only [e, cond_false, e41]
 rcases stake_law hr hs hp (w := [41]) (by simp) (by simp) with ⟨h1, h2, h3⟩ | ⟨h1, h2⟩
 ·rw [callK_ret0 h3]
  exact .inl ⟨_, h2, rfl⟩
 ·rw [callK_panic h2]
  exact .inr ⟨h1, _, rfl⟩
theorem parts_go {m : Nat} {n i : Int} {o3 o4 : List (List V)} {σ0 : Sto} {x : Tm} {y : V} {st : RS} {G : RS → RS} (hlt : i < n) (hroom : room (o4.length + 1) = true)
  (h : Ends s σ r (lim C 35 [(.ptr 55 r 0, false)] σ0) x.val st)
  (hK : ∀ p, st = ⟨p, 0, 0⟩ → Ends s σ r (readl0 (lim C) N m r n (IntKind.wrap .i64 (i + 1)) t0 t1 t2 t3 t4 o0 o1 o2 o3 (o4 ++ [x.enc]) (σ.set r ((stepV s p).cells s))) y (G st)) (hG : st.c ≠ 0 → G st = st) :
  Ends s σ r (readl0 (lim C) N (m + 1) r n i t0 t1 t2 t3 t4 o0 o1 o2 o3 o4 σ0) y (G st) := by
 show Ends s σ r (reads0 (lim C) (readl0 (lim C) N m) r n i t0 t1 t2 t3 t4 o0 o1 o2 o3 o4 σ0) _ _
 unfold reads0
 simp only [decide_eq_true hlt, cond_true]
 refine h.bind (fun p hp => ?_) hG
 simp only [List.getD_cons_zero, tm_fits, tm_cell, grd, Bool.and_self, cond_true, Option.bind_some, hroom]
 exact hK p hp
theorem levels_run (hs : s.size ≤ 200000) (hr : r < σ.length) (hN : 0 < N) : ∀ (m : Nat) (ls : List Lv) (p : Nat), p ≤ s.size → ls.length + (s.size - p) ≤ 200000 → s.size - p + 1 < m →
  Ends s σ r (readl1 (lim C) N m r 0 t0 t1 t2 t3 t4 o0 o1 o2 (ls.map Lv.enc) [] (σ.set r ((stepV s p).cells s)))
   (.agg [.int .i64 o0, .int .i64 o1, o2, .slice 3 92 ((ls ++ (rlvsV m s ⟨p, 0, 0⟩).1).map Lv.enc), .slice 5 44 []]) (rtakeV s (rlvsV m s ⟨p, 0, 0⟩).2 (ba [41]))
 | 0, _, _, _, _, hm => by omega
 | m + 1, ls, p, hp, hb, hm => by
  have hs' : s.size < 2 ^ 61 := by omega
  show Ends s σ r (reads1 (lim C) (readl0 (lim C) N N) (readl1 (lim C) N m) r 0 t0 t1 t2 t3 t4 o0 o1 o2 (ls.map Lv.enc) [] (σ.set r ((stepV s p).cells s))) _ _
  unfold reads1
  have e41 : ∀ t : ByteArray, (t.toList == (ByteArray.mk #[41]).toList) = strIs t [41] := fun _ => rfl
  have tk := stepTok hp (w := [41]) (by simp) (by simp)
  simp only [sg2 hr, Option.bind_some, V.asStr, e41, tk, rlvsV, bne_self_eq_false, cond_false]
  cases h3 : strIs (tokV s p).t [41]
  case true =>
   simp only [Bool.not_true, cond_false, cond_true, List.append_nil]
   obtain ⟨k, rfl⟩ : ∃ k, N = k + 1 := ⟨N - 1, by omega⟩
   exact parts_end hs' hr hp
  simp only [Bool.not_false, cond_true, cond_false]
  have hx := ends_level hs' hr hp
  have hgo := rlevel_goes (s := s) (st := ⟨p, 0, 0⟩) hp
  have hroom : room (List.length (ls.map Lv.enc) + 1) = true := room_ok (by simp; omega)
  have em : List.map Lv.enc ls ++ [(rlevelV (s.size + 1) s ⟨p, 0, 0⟩).1.enc] = List.map Lv.enc (ls ++ [(rlevelV (s.size + 1) s ⟨p, 0, 0⟩).1]) := by simp
  refine hx.bind (G := fun st => rtakeV s (rlvsV m s st).2 (ba [41])) (fun p' hp' => ?_) (fun hc => by rw [rlvs_stuck hc, rtake_stuck hc])
  simp only [List.getD_cons_zero, fits_lv, cell_lv, grd, Bool.and_self, cond_true, Option.bind_some, hroom, em]
  have hc : (rlevelV (s.size + 1) s ⟨p, 0, 0⟩).2.c = 0 := by rw [hp']
  have h1 := (hgo.ok hc).2
  have h2 := hgo.le
  rw [hp'] at h1 h2 ⊢
  simp only at h1 h2
  have ih := levels_run hs hr hN m (ls ++ [(rlevelV (s.size + 1) s ⟨p, 0, 0⟩).1]) p' h2 (by rw [List.length_append]; simp only [List.length_cons, List.length_nil]; omega) (by omega)
  rw [List.append_assoc] at ih
  exact ih
end
theorem hashed_step {s : ByteArray} {p : Nat} (hp : p ≤ s.size) : hashed (stepV s p).tok = hashed (tokV s p).t := by
 cases hk : (tokV s p).ok
 ·have h1 := (tokV_ok s hp).no hk
  have e2 : hashed (tokV s p).t = false := by simp [hashed, h1]
  have e1 : (stepV s p).tok = ByteArray.mk #[0] := by unfold stepV stepOf; rw [hk]; rfl
  rw [e1, e2]
  have : byteAt (ByteArray.mk #[0]) 0 = 0 := rfl
  simp [hashed, this]
 ·rw [step_tok hk]
theorem wordIx_step {s : ByteArray} {p : Nat} (hp : p ≤ s.size) : wordIx (stepV s p).tok = wordIx (tokV s p).t := by
 have e : ∀ w : List UInt8, w ≠ [] → w ≠ [0] → strIs (stepV s p).tok w = strIs (tokV s p).t w := fun w h1 h2 => stepTok hp h1 h2
 unfold wordIx
 rw [e _ (by simp) (by simp), e _ (by simp) (by simp), e _ (by simp) (by simp), e _ (by simp) (by simp), e _ (by simp) (by simp), e _ (by simp) (by simp)]
theorem not_40 {t : ByteArray} (h : hashed t = true) : strIs t [40] = false := by
 cases h2 : strIs t [40] with
 | false => rfl
 | true =>
  rw [strIs_eq h2] at h
  simp only [hashed, Bool.and_eq_true] at h
  exact absurd h.2 (by decide)
theorem bad_or {s : ByteArray} {p : Nat} (hp : p ≤ s.size) : badTok (tokV s p) = (!(hashed (tokV s p).t) && !strIs (tokV s p).t [40]) := by
 have h := (tokV_ok s hp).no
 unfold badTok hashed
 cases hok : (tokV s p).ok
 ·have h1 := h hok
  have h2 : strIs (tokV s p).t [40] = false := by
   cases h2 : strIs (tokV s p).t [40] with
   | false => rfl
   | true => have := (strIs_ok hp (by simp) h2).1; rw [hok] at this; simp at this
  simp [h1, h2]
 ·cases hno : isNo (tokV s p).t
  ·simp
  ·have h2 : strIs (tokV s p).t [40] = false := by
    cases h2 : strIs (tokV s p).t [40] with
    | false => rfl
    | true => have := (strIs_ok hp (by simp) h2).2; rw [hno] at this; simp at this
   simp [h2]
theorem read_law {s : ByteArray} (hs : s.size ≤ 200000) : ∀ (n p : Nat) (σ : Sto) (r : Nat), r < σ.length → p ≤ s.size → s.size - p < n →
  Ends s σ r (lim C 35 [(.ptr 55 r 0, false)] (σ.set r ((stepV s p).cells s))) (rtermV n s ⟨p, 0, 0⟩).1.val (rtermV n s ⟨p, 0, 0⟩).2
 | 0, p, σ, r, hr, hp, hn => by omega
 | n + 1, p, σ, r, hr, hp, hn => by
  have hs' : s.size < 2 ^ 61 := by omega
  have key : ∀ {y st}, Ends s σ r (read (lim C) (s.size + 10) r (σ.set r ((stepV s p).cells s))) y st → Ends s σ r (lim C 35 [(.ptr 55 r 0, false)] (σ.set r ((stepV s p).cells s))) y st := by
   intro y st h
   rcases h with ⟨q, h1, h2⟩ | ⟨h1, cs, h2⟩
   ·exact .inl ⟨q, h1, read_lim (n := s.size + 10) h2⟩
   ·exact .inr ⟨h1, cs, read_lim (n := s.size + 10) h2⟩
  refine key ?_
  clear key
  have hcp := cutPrefix_law (stepV s p).tok (σ.set r ((stepV s p).cells s))
  rw [hashed_step hp] at hcp
  have hst := step_law' hr hs' hp
  simp only [read, readF, sg2 hr, Option.bind_some]
  simp only [callK_ret2 hcp, List.getD_cons_zero, List.getD_cons_succ, V.asBool, Option.bind_some, rtermV, bne_self_eq_false, cond_false, bad_or hp]
  cases hh : hashed (tokV s p).t
  case true =>
   have hno : isNo (tokV s p).t = false := by
    simp only [hashed, Bool.and_eq_true, Bool.not_eq_true'] at hh
    exact hh.1
   have h35 : byteAt (tokV s p).t 0 = 35 := by
    simp only [hashed, Bool.and_eq_true, beq_iff_eq] at hh
    exact hh.2
   have hok : (tokV s p).ok = true := by
    cases hok : (tokV s p).ok with
    | true => rfl
    | false => have := (tokV_ok s hp).no hok; rw [hno] at this; simp at this
   have hdg := tok_num hp hok hno h35
   have hat := atoi_law hdg (σ.set r ((stepV s p).cells s))
   have f1 : ∀ x : Int, V.fits (.int .i64 x) false 1 = true := fun _ => rfl
   simp only [cond_true, step_tok hok, Bool.not_true, Bool.false_and, cond_false, not_40 hh, callK_ret2 hat, List.getD_cons_zero, List.getD_cons_succ, V.ifaceNil, Option.bind_some, callK_ret0 hst, f1, grd, Bool.and_true]
   rw [rnext_at ⟨hok, hno⟩]
   exact .inl ⟨_, rfl, rfl⟩
  simp only [cond_false, Bool.not_false, Bool.true_and]
  have e40 : ByteArray.mk #[40] = ba [40] := rfl
  rw [e40]
  have hz : ∀ {c}, strIs (tokV s p).t [40] = c → (rtakeV s ⟨p, 0, 0⟩ (ba [40])).c = (bif c then 0 else 1) ∧ (c = false → (rtakeV s ⟨p, 0, 0⟩ (ba [40])) = ⟨p, 1, (tokV s p).at_⟩) := by
   intro c hc
   have hc' : ((tokV s p).t.toList == (ba [40]).toList) = c := hc
   unfold rtakeV rfailV
   cases c
   ·simp [hc']
   ·have hok := (strIs_ok hp (by simp) hc).1
    simp [hc', hok]
  cases h40 : strIs (tokV s p).t [40]
  case false =>
   obtain ⟨z1, z2⟩ := hz h40
   rcases stake_law hr hs' hp (w := [40]) (by simp) (by simp) with ⟨k1, _⟩ | ⟨_, k2⟩
   ·rw [z1] at k1; simp at k1
   ·rw [z2 rfl] at k2
    simp only [callK_panic k2, Bool.not_false, cond_true]
    right
    refine ⟨by simp [rfailV], (stepV s p).cells s, ?_⟩
    simp [rfailV]
  obtain ⟨z1, _⟩ := hz h40
  have hok := strIs_ok hp (by simp) h40
  rcases stake_law hr hs' hp (w := [40]) (by simp) (by simp) with ⟨_, _, k3⟩ | ⟨k1, _⟩
  case inr => rw [z1] at k1; simp at k1
  have hlt := step_lt hp hok
  have hsle := step_at_le hp
  simp only [callK_ret0 k3, Bool.not_true, cond_false, cond_true]
  rw [rnext_at hok]
  generalize (stepV s p).at_ = p1 at hlt hsle
  clear hcp hst k3
  have hix := index_law (ps := words6) (by decide) (stepV s p1).tok (σ.set r ((stepV s p1).cells s))
  rw [idx_words, wordIx_step hsle] at hix
  have ew : ((((List.map (fun v => [v]) [(V.str (ByteArray.mk #[])), (V.str (ByteArray.mk #[115, 111, 114, 116])), (V.str (ByteArray.mk #[99, 111, 110, 115, 116])), (V.str (ByteArray.mk #[97, 112, 112])), (V.str (ByteArray.mk #[108, 97, 109])), (V.str (ByteArray.mk #[112, 105])), (V.str (ByteArray.mk #[108, 101, 116]))]).take (Int.toNat (7 : Int))).drop (Int.toNat (1 : Int)))) = strs words6 := rfl
  have eg : (decide (0 ≤ (1 : Int)) && decide ((1 : Int) ≤ (7 : Int)) && decide ((7 : Int) ≤ ((7 : Nat) : Int)) && decide ((1 : Int) < ((7 : Nat) : Int))) = true := by decide
  have w1 : IntKind.wrap .i64 ((wordIx (tokV s p1).t : Int) - 1 + 1) = (wordIx (tokV s p1).t : Int) := by
   have := wordIx_le (tokV s p1).t
   rw [wrapI (by omega) (by omega)]; omega
  rw [eg, ew]
  simp only [grd, cond_true, Option.bind_some, sg2 hr, callK_ret1 hix, List.getD_cons_zero, V.asInt, if_true, w1, tmP]
  have hf1 := sfail_law hr (s := s) (stepV s p1)
  rw [step_pos] at hf1
  by_cases hk0 : wordIx (tokV s p1).t = 0
  case pos =>
   simp only [hk0, Int.natCast_zero, beq_self_eq_true, cond_true, callK_panic hf1]
   right
   refine ⟨by simp [rfailV], (stepV s p1).cells s, ?_⟩
   simp [rfailV]
  have hok1 := wordIx_ok hsle hk0
  have hst1 := step_law' hr hs' hsle
  have hlt1 := step_lt hsle hok1
  have hsle1 := step_at_le hsle
  have hk0' : ((wordIx (tokV s p1).t : Int) == 0) = false := by simp; omega
  have hk0'' : (wordIx (tokV s p1).t == 0) = false := by simpa using hk0
  simp only [hk0', hk0'', cond_false, callK_ret0 hst1]
  rw [rnext_at hok1]
  generalize (stepV s p1).at_ = p2 at hlt1 hsle1
  have hk6 := wordIx_le (tokV s p1).t
  clear hix hf1 hst1 w1 eg ew
  generalize wordIx (tokV s p1).t = k at hk0 hk0' hk0'' hk6 ⊢
  have goes0 : Gone s ⟨p2, 0, 0⟩ ⟨p2, 0, 0⟩ := Gone.refl hsle1
  have ih : ∀ q st, st = (⟨q, 0, 0⟩ : RS) → Gone s ⟨p2, 0, 0⟩ st → Ends s σ r (lim C 35 [(.ptr 55 r 0, false)] (σ.set r ((stepV s q).cells s))) (rtermV n s st).1.val (rtermV n s st).2 ∧ Gone s ⟨p2, 0, 0⟩ (rtermV n s st).2 := by
   intro q st hst h
   subst hst
   have h1 := h.le
   have h2 := (h.ok rfl).2
   simp only at h1 h2
   exact ⟨read_law hs n q σ r hr h1 (by omega), h.trans (rterm_goes s n ⟨q, 0, 0⟩ h1 (.inr (by simp only; omega))).gone⟩
  have two : ∀ (f : Tm → Tm → Tm) (o0 : Int), (∀ a b, (f a b).val = .agg [.int .i64 o0, .int .i64 0, .str (ByteArray.mk #[]), .slice 3 92 [], .slice 5 44 [a.enc, b.enc]]) →
    Ends s σ r (readl0 (lim C) (s.size + 10) (s.size + 10) r 2 0 0 0 (ByteArray.mk #[]) [] [] o0 0 (.str (ByteArray.mk #[])) [] [] (σ.set r ((stepV s p2).cells s))) (tm2 (rtermV n s) s f ⟨p2, 0, 0⟩).1.val (tm2 (rtermV n s) s f ⟨p2, 0, 0⟩).2 := by
   intro f o0 hf
   have w1 : IntKind.wrap .i64 ((0 : Int) + 1) = 1 := by decide
   have w2 : IntKind.wrap .i64 ((1 : Int) + 1) = 2 := by decide
   obtain ⟨a1, a2⟩ := ih p2 _ rfl goes0
   show Ends s σ r (readl0 (lim C) (s.size + 10) (s.size + 7 + 1 + 1 + 1) r 2 0 0 0 (ByteArray.mk #[]) [] [] o0 0 (.str (ByteArray.mk #[])) [] [] (σ.set r ((stepV s p2).cells s))) _ _
   refine parts_go (G := fun st => rtakeV s (rtermV n s st).2 (ba [41])) (by omega) (room_ok (by simp)) a1 (fun q hq => ?_) (fun hc => by rw [rterm_stuck hc, rtake_stuck hc])
   obtain ⟨b1, b2⟩ := ih q _ hq a2
   rw [w1]
   refine parts_go (G := fun st => rtakeV s st (ba [41])) (by omega) (room_ok (by simp)) b1 (fun q2 hq2 => ?_) (fun hc => by rw [rtake_stuck hc])
   rw [w2, tm2, hf]
   rw [hq2] at b2 ⊢
   exact parts_end hs' hr b2.le
  have three : ∀ (f : Tm → Tm → Tm → Tm) (o0 : Int), (∀ a b c, (f a b c).val = .agg [.int .i64 o0, .int .i64 0, .str (ByteArray.mk #[]), .slice 3 92 [], .slice 5 44 [a.enc, b.enc, c.enc]]) →
    Ends s σ r (readl0 (lim C) (s.size + 10) (s.size + 10) r 3 0 0 0 (ByteArray.mk #[]) [] [] o0 0 (.str (ByteArray.mk #[])) [] [] (σ.set r ((stepV s p2).cells s))) (tm3 (rtermV n s) s f ⟨p2, 0, 0⟩).1.val (tm3 (rtermV n s) s f ⟨p2, 0, 0⟩).2 := by
   intro f o0 hf
   have w1 : IntKind.wrap .i64 ((0 : Int) + 1) = 1 := by decide
   have w2 : IntKind.wrap .i64 ((1 : Int) + 1) = 2 := by decide
   have w3 : IntKind.wrap .i64 ((2 : Int) + 1) = 3 := by decide
   obtain ⟨a1, a2⟩ := ih p2 _ rfl goes0
   show Ends s σ r (readl0 (lim C) (s.size + 10) (s.size + 6 + 1 + 1 + 1 + 1) r 3 0 0 0 (ByteArray.mk #[]) [] [] o0 0 (.str (ByteArray.mk #[])) [] [] (σ.set r ((stepV s p2).cells s))) _ _
   refine parts_go (G := fun st => rtakeV s (rtermV n s (rtermV n s st).2).2 (ba [41])) (by omega) (room_ok (by simp)) a1 (fun q hq => ?_) (fun hc => by rw [rterm_stuck hc, rterm_stuck hc, rtake_stuck hc])
   obtain ⟨b1, b2⟩ := ih q _ hq a2
   rw [w1]
   refine parts_go (G := fun st => rtakeV s (rtermV n s st).2 (ba [41])) (by omega) (room_ok (by simp)) b1 (fun q2 hq2 => ?_) (fun hc => by rw [rterm_stuck hc, rtake_stuck hc])
   obtain ⟨c1, c2⟩ := ih q2 _ hq2 b2
   rw [w2]
   refine parts_go (G := fun st => rtakeV s st (ba [41])) (by omega) (room_ok (by simp)) c1 (fun q3 hq3 => ?_) (fun hc => by rw [rtake_stuck hc])
   rw [w3, tm3, hf]
   rw [hq3] at c2 ⊢
   exact parts_end hs' hr c2.le
  match k, hk0, hk6 with
  | 0, h, _ => exact absurd rfl h
  | 1, _, _ =>
   have e1 : (((1 : Nat) : Int) == 1) = true := rfl
   simp only [e1, cond_true, tmB]
   have hx := ends_level hs' hr hsle1
   have gx := (rlevel_goes (s := s) (st := ⟨p2, 0, 0⟩) hsle1).le
   refine hx.bind (G := fun st => rtakeV s st (ba [41])) (fun q hq => ?_) (fun hc => by rw [rtake_stuck hc])
   simp only [List.getD_cons_zero, fits_lv, cell_lv, grd, Bool.and_self, cond_true, Option.bind_some]
   rw [hq] at gx ⊢
   exact parts_end (m := s.size + 9) (n := 0) hs' hr gx
  | 2, _, _ =>
   have e1 : (((2 : Nat) : Int) == 1) = false := rfl
   have e2 : (((2 : Nat) : Int) == 2) = true := rfl
   simp only [e1, e2, cond_true, cond_false, tmB]
   have hx := ends_name hs' hr hsle1
   have gx := (rname_goes (s := s) (st := ⟨p2, 0, 0⟩) hsle1).le
   refine hx.bind (G := fun st => rtakeV s (rlvsV (s.size + 10) s st).2 (ba [41])) (fun q hq => ?_) (fun hc => by rw [rlvs_stuck hc, rtake_stuck hc])
   have ef : ∀ b : ByteArray, V.fits (.str b) false 1 = true := fun _ => rfl
   simp only [List.getD_cons_zero, ef, grd, cond_true, Option.bind_some]
   have hl := levels_run (N := s.size + 10) (t0 := 0) (t1 := 0) (t2 := ByteArray.mk #[]) (t3 := []) (t4 := []) (o0 := ((2 : Nat) : Int)) (o1 := 0) (o2 := .str (rnameV s ⟨p2, 0, 0⟩).1) hs hr (by omega) (s.size + 10) [] q (by rw [hq] at gx; exact gx) (by simp; omega) (by omega)
   rw [← hq] at hl
   exact hl
  | 3, _, _ => exact two .app 3 (fun _ _ => rfl)
  | 4, _, _ => exact two .lam 4 (fun _ _ => rfl)
  | 5, _, _ => exact two .pi 5 (fun _ _ => rfl)
  | 6, _, _ => exact three .letin 6 (fun _ _ _ => rfl)
end Go.Ab.Mk
end
section
namespace Go.Ab.Mk
open Go.Proofs Go.Ab
def _root_.Go.Ab.Lv.pars : Lv → List ByteArray
 | .zero => []
 | .succ l => l.pars
 | .max a b => a.pars ++ b.pars
 | .imax a b => a.pars ++ b.pars
 | .param s => [s]
theorem tl_inj {s t : ByteArray} (h : s.toList = t.toList) : s = t := by
 rw [ByteArray.toList_eq, ByteArray.toList_eq] at h
 apply ByteArray.ext
 exact Array.toList_inj.1 h
theorem tok_size (s : ByteArray) (p : Nat) : (tokV s p).t.size ≤ s.size := by
  have h0 : (ByteArray.mk #[]).size = 0 := rfl
  have he : ∀ i q, (s.extract i q).size ≤ s.size := fun i q => by rw [ByteArray.size_extract]; omega
  have he0 : (ByteArray.mk #[]).size ≤ s.size := by rw [h0]; exact Nat.zero_le _
  unfold tokV tokAt
  generalize scan isBlank s p = i
  cases i == s.size
  · simp only [cond_false]
    cases byteAt s i == 40
    · cases byteAt s i == 41
      · cases nmByte (byteAt s i) true
        · cases (byteAt s i == 35 || isDigit (byteAt s i))
          · exact he0
          · simp only [cond_false, cond_true, numTok]
            generalize (bif byteAt s i == 35 then i + 1 else i) = d
            cases scan isDigit s (i + 1) == d
            · cases decide (scan isDigit s (i + 1) - d > 5)
              · cases (decide (scan isDigit s (i + 1) - d > 1) && byteAt s d == 48)
                · exact he _ _
                · exact he0
              · exact he0
            · exact he0
        · simp only [cond_false, cond_true, nmTok]
          cases decide (scan (nmByte · false) s (i + 1) - i > 40)
          · exact he _ _
          · exact he0
      · exact he _ _
    · exact he _ _
  · exact he0
theorem rlevel_names (s : ByteArray) : ∀ (n : Nat) (st : RS), ∀ x ∈ (rlevelV n s st).1.pars, 0 < x.size ∧ x.size ≤ s.size
 | 0, st => by simp [rlevelV, Lv.pars]
 | n + 1, st => by
  have ih := rlevel_names s n
  unfold rlevelV
  cases st.c != 0
  case true => simp [Lv.pars]
  cases strIs (tokV s st.p).t [48]
  case true => simp [Lv.pars]
  cases h1 : isNameV (tokV s st.p).t
  case true =>
   intro x hx
   simp only [cond_false, cond_true, Lv.pars, List.mem_singleton] at hx
   subst hx
   simp only [isNameV, Bool.and_eq_true, Bool.not_eq_true'] at h1
   exact ⟨isNo_size h1.1, tok_size s st.p⟩
  cases strIs (tokV s st.p).t [40]
  case false => simp [Lv.pars]
  simp only [cond_false, cond_true, lvP]
  have two : ∀ (f : Lv → Lv → Lv) (st : RS), (∀ a b, (f a b).pars = a.pars ++ b.pars) → ∀ x ∈ (lv2 (rlevelV n s) s f st).1.pars, 0 < x.size ∧ x.size ≤ s.size := by
   intro f st hf x hx
   simp only [lv2, hf, List.mem_append] at hx
   rcases hx with hx | hx
   ·exact ih _ x hx
   ·exact ih _ x hx
  cases strIs (tokV s (rnextV s st).2.p).t [115]
  case true => exact ih _
  cases strIs (tokV s (rnextV s st).2.p).t [109, 97, 120]
  case true => exact two .max _ fun _ _ => rfl
  cases strIs (tokV s (rnextV s st).2.p).t [105, 109, 97, 120]
  case true => exact two .imax _ fun _ _ => rfl
  simp [Lv.pars]
end Go.Ab.Mk
end
