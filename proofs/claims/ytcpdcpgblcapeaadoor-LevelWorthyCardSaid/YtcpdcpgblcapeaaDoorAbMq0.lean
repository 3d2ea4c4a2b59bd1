/- The plain laws: the scanner's levels. the deferred Catch, walked. level.Parse's deferred call, walked. A function with cells of its own that is walked by hand: what calls leave, cells written beside. level.Parse, walked. level.Parse: what it comes to, over the calls it makes; its own two cells are nobody's. The plain laws: what the program's Parse comes to, against what the reference reads. The plain laws: the writing of a level. Levels are compared: the reference's way, in plain mathematics. What a scan has passed by; a part's bytes. What is printed of a level is read again. The program's comparison of levels, as a law. AbMq0: printed by program: functions of the program, their code told as plain Lean, and the equations. -/
import Derived.Test.YtcpdcpgblcapeaaDoorLvS
import Derived.Test.YtcpdcpgblcapeaaDoorProg
import Derived.Test.YtcpdcpgblcapeaaDoorLvO1
import Derived.WalkKit
import Derived.Defers
import Derived.Recover
import Derived.Laws.Pointers
import Derived.Laws.Externs
import Derived.Test.YtcpdcpgblcapeaaDoorAbDraw
import Derived.Test.YtcpdcpgblcapeaaDoorAbMk0
set_option linter.unusedSimpArgs false
set_option linter.unusedVariables false
set_option linter.deprecated false
section
namespace Go.Ab.Mk
open Go.Proofs Go.Ab

/-- What is thrown: a fault at a place. -/
def fcell (c a : Int) : List Cell := [(.int .i64 c, false), (.int .i64 a, false)]
theorem sfail_law {σ : Sto} {r : Nat} (hr : r < σ.length) {s : ByteArray} (st : SC) :
    lim C 51 [(.ptr 90 r 0, false)] (σ.set r (st.cells s)) = some (.pan (.iface 66 (.ptr 33 σ.length 0)), σ.set r (st.cells s) ++ [fcell 1 st.pos]) :=
  sfail_lim (n := 0) <| by
    simp only [sfail, sfailF, sg3 hr, Option.bind_some, List.length_set]
    rfl
def noTok : ByteArray := ByteArray.mk #[0]
theorem stepTok {s : ByteArray} {p : Nat} (hp : p ≤ s.size) {w : List UInt8} (hw : w ≠ []) (hw0 : w ≠ [0]) : strIs (stepV s p).tok w = strIs (tokV s p).t w := by
  unfold stepV stepOf
  cases hk : (tokV s p).ok
  · have h1 := (tokV_ok s hp).no hk
    have e1 : strIs (ByteArray.mk #[0]) w = false := by
      rw [strIs, ByteArray.toList_eq, ByteArray.toList_eq]
      simp only [ba, beq_eq_false_iff_ne, ne_eq]
      exact fun h => hw0 h.symm
    have e2 : strIs (tokV s p).t w = false := by
      rw [strIs, beq_eq_false_iff_ne]
      intro h
      simp only [isNo, beq_iff_eq] at h1
      rw [h1, ByteArray.toList_eq, ByteArray.toList_eq] at h
      exact hw h.symm
    simp only [cond_false]
    rw [e1, e2]
  · rfl
theorem strIs_ok {s : ByteArray} {p : Nat} (hp : p ≤ s.size) {w : List UInt8} (hw : w ≠ []) (h : strIs (tokV s p).t w = true) : (tokV s p).ok = true ∧ isNo (tokV s p).t = false := by
  have hz := strIs_size h
  have hl : 0 < w.length := List.length_pos_iff.2 hw
  have hn : isNo (tokV s p).t = false := by
    cases hn : isNo (tokV s p).t with
    | false => rfl
    | true =>
      have : strIs (tokV s p).t [] = true := hn
      have h0 := strIs_size this
      simp only [List.length_nil] at h0; omega
  refine ⟨?_, hn⟩
  cases hk : (tokV s p).ok with
  | true => rfl
  | false => have := (tokV_ok s hp).no hk; rw [this] at hn; simp at hn
theorem name_ok {s : ByteArray} {p : Nat} (hp : p ≤ s.size) (h : isNameV (tokV s p).t = true) : (tokV s p).ok = true ∧ isNo (tokV s p).t = false := by
  have hn : isNo (tokV s p).t = false := by
    cases hn : isNo (tokV s p).t with
    | false => rfl
    | true => simp [isNameV, hn] at h
  refine ⟨?_, hn⟩
  cases hk : (tokV s p).ok with
  | true => rfl
  | false => have := (tokV_ok s hp).no hk; rw [this] at hn; simp at hn
theorem rnext_at {s : ByteArray} {p : Nat} (h : (tokV s p).ok = true ∧ isNo (tokV s p).t = false) : (rnextV s ⟨p, 0, 0⟩).2 = ⟨(stepV s p).at_, 0, 0⟩ := by
  unfold rnextV stepV stepOf
  simp [h.1, h.2]
theorem step_at_le {s : ByteArray} {p : Nat} (hp : p ≤ s.size) : (stepV s p).at_ ≤ s.size := by
  have h := tokV_ok s hp
  unfold stepV stepOf
  cases (tokV s p).ok
  · exact hp
  · exact h.le
theorem step_pos (s : ByteArray) (p : Nat) : (stepV s p).pos = (tokV s p).at_ := by unfold stepV stepOf; cases (tokV s p).ok <;> rfl
theorem step_tok {s : ByteArray} {p : Nat} (h : (tokV s p).ok = true) : (stepV s p).tok = (tokV s p).t := by unfold stepV stepOf; rw [h]; rfl
theorem step_lt {s : ByteArray} {p : Nat} (hp : p ≤ s.size) (h : (tokV s p).ok = true ∧ isNo (tokV s p).t = false) : p < (stepV s p).at_ := by
  have hk := tokV_ok s hp
  have := isNo_size h.2
  have := hk.ge
  unfold stepV stepOf
  rw [h.1]
  simp only [cond_true]
  omega
theorem step_law' {σ : Sto} {r : Nat} (hr : r < σ.length) {s : ByteArray} (hs : s.size < 2 ^ 61) {p : Nat} (hp : p ≤ s.size) :
    lim C 50 [(.ptr 90 r 0, false)] (σ.set r ((stepV s p).cells s)) = some (.ret [], σ.set r ((stepV s (stepV s p).at_).cells s)) := step_law hr hs (step_at_le hp)
theorem callK_panic {call : CallF} {f : FuncId} {args : List Cell} {σ σ' : Sto} {n : Nat} {K : List Cell → Sto → Option Res} {KP : V → Sto → Option Res} {v : V} (h : call f args σ = some (.pan v, σ')) :
    callK call f args σ n K KP = KP v σ' := callK_pan h

theorem stake_law {σ : Sto} {r : Nat} (hr : r < σ.length) {s : ByteArray} (hs : s.size < 2 ^ 61) {p : Nat} (hp : p ≤ s.size) {w : List UInt8} (hw : w ≠ []) (hw0 : w ≠ [0]) :
    ((rtakeV s ⟨p, 0, 0⟩ (ba w)).c = 0 ∧ rtakeV s ⟨p, 0, 0⟩ (ba w) = ⟨(stepV s p).at_, 0, 0⟩ ∧ lim C 52 [(.ptr 90 r 0, false), (.str (ba w), false)] (σ.set r ((stepV s p).cells s)) = some (.ret [], σ.set r ((stepV s (stepV s p).at_).cells s))) ∨
    ((rtakeV s ⟨p, 0, 0⟩ (ba w)).c = 1 ∧ lim C 52 [(.ptr 90 r 0, false), (.str (ba w), false)] (σ.set r ((stepV s p).cells s)) = some (.pan (.iface 66 (.ptr 33 σ.length 0)), σ.set r ((stepV s p).cells s) ++ [fcell 1 (rtakeV s ⟨p, 0, 0⟩ (ba w)).a])) := by
  have h1 := stepTok hp hw hw0
  cases h : strIs (tokV s p).t w
  · right
    have ht : ((stepV s p).tok.toList == (ba w).toList) = false := by rw [← h, ← h1]; rfl
    have ht2 : ((tokV s p).t.toList == (ba w).toList) = false := h
    have hv : rtakeV s ⟨p, 0, 0⟩ (ba w) = ⟨p, 1, (tokV s p).at_⟩ := by
      unfold rtakeV rfailV
      simp [ht2]
    rw [hv]
    refine ⟨rfl, stake_lim (n := 0) ?_⟩
    have hf := sfail_law hr (s := s) (stepV s p)
    simp only [stake, stakeF, sg2 hr, Option.bind_some, V.asStr, ht, Bool.not_false, cond_true, callK_panic hf, step_pos]
  · left
    have hok := strIs_ok hp hw h
    have ht : ((stepV s p).tok.toList == (ba w).toList) = true := by rw [← h, ← h1]; rfl
    have ht2 : ((tokV s p).t.toList == (ba w).toList) = true := h
    have hv : rtakeV s ⟨p, 0, 0⟩ (ba w) = ⟨(stepV s p).at_, 0, 0⟩ := by
      unfold rtakeV rfailV stepV stepOf
      simp [ht2, hok.1]
    rw [hv]
    refine ⟨rfl, rfl, stake_lim (n := 0) ?_⟩
    simp only [stake, stakeF, sg2 hr, Option.bind_some, V.asStr, ht, Bool.not_true, cond_false, callK_ret0 (step_law' hr hs hp)]
theorem sname_law {σ : Sto} {r : Nat} (hr : r < σ.length) {s : ByteArray} (hs : s.size < 2 ^ 61) {p : Nat} (hp : p ≤ s.size) :
    lim C 53 [(.ptr 90 r 0, false)] (σ.set r ((stepV s p).cells s)) =
      (bif isNameV (tokV s p).t then some (.ret [(.str (tokV s p).t, false)], σ.set r ((stepV s (stepV s p).at_).cells s))
       else some (.pan (.iface 66 (.ptr 33 σ.length 0)), σ.set r ((stepV s p).cells s) ++ [fcell 1 (tokV s p).at_])) := by
  have hf := sfail_law hr (s := s) (stepV s p)
  rw [step_pos] at hf
  have e0 : ∀ t : ByteArray, (t.toList == (ByteArray.mk #[]).toList) = isNo t := fun _ => rfl
  cases hk : (tokV s p).ok
  · have hno := (tokV_ok s hp).no hk
    have hn : isNameV (tokV s p).t = false := by simp [isNameV, hno]
    have htk : (stepV s p).tok = ByteArray.mk #[0] := by unfold stepV stepOf; rw [hk]; rfl
    have hl := letter_law 0 (by omega) (σ.set r ((stepV s p).cells s))
    rw [hn]
    refine sname_lim (n := 0) ?_
    have hb0 : byteAt (ByteArray.mk #[0]) 0 = ((0 : Nat) : Int) := rfl
    have hn0 : isNo (ByteArray.mk #[0]) = false := by rw [isNo, ByteArray.toList_eq, ByteArray.toList_eq]; rfl
    simp only [sname, snameF, sg2 hr, Option.bind_some, V.asStr, e0, htk, hn0, cond_false, Int.toNat_zero, hb0, callK_ret1 hl, List.getD_cons_zero, V.asBool, callK_panic hf]
    rfl
  · have htk := step_tok hk
    cases hno : isNo (tokV s p).t
    · have hz := isNo_size hno
      obtain ⟨b, hb, hbe⟩ := byteAt_lt (tokV s p).t 0
      have hl := letter_law b hb (σ.set r ((stepV s p).cells s))
      have hn : isNameV (tokV s p).t = isLetter b := by simp [isNameV, hno, hbe, nmByte]
      have hz' : decide ((0 : Int) < ((tokV s p).t.size : Int)) = true := by simp; omega
      rw [hn]
      cases hlb : isLetter b
      · refine sname_lim (n := 0) ?_
        rw [hlb] at hl
        simp only [sname, snameF, sg2 hr, Option.bind_some, V.asStr, e0, htk, hno, cond_false, Int.toNat_zero, hbe, hz', callK_ret1 hl, List.getD_cons_zero, V.asBool, callK_panic hf, grd, cond_true, Bool.and_true, Bool.not_false]
        rfl
      · refine sname_lim (n := 0) ?_
        rw [hlb] at hl
        simp only [sname, snameF, sg2 hr, Option.bind_some, V.asStr, e0, htk, hno, cond_false, Int.toNat_zero, hbe, hz', callK_ret1 hl, List.getD_cons_zero, V.asBool, grd, cond_true, Bool.and_true, Bool.not_true, callK_ret0 (step_law' hr hs hp)]
        rfl
    · have hn : isNameV (tokV s p).t = false := by simp [isNameV, hno]
      rw [hn]
      refine sname_lim (n := 0) ?_
      simp only [sname, snameF, sg2 hr, Option.bind_some, V.asStr, e0, htk, hno, cond_true, callK_panic hf]
      try rfl
theorem send_law {σ : Sto} {r : Nat} (hr : r < σ.length) {s : ByteArray} {p : Nat} (hp : p ≤ s.size) :
    ((rdoneV s ⟨p, 0, 0⟩).c = 0 ∧ lim C 36 [(.ptr 90 r 0, false)] (σ.set r ((stepV s p).cells s)) = some (.ret [], σ.set r ((stepV s p).cells s))) ∨
    ((rdoneV s ⟨p, 0, 0⟩).c = 1 ∧ lim C 36 [(.ptr 90 r 0, false)] (σ.set r ((stepV s p).cells s)) = some (.pan (.iface 66 (.ptr 33 σ.length 0)), σ.set r ((stepV s p).cells s) ++ [fcell 1 (rdoneV s ⟨p, 0, 0⟩).a])) := by
  have hf := sfail_law hr (s := s) (stepV s p)
  rw [step_pos] at hf
  have e0 : ∀ t : ByteArray, (t.toList == (ByteArray.mk #[]).toList) = isNo t := fun _ => rfl
  have hn0 : isNo (ByteArray.mk #[0]) = false := by rw [isNo, ByteArray.toList_eq, ByteArray.toList_eq]; rfl
  cases hk : (tokV s p).ok
  · right
    have hno := (tokV_ok s hp).no hk
    have htk : (stepV s p).tok = ByteArray.mk #[0] := by unfold stepV stepOf; rw [hk]; rfl
    have hv : rdoneV s ⟨p, 0, 0⟩ = ⟨p, 1, (tokV s p).at_⟩ := by unfold rdoneV rfailV; simp [hk]
    rw [hv]
    refine ⟨rfl, send_lim (n := 0) ?_⟩
    simp only [send, sendF, sg2 hr, Option.bind_some, V.asStr, e0, htk, hn0, Bool.not_false, cond_true, callK_panic hf]
  · have htk := step_tok hk
    cases hno : isNo (tokV s p).t
    · right
      have hv : rdoneV s ⟨p, 0, 0⟩ = ⟨p, 1, (tokV s p).at_⟩ := by unfold rdoneV rfailV; simp [hno]
      rw [hv]
      refine ⟨rfl, send_lim (n := 0) ?_⟩
      simp only [send, sendF, sg2 hr, Option.bind_some, V.asStr, e0, htk, hno, Bool.not_false, cond_true, callK_panic hf]
    · left
      have hv : rdoneV s ⟨p, 0, 0⟩ = ⟨p, 0, 0⟩ := by unfold rdoneV; simp [hk, hno]
      rw [hv]
      refine ⟨rfl, send_lim (n := 0) ?_⟩
      simp only [send, sendF, sg2 hr, Option.bind_some, V.asStr, e0, htk, hno, Bool.not_true, cond_false]

/-- How the scanner's level stands to the reader's. -/
def LvOk (s : ByteArray) (σ : Sto) (r p : Nat) (x : Lv × RS) : Prop :=
  (x.2.c = 0 ∧ x.2.a = 0 ∧ x.2.p ≤ s.size ∧ p < x.2.p ∧ lim C 35 [(.ptr 90 r 0, false)] (σ.set r ((stepV s p).cells s)) = some (.ret [(.agg [.int .i64 x.1.kind, .str x.1.name, .slice 3 31 x.1.args], false)], σ.set r ((stepV s x.2.p).cells s))) ∨
  (x.2.c = 1 ∧ ∃ cs, lim C 35 [(.ptr 90 r 0, false)] (σ.set r ((stepV s p).cells s)) = some (.pan (.iface 66 (.ptr 33 σ.length 0)), σ.set r cs ++ [fcell 1 x.2.a]))
theorem rs_eta {st : RS} (h1 : st.c = 0) (h2 : st.a = 0) : st = ⟨st.p, 0, 0⟩ := by cases st; simp_all
theorem rtake_stuck {s : ByteArray} {st : RS} {w : ByteArray} (hc : st.c ≠ 0) : rtakeV s st w = st := by
  have h1 : (st.c == 0) = false := by simpa using hc
  unfold rtakeV rfailV
  simp only [h1, cond_false]
  cases (!(tokV s st.p).ok || !((tokV s st.p).t.toList == w.toList)) <;> simp only [cond_true, cond_false, h1]
theorem slevel_law {s : ByteArray} (hs : s.size < 2 ^ 61) : ∀ (n p : Nat) (σ : Sto) (r : Nat), r < σ.length → p ≤ s.size → s.size - p < n → LvOk s σ r p (rlevelV n s ⟨p, 0, 0⟩)
  | 0, p, σ, r, hr, hp, hn => by omega
  | n + 1, p, σ, r, hr, hp, hn => by
    have e48 : ∀ t : ByteArray, (t.toList == (ByteArray.mk #[48]).toList) = strIs t [48] := fun _ => rfl
    have e40 : ∀ t : ByteArray, (t.toList == (ByteArray.mk #[40]).toList) = strIs t [40] := fun _ => rfl
    have e115 : ∀ t : ByteArray, (t.toList == (ByteArray.mk #[115]).toList) = strIs t [115] := fun _ => rfl
    have emax : ∀ t : ByteArray, (t.toList == (ByteArray.mk #[109, 97, 120]).toList) = strIs t [109, 97, 120] := fun _ => rfl
    have eimax : ∀ t : ByteArray, (t.toList == (ByteArray.mk #[105, 109, 97, 120]).toList) = strIs t [105, 109, 97, 120] := fun _ => rfl
    have e41 : ByteArray.mk #[41] = ba [41] := rfl
    have hr1 : room (0 + 1) = true := by decide
    have hr2 : room (1 + 1) = true := by decide
    have t48 := stepTok hp (w := [48]) (by simp) (by simp)
    have t40 := stepTok hp (w := [40]) (by simp) (by simp)
    have hst := step_law' hr hs hp
    have hsle := step_at_le hp
    have key : ∀ (x : Lv × RS), rlevelV (n + 1) s ⟨p, 0, 0⟩ = x → (∀ res, slevel (lim C) 0 r (σ.set r ((stepV s p).cells s)) = some res → lim C 35 [(.ptr 90 r 0, false)] (σ.set r ((stepV s p).cells s)) = some res) := fun x _ res h => slevel_lim (n := 0) h
    have run : ∀ res, slevel (lim C) 0 r (σ.set r ((stepV s p).cells s)) = some res → lim C 35 [(.ptr 90 r 0, false)] (σ.set r ((stepV s p).cells s)) = some res := fun res h => slevel_lim (n := 0) h
    simp only [rlevelV, bne_self_eq_false, cond_false]
    cases h0 : strIs (tokV s p).t [48]
    case true =>
      have hok := strIs_ok hp (by simp) h0
      left
      simp only [cond_true]
      rw [rnext_at hok]
      refine ⟨rfl, rfl, hsle, step_lt hp hok, run _ ?_⟩
      rw [h0] at t48
      simp only [slevel, slevelF, sg2 hr, Option.bind_some, V.asStr, e48, t48, cond_true, callK_ret0 hst]
      rfl
    rw [h0] at t48
    simp only [cond_false]
    have hname := sname_law hr hs hp
    cases h1 : isNameV (tokV s p).t
    case true =>
      have hok := name_ok hp h1
      have h40f : strIs (tokV s p).t [40] = false := by
        cases h2 : strIs (tokV s p).t [40] with
        | false => rfl
        | true =>
          exfalso
          simp only [strIs, beq_iff_eq, isNameV, Bool.and_eq_true] at h2 h1
          have : byteAt (tokV s p).t 0 = 40 := by
            rw [ByteArray.toList_eq, ByteArray.toList_eq] at h2
            simp only [byteAt, h2, ba]; rfl
          rw [this] at h1
          exact absurd h1.2 (by decide)
      left
      simp only [cond_true]
      rw [rnext_at hok]
      rw [h1] at hname
      rw [h40f] at t40
      refine ⟨rfl, rfl, hsle, step_lt hp hok, run _ ?_⟩
      simp only [slevel, slevelF, sg2 hr, Option.bind_some, V.asStr, e48, t48, e40, t40, cond_false, callK_ret1 (hname.trans (cond_true ..)), List.getD_cons_zero]
      rfl
    rw [h1] at hname
    simp only [cond_false]
    cases h2 : strIs (tokV s p).t [40]
    case false =>
      right
      simp only [cond_false]
      rw [h2] at t40
      refine ⟨by simp [rfailV], (stepV s p).cells s, run _ ?_⟩
      simp only [slevel, slevelF, sg2 hr, Option.bind_some, V.asStr, e48, t48, e40, t40, cond_false, callK_panic (hname.trans (cond_false ..))]
      simp [rfailV]
    have hok := strIs_ok hp (by simp) h2
    have hlt := step_lt hp hok
    simp only [cond_true]
    rw [rnext_at hok]
    rw [h2] at t40
    generalize hp1 : (stepV s p).at_ = p1 at hst hsle hlt
    have u115 := stepTok hsle (w := [115]) (by simp) (by simp)
    have umax := stepTok hsle (w := [109, 97, 120]) (by simp) (by simp)
    have uimax := stepTok hsle (w := [105, 109, 97, 120]) (by simp) (by simp)
    have hst1 := step_law' hr hs hsle
    have hsle1 := step_at_le hsle
    unfold lvP
    have hf1 := sfail_law hr (s := s) (stepV s p1)
    rw [step_pos] at hf1
    simp only [slevel, slevelF, sg2 hr, Option.bind_some, V.asStr, e48, t48, e40, t40, cond_false, cond_true, callK_ret0 hst, e115, u115, emax, umax, eimax, uimax, e41, hr1, hr2, callK_panic hf1] at run
    -- what a first child comes to
    have first : (tokV s p1).ok = true ∧ isNo (tokV s p1).t = false → LvOk s σ r (stepV s p1).at_ (rlevelV n s ⟨(stepV s p1).at_, 0, 0⟩) := fun h => slevel_law hs n _ σ r hr hsle1 (by have := step_lt hsle h; omega)
    cases h3 : strIs (tokV s p1).t [115]
    case true =>
      have hok1 := strIs_ok hsle (by simp) h3
      have hlt1 := step_lt hsle hok1
      simp only [cond_true, lv1]
      simp only [h3, cond_true, callK_ret0 hst1] at run
      rw [rnext_at hok1]
      have hx := first hok1
      generalize rlevelV n s ⟨(stepV s p1).at_, 0, 0⟩ = X at hx
      rcases hx with ⟨x1, x2, x3, x4, x5⟩ | ⟨x1, cs, x2⟩
      · rw [rs_eta x1 x2]
        rcases stake_law hr hs x3 (w := [41]) (by simp) (by simp) with ⟨_, y2, y3⟩ | ⟨y1, y2⟩
        · left
          rw [y2]
          have z := step_at_le x3
          have z2 := le_scan
          refine ⟨rfl, rfl, z, ?_, run _ ?_⟩
          · have hk := (tokV_ok s x3).ge
            have : X.2.p ≤ (stepV s X.2.p).at_ := by
              have := (tokV_ok s x3)
              unfold stepV stepOf
              cases (tokV s X.2.p).ok <;> simp only [cond_true, cond_false] <;> omega
            simp only
            omega
          · simp only [callK_ret1 x5, List.getD_cons_zero, fits_lv, cell_lv, grd, Bool.and_self, cond_true, Option.bind_some, callK_ret0 y3]
            rfl
        · right
          refine ⟨y1, (stepV s X.2.p).cells s, run _ ?_⟩
          simp only [callK_ret1 x5, List.getD_cons_zero, fits_lv, cell_lv, grd, Bool.and_self, cond_true, Option.bind_some, callK_panic y2]
      · right
        rw [rtake_stuck (by rw [x1]; simp)]
        refine ⟨x1, cs, run _ ?_⟩
        simp only [callK_panic x2]
    simp only [h3, cond_false] at run ⊢
    have two : ∀ (f : Lv → Lv → Lv) (B : Option Res), (tokV s p1).ok = true ∧ isNo (tokV s p1).t = false →
        (∀ (a b : Lv) (σ1 σ2 σ3 : Sto), lim C 35 [(.ptr 90 r 0, false)] (σ.set r ((stepV s (stepV s p1).at_).cells s)) = some (.ret [(.agg [.int .i64 a.kind, .str a.name, .slice 3 31 a.args], false)], σ1) →
          lim C 35 [(.ptr 90 r 0, false)] σ1 = some (.ret [(.agg [.int .i64 b.kind, .str b.name, .slice 3 31 b.args], false)], σ2) → lim C 52 [(.ptr 90 r 0, false), (.str (ba [41]), false)] σ2 = some (.ret [], σ3) →
          B = some (.ret [(.agg [.int .i64 (f a b).kind, .str (f a b).name, .slice 3 31 (f a b).args], false)], σ3)) →
        (∀ (v : V) (σ1 : Sto), lim C 35 [(.ptr 90 r 0, false)] (σ.set r ((stepV s (stepV s p1).at_).cells s)) = some (.pan v, σ1) → B = some (.pan v, σ1)) →
        (∀ (a : Lv) (v : V) (σ1 σ2 : Sto), lim C 35 [(.ptr 90 r 0, false)] (σ.set r ((stepV s (stepV s p1).at_).cells s)) = some (.ret [(.agg [.int .i64 a.kind, .str a.name, .slice 3 31 a.args], false)], σ1) →
          lim C 35 [(.ptr 90 r 0, false)] σ1 = some (.pan v, σ2) → B = some (.pan v, σ2)) →
        (∀ (a b : Lv) (v : V) (σ1 σ2 σ3 : Sto), lim C 35 [(.ptr 90 r 0, false)] (σ.set r ((stepV s (stepV s p1).at_).cells s)) = some (.ret [(.agg [.int .i64 a.kind, .str a.name, .slice 3 31 a.args], false)], σ1) →
          lim C 35 [(.ptr 90 r 0, false)] σ1 = some (.ret [(.agg [.int .i64 b.kind, .str b.name, .slice 3 31 b.args], false)], σ2) → lim C 52 [(.ptr 90 r 0, false), (.str (ba [41]), false)] σ2 = some (.pan v, σ3) →
          B = some (.pan v, σ3)) →
        (∀ res, B = some res → lim C 35 [(.ptr 90 r 0, false)] (σ.set r ((stepV s p).cells s)) = some res) → LvOk s σ r p (lv2 (rlevelV n s) s f (rnextV s ⟨p1, 0, 0⟩).2) := by
      intro f B hok1 hB1 hB2 hB3 hB4 hrun
      have hlt1 := step_lt hsle hok1
      simp only [lv2]
      rw [rnext_at hok1]
      have hx := first hok1
      generalize rlevelV n s ⟨(stepV s p1).at_, 0, 0⟩ = X at hx
      rcases hx with ⟨x1, x2, x3, x4, x5⟩ | ⟨x1, cs, x2⟩
      · rw [rs_eta x1 x2]
        have hy := slevel_law hs n X.2.p σ r hr x3 (by omega)
        generalize rlevelV n s ⟨X.2.p, 0, 0⟩ = Y at hy
        rcases hy with ⟨y1, y2, y3, y4, y5⟩ | ⟨y1, cs, y2⟩
        · rw [rs_eta y1 y2]
          rcases stake_law hr hs y3 (w := [41]) (by simp) (by simp) with ⟨_, w2, w3⟩ | ⟨w1, w2⟩
          · left
            rw [w2]
            have z := step_at_le y3
            refine ⟨rfl, rfl, z, ?_, hrun _ ?_⟩
            · have : Y.2.p ≤ (stepV s Y.2.p).at_ := by
                have := (tokV_ok s y3)
                have := this.ge
                unfold stepV stepOf
                cases (tokV s Y.2.p).ok <;> simp only [cond_true, cond_false] <;> omega
              simp only
              omega
            · exact hB1 _ _ _ _ _ x5 y5 w3
          · right
            refine ⟨w1, (stepV s Y.2.p).cells s, hrun _ ?_⟩
            exact hB4 _ _ _ _ _ _ x5 y5 w2
        · right
          rw [rtake_stuck (by rw [y1]; simp)]
          refine ⟨y1, cs, hrun _ ?_⟩
          exact hB3 _ _ _ _ x5 y2
      · right
        have hst : rlevelV n s X.2 = (.zero, X.2) := rlevel_stuck (by rw [x1]; simp)
        rw [hst, rtake_stuck (by rw [x1]; simp)]
        refine ⟨x1, cs, hrun _ ?_⟩
        exact hB2 _ _ x2
    cases h4 : strIs (tokV s p1).t [109, 97, 120]
    case true =>
      have hok1 := strIs_ok hsle (by simp) h4
      simp only [h4, cond_true, callK_ret0 hst1] at run ⊢
      refine two .max _ hok1 (fun a b σ1 σ2 σ3 k1 k2 k3 => ?_) (fun v σ1 k1 => ?_) (fun a v σ1 σ2 k1 k2 => ?_) (fun a b v σ1 σ2 σ3 k1 k2 k3 => ?_) run
      · simp only [callK_ret1 k1, callK_ret1 k2, callK_ret0 k3, List.getD_cons_zero, fits_lv, cell_lv, grd, Bool.and_self, cond_true, Option.bind_some]; rfl
      · simp only [callK_panic k1]
      · simp only [callK_ret1 k1, callK_panic k2, List.getD_cons_zero, fits_lv, grd, Bool.and_self, cond_true, Option.bind_some]
      · simp only [callK_ret1 k1, callK_ret1 k2, callK_panic k3, List.getD_cons_zero, fits_lv, grd, Bool.and_self, cond_true, Option.bind_some]
    simp only [h4, cond_false] at run ⊢
    cases h5 : strIs (tokV s p1).t [105, 109, 97, 120]
    case true =>
      have hok1 := strIs_ok hsle (by simp) h5
      simp only [h5, cond_true, callK_ret0 hst1] at run ⊢
      refine two .imax _ hok1 (fun a b σ1 σ2 σ3 k1 k2 k3 => ?_) (fun v σ1 k1 => ?_) (fun a v σ1 σ2 k1 k2 => ?_) (fun a b v σ1 σ2 σ3 k1 k2 k3 => ?_) run
      · simp only [callK_ret1 k1, callK_ret1 k2, callK_ret0 k3, List.getD_cons_zero, fits_lv, cell_lv, grd, Bool.and_self, cond_true, Option.bind_some]; rfl
      · simp only [callK_panic k1]
      · simp only [callK_ret1 k1, callK_panic k2, List.getD_cons_zero, fits_lv, grd, Bool.and_self, cond_true, Option.bind_some]
      · simp only [callK_ret1 k1, callK_ret1 k2, callK_panic k3, List.getD_cons_zero, fits_lv, grd, Bool.and_self, cond_true, Option.bind_some]
    simp only [h5, cond_false] at run ⊢
    right
    refine ⟨by simp [rfailV], (stepV s p1).cells s, run _ ?_⟩
    simp [rfailV]
end Go.Ab.Mk
end
section
namespace Go.Proofs
open Go.RowKit Go.Ab
set_option maxRecDepth 100000
set_option maxHeartbeats 1000000

theorem Mk.catch_idle (p : Addr) (w : World) :
    CallsD Tryd.prog 33 #[.pointer (some p)] .returning w fun e u' w' => e = .returned (.tuple #[]) ∧ u' = .returning ∧ w' = w := by
  refine callsD_of_wpS Tryd.func33 rfl fun c₀ cs hu => ?_
  apply wpS_seq
  apply wpS_region
  simp [wpOpsS, go_sem, recoverD, hu, Tryd.ntmps33, Exit.thenS]
  refine wpS_of_wp ?_
  go_wp2
  cases c₀
  simp_all [bodyPostS, results, Tryd.results33]
theorem Mk.catch_pan (p : Addr) (v : Value) (w : World) (x : Value) (hc : w.cell? p = some x) (hz : w.frozen? p = false) :
    CallsD Tryd.prog 33 #[.pointer (some p)] (.panicking [{ v := .iface 66 v, recovered := false }]) w fun e u' w' =>
      e = .returned (.tuple #[]) ∧ u' = .panicking [{ v := .iface 66 v, recovered := true }] ∧ w' = w.setCell p (.iface 66 v) := by
  have hta : (Instr.typeAssert (.iface 66 v) 20 66 true).run Tryd.prog w = .ok (.tuple #[v, .bool true]) w := by kernel_rfl
  refine callsD_of_wpS Tryd.func33 rfl fun c₀ cs hu => ?_
  apply wpS_seq
  apply wpS_region
  simp [wpOpsS, go_sem, recoverD, hu, Tryd.ntmps33, Exit.thenS]
  refine wpS_of_wp ?_
  go_wp2
  cases c₀
  simp_all [bodyPostS, results, Tryd.results33]
end Go.Proofs
end
section
namespace Go.Proofs
open Go.RowKit Go.Ab
set_option maxRecDepth 100000
set_option maxHeartbeats 1000000
theorem Mk.clos_nil (p q : Addr) (u : FrameMode) (w : World) (hc : w.cell? p = some .nilIface) :
    CallsD Tryd.prog 32 #[.pointer (some p), .pointer (some q)] u w fun e u' w' => u' = u ∧ (e = .returned (.tuple #[]) ∧ w' = w) := by
  go_enter_d Tryd.func32, Tryd.ntmps32
  go_wp2
  go_end0
  exact ⟨rfl, rfl⟩
theorem Mk.clos_err (p : Addr) (b : Nat) (u : FrameMode) (w : World) (v : Value) (cv : Array Value) (el : TypeId) (hc : w.cell? p = some (.iface 66 v)) (hb : w.heap[b]? = some (.cells cv el (0, 0))) (hs : cv.size = 3) :
    CallsD Tryd.prog 32 #[.pointer (some p), .pointer (some ⟨b, 0, none⟩)] u w fun e u' w' => u' = u ∧ (e = .returned (.tuple #[]) ∧ w' = putCells w b 0 [.int .i64 0, .string (ByteArray.mk #[]), .slice none 0 0]) := by
  obtain ⟨x0, x1, x2, rfl⟩ : ∃ x0 x1 x2, cv = #[x0, x1, x2] := by
    obtain ⟨l⟩ := cv
    match l, hs with
    | [x0, x1, x2], _ => exact ⟨x0, x1, x2, rfl⟩
  have h0 : w.cell? ⟨b, 0, none⟩ = some x0 := by simp [World.cell?, hb]
  have h1 : w.cell? ⟨b, 1, none⟩ = some x1 := by simp [World.cell?, hb]
  have h2 : w.cell? ⟨b, 2, none⟩ = some x2 := by simp [World.cell?, hb]
  have z0 : w.frozen? ⟨b, 0, none⟩ = false := by simp [World.frozen?, hb]
  have z1 : w.frozen? ⟨b, 1, none⟩ = false := by simp [World.frozen?, hb]
  have z2 : w.frozen? ⟨b, 2, none⟩ = false := by simp [World.frozen?, hb]
  go_enter_d Tryd.func32, Tryd.ntmps32
  go_wp2
  go_end0
  exact ⟨rfl, rfl⟩
end Go.Proofs
end
section
namespace Go.Ab

/-- From one moment to a later one, as far as what lay below a bound. -/
structure ExtB (B : Nat) (G : Gh) (w : World) (G' : Gh) (w' : World) : Prop where
  N : G.N ≤ G'.N
  μ : ∀ b, b < G.N → G'.μ b = G.μ b
  ty : ∀ b, b < G.N → G'.ty b = G.ty b
  lim : ∀ b, G.lim b ≤ G'.lim b
  cell : ∀ b o, o < G.lim b → w'.cell? ⟨b, o, none⟩ = w.cell? ⟨b, o, none⟩
  os : w'.os = w.os
  tape : w'.tape = w.tape
  output : w'.output = w.output
  size : w.heap.size ≤ w'.heap.size
  old : ∀ i, i < B → G.owner i = none → w'.heap[i]? = w.heap[i]? ∧ G'.lim i = G.lim i ∧ G'.owner i = none
theorem Ext.toB {B : Nat} {G G' : Gh} {w w' : World} (h : Ext G w G' w') (hB : B ≤ w.heap.size) : ExtB B G w G' w' :=
  ⟨h.N, h.μ, h.ty, h.lim, h.cell, h.os, h.tape, h.output, h.size, fun i hi ho => h.old i (Nat.lt_of_lt_of_le hi hB) ho⟩
theorem ExtB.toExt {G G' : Gh} {w w' : World} (h : ExtB w.heap.size G w G' w') : Ext G w G' w' :=
  ⟨h.N, h.μ, h.ty, h.lim, h.cell, h.os, h.tape, h.output, h.size, h.old⟩
theorem ExtB.trans {B : Nat} {G G1 G2 : Gh} {w w1 w2 : World} (h : ExtB B G w G1 w1) (k : ExtB B G1 w1 G2 w2) : ExtB B G w G2 w2 where
  N := Nat.le_trans h.N k.N
  μ b hb := (k.μ b (Nat.lt_of_lt_of_le hb h.N)).trans (h.μ b hb)
  ty b hb := (k.ty b (Nat.lt_of_lt_of_le hb h.N)).trans (h.ty b hb)
  lim b := Nat.le_trans (h.lim b) (k.lim b)
  cell b o ho := (k.cell b o (Nat.lt_of_lt_of_le ho (h.lim b))).trans (h.cell b o ho)
  os := k.os.trans h.os
  tape := k.tape.trans h.tape
  output := k.output.trans h.output
  size := Nat.le_trans h.size k.size
  old i hi ho := by
    obtain ⟨a1, a2, a3⟩ := h.old i hi ho
    obtain ⟨b1, b2, b3⟩ := k.old i hi a3
    exact ⟨b1.trans a1, b2.trans a2, b3⟩

/-- The same but for two blocks. -/
structure Near (a b : Nat) (w w' : World) : Prop where
  os : w'.os = w.os
  tape : w'.tape = w.tape
  output : w'.output = w.output
  size : w'.heap.size = w.heap.size
  heap : ∀ i, i ≠ a → i ≠ b → w'.heap[i]? = w.heap[i]?
theorem Near.refl (a b : Nat) (w : World) : Near a b w w := ⟨rfl, rfl, rfl, rfl, fun _ _ _ => rfl⟩
theorem Near.setCell {a b : Nat} {w w' : World} (h : Near a b w w') (p : Addr) (hp : p.block = a ∨ p.block = b) (v : Value) : Near a b w (w'.setCell p v) := by
  refine ⟨h.os, h.tape, h.output, by simp [World.setCell]; exact h.size, fun i h1 h2 => ?_⟩
  rw [← h.heap i h1 h2]
  show (w'.heap.modify p.block _)[i]? = _
  rw [Array.getElem?_modify, if_neg (by rintro rfl; rcases hp with hp | hp <;> contradiction)]

section
variable {gl : Nat → Option (List V)} {G : Gh} {w w' : World} {σ : Sto} {a b : Nat}
theorem Near.rel (h : Near a b w w') (la : G.lim a = 0) (lb : G.lim b = 0) {v : V} {c : Value} (hr : Rel G w v c) : Rel G w' v c := by
  have hcell : ∀ i o, o < G.lim i → w'.cell? ⟨i, o, none⟩ = w.cell? ⟨i, o, none⟩ := by
    intro i o ho
    simp only [World.cell?]
    rw [h.heap i (by rintro rfl; omega) (by rintro rfl; omega)]
  let G1 : Gh := { G with owner := fun _ => some (.res 0) }
  have e : Ext G1 w G1 w' := ⟨Nat.le_refl _, fun _ _ => rfl, fun _ _ => rfl, fun _ => Nat.le_refl _, hcell, h.os, h.tape, h.output, by rw [h.size]; exact Nat.le_refl _, fun i _ ho => by simp [G1] at ho⟩
  have := (rel_owner hr (fun _ => some (.res 0))).mono (G' := G1) e
  exact rel_owner this G.owner
theorem Near.sinv (h : Near a b w w') (la : G.lim a = 0) (lb : G.lim b = 0) (oa : G.owner a = none) (ob : G.owner b = none) (hS : SInv gl G w σ) : SInv gl G w' σ := by
  have hne : ∀ i p, G.owner i = some p → w'.heap[i]? = w.heap[i]? := fun i p hp => h.heap i (by rintro rfl; rw [oa] at hp; simp at hp) (by rintro rfl; rw [ob] at hp; simp at hp)
  have hown : ∀ (p : Place) (v : V) (c : Value), Own G w p v c → Own G w' p v c := by
    intro p v c hh
    unfold Own at *
    split at hh
    · obtain ⟨h1, h2, h3, h4, cv, fr, h5, h6, h7⟩ := hh
      exact ⟨h1, h2, h3, h4, cv, fr, by rw [hne _ _ h3]; exact h5, h6, h7⟩
    · exact hh
    · trivial
  refine ⟨fun i hi => hS.wf i (by rw [h.size] at hi; exact hi), fun g cs hg => h.rel la lb (hS.glob g cs hg), hS.N, fun k hk => ?_, fun k cs hk => ?_⟩
  · obtain ⟨cv, fr, q1⟩ := hS.typed k hk
    obtain ⟨_, _, _, _, q3, _⟩ := hS.blk k σ[k] (List.getElem?_eq_getElem hk)
    exact ⟨cv, fr, by rw [hne _ _ q3]; exact q1⟩
  · obtain ⟨cv, el, g1, g2, g3, g4, g5⟩ := hS.blk k cs hk
    exact ⟨cv, el, by rw [hne _ _ g3]; exact g1, g2, g3, g4, fun j c x hc hx => ⟨⟨h.rel la lb (g5 j c x hc hx).1.1, fun hf => hown _ _ _ ((g5 j c x hc hx).1.2 hf)⟩, (g5 j c x hc hx).2⟩⟩
theorem Near.extB {B : Nat} (h : Near a b w w') (la : G.lim a = 0) (lb : G.lim b = 0) (ha : B ≤ a) (hb : B ≤ b) : ExtB B G w G w' :=
  ⟨Nat.le_refl _, fun _ _ => rfl, fun _ _ => rfl, fun _ => Nat.le_refl _, fun i o ho => by
    simp only [World.cell?]
    rw [h.heap i (by rintro rfl; omega) (by rintro rfl; omega)], h.os, h.tape, h.output, by rw [h.size]; exact Nat.le_refl _, fun i hi ho => ⟨h.heap i (by omega) (by omega), rfl, ho⟩⟩
end
/-- Only what the store holds stays held. -/
def Gh.bare (G : Gh) : Gh := { G with owner := fun i => match G.owner i with | some (.blk b) => some (.blk b) | some (.gc b o) => some (.gc b o) | _ => none }
section
variable {G : Gh} {w : World} {σ : Sto} {gl : Nat → Option (List V)}
theorem Gh.bare_none {i : Nat} (h : G.owner i = none) : G.bare.owner i = none := by simp [Gh.bare, h]
theorem Gh.bare_ext : Ext G w G.bare w :=
  ⟨Nat.le_refl _, fun _ _ => rfl, fun _ _ => rfl, fun _ => Nat.le_refl _, fun _ _ _ => rfl, rfl, rfl, rfl, Nat.le_refl _, fun _ _ h => ⟨rfl, rfl, Gh.bare_none h⟩⟩
theorem Gh.bare_clean (n : Nat) : Clean G.bare n := by
  intro i p hp
  simp only [Gh.bare] at hp
  split at hp
  · simp at hp; exact .inl ⟨_, hp.symm⟩
  · simp at hp; exact .inr (.inl ⟨_, _, hp.symm⟩)
  · simp at hp
theorem SInv.bare (h : SInv gl G w σ) : SInv gl G.bare w σ := by
  refine ⟨fun i hi => ⟨(h.wf i hi).1, Gh.bare_none (h.wf i hi).2⟩, fun g cs hg => (h.glob g cs hg).mono Gh.bare_ext, h.N, h.typed, fun b cs hbc => ?_⟩
  obtain ⟨cvv, el, g1, g2, g3, g4, g5⟩ := h.blk b cs hbc
  refine ⟨cvv, el, g1, g2, by show G.bare.owner (G.μ b) = _; simp [Gh.bare, g3], g4, fun j cc x hc hx => ?_⟩
  obtain ⟨e1, e2⟩ := g5 j cc x hc hx
  exact ⟨e1.move Gh.bare_ext fun _ i hi => ⟨rfl, rfl, by simp [Gh.bare, hi]⟩, e2⟩
end

def slv (v : V) : Bool := match v with | .slice .. | .nils => true | _ => false
section
/-- Two results, nobody's. -/
theorem end_two {G : Gh} {w : World} {v1 v2 : V} {c1 c2 : Value} (h1 : Rel G w v1 c1) (h2 : Rel G w v2 c2) : EndRel G w (.ret [(v1, false), (v2, false)]) (.returned (.tuple #[c1, c2])) := by
  refine ⟨[c1, c2], rfl, by simp, fun i c x hc hx => ?_⟩
  match i with
  | 0 => simp at hc hx; subst hc; subst hx; exact ⟨h1, fun ho => by simp at ho⟩
  | 1 => simp at hc hx; subst hc; subst hx; exact ⟨h2, fun ho => by simp at ho⟩
  | i + 2 => simp at hc

end
end Go.Ab
end
section
namespace Go.Proofs
open Go.RowKit Go.Ab
set_option maxRecDepth 100000
set_option maxHeartbeats 1000000
theorem Mk.parse_long (s : ByteArray) (w : World) (hb : (s.size : Int) > 20000) :
    Calls Tryd.prog 16 #[.string s] w fun en w' => en = .returned (.tuple #[.agg #[.int .i64 0, .string (ByteArray.mk #[]), .slice none 0 0], .iface 66 (.pointer (some ⟨w.heap.size + 1 + 1, 0, none⟩))]) ∧
      w' = ((w.alloc (.cells #[.int .i64 0, .string (ByteArray.mk #[]), .slice none 0 0] 31)).alloc (.cells #[.iface 66 (.pointer (some ⟨w.heap.size + 1 + 1, 0, none⟩))] 44)).alloc (.cells #[.int .i64 2, .int .i64 0] 33) := by
  have hmf : ∀ (fn : Fn) (first cap : Array Value) (w : World), (Instr.makeFunc fn first cap).run Tryd.prog w = .ok (.func fn first cap) w := fun _ _ _ _ => rfl
  go_enter_defers Tryd.func16, Tryd.ntmps16
  go_wp2
  simp [bodyPostD, Leaves, settle, results, Tryd.results16, go_sem]

def Mk.zlv : Array Value := #[.int .i64 0, .string (ByteArray.mk #[]), .slice none 0 0]
/-- What is asked of the calls of the parse: a scanner, a level, an end; the parse's own two cells stay as they were. -/
structure Mk.Has (b : Nat) (x y : Array Value) (w : World) : Prop where
  l : w.heap[b]? = some (.cells x 31 (0, 0))
  e : w.heap[b + 1]? = some (.cells y 44 (0, 0))
theorem Mk.Has.c0 {b : Nat} {x0 x1 x2 : Value} {y : Array Value} {w : World} (h : Mk.Has b #[x0, x1, x2] y w) : w.cell? ⟨b, 0, none⟩ = some x0 ∧ w.cell? ⟨b, 1, none⟩ = some x1 ∧ w.cell? ⟨b, 2, none⟩ = some x2 ∧ w.frozen? ⟨b, 0, none⟩ = false ∧ w.frozen? ⟨b, 1, none⟩ = false ∧ w.frozen? ⟨b, 2, none⟩ = false := by
  simp [World.cell?, World.frozen?, h.l]
theorem Mk.Has.e0 {b : Nat} {x : Array Value} {y : Value} {w : World} (h : Mk.Has b x #[y] w) : w.cell? ⟨b + 1, 0, none⟩ = some y ∧ w.frozen? ⟨b + 1, 0, none⟩ = false := by
  simp [World.cell?, World.frozen?, h.e]

theorem Mk.Has.setE {b : Nat} {x : Array Value} {y v : Value} {w : World} (h : Mk.Has b x #[y] w) : Mk.Has b x #[v] (w.setCell ⟨b + 1, 0, none⟩ v) := by
  refine ⟨?_, ?_⟩
  · rw [heap_setCell_other _ _ _ _ (by simp)]; exact h.l
  · rw [heap_setCell_same _ _ _ _ _ _ h.e]; rfl
theorem Mk.Has.setL {b : Nat} {x0 x1 x2 y0 y1 y2 : Value} {y : Array Value} {w : World} (h : Mk.Has b #[x0, x1, x2] y w) :
    Mk.Has b #[y0, y1, y2] y (((w.setCell ⟨b, 0, none⟩ y0).setCell ⟨b, 1, none⟩ y1).setCell ⟨b, 2, none⟩ y2) := by
  refine ⟨?_, ?_⟩
  · rw [heap_setCell_same _ _ _ _ _ _ (heap_setCell_same _ _ _ _ _ _ (heap_setCell_same _ _ _ _ _ _ h.l))]; rfl
  · rw [heap_setCell_other _ _ _ _ (by simp), heap_setCell_other _ _ _ _ (by simp), heap_setCell_other _ _ _ _ (by simp)]; exact h.e
/-- The end of the parse: what 36 must leave. -/
def Mk.K5 (b : Nat) (x : Array Value) (Q : Ending → World → Prop) : Ending → World → Prop := fun e w5 =>
  (e = .returned (.tuple #[]) ∧ Mk.Has b x #[.nilIface] w5 ∧ ∀ w', Near b (b + 1) w5 w' → Q (.returned (.tuple #[.agg x, .nilIface])) w') ∨
  (∃ v, e = .panicked [{ v := .iface 66 v, recovered := false }] ∧ Mk.Has b x #[.nilIface] w5 ∧ ∀ w', Near b (b + 1) w5 w' → Q (.returned (.tuple #[.agg Mk.zlv, .iface 66 v])) w')
/-- The three parts of a level. -/
inductive Mk.Shp : Value → Value → Value → Prop
  | mk (n : Int) (st : ByteArray) (p : Option Addr) (l c : Nat) : Mk.Shp (.int .i64 n) (.string st) (.slice p l c)
/-- The level: what 35 must leave. -/
def Mk.K4 (b : Nat) (q : Addr) (Q : Ending → World → Prop) : Ending → World → Prop := fun e w4 =>
  (∃ x0 x1 x2, e = .returned (.agg #[x0, x1, x2]) ∧ Mk.Shp x0 x1 x2 ∧ Mk.Has b Mk.zlv #[.nilIface] w4 ∧
    Hid (∀ w', Near b (b + 1) w4 w' → Mk.Has b #[x0, x1, x2] #[.nilIface] w' → Calls Tryd.prog 36 #[.pointer (some q)] w' (Mk.K5 b #[x0, x1, x2] Q))) ∨
  (∃ v, e = .panicked [{ v := .iface 66 v, recovered := false }] ∧ Mk.Has b Mk.zlv #[.nilIface] w4 ∧ ∀ w', Near b (b + 1) w4 w' → Q (.returned (.tuple #[.agg Mk.zlv, .iface 66 v])) w')
/-- The scanner: what 34 must leave. -/
def Mk.K3 (b : Nat) (Q : Ending → World → Prop) : Ending → World → Prop := fun e w3 =>
  ∃ q : Addr, e = .returned (.pointer (some q)) ∧ Calls Tryd.prog 35 #[.pointer (some q)] w3 (Mk.K4 b q Q)

theorem Mk.parse_short (s : ByteArray) (w : World) (hb : ¬ (s.size : Int) > 20000) (Q : Ending → World → Prop)
    (h : Calls Tryd.prog 34 #[.string s] ((w.alloc (.cells #[.int .i64 0, .string (ByteArray.mk #[]), .slice none 0 0] 31)).alloc (.cells #[.nilIface] 44)) (Mk.K3 w.heap.size Q)) :
    Calls Tryd.prog 16 #[.string s] w Q := by
  have hmf : ∀ (fn : Fn) (first cap : Array Value) (w : World), (Instr.makeFunc fn first cap).run Tryd.prog w = .ok (.func fn first cap) w := fun _ _ _ _ => rfl
  go_enter_defers Tryd.func16, Tryd.ntmps16
  go_wp2_with (go_at_call 34; refine h.mono ?_)
  clear h
  rintro e w3 ⟨q, rfl, h35⟩
  go_wp2_with (go_at_call 35; refine h35.mono ?_)
  clear h35
  rintro e w4 (⟨x0, x1, x2, rfl, hx, hh, h36⟩ | ⟨v, rfl, hh, hq⟩)
  · obtain ⟨c0, c1, c2, z0, z1, z2⟩ := hh.c0
    go_wp2_with (go_at_call 36; skip)
    obtain ⟨n, st, p, l, c⟩ := hx
    have n3 : Near w.heap.size (w.heap.size + 1) w4 (((w4.setCell ⟨w.heap.size, 0, none⟩ (.int .i64 n)).setCell ⟨w.heap.size, 1, none⟩ (.string st)).setCell ⟨w.heap.size, 2, none⟩ (.slice p l c)) :=
      (((Near.refl w.heap.size (w.heap.size + 1) w4).setCell ⟨w.heap.size, 0, none⟩ (.inl rfl) _).setCell ⟨w.heap.size, 1, none⟩ (.inl rfl) _).setCell ⟨w.heap.size, 2, none⟩ (.inl rfl) _
    have h3 := hh.setL (y0 := .int .i64 n) (y1 := .string st) (y2 := .slice p l c)
    have h36' := h36.out _ n3 h3
    have d1 : (w4.setCell ⟨w.heap.size, 0, none⟩ (.int .i64 n)).cell? ⟨w.heap.size, 1, none⟩ = some (.string (ByteArray.mk #[])) := by rw [World.cell?_setCell_other _ _ _ _ (by simp)]; exact c1
    have d2 : ((w4.setCell ⟨w.heap.size, 0, none⟩ (.int .i64 n)).setCell ⟨w.heap.size, 1, none⟩ (.string st)).cell? ⟨w.heap.size, 2, none⟩ = some (.slice none 0 0) := by
      rw [World.cell?_setCell_other _ _ _ _ (by simp), World.cell?_setCell_other _ _ _ _ (by simp)]; exact c2
    simp only [run_store_int, run_store_string, run_store_slice, stored, World.frozen?_setCell, c0, d1, d2, z0, z1, z2, Result.andThen, Bool.false_eq_true, if_false]
    clear h36 d1 d2 n3 hh c0 c1 c2 z0 z1 z2
    generalize (((w4.setCell ⟨w.heap.size, 0, none⟩ (.int .i64 n)).setCell ⟨w.heap.size, 1, none⟩ (.string st)).setCell ⟨w.heap.size, 2, none⟩ (.slice p l c)) = w4' at *
    clear w4
    simp only [Oper.upon, Act.put]
    rename_i K7 a7 K6 a6
    apply a6
    clear a6 K6
    simp only [wpList, Exit.then]
    apply a7
    clear a7 K7
    go_wp2_with (go_at_call 36; refine h36'.mono ?_)
    clear h36'
    rintro e w5 (⟨rfl, hh, hq⟩ | ⟨v, rfl, hh, hq⟩)
    · obtain ⟨c0, c1, c2, z0, z1, z2⟩ := hh.c0
      obtain ⟨c3, z3⟩ := hh.e0
      clear h3
      go_wp2
      have hh2 := hh.setL (y0 := .int .i64 n) (y1 := .string st) (y2 := .slice p l c)
      have hh3 := hh2.setE (v := .nilIface)
      have hn : Near w.heap.size (w.heap.size + 1) w5 ((((w5.setCell ⟨w.heap.size, 0, none⟩ (.int .i64 n)).setCell ⟨w.heap.size, 1, none⟩ (.string st)).setCell ⟨w.heap.size, 2, none⟩ (.slice p l c)).setCell ⟨w.heap.size + 1, 0, none⟩ .nilIface) :=
        ((((Near.refl w.heap.size (w.heap.size + 1) w5).setCell ⟨w.heap.size, 0, none⟩ (.inl rfl) _).setCell ⟨w.heap.size, 1, none⟩ (.inl rfl) _).setCell ⟨w.heap.size, 2, none⟩ (.inl rfl) _).setCell ⟨w.heap.size + 1, 0, none⟩ (.inr rfl) _
      have hq' := hq _ hn
      obtain ⟨k0, k1, k2, j0, j1, j2⟩ := hh3.c0
      obtain ⟨k3, j3⟩ := hh3.e0
      clear hh2 hn hq
      generalize (((w5.setCell ⟨w.heap.size, 0, none⟩ (.int .i64 n)).setCell ⟨w.heap.size, 1, none⟩ (.string st)).setCell ⟨w.heap.size, 2, none⟩ (.slice p l c)).setCell ⟨w.heap.size + 1, 0, none⟩ .nilIface = w6 at *
      simp [bodyPostD, Leaves, settle, go_sem]
      refine ⟨33, _, ⟨rfl, rfl⟩, (Mk.catch_idle _ _).mono ?_⟩
      rintro e u w7 ⟨rfl, rfl, rfl⟩
      simp
      refine ⟨32, _, ⟨rfl, rfl⟩, (Mk.clos_nil _ _ _ _ k3).mono ?_⟩
      rintro e u w7 ⟨rfl, rfl, rfl⟩
      simp [Leaves, settle, results, Tryd.results16, go_sem, k0, k1, k2, k3]
      exact hq'
    · obtain ⟨c0, z0⟩ := hh.e0
      have hw : (w5.setCell ⟨w.heap.size + 1, 0, none⟩ (.iface 66 v)).cell? ⟨w.heap.size + 1, 0, none⟩ = some (.iface 66 v) := World.cell?_setCell_same' _ _ _ (by simp [c0])
      have hh1 := hh.setE (v := .iface 66 v)
      have hh2 := hh1.setL (y0 := .int .i64 0) (y1 := .string (ByteArray.mk #[])) (y2 := .slice none 0 0)
      simp [bodyPostD, Leaves, settle, go_sem]
      refine ⟨33, _, ⟨rfl, rfl⟩, (Mk.catch_pan _ v w5 .nilIface c0 z0).mono ?_⟩
      rintro e u w6 ⟨rfl, rfl, rfl⟩
      simp
      refine ⟨32, _, ⟨rfl, rfl⟩, (Mk.clos_err _ _ _ _ v _ 31 hw hh1.l rfl).mono ?_⟩
      rintro e u w6 ⟨rfl, rfl, rfl⟩
      simp [putCells]
      obtain ⟨k0, k1, k2, j0, j1, j2⟩ := hh2.c0
      obtain ⟨k3, j3⟩ := hh2.e0
      have hn : Near w.heap.size (w.heap.size + 1) w5 ((((w5.setCell ⟨w.heap.size + 1, 0, none⟩ (.iface 66 v)).setCell ⟨w.heap.size, 0, none⟩ (.int .i64 0)).setCell ⟨w.heap.size, 1, none⟩ (.string (ByteArray.mk #[]))).setCell ⟨w.heap.size, 2, none⟩ (.slice none 0 0)) :=
        ((((Near.refl w.heap.size (w.heap.size + 1) w5).setCell ⟨w.heap.size + 1, 0, none⟩ (.inr rfl) _).setCell ⟨w.heap.size, 0, none⟩ (.inl rfl) _).setCell ⟨w.heap.size, 1, none⟩ (.inl rfl) _).setCell ⟨w.heap.size, 2, none⟩ (.inl rfl) _
      have := hq _ hn
      generalize (((w5.setCell ⟨w.heap.size + 1, 0, none⟩ (.iface 66 v)).setCell ⟨w.heap.size, 0, none⟩ (.int .i64 0)).setCell ⟨w.heap.size, 1, none⟩ (.string (ByteArray.mk #[]))).setCell ⟨w.heap.size, 2, none⟩ (.slice none 0 0) = w6 at *
      simp [Leaves, settle, results, Tryd.results16, go_sem, k0, k1, k2, k3]
      exact this
  · obtain ⟨c0, z0⟩ := hh.e0
    have hw : (w4.setCell ⟨w.heap.size + 1, 0, none⟩ (.iface 66 v)).cell? ⟨w.heap.size + 1, 0, none⟩ = some (.iface 66 v) := World.cell?_setCell_same' _ _ _ (by simp [c0])
    have hh1 := hh.setE (v := .iface 66 v)
    have hh2 := hh1.setL (y0 := .int .i64 0) (y1 := .string (ByteArray.mk #[])) (y2 := .slice none 0 0)
    simp [bodyPostD, Leaves, settle, go_sem]
    refine ⟨33, _, ⟨rfl, rfl⟩, (Mk.catch_pan _ v w4 .nilIface c0 z0).mono ?_⟩
    rintro e u w5 ⟨rfl, rfl, rfl⟩
    simp
    refine ⟨32, _, ⟨rfl, rfl⟩, (Mk.clos_err _ _ _ _ v _ 31 hw hh1.l rfl).mono ?_⟩
    rintro e u w5 ⟨rfl, rfl, rfl⟩
    simp [putCells]
    obtain ⟨k0, k1, k2, j0, j1, j2⟩ := hh2.c0
    obtain ⟨k3, j3⟩ := hh2.e0
    have hn : Near w.heap.size (w.heap.size + 1) w4 ((((w4.setCell ⟨w.heap.size + 1, 0, none⟩ (.iface 66 v)).setCell ⟨w.heap.size, 0, none⟩ (.int .i64 0)).setCell ⟨w.heap.size, 1, none⟩ (.string (ByteArray.mk #[]))).setCell ⟨w.heap.size, 2, none⟩ (.slice none 0 0)) :=
      ((((Near.refl w.heap.size (w.heap.size + 1) w4).setCell ⟨w.heap.size + 1, 0, none⟩ (.inr rfl) _).setCell ⟨w.heap.size, 0, none⟩ (.inl rfl) _).setCell ⟨w.heap.size, 1, none⟩ (.inl rfl) _).setCell ⟨w.heap.size, 2, none⟩ (.inl rfl) _
    have := hq _ hn
    generalize (((w4.setCell ⟨w.heap.size + 1, 0, none⟩ (.iface 66 v)).setCell ⟨w.heap.size, 0, none⟩ (.int .i64 0)).setCell ⟨w.heap.size, 1, none⟩ (.string (ByteArray.mk #[]))).setCell ⟨w.heap.size, 2, none⟩ (.slice none 0 0) = w5 at *
    simp [Leaves, settle, results, Tryd.results16, go_sem, k0, k1, k2, k3]
    exact this
end Go.Proofs
end
section
namespace Go.Ab
open Go.RowKit Go.Proofs

/-- The parse's two cells: they lie there, nobody holds them, nothing of them is settled. -/
structure Kp (B : Nat) (G : Gh) (w : World) (x y : Array Value) : Prop where
  has : Mk.Has B x y w
  oa : G.owner B = none
  ob : G.owner (B + 1) = none
  la : G.lim B = 0
  lb : G.lim (B + 1) = 0
theorem Kp.lt {B : Nat} {G : Gh} {w : World} {x y : Array Value} (h : Kp B G w x y) : B + 1 < w.heap.size := by
  have := h.has.e
  exact (Array.getElem?_eq_some_iff.1 this).1
theorem Kp.ext {B : Nat} {G G' : Gh} {w w' : World} {x y : Array Value} (h : Kp B G w x y) (e : Ext G w G' w') : Kp B G' w' x y := by
  have hl := h.lt
  obtain ⟨a1, a2, a3⟩ := e.old B (by omega) h.oa
  obtain ⟨b1, b2, b3⟩ := e.old (B + 1) hl h.ob
  exact ⟨⟨by rw [a1]; exact h.has.l, by rw [b1]; exact h.has.e⟩, a3, b3, by rw [a2]; exact h.la, by rw [b2]; exact h.lb⟩

def Mk.zlvV : V := .agg [.int .i64 0, .str (ByteArray.mk #[]), .slice 3 31 []]
def Mk.lvV (k : Int) (n : ByteArray) (a : V) : V := .agg [.int .i64 k, .str n, a]
def Mk.asLv (v : V) : Option (Int × ByteArray × V) := match v with
  | .agg [.int .i64 k, .str n, a] => if slv a = true then some (k, n, a) else none
  | _ => none
theorem Mk.asLv_inv {v : V} {x : Int × ByteArray × V} (h : Mk.asLv v = some x) : v = Mk.lvV x.1 x.2.1 x.2.2 ∧ slv x.2.2 = true := by
  unfold Mk.asLv at h
  split at h
  · split at h
    · obtain rfl := Option.some.inj h; exact ⟨rfl, by assumption⟩
    · simp at h
  · simp at h
def fc2 : List Cell := [(.int .i64 2, false), (.int .i64 0, false)]
/-- What a panic that is caught comes to. -/
def Mk.caught (v : V) (σ : Sto) : Option Res := match v with
  | .iface t x => if t = 66 then some (.ret [(Mk.zlvV, false), (.iface 66 x, false)], σ) else none
  | _ => none
theorem Mk.caught_inv {v : V} {σ : Sto} {r : Res} (h : Mk.caught v σ = some r) : ∃ x, v = .iface 66 x ∧ r = (.ret [(Mk.zlvV, false), (.iface 66 x, false)], σ) := by
  unfold Mk.caught at h
  split at h
  · split at h
    · rename_i t x ht; subst ht; exact ⟨x, rfl, (Option.some.inj h).symm⟩
    · simp at h
  · simp at h
/-- The end's call. -/
def Mk.parse5 (l : V) : Option Res → Option Res
  | some (.ret [], σ) => some (.ret [(l, false), (.nilIface, false)], σ)
  | some (.pan v, σ) => Mk.caught v σ
  | _ => none
/-- The level's call. -/
def Mk.parse4 (call : CallF) (q : V) : Option Res → Option Res
  | some (.ret [(l, _)], σ) => (Mk.asLv l).bind fun _ => Mk.parse5 l (call 36 [(q, false)] σ)
  | some (.pan v, σ) => Mk.caught v σ
  | _ => none
/-- The scanner's call. -/
def Mk.parse3 (call : CallF) : Option Res → Option Res
  | some (.ret [(.ptr t b o, _)], σ) => Mk.parse4 call (.ptr t b o) (call 35 [(.ptr t b o, false)] σ)
  | _ => none
def Mk.parseS (call : CallF) (args : List Cell) (σ : Sto) : Option Res :=
  match args with
  | [(.str s, _)] =>
    if (s.size : Int) > 20000 then some (.ret [(Mk.zlvV, false), (.iface 66 (.ptr 33 σ.length 0), false)], σ ++ [fc2])
    else Mk.parse3 call (call 34 [(.str s, false)] σ)
  | _ => none

section
variable {C : Ctx} {call : CallF}

theorem rel_zlv (G : Gh) (w : World) : Rel G w Mk.zlvV (.agg #[.int .i64 0, .string (ByteArray.mk #[]), .slice none 0 0]) := by
  refine Rel.agg _ [.int .i64 0, .string (ByteArray.mk #[]), .slice none 0 0] rfl ?_ ?_
  · intro i x hx
    match i with
    | 0 => simp at hx; subst hx; rfl
    | 1 => simp at hx; subst hx; rfl
    | 2 => simp at hx; subst hx; rfl
    | i + 3 => simp at hx
  · intro i v x hv hx
    match i with
    | 0 => simp at hx hv; subst hx; subst hv; exact .int _ _
    | 1 => simp at hx hv; subst hx; subst hv; exact .str _
    | 2 => simp at hx hv; subst hx; subst hv; exact .snil _ _
    | i + 3 => simp at hx
theorem rel_lv {G : Gh} {w : World} {k : Int} {n : ByteArray} {a : V} {c : Value} (ha : slv a = true) (h : Rel G w (Mk.lvV k n a) c) : ∃ x0 x1 x2, c = .agg #[x0, x1, x2] ∧ Mk.Shp x0 x1 x2 := by
  cases h with
  | agg _ xs h1 h2 h3 =>
    obtain ⟨x0, x1, x2, rfl⟩ : ∃ x0 x1 x2, xs = [x0, x1, x2] := by
      match xs, h1 with
      | [x0, x1, x2], _ => exact ⟨x0, x1, x2, rfl⟩
    refine ⟨x0, x1, x2, rfl, ?_⟩
    have r0 := h3 0 _ _ rfl rfl
    have r1 := h3 1 _ _ rfl rfl
    have r2 := h3 2 _ _ rfl rfl
    cases r0
    cases r1
    unfold slv at ha
    split at ha
    · cases r2 <;> exact .mk _ _ _ _ _
    · cases r2; exact .mk _ _ _ _ _
    · simp at ha

theorem parse_ok (hcall : CallOk Tryd.prog C call) (henter : ∀ (args : Array Value) (w : World), (callFunc 16 args).run Tryd.prog w = .ok (.enter 16 args) w) :
    CallOk Tryd.prog C (fun g args σ => if g = 16 then Mk.parseS call args σ else none) := by
  intro g args σ r h
  simp only at h
  split at h
  case isFalse => simp at h
  rename_i hg
  subst hg
  refine ⟨henter, fun G w vals hS hcl hlen hv => ?_⟩
  unfold Mk.parseS at h
  split at h
  case h_2 => simp at h
  rename_i s ow
  obtain ⟨x, rfl⟩ : ∃ x, vals = [x] := by
    match vals, hlen with
    | [x], _ => exact ⟨x, rfl⟩
  have hx := (hv 0 _ x rfl rfl).1
  simp only at hx
  cases hx with
  | str =>
  have I1 := ((sinv_inv hS).alloc (.cells #[.int .i64 0, .string (ByteArray.mk #[]), .slice none 0 0] 31) 0 none)
  have E1 := Ext.alloc hS.wf (.cells #[.int .i64 0, .string (ByteArray.mk #[]), .slice none 0 0] 31) 0 none
  split at h
  · rename_i hb
    obtain rfl := Option.some.inj h
    have I2 := I1.alloc (.cells #[.iface 66 (.pointer (some ⟨w.heap.size + 1 + 1, 0, none⟩))] 44) 0 none
    have E2 := Ext.alloc I1.sto.wf (.cells #[.iface 66 (.pointer (some ⟨w.heap.size + 1 + 1, 0, none⟩))] 44) 0 none
    obtain ⟨G3, E3, I3, n3, m3, t3⟩ := I2.newSto (C := { C with glob := C.glob }) fc2 #[.int .i64 2, .int .i64 0] 33 rfl (fun j c x hc hx => by
      match j with
      | 0 => simp [fc2] at hc hx; subst hc; subst hx; exact ⟨⟨.int _ _, fun ho => by simp at ho⟩, rfl⟩
      | 1 => simp [fc2] at hc hx; subst hc; subst hx; exact ⟨⟨.int _ _, fun ho => by simp at ho⟩, rfl⟩
      | j + 2 => simp [fc2] at hc)
    refine (Mk.parse_long s w hb).mono fun en w' ⟨he, hw⟩ => ?_
    subst he; subst hw
    refine ⟨G3, (E1.trans E2).trans E3, I3.sto, end_two (rel_zlv _ _) (.iface 66 _ _ ?_)⟩
    have hp := Rel.ptr (G := G3) (w := ((w.alloc (.cells #[.int .i64 0, .string (ByteArray.mk #[]), .slice none 0 0] 31)).alloc (.cells #[.iface 66 (.pointer (some ⟨w.heap.size + 1 + 1, 0, none⟩))] 44)).alloc (.cells #[.int .i64 2, .int .i64 0] 33)) 33 σ.length 0 (by rw [n3]; simp) t3
    have hm : G3.μ σ.length = w.heap.size + 1 + 1 := by rw [show σ.length = _ from rfl, m3]; simp
    rw [hm] at hp
    exact hp
  · rename_i hb
    have I2 := I1.alloc (.cells #[.nilIface] 44) 0 none
    have E2 := E1.trans (Ext.alloc I1.sto.wf (.cells #[.nilIface] 44) 0 none)
    have K1 : Kp w.heap.size ((G.new w 0 none).new (w.alloc (.cells #[.int .i64 0, .string (ByteArray.mk #[]), .slice none 0 0] 31)) 0 none)
        ((w.alloc (.cells #[.int .i64 0, .string (ByteArray.mk #[]), .slice none 0 0] 31)).alloc (.cells #[.nilIface] 44)) #[.int .i64 0, .string (ByteArray.mk #[]), .slice none 0 0] #[.nilIface] := by
      have hw0 := hS.wf w.heap.size (Nat.le_refl _)
      refine ⟨⟨?_, ?_⟩, ?_, ?_, ?_, ?_⟩
      · rw [heap_alloc_lt (by simp)]; exact heap_alloc_new _ _
      · have := heap_alloc_new (w.alloc (.cells #[.int .i64 0, .string (ByteArray.mk #[]), .slice none 0 0] 31)) (.cells #[.nilIface] 44)
        simpa using this
      · simp [Gh.new, upd]
      · simp [Gh.new, upd]
      · simp [Gh.new, upd]
      · simp [Gh.new, upd]
    have C1 : Clean ((G.new w 0 none).new (w.alloc (.cells #[.int .i64 0, .string (ByteArray.mk #[]), .slice none 0 0] 31)) 0 none) 1 := by
      intro i p hp
      simp only [Gh.new, upd] at hp
      split at hp
      · simp at hp
      · split at hp
        · simp at hp
        · exact hcl i p hp
    have S1 := I2.sto
    generalize hG1 : (G.new w 0 none).new (w.alloc (.cells #[.int .i64 0, .string (ByteArray.mk #[]), .slice none 0 0] 31)) 0 none = G1 at *
    have B1 := E2.toB (Nat.le_refl w.heap.size)
    generalize hr34 : call 34 [(.str s, false)] σ = r34 at h
    unfold Mk.parse3 at h
    split at h
    case h_2 => simp at h
    rename_i t b o ow3 σ3
    refine Mk.parse_short s w hb _ ?_
    refine ((hcall 34 _ _ _ hr34).2 G1 _ [.string s] S1 C1 rfl (fun i c x hc hx => by
      match i with
      | 0 => simp at hc hx; subst hc; subst hx; exact ⟨.str _, fun ho => by simp at ho⟩
      | i + 1 => simp at hc)).mono fun e w3 hh => ?_
    obtain ⟨G3, E3, S3, cs, hcl3, rfl, hrel⟩ := hh
    obtain ⟨c3, rfl⟩ : ∃ c, cs = [c] := by
      match cs, hcl3 with
      | [c], _ => exact ⟨c, rfl⟩
    have hp3 := (hrel 0 _ _ rfl rfl).1
    simp only at hp3
    have hp3' := hp3
    cases hp3 with
    | ptr _ _ _ hbN hty =>
    refine ⟨⟨G3.μ b, o, none⟩, by simp, ?_⟩
    have K3 := (K1.ext E3).ext (Gh.bare_ext (G := G3))
    have B3 := (B1.trans (E3.toB (by simp; omega))).trans ((Gh.bare_ext (G := G3)).toB (by have := K3.lt; omega))
    have S3' := S3.bare
    have R3 := hp3'.mono (Gh.bare_ext (G := G3) (w := w3))
    clear hp3' E3 S3 hrel
    generalize hr35 : call 35 [(.ptr t b o, false)] σ3 = r35 at h
    unfold Mk.parse4 at h
    split at h
    case h_3 => simp at h
    · rename_i l owl σ4
      obtain ⟨lx, hlx, h⟩ := bind2 h
      obtain ⟨rfl, hsl⟩ := Mk.asLv_inv hlx
      have H35 := (hcall 35 _ _ _ hr35).2 G3.bare w3 [.pointer (some ⟨G3.μ b, o, none⟩)] S3' (Gh.bare_clean _) rfl (fun i c x hc hx => by
        match i with
        | 0 => simp at hc hx; subst hc; subst hx; exact ⟨R3, fun ho => by simp at ho⟩
        | i + 1 => simp at hc)
      refine H35.mono fun e w4 hh => ?_
      obtain ⟨G4, E4, S4, cs, hcl4, rfl, hrel⟩ := hh
      obtain ⟨c4, rfl⟩ : ∃ c, cs = [c] := by
        match cs, hcl4 with
        | [c], _ => exact ⟨c, rfl⟩
      have hl4 := (hrel 0 _ _ rfl rfl).1
      simp only at hl4
      obtain ⟨x0, x1, x2, rfl, hshp⟩ := rel_lv hsl hl4
      have K4 := (K3.ext E4)
      have B4 := B3.trans (E4.toB (by have := K3.lt; omega))
      refine .inl ⟨x0, x1, x2, by simp, hshp, K4.has, fun w4' hn hhas => ?_⟩
      have K4' : Kp w.heap.size G4.bare w4' #[x0, x1, x2] #[.nilIface] := ⟨hhas, Gh.bare_none K4.oa, Gh.bare_none K4.ob, K4.la, K4.lb⟩
      have S4' := (hn.sinv K4.la K4.lb K4.oa K4.ob S4).bare
      have B4' := (B4.trans (hn.extB K4.la K4.lb (Nat.le_refl _) (by omega))).trans ((Gh.bare_ext (G := G4)).toB (by have := K4'.lt; omega))
      have R4 := (hn.rel K4.la K4.lb (R3.mono E4)).mono (Gh.bare_ext (G := G4) (w := w4'))
      have hl4' := (hn.rel K4.la K4.lb hl4).mono (Gh.bare_ext (G := G4) (w := w4'))
      generalize hr36 : call 36 [(.ptr t b o, false)] σ4 = r36 at h
      have H36 : ∀ r, call 36 [(.ptr t b o, false)] σ4 = some r → _ := fun r hr => (hcall 36 _ _ r hr).2 G4.bare w4' [.pointer (some ⟨G3.μ b, o, none⟩)] S4' (Gh.bare_clean _) rfl (fun i c x hc hx => by
        match i with
        | 0 => simp at hc hx; subst hc; subst hx; exact ⟨R4, fun ho => by simp at ho⟩
        | i + 1 => simp at hc)
      unfold Mk.parse5 at h
      split at h
      case h_3 => simp at h
      · rename_i σ5
        obtain rfl := Option.some.inj h
        refine (H36 _ hr36).mono fun e w5 hh => ?_
        obtain ⟨G5, E5, S5, cs, hcl5, rfl, hrel5⟩ := hh
        obtain rfl : cs = [] := List.length_eq_zero_iff.1 hcl5
        have K5 := K4'.ext E5
        have B5 := B4'.trans (E5.toB (by have := K4'.lt; omega))
        refine .inl ⟨by simp, K5.has, fun w6 hn6 => ⟨G5, (B5.trans (hn6.extB K5.la K5.lb (Nat.le_refl _) (by omega))).toExt, hn6.sinv K5.la K5.lb K5.oa K5.ob S5, ?_⟩⟩
        exact end_two (hn6.rel K5.la K5.lb (hl4'.mono E5)) .nilIface
      · rename_i v σ5
        obtain ⟨x, rfl, rfl⟩ := Mk.caught_inv h
        refine (H36 _ hr36).mono fun e w5 hh => ?_
        obtain ⟨G5, E5, S5, c5, rfl, hrel5⟩ := hh
        have K5 := K4'.ext E5
        have B5 := B4'.trans (E5.toB (by have := K4'.lt; omega))
        cases hrel5 with
        | iface _ _ cx hcx =>
        refine .inr ⟨cx, rfl, K5.has, fun w6 hn6 => ⟨G5, (B5.trans (hn6.extB K5.la K5.lb (Nat.le_refl _) (by omega))).toExt, hn6.sinv K5.la K5.lb K5.oa K5.ob S5, ?_⟩⟩
        exact end_two (rel_zlv _ _) (.iface _ _ _ (hn6.rel K5.la K5.lb hcx))
    · rename_i v σ4
      obtain ⟨x, rfl, rfl⟩ := Mk.caught_inv h
      have H35 := (hcall 35 _ _ _ hr35).2 G3.bare w3 [.pointer (some ⟨G3.μ b, o, none⟩)] S3' (Gh.bare_clean _) rfl (fun i c x hc hx => by
        match i with
        | 0 => simp at hc hx; subst hc; subst hx; exact ⟨R3, fun ho => by simp at ho⟩
        | i + 1 => simp at hc)
      refine H35.mono fun e w4 hh => ?_
      obtain ⟨G4, E4, S4, c4, rfl, hrel4⟩ := hh
      have K4 := (K3.ext E4)
      have B4 := B3.trans (E4.toB (by have := K3.lt; omega))
      cases hrel4 with
      | iface _ _ cx hcx =>
      refine .inr ⟨cx, rfl, K4.has, fun w6 hn6 => ⟨G4, (B4.trans (hn6.extB K4.la K4.lb (Nat.le_refl _) (by omega))).toExt, hn6.sinv K4.la K4.lb K4.oa K4.ob S4, ?_⟩⟩
      exact end_two (rel_zlv _ _) (.iface _ _ _ (hn6.rel K4.la K4.lb hcx))
end
end Go.Ab
end
section
namespace Go.Ab.Mk
open Go.Proofs Go.Ab

/-- The fault that was handed back: none, or a place of the store with its code and its place. -/
def ErrOk (err : V) (σ : Sto) (c a : Int) : Prop := (c = 0 ∧ err = .nilIface) ∨ ∃ b, err = .iface 66 (.ptr 33 b 0) ∧ σ[b]? = some (fcell c a)
theorem ErrOk.more {err : V} {σ : Sto} {c a : Int} (h : ErrOk err σ c a) (σ' : Sto) : ErrOk err (σ ++ σ') c a := by
  rcases h with h | ⟨b, h1, h2⟩
  · exact .inl h
  · exact .inr ⟨b, h1, by rw [List.getElem?_append_left (List.getElem?_eq_some_iff.1 h2).1]; exact h2⟩

theorem newScanner_law {s : ByteArray} (hs : s.size < 2 ^ 61) (σ : Sto) : lim C 34 [(.str s, false)] σ = some (.ret [(.ptr 90 σ.length 0, false)], σ ++ [(stepV s 0).cells s]) :=
  newScanner_lim (n := 0) <| by
    have h := step_law (σ := σ ++ [[]]) (r := σ.length) (by simp) hs (st := ⟨0, ByteArray.mk #[], 0⟩) (Nat.zero_le _)
    have hg : ∀ x : List Cell, (σ ++ [[]]).set σ.length x = σ ++ [x] := fun x => by rw [List.set_append_right _ _ (Nat.le_refl _)]; simp
    rw [hg, hg] at h
    have e0 : [((V.str s), false), ((V.int .i64 (0 : Int)), false), ((V.str (ByteArray.mk #[])), false), ((V.int .i64 (0 : Int)), false)] = SC.cells s ⟨0, ByteArray.mk #[], 0⟩ := rfl
    simp only [newScanner, newScannerF, e0, callK_ret0 h]

theorem rdone_stuck {s : ByteArray} {st : RS} (h : st.c ≠ 0) : rdoneV s st = st := by
  have h1 : (st.c == 0) = false := by simpa using h
  unfold rdoneV rfailV
  simp only [h1, cond_false]
  cases (!(tokV s st.p).ok || !isNo (tokV s st.p).t) <;> simp only [cond_true, cond_false]

theorem asLv_lv (l : Lv) : asLv (.agg [.int .i64 l.kind, .str l.name, .slice 3 31 l.args]) = some (l.kind, l.name, .slice 3 31 l.args) := rfl

theorem parse_law2 (s : ByteArray) (hs : s.size < 2 ^ 61) (σ : Sto) : ∃ err σ', parseS (lim C) [(.str s, false)] σ = some (.ret [(.agg [.int .i64 (parseV s).1.kind, .str (parseV s).1.name, .slice 3 31 (parseV s).1.args], false), (err, false)], σ') ∧ ErrOk err σ' (parseV s).2.1 (parseV s).2.2 ∧ ((parseV s).2.1 = 0 → err = .nilIface) := by
  by_cases hb : (s.size : Int) > 20000
  · have hv : parseV s = (.zero, 2, 0) := by unfold parseV; rw [decide_eq_true hb]; rfl
    rw [hv]
    refine ⟨.iface 66 (.ptr 33 σ.length 0), σ ++ [fc2], ?_, .inr ⟨σ.length, rfl, ?_⟩, fun h => absurd h (by decide)⟩
    · simp only [parseS, if_pos hb]; rfl
    · simp [fc2, fcell]
  · have e34 := newScanner_law hs σ
    have hx := slevel_law hs (s.size + 1) 0 (σ ++ [[]]) σ.length (by simp) (Nat.zero_le _) (by omega)
    have hg : ∀ x : List Cell, (σ ++ [[]]).set σ.length x = σ ++ [x] := fun x => by rw [List.set_append_right _ _ (Nat.le_refl _)]; simp
    have hv : parseV s = (let x := rlevelV (s.size + 1) s ⟨0, 0, 0⟩; let d := rdoneV s x.2; bif d.c != 0 then (.zero, d.c, d.a) else (x.1, d.c, d.a)) := by unfold parseV; rw [decide_eq_false hb]; rfl
    rw [hv]
    generalize rlevelV (s.size + 1) s ⟨0, 0, 0⟩ = x at hx
    simp only
    have hl : ∀ y : List Cell, (σ ++ [y]).length = (σ ++ [[]]).length := fun y => by simp
    rcases hx with ⟨h1, h2, h3, h4, h5⟩ | ⟨h1, cs, h5⟩
    · rw [hg, hg] at h5
      have hsd := send_law (σ := σ ++ [[]]) (r := σ.length) (by simp) (s := s) h3
      rw [hg, ← rs_eta h1 h2] at hsd
      rcases hsd with ⟨k1, k2⟩ | ⟨k1, k2⟩
      · have hc : ((rdoneV s x.2).c != 0) = false := by simp [k1]
        rw [hc]
        refine ⟨.nilIface, σ ++ [(stepV s x.2.p).cells s], ?_, .inl ⟨k1, rfl⟩, fun _ => rfl⟩
        simp only [parseS, if_neg hb, e34, parse3, h5, parse4, asLv_lv, Option.bind_some, k2, parse5, cond_false]
      · have hc : ((rdoneV s x.2).c != 0) = true := by simp [k1]
        rw [hc]
        refine ⟨.iface 66 (.ptr 33 (σ ++ [(stepV s x.2.p).cells s]).length 0), σ ++ [(stepV s x.2.p).cells s] ++ [fcell 1 (rdoneV s x.2).a], ?_, .inr ⟨(σ ++ [(stepV s x.2.p).cells s]).length, rfl, ?_⟩, fun h => by simp [k1] at h⟩
        · simp only [parseS, if_neg hb, e34, parse3, h5, parse4, asLv_lv, Option.bind_some, k2, parse5, caught, if_true, cond_true, hl (SC.cells s (stepV s x.2.p))]
          rfl
        · simp [k1]
    · rw [hg, hg] at h5
      have hd : rdoneV s x.2 = x.2 := rdone_stuck (by rw [h1]; decide)
      have hc : (x.2.c != 0) = true := by simp [h1]
      rw [hd, hc]
      refine ⟨.iface 66 (.ptr 33 (σ ++ [cs]).length 0), σ ++ [cs] ++ [fcell 1 x.2.a], ?_, .inr ⟨(σ ++ [cs]).length, rfl, ?_⟩, fun h => by simp [h1] at h⟩
      · simp only [parseS, if_neg hb, e34, parse3, h5, parse4, caught, if_true, cond_true, hl cs]
        rfl
      · simp [h1]
theorem parse_law (s : ByteArray) (hs : s.size < 2 ^ 61) (σ : Sto) : ∃ err σ', parseS (lim C) [(.str s, false)] σ = some (.ret [(.agg [.int .i64 (parseV s).1.kind, .str (parseV s).1.name, .slice 3 31 (parseV s).1.args], false), (err, false)], σ') ∧ ErrOk err σ' (parseV s).2.1 (parseV s).2.2 := by
  obtain ⟨err, σ', h1, h2, _⟩ := parse_law2 s hs σ
  exact ⟨err, σ', h1, h2⟩
end Go.Ab.Mk
end
section
namespace Go.Ab.Mk
open Go.Proofs Go.Ab

/-- A string of bytes. -/
def kidsL : List Lv → List UInt8
  | [] => [41]
  | c :: L => 32 :: (printL c ++ kidsL L)
theorem write_loop (call : CallF) (n : Nat) {L : List Lv} (hb : L.length < 2 ^ 61) (b : Nat)
    (h1 : ∀ (σ : Sto) (X : List UInt8) (c : UInt8), σ[b]? = some (bcell b true X) → X.length + 1 < 2 ^ 34 → call 49 [(.ptr 63 b 0, false), (.int .u8 (c.toNat : Int), false)] σ = some (.ret [(.nilIface, false)], σ.set b (bcell b true (X ++ [c]))))
    (h : ∀ d ∈ L, ∀ (σ : Sto) (X : List UInt8), σ[b]? = some (bcell b true X) → X.length + (printL d).length < 2 ^ 34 →
      call 30 [(.ptr 63 b 0, false), (.agg [.int .i64 d.kind, .str d.name, .slice 3 31 d.args], false)] σ = some (.ret [], σ.set b (bcell b true (X ++ printL d)))) :
    ∀ (m i : Nat) (X : List UInt8) (σ : Sto), i ≤ L.length → L.length - i < m → X.length + (kidsL (L.drop i)).length < 2 ^ 34 → σ[b]? = some (bcell b true X) →
      writel0 call n m b (L.map Lv.enc) L.length i σ = some (.ret [], σ.set b (bcell b true (X ++ kidsL (L.drop i))))
  | 0, i, _, _, _, hm, _, _ => by omega
  | m + 1, i, X, σ, hi, hm, hs, hσ => by
    show writes0 call (writel0 call n m) b (L.map Lv.enc) L.length i σ = _
    unfold writes0
    rw [List.length_map]
    obtain ⟨hblt, hget⟩ := List.getElem?_eq_some_iff.1 hσ
    by_cases hlt : i < L.length
    · have hc := List.getElem?_eq_getElem hlt
      rw [drop_cons hc] at hs
      simp only [kidsL, List.length_cons, List.length_append] at hs
      have e1 : call 49 [(.ptr 63 b 0, false), (.int .u8 32, false)] σ = some (.ret [(.nilIface, false)], σ.set b (bcell b true (X ++ [32]))) := h1 σ X 32 hσ (by omega)
      have e2 := h _ (List.getElem_mem hlt) (σ.set b (bcell b true (X ++ [32]))) (X ++ [32]) (by simp [hblt]) (by simp; omega)
      rw [d0, dlt hlt, kid_get hc, L[i].cells, drop_cons hc]
      simp only [cond_true, Bool.and_self, grd, Option.bind_some, callK_ret1 e1, callK_ret0 e2, wrap_succ (show i < 2 ^ 61 by omega), kidsL]
      rw [write_loop call n hb b h1 h m (i + 1) (X ++ [32] ++ printL L[i]) _ (by omega) (by omega) (by simp; omega) (by simp [hblt])]
      simp [List.set_set]
    · rw [dnlt hlt, List.drop_eq_nil_of_le (by omega)]
      rw [List.drop_eq_nil_of_le (by omega)] at hs
      simp only [kidsL, List.length_cons, List.length_nil] at hs
      have e1 : call 49 [(.ptr 63 b 0, false), (.int .u8 41, false)] σ = some (.ret [(.nilIface, false)], σ.set b (bcell b true (X ++ [41]))) := h1 σ X 41 hσ (by omega)
      simp only [cond_false, callK_ret1 e1, kidsL]
theorem write_law (b : Nat) : ∀ (l : Lv) (σ : Sto) (u : Bool) (X : List UInt8), σ[b]? = some (bcell b u X) → X.length + (printL l).length < 2 ^ 34 →
    lim C 30 [(.ptr 63 b 0, false), (.agg [.int .i64 l.kind, .str l.name, .slice 3 31 l.args], false)] σ = some (.ret [], σ.set b (bcell b true (X ++ printL l))) :=
  Lv.ind fun l ih σ u X hσ hb => write_lim (n := 4) <| by
    obtain ⟨hblt, hget⟩ := List.getElem?_eq_some_iff.1 hσ
    have hlen : (l.args.length : Int) = (l.kids.length : Int) := by simp [Lv.args]
    have loop := fun (X : List UInt8) (σ : Sto) (h1 : X.length + (kidsL l.kids).length < 2 ^ 34) (h2 : σ[b]? = some (bcell b true X)) =>
      write_loop (lim C) 4 (L := l.kids) (by have := kids_few l; omega) b (fun σ X c h1 h2 => wbyte_law h1 c h2) (fun d hd σ X h1 h2 => ih d hd σ true X h1 h2) 4 0 X σ (by omega) (by have := kids_few l; omega) (by simpa using h1) h2
    simp only [List.drop_zero] at loop
    cases l with
    | zero =>
      have h1 := wstring_law hσ [48] (by simpa [printL] using hb)
      have e1 : ByteArray.mk #[48] = ba [48] := rfl
      simp only [write, writeF, Lv.kind, beq_self_eq_true, cond_true, e1, callK_ret2 h1, printL]
    | param s =>
      have h1 := wstring_law hσ s.data.toList (by simpa [printL] using hb)
      rw [ba_of] at h1
      simp only [write, writeF, Lv.kind, Lv.name, callK_ret2 h1, printL]
      rfl
    | succ l =>
      have h1 := wstring_law hσ [40, 115] (by simp [printL] at hb ⊢; omega)
      have h2 := loop (X ++ [40, 115]) (σ.set b (bcell b true (X ++ [40, 115]))) (by simp [Lv.kids, kidsL, printL] at hb ⊢; omega) (by simp [hblt])
      have e1 : ByteArray.mk #[40] = ba [40] := rfl
      have e2 : ByteArray.mk #[115] = ba [115] := rfl
      have hm : (memGet [] (V.eptr 4 [(V.str (ByteArray.mk #[])), (V.str (ByteArray.mk #[115])), (V.str (ByteArray.mk #[109, 97, 120])), (V.str (ByteArray.mk #[105, 109, 97, 120]))] (0 + Int.toNat (1 : Int) * 1)) false 1) = some (V.str (ba [115])) := rfl
      have hr : strRoom (ba [40]) (ba [115]) = true := strRoom_ok (by simp [ba_size])
      have h1' : callK (lim C) 48 [(.ptr 63 b 0, false), (.str (ba ([40] ++ [115])), false)] σ 2 = fun K KP => K [(.int .i64 ([40, 115] : List UInt8).length, false), (.nilIface, false)] (σ.set b (bcell b true (X ++ [40, 115]))) := by
        funext K KP; exact callK_ret2 h1
      simp only [write, writeF, Lv.kind, Int.reduceBEq, cond_false, hm, e1, Option.bind_some, V.asStr, hr, ba_append, h1']
      rw [hlen]
      simp only [Lv.args]
      refine Eq.trans (show _ = _ from h2) ?_
      simp [List.set_set, Lv.kids, kidsL, printL]
    | max x y =>
      have h1 := wstring_law hσ [40, 109, 97, 120] (by simp [printL] at hb ⊢; omega)
      have h2 := loop (X ++ [40, 109, 97, 120]) (σ.set b (bcell b true (X ++ [40, 109, 97, 120]))) (by simp [Lv.kids, kidsL, printL] at hb ⊢; omega) (by simp [hblt])
      have e1 : ByteArray.mk #[40] = ba [40] := rfl
      have hm : (memGet [] (V.eptr 4 [(V.str (ByteArray.mk #[])), (V.str (ByteArray.mk #[115])), (V.str (ByteArray.mk #[109, 97, 120])), (V.str (ByteArray.mk #[105, 109, 97, 120]))] (0 + Int.toNat (2 : Int) * 1)) false 1) = some (V.str (ba [109, 97, 120])) := rfl
      have hr : strRoom (ba [40]) (ba [109, 97, 120]) = true := strRoom_ok (by simp [ba_size])
      have h1' : callK (lim C) 48 [(.ptr 63 b 0, false), (.str (ba ([40] ++ [109, 97, 120])), false)] σ 2 = fun K KP => K [(.int .i64 ([40, 109, 97, 120] : List UInt8).length, false), (.nilIface, false)] (σ.set b (bcell b true (X ++ [40, 109, 97, 120]))) := by
        funext K KP; exact callK_ret2 h1
      simp only [write, writeF, Lv.kind, Int.reduceBEq, cond_false, hm, e1, Option.bind_some, V.asStr, hr, ba_append, h1']
      rw [hlen]
      simp only [Lv.args]
      refine Eq.trans (show _ = _ from h2) ?_
      simp [List.set_set, Lv.kids, kidsL, printL]
    | imax x y =>
      have h1 := wstring_law hσ [40, 105, 109, 97, 120] (by simp [printL] at hb ⊢; omega)
      have h2 := loop (X ++ [40, 105, 109, 97, 120]) (σ.set b (bcell b true (X ++ [40, 105, 109, 97, 120]))) (by simp [Lv.kids, kidsL, printL] at hb ⊢; omega) (by simp [hblt])
      have e1 : ByteArray.mk #[40] = ba [40] := rfl
      have hm : (memGet [] (V.eptr 4 [(V.str (ByteArray.mk #[])), (V.str (ByteArray.mk #[115])), (V.str (ByteArray.mk #[109, 97, 120])), (V.str (ByteArray.mk #[105, 109, 97, 120]))] (0 + Int.toNat (3 : Int) * 1)) false 1) = some (V.str (ba [105, 109, 97, 120])) := rfl
      have hr : strRoom (ba [40]) (ba [105, 109, 97, 120]) = true := strRoom_ok (by simp [ba_size])
      have h1' : callK (lim C) 48 [(.ptr 63 b 0, false), (.str (ba ([40] ++ [105, 109, 97, 120])), false)] σ 2 = fun K KP => K [(.int .i64 ([40, 105, 109, 97, 120] : List UInt8).length, false), (.nilIface, false)] (σ.set b (bcell b true (X ++ [40, 105, 109, 97, 120]))) := by
        funext K KP; exact callK_ret2 h1
      simp only [write, writeF, Lv.kind, Int.reduceBEq, cond_false, hm, e1, Option.bind_some, V.asStr, hr, ba_append, h1']
      rw [hlen]
      simp only [Lv.args]
      refine Eq.trans (show _ = _ from h2) ?_
      simp [List.set_set, Lv.kids, kidsL, printL]
theorem print_law (σ : Sto) (l : Lv) (hne : printL l ≠ []) (hb : (printL l).length < 2 ^ 33) :
    lim C 15 [(.agg [.int .i64 l.kind, .str l.name, .slice 3 31 l.args], false)] σ = some (.ret [(.str (ba (printL l)), false)], σ ++ [bcell σ.length true (printL l)]) :=
  print_lim (n := 0) <| by
    have h1 := write_law σ.length l (σ ++ [bcell σ.length false []]) false [] (by simp) (by simp; omega)
    have hset : (σ ++ [bcell σ.length false []]).set σ.length (bcell σ.length true ([] ++ printL l)) = σ ++ [bcell σ.length true (printL l)] := by
      rw [List.set_append_right _ _ (Nat.le_refl _)]; simp
    rw [hset] at h1
    have h2 : lim C 31 [(.ptr 63 σ.length 0, false)] (σ ++ [bcell σ.length true (printL l)]) = some (.ret [(.str (ba (printL l)), false)], σ ++ [bcell σ.length true (printL l)]) := by
      refine lim_ext (s := bldStringS 63 5) (by kernel_rfl) ?_
      simp only [bldStringS, if_true]
      rw [show (σ ++ [bcell σ.length true (printL l)])[σ.length]? = some (bcell σ.length true (printL l)) by simp]
      have hn : bytesL (printL l) ≠ [] := by
        intro h0
        have := bytesL_length (printL l)
        rw [h0] at this
        exact hne (List.length_eq_zero_iff.1 this.symm)
      simp only [bcell, cond_true]
      rw [if_pos ⟨trivial, hn, by rw [bytesL_length]; exact room_ok (by omega)⟩, unbytes_bytesL]
      rfl
    have e0 : [(V.nilp, false), ((V.slice 1 5 []), true)] = bcell σ.length false [] := rfl
    simp only [print, printF, e0, callK_ret0 h1, callK_ret1 h2]
    rfl
end Go.Ab.Mk
end
section
namespace Go.Ab.Mk
open Go.Proofs Go.Ab

theorem tl_inj {s t : ByteArray} (h : s.toList = t.toList) : s = t := by
  rw [ByteArray.toList_eq, ByteArray.toList_eq] at h
  apply ByteArray.ext
  exact Array.toList_inj.1 h
theorem has_iff {s : ByteArray} {ps : List ByteArray} : has s ps = true ↔ s ∈ ps := by
  unfold has
  rw [List.any_eq_true]
  constructor
  · rintro ⟨x, hx, he⟩
    have := tl_inj (beq_iff_eq.1 he)
    rw [← this]; exact hx
  · intro h
    exact ⟨s, h, by simp⟩
theorem rparams_mem {s : ByteArray} : ∀ {l : Lv} {ps : List ByteArray}, s ∈ rparamsV l ps ↔ s ∈ ps ∨ s ∈ l.pars
  | .param t, ps => by
    simp only [rparamsV, Lv.pars]
    cases h : has t ps with
    | true => simp only [cond_true]; exact ⟨fun h => .inl h, fun h' => by rcases h' with h' | h'; exact h'; rw [List.mem_singleton] at h'; subst h'; exact has_iff.1 h⟩
    | false => simp
  | .zero, ps => by simp [rparamsV, Lv.pars]
  | .succ l, ps => by simp only [rparamsV, Lv.pars]; exact rparams_mem
  | .max a b, ps => by simp only [rparamsV, Lv.pars, rparams_mem (l := b), rparams_mem (l := a), List.mem_append, or_assoc]
  | .imax a b, ps => by simp only [rparamsV, Lv.pars, rparams_mem (l := b), rparams_mem (l := a), List.mem_append, or_assoc]
theorem rparams_nodup : ∀ {l : Lv} {ps : List ByteArray}, ps.Nodup → (rparamsV l ps).Nodup
  | .param t, ps, h => by
    simp only [rparamsV]
    cases ht : has t ps with
    | true => exact h
    | false =>
      simp only [cond_false]
      refine List.nodup_append.2 ⟨h, by simp, fun a ha b hb => ?_⟩
      rw [List.mem_singleton] at hb
      subst hb
      rintro rfl
      rw [has_iff.2 ha] at ht
      simp at ht
  | .zero, ps, h => h
  | .succ l, ps, h => rparams_nodup (l := l) h
  | .max a b, ps, h => rparams_nodup (l := b) (rparams_nodup (l := a) h)
  | .imax a b, ps, h => rparams_nodup (l := b) (rparams_nodup (l := a) h)
theorem nodup_len {α : Type} [DecidableEq α] : ∀ {l m : List α}, l.Nodup → (∀ x ∈ l, x ∈ m) → l.length ≤ m.length
  | [], _, _, _ => by simp
  | x :: l, m, h, hs => by
    have hx := hs x (List.mem_cons_self ..)
    rw [List.nodup_cons] at h
    have := nodup_len (l := l) (m := m.erase x) h.2 (fun y hy => by
      have hne : y ≠ x := fun e => h.1 (e ▸ hy)
      exact (List.mem_erase_of_ne hne).2 (hs y (List.mem_cons_of_mem _ hy)))
    rw [List.length_erase_of_mem hx] at this
    have hpos : 0 < m.length := List.length_pos_of_mem hx
    simp only [List.length_cons]
    omega
/-- The list that the reference goes by is as long as that which the statement asks of. -/
theorem params_len (a b : Lv) : (rparamsV b (rparamsV a [])).length ≤ (rparamsV a (rparamsV b [])).length :=
  nodup_len (rparams_nodup (rparams_nodup List.nodup_nil)) fun x hx => by
    rw [rparams_mem, rparams_mem] at hx ⊢
    simp only [List.not_mem_nil, false_or] at hx ⊢
    exact hx.symm

theorem val_le {v : ByteArray → Nat} {M : Nat} : ∀ {l : Lv}, (∀ s ∈ l.pars, v s ≤ M) → l.val v ≤ M + l.sucs
  | .zero, _ => by simp [Lv.val]
  | .succ l, h => by have := val_le (l := l) h; simp only [Lv.val, Lv.sucs]; omega
  | .max a b, h => by
    have h1 := val_le (l := a) fun s hs => h s (List.mem_append_left _ hs)
    have h2 := val_le (l := b) fun s hs => h s (List.mem_append_right _ hs)
    simp only [Lv.val, Lv.sucs]
    exact Nat.max_le.2 ⟨by omega, by omega⟩
  | .imax a b, h => by
    have h1 := val_le (l := a) fun s hs => h s (List.mem_append_left _ hs)
    have h2 := val_le (l := b) fun s hs => h s (List.mem_append_right _ hs)
    simp only [Lv.val, Lv.sucs]
    split
    · omega
    · exact Nat.max_le.2 ⟨by omega, by omega⟩
  | .param s, h => by have := h s (by simp [Lv.pars]); simp only [Lv.val, Lv.sucs]; omega
theorem max_cond (x y : Nat) : (bif decide ((y : Int) > (x : Int)) then (y : Int) else (x : Int)) = ((Nat.max x y : Nat) : Int) := by
  cases h : decide ((y : Int) > (x : Int)) with
  | true =>
    have := of_decide_eq_true h
    rw [show Nat.max x y = y from Nat.max_eq_right (by omega)]; rfl
  | false =>
    have := of_decide_eq_false h
    rw [show Nat.max x y = x from Nat.max_eq_left (by omega)]; rfl
theorem rworth_val {P : List ByteArray} {ns : List Int} {v : ByteArray → Nat} {M : Nat} : ∀ {l : Lv}, (∀ s ∈ l.pars, pval s P ns = (v s : Int)) → (∀ s ∈ l.pars, v s ≤ M) → M + l.sucs < 2 ^ 61 → rworthV P ns l = ((l.val v : Nat) : Int)
  | .zero, _, _, _ => rfl
  | .succ l, h, hb, hm => by
    simp only [Lv.sucs] at hm
    have := val_le (l := l) hb
    rw [rworthV, rworth_val (l := l) h hb (by omega), wrap_succ (by omega)]
    rfl
  | .max a b, h, hb, hm => by
    simp only [Lv.sucs] at hm
    rw [rworthV, rworth_val (l := a) (fun s hs => h s (List.mem_append_left _ hs)) (fun s hs => hb s (List.mem_append_left _ hs)) (by omega), rworth_val (l := b) (fun s hs => h s (List.mem_append_right _ hs)) (fun s hs => hb s (List.mem_append_right _ hs)) (by omega), max_cond]
    rfl
  | .imax a b, h, hb, hm => by
    simp only [Lv.sucs] at hm
    rw [rworthV, rworth_val (l := a) (fun s hs => h s (List.mem_append_left _ hs)) (fun s hs => hb s (List.mem_append_left _ hs)) (by omega), rworth_val (l := b) (fun s hs => h s (List.mem_append_right _ hs)) (fun s hs => hb s (List.mem_append_right _ hs)) (by omega), max_cond]
    simp only [Lv.val]
    by_cases h0 : b.val v = 0
    · simp [h0]
    · have : (((b.val v : Nat) : Int) == 0) = false := by simp; omega
      rw [this, if_neg h0]; rfl
  | .param s, h, _, _ => h s (by simp [Lv.pars])

/-! The tests: digits to the base three. -/
def dig : Nat → Nat → List Nat
  | 0, _ => []
  | n + 1, r => (r % 3) :: dig n (r / 3)
def vd (B d : Nat) : Nat := if d = 0 then 0 else if d = 1 then 1 else B
def nsV (B n k : Nat) : List Int := (dig n k).map fun d => (vd B d : Int)
theorem dig_length : ∀ (n k : Nat), (dig n k).length = n
  | 0, _ => rfl
  | n + 1, k => by simp [dig, dig_length n]
theorem nsV_length (B n k : Nat) : (nsV B n k).length = n := by simp [nsV, dig_length]
theorem dig_all : ∀ (ds : List Nat), (∀ d ∈ ds, d < 3) → ∃ k, k < 3 ^ ds.length ∧ dig ds.length k = ds
  | [], _ => ⟨0, by simp, rfl⟩
  | d :: ds, h => by
    obtain ⟨k, h1, h2⟩ := dig_all ds fun x hx => h x (List.mem_cons_of_mem _ hx)
    have hd := h d (List.mem_cons_self ..)
    refine ⟨3 * k + d, ?_, ?_⟩
    · simp only [List.length_cons, Nat.pow_succ]; omega
    · simp only [List.length_cons, dig]
      have e1 : (3 * k + d) % 3 = d := by omega
      have e2 : (3 * k + d) / 3 = k := by omega
      rw [e1, e2, h2]
theorem pval_map {v : ByteArray → Nat} {s : ByteArray} : ∀ {P : List ByteArray}, s ∈ P → pval s P (P.map fun p => (v p : Int)) = (v s : Int)
  | p :: P, h => by
    simp only [List.map_cons, pval]
    by_cases hp : p.toList = s.toList
    · have : p = s := tl_inj hp
      subst this; simp
    · rcases List.mem_cons.1 h with rfl | h
      · exact absurd rfl hp
      · simp only [beq_iff_eq, hp, if_false]
        exact pval_map h
theorem pval_of {s : ByteArray} {B : Nat} (hB : 1 ≤ B) : ∀ {P : List ByteArray} {ds : List Nat}, ∃ x : Nat, pval s P (ds.map fun d => (vd B d : Int)) = (x : Int) ∧ x ≤ B
  | [], ds => ⟨0, by cases ds <;> rfl, Nat.zero_le _⟩
  | p :: P, [] => ⟨0, rfl, Nat.zero_le _⟩
  | p :: P, d :: ds => by
    simp only [List.map_cons, pval]
    split
    · refine ⟨vd B d, rfl, ?_⟩
      unfold vd
      split
      · omega
      · split <;> omega
    · exact pval_of hB
/-- All tests hold just if the one is at most the other. -/
theorem tests_iff {a b : Lv} {P : List ByteArray} (ha : ∀ s ∈ a.pars, s ∈ P) (hb : ∀ s ∈ b.pars, s ∈ P) (hs : a.sucs + b.sucs < 2 ^ 50) :
    (∀ k, k < 3 ^ P.length → rworthV P (nsV (2 + a.sucs + b.sucs) P.length k) a ≤ rworthV P (nsV (2 + a.sucs + b.sucs) P.length k) b) ↔ a.Leq b := by
  constructor
  · intro h
    refine leq_three (B := 2 + a.sucs + b.sucs) (by omega) fun v hv => ?_
    let d : ByteArray → Nat := fun p => if v p = 0 then 0 else if v p = 1 then 1 else 2
    have hd : ∀ p, vd (2 + a.sucs + b.sucs) (d p) = v p := by
      intro p
      simp only [d, vd]
      rcases hv p with h0 | h0 | h0
      · simp [h0]
      · simp [h0]
      · have e1 : ¬ (v p = 0) := by omega
        have e2 : ¬ (v p = 1) := by omega
        have e3 : ¬ (2 + a.sucs + b.sucs = 1) := by omega
        simp [e1, e2, h0, e3]
    obtain ⟨k, hk, hdig⟩ := dig_all (P.map d) (fun x hx => by
      obtain ⟨p, _, rfl⟩ := List.mem_map.1 hx
      simp only [d]
      split
      · omega
      · split <;> omega)
    rw [List.length_map] at hk hdig
    have hns : nsV (2 + a.sucs + b.sucs) P.length k = P.map fun p => (v p : Int) := by
      simp only [nsV, hdig, List.map_map]
      refine List.map_congr_left fun p _ => ?_
      simp only [Function.comp, hd]
    have hM : ∀ p, v p ≤ 2 + a.sucs + b.sucs := fun p => by rcases hv p with h0 | h0 | h0 <;> omega
    have := h k hk
    rw [hns, rworth_val (v := v) (M := 2 + a.sucs + b.sucs) (fun s hs => pval_map (ha s hs)) (fun s _ => hM s) (by omega), rworth_val (v := v) (M := 2 + a.sucs + b.sucs) (fun s hs => pval_map (hb s hs)) (fun s _ => hM s) (by omega)] at this
    omega
  · intro h k _
    have hx : ∀ s, ∃ x : Nat, pval s P (nsV (2 + a.sucs + b.sucs) P.length k) = (x : Int) ∧ x ≤ 2 + a.sucs + b.sucs := fun s => pval_of (by omega)
    have hv : ∀ s, pval s P (nsV (2 + a.sucs + b.sucs) P.length k) = (((hx s).choose : Nat) : Int) := fun s => (hx s).choose_spec.1
    have hM : ∀ s, (hx s).choose ≤ 2 + a.sucs + b.sucs := fun s => (hx s).choose_spec.2
    rw [rworth_val (v := fun s => (hx s).choose) (M := 2 + a.sucs + b.sucs) (fun s _ => hv s) (fun s _ => hM s) (by omega), rworth_val (v := fun s => (hx s).choose) (M := 2 + a.sucs + b.sucs) (fun s _ => hv s) (fun s _ => hM s) (by omega)]
    have := h (fun s => (hx s).choose)
    omega

/-! The names of what is parsed are names. -/
theorem tok_size (s : ByteArray) (p : Nat) : (tokV s p).t.size ≤ s.size := by
  have h0 : (ByteArray.mk #[]).size = 0 := rfl
  have he : ∀ i q, (s.extract i q).size ≤ s.size := fun i q => by rw [ByteArray.size_extract]; omega
  have he0 : (ByteArray.mk #[]).size ≤ s.size := by rw [h0]; exact Nat.zero_le _
  unfold tokV tokAt
  generalize scan isBlank s p = i
  cases i == s.size
  · simp only [cond_false]
    cases byteAt s i == 40
    · cases byteAt s i == 41
      · cases nmByte (byteAt s i) true
        · cases (byteAt s i == 35 || isDigit (byteAt s i))
          · exact he0
          · simp only [cond_false, cond_true, numTok]
            generalize (bif byteAt s i == 35 then i + 1 else i) = d
            cases scan isDigit s (i + 1) == d
            · cases decide (scan isDigit s (i + 1) - d > 5)
              · cases (decide (scan isDigit s (i + 1) - d > 1) && byteAt s d == 48)
                · exact he _ _
                · exact he0
              · exact he0
            · exact he0
        · simp only [cond_false, cond_true, nmTok]
          cases decide (scan (nmByte · false) s (i + 1) - i > 40)
          · exact he _ _
          · exact he0
      · exact he _ _
    · exact he _ _
  · exact he0
theorem rlevel_names (s : ByteArray) : ∀ (n : Nat) (st : RS), ∀ x ∈ (rlevelV n s st).1.pars, 0 < x.size ∧ x.size ≤ s.size
  | 0, st => by simp [rlevelV, Lv.pars]
  | n + 1, st => by
    have ih := rlevel_names s n
    unfold rlevelV
    cases st.c != 0
    case true => simp [Lv.pars]
    cases strIs (tokV s st.p).t [48]
    case true => simp [Lv.pars]
    cases h1 : isNameV (tokV s st.p).t
    case true =>
      intro x hx
      simp only [cond_false, cond_true, Lv.pars, List.mem_singleton] at hx
      subst hx
      simp only [isNameV, Bool.and_eq_true, Bool.not_eq_true'] at h1
      exact ⟨isNo_size h1.1, tok_size s st.p⟩
    cases strIs (tokV s st.p).t [40]
    case false => simp [Lv.pars]
    simp only [cond_false, cond_true, lvP]
    have two : ∀ (f : Lv → Lv → Lv) (st : RS), (∀ a b, (f a b).pars = a.pars ++ b.pars) → ∀ x ∈ (lv2 (rlevelV n s) s f st).1.pars, 0 < x.size ∧ x.size ≤ s.size := by
      intro f st hf x hx
      simp only [lv2, hf, List.mem_append] at hx
      rcases hx with hx | hx
      · exact ih _ x hx
      · exact ih _ x hx
    cases strIs (tokV s (rnextV s st).2.p).t [115]
    case true => exact ih _
    cases strIs (tokV s (rnextV s st).2.p).t [109, 97, 120]
    case true => exact two .max _ fun _ _ => rfl
    cases strIs (tokV s (rnextV s st).2.p).t [105, 109, 97, 120]
    case true => exact two .imax _ fun _ _ => rfl
    simp [Lv.pars]
theorem parse_names (s : ByteArray) : ∀ x ∈ (parseV s).1.pars, 0 < x.size ∧ x.size ≤ s.size := by
  unfold parseV
  cases decide ((s.size : Int) > 20000)
  · simp only [cond_false]
    cases (rdoneV s (rlevelV (s.size + 1) s ⟨0, 0, 0⟩).2).c != 0
    · exact rlevel_names s _ _
    · simp [Lv.pars]
  · simp [Lv.pars]
theorem sucs_size : ∀ l : Lv, l.sucs ≤ l.size
  | .zero => by simp [Lv.sucs]
  | .param _ => by simp [Lv.sucs]
  | .succ l => by have := sucs_size l; simp only [Lv.sucs, Lv.size]; omega
  | .max a b => by have := sucs_size a; have := sucs_size b; simp only [Lv.sucs, Lv.size]; omega
  | .imax a b => by have := sucs_size a; have := sucs_size b; simp only [Lv.sucs, Lv.size]; omega
end Go.Ab.Mk
end
section
namespace Go.Ab.Mk
open Go.Proofs Go.Ab
theorem scan_all {f : Int → Bool} {s : ByteArray} : ∀ (k i : Nat), s.size - i = k → ∀ j, i ≤ j → j < scan f s i → f (byteAt s j) = true
  | k, i, hk, j, h1, h2 => by
    by_cases h : i < s.size ∧ f (byteAt s i) = true
    · rw [scan_go h.1 h.2] at h2
      rcases Nat.eq_or_lt_of_le h1 with rfl | h1
      · exact h.2
      · exact scan_all (k - 1) (i + 1) (by omega) j h1 h2
    · rw [scan_stop h] at h2; omega
theorem byteAt_ext {s : ByteArray} {i q j : Nat} (h : i + j < q) (hq : q ≤ s.size) : byteAt (s.extract i q) j = byteAt s (i + j) := by
  have h1 : (s.extract i q).data.toList.getD j 0 = s.data.toList.getD (i + j) 0 := by
    rw [ByteArray.data_extract]
    simp only [List.getD, Array.getElem?_toList, Array.getElem?_extract]
    have hq' : q ≤ s.data.size := hq
    rw [if_pos (by omega)]
  simp only [byteAt, h1]
end Go.Ab.Mk
end
section
namespace Go.Ab.Mk
open Go.Proofs Go.Ab

/-- A name as the reader takes it. -/
structure NameOk (t : ByteArray) : Prop where
  pos : 0 < t.size
  few : t.size ≤ 40
  first : nmByte (byteAt t 0) true = true
  rest : ∀ i, 0 < i → i < t.size → nmByte (byteAt t i) false = true
theorem byteAt_ge {s : ByteArray} {i : Nat} (h : s.size ≤ i) : byteAt s i = 0 := by
  have h' : s.data.toList.length ≤ i := by rw [Array.length_toList]; exact h
  unfold byteAt
  rw [List.getD_eq_getElem?_getD, List.getElem?_eq_none h']
  rfl
theorem isNameV_no (t : ByteArray) (h : t.size = 0) : isNameV t = false := by
  have : t = ByteArray.mk #[] := by apply ByteArray.ext; exact Array.eq_empty_of_size_eq_zero h
  subst this
  simp [isNameV, isNo]
theorem tok_name {s : ByteArray} {p : Nat} (h : isNameV (tokV s p).t = true) : NameOk (tokV s p).t := by
  unfold tokV at h ⊢
  generalize scan isBlank s p = i at h ⊢
  unfold tokAt at h ⊢
  have no : isNameV (Tok.no i).t = false := isNameV_no _ rfl
  have no' : isNameV (ByteArray.mk #[]) = false := isNameV_no _ rfl
  by_cases hi : i < s.size
  case neg =>
    exfalso
    cases he : i == s.size with
    | true => rw [he, cond_true] at h; rw [no'] at h; simp at h
    | false =>
      have hb : byteAt s i = 0 := byteAt_ge (by omega)
      have e1 : nmByte 0 true = false := by decide
      have e2 : isDigit 0 = false := by decide
      rw [he, hb, e1, e2] at h
      simp only [cond_false, show ((0 : Int) == 40) = false from rfl, show ((0 : Int) == 41) = false from rfl, show ((0 : Int) == 35) = false from rfl, Bool.or_false, no] at h
      simp at h
  have he : (i == s.size) = false := by simp; omega
  rw [he] at h ⊢
  simp only [cond_false] at h ⊢
  have bx : ∀ q, i < q → q ≤ s.size → byteAt (s.extract i q) 0 = byteAt s i := fun q h1 h2 => by have := byteAt_ext (s := s) (i := i) (q := q) (j := 0) (by omega) h2; simpa using this
  have one : nmByte (byteAt s i) true = false → ∀ q, i < q → q ≤ s.size → isNameV (s.extract i q) = false := fun hn q h1 h2 => by
    unfold isNameV
    rw [bx q h1 h2, hn, Bool.and_false]
  cases h40 : byteAt s i == 40 with
  | true =>
    exfalso
    rw [h40, cond_true] at h
    rw [one (by rw [beq_iff_eq.1 h40]; decide) (i + 1) (by omega) (by omega)] at h
    simp at h
  | false =>
    rw [h40] at h
    simp only [cond_false] at h ⊢
    cases h41 : byteAt s i == 41 with
    | true =>
      exfalso
      rw [h41, cond_true] at h
      rw [one (by rw [beq_iff_eq.1 h41]; decide) (i + 1) (by omega) (by omega)] at h
      simp at h
    | false =>
      rw [h41] at h
      simp only [cond_false] at h ⊢
      cases hn : nmByte (byteAt s i) true with
      | true =>
        rw [hn, cond_true] at h
        simp only [cond_true]
        have g1 := le_scan (nmByte · false) s (i + 1)
        have g2 := scan_le (f := (nmByte · false)) (s := s) (i := i + 1) (by omega)
        have g3 := scan_all (f := (nmByte · false)) (s := s) _ (i + 1) rfl
        generalize scan (nmByte · false) s (i + 1) = q at h g1 g2 g3 ⊢
        unfold nmTok at h ⊢
        cases hq : decide (q - i > 40) with
        | true => rw [hq, cond_true, no] at h; simp at h
        | false =>
          simp only [cond_false]
          have hq' := of_decide_eq_false hq
          have hz : (s.extract i q).size = q - i := by rw [ByteArray.size_extract]; omega
          refine ⟨by omega, by omega, by rw [bx q (by omega) g2]; exact hn, fun j h1 h2 => ?_⟩
          rw [byteAt_ext (by omega) g2]
          exact g3 (i + j) (by omega) (by omega)
      | false =>
        exfalso
        rw [hn] at h
        simp only [cond_false] at h
        cases hd : (byteAt s i == 35 || isDigit (byteAt s i)) with
        | false => rw [hd, cond_false, no] at h; simp at h
        | true =>
          rw [hd, cond_true] at h
          have g1 := le_scan isDigit s (i + 1)
          have g2 := scan_le (f := isDigit) (s := s) (i := i + 1) (by omega)
          generalize scan isDigit s (i + 1) = q at h g1 g2
          simp only [numTok] at h
          generalize (bif byteAt s i == 35 then i + 1 else i) = d at h
          cases h1 : q == d
          · rw [h1, cond_false] at h
            cases h2 : decide (q - d > 5)
            · rw [h2, cond_false] at h
              cases h3 : (decide (q - d > 1) && byteAt s d == 48)
              · rw [h3, cond_false, one hn q (by omega) g2] at h; simp at h
              · rw [h3, cond_true, no] at h; simp at h
            · rw [h2, cond_true, no] at h; simp at h
          · rw [h1, cond_true, no] at h; simp at h
theorem rlevel_named (s : ByteArray) : ∀ (n : Nat) (st : RS), ∀ x ∈ (rlevelV n s st).1.pars, NameOk x
  | 0, st => by simp [rlevelV, Lv.pars]
  | n + 1, st => by
    have ih := rlevel_named s n
    unfold rlevelV
    cases st.c != 0
    case true => simp [Lv.pars]
    cases strIs (tokV s st.p).t [48]
    case true => simp [Lv.pars]
    cases h1 : isNameV (tokV s st.p).t
    case true =>
      intro x hx
      simp only [cond_false, cond_true, Lv.pars, List.mem_singleton] at hx
      subst hx
      exact tok_name h1
    cases strIs (tokV s st.p).t [40]
    case false => simp [Lv.pars]
    simp only [cond_false, cond_true, lvP]
    have two : ∀ (f : Lv → Lv → Lv) (st : RS), (∀ a b, (f a b).pars = a.pars ++ b.pars) → ∀ x ∈ (lv2 (rlevelV n s) s f st).1.pars, NameOk x := by
      intro f st hf x hx
      simp only [lv2, hf, List.mem_append] at hx
      rcases hx with hx | hx
      · exact ih _ x hx
      · exact ih _ x hx
    cases strIs (tokV s (rnextV s st).2.p).t [115]
    case true => exact ih _
    cases strIs (tokV s (rnextV s st).2.p).t [109, 97, 120]
    case true => exact two .max _ fun _ _ => rfl
    cases strIs (tokV s (rnextV s st).2.p).t [105, 109, 97, 120]
    case true => exact two .imax _ fun _ _ => rfl
    simp [Lv.pars]
theorem parse_named (s : ByteArray) : ∀ x ∈ (parseV s).1.pars, NameOk x := by
  unfold parseV
  cases decide ((s.size : Int) > 20000)
  · simp only [cond_false]
    cases (rdoneV s (rlevelV (s.size + 1) s ⟨0, 0, 0⟩).2).c != 0
    · exact rlevel_named s _ _
    · simp [Lv.pars]
  · simp [Lv.pars]

/-! What lies at a place. -/
def At (s : ByteArray) (p : Nat) (Y : List UInt8) : Prop := ∃ X, s = ba (X ++ Y) ∧ p = X.length
theorem At.byte {s : ByteArray} {p : Nat} {Y : List UInt8} (h : At s p Y) (j : Nat) : byteAt s (p + j) = ((Y.getD j 0).toNat : Int) := by
  obtain ⟨X, rfl, rfl⟩ := h
  simp [byteAt, ba, List.getD, List.getElem?_append_right]
theorem At.size {s : ByteArray} {p : Nat} {Y : List UInt8} (h : At s p Y) : s.size = p + Y.length := by
  obtain ⟨X, rfl, rfl⟩ := h
  simp [ba_size]
theorem At.drop {s : ByteArray} {p : Nat} {A Y : List UInt8} (h : At s p (A ++ Y)) : At s (p + A.length) Y := by
  obtain ⟨X, rfl, rfl⟩ := h
  exact ⟨X ++ A, by rw [List.append_assoc], by simp⟩
theorem At.ext {s : ByteArray} {p : Nat} {A Y : List UInt8} (h : At s p (A ++ Y)) : s.extract p (p + A.length) = ba A := by
  obtain ⟨X, rfl, rfl⟩ := h
  apply tl_inj
  rw [ByteArray.toList_eq, ByteArray.toList_eq, ByteArray.data_extract, Array.toList_extract]
  simp [ba]
theorem At.head {s : ByteArray} {p : Nat} {c : UInt8} {Y : List UInt8} (h : At s p (c :: Y)) : byteAt s p = (c.toNat : Int) := h.byte 0
theorem At.tail {s : ByteArray} {p : Nat} {c : UInt8} {Y : List UInt8} (h : At s p (c :: Y)) : At s (p + 1) Y := At.drop (A := [c]) h
def Sep (Z : List UInt8) : Prop := Z = [] ∨ ∃ c Z', Z = c :: Z' ∧ (c = 32 ∨ c = 41)
theorem Sep.stop {s : ByteArray} {q : Nat} {Z : List UInt8} (h : Sep Z) (ha : At s q Z) (f : Int → Bool) (h1 : f 32 = false) (h2 : f 41 = false) : ¬ (q < s.size ∧ f (byteAt s q) = true) := by
  rcases h with rfl | ⟨c, Z', rfl, hc⟩
  · have := ha.size
    simp at this
    omega
  · rintro ⟨_, hf⟩
    rw [ha.head] at hf
    rcases hc with rfl | rfl
    · rw [show (((32 : UInt8).toNat : Nat) : Int) = 32 from rfl, h1] at hf; simp at hf
    · rw [show (((41 : UInt8).toNat : Nat) : Int) = 41 from rfl, h2] at hf; simp at hf
theorem scan_to {f : Int → Bool} {s : ByteArray} {q : Nat} (hq : q ≤ s.size) (hs : ¬ (q < s.size ∧ f (byteAt s q) = true)) : ∀ (k i : Nat), i + k = q → (∀ j, i ≤ j → j < q → f (byteAt s j) = true) → scan f s i = q
  | 0, i, h, _ => by
    obtain rfl : i = q := by omega
    exact scan_stop hs
  | k + 1, i, h, ha => by
    rw [scan_go (by omega) (ha i (Nat.le_refl _) (by omega))]
    exact scan_to hq hs k (i + 1) (by omega) fun j h1 h2 => ha j (by omega) h2
theorem tok_blank {s : ByteArray} {p : Nat} {Y : List UInt8} (h : At s p (32 :: Y)) : tokV s p = tokV s (p + 1) := by
  have hz := h.size
  unfold tokV
  rw [scan_go (by simp at hz; omega) (by rw [h.head]; rfl)]
theorem tok_here {s : ByteArray} {p : Nat} (h : isBlank (byteAt s p) = false) : tokV s p = tokAt s p := by
  unfold tokV
  rw [scan_stop fun ⟨_, hf⟩ => by rw [h] at hf; simp at hf]
theorem ne_end {s : ByteArray} {p : Nat} {c : UInt8} {Y : List UInt8} (h : At s p (c :: Y)) : (p == s.size) = false := by
  have := h.size
  simp at this
  simp; omega
theorem tok_open {s : ByteArray} {p : Nat} {Y : List UInt8} (h : At s p (40 :: Y)) : tokV s p = ⟨ba [40], p, true⟩ := by
  rw [tok_here (by rw [h.head]; rfl)]
  have e : byteAt s p = 40 := h.head
  have ex : s.extract p (p + 1) = ba [40] := At.ext (A := [40]) h
  unfold tokAt
  rw [ne_end h, e, ex]
  rfl
theorem tok_close {s : ByteArray} {p : Nat} {Y : List UInt8} (h : At s p (41 :: Y)) : tokV s p = ⟨ba [41], p, true⟩ := by
  rw [tok_here (by rw [h.head]; rfl)]
  have e : byteAt s p = 41 := h.head
  have ex : s.extract p (p + 1) = ba [41] := At.ext (A := [41]) h
  unfold tokAt
  rw [ne_end h, e, ex]
  rfl
theorem tok_end {s : ByteArray} {p : Nat} (h : At s p []) : tokV s p = ⟨ba [], p, true⟩ := by
  have hz : s.size = p := h.size
  have : tokV s p = tokAt s p := by
    unfold tokV
    rw [scan_stop fun ⟨hf, _⟩ => by omega]
  rw [this]
  unfold tokAt
  rw [show (p == s.size) = true by simp [hz]]
  rfl
theorem tok_nought {s : ByteArray} {p : Nat} {Z : List UInt8} (h : At s p (48 :: Z)) (hZ : Sep Z) : tokV s p = ⟨ba [48], p, true⟩ := by
  rw [tok_here (by rw [h.head]; rfl)]
  have e : byteAt s p = 48 := h.head
  have ex : s.extract p (p + 1) = ba [48] := At.ext (A := [48]) h
  have hz := h.tail.size
  have sc : scan isDigit s (p + 1) = p + 1 := scan_stop (hZ.stop h.tail isDigit rfl rfl)
  unfold tokAt
  rw [ne_end h, e, sc]
  have e2 : ((p + 1) - p) = 1 := by omega
  simp only [cond_false, cond_true, numTok, e2, show ((48 : Int) == 40) = false from rfl, show ((48 : Int) == 41) = false from rfl, show nmByte 48 true = false from rfl, show isDigit 48 = true from rfl, Bool.or_true, show ((48 : Int) == 35) = false from rfl,
    show (p + 1 == p) = false by simp, show decide (1 > 5) = false from rfl, show decide (1 > 1) = false from rfl, Bool.false_and, ex]
theorem nm_facts {x : Int} (h : nmByte x true = true) : isBlank x = false ∧ (x == 40) = false ∧ (x == 41) = false := by
  simp only [nmByte, isLetter, Bool.not_true, Bool.false_and, Bool.or_false, Bool.or_eq_true, Bool.and_eq_true, decide_eq_true_eq, beq_iff_eq] at h
  simp only [isBlank, Bool.or_eq_false_iff, beq_eq_false_iff_ne]
  omega
theorem tok_word {s : ByteArray} {p : Nat} {w Z : List UInt8} (h : At s p (w ++ Z)) (hw : NameOk (ba w)) (hZ : Sep Z) : tokV s p = ⟨ba w, p, true⟩ := by
  have hpos := hw.pos
  have hfew := hw.few
  rw [ba_size] at hpos hfew
  have bw : ∀ j, j < w.length → byteAt s (p + j) = byteAt (ba w) j := by
    intro j hj
    rw [h.byte j]
    simp [byteAt, ba, List.getD, List.getElem?_append_left hj]
  have b0 : byteAt s p = byteAt (ba w) 0 := bw 0 hpos
  have hz := h.size
  rw [List.length_append] at hz
  obtain ⟨f1, f2, f3⟩ := nm_facts hw.first
  rw [tok_here (by rw [b0]; exact f1)]
  have sc : scan (nmByte · false) s (p + 1) = p + w.length := scan_to (by omega) (hZ.stop h.drop (nmByte · false) rfl rfl) (w.length - 1) (p + 1) (by omega) fun j h1 h2 => by
    have := bw (j - p) (by omega)
    rw [show p + (j - p) = j by omega] at this
    show nmByte (byteAt s j) false = true
    rw [this]
    exact hw.rest _ (by omega) (by rw [ba_size]; omega)
  have ex : s.extract p (p + w.length) = ba w := h.ext
  unfold tokAt
  rw [show (p == s.size) = false by simp; omega, b0, f2, f3, hw.first]
  simp only [cond_false, cond_true, sc, nmTok, show decide (p + w.length - p > 40) = false by simp; omega, ex]

/-! The reader's steps where all is well. -/
theorem rnext_ok {s : ByteArray} {q p : Nat} {t : ByteArray} {a : Int} (h : tokV s q = ⟨t, p, true⟩) (ht : isNo t = false) : rnextV s ⟨q, 0, a⟩ = (t, ⟨p + t.size, 0, a⟩) := by
  unfold rnextV
  simp only [h, ht, Bool.not_true, Bool.or_self, cond_false, bne_self_eq_false]
theorem rtake_ok {s : ByteArray} {q p : Nat} {t w : ByteArray} {a : Int} (h : tokV s q = ⟨t, p, true⟩) (ht : t.toList = w.toList) : rtakeV s ⟨q, 0, a⟩ w = ⟨p + t.size, 0, a⟩ := by
  unfold rtakeV
  simp only [h, ht, beq_self_eq_true, Bool.not_true, Bool.or_self, cond_false, cond_true]
theorem strIs_eq {a b : List UInt8} : strIs (ba a) b = (a == b) := by
  unfold strIs
  rw [ByteArray.toList_eq, ByteArray.toList_eq]
  simp [ba]
theorem isNo_eq {a : List UInt8} : isNo (ba a) = (a == []) := by
  unfold isNo
  rw [ByteArray.toList_eq, ByteArray.toList_eq]
  simp [ba]
theorem nameOk_ne {w : List UInt8} (h : NameOk (ba w)) : w ≠ [] := by
  rintro rfl
  have := h.pos
  simp [ba_size] at this
theorem nameOk_is {w : List UInt8} (h : NameOk (ba w)) : isNameV (ba w) = true ∧ strIs (ba w) [48] = false := by
  refine ⟨?_, ?_⟩
  · unfold isNameV
    rw [isNo_eq, h.first]
    simp [nameOk_ne h]
  · rw [strIs_eq]
    cases hw : w == [48] with
    | false => rfl
    | true =>
      have := h.first
      rw [beq_iff_eq.1 hw] at this
      simp [show nmByte (byteAt (ba [48]) 0) true = false from rfl] at this
theorem word_s : NameOk (ba [115]) := ⟨by decide, by decide, rfl, fun i h1 h2 => by rw [ba_size] at h2; simp at h2; omega⟩
theorem word_max : NameOk (ba [109, 97, 120]) := ⟨by decide, by decide, rfl, fun i h1 h2 => by
  rw [ba_size] at h2
  have : i = 1 ∨ i = 2 := by simp at h2; omega
  rcases this with rfl | rfl <;> rfl⟩
theorem word_imax : NameOk (ba [105, 109, 97, 120]) := ⟨by decide, by decide, rfl, fun i h1 h2 => by
  rw [ba_size] at h2
  have : i = 1 ∨ i = 2 ∨ i = 3 := by simp at h2; omega
  rcases this with rfl | rfl | rfl <;> rfl⟩
theorem sep_close (Z : List UInt8) : Sep (41 :: Z) := .inr ⟨41, Z, rfl, .inr rfl⟩
theorem sep_blank (Z : List UInt8) : Sep (32 :: Z) := .inr ⟨32, Z, rfl, .inl rfl⟩
theorem open_noName : isNameV (ba [40]) = false := by unfold isNameV; rw [isNo_eq]; rfl
/-- Behind an opened bracket and its word. -/
theorem rt_head {s : ByteArray} {q p : Nat} {w Y : List UInt8} {a : Int} (hw : NameOk (ba w)) (h : At s p (40 :: (w ++ 32 :: Y))) (hq : tokV s q = tokV s p) (n : Nat) :
    rlevelV (n + 1) s ⟨q, 0, a⟩ = lvP (rlevelV n s) s ⟨p + 1, 0, a⟩ ∧ tokV s (p + 1) = ⟨ba w, p + 1, true⟩ ∧ At s (p + 1 + w.length) (32 :: Y) := by
  have t0 := hq.trans (tok_open h)
  have hn := rnext_ok (a := a) t0 (by rw [isNo_eq]; rfl)
  have ht := tok_word h.tail hw (sep_blank Y)
  refine ⟨?_, ht, h.tail.drop⟩
  rw [rlevelV]
  simp only [t0, hn, bne_self_eq_false, cond_false, strIs_eq, show (([40] : List UInt8) == [48]) = false from rfl, open_noName, beq_self_eq_true, cond_true, ba_size]
  rfl
theorem rt : ∀ (l : Lv) (n : Nat) {s : ByteArray} {q p : Nat} {Z : List UInt8} {a : Int}, At s p (printL l ++ Z) → tokV s q = tokV s p → Sep Z → (∀ x ∈ l.pars, NameOk x) → l.size ≤ n →
    rlevelV n s ⟨q, 0, a⟩ = (l, ⟨p + (printL l).length, 0, a⟩)
  | l, 0, _, _, _, _, _, _, _, _, _, hn => by have := l.size_pos; omega
  | .zero, n + 1, s, q, p, Z, a, h, hq, hZ, hp, hn => by
    have t0 := hq.trans (tok_nought h hZ)
    rw [rlevelV]
    simp only [t0, bne_self_eq_false, cond_false, strIs_eq, beq_self_eq_true, cond_true, rnext_ok (a := a) t0 (by rw [isNo_eq]; rfl), ba_size, printL]
  | .param x, n + 1, s, q, p, Z, a, h, hq, hZ, hp, hn => by
    have hx : NameOk (ba x.data.toList) := by rw [ba_of]; exact hp x (by simp [Lv.pars])
    have key : ∀ w, NameOk (ba w) → At s p (w ++ Z) → rlevelV (n + 1) s ⟨q, 0, a⟩ = (.param (ba w), ⟨p + w.length, 0, a⟩) := by
      intro w hw h
      have t0 := hq.trans (tok_word h hw hZ)
      obtain ⟨i1, i2⟩ := nameOk_is hw
      have hno : isNo (ba w) = false := by rw [isNo_eq]; simp [nameOk_ne hw]
      rw [rlevelV]
      simp only [t0, bne_self_eq_false, cond_false, i2, i1, cond_true, rnext_ok (a := a) t0 hno, ba_size]
    have := key x.data.toList hx h
    rw [ba_of] at this
    exact this
  | .succ l, n + 1, s, q, p, Z, a, h, hq, hZ, hp, hn => by
    simp only [Lv.size] at hn
    have h' : At s p (40 :: ([115] ++ 32 :: (printL l ++ 41 :: Z))) := by
      have : (printL (.succ l) ++ Z : List UInt8) = 40 :: ([115] ++ 32 :: (printL l ++ 41 :: Z)) := by simp [printL]
      rw [← this]; exact h
    obtain ⟨e1, e2, e3⟩ := rt_head (a := a) word_s h' hq n
    have hn2 := rnext_ok (a := a) e2 (by rw [isNo_eq]; rfl)
    have h3 := rt l n (a := a) e3.tail (tok_blank e3) (sep_close Z) hp (by omega)
    have h4 := rtake_ok (w := ba [41]) (a := a) (tok_close e3.tail.drop) rfl
    rw [e1]
    unfold lvP lv1
    simp only [e2, strIs_eq, beq_self_eq_true, cond_true, hn2, ba_size, h3, h4]
    simp [printL]
    omega
  | .max x y, n + 1, s, q, p, Z, a, h, hq, hZ, hp, hn => by
    simp only [Lv.size] at hn
    have h' : At s p (40 :: ([109, 97, 120] ++ 32 :: (printL x ++ 32 :: (printL y ++ 41 :: Z)))) := by
      have : (printL (.max x y) ++ Z : List UInt8) = 40 :: ([109, 97, 120] ++ 32 :: (printL x ++ 32 :: (printL y ++ 41 :: Z))) := by simp [printL]
      rw [← this]; exact h
    obtain ⟨e1, e2, e3⟩ := rt_head (a := a) word_max h' hq n
    have hn2 := rnext_ok (a := a) e2 (by rw [isNo_eq]; rfl)
    have h3 := rt x n (a := a) e3.tail (tok_blank e3) (sep_blank _) (fun z hz => hp z (List.mem_append_left _ hz)) (by omega)
    have h5 := rt y n (a := a) e3.tail.drop.tail (tok_blank e3.tail.drop) (sep_close Z) (fun z hz => hp z (List.mem_append_right _ hz)) (by omega)
    have h4 := rtake_ok (w := ba [41]) (a := a) (tok_close e3.tail.drop.tail.drop) rfl
    rw [e1]
    unfold lvP lv2
    simp only [e2, strIs_eq, show (([109, 97, 120] : List UInt8) == [115]) = false from rfl, cond_false, beq_self_eq_true, cond_true, hn2, ba_size, h3, h5, h4]
    simp [printL]
    omega
  | .imax x y, n + 1, s, q, p, Z, a, h, hq, hZ, hp, hn => by
    simp only [Lv.size] at hn
    have h' : At s p (40 :: ([105, 109, 97, 120] ++ 32 :: (printL x ++ 32 :: (printL y ++ 41 :: Z)))) := by
      have : (printL (.imax x y) ++ Z : List UInt8) = 40 :: ([105, 109, 97, 120] ++ 32 :: (printL x ++ 32 :: (printL y ++ 41 :: Z))) := by simp [printL]
      rw [← this]; exact h
    obtain ⟨e1, e2, e3⟩ := rt_head (a := a) word_imax h' hq n
    have hn2 := rnext_ok (a := a) e2 (by rw [isNo_eq]; rfl)
    have h3 := rt x n (a := a) e3.tail (tok_blank e3) (sep_blank _) (fun z hz => hp z (List.mem_append_left _ hz)) (by omega)
    have h5 := rt y n (a := a) e3.tail.drop.tail (tok_blank e3.tail.drop) (sep_close Z) (fun z hz => hp z (List.mem_append_right _ hz)) (by omega)
    have h4 := rtake_ok (w := ba [41]) (a := a) (tok_close e3.tail.drop.tail.drop) rfl
    rw [e1]
    unfold lvP lv2
    simp only [e2, strIs_eq, show (([105, 109, 97, 120] : List UInt8) == [115]) = false from rfl, show (([105, 109, 97, 120] : List UInt8) == [109, 97, 120]) = false from rfl, cond_false, beq_self_eq_true, cond_true, hn2, ba_size, h3, h5, h4]
    simp [printL]
    omega
theorem size_print : ∀ l : Lv, (∀ x ∈ l.pars, NameOk x) → l.size ≤ (printL l).length
  | .zero, _ => by simp [Lv.size, printL]
  | .param x, h => by have := (h x (by simp [Lv.pars])).pos; simp only [Lv.size, printL]; rw [Array.length_toList]; exact this
  | .succ l, h => by have := size_print l h; simp [Lv.size, printL]; omega
  | .max a b, h => by have h1 := size_print a fun z hz => h z (List.mem_append_left _ hz); have h2 := size_print b fun z hz => h z (List.mem_append_right _ hz); simp [Lv.size, printL]; omega
  | .imax a b, h => by have h1 := size_print a fun z hz => h z (List.mem_append_left _ hz); have h2 := size_print b fun z hz => h z (List.mem_append_right _ hz); simp [Lv.size, printL]; omega
/-- What is printed is read again. -/
theorem parse_print {l : Lv} (h : ∀ x ∈ l.pars, NameOk x) (hb : (printL l).length ≤ 20000) : parseV (ba (printL l)) = (l, 0, 0) := by
  have h0 : At (ba (printL l)) 0 (printL l ++ []) := ⟨[], by simp, rfl⟩
  have h1 := rt l ((ba (printL l)).size + 1) (a := 0) h0 rfl (.inl rfl) h (by rw [ba_size]; have := size_print l h; omega)
  have h2 := tok_end h0.drop
  have hz : decide (((ba (printL l)).size : Int) > 20000) = false := decide_eq_false (by rw [ba_size]; omega)
  unfold parseV
  rw [hz]
  simp only [cond_false, h1]
  have h3 : rdoneV (ba (printL l)) ⟨0 + (printL l).length, 0, 0⟩ = ⟨0 + (printL l).length, 0, 0⟩ := by
    unfold rdoneV
    simp only [h2, Bool.not_true, isNo_eq, beq_self_eq_true, Bool.or_self, cond_false]
  rw [h3]
  rfl
end Go.Ab.Mk
end
section
namespace Go.Ab.Mk
open Go.Proofs Go.Ab
open Classical

theorem leq_law {a b : Lv} (ha : GoodL a) (hb : GoodL b) (σ : Sto) :
    lim C 13 [(.agg [.int .i64 a.kind, .str a.name, .slice 3 31 a.args], false), (.agg [.int .i64 b.kind, .str b.name, .slice 3 31 b.args], false)] σ = some (.ret [(.bool (decide (a.Leq b)), false)], σ) :=
  lim_ext (C := C) (f := 13) (s := Mk.leqS) (by kernel_rfl) (Mk.leqS_eq ha hb false false σ)
theorem same_law {a b : Lv} (ha : GoodL a) (hb : GoodL b) (σ : Sto) :
    lim C 14 [(.agg [.int .i64 a.kind, .str a.name, .slice 3 31 a.args], false), (.agg [.int .i64 b.kind, .str b.name, .slice 3 31 b.args], false)] σ = some (.ret [(.bool (decide (a.Leq b) && decide (b.Leq a)), false)], σ) :=
  same_lim (n := 0) <| by
    have h1 := leq_law ha hb σ
    have h2 := leq_law hb ha σ
    simp only [same, sameF, callK_ret1 h1, List.getD_cons_zero, V.asBool, Option.bind_some]
    cases decide (a.Leq b)
    · rfl
    · simp only [cond_true, callK_ret1 h2, List.getD_cons_zero, Bool.true_and]
end Go.Ab.Mk
end
section
set_option maxRecDepth 100000
namespace Go.Ab.Mq
open Go.Proofs Go.Ab
def TL : List (TypeId × TI) := [
  (0, ⟨(.tuple 0), 1, 0, [V.any]⟩),
  (3, ⟨(.int .i64), 1, 8, [(V.int .i64 (0 : Int))]⟩),
  (4, ⟨.bool, 1, 1, [(V.bool false)]⟩),
  (9, ⟨.string, 1, 16, [(V.str (ByteArray.mk #[]))]⟩),
  (22, ⟨(.slice 25), 1, 24, [(V.slice 6 25 [])]⟩),
  (25, ⟨(.struct [(0, 3), (1, 9), (2, 9), (3, 9), (4, 3), (5, 3)]), 6, 72, [(V.int .i64 (0 : Int)), (V.str (ByteArray.mk #[])), (V.str (ByteArray.mk #[])), (V.str (ByteArray.mk #[])), (V.int .i64 (0 : Int)), (V.int .i64 (0 : Int))]⟩),
  (29, ⟨(.slice 31), 1, 24, [(V.slice 3 31 [])]⟩),
  (31, ⟨(.struct [(0, 3), (1, 9), (2, 29)]), 3, 48, [(V.int .i64 (0 : Int)), (V.str (ByteArray.mk #[])), (V.slice 3 31 [])]⟩),
  (33, ⟨(.struct [(0, 3), (1, 3)]), 2, 16, [(V.int .i64 (0 : Int)), (V.int .i64 (0 : Int))]⟩),
  (34, ⟨(.tuple 2), 1, 0, [V.any]⟩),
  (36, ⟨(.slice 9), 1, 24, [(V.slice 1 9 [])]⟩),
  (39, ⟨(.slice 3), 1, 24, [(V.slice 1 3 [])]⟩),
  (44, ⟨.iface, 1, 16, [V.nilIface]⟩),
  (45, ⟨(.tuple 2), 1, 0, [V.any]⟩)]
noncomputable def levelWorthyH : Hints := { keep := fun i => if i = 0 then [0, 3, 4] else [], steal := [], esc := [], ownres := [(74, 0), (75, 0)], lp := [5, 6, 7, 8, 9, 18, 40, 46, 51, 55, 60, 66, 80, 83, 86, 88], ep := [37], roots := [(5, 5), (6, 6), (7, 7), (8, 8), (9, 9), (18, 18), (40, 5), (46, 5), (51, 7), (55, 9), (60, 5), (66, 5), (80, 5), (83, 5), (86, 5), (88, 5)], ord := fun i => if i = 8 then [0, 1, 2, 3, 4, 5, 6, 7, 8, 9, 10, 11, 12, 13, 14, 15, 16, 17, 18, 19, 20, 21, 22, 23, 24, 25, 26, 27] else if i = 10 then [0, 1, 3, 4, 6, 7, 8, 9, 10, 2, 5, 11, 12, 13] else [], own := [] }
noncomputable def levelWorthyC : Code := Tryd.f5.body.getD .skip
noncomputable def levelWorthyD : FDef := ⟨Tryd.f5, levelWorthyC, levelWorthyH⟩
noncomputable def levelFactsH : Hints := { keep := fun i => [], steal := [], esc := [], ownres := [], lp := [1, 2, 3, 4], ep := [], roots := [(1, 1), (2, 2), (3, 3), (4, 4)], ord := fun i => [], own := [] }
noncomputable def levelFactsC : Code := Tryd.f8.body.getD .skip
noncomputable def levelFactsD : FDef := ⟨Tryd.f8, levelFactsC, levelFactsH⟩
noncomputable def FL : List (FuncId × FDef) := [(5, levelWorthyD), (8, levelFactsD)]
noncomputable def C : Ctx := { T := look TL, glob := fun g => if g = 0 then some [(V.str (ByteArray.mk #[])), (V.str (ByteArray.mk #[115])), (V.str (ByteArray.mk #[109, 97, 120])), (V.str (ByteArray.mk #[105, 109, 97, 120]))] else none, ext := fun f => if f = 16 then some (Mk.parseS (lim Mk.C)) else if f = 9 then some (lim Mk.C 9) else if f = 10 then some (lim Mk.C 10) else if f = 11 then some (lim Mk.C 11) else if f = 12 then some (lim Mk.C 12) else if f = 13 then some (lim Mk.C 13) else if f = 14 then some (lim Mk.C 14) else if f = 15 then some (lim Mk.C 15) else none, fdef := lookF FL }
theorem typesOk : ∀ t i, C.T t = some i → TOk Tryd.prog t i := look_ok (by kernel_rfl)
theorem ctxOk : CtxOk Tryd.prog C where
  mixed := by kernel_rfl
  T := typesOk
  fdef := by
    refine lookF_ok (P := Tryd.prog) (Q := fun f d => Tryd.prog.funcs[f]? = some d.fn ∧ d.fn.body = some d.code ∧ (∀ (args : Array Value) (w : World), (callFunc f args).run Tryd.prog w = .ok (.enter f args) w)) (L := FL) ?_
    intro p hp
    simp only [FL, List.mem_cons, List.not_mem_nil, or_false] at hp
    rcases hp with rfl | rfl
    · exact ⟨Tryd.func5, by kernel_rfl, fun args w => Tryd.call5 args w⟩
    · exact ⟨Tryd.func8, by kernel_rfl, fun args w => Tryd.call8 args w⟩
end Go.Ab.Mq
end
