/- Levels are compared: the program's laws. A row: what an argument reads as is laid as an abstract value; what is behind the call reads as before. Levels are compared: the law of the whole. -/
import Derived.Test.YtcpdcpgblcapeaaLvO2
import Derived.Test.YtcpdcpgblcapeaaLvO1
import Derived.ChangeShapes
import Derived.ChangeArms
import Derived.Carry
import Derived.ProofKit
import Derived.Lib.LaidTab
set_option linter.unusedSimpArgs false
set_option linter.unusedVariables false
set_option linter.deprecated false
section
namespace Go.Ab.Mk
open Go.Proofs Go.Ab

def sucsL : List Lv → Nat
  | [] => 0
  | c :: L => c.sucs + sucsL L
theorem sucsL_eq : ∀ l : Lv, l.sucs = (if l.kind = 1 then 1 else 0) + sucsL l.kids
  | .zero => rfl
  | .param _ => rfl
  | .succ l => by simp [Lv.sucs, Lv.kind, Lv.kids, sucsL]; omega
  | .max a b => by simp [Lv.sucs, Lv.kind, Lv.kids, sucsL]
  | .imax a b => by simp [Lv.sucs, Lv.kind, Lv.kids, sucsL]
theorem succs_loop (call : CallF) (n : Nat) {L : List Lv} (hb : L.length < 2 ^ 61) (k : Int) (nm : ByteArray) (σ : Sto)
    (h : ∀ c ∈ L, call 15 [(.agg [.int .i64 c.kind, .str c.name, .slice 3 29 c.args], false)] σ = some (.ret [(.int .i64 (c.sucs : Int), false)], σ)) :
    ∀ (m i acc : Nat), i ≤ L.length → L.length - i < m → acc + sucsL (L.drop i) < 2 ^ 60 → succsl0 call n m acc i k nm (L.map Lv.enc) σ = some (.ret [(.int .i64 ((acc + sucsL (L.drop i) : Nat) : Int), false)], σ)
  | 0, i, _, _, hm, _ => by omega
  | m + 1, i, acc, hi, hm, hs => by
    show succss0 call (succsl0 call n m) acc i k nm (L.map Lv.enc) σ = _
    unfold succss0
    rw [List.length_map]
    by_cases hlt : i < L.length
    · have hc := List.getElem?_eq_getElem hlt
      rw [drop_cons hc] at hs
      simp only [sucsL] at hs
      have h1 := h _ (List.getElem_mem hlt)
      rw [d0, dlt hlt, kid_get hc, L[i].cells, drop_cons hc]
      simp only [cond_true, Bool.and_self, grd, Option.bind_some, callK_ret1 h1, wrap_succ (show i < 2 ^ 61 by omega), List.getD_cons_zero, sucsL, V.asInt, if_true, wrap_add (show acc + L[i].sucs < 2 ^ 62 by omega)]
      rw [← Nat.add_assoc]
      exact succs_loop call n hb k nm σ h m (i + 1) (acc + L[i].sucs) (by omega) (by omega) (by omega)
    · rw [dnlt hlt, List.drop_eq_nil_of_le (by omega)]; rfl
theorem succs_law (σ : Sto) : ∀ (l : Lv), l.size < 2 ^ 60 → lim C 15 [(.agg [.int .i64 l.kind, .str l.name, .slice 3 29 l.args], false)] σ = some (.ret [(.int .i64 (l.sucs : Int), false)], σ) :=
  Lv.ind fun l ih hb => succs_lim (n := 4) <| by
    have hk : l.kids.length ≤ 2 := by cases l <;> simp [Lv.kids]
    have hs := sucs_size l
    have he := sucsL_eq l
    have h : ∀ c ∈ l.kids, lim C 15 [(.agg [.int .i64 c.kind, .str c.name, .slice 3 29 c.args], false)] σ = some (.ret [(.int .i64 (c.sucs : Int), false)], σ) := fun c hc => ih c hc (by have := Lv.kid_size hc; omega)
    have go : ∀ acc : Nat, acc + sucsL l.kids < 2 ^ 60 → succsl0 (lim C) 4 4 (acc : Int) (0 : Int) l.kind l.name l.args σ = some (.ret [(.int .i64 ((acc + sucsL l.kids : Nat) : Int), false)], σ) := by
      intro acc ha
      have := succs_loop (lim C) 4 (L := l.kids) (by omega) l.kind l.name σ h 4 0 acc (Nat.zero_le _) (by omega) (by simpa using ha)
      simpa [Lv.args] using this
    by_cases h1 : l.kind = 1
    · rw [if_pos h1] at he
      simp only [succs, succsF, h1, beq_self_eq_true, cond_true]
      have := go 1 (by omega)
      rw [h1] at this
      rw [he]
      exact this
    · rw [if_neg h1] at he
      have hne : (l.kind == (1 : Int)) = false := by simpa using h1
      simp only [succs, succsF, hne, cond_false]
      have := go 0 (by omega)
      rw [he]
      exact this

/-! The reference tries all. -/
theorem vals_get (B r : Nat) : List.getD (List.getD (ints [0, 1, (B : Int)]) (Int.toNat (Int.tmod (r : Int) (3 : Int))) []) 0 V.any = .int .i64 ((vd B (r % 3) : Nat) : Int) := by
  have e : Int.toNat (Int.tmod (r : Int) (3 : Int)) = r % 3 := rfl
  rw [e]
  have h3 : r % 3 = 0 ∨ r % 3 = 1 ∨ r % 3 = 2 := by omega
  rcases h3 with h | h | h <;> rw [h] <;> rfl
theorem vals_in (B r : Nat) : (decide (0 ≤ Int.tmod (r : Int) (3 : Int)) && decide (Int.tmod (r : Int) (3 : Int) < ((ints [0, 1, (B : Int)]).length : Int))) = true := by
  have e : Int.tmod (r : Int) (3 : Int) = ((r % 3 : Nat) : Int) := rfl
  have e2 : ((ints [0, 1, (B : Int)]).length : Int) = 3 := rfl
  rw [e, e2]
  simp
  omega
theorem ints_append (ps qs : List Int) : ints (ps ++ qs) = ints ps ++ ints qs := by simp [ints]
theorem rleq_loop2 (call : CallF) (n : Nat) (rec1 : V → List (List V) → Int → Int → Int → ByteArray → List (List V) → Int → ByteArray → List (List V) → Sto → Option Res)
    {P : List ByteArray} (hP : P.length ≤ 6) (B : Nat) (N k : Nat) (ka : Int) (na : ByteArray) (xa : List (List V)) (kb : Int) (nb : ByteArray) (xb : List (List V)) (σ : Sto) {wa wb : List Int → Int}
    (ha : ∀ ns : List Int, ns.length = P.length → call 16 [(.agg [.int .i64 ka, .str na, .slice 3 29 xa], false), (.slice 1 9 (strs P), false), (.slice 1 3 (ints ns), false)] σ = some (.ret [(.int .i64 (wa ns), false)], σ))
    (hb : ∀ ns : List Int, ns.length = P.length → call 16 [(.agg [.int .i64 kb, .str nb, .slice 3 29 xb], false), (.slice 1 9 (strs P), false), (.slice 1 3 (ints ns), false)] σ = some (.ret [(.int .i64 (wb ns), false)], σ)) :
    ∀ (m i r : Nat) (ns : List Int), i ≤ P.length → P.length - i < m → r < 2 ^ 60 → ns.length = i →
      rleql2 call n rec1 m (.slice 1 9 (strs P)) (ints [0, 1, (B : Int)]) N k (ints ns) r i ka na xa kb nb xb σ =
        bif decide (wa (ns ++ nsV B (P.length - i) r) > wb (ns ++ nsV B (P.length - i) r)) then some (.ret [(.bool false, false)], σ) else rec1 (.slice 1 9 (strs P)) (ints [0, 1, (B : Int)]) N (IntKind.wrap .i64 ((k : Int) + 1)) ka na xa kb nb xb σ
  | 0, i, _, _, _, hm, _, _ => by omega
  | m + 1, i, r, ns, hi, hm, hr, hn => by
    show rleqs2 call rec1 (rleql2 call n rec1 m) _ _ _ _ _ _ _ _ _ _ _ _ _ σ = _
    unfold rleqs2
    have hsl : V.asSlice (.slice 1 9 (strs P)) 1 9 = some (strs P) := rfl
    rw [hsl, Option.bind_some, strs_length]
    by_cases hlt : i < P.length
    · have hf : ∀ x : Int, V.fits (.int .i64 x) false 1 = true := fun _ => rfl
      have hroom : room (List.length (ints ns) + 1) = true := room_ok (by rw [ints_length]; omega)
      have e1 : IntKind.wrap .i64 (Int.tdiv (r : Int) (3 : Int)) = ((r / 3 : Nat) : Int) := by
        rw [show Int.tdiv (r : Int) (3 : Int) = ((r / 3 : Nat) : Int) from rfl]
        exact wrap_nat (by omega)
      have e2 : ints ns ++ [[V.int .i64 ((vd B (r % 3) : Nat) : Int)]] = ints (ns ++ [((vd B (r % 3) : Nat) : Int)]) := by rw [ints_append]; rfl
      rw [dlt hlt, vals_get, vals_in, hf, hroom, e1, wrap_succ (show i < 2 ^ 61 by omega), e2]
      simp only [cond_true, Bool.and_self, grd, Option.bind_some]
      rw [rleq_loop2 call n rec1 hP B N k ka na xa kb nb xb σ ha hb m (i + 1) (r / 3) _ (by omega) (by omega) (by omega) (by simp [hn])]
      have e3 : P.length - i = (P.length - (i + 1)) + 1 := by omega
      have e4 : (ns ++ [((vd B (r % 3) : Nat) : Int)]) ++ nsV B (P.length - (i + 1)) (r / 3) = ns ++ nsV B (P.length - i) r := by
        rw [e3, List.append_assoc]; rfl
      rw [e4]
    · have e0 : P.length - i = 0 := by omega
      have e1 : ns ++ nsV B (P.length - i) r = ns := by rw [e0]; exact List.append_nil _
      have hl : ns.length = P.length := by omega
      rw [dnlt hlt, e1]
      simp only [cond_false, callK_ret1 (ha ns hl), callK_ret1 (hb ns hl), List.getD_cons_zero, V.asInt, if_true, Option.bind_some]
open Classical in
theorem rleq_loop1 (call : CallF) (n : Nat) {P : List ByteArray} (hP : P.length ≤ 6) (hn : 7 ≤ n) (B : Nat) {N : Nat} (hN : N < 2 ^ 60) (ka : Int) (na : ByteArray) (xa : List (List V)) (kb : Int) (nb : ByteArray) (xb : List (List V)) (σ : Sto) {wa wb : List Int → Int}
    (ha : ∀ ns : List Int, ns.length = P.length → call 16 [(.agg [.int .i64 ka, .str na, .slice 3 29 xa], false), (.slice 1 9 (strs P), false), (.slice 1 3 (ints ns), false)] σ = some (.ret [(.int .i64 (wa ns), false)], σ))
    (hb : ∀ ns : List Int, ns.length = P.length → call 16 [(.agg [.int .i64 kb, .str nb, .slice 3 29 xb], false), (.slice 1 9 (strs P), false), (.slice 1 3 (ints ns), false)] σ = some (.ret [(.int .i64 (wb ns), false)], σ)) :
    ∀ (m k : Nat), k ≤ N → N - k < m →
      rleql1 call n m (.slice 1 9 (strs P)) (ints [0, 1, (B : Int)]) N k ka na xa kb nb xb σ = some (.ret [(.bool (decide (∀ j, k ≤ j → j < N → wa (nsV B P.length j) ≤ wb (nsV B P.length j))), false)], σ)
  | 0, k, _, hm => by omega
  | m + 1, k, hk, hm => by
    show rleqs1 call (rleql2 call n (rleql1 call n m) n) (rleql1 call n m) _ _ _ _ _ _ _ _ _ _ σ = _
    unfold rleqs1
    by_cases hlt : k < N
    · rw [dlt hlt]
      simp only [cond_true]
      have h2 := rleq_loop2 call n (rleql1 call n m) hP B N k ka na xa kb nb xb σ ha hb n 0 k [] (Nat.zero_le _) (by omega) (by omega) rfl
      have h2' : rleql2 call n (rleql1 call n m) n (.slice 1 9 (strs P)) (ints [0, 1, (B : Int)]) N k [] k (0 : Int) ka na xa kb nb xb σ = bif decide (wa (nsV B P.length k) > wb (nsV B P.length k)) then some (.ret [(.bool false, false)], σ) else rleql1 call n m (.slice 1 9 (strs P)) (ints [0, 1, (B : Int)]) N (IntKind.wrap .i64 ((k : Int) + 1)) ka na xa kb nb xb σ := h2
      rw [h2', wrap_succ (show k < 2 ^ 61 by omega), rleq_loop1 call n hP hn B hN ka na xa kb nb xb σ ha hb m (k + 1) (by omega) (by omega)]
      by_cases hg : wa (nsV B P.length k) > wb (nsV B P.length k)
      · rw [decide_eq_true hg, cond_true]
        have : ¬ ∀ j, k ≤ j → j < N → wa (nsV B P.length j) ≤ wb (nsV B P.length j) := fun h => by have := h k (Nat.le_refl _) hlt; omega
        rw [decide_eq_false this]
      · rw [decide_eq_false hg, cond_false]
        have e : (∀ j, k + 1 ≤ j → j < N → wa (nsV B P.length j) ≤ wb (nsV B P.length j)) ↔ ∀ j, k ≤ j → j < N → wa (nsV B P.length j) ≤ wb (nsV B P.length j) :=
          ⟨fun h j h1 h2 => by
            rcases Nat.lt_or_ge k j with h3 | h3
            · exact h j h3 h2
            · obtain rfl : j = k := by omega
              omega, fun h j h1 h2 => h j (by omega) h2⟩
        rw [show decide (∀ j, k + 1 ≤ j → j < N → wa (nsV B P.length j) ≤ wb (nsV B P.length j)) = decide (∀ j, k ≤ j → j < N → wa (nsV B P.length j) ≤ wb (nsV B P.length j)) from decide_eq_decide.2 e]
    · rw [dnlt hlt, cond_false]
      have : ∀ j, k ≤ j → j < N → wa (nsV B P.length j) ≤ wb (nsV B P.length j) := fun j h1 h2 => by omega
      rw [decide_eq_true this]
theorem rleq_loop0 (call : CallF) (n : Nat) {P : List ByteArray} (hP : P.length ≤ 6) (vs : List (List V)) (ka : Int) (na : ByteArray) (xa : List (List V)) (kb : Int) (nb : ByteArray) (xb : List (List V)) (σ : Sto) :
    ∀ (m i all : Nat), i ≤ P.length → P.length - i < m → all ≤ 3 ^ i →
      rleql0 call n m (.slice 1 9 (strs P)) vs all i ka na xa kb nb xb σ = rleql1 call n n (.slice 1 9 (strs P)) vs ((all * 3 ^ (P.length - i) : Nat) : Int) (0 : Int) ka na xa kb nb xb σ
  | 0, i, _, _, hm, _ => by omega
  | m + 1, i, all, hi, hm, ha => by
    show rleqs0 call (rleql1 call n n) (rleql0 call n m) _ _ _ _ _ _ _ _ _ _ σ = _
    unfold rleqs0
    have hsl : V.asSlice (.slice 1 9 (strs P)) 1 9 = some (strs P) := rfl
    rw [hsl, Option.bind_some, strs_length]
    by_cases hlt : i < P.length
    · have h3 : 3 ^ i ≤ 3 ^ 6 := Nat.pow_le_pow_right (by omega) (by omega)
      have e1 : IntKind.wrap .i64 ((all : Int) * (3 : Int)) = ((all * 3 : Nat) : Int) := by
        rw [show (all : Int) * (3 : Int) = ((all * 3 : Nat) : Int) from rfl]
        exact wrap_nat (by omega)
      rw [dlt hlt, cond_true, e1, wrap_succ (show i < 2 ^ 61 by omega), rleq_loop0 call n hP vs ka na xa kb nb xb σ m (i + 1) _ (by omega) (by omega) (by rw [Nat.pow_succ]; omega)]
      have e2 : P.length - i = (P.length - (i + 1)) + 1 := by omega
      rw [e2, Nat.pow_succ, Nat.mul_assoc, Nat.mul_comm 3]
    · have e0 : P.length - i = 0 := by omega
      rw [dnlt hlt, cond_false, e0]
      simp
open Classical in
theorem rleq_law {a b : Lv} (ha : a.size < 2 ^ 31) (hb : b.size < 2 ^ 31) (hP : (rparamsV b (rparamsV a [])).length ≤ 6) (σ : Sto) :
    lim C 9 [(.agg [.int .i64 a.kind, .str a.name, .slice 3 29 a.args], false), (.agg [.int .i64 b.kind, .str b.name, .slice 3 29 b.args], false)] σ = some (.ret [(.bool (decide (a.Leq b)), false)], σ) :=
  rleq_lim (n := 1000) <| by
    have sa := sucs_size a
    have sb := sucs_size b
    have la := rparamsV_length a []
    have h1 := rparams_law σ a [] (by simp; omega)
    have h2 := rparams_law σ b (rparamsV a []) (by simp at la; omega)
    have h3 := succs_law σ a (by omega)
    have h4 := succs_law σ b (by omega)
    generalize hPd : rparamsV b (rparamsV a []) = P at hP h2
    have inA : ∀ s ∈ a.pars, s ∈ P := fun s hs => by rw [← hPd, rparams_mem, rparams_mem]; exact .inl (.inr hs)
    have inB : ∀ s ∈ b.pars, s ∈ P := fun s hs => by rw [← hPd, rparams_mem]; exact .inr hs
    have h1' : lim C 6 [(.agg [.int .i64 a.kind, .str a.name, .slice 3 29 a.args], false), (.slice 1 9 [], true)] σ = some (.ret [(.slice 1 9 (strs (rparamsV a [])), true)], σ) := h1
    have e1 : IntKind.wrap .i64 (IntKind.wrap .i64 ((2 : Int) + (a.sucs : Int)) + (b.sucs : Int)) = ((2 + a.sucs + b.sucs : Nat) : Int) := by
      rw [show IntKind.wrap .i64 ((2 : Int) + (a.sucs : Int)) = ((2 + a.sucs : Nat) : Int) from wrap_add (a := 2) (by omega)]
      exact wrap_add (by omega)
    have e2 : ([[V.int .i64 (0 : Int)], [V.int .i64 (1 : Int)], [V.int .i64 ((2 + a.sucs + b.sucs : Nat) : Int)]] : List (List V)) = ints [0, 1, ((2 + a.sucs + b.sucs : Nat) : Int)] := rfl
    simp only [rleq, rleqF, callK_ret1 h1', callK_ret1 h2, callK_ret1 h3, callK_ret1 h4, List.getD_cons_zero, Bool.and_self, grd, cond_true, Option.bind_some, V.asInt, if_true, e1, e2]
    have h5 := rleq_loop0 (lim C) 1000 hP (ints [0, 1, ((2 + a.sucs + b.sucs : Nat) : Int)]) a.kind a.name a.args b.kind b.name b.args σ 1000 0 1 (Nat.zero_le _) (by omega) (by simp)
    have h3' : 3 ^ P.length ≤ 3 ^ 6 := Nat.pow_le_pow_right (by omega) hP
    have h6 := rleq_loop1 (lim C) 1000 hP (by omega) (2 + a.sucs + b.sucs) (N := 1 * 3 ^ (P.length - 0)) (by simp only [Nat.sub_zero, Nat.one_mul]; omega) a.kind a.name a.args b.kind b.name b.args σ
      (fun ns hl => rworth_law hl.symm (by omega) σ a false false) (fun ns hl => rworth_law hl.symm (by omega) σ b false false) 1000 0 (Nat.zero_le _) (by simp only [Nat.sub_zero, Nat.one_mul]; omega)
    refine (h5.trans h6).trans ?_
    have h7 := tests_iff inA inB (by omega)
    have h8 : (∀ j, 0 ≤ j → j < 1 * 3 ^ (P.length - 0) → rworthV P (nsV (2 + a.sucs + b.sucs) P.length j) a ≤ rworthV P (nsV (2 + a.sucs + b.sucs) P.length j) b) ↔ a.Leq b := by
      rw [← h7]
      simp only [Nat.zero_le, forall_const, Nat.sub_zero, Nat.one_mul]
    rw [show decide (∀ j, 0 ≤ j → j < 1 * 3 ^ (P.length - 0) → rworthV P (nsV (2 + a.sucs + b.sucs) P.length j) a ≤ rworthV P (nsV (2 + a.sucs + b.sucs) P.length j) b) = decide (a.Leq b) from decide_eq_decide.2 h8]
open Classical in
theorem rsame_law {a b : Lv} (ha : a.size < 2 ^ 31) (hb : b.size < 2 ^ 31) (hP : (rparamsV a (rparamsV b [])).length ≤ 6) (σ : Sto) :
    lim C 10 [(.agg [.int .i64 a.kind, .str a.name, .slice 3 29 a.args], false), (.agg [.int .i64 b.kind, .str b.name, .slice 3 29 b.args], false)] σ = some (.ret [(.bool (decide (a.Leq b) && decide (b.Leq a)), false)], σ) :=
  rsame_lim (n := 0) <| by
    have h1 := rleq_law ha hb (Nat.le_trans (params_len a b) hP) σ
    have h2 := rleq_law hb ha hP σ
    simp only [rsame, rsameF, callK_ret1 h1, callK_ret1 h2, List.getD_cons_zero, V.asBool, Option.bind_some]
    cases decide (a.Leq b) <;> rfl
end Go.Ab.Mk
end
section
namespace Go.Ab
open Go.ChangeShapes Go.WideShapes

/-- The beginning: all that lies there is settled, nobody holds anything. -/
def G0 (w : World) (B : Nat) : Gh := { N := 0, μ := id, lim := fun i => if i < w.heap.size then B else 0, owner := fun _ => none, ty := fun _ => 0 }
theorem G0_wf (w : World) (B : Nat) : WF (G0 w B) w := fun i hi => ⟨if_neg (by omega), rfl⟩
theorem below_of_ext {w w' : World} {B : Nat} {G' : Gh} (h : Ext (G0 w B) w G' w') : RowKit.Below w.heap.size w w' := ⟨h.os, h.tape, h.output, h.size, fun k hk => (h.old k hk rfl).1⟩
theorem G0_clean (w : World) (B n : Nat) : Clean (G0 w B) n := fun i p hp => by simp [G0] at hp
theorem G0_sinv {gl : Nat → Option (List V)} {w : World} {B : Nat} (h : ∀ (g : Nat) (cs : List V), gl g = some cs → Rel (G0 w B) w (.eptr cs.length cs 0) (.pointer (some ⟨g, 0, none⟩))) : SInv gl (G0 w B) w [] :=
  ⟨G0_wf w B, h, rfl, fun b hb => by simp at hb, fun b cs hb => by simp at hb⟩

/-- An Op's cells: five plain values and what they are. -/
structure OpV where
  k : Int
  s : ByteArray
  t : ByteArray
  u : ByteArray
  a : Int
  b : Int
def OpV.enc (o : OpV) : List V := [.int .i64 o.k, .str o.s, .str o.t, .str o.u, .int .i64 o.a, .int .i64 o.b]
def OpV.vals (o : OpV) : List Value := [.int .i64 o.k, .string o.s, .string o.t, .string o.u, .int .i64 o.a, .int .i64 o.b]
/-- What is known of an Op that can be read. -/
structure OpV.Fits (o : OpV) : Prop where
  s : o.s.size ≤ maxLen
  t : o.t.size ≤ maxLen
  u : o.u.size ≤ maxLen
  a : (Lit.int .i64 o.a).wf = true
  b : (Lit.int .i64 o.b).wf = true
/-- What an Op reads as. -/
def OpV.data {H : Type} (o : OpV) : DataW H := .agg [.lit (.int .i64 o.k), .lit (.string o.s.data.toList), .lit (.string o.t.data.toList), .lit (.string o.u.data.toList), .lit (.int .i64 o.a), .lit (.int .i64 o.b)]

section
variable {H : Type} {enc : TypeId × Value → H} {P : Program} {W : World} {sp : Nat → Bool} {held : Bool}

structure OpTy (P : Program) (tS tOp tInt tStr : TypeId) : Prop where
  hS : P.underlying tS = some (.slice tOp)
  hOp : ∃ fs, P.underlying tOp = some (.struct fs) ∧ fs.toList.map (fun f => (f.type, f.offset)) = [(tInt, 0), (tStr, 1), (tStr, 2), (tStr, 3), (tInt, 4), (tInt, 5)]
  hInt : P.underlying tInt = some (.int .i64)
  hStr : P.underlying tStr = some .string
  cOp : P.cellsOf tOp = 6
  cInt : P.cellsOf tInt = 1
  cStr : P.cellsOf tStr = 1

theorem op_read {tS tOp tInt tStr : TypeId} (T : OpTy P tS tOp tInt tStr) {n : Nat} {cs : List Value} {x : DataW H × List MemPlace} (h : DataW.trod enc P W 0 sp held n tOp cs = some x) :
    ∃ o : OpV, cs = o.vals ∧ o.Fits ∧ x.1 = o.data := by
  obtain ⟨fs, hu, hf⟩ := T.hOp
  obtain ⟨xs, m, _, hx, hl, hxl, hall⟩ := DataW.trod_struct hu h
  rw [T.cOp] at hl
  have hfl : fs.toList.length = 6 := by have := congrArg List.length hf; simpa using this
  have fget : ∀ (i : Nat) (ty : TypeId) (off : Nat), (fs.toList.map (fun f => (f.type, f.offset)))[i]? = some (ty, off) → DataW.trod enc P W 0 sp held m ty ((cs.drop off).take (P.cellsOf ty)) = xs[i]? := by
    intro i ty off hi
    simp only [List.getElem?_map, Option.map_eq_some_iff] at hi
    obtain ⟨f, h1, h2⟩ := hi
    have := hall i f (by simpa using h1)
    simp only [Prod.mk.injEq] at h2
    rw [h2.1, h2.2] at this
    exact this
  obtain ⟨c0, c1, c2, c3, c4, c5, rfl⟩ : ∃ c0 c1 c2 c3 c4 c5, cs = [c0, c1, c2, c3, c4, c5] := by
    match cs, hl with
    | [c0, c1, c2, c3, c4, c5], _ => exact ⟨c0, c1, c2, c3, c4, c5, rfl⟩
  · have hxs : xs.length = 6 := by rw [hxl]; simpa using hfl
    obtain ⟨x0, x1, x2, x3, x4, x5, rfl⟩ : ∃ x0 x1 x2 x3 x4 x5, xs = [x0, x1, x2, x3, x4, x5] := by
      match xs, hxs with
      | [x0, x1, x2, x3, x4, x5], _ => exact ⟨x0, x1, x2, x3, x4, x5, rfl⟩
    have e0 := fget 0 tInt 0 (by rw [hf]; rfl)
    have e1 := fget 1 tStr 1 (by rw [hf]; rfl)
    have e2 := fget 2 tStr 2 (by rw [hf]; rfl)
    have e3 := fget 3 tStr 3 (by rw [hf]; rfl)
    have e4 := fget 4 tInt 4 (by rw [hf]; rfl)
    have e5 := fget 5 tInt 5 (by rw [hf]; rfl)
    rw [T.cInt] at e0 e4 e5
    rw [T.cStr] at e1 e2 e3
    · obtain ⟨n0, h0, y0, _⟩ := DataW.trod_int T.hInt (e0.trans rfl)
      obtain ⟨s1, h1, y1, g1⟩ := DataW.trod_string T.hStr (e1.trans rfl)
      obtain ⟨s2, h2, y2, g2⟩ := DataW.trod_string T.hStr (e2.trans rfl)
      obtain ⟨s3, h3, y3, g3⟩ := DataW.trod_string T.hStr (e3.trans rfl)
      obtain ⟨n4, h4, y4, g4⟩ := DataW.trod_int T.hInt (e4.trans rfl)
      obtain ⟨n5, h5, y5, g5⟩ := DataW.trod_int T.hInt (e5.trans rfl)
      simp at h0 h1 h2 h3 h4 h5
      subst h0 h1 h2 h3 h4 h5
      refine ⟨⟨n0, s1, s2, s3, n4, n5⟩, rfl, ⟨g1, g2, g3, g4, g5⟩, ?_⟩
      rw [hx, y0, y1, y2, y3, y4, y5]
      rfl

theorem script_rel {tS tOp tInt tStr : TypeId} (T : OpTy P tS tOp tInt tStr) {b0 : Nat} {v : Value} {d : DataW H} {ps : List MemPlace} (hval : Value.okWide P W .any b0 tS v) (h : DataW.Trod enc P W 0 sp held tS v d ps) :
    ∃ (L : List OpV) (B0 : Nat), (∀ B, B0 ≤ B → Rel (G0 W B) W (.slice 6 tOp (L.map OpV.enc)) v) ∧ L.length ≤ maxLen ∧ (∀ o ∈ L, o.Fits) ∧ ((d = .nil ∧ L = []) ∨ ∃ rest, d = .slice (L.map OpV.data) rest) := by
  obtain ⟨fuel, hd⟩ := h
  rcases DataW.trod_slice T.hS hd with ⟨h0, h1⟩ | ⟨a, len, cap, elems, rest, n, _, hcs, hx, _, hlc, hm, hlen, hel, _, _⟩
  · have hv : v = .slice none 0 0 := by
      have hk : Value.okWide P W .any b0 tS v := hval
      unfold Value.okWide at hk
      rw [T.hS] at hk
      cases v <;> simp [Value.cells] at h0 <;> first | exact congr (congr (congrArg Value.slice h0.1) h0.2.1) h0.2.2 | skip
      all_goals (simp [Cell.okWide, Cell.ok, T.hS] at hk)
    subst hv
    simp only [Prod.mk.injEq] at h1
    exact ⟨[], 0, fun B _ => .snil _ _, Nat.zero_le _, by simp, .inl ⟨h1.1, rfl⟩⟩
  · have hv : v = .slice (some a) len cap := by
      have hk : Value.okWide P W .any b0 tS v := hval
      unfold Value.okWide at hk
      rw [T.hS] at hk
      cases v <;> simp [Value.cells] at hcs <;> first | exact congr (congr (congrArg Value.slice hcs.1) hcs.2.1) hcs.2.2 | skip
      all_goals (simp [Cell.okWide, Cell.ok, T.hS] at hk)
    subst hv
    have hk : Cell.ok P W .any b0 tS (.slice (some a) len cap) := by
      have hk : Value.okWide P W .any b0 tS (.slice (some a) len cap) := hval
      unfold Value.okWide at hk
      rw [T.hS] at hk
      simpa [Cell.okWide, T.hS] using hk
    simp only [Cell.ok, T.hS] at hk
    obtain ⟨_, _, _, hsp, row, cells, hshape, _⟩ := hk
    obtain ⟨b, off, spot⟩ := a
    simp only at hsp hshape
    subst hsp
    have hblt : b < W.heap.size := by
      rcases Nat.lt_or_ge b W.heap.size with h | h
      · exact h
      · simp [World.shape?, Array.getElem?_eq_none h] at hshape
    have each : ∀ i, i < len → ∃ o : OpV, o.Fits ∧ (elems[i]?).map (·.1) = some o.data ∧ ∀ j, j < 6 → W.cell? ⟨b, off + i * 6 + j, none⟩ = o.vals[j]? := by
      intro i hi
      have he := hel i hi
      obtain ⟨y, hy⟩ : ∃ y, elems[i]? = some y := ⟨elems[i], List.getElem?_eq_getElem (by omega)⟩
      rw [hy, Option.bind_eq_some_iff, T.cOp, add_plain] at he
      obtain ⟨cs, hc, ht⟩ := he
      obtain ⟨o, rfl, hf, hdat⟩ := op_read T ht
      refine ⟨o, hf, by rw [hy, ← hdat]; rfl, fun j hj => ?_⟩
      have := (World.cells?_some hc).2.2 j hj
      rw [add_plain] at this
      exact this
    classical
    let f : Nat → OpV := fun i => if h : i < len then (each i h).choose else ⟨0, default, default, default, 0, 0⟩
    have hf : ∀ i, i < len → (f i).Fits ∧ (elems[i]?).map (·.1) = some (f i).data ∧ ∀ j, j < 6 → W.cell? ⟨b, off + i * 6 + j, none⟩ = (f i).vals[j]? := by
      intro i hi
      simp only [f, dif_pos hi]
      exact (each i hi).choose_spec
    refine ⟨(List.range len).map f, off + len * 6, fun B hB => ?_, by simp; omega, fun o ho => ?_, .inr ⟨rest.map (·.1), ?_⟩⟩
    · have := Rel.slice (G := G0 W B) (w := W) 6 tOp (((List.range len).map f).map OpV.enc) b off cap (((List.range len).map f).map OpV.vals) (by simp) (by simpa using hlc)
        (by simp only [G0, List.length_map, List.length_range, if_pos hblt]; exact hB)
        (fun i e he => by
          simp only [List.getElem?_map, Option.map_eq_some_iff] at he
          obtain ⟨_, _, rfl⟩ := he
          rfl)
        (fun i e he => by
          simp only [List.getElem?_map, Option.map_eq_some_iff] at he
          obtain ⟨_, _, rfl⟩ := he
          rfl)
        (fun i j x c hx hc => by
          simp only [List.getElem?_map, Option.map_eq_some_iff] at hx
          obtain ⟨o, ⟨k, hk, rfl⟩, rfl⟩ := hx
          obtain ⟨hk1, hk2⟩ := List.getElem?_eq_some_iff.1 hk
          simp only [List.length_range] at hk1
          simp only [List.getElem_range] at hk2
          subst hk2
          have hj : j < 6 := by have := (List.getElem?_eq_some_iff.1 hc).1; exact this
          refine ⟨by rw [(hf i hk1).2.2 j hj]; exact hc, ?_⟩
          match j, hj with
          | 0, _ => simp [OpV.vals] at hc; subst hc; rfl
          | 1, _ => simp [OpV.vals] at hc; subst hc; rfl
          | 2, _ => simp [OpV.vals] at hc; subst hc; rfl
          | 3, _ => simp [OpV.vals] at hc; subst hc; rfl
          | 4, _ => simp [OpV.vals] at hc; subst hc; rfl
          | 5, _ => simp [OpV.vals] at hc; subst hc; rfl)
        (fun i j e x v c he hx hv hc => by
          simp only [List.getElem?_map, Option.map_eq_some_iff] at he hx
          obtain ⟨o, ⟨k, hk, rfl⟩, rfl⟩ := hx
          obtain ⟨o', ⟨k', hk', rfl⟩, rfl⟩ := he
          rw [hk] at hk'
          obtain rfl := Option.some.inj hk'
          match j with
          | 0 => simp [OpV.vals, OpV.enc] at hc hv; subst hc; subst hv; exact .int _ _
          | 1 => simp [OpV.vals, OpV.enc] at hc hv; subst hc; subst hv; exact .str _
          | 2 => simp [OpV.vals, OpV.enc] at hc hv; subst hc; subst hv; exact .str _
          | 3 => simp [OpV.vals, OpV.enc] at hc hv; subst hc; subst hv; exact .str _
          | 4 => simp [OpV.vals, OpV.enc] at hc hv; subst hc; subst hv; exact .int _ _
          | 5 => simp [OpV.vals, OpV.enc] at hc hv; subst hc; subst hv; exact .int _ _
          | j + 6 => simp [OpV.vals] at hc)
      simpa using this
    · simp only [List.mem_map, List.mem_range] at ho
      obtain ⟨i, hi, rfl⟩ := ho
      exact (hf i hi).1
    · simp only [Prod.mk.injEq] at hx
      rw [hx.1]
      congr 1
      apply List.ext_getElem?
      intro i
      by_cases hi : i < len
      · rw [List.getElem?_map, (hf i hi).2.1]
        simp [hi]
      · rw [List.getElem?_eq_none (by simp; omega), List.getElem?_eq_none (by simp; omega)]

theorem op_weights {tS tOp tInt tStr : TypeId} (T : OpTy P tS tOp tInt tStr) (o : OpV) : (o.data : DataW H).weights P tOp = [o.s.data.toList.length, o.t.data.toList.length, o.u.data.toList.length] := by
  obtain ⟨fs, hu, hf⟩ := T.hOp
  have ht : fs.toList.map (·.type) = [tInt, tStr, tStr, tStr, tInt, tInt] := by
    have := congrArg (List.map Prod.fst) hf
    rw [List.map_map] at this
    exact this
  simp only [OpV.data, DataW.weights, hu, ht, DataW.weightsEach]
  rfl
theorem weightsAll_mem {tOp : TypeId} : ∀ {l : List (DataW H)} {d : DataW H} {n : Nat}, d ∈ l → n ∈ d.weights P tOp → n ∈ DataW.weightsAll P tOp l
  | [], _, _, h, _ => by simp at h
  | x :: l, d, n, h, hn => by
    simp only [DataW.weightsAll, List.mem_append]
    rcases List.mem_cons.1 h with rfl | h
    · exact .inl hn
    · exact .inr (weightsAll_mem h hn)
/-- The sizes of what is handed in. -/
theorem script_sized {tS tOp tInt tStr : TypeId} (T : OpTy P tS tOp tInt tStr) (hb : 0 < P.bytesOf tOp) {L : List OpV} {d : DataW H} (hd : (d = .nil ∧ L = []) ∨ ∃ rest, d = .slice (L.map OpV.data) rest)
    (h : (DataW.weightsEach P [tS] [d]).all (· ≤ reachBytes) = true) : L.length < 2 ^ 47 ∧ ∀ o ∈ L, o.s.size < 2 ^ 47 ∧ o.t.size < 2 ^ 47 ∧ o.u.size < 2 ^ 47 := by
  have hr : reachBytes < 2 ^ 47 := by decide
  rcases hd with ⟨_, rfl⟩ | ⟨rest, rfl⟩
  · exact ⟨by simp, by simp⟩
  · rw [List.all_eq_true] at h
    simp only [DataW.weightsEach, DataW.weights, T.hS, List.append_nil] at h
    refine ⟨?_, fun o ho => ?_⟩
    · have := h _ (List.mem_cons_self ..)
      simp only [decide_eq_true_eq, List.length_map] at this
      have h2 : L.length * 1 ≤ (L.length + rest.length) * P.bytesOf tOp := Nat.mul_le_mul (Nat.le_add_right _ _) hb
      omega
    · have key : ∀ n ∈ (o.data : DataW H).weights P tOp, n ≤ reachBytes := by
        intro n hn
        have := h n (List.mem_cons_of_mem _ (List.mem_append_left _ (weightsAll_mem (List.mem_map_of_mem ho) hn)))
        simpa using this
      rw [op_weights T o] at key
      have k1 := key o.s.data.toList.length (by simp)
      have k2 := key o.t.data.toList.length (by simp)
      have k3 := key o.u.data.toList.length (by simp)
      rw [Array.length_toList] at k1 k2 k3
      exact ⟨Nat.lt_of_le_of_lt k1 hr, Nat.lt_of_le_of_lt k2 hr, Nat.lt_of_le_of_lt k3 hr⟩

/-- A table of strings. -/
theorem strTab {base : Nat} {fuel : Nat} {t e : TypeId} {n : Nat} {cs : List Value} {p : List MemPlace} {d : DataW H}
    (ht : P.underlying t = some (.array n e)) (he : P.underlying e = some .string) (hce : P.cellsOf e = 1) (hct : P.cellsOf t = n) (ss : List ByteArray) (hd : d = .agg (ss.map fun s => .lit (.string s.data.toList)))
    (h : DataW.trod enc P W base sp held fuel t cs = some (d, p)) : cs = ss.map Value.string := by
  subst hd
  cases fuel with
  | zero => simp [DataW.trod] at h
  | succ fuel =>
    simp only [DataW.trod, ht, hce, hct, Nat.mul_one] at h
    split at h
    · rename_i hl
      obtain ⟨xs, hm, hx⟩ := Option.map_eq_some_iff.1 h
      have hxs : xs.map (·.1) = ss.map fun s => (DataW.lit (.string s.data.toList) : DataW H) := by
        have := congrArg Prod.fst hx
        simpa using this
      have hxl : xs.length = n := by simpa using Lib.mapM_length hm
      have hsl : ss.length = n := by
        have := congrArg List.length hxs
        simp at this
        omega
      apply List.ext_getElem?
      intro i
      by_cases hi : i < n
      · obtain ⟨y, hy, hy2⟩ := Lib.mapM_at hm i i (by simp [hi])
        obtain ⟨s, h1, h2, _⟩ := DataW.trod_string he hy2
        have hci : cs[i]? = some (.string s) := by
          have hlt : i < cs.length := by omega
          have : (cs.drop i).take 1 = [cs[i]] := by
            rw [List.drop_eq_getElem_cons hlt]; rfl
          rw [this] at h1
          rw [List.getElem?_eq_getElem hlt]
          simpa using h1
        have hs : (xs.map (·.1))[i]? = some (DataW.lit (.string s.data.toList)) := by rw [List.getElem?_map, hy, h2]; rfl
        rw [hxs, List.getElem?_map, Option.map_eq_some_iff] at hs
        obtain ⟨s', h3, h4⟩ := hs
        have h5 : s'.data.toList = s.data.toList := by simpa using h4
        have : s' = s := by
          apply ByteArray.ext
          exact Array.toList_inj.1 h5
        rw [hci, List.getElem?_map, h3, this]; rfl
      · rw [List.getElem?_eq_none (by omega), List.getElem?_eq_none (by simp; omega)]
    · simp at h
/-- A table of strings, read as a context's variable. -/
theorem tab_rel {B : Nat} {g : Nat} {ss : List ByteArray} (hg : ∀ i s, ss[i]? = some s → W.cell? ⟨g, i, none⟩ = some (.string s)) (hlt : g < W.heap.size) (hB : ss.length ≤ B) :
    Rel (G0 W B) W (.eptr (ss.map V.str).length (ss.map V.str) 0) (.pointer (some ⟨g, 0, none⟩)) := by
  have := Rel.eptr (G := G0 W B) (w := W) (ss.map V.str).length (ss.map V.str) 0 g 0 (ss.map Value.string) rfl (by simp) (by simp only [G0, if_pos hlt, List.length_map]; omega)
    (fun i c hc => by
      simp only [List.getElem?_map, Option.map_eq_some_iff] at hc
      obtain ⟨s, hs, rfl⟩ := hc
      exact ⟨by rw [Nat.zero_add]; exact hg i s hs, rfl⟩)
    (fun i v c hv hc => by
      simp only [List.getElem?_map, Option.map_eq_some_iff] at hv hc
      obtain ⟨s, hs, rfl⟩ := hv
      obtain ⟨s', hs', rfl⟩ := hc
      rw [hs] at hs'
      obtain rfl := Option.some.inj hs'
      exact .str _)
  simpa using this
/-- A slice of strings that is laid: where its row lies. -/
theorem strSlice {base : Nat} {fuel : Nat} {t e : TypeId} {cs : List Value} {p : List MemPlace} {d : DataW H}
    (ht : P.underlying t = some (.slice e)) (he : P.underlying e = some .string) (hce : P.cellsOf e = 1) (ss : List ByteArray) (hne : 0 < ss.length) (hd : d = .slice (ss.map fun s => .lit (.string s.data.toList)) [])
    (h : DataW.trod enc P W base sp held fuel t cs = some (d, p)) :
    ∃ b off cap, cs = [.slice (some ⟨b, off, none⟩) ss.length cap] ∧ ss.length ≤ cap ∧ b < W.heap.size ∧ ∀ i s, ss[i]? = some s → W.cell? ⟨b, off + i, none⟩ = some (.string s) := by
  subst hd
  rcases DataW.trod_slice ht h with ⟨_, h1⟩ | ⟨a, len, cap, elems, rest, n, _, hcs, hx, _, hlc, hm, hlen, hel, _, _⟩
  · simp at h1
  · simp only [Prod.mk.injEq] at hx
    have hx1 := hx.1
    injection hx1 with hx1 hx2
    have hlen2 : ss.length = len := by
      have := congrArg List.length hx1
      simp only [List.length_map] at this
      omega
    have each : ∀ i s, ss[i]? = some s → W.cell? (a.add i) = some (.string s) := by
      intro i s hs
      have hi : i < ss.length := (List.getElem?_eq_some_iff.1 hs).1
      have hei := hel i (by omega)
      obtain ⟨y, hy⟩ : ∃ y, elems[i]? = some y := ⟨elems[i], List.getElem?_eq_getElem (by omega)⟩
      rw [hy, Option.bind_eq_some_iff, hce, Nat.mul_one] at hei
      obtain ⟨c1, hc, htr⟩ := hei
      obtain ⟨s', g1, g2, _⟩ := DataW.trod_string he htr
      have hcc := (World.cells?_some hc).2.2 0 (by omega)
      have hdat : (elems.map (·.1))[i]? = some (DataW.lit (.string s'.data.toList)) := by rw [List.getElem?_map, hy, g2]; rfl
      rw [← hx1, List.getElem?_map, hs] at hdat
      have h5 : s.data.toList = s'.data.toList := by simpa using hdat
      have : s = s' := by
        apply ByteArray.ext
        exact Array.toList_inj.1 h5
      rw [this]
      have e0 : (a.add i).add 0 = a.add i := by simp [Addr.add]
      rw [e0] at hcc
      have g1' : c1 = [.string s'] := by simpa using g1
      rw [hcc, g1']; rfl
    have h0 := each 0 ss[0] (List.getElem?_eq_getElem hne)
    obtain ⟨b, off, spot⟩ := a
    have hsp : spot = none := by
      have e0 : (⟨b, off, spot⟩ : Addr).add 0 = ⟨b, off, spot⟩ := by simp [Addr.add]
      rw [e0] at h0
      unfold World.cell? at h0
      split at h0
      · cases spot with
        | none => rfl
        | some z => simp at h0
      · simp at h0
    subst hsp
    refine ⟨b, off, cap, by rw [hlen2]; exact hcs, by omega, ?_, fun i s hs => ?_⟩
    · have e0 : (⟨b, off, none⟩ : Addr).add 0 = ⟨b, off, none⟩ := by simp [Addr.add]
      rw [e0] at h0
      exact World.block_lt_of_cell? _ _ h0
    · have := each i s hs
      rw [add_plain] at this
      exact this
/-- It is read as a context's variable. -/
theorem strSlice_rel {B : Nat} {g : Nat} {ss : List ByteArray} {b off cap : Nat} {e : TypeId} (hg : W.cell? ⟨g, 0, none⟩ = some (.slice (some ⟨b, off, none⟩) ss.length cap)) (hlt : g < W.heap.size) (hb : b < W.heap.size) (hcap : ss.length ≤ cap)
    (hc : ∀ i s, ss[i]? = some s → W.cell? ⟨b, off + i, none⟩ = some (.string s)) (hB1 : 1 ≤ B) (hB : off + ss.length ≤ B) :
    Rel (G0 W B) W (.eptr 1 [V.slice 1 e (ss.map fun s => [V.str s])] 0) (.pointer (some ⟨g, 0, none⟩)) := by
  have hr : Rel (G0 W B) W (.slice 1 e (ss.map fun s => [V.str s])) (.slice (some ⟨b, off, none⟩) ss.length cap) := by
    have := Rel.slice (G := G0 W B) (w := W) 1 e (ss.map fun s => [V.str s]) b off cap (ss.map fun s => [Value.string s]) (by simp) (by simpa using hcap)
      (by simp only [G0, List.length_map, if_pos hb]; omega)
      (fun i e he => by
        simp only [List.getElem?_map, Option.map_eq_some_iff] at he
        obtain ⟨_, _, rfl⟩ := he
        rfl)
      (fun i e he => by
        simp only [List.getElem?_map, Option.map_eq_some_iff] at he
        obtain ⟨_, _, rfl⟩ := he
        rfl)
      (fun i j x c hx hcc => by
        simp only [List.getElem?_map, Option.map_eq_some_iff] at hx
        obtain ⟨s, hs, rfl⟩ := hx
        match j with
        | 0 => simp at hcc; subst hcc; exact ⟨by rw [show off + i * 1 + 0 = off + i by omega]; exact hc i s hs, rfl⟩
        | j + 1 => simp at hcc)
      (fun i j e x v c he hx hv hcc => by
        simp only [List.getElem?_map, Option.map_eq_some_iff] at he hx
        obtain ⟨s, hs, rfl⟩ := hx
        obtain ⟨s', hs', rfl⟩ := he
        rw [hs] at hs'
        obtain rfl := Option.some.inj hs'
        match j with
        | 0 => simp at hcc hv; subst hcc; subst hv; exact .str _
        | j + 1 => simp at hcc)
    simpa using this
  refine Rel.eptr 1 [V.slice 1 e (ss.map fun s => [V.str s])] 0 g 0 [.slice (some ⟨b, off, none⟩) ss.length cap] rfl rfl ?_ ?_ ?_
  · show 0 + 1 ≤ if g < W.heap.size then B else 0
    rw [if_pos hlt]; omega
  · intro i c hc'
    match i with
    | 0 => simp at hc'; subst hc'; exact ⟨hg, rfl⟩
    | i + 1 => simp at hc'
  · intro i v c hv hc'
    match i with
    | 0 => simp at hv hc'; subst hv; subst hc'; exact hr
    | i + 1 => simp at hv
/-- What is behind a call that returns true and leaves all that was there. -/
theorem post_true {f : Func} {s : ChangeSpec} {tS : TypeId} {W' : World} {G' : Gh} {B : Nat} {v : Value} {d : DataW H} {before : List MemPlace} {tB : TypeId}
    (hp : f.params = #[tS]) (hr : f.resultTypes = #[tB]) (hB : P.underlying tB = some .bool) (hvars : s.vars = []) (hfn : s.fn H [d] = { results := [.lit (.bool true)], args := [d] })
    (hl : laidOutB P = true) (hrr : P.readableRec tS = true) (hrow : tS < P.types.size)
    (hW : DataW.Whole enc P f.params.toList s.vars false W [v] [d] [] before) (hE : Ext (G0 W B) W G' W') :
    s.post enc P f false true false false W #[v] (.bool true) W' := by
  have hb := below_of_ext hE
  have hlt := hW.lt
  obtain ⟨p, q, hA, hV, hpq, hz, hn⟩ := id hW
  rw [hp] at hA
  obtain ⟨v0, vs0, d0, ds0, p0, q0, hargs, hds, hps, h0, r0⟩ := trodAll_cons hA
  obtain ⟨rfl, rfl, rfl⟩ := trodAll_nil r0
  simp only [List.cons.injEq, and_true] at hargs hds
  subst hargs; subst hds
  rw [hvars] at hV
  obtain ⟨_, rfl⟩ := trodVars_none hV
  simp only [List.append_nil] at hps hpq
  subst hps; subst hpq
  have hres : ∀ (b : Nat) (sp : Nat → Bool) (hd : Bool), DataW.TrodAll enc P W' b sp hd f.resultTypes.toList ((Value.bool true).resultList f.resultTypes.size) (s.fn H ([d] ++ [])).results [] := by
    intro b sp hd
    rw [List.append_nil, hfn, hr]
    exact trodAll_mk1 ⟨1, by simp [DataW.trod, hB, Value.cells]⟩
  refine ⟨[d], [], before, [], before, [], hW, hres _ _ _, ?_, ?_, hb.frame _, fun h => by cases h⟩
  · rw [List.append_nil, hfn, hp]
    exact trodAll_mk1 (RowKit.Below.trod hl hrr hrow h0 hb fun x hx => hlt x hx)
  · rw [hvars, List.append_nil, hfn]; exact rfl
end
end Go.Ab
end
section
namespace Go.Ab.Mk
open Go.Proofs Go.Ab
open Classical

theorem leq_law {a b : Lv} (ha : GoodL a) (hb : GoodL b) (σ : Sto) :
    lim C 7 [(.agg [.int .i64 a.kind, .str a.name, .slice 3 29 a.args], false), (.agg [.int .i64 b.kind, .str b.name, .slice 3 29 b.args], false)] σ = some (.ret [(.bool (decide (a.Leq b)), false)], σ) :=
  lim_ext (C := C) (f := 7) (s := Mk.leqS) (by kernel_rfl) (Mk.leqS_eq ha hb false false σ)
theorem same_law {a b : Lv} (ha : GoodL a) (hb : GoodL b) (σ : Sto) :
    lim C 8 [(.agg [.int .i64 a.kind, .str a.name, .slice 3 29 a.args], false), (.agg [.int .i64 b.kind, .str b.name, .slice 3 29 b.args], false)] σ = some (.ret [(.bool (decide (a.Leq b) && decide (b.Leq a)), false)], σ) :=
  same_lim (n := 0) <| by
    have h1 := leq_law ha hb σ
    have h2 := leq_law hb ha σ
    simp only [same, sameF, callK_ret1 h1, List.getD_cons_zero, V.asBool, Option.bind_some]
    cases decide (a.Leq b)
    · rfl
    · simp only [cond_true, callK_ret1 h2, List.getD_cons_zero, Bool.true_and]
theorem uncellO (l : Lv) : V.agg [V.cell (.agg [.int .i64 l.kind, .str l.name, .slice 3 29 l.args]) 0, V.cell (.agg [.int .i64 l.kind, .str l.name, .slice 3 29 l.args]) 1, V.cell (.agg [.int .i64 l.kind, .str l.name, .slice 3 29 l.args]) 2] = V.agg [.int .i64 l.kind, .str l.name, .slice 3 29 l.args] := rfl

theorem levelsHeld_law (k a b : Int) (s t u : ByteArray) (hs : s.size < 2 ^ 61) (ht : t.size < 2 ^ 61) (σ : Sto) :
    ∃ σ', lim C 4 [(.agg [.int .i64 k, .str s, .str t, .str u, .int .i64 a, .int .i64 b], false)] σ = some (.ret [(.bool true, false)], σ') := by
  obtain ⟨σ1, h1⟩ := parseLevel_law s hs σ
  obtain ⟨σ3, h2⟩ := parseLevel_law t ht (σ ++ σ1)
  generalize σ ++ σ1 ++ σ3 = σ2 at h2
  have hg : ∀ {c : Cell} {cs : List Cell}, (c :: cs).getD 0 cellD = c := fun {_ _} => rfl
  have hg1 : ∀ {c d : Cell} {cs : List Cell}, (c :: d :: cs).getD 1 cellD = d := fun {_ _ _} => rfl
  have f3 : ∀ l : Lv, V.fits (.agg [.int .i64 l.kind, .str l.name, .slice 3 29 l.args]) true 3 = true := fun _ => rfl
  have f2 : ∀ x y : Int, V.fits (.agg [.int .i64 x, .int .i64 y]) true 2 = true := fun _ _ => rfl
  have c0 : ∀ x y : Int, V.cell (.agg [.int .i64 x, .int .i64 y]) 0 = .int .i64 x := fun _ _ => rfl
  refine ⟨σ2, levelsHeld_lim (n := 0) ?_⟩
  unfold levelsHeld levelsHeldF
  simp only [callK_ret2 h1, hg, hg1, f3, f2, grd, cond_true, Option.bind_some, callK_ret2 h2, c0, V.asInt, if_true, uncellO]
  by_cases e1 : (parseV s).2.1 = 0
  case neg =>
    have : ((parseV s).2.1 != (0 : Int)) = true := by simpa using e1
    rw [this, cond_true]
  have e1' : ((parseV s).2.1 != (0 : Int)) = false := by simpa using e1
  rw [e1', cond_false]
  by_cases e2 : (parseV t).2.1 = 0
  case neg =>
    have : ((parseV t).2.1 != (0 : Int)) = true := by simpa using e2
    rw [this, cond_true]
  have e2' : ((parseV t).2.1 != (0 : Int)) = false := by simpa using e2
  rw [e2', cond_false]
  obtain ⟨_, zs, _, ws⟩ := parseV_ok e1
  obtain ⟨_, zt, _, wt⟩ := parseV_ok e2
  have ns := parse_names s
  have nt := parse_names t
  generalize (parseV s).1 = x at zs ns ⊢
  generalize (parseV t).1 = y at zt nt ⊢
  have lx := rparamsV_length y []
  have hx := rparams_law σ2 y [] (by simp; omega)
  have hx' : lim C 6 [(.agg [.int .i64 y.kind, .str y.name, .slice 3 29 y.args], false), (.slice 1 9 [], true)] σ2 = some (.ret [(.slice 1 9 (strs (rparamsV y [])), true)], σ2) := hx
  have hy := rparams_law σ2 x (rparamsV y []) (by simp at lx; omega)
  have hsl : V.asSlice (.slice 1 9 (strs (rparamsV x (rparamsV y [])))) 1 9 = some (strs (rparamsV x (rparamsV y []))) := rfl
  simp only [callK_ret1 hx', hg, Bool.and_self, grd, cond_true, Option.bind_some, callK_ret1 hy, hsl, strs_length]
  by_cases hP : (rparamsV x (rparamsV y [])).length ≤ 6
  case neg =>
    have : decide (((rparamsV x (rparamsV y [])).length : Int) > (6 : Int)) = true := by simp; omega
    rw [this, cond_true]
  have hP' : decide (((rparamsV x (rparamsV y [])).length : Int) > (6 : Int)) = false := by simp; omega
  rw [hP', cond_false]
  cases decide ((s.size : Int) > (300 : Int))
  case true => rfl
  cases decide ((t.size : Int) > (300 : Int))
  case true => rfl
  simp only [cond_false]
  have big : 20000 ≤ maxLen := by decide
  have gx : GoodL x := ⟨fun n hn => by have := ns n hn; exact ⟨this.1, by omega⟩, by omega⟩
  have gy : GoodL y := ⟨fun n hn => by have := nt n hn; exact ⟨this.1, by omega⟩, by omega⟩
  have q1 := leq_law gx gy σ2
  have q2 := same_law gx gy σ2
  have q3 := rleq_law (a := x) (b := y) (by omega) (by omega) (Nat.le_trans (params_len x y) hP) σ2
  have q4 := rsame_law (a := x) (b := y) (by omega) (by omega) hP σ2
  simp only [callK_ret1 q1, callK_ret1 q2, callK_ret1 q3, callK_ret1 q4, hg, V.asBool, Option.bind_some, beq_self_eq_true, cond_true]

theorem levelOrders_loop (n : Nat) {L : List OpV} (hb : L.length < 2 ^ 60) (hs : ∀ o ∈ L, o.s.size < 2 ^ 61 ∧ o.t.size < 2 ^ 61) :
    ∀ (m i : Nat) (σ : Sto), i ≤ L.length → L.length - i < m → ∃ σ', levelOrdersl0 (lim C) n m (L.map OpV.enc) i σ = some (.ret [(.bool true, false)], σ')
  | 0, i, _, _, hm => by omega
  | m + 1, i, σ, hi, hm => by
    show ∃ σ', levelOrderss0 (lim C) (levelOrdersl0 (lim C) n m) (L.map OpV.enc) i σ = _
    unfold levelOrderss0
    rw [List.length_map]
    by_cases hlt : i < L.length
    · obtain ⟨σ1, h1⟩ := levelsHeld_law L[i].k L[i].a L[i].b L[i].s L[i].t L[i].u (hs _ (List.getElem_mem hlt)).1 (hs _ (List.getElem_mem hlt)).2 σ
      have hget : (L.map OpV.enc).getD (Int.toNat (i : Int)) [] = L[i].enc := by simp [hlt]
      have hc : V.agg [L[i].enc.getD 0 V.any, L[i].enc.getD 1 V.any, L[i].enc.getD 2 V.any, L[i].enc.getD 3 V.any, L[i].enc.getD 4 V.any, L[i].enc.getD 5 V.any] = .agg [.int .i64 L[i].k, .str L[i].s, .str L[i].t, .str L[i].u, .int .i64 L[i].a, .int .i64 L[i].b] := rfl
      have hbig : decide ((i : Int) < 1152921504606846976) = true := by simp; omega
      obtain ⟨σ3, h3⟩ := levelOrders_loop n hb hs m (i + 1) σ1 (by omega) (by omega)
      refine ⟨σ3, ?_⟩
      rw [d0, dlt hlt, hbig, hget, hc]
      simp only [cond_true, Bool.and_self, grd, Option.bind_some, callK_ret1 h1, List.getD_cons_zero, V.asBool, Bool.not_true, cond_false, wrap_succ (show i < 2 ^ 61 by omega)]
      exact h3
    · rw [dnlt hlt]; exact ⟨σ, rfl⟩
theorem levelOrders_law (L : List OpV) (hb : L.length < 2 ^ 60) (hs : ∀ o ∈ L, o.s.size < 2 ^ 61 ∧ o.t.size < 2 ^ 61) (σ : Sto) :
    ∃ σ', lim C 3 [(.slice 6 25 (L.map OpV.enc), false)] σ = some (.ret [(.bool true, false)], σ') := by
  obtain ⟨σ', h⟩ := levelOrders_loop (L.length + 1) hb hs (L.length + 1) 0 σ (by omega) (by omega)
  exact ⟨σ', levelOrders_lim (n := L.length + 1) h⟩
end Go.Ab.Mk
end
