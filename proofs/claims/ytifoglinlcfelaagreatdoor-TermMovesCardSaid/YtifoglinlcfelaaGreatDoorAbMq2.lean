/- AbMq2: printed by program: functions of the program as plain Lean, and the equations. -/
import Derived.Test.YtifoglinlcfelaaGreatDoorLvO3
import Derived.Test.YtifoglinlcfelaaGreatDoorAbMp
import Derived.Test.YtifoglinlcfelaaGreatDoorAbMk1
import Derived.Test.YtifoglinlcfelaaGreatDoorProg
set_option linter.unusedSimpArgs false
set_option linter.unusedVariables false
set_option linter.deprecated false
section
namespace Go.Ab.Mk
open Go.Proofs Go.Ab Go.Proofs.Mk
def listEq {α : Type} (f : α → α → Bool) : List α → List α → Bool
 | [], [] => true
 | a :: L, b :: M => f a b && listEq f L M
 | _, _ => false
theorem listEq_len {α : Type} {f : α → α → Bool} : ∀ {L M : List α}, L.length ≠ M.length → listEq f L M = false
 | [], [], h => absurd rfl h
 | [], _ :: _, _ => rfl
 | _ :: _, [], _ => rfl
 | a :: L, b :: M, h => by rw [listEq, listEq_len (by simpa using h), Bool.and_false]
def eqLv : Lv → Lv → Bool
 | .zero, .zero => true
 | .succ a, .succ b => eqLv a b
 | .max a b, .max c d => eqLv a c && eqLv b d
 | .imax a b, .imax c d => eqLv a c && eqLv b d
 | .param s, .param t => s.toList == t.toList
 | _, _ => false
theorem eqLv_node (a b : Lv) : eqLv a b = (a.kind == b.kind && (a.name.toList == b.name.toList && listEq eqLv a.kids b.kids)) := by
 cases a <;> cases b <;> simp [eqLv, Lv.kind, Lv.name, Lv.kids, listEq]
def eqT (f : Lv → Lv → Bool) : Tm → Tm → Bool
 | .var m, .var n => m == n
 | .sort l, .sort m => f l m
 | .const s ls, .const t ms => s.toList == t.toList && listEq f ls ms
 | .app a b, .app c d => eqT f a c && eqT f b d
 | .lam a b, .lam c d => eqT f a c && eqT f b d
 | .pi a b, .pi c d => eqT f a c && eqT f b d
 | .letin a b c, .letin d e g => eqT f a d && (eqT f b e && eqT f c g)
 | _, _ => false
theorem eqT_node (f : Lv → Lv → Bool) (a b : Tm) : eqT f a b = (a.kind == b.kind && (((a.num : Int) == (b.num : Int)) && (a.name.toList == b.name.toList && (listEq f a.lvs b.lvs && listEq (eqT f) a.kids b.kids)))) := by
 cases a <;> cases b <;> first
  | (simp [eqT, Tm.kind]; done)
  | (simp only [eqT, Tm.kind, Tm.num, Tm.name, Tm.lvs, Tm.kids, listEq, beq_self_eq_true, Bool.true_and, Bool.and_true, beqN])
theorem beqI {a b : Nat} (h : a = b) : ((a : Int) == (b : Int)) = true := by subst h; exact beq_self_eq_true _
theorem nbeqI {a b : Nat} (h : a ≠ b) : ((a : Int) == (b : Int)) = false := by rw [beq_eq_false_iff_ne]; omega
theorem lv_getN {L : List Lv} {i : Nat} (h : i < L.length) : (L.map Lv.enc).getD (Int.toNat (i : Int)) [] = L[i].enc := by simp [h]
theorem sameLevel2_loop {N : Nat} {L M : List Lv} (hl : L.length = M.length) (hb : L.length < 2 ^ 60) {k k' : Int} {nm nm' : ByteArray} {σ : Sto} {f : Lv → Lv → Bool}
  (h : ∀ a ∈ L, ∀ b ∈ M, lim C 64 [(.agg [.int .i64 a.kind, .str a.name, .slice 3 44 a.args], false), (.agg [.int .i64 b.kind, .str b.name, .slice 3 44 b.args], false)] σ = some (.ret [(.bool (f a b), false)], σ)) :
  ∀ (m i : Nat), i ≤ L.length → L.length - i < m → sameLevell0 (lim C) N m i k nm (L.map Lv.enc) k' nm' (M.map Lv.enc) σ = some (.ret [(.bool (listEq f (L.drop i) (M.drop i)), false)], σ)
 | 0, i, _, hm => by omega
 | m + 1, i, hi, hm => by
  show sameLevels0 (lim C) (sameLevell0 (lim C) N m) _ _ _ _ _ _ _ σ = _
  unfold sameLevels0
  rw [List.length_map, List.length_map]
  by_cases hlt : i < L.length
  ·have hlt' : i < M.length := by omega
   have h1 := h _ (List.getElem_mem hlt) _ (List.getElem_mem hlt')
   have ih := sameLevel2_loop (N := N) hl hb (k := k) (k' := k') (nm := nm) (nm' := nm') h m (i + 1) (by omega) (by omega)
   have hx : L.drop i = L[i] :: L.drop (i + 1) := List.drop_eq_getElem_cons hlt
   have hy : M.drop i = M[i] :: M.drop (i + 1) := List.drop_eq_getElem_cons hlt'
   rw [dlt hlt, dlt hlt', cond_true, d0, lv_getN hlt, lv_getN hlt', lv_read, lv_read]
   simp only [Bool.and_self, grd, cond_true, Option.bind_some, callK_ret1 h1, List.getD_cons_zero, V.asBool, wrap_succ (show i < 2 ^ 61 by omega)]
   rw [hx, hy, listEq]
   cases f L[i] M[i] with
   | true => simp only [Bool.not_true, cond_false, Bool.true_and]; exact ih
   | false => rfl
  ·rw [dnlt hlt, cond_false, List.drop_eq_nil_of_le (by omega), List.drop_eq_nil_of_le (by omega)]
   rfl
theorem sameLevel2_law (σ : Sto) : ∀ (a b : Lv), lim C 64 [(.agg [.int .i64 a.kind, .str a.name, .slice 3 44 a.args], false), (.agg [.int .i64 b.kind, .str b.name, .slice 3 44 b.args], false)] σ = some (.ret [(.bool (eqLv a b), false)], σ) :=
 Lv.ind fun a ih b => sameLevel_lim (n := 10) <| by
  have h2 := kids_few a
  have hla : (a.args.length : Int) = (a.kids.length : Int) := by simp [Lv.args]
  have hlb : (b.args.length : Int) = (b.kids.length : Int) := by simp [Lv.args]
  rw [eqLv_node]
  simp only [sameLevel, sameLevelF, hla, hlb, bne]
  cases a.kind == b.kind with
  | false => rfl
  | true =>
   simp only [Bool.not_true, cond_false, Bool.true_and]
   cases a.name.toList == b.name.toList with
   | false => rfl
   | true =>
    simp only [Bool.not_true, cond_false, Bool.true_and]
    by_cases hl : a.kids.length = b.kids.length
    ·have e := sameLevel2_loop (N := 10) hl (by omega) (k := a.kind) (k' := b.kind) (nm := a.name) (nm' := b.name) (σ := σ) (f := eqLv) (fun c hc d _ => ih c hc d) 10 0 (by omega) (by omega)
     rw [beqI hl, Bool.not_true, cond_false]
     exact e
    ·rw [nbeqI hl, Bool.not_false, cond_true, listEq_len hl]
theorem eqLevels_loop {N : Nat} {L M : List Lv} (hl : L.length = M.length) (hb : L.length < 2 ^ 60) {fid : FuncId} {σ : Sto} {f : Lv → Lv → Bool}
  (h : ∀ a ∈ L, ∀ b ∈ M, lim C fid [(.agg [.int .i64 a.kind, .str a.name, .slice 3 44 a.args], false), (.agg [.int .i64 b.kind, .str b.name, .slice 3 44 b.args], false)] σ = some (.ret [(.bool (f a b), false)], σ)) :
  ∀ (m i : Nat), i ≤ L.length → L.length - i < m → eqLevelsl0 (lim C) N m (M.map Lv.enc) (.func (.func fid) [] []) (L.map Lv.enc) L.length i σ = some (.ret [(.bool (listEq f (L.drop i) (M.drop i)), false)], σ)
 | 0, i, _, hm => by omega
 | m + 1, i, hi, hm => by
  show eqLevelss0 (lim C) (eqLevelsl0 (lim C) N m) _ _ _ _ _ σ = _
  unfold eqLevelss0
  have hf : V.asFunc (.func (.func fid) [] []) = some (fid, [], []) := rfl
  by_cases hlt : i < L.length
  ·have hlt' : i < M.length := by omega
   have h1 := h _ (List.getElem_mem hlt) _ (List.getElem_mem hlt')
   have ih := eqLevels_loop (N := N) hl hb h m (i + 1) (by omega) (by omega)
   have hx : L.drop i = L[i] :: L.drop (i + 1) := List.drop_eq_getElem_cons hlt
   have hy : M.drop i = M[i] :: M.drop (i + 1) := List.drop_eq_getElem_cons hlt'
   rw [List.length_map, List.length_map, dlt hlt, dlt hlt', cond_true, d0, lv_getN hlt, lv_getN hlt', lv_read, lv_read]
   simp only [Bool.and_self, grd, cond_true, Option.bind_some, hf, List.map_nil, List.nil_append, List.append_nil]
   refine (callK_ret1 h1).trans ?_
   simp only [List.getD_cons_zero, V.asBool, Option.bind_some, wrap_succ (show i < 2 ^ 61 by omega)]
   rw [hx, hy, listEq]
   cases f L[i] M[i] with
   | true => simp only [Bool.not_true, cond_false, Bool.true_and]; exact ih
   | false => rfl
  ·rw [dnlt hlt, cond_false, List.drop_eq_nil_of_le (by omega), List.drop_eq_nil_of_le (by omega)]
   rfl
theorem eqLevels_law {L M : List Lv} (hb : L.length < 2 ^ 60) {fid : FuncId} {σ : Sto} {f : Lv → Lv → Bool}
  (h : ∀ a ∈ L, ∀ b ∈ M, lim C fid [(.agg [.int .i64 a.kind, .str a.name, .slice 3 44 a.args], false), (.agg [.int .i64 b.kind, .str b.name, .slice 3 44 b.args], false)] σ = some (.ret [(.bool (f a b), false)], σ)) :
  lim C 39 [(.slice 3 44 (L.map Lv.enc), false), (.slice 3 44 (M.map Lv.enc), false), (.func (.func fid) [] [], false)] σ = some (.ret [(.bool (listEq f L M), false)], σ) :=
 eqLevels_lim (n := L.length + 1) <| by
  simp only [eqLevels, eqLevelsF, List.length_map, bne]
  by_cases hl : L.length = M.length
  ·have e := eqLevels_loop (N := L.length + 1) hl hb h (L.length + 1) 0 (by omega) (by omega)
   rw [beqI hl, Bool.not_true, cond_false]
   exact e
  ·rw [nbeqI hl, Bool.not_false, cond_true, listEq_len hl]
theorem written_law (σ : Sto) : ∀ (a b : Lv), lim C 62 [(.agg [.int .i64 a.kind, .str a.name, .slice 3 44 a.args], false), (.agg [.int .i64 b.kind, .str b.name, .slice 3 44 b.args], false)] σ = some (.ret [(.bool (eqLv a b), false)], σ) :=
 Lv.ind fun a ih b => written_lim (n := 0) <| by
  have h2 := kids_few a
  have e := eqLevels_law (L := a.kids) (M := b.kids) (by omega) (fid := 62) (σ := σ) (f := eqLv) (fun c hc d _ => ih c hc d)
  rw [eqLv_node]
  simp only [written, writtenF]
  cases a.kind == b.kind with
  | false => rfl
  | true =>
   simp only [cond_true, Bool.true_and]
   cases a.name.toList == b.name.toList with
   | false => rfl
   | true =>
    simp only [cond_true, Bool.true_and]
    exact (callK_ret1 e).trans rfl
open Classical in
noncomputable def lvS (a b : Lv) : Bool := eqLv a b || (decide (a.Leq b) && decide (b.Leq a))
open Classical in
theorem tsameLevel_law {a b : Lv} (ha : GoodL a) (hb : GoodL b) (σ : Sto) : lim C 40 [(.agg [.int .i64 a.kind, .str a.name, .slice 3 44 a.args], false), (.agg [.int .i64 b.kind, .str b.name, .slice 3 44 b.args], false)] σ = some (.ret [(.bool (lvS a b), false)], σ) :=
 tsameLevel_lim (n := 0) <| by
  have h1 := written_law σ a b
  have h2 := same_law ha hb σ
  simp only [tsameLevel, tsameLevelF, callK_ret1 h1, List.getD_cons_zero, V.asBool, Option.bind_some, lvS]
  cases eqLv a b with
  | true => rfl
  | false => simp only [cond_false, Bool.false_or]; exact (callK_ret1 h2).trans rfl
theorem eqTerms_loop {N : Nat} {L M : List Tm} (hl : L.length = M.length) (hb : L.length < 2 ^ 60) {fid : FuncId} {σ : Sto} {f : Tm → Tm → Bool}
  (h : ∀ a ∈ L, ∀ b ∈ M, lim C fid [(a.val, false), (b.val, false)] σ = some (.ret [(.bool (f a b), false)], σ)) :
  ∀ (m i : Nat), i ≤ L.length → L.length - i < m → eqTermsl0 (lim C) N m (M.map Tm.enc) (.func (.func fid) [] []) (L.map Tm.enc) L.length i σ = some (.ret [(.bool (listEq f (L.drop i) (M.drop i)), false)], σ)
 | 0, i, _, hm => by omega
 | m + 1, i, hi, hm => by
  show eqTermss0 (lim C) (eqTermsl0 (lim C) N m) _ _ _ _ _ σ = _
  unfold eqTermss0
  have hf : V.asFunc (.func (.func fid) [] []) = some (fid, [], []) := rfl
  by_cases hlt : i < L.length
  ·have hlt' : i < M.length := by omega
   have h1 := h _ (List.getElem_mem hlt) _ (List.getElem_mem hlt')
   have ih := eqTerms_loop (N := N) hl hb h m (i + 1) (by omega) (by omega)
   have hx : L.drop i = L[i] :: L.drop (i + 1) := List.drop_eq_getElem_cons hlt
   have hy : M.drop i = M[i] :: M.drop (i + 1) := List.drop_eq_getElem_cons hlt'
   rw [List.length_map, List.length_map, dlt hlt, dlt hlt', cond_true, d0, tm_get hlt, tm_get hlt', tm_readB, tm_readB]
   simp only [Bool.and_self, grd, cond_true, Option.bind_some, hf, List.map_nil, List.nil_append, List.append_nil]
   refine (callK_ret1 h1).trans ?_
   simp only [List.getD_cons_zero, V.asBool, Option.bind_some, wrap_succ (show i < 2 ^ 61 by omega)]
   rw [hx, hy, listEq]
   cases f L[i] M[i] with
   | true => simp only [Bool.not_true, cond_false, Bool.true_and]; exact ih
   | false => rfl
  ·rw [dnlt hlt, cond_false, List.drop_eq_nil_of_le (by omega), List.drop_eq_nil_of_le (by omega)]
   rfl
theorem eqTerms_law {L M : List Tm} (hb : L.length < 2 ^ 60) {fid : FuncId} {σ : Sto} {f : Tm → Tm → Bool}
  (h : ∀ a ∈ L, ∀ b ∈ M, lim C fid [(a.val, false), (b.val, false)] σ = some (.ret [(.bool (f a b), false)], σ)) :
  lim C 41 [(.slice 5 30 (L.map Tm.enc), false), (.slice 5 30 (M.map Tm.enc), false), (.func (.func fid) [] [], false)] σ = some (.ret [(.bool (listEq f L M), false)], σ) :=
 eqTerms_lim (n := L.length + 1) <| by
  simp only [eqTerms, eqTermsF, List.length_map, bne]
  by_cases hl : L.length = M.length
  ·have e := eqTerms_loop (N := L.length + 1) hl hb h (L.length + 1) 0 (by omega) (by omega)
   rw [beqI hl, Bool.not_true, cond_false]
   exact e
  ·rw [nbeqI hl, Bool.not_false, cond_true, listEq_len hl]
theorem tequal_law (σ : Sto) : ∀ (a b : Tm), a.wide < 2 ^ 32 → (∀ l ∈ a.all, GoodL l) → (∀ l ∈ b.all, GoodL l) → lim C 12 [(a.val, false), (b.val, false)] σ = some (.ret [(.bool (eqT lvS a b), false)], σ) :=
 Tm.ind fun a ih b hw ha hb => tequal_lim (n := 0) <| by
  have h3 := kids_le a
  have hl := lvs_le a
  have e1 := eqLevels_law (L := a.lvs) (M := b.lvs) (by omega) (fid := 40) (σ := σ) (f := lvS) (fun c hc d hd => tsameLevel_law (lvs_all ha c hc) (lvs_all hb d hd) σ)
  have e2 := eqTerms_law (L := a.kids) (M := b.kids) (by omega) (fid := 12) (σ := σ) (f := eqT lvS) (fun c hc d hd => ih c hc d (by have := kid_wide hc; omega) (kid_all hc ha) (kid_all hd hb))
  rw [eqT_node]
  simp only [tequal, tequalF]
  cases a.kind == b.kind with
  | false => rfl
  | true =>
   simp only [cond_true, Bool.true_and]
   cases (a.num : Int) == (b.num : Int) with
   | false => rfl
   | true =>
    simp only [cond_true, Bool.true_and]
    cases a.name.toList == b.name.toList with
    | false => rfl
    | true =>
     simp only [cond_true, Bool.true_and]
     refine (callK_ret1 e1).trans ?_
     simp only [List.getD_cons_zero, V.asBool, Option.bind_some]
     cases listEq lvS a.lvs b.lvs with
     | false => rfl
     | true =>
      simp only [cond_true, Bool.true_and]
      exact (callK_ret1 e2).trans rfl
theorem alikeW1_loop {N : Nat} {L M : List Tm} (hl : L.length = M.length) (hb : L.length < 2 ^ 60) {a0 a1 b0 b1 : Int} {a2 b2 : ByteArray} {a3 b3 : List (List V)} {σ : Sto} {f : Tm → Tm → Bool}
  (h : ∀ a ∈ L, ∀ b ∈ M, lim C 42 [(a.val, false), (b.val, false), (.bool true, false)] σ = some (.ret [(.bool (f a b), false)], σ)) :
  ∀ (m i : Nat), i ≤ L.length → L.length - i < m → alikel1 (lim C) N m true i a0 a1 a2 a3 (L.map Tm.enc) b0 b1 b2 b3 (M.map Tm.enc) σ = some (.ret [(.bool (listEq f (L.drop i) (M.drop i)), false)], σ)
 | 0, i, _, hm => by omega
 | m + 1, i, hi, hm => by
  show alikes1 (lim C) (alikel1 (lim C) N m) true i a0 a1 a2 a3 (L.map Tm.enc) b0 b1 b2 b3 (M.map Tm.enc) σ = _
  unfold alikes1
  rw [List.length_map, List.length_map]
  by_cases hlt : i < L.length
  ·have hlt' : i < M.length := by omega
   have h1 := h _ (List.getElem_mem hlt) _ (List.getElem_mem hlt')
   have ih := alikeW1_loop (N := N) hl hb (a0 := a0) (a1 := a1) (a2 := a2) (a3 := a3) (b0 := b0) (b1 := b1) (b2 := b2) (b3 := b3) h m (i + 1) (by omega) (by omega)
   have hx : L.drop i = L[i] :: L.drop (i + 1) := List.drop_eq_getElem_cons hlt
   have hy : M.drop i = M[i] :: M.drop (i + 1) := List.drop_eq_getElem_cons hlt'
   rw [dlt hlt, dlt hlt', cond_true, d0, tm_get hlt, tm_get hlt', tm_readB, tm_readB]
   simp only [Bool.and_self, grd, cond_true, Option.bind_some]
   refine (callK_ret1 h1).trans ?_
   simp only [List.getD_cons_zero, V.asBool, Option.bind_some, wrap_succ (show i < 2 ^ 61 by omega)]
   rw [hx, hy, listEq]
   cases f L[i] M[i] with
   | true => simp only [Bool.not_true, cond_false, Bool.true_and]; exact ih
   | false => rfl
  ·rw [dnlt hlt, cond_false, List.drop_eq_nil_of_le (by omega), List.drop_eq_nil_of_le (by omega)]
   rfl
open Classical in
theorem alikeW0_loop {N : Nat} {L M : List Lv} (hl : L.length = M.length) (hb : L.length < 2 ^ 60) {K K' : List Tm} {a0 a1 b0 b1 : Int} {a2 b2 : ByteArray} {σ : Sto} {x : Bool}
  (hs : ∀ a ∈ L, ∀ b ∈ M, lim C 65 [(.agg [.int .i64 a.kind, .str a.name, .slice 3 44 a.args], false), (.agg [.int .i64 b.kind, .str b.name, .slice 3 44 b.args], false)] σ = some (.ret [(.bool (decide (a.Leq b) && decide (b.Leq a)), false)], σ))
  (h : alikel1 (lim C) N N true (0 : Int) a0 a1 a2 (L.map Lv.enc) (K.map Tm.enc) b0 b1 b2 (M.map Lv.enc) (K'.map Tm.enc) σ = some (.ret [(.bool x, false)], σ)) :
  ∀ (m i : Nat), i ≤ L.length → L.length - i < m → alikel0 (lim C) N m true i a0 a1 a2 (L.map Lv.enc) (K.map Tm.enc) b0 b1 b2 (M.map Lv.enc) (K'.map Tm.enc) σ = some (.ret [(.bool (listEq lvS (L.drop i) (M.drop i) && x), false)], σ)
 | 0, i, _, hm => by omega
 | m + 1, i, hi, hm => by
  show alikes0 (lim C) (alikel1 (lim C) N N) (alikel0 (lim C) N m) true i a0 a1 a2 (L.map Lv.enc) (K.map Tm.enc) b0 b1 b2 (M.map Lv.enc) (K'.map Tm.enc) σ = _
  unfold alikes0
  rw [List.length_map, List.length_map]
  by_cases hlt : i < L.length
  ·have hlt' : i < M.length := by omega
   have h1 := sameLevel2_law σ L[i] M[i]
   have h2 := hs _ (List.getElem_mem hlt) _ (List.getElem_mem hlt')
   have ih := alikeW0_loop (N := N) hl hb hs h m (i + 1) (by omega) (by omega)
   have hx : L.drop i = L[i] :: L.drop (i + 1) := List.drop_eq_getElem_cons hlt
   have hy : M.drop i = M[i] :: M.drop (i + 1) := List.drop_eq_getElem_cons hlt'
   rw [dlt hlt, dlt hlt', cond_true, d0, lv_getN hlt, lv_getN hlt', lv_read, lv_read]
   simp only [Bool.and_self, grd, cond_true, Option.bind_some]
   refine (callK_ret1 h1).trans ?_
   simp only [List.getD_cons_zero, V.asBool, Option.bind_some, wrap_succ (show i < 2 ^ 61 by omega)]
   rw [hx, hy, listEq, lvS]
   cases eqLv L[i] M[i] with
   | true => simp only [Bool.not_true, cond_false, Bool.true_and, Bool.true_or]; exact ih
   | false =>
    simp only [Bool.not_false, cond_true, Bool.false_or]
    refine (callK_ret1 h2).trans ?_
    simp only [List.getD_cons_zero, V.asBool, Option.bind_some]
    cases decide (L[i].Leq M[i]) && decide (M[i].Leq L[i]) with
    | true => simp only [Bool.not_true, cond_false, Bool.true_and]; exact ih
    | false => rfl
  ·rw [dnlt hlt, cond_false, List.drop_eq_nil_of_le (by omega), List.drop_eq_nil_of_le (by omega)]
   exact h
open Classical in
theorem alikeW_law {σ : Sto} {P Q : Lv → Prop} (hs : ∀ a b, P a → Q b → lim C 65 [(.agg [.int .i64 a.kind, .str a.name, .slice 3 44 a.args], false), (.agg [.int .i64 b.kind, .str b.name, .slice 3 44 b.args], false)] σ = some (.ret [(.bool (decide (a.Leq b) && decide (b.Leq a)), false)], σ)) :
  ∀ (a b : Tm), a.wide < 2 ^ 32 → (∀ l ∈ a.all, P l) → (∀ l ∈ b.all, Q l) → lim C 42 [(a.val, false), (b.val, false), (.bool true, false)] σ = some (.ret [(.bool (eqT lvS a b), false)], σ) :=
 Tm.ind fun a ih b hw ha hb => alike_lim (n := a.wide + 10) <| by
  have h3 := kids_le a
  have hl := lvs_le a
  have hla : (a.args.length : Int) = (a.kids.length : Int) := by simp [Tm.args]
  have hlb : (b.args.length : Int) = (b.kids.length : Int) := by simp [Tm.args]
  rw [eqT_node]
  simp only [alike, alikeF, List.length_map, hla, hlb, bne]
  cases a.kind == b.kind with
  | false => rfl
  | true =>
   simp only [Bool.not_true, cond_false, Bool.true_and]
   cases (a.num : Int) == (b.num : Int) with
   | false => rfl
   | true =>
    simp only [Bool.not_true, cond_false, Bool.true_and]
    cases a.name.toList == b.name.toList with
    | false => rfl
    | true =>
     simp only [Bool.not_true, cond_false, Bool.true_and]
     by_cases hlv : a.lvs.length = b.lvs.length
     ·rw [beqI hlv, Bool.not_true, cond_false]
      by_cases hk : a.kids.length = b.kids.length
      ·rw [beqI hk, Bool.not_true, cond_false]
       have e1 := alikeW1_loop (N := a.wide + 10) hk (by omega) (a0 := a.kind) (a1 := a.num) (a2 := a.name) (a3 := a.lvs.map Lv.enc) (b0 := b.kind) (b1 := b.num) (b2 := b.name) (b3 := b.lvs.map Lv.enc) (σ := σ) (f := eqT lvS) (fun c hc d hd => ih c hc d (by have := kid_wide hc; omega) (kid_all hc ha) (kid_all hd hb)) (a.wide + 10) 0 (by omega) (by omega)
       have e0 := alikeW0_loop (N := a.wide + 10) hlv (by omega) (fun c hc d hd => hs c d (lvs_all ha c hc) (lvs_all hb d hd)) e1 (a.wide + 10) 0 (by omega) (by omega)
       exact e0
      ·rw [nbeqI hk, Bool.not_false, cond_true, listEq_len hk, Bool.and_false]
     ·rw [nbeqI hlv, Bool.not_false, cond_true, listEq_len hlv, Bool.false_and]
open Classical in
theorem equalTerm_law {σ : Sto} {P Q : Lv → Prop} (hs : ∀ a b, P a → Q b → lim C 65 [(.agg [.int .i64 a.kind, .str a.name, .slice 3 44 a.args], false), (.agg [.int .i64 b.kind, .str b.name, .slice 3 44 b.args], false)] σ = some (.ret [(.bool (decide (a.Leq b) && decide (b.Leq a)), false)], σ))
  (a b : Tm) (hw : a.wide < 2 ^ 32) (ha : ∀ l ∈ a.all, P l) (hb : ∀ l ∈ b.all, Q l) : lim C 19 [(a.val, false), (b.val, false)] σ = some (.ret [(.bool (eqT lvS a b), false)], σ) :=
 equalTerm_lim (n := 0) <| by
  have h := alikeW_law hs a b hw ha hb
  simp only [equalTerm, equalTermF]
  refine (callK_ret1 h).trans ?_
  rfl
end Go.Ab.Mk
end
section
namespace Go.Ab.Mk
open Go.Proofs Go.Ab Go.Proofs.Mk
def _root_.Go.Ab.Lv.mass (l : Lv) : Nat := l.size + (printL l).length
def massL (ls : List Lv) : Nat := (ls.map fun l => l.mass + 1).sum
def Tm.mass : Tm → Nat
 | .var _ => 1
 | .sort l => l.mass + 1
 | .const s ls => s.size + massL ls + 1
 | .app a b => a.mass + b.mass + 1
 | .lam a b => a.mass + b.mass + 1
 | .pi a b => a.mass + b.mass + 1
 | .letin a b c => a.mass + b.mass + c.mass + 1
def LvRead (s : ByteArray) (l : Lv) : Prop := printL l ≠ [] ∧ ∀ x ∈ l.pars, 0 < x.size ∧ x.size ≤ s.size
structure TmRead (s : ByteArray) (p q : Nat) (t : Tm) : Prop where
 mass : t.mass ≤ 4 * (q - p)
 top : t.top < 100000
 all : ∀ l ∈ t.all, LvRead s l
theorem rlevel_read {s : ByteArray} {st : RS} (h : st.p ≤ s.size) (hc : (rlevelV (s.size + 1) s st).2.c = 0) : (rlevelV (s.size + 1) s st).1.mass ≤ 3 * ((rlevelV (s.size + 1) s st).2.p - st.p) ∧ LvRead s (rlevelV (s.size + 1) s st).1 := by
 have tk := rlevel_took s (s.size + 1) st h (.inr (by omega))
 obtain ⟨_, a1, a2, a3, a4⟩ := tk.ok hc
 exact ⟨by unfold Lv.mass; omega, a4, rlevel_names s _ st⟩
theorem rlvs_read (s : ByteArray) : ∀ (n : Nat) (st : RS), st.p ≤ s.size → (rlvsV n s st).2.c = 0 → massL (rlvsV n s st).1 ≤ 4 * ((rlvsV n s st).2.p - st.p) ∧ ∀ l ∈ (rlvsV n s st).1, LvRead s l
 | 0, st, h, _ => ⟨by simp [rlvsV, massL], fun l hl => by simp [rlvsV] at hl⟩
 | n + 1, st, h, hc => by
  unfold rlvsV at hc ⊢
  cases h1 : st.c != 0
  ·rw [h1] at hc
   cases h2 : strIs (tokV s st.p).t [41]
   ·rw [h2] at hc
    simp only [cond_false] at hc ⊢
    have g := rlevel_goes (s := s) (st := st) h
    have g2 := rlvs_gone s n (rlevelV (s.size + 1) s st).2 g.le
    obtain ⟨hc1, hp1⟩ := g2.ok hc
    obtain ⟨m1, m2⟩ := rlvs_read s n _ g.le hc
    obtain ⟨m3, m4⟩ := rlevel_read h hc1
    have := (g.ok hc1).2
    refine ⟨?_, fun l hl => ?_⟩
    ·have e : ∀ (x : Lv) (y : List Lv), massL (x :: y) = x.mass + 1 + massL y := fun x y => by simp [massL]
     rw [e]
     omega
    ·rcases List.mem_cons.1 hl with rfl | hl
     ·exact m4
     ·exact m2 l hl
   ·exact ⟨by simp [massL], fun l hl => by simp at hl⟩
  ·exact ⟨by simp [massL], fun l hl => by simp at hl⟩
theorem rname_read {s : ByteArray} {st : RS} (h : st.p ≤ s.size) (hc : (rnameV s st).2.c = 0) : (rnameV s st).1.size + st.p ≤ (rnameV s st).2.p := by
 obtain ⟨k1, k2, k3⟩ := tokV_ok s h
 unfold rnameV at hc ⊢
 simp only at hc ⊢
 cases hx : (bif !(tokV s st.p).ok || !isNameV (tokV s st.p).t then rfailV st (tokV s st.p).at_ else st).c != 0
 ·simp only [cond_false]
  omega
 ·rw [hx] at hc
  simp only [cond_true] at hc
  rw [hc] at hx
  simp at hx
theorem tm2_read {s : ByteArray} {rec : RS → Tm × RS} {f : Tm → Tm → Tm} (hf : ∀ a b, (f a b).mass = a.mass + b.mass + 1 ∧ (f a b).top = max a.top b.top ∧ (f a b).all = a.all ++ b.all) {st0 st : RS} (hp : st.p ≤ s.size) (hlt : st.c = 0 → st0.p < st.p)
  (hg : ∀ st', Gone s st st' → Goes s st' (rec st').2) (hr : ∀ st', Gone s st st' → (rec st').2.c = 0 → TmRead s st'.p (rec st').2.p (rec st').1) (hc : (tm2 rec s f st).2.c = 0) : TmRead s st0.p (tm2 rec s f st).2.p (tm2 rec s f st).1 := by
 have g0 := Gone.refl hp
 have g1 := hg st g0
 have k1 : Gone s st (rec st).2 := g1.gone
 have g2 := hg _ k1
 have k2 : Gone s st (rec (rec st).2).2 := k1.trans g2.gone
 have g3 := rtake_gone g2.le (ba [41])
 obtain ⟨c2, p3⟩ := g3.ok hc
 obtain ⟨c1, p2⟩ := g2.ok c2
 obtain ⟨c0, p1⟩ := g1.ok c1
 have r1 := hr st g0 c1
 have r2 := hr _ k1 c2
 have := hlt c0
 have m1 := r1.mass
 have m2 := r2.mass
 obtain ⟨f1, f2, f3⟩ := hf (rec st).1 (rec (rec st).2).1
 simp only [tm2] at p3 ⊢
 refine ⟨by rw [f1]; omega, by rw [f2]; exact Nat.max_lt.2 ⟨r1.top, r2.top⟩, fun l hl => ?_⟩
 rw [f3] at hl
 rcases List.mem_append.1 hl with hl | hl
 ·exact r1.all l hl
 ·exact r2.all l hl
theorem rterm_read (s : ByteArray) : ∀ (n : Nat) (st : RS), st.p ≤ s.size → (st.c ≠ 0 ∨ s.size - st.p < n) → (rtermV n s st).2.c = 0 → TmRead s st.p (rtermV n s st).2.p (rtermV n s st).1
 | 0, st, hp, hn, hc => by rcases hn with hn | hn; exact absurd hc hn; omega
 | n + 1, st, hp, hn, hc0 => by
  by_cases hc : st.c = 0
  case neg => rw [rterm_stuck hc] at hc0; exact absurd hc0 hc
  have hc' : (st.c != 0) = false := by simp [hc]
  have g1 := rnext_goes hp
  simp only [rtermV, hc', cond_false] at hc0 ⊢
  cases hbad : badTok (tokV s st.p)
  case true => rw [hbad] at hc0; exact absurd hc0 (rfail_c _ _)
  rw [hbad] at hc0
  cases h40 : strIs (tokV s st.p).t [40]
  case false =>
   rw [h40] at hc0
   simp only [cond_false] at hc0 ⊢
   have hlt := (g1.ok hc0).2
   refine ⟨by simp only [Tm.mass]; omega, ?_, fun l hl => by simp [Tm.all] at hl⟩
   simp only [badTok, h40, Bool.not_false, Bool.and_true, Bool.or_eq_false_iff, Bool.not_eq_false', Bool.not_eq_true', Bool.not_not] at hbad
   have hd := tok_num hp hbad.1 hbad.2.1 (by simpa using hbad.2.2)
   have hb := num_lt hd ((tokV s st.p).t.extract 1 (tokV s st.p).t.size).size 0 0 (by omega)
   have h5 := hd.few
   have h10 : 10 ^ ((tokV s st.p).t.extract 1 (tokV s st.p).t.size).size ≤ 10 ^ 5 := Nat.pow_le_pow_right (by omega) (by omega)
   simp only [Tm.top, numV]
   omega
  rw [h40] at hc0
  simp only [cond_true, cond_false, tmP] at hc0 ⊢
  cases hw : wordIx (tokV s (rnextV s st).2.p).t == 0
  case true => rw [hw] at hc0; exact absurd hc0 (rfail_c _ _)
  rw [hw] at hc0
  have g2 := g1.trans (rnext_goes g1.le).gone
  simp only [cond_false] at hc0 ⊢
  have hn2 : ∀ st', Goes s st st' → st'.c ≠ 0 ∨ s.size - st'.p < n := by
   intro st' h
   by_cases hz : st'.c = 0
   ·have := (h.ok hz).2
    have := h.le
    rcases hn with hn | hn
    ·exact absurd hc hn
    ·right; omega
   ·exact .inl hz
  generalize (rnextV s (rnextV s st).2).2 = st2 at g2 hc0 ⊢
  have hlt : st2.c = 0 → st.p < st2.p := fun h => (g2.ok h).2
  have hg : ∀ st', Gone s st2 st' → Goes s st' (rtermV n s st').2 := fun st' h => rterm_goes s n st' h.le (hn2 _ (g2.trans h))
  have hr : ∀ st', Gone s st2 st' → (rtermV n s st').2.c = 0 → TmRead s st'.p (rtermV n s st').2.p (rtermV n s st').1 := fun st' h h0 => rterm_read s n st' h.le (hn2 _ (g2.trans h)) h0
  unfold tmB at hc0 ⊢
  split at hc0
  ·have l1 := rlevel_goes g2.le
   have g3 := rtake_gone l1.le (ba [41])
   obtain ⟨c1, p1⟩ := g3.ok hc0
   obtain ⟨m1, m2⟩ := rlevel_read g2.le c1
   have := hlt (l1.ok c1).1
   have := (l1.ok c1).2
   simp only
   refine ⟨by simp only [Tm.mass]; omega, by simp [Tm.top], fun l hl => ?_⟩
   simp only [Tm.all, List.mem_singleton] at hl
   subst hl
   exact m2
  ·have l1 := rname_goes (s := s) g2.le
   have l2 := rlvs_gone s (s.size + 10) _ l1.le
   have g3 := rtake_gone l2.le (ba [41])
   obtain ⟨c2, p2⟩ := g3.ok hc0
   obtain ⟨c1, p1⟩ := l2.ok c2
   obtain ⟨m1, m2⟩ := rlvs_read s (s.size + 10) _ l1.le c2
   have m3 := rname_read g2.le c1
   have := hlt (l1.ok c1).1
   simp only
   refine ⟨by simp only [Tm.mass]; omega, by simp [Tm.top], fun l hl => m2 l hl⟩
  ·exact tm2_read (fun a b => ⟨rfl, rfl, rfl⟩) g2.le hlt hg hr hc0
  ·exact tm2_read (fun a b => ⟨rfl, rfl, rfl⟩) g2.le hlt hg hr hc0
  ·exact tm2_read (fun a b => ⟨rfl, rfl, rfl⟩) g2.le hlt hg hr hc0
  ·have g0 := Gone.refl g2.le
   have g1' := hg st2 g0
   have k1 : Gone s st2 (rtermV n s st2).2 := g1'.gone
   have g2' := hg _ k1
   have k2 : Gone s st2 (rtermV n s (rtermV n s st2).2).2 := k1.trans g2'.gone
   have g3' := hg _ k2
   have g4 := rtake_gone g3'.le (ba [41])
   obtain ⟨c3, p4⟩ := g4.ok hc0
   obtain ⟨c2, p3⟩ := g3'.ok c3
   obtain ⟨c1, p2⟩ := g2'.ok c2
   obtain ⟨c0, p1⟩ := g1'.ok c1
   have r1 := hr st2 g0 c1
   have r2 := hr _ k1 c2
   have r3 := hr _ k2 c3
   have := hlt c0
   have m1 := r1.mass
   have m2 := r2.mass
   have m3 := r3.mass
   simp only [tm3] at p4 ⊢
   refine ⟨by simp only [Tm.mass]; omega, by simp only [Tm.top]; exact Nat.max_lt.2 ⟨r1.top, Nat.max_lt.2 ⟨r2.top, r3.top⟩⟩, fun l hl => ?_⟩
   simp only [Tm.all] at hl
   rcases List.mem_append.1 hl with hl | hl
   ·exact r1.all l hl
   ·rcases List.mem_append.1 hl with hl | hl
    ·exact r2.all l hl
    ·exact r3.all l hl
theorem tparse_read {s : ByteArray} (h : (tparseV s).2.1 = 0) : s.size ≤ 20000 ∧ TmRead s 0 s.size (tparseV s).1 := by
 unfold tparseV at *
 cases hb : decide ((s.size : Int) > 20000)
 ·rw [hb] at h
  have tk := rterm_goes s (s.size + 1) ⟨0, 0, 0⟩ (by simp) (.inr (by simp))
  simp only [cond_false] at h ⊢
  have hb' : s.size ≤ 20000 := by have := of_decide_eq_false hb; omega
  cases hd : (rdoneV s (rtermV (s.size + 1) s ⟨0, 0, 0⟩).2).c != 0
  ·rw [hd] at h
   simp only [cond_false] at h ⊢
   have hc : (rtermV (s.size + 1) s ⟨0, 0, 0⟩).2.c = 0 := by
    have hd' : (rdoneV s (rtermV (s.size + 1) s ⟨0, 0, 0⟩).2).c = 0 := h
    simp only [rdoneV] at hd'
    cases hx : (!(tokV s (rtermV (s.size + 1) s ⟨0, 0, 0⟩).2.p).ok || !isNo (tokV s (rtermV (s.size + 1) s ⟨0, 0, 0⟩).2.p).t)
    ·rw [hx] at hd'; exact hd'
    ·rw [hx] at hd'; exact absurd hd' (rfail_c _ _)
   have r := rterm_read s (s.size + 1) ⟨0, 0, 0⟩ (by simp) (.inr (by simp)) hc
   have := tk.le
   have m := r.mass
   exact ⟨hb', by simp only at m ⊢; omega, r.top, r.all⟩
  ·rw [hd] at h
   simp only [cond_true] at h
   rw [h] at hd; simp at hd
 ·rw [hb] at h
  simp at h
theorem depth_mass : ∀ t : Tm, t.depth ≤ t.mass
 | .var _ => by simp [Tm.depth]
 | .sort _ => by simp [Tm.depth]
 | .const .. => by simp [Tm.depth]
 | .app a b => by have := depth_mass a; have := depth_mass b; simp only [Tm.depth, Tm.mass]; omega
 | .lam a b => by have := depth_mass a; have := depth_mass b; simp only [Tm.depth, Tm.mass]; omega
 | .pi a b => by have := depth_mass a; have := depth_mass b; simp only [Tm.depth, Tm.mass]; omega
 | .letin a b c => by have := depth_mass a; have := depth_mass b; have := depth_mass c; simp only [Tm.depth, Tm.mass]; omega
theorem massL_len : ∀ ls : List Lv, ls.length ≤ massL ls
 | [] => by simp [massL]
 | l :: ls => by have := massL_len ls; simp only [massL, List.map_cons, List.sum_cons, List.length_cons] at this ⊢; omega
theorem wide_mass : ∀ t : Tm, t.wide ≤ t.mass
 | .var _ => by simp [Tm.wide, Tm.mass]
 | .sort _ => by simp [Tm.wide, Tm.mass]
 | .const s ls => by have := massL_len ls; simp only [Tm.wide, Tm.mass]; omega
 | .app a b => by have := wide_mass a; have := wide_mass b; simp only [Tm.wide, Tm.mass]; omega
 | .lam a b => by have := wide_mass a; have := wide_mass b; simp only [Tm.wide, Tm.mass]; omega
 | .pi a b => by have := wide_mass a; have := wide_mass b; simp only [Tm.wide, Tm.mass]; omega
 | .letin a b c => by have := wide_mass a; have := wide_mass b; have := wide_mass c; simp only [Tm.wide, Tm.mass]; omega
theorem spine_mass : ∀ t : Tm, t.spine.length ≤ t.mass
 | .var _ => by simp [Tm.spine]
 | .sort _ => by simp [Tm.spine]
 | .const .. => by simp [Tm.spine]
 | .app a b => by have := spine_mass a; simp only [Tm.spine, Tm.mass, List.length_append, List.length_singleton]; omega
 | .lam a b => by simp [Tm.spine]
 | .pi a b => by simp [Tm.spine]
 | .letin a b c => by simp [Tm.spine]
theorem massL_mem : ∀ {ls : List Lv} {l : Lv}, l ∈ ls → l.mass ≤ massL ls
 | x :: ls, l, h => by
  simp only [massL, List.map_cons, List.sum_cons]
  rcases List.mem_cons.1 h with rfl | h
  ·omega
  ·have := massL_mem h; simp only [massL] at this; omega
theorem all_mass : ∀ {t : Tm} {l : Lv}, l ∈ t.all → l.mass ≤ t.mass
 | .var _, l, h => by simp [Tm.all] at h
 | .sort m, l, h => by simp only [Tm.all, List.mem_singleton] at h; subst h; simp only [Tm.mass]; omega
 | .const s ls, l, h => by have := massL_mem (show l ∈ ls from h); simp only [Tm.mass]; omega
 | .app a b, l, h => by simp only [Tm.all, List.mem_append] at h; simp only [Tm.mass]; rcases h with h | h <;> have := all_mass h <;> omega
 | .lam a b, l, h => by simp only [Tm.all, List.mem_append] at h; simp only [Tm.mass]; rcases h with h | h <;> have := all_mass h <;> omega
 | .pi a b, l, h => by simp only [Tm.all, List.mem_append] at h; simp only [Tm.mass]; rcases h with h | h <;> have := all_mass h <;> omega
 | .letin a b c, l, h => by simp only [Tm.all, List.mem_append] at h; simp only [Tm.mass]; rcases h with h | h | h <;> have := all_mass h <;> omega
theorem dec_digits : ∀ (k n : Nat), n < 10 ^ (k + 1) → (Go.Lib.decDigits n).length ≤ k + 1
 | 0, n, h => by rw [Go.Lib.decDigits, dif_pos (by simpa using h)]; simp
 | k + 1, n, h => by
  rw [Go.Lib.decDigits]
  split
  ·simp
  ·have := dec_digits k (n / 10) (by rw [Nat.pow_succ] at h; omega)
   simp only [List.length_append, List.length_singleton]
   omega
theorem lvsL_mass : ∀ ls : List Lv, (lvsL ls).length ≤ massL ls
 | [] => by simp [lvsL]
 | l :: ls => by
  have := lvsL_mass ls
  rw [lvsL_cons]
  simp only [List.length_cons, List.length_append, massL, List.map_cons, List.sum_cons, Lv.mass] at this ⊢
  omega
theorem print_mass {k : Nat} : ∀ {t : Tm}, t.top < 10 ^ (k + 1) → (printT t).length ≤ (k + 10) * t.mass
 | .var n, h => by
  have := dec_digits k n h
  simp only [printT, Tm.mass, List.length_cons]; omega
 | .sort l, _ => by
  have h1 := lvsL_mass [l]
  have h2 : 10 * (l.mass + 1) ≤ (k + 10) * (l.mass + 1) := Nat.mul_le_mul_right _ (by omega)
  simp only [massL, List.map_cons, List.map_nil, List.sum_cons, List.sum_nil] at h1
  simp only [printT, Tm.mass, wsort, ksL, List.length_cons, List.length_append, List.length_nil, List.flatMap_nil]; omega
 | .const s ls, _ => by
  have h1 := lvsL_mass ls
  have h2 : 10 * (s.size + massL ls + 1) ≤ (k + 10) * (s.size + massL ls + 1) := Nat.mul_le_mul_right _ (by omega)
  have h3 : s.data.toList.length = s.size := Array.length_toList
  simp only [printT, Tm.mass, wconst, ksL, List.length_cons, List.length_append, List.length_nil, List.flatMap_nil]; omega
 | .app a b, h => by
  simp only [Tm.top] at h
  have h1 := print_mass (t := a) (k := k) (by omega)
  have h2 := print_mass (t := b) (k := k) (by omega)
  simp only [printT, Tm.mass, wapp, ksL, List.length_cons, List.length_append, List.length_nil, List.flatMap_cons, List.flatMap_nil, Nat.mul_add]; omega
 | .lam a b, h => by
  simp only [Tm.top] at h
  have h1 := print_mass (t := a) (k := k) (by omega)
  have h2 := print_mass (t := b) (k := k) (by omega)
  simp only [printT, Tm.mass, wlam, ksL, List.length_cons, List.length_append, List.length_nil, List.flatMap_cons, List.flatMap_nil, Nat.mul_add]; omega
 | .pi a b, h => by
  simp only [Tm.top] at h
  have h1 := print_mass (t := a) (k := k) (by omega)
  have h2 := print_mass (t := b) (k := k) (by omega)
  simp only [printT, Tm.mass, wpi, ksL, List.length_cons, List.length_append, List.length_nil, List.flatMap_cons, List.flatMap_nil, Nat.mul_add]; omega
 | .letin a b c, h => by
  simp only [Tm.top] at h
  have h1 := print_mass (t := a) (k := k) (by omega)
  have h2 := print_mass (t := b) (k := k) (by omega)
  have h3 := print_mass (t := c) (k := k) (by omega)
  simp only [printT, Tm.mass, wlet, ksL, List.length_cons, List.length_append, List.length_nil, List.flatMap_cons, List.flatMap_nil, Nat.mul_add]; omega
end Go.Ab.Mk
end
section
namespace Go.Ab.Mk
open Go.Proofs Go.Ab Go.Proofs.Mk
theorem levelParts_loop {N : Nat} {L : List Lv} (hb : L.length < 2 ^ 60) {most : Int} {k : Int} {nm : ByteArray} {σ : Sto}
  (h : ∀ c ∈ L, ∀ most : Int, ∃ n : Int, lim C 49 [(.agg [.int .i64 c.kind, .str c.name, .slice 3 44 c.args], false), (.int .i64 most, false)] σ = some (.ret [(.int .i64 n, false)], σ)) :
  ∀ (m i : Nat) (v : Int), i ≤ L.length → L.length - i < m → ∃ n : Int, levelPartsl0 (lim C) N m most v i k nm (L.map Lv.enc) σ = some (.ret [(.int .i64 n, false)], σ)
 | 0, i, _, _, hm => by omega
 | m + 1, i, v, hi, hm => by
  show ∃ n : Int, levelPartss0 (lim C) (levelPartsl0 (lim C) N m) _ _ _ _ _ _ σ = _
  unfold levelPartss0
  rw [List.length_map]
  by_cases hlt : i < L.length
  ·rw [dlt hlt, cond_true]
   cases decide (v ≤ most) with
   | false => exact ⟨v, rfl⟩
   | true =>
    obtain ⟨x, hx⟩ := h _ (List.getElem_mem hlt) (IntKind.wrap .i64 (most - v))
    obtain ⟨n, hn⟩ := levelParts_loop (N := N) hb h m (i + 1) (IntKind.wrap .i64 (v + x)) (by omega) (by omega)
    refine ⟨n, ?_⟩
    rw [cond_true, d0, lv_get hlt, lv_read]
    simp only [Bool.and_self, grd, cond_true, Option.bind_some]
    refine (callK_ret1 hx).trans ?_
    simp only [List.getD_cons_zero, V.asInt, if_true, Option.bind_some, wrap_succ (show i < 2 ^ 61 by omega)]
    exact hn
  ·rw [dnlt hlt]; exact ⟨v, rfl⟩
theorem levelParts_law (σ : Sto) : ∀ (l : Lv) (most : Int), ∃ n : Int, lim C 49 [(.agg [.int .i64 l.kind, .str l.name, .slice 3 44 l.args], false), (.int .i64 most, false)] σ = some (.ret [(.int .i64 n, false)], σ) :=
 Lv.ind fun l ih most => by
  have h2 := kids_few l
  obtain ⟨n, hn⟩ := levelParts_loop (N := 10) (L := l.kids) (by omega) (most := most) (k := l.kind) (nm := l.name) (σ := σ) ih 10 0 1 (by omega) (by omega)
  exact ⟨n, levelParts_lim (n := 10) hn⟩
theorem rparts_loop1 {N : Nat} {L : List Tm} (hb : L.length < 2 ^ 60) {most : Int} {k a : Int} {nm : ByteArray} {t3 : List (List V)} {σ : Sto}
  (h : ∀ c ∈ L, ∀ most : Int, ∃ n : Int, lim C 31 [(c.val, false), (.int .i64 most, false)] σ = some (.ret [(.int .i64 n, false)], σ)) :
  ∀ (m i : Nat) (v : Int), i ≤ L.length → L.length - i < m → ∃ n : Int, rpartsl1 (lim C) N m most v i k a nm t3 (L.map Tm.enc) σ = some (.ret [(.int .i64 n, false)], σ)
 | 0, i, _, _, hm => by omega
 | m + 1, i, v, hi, hm => by
  show ∃ n : Int, rpartss1 (lim C) (rpartsl1 (lim C) N m) _ _ _ _ _ _ _ _ σ = _
  unfold rpartss1
  rw [List.length_map]
  by_cases hlt : i < L.length
  ·rw [dlt hlt, cond_true]
   cases decide (v ≤ most) with
   | false => exact ⟨v, rfl⟩
   | true =>
    obtain ⟨x, hx⟩ := h _ (List.getElem_mem hlt) (IntKind.wrap .i64 (most - v))
    obtain ⟨n, hn⟩ := rparts_loop1 (N := N) hb (k := k) (a := a) (nm := nm) (t3 := t3) h m (i + 1) (IntKind.wrap .i64 (v + x)) (by omega) (by omega)
    refine ⟨n, ?_⟩
    rw [cond_true, d0, tm_get hlt, tm_readB]
    simp only [Bool.and_self, grd, cond_true, Option.bind_some]
    refine (callK_ret1 hx).trans ?_
    simp only [List.getD_cons_zero, V.asInt, if_true, Option.bind_some, wrap_succ (show i < 2 ^ 61 by omega)]
    exact hn
  ·rw [dnlt hlt]; exact ⟨v, rfl⟩
theorem rparts_loop0 {N : Nat} {L : List Lv} (hb : L.length < 2 ^ 60) {most : Int} {k a : Int} {nm : ByteArray} {t4 : List (List V)} {σ : Sto}
  (h : ∀ v : Int, ∃ n : Int, rpartsl1 (lim C) N N most v 0 k a nm (L.map Lv.enc) t4 σ = some (.ret [(.int .i64 n, false)], σ)) :
  ∀ (m i : Nat) (v : Int), i ≤ L.length → L.length - i < m → ∃ n : Int, rpartsl0 (lim C) N m most v i k a nm (L.map Lv.enc) t4 σ = some (.ret [(.int .i64 n, false)], σ)
 | 0, i, _, _, hm => by omega
 | m + 1, i, v, hi, hm => by
  show ∃ n : Int, rpartss0 (lim C) (rpartsl1 (lim C) N N) (rpartsl0 (lim C) N m) _ _ _ _ _ _ _ _ σ = _
  unfold rpartss0
  rw [List.length_map]
  by_cases hlt : i < L.length
  ·rw [dlt hlt, cond_true]
   cases decide (v ≤ most) with
   | false => exact h v
   | true =>
    obtain ⟨x, hx⟩ := levelParts_law σ L[i] (IntKind.wrap .i64 (most - v))
    obtain ⟨n, hn⟩ := rparts_loop0 (N := N) hb h m (i + 1) (IntKind.wrap .i64 (v + x)) (by omega) (by omega)
    refine ⟨n, ?_⟩
    rw [cond_true, d0, lv_get hlt, lv_read]
    simp only [Bool.and_self, grd, cond_true, Option.bind_some]
    refine (callK_ret1 hx).trans ?_
    simp only [List.getD_cons_zero, V.asInt, if_true, Option.bind_some, wrap_succ (show i < 2 ^ 61 by omega)]
    exact hn
  ·rw [dnlt hlt]; exact h v
theorem rparts_law (σ : Sto) : ∀ (t : Tm), t.wide < 2 ^ 32 → ∀ (most : Int), ∃ n : Int, lim C 31 [(t.val, false), (.int .i64 most, false)] σ = some (.ret [(.int .i64 n, false)], σ) :=
 Tm.ind fun t ih hw most => by
  have hk := kids_le t
  have hl := lvs_le t
  obtain ⟨n, hn⟩ := rparts_loop0 (N := t.wide + 10) (L := t.lvs) (by omega) (most := most) (k := t.kind) (a := t.num) (nm := t.name) (t4 := t.args) (σ := σ)
   (fun v => rparts_loop1 (N := t.wide + 10) (L := t.kids) (by omega) (fun c hc most => ih c hc (by have := kid_wide hc; omega) most) (t.wide + 10) 0 v (by omega) (by omega)) (t.wide + 10) 0 1 (by omega) (by omega)
  exact ⟨n, rparts_lim (n := t.wide + 10) hn⟩
theorem ruses_loop {N : Nat} (t : Tm) {k : Nat} (hk : k < 2 ^ 60) {σ : Sto}
  (h : ∀ (i : Nat) (hi : i < t.kids.length), ∃ n : Int, lim C 32 [((t.kids[i]).val, false), (.int .i64 (inn t i k : Nat), false)] σ = some (.ret [(.int .i64 n, false)], σ)) :
  ∀ (m i : Nat) (sum : Int), i ≤ t.kids.length → t.kids.length - i < m →
   ∃ n : Int, rusesl0 (lim C) N m k sum i t.kind t.num t.name (t.lvs.map Lv.enc) (t.kids.map Tm.enc) σ = some (.ret [(.int .i64 n, false)], σ)
 | 0, i, _, _, hm => by omega
 | m + 1, i, sum, hi, hm => by
  show ∃ n : Int, rusess0 (lim C) (rusesl0 (lim C) N m) _ _ _ _ _ _ _ _ σ = _
  unfold rusess0
  rw [List.length_map]
  have h3 := kids3 t
  by_cases hlt : i < t.kids.length
  ·have hb := binds_law t i hlt σ
   obtain ⟨x, h1⟩ := h i hlt
   obtain ⟨n, hn⟩ := ruses_loop (N := N) t hk h m (i + 1) (IntKind.wrap .i64 (sum + x)) (by omega) (by omega)
   refine ⟨n, ?_⟩
   rw [dlt hlt, cond_true]
   refine (callK_ret1 hb).trans ?_
   simp only [List.getD_cons_zero, V.asBool, Option.bind_some, d0, dlt hlt, Bool.and_self, grd, cond_true, tm_get hlt, tm_readB, wrap_succ (show k < 2 ^ 61 by omega), wrap_succ (show i < 2 ^ 61 by omega)]
   rw [inn_bnd] at h1
   cases hbd : bnd4 t i with
   | true =>
    rw [hbd, cond_true] at h1
    simp only [cond_true]
    refine (callK_ret1 h1).trans ?_
    simp only [List.getD_cons_zero, V.asInt, if_true, Option.bind_some]
    exact hn
   | false =>
    rw [hbd, cond_false] at h1
    simp only [cond_false]
    refine (callK_ret1 h1).trans ?_
    simp only [List.getD_cons_zero, V.asInt, if_true, Option.bind_some]
    exact hn
  ·rw [dnlt hlt]; exact ⟨sum, rfl⟩
theorem ruses_law (σ : Sto) : ∀ (t : Tm) (k : Nat), k + t.depth < 2 ^ 50 → ∃ n : Int, lim C 32 [(t.val, false), (.int .i64 k, false)] σ = some (.ret [(.int .i64 n, false)], σ) :=
 Tm.ind fun t ih k hd => by
  have h3 := kids3 t
  obtain ⟨n, hn⟩ := ruses_loop (N := 10) t (k := k) (by omega) (σ := σ) (fun i hi => by
   have hd' := kid_depth (List.getElem_mem hi)
   have hb := inn_bounds t i k
   exact ih _ (List.getElem_mem hi) (inn t i k) (by omega)) 10 0 0 (Nat.zero_le _) (by omega)
  by_cases hv : ((t.kind == 0) && ((t.num : Int) == (k : Int))) = true
  ·rw [Bool.and_eq_true] at hv
   refine ⟨1, ruses_lim (n := 10) ?_⟩
   simp only [ruses, rusesF, hv.1, hv.2, cond_true]
  ·refine ⟨n, ruses_lim (n := 10) ?_⟩
   simp only [ruses, rusesF]
   cases h1 : t.kind == 0 with
   | false => rw [cond_false]; exact hn
   | true =>
    rw [cond_true]
    cases h2 : (t.num : Int) == (k : Int) with
    | false => rw [cond_false]; exact hn
    | true => exact absurd (by rw [h1, h2]; rfl) hv
theorem much_law (t v : Tm) (ht : t.wide < 2 ^ 32) (hv : v.wide < 2 ^ 32) (hd : t.depth < 2 ^ 49) (σ : Sto) : ∃ b : Bool, lim C 6 [(t.val, false), (v.val, false)] σ = some (.ret [(.bool b, false)], σ) := by
 obtain ⟨n, h1⟩ := rparts_law σ t ht 20000
 obtain ⟨u, h2⟩ := ruses_law σ t 0 (by omega)
 obtain ⟨k, h3⟩ := rparts_law σ v hv 20000
 cases hn : decide (n > 20000) with
 | true =>
  refine ⟨true, much_lim (n := 0) ?_⟩
  simp only [much, muchF]
  refine (callK_ret1 h1).trans ?_
  simp only [List.getD_cons_zero, V.asInt, if_true, Option.bind_some, hn, cond_true]
 | false =>
  refine ⟨decide (IntKind.wrap .i64 (n + IntKind.wrap .i64 (u * k)) > 20000), much_lim (n := 0) ?_⟩
  simp only [much, muchF]
  refine (callK_ret1 h1).trans ?_
  simp only [List.getD_cons_zero, V.asInt, if_true, Option.bind_some, hn, cond_false]
  refine (callK_ret1 h2).trans ?_
  refine (callK_ret1 h3).trans ?_
  simp only [List.getD_cons_zero, V.asInt, if_true, Option.bind_some]
theorem levelsFit_loop1 {N : Nat} {L : List Tm} (hb : L.length < 2 ^ 60) {k a : Int} {nm : ByteArray} {t3 : List (List V)} {σ : Sto}
  (h : ∀ c ∈ L, ∃ b : Bool, lim C 21 [(c.val, false)] σ = some (.ret [(.bool b, false)], σ)) :
  ∀ (m i : Nat), i ≤ L.length → L.length - i < m → ∃ b : Bool, levelsFitl1 (lim C) N m i k a nm t3 (L.map Tm.enc) σ = some (.ret [(.bool b, false)], σ)
 | 0, i, _, hm => by omega
 | m + 1, i, hi, hm => by
  show ∃ b : Bool, levelsFits1 (lim C) (levelsFitl1 (lim C) N m) _ _ _ _ _ _ σ = _
  unfold levelsFits1
  rw [List.length_map]
  by_cases hlt : i < L.length
  ·obtain ⟨x, hx⟩ := h _ (List.getElem_mem hlt)
   obtain ⟨n, hn⟩ := levelsFit_loop1 (N := N) hb (k := k) (a := a) (nm := nm) (t3 := t3) h m (i + 1) (by omega) (by omega)
   cases x with
   | false =>
    refine ⟨false, ?_⟩
    rw [dlt hlt, cond_true, d0, tm_get hlt, tm_readB]
    simp only [Bool.and_self, grd, cond_true, Option.bind_some]
    exact (callK_ret1 hx).trans rfl
   | true =>
    refine ⟨n, ?_⟩
    rw [dlt hlt, cond_true, d0, tm_get hlt, tm_readB]
    simp only [Bool.and_self, grd, cond_true, Option.bind_some]
    refine (callK_ret1 hx).trans ?_
    simp only [List.getD_cons_zero, V.asBool, Option.bind_some, Bool.not_true, cond_false, wrap_succ (show i < 2 ^ 61 by omega)]
    exact hn
  ·rw [dnlt hlt]; exact ⟨true, rfl⟩
theorem levelsFit_loop0 {N : Nat} {L : List Lv} (hb : L.length < 2 ^ 60) {k a : Int} {nm : ByteArray} {t4 : List (List V)} {σ : Sto}
  (h : ∃ b : Bool, levelsFitl1 (lim C) N N 0 k a nm (L.map Lv.enc) t4 σ = some (.ret [(.bool b, false)], σ)) :
  ∀ (m i : Nat), i ≤ L.length → L.length - i < m → ∃ b : Bool, levelsFitl0 (lim C) N m i k a nm (L.map Lv.enc) t4 σ = some (.ret [(.bool b, false)], σ)
 | 0, i, _, hm => by omega
 | m + 1, i, hi, hm => by
  show ∃ b : Bool, levelsFits0 (lim C) (levelsFitl1 (lim C) N N) (levelsFitl0 (lim C) N m) _ _ _ _ _ _ σ = _
  unfold levelsFits0
  rw [List.length_map]
  by_cases hlt : i < L.length
  ·obtain ⟨x, hx⟩ := levelParts_law σ L[i] 300
   obtain ⟨n, hn⟩ := levelsFit_loop0 (N := N) hb h m (i + 1) (by omega) (by omega)
   rw [dlt hlt, cond_true, d0, lv_get hlt, lv_read]
   simp only [Bool.and_self, grd, cond_true, Option.bind_some]
   rw [callK_ret1 hx]
   simp only [List.getD_cons_zero, V.asInt, if_true, Option.bind_some, wrap_succ (show i < 2 ^ 61 by omega)]
   cases decide (x > 300) with
   | true => exact ⟨false, rfl⟩
   | false => exact ⟨n, hn⟩
  ·rw [dnlt hlt]; exact h
theorem levelsFit_law (σ : Sto) : ∀ (t : Tm), t.wide < 2 ^ 32 → ∃ b : Bool, lim C 21 [(t.val, false)] σ = some (.ret [(.bool b, false)], σ) :=
 Tm.ind fun t ih hw => by
  have hk := kids_le t
  have hl := lvs_le t
  obtain ⟨n, hn⟩ := levelsFit_loop0 (N := t.wide + 10) (L := t.lvs) (by omega) (k := t.kind) (a := t.num) (nm := t.name) (t4 := t.args) (σ := σ)
   (levelsFit_loop1 (N := t.wide + 10) (L := t.kids) (by omega) (fun c hc => ih c hc (by have := kid_wide hc; omega)) (t.wide + 10) 0 (by omega) (by omega)) (t.wide + 10) 0 (by omega) (by omega)
  exact ⟨n, levelsFit_lim (n := t.wide + 10) hn⟩
theorem tparse_wide' (s : ByteArray) : (tparseV s).1.wide ≤ 20010 := by
 by_cases hb : s.size ≤ 20000
 ·have := tparse_wide s; omega
 ·unfold tparseV
  rw [show decide ((s.size : Int) > 20000) = true by simp; omega]
  simp [Tm.wide]
theorem fitting_law (s : ByteArray) (hs : s.size < 2 ^ 61) (σ : Sto) : ∃ (c a : Int) (σ' : Sto), lim C 5 [(.str s, false)] σ = some (.ret [((tparseV s).1.val, false), (.agg [.int .i64 c, .int .i64 a], false)], σ') ∧ (c = 0 → (tparseV s).2.1 = 0) := by
 obtain ⟨τ, h1⟩ := parseTerm_law s (by omega) σ
 have hw := tparse_wide' s
 obtain ⟨b, h2⟩ := levelsFit_law (σ ++ τ) (tparseV s).1 (by omega)
 have f2 : ∀ x y : Int, V.fits (.agg [.int .i64 x, .int .i64 y]) true 2 = true := fun _ _ => rfl
 have c0 : ∀ x y : Int, V.cell (.agg [.int .i64 x, .int .i64 y]) 0 = .int .i64 x := fun _ _ => rfl
 have c1 : ∀ x y : Int, V.cell (.agg [.int .i64 x, .int .i64 y]) 1 = .int .i64 y := fun _ _ => rfl
 have uc : ∀ t : Tm, V.agg [V.cell t.val 0, V.cell t.val 1, V.cell t.val 2, V.cell t.val 3, V.cell t.val 4] = t.val := fun _ => rfl
 have hg : ∀ {c : Cell} {cs : List Cell}, (c :: cs).getD 0 cellD = c := fun {_ _} => rfl
 have hg1 : ∀ {c d : Cell} {cs : List Cell}, (c :: d :: cs).getD 1 cellD = d := fun {_ _ _} => rfl
 have run : ∀ r, (bif (tparseV s).2.1 == 0 then bif !b then some (End.ret [((tparseV s).1.val, false), (.agg [.int .i64 14, .int .i64 (tparseV s).2.2], false)], σ ++ τ) else some (End.ret [((tparseV s).1.val, false), (.agg [.int .i64 (tparseV s).2.1, .int .i64 (tparseV s).2.2], false)], σ ++ τ) else some (End.ret [((tparseV s).1.val, false), (.agg [.int .i64 (tparseV s).2.1, .int .i64 (tparseV s).2.2], false)], σ ++ τ)) = some r → lim C 5 [(.str s, false)] σ = some r := fun r hr => fitting_lim (n := 0) <| by
  simp only [fitting, fittingF]
  refine (callK_ret2 h1).trans ?_
  simp only [hg, hg1, tm_fits, f2, grd, cond_true, Option.bind_some, uc]
  refine (callK_ret1 h2).trans ?_
  simp only [hg, c0, c1, V.asInt, if_true, Option.bind_some, V.asBool]
  exact hr
 by_cases hz : (tparseV s).2.1 = 0
 ·cases b with
  | true => exact ⟨_, _, _, run _ (by rw [hz]; rfl), fun h => h⟩
  | false => exact ⟨14, (tparseV s).2.2, _, run _ (by rw [hz]; rfl), fun h => absurd h (by decide)⟩
 ·exact ⟨_, _, _, run _ (by rw [show ((tparseV s).2.1 == 0) = false by simpa using hz]; rfl), fun h => h⟩
def foldP (ls : List Lv) (ps : List ByteArray) : List ByteArray := ls.foldl (fun ps l => rparamsV l ps) ps
theorem foldP_length : ∀ (ls : List Lv) (ps : List ByteArray), (foldP ls ps).length ≤ ps.length + massL ls
 | [], ps => by simp [foldP]
 | l :: ls, ps => by
  have h1 := foldP_length ls (rparamsV l ps)
  have h2 := rparamsV_length l ps
  simp only [foldP, List.foldl_cons, massL, List.map_cons, List.sum_cons, Lv.mass] at h1 ⊢
  omega
theorem foldP_append (ls ms : List Lv) (ps : List ByteArray) : foldP (ls ++ ms) ps = foldP ms (foldP ls ps) := List.foldl_append
theorem foldP_mem {s : ByteArray} : ∀ {ls : List Lv} {ps : List ByteArray}, s ∈ foldP ls ps ↔ s ∈ ps ∨ ∃ l ∈ ls, s ∈ l.pars
 | [], ps => by simp [foldP]
 | l :: ls, ps => by
  have := foldP_mem (s := s) (ls := ls) (ps := rparamsV l ps)
  simp only [foldP, List.foldl_cons] at this ⊢
  rw [this, rparams_mem]
  simp only [List.mem_cons, exists_eq_or_imp, or_assoc]
theorem pair_len {ls ms : List Lv} {l m : Lv} (hl : l ∈ ls) (hm : m ∈ ms) : (rparamsV l (rparamsV m [])).length ≤ (foldP ms (foldP ls [])).length :=
 nodup_len (rparams_nodup (rparams_nodup List.nodup_nil)) fun s hs => by
  rw [rparams_mem, rparams_mem] at hs
  rw [foldP_mem, foldP_mem]
  rcases hs with (hs | hs) | hs
  ·simp at hs
  ·exact .inr ⟨m, hm, hs⟩
  ·exact .inl (.inr ⟨l, hl, hs⟩)
def allK (L : List Tm) : List Lv := L.flatMap Tm.all
theorem all_eq (t : Tm) : t.all = t.lvs ++ allK t.kids := by cases t <;> simp [Tm.all, Tm.lvs, Tm.kids, allK]
theorem massL_append (ls ms : List Lv) : massL (ls ++ ms) = massL ls + massL ms := by simp [massL]
theorem termParams_loop1 {N : Nat} {L : List Tm} (hb : L.length < 2 ^ 60) {k a : Int} {nm : ByteArray} {t3 : List (List V)} {σ : Sto}
  (h : ∀ c ∈ L, ∀ ps : List ByteArray, massL c.all + ps.length < 2 ^ 33 → lim C 18 [(c.val, false), (.slice 1 9 (strs ps), true)] σ = some (.ret [(.slice 1 9 (strs (foldP c.all ps)), true)], σ)) :
  ∀ (m i : Nat) (ps : List ByteArray), i ≤ L.length → L.length - i < m → massL (allK (L.drop i)) + ps.length < 2 ^ 33 → termParamsl1 (lim C) N m (.slice 1 9 (strs ps)) i k a nm t3 (L.map Tm.enc) σ = some (.ret [(.slice 1 9 (strs (foldP (allK (L.drop i)) ps)), true)], σ)
 | 0, i, _, _, hm, _ => by omega
 | m + 1, i, ps, hi, hm, hs => by
  show termParamss1 (lim C) (termParamsl1 (lim C) N m) _ _ _ _ _ _ _ σ = _
  unfold termParamss1
  rw [List.length_map]
  by_cases hlt : i < L.length
  ·have hx : L.drop i = L[i] :: L.drop (i + 1) := List.drop_eq_getElem_cons hlt
   have he : allK (L.drop i) = L[i].all ++ allK (L.drop (i + 1)) := by rw [hx]; rfl
   rw [he, massL_append] at hs
   have h1 := h _ (List.getElem_mem hlt) ps (by omega)
   have hl := foldP_length L[i].all ps
   have ih := termParams_loop1 (N := N) hb (k := k) (a := a) (nm := nm) (t3 := t3) h m (i + 1) (foldP L[i].all ps) (by omega) (by omega) (by omega)
   rw [dlt hlt, cond_true, d0, tm_get hlt, tm_readB]
   simp only [Bool.and_self, grd, cond_true, Option.bind_some]
   refine (callK_ret1 h1).trans ?_
   simp only [List.getD_cons_zero, Bool.and_self, cond_true, Option.bind_some, wrap_succ (show i < 2 ^ 61 by omega)]
   rw [he, foldP_append]
   exact ih
  ·rw [dnlt hlt, List.drop_eq_nil_of_le (by omega)]; rfl
theorem termParams_loop0 {N : Nat} {L : List Lv} (hb : L.length < 2 ^ 60) {k a : Int} {nm : ByteArray} {t4 : List (List V)} {σ : Sto} {f : List ByteArray → List ByteArray} {B : Nat}
  (h : ∀ ps : List ByteArray, B + ps.length < 2 ^ 33 → termParamsl1 (lim C) N N (.slice 1 9 (strs ps)) 0 k a nm (L.map Lv.enc) t4 σ = some (.ret [(.slice 1 9 (strs (f ps)), true)], σ)) :
  ∀ (m i : Nat) (ps : List ByteArray), i ≤ L.length → L.length - i < m → massL (L.drop i) + B + ps.length < 2 ^ 33 → termParamsl0 (lim C) N m (.slice 1 9 (strs ps)) i k a nm (L.map Lv.enc) t4 σ = some (.ret [(.slice 1 9 (strs (f (foldP (L.drop i) ps))), true)], σ)
 | 0, i, _, _, hm, _ => by omega
 | m + 1, i, ps, hi, hm, hs => by
  show termParamss0 (lim C) (termParamsl1 (lim C) N N) (termParamsl0 (lim C) N m) _ _ _ _ _ _ _ σ = _
  unfold termParamss0
  rw [List.length_map]
  by_cases hlt : i < L.length
  ·have hx : L.drop i = L[i] :: L.drop (i + 1) := List.drop_eq_getElem_cons hlt
   rw [hx] at hs
   simp only [massL, List.map_cons, List.sum_cons, Lv.mass] at hs
   have h1 := rparams_law σ L[i] ps (by omega)
   have hl := rparamsV_length L[i] ps
   have ih := termParams_loop0 (N := N) hb h m (i + 1) (rparamsV L[i] ps) (by omega) (by omega) (by simp only [massL, Lv.mass]; omega)
   rw [dlt hlt, cond_true, d0, lv_get hlt, lv_read]
   simp only [Bool.and_self, grd, cond_true, Option.bind_some]
   refine (callK_ret1 h1).trans ?_
   simp only [List.getD_cons_zero, Bool.and_self, cond_true, Option.bind_some, wrap_succ (show i < 2 ^ 61 by omega)]
   rw [hx]
   exact ih
  ·rw [List.drop_eq_nil_of_le (by omega)] at hs ⊢
   rw [dnlt hlt]
   exact h ps (by omega)
theorem termParams_law (σ : Sto) : ∀ (t : Tm), t.wide < 2 ^ 32 → ∀ ps : List ByteArray, massL t.all + ps.length < 2 ^ 33 → lim C 18 [(t.val, false), (.slice 1 9 (strs ps), true)] σ = some (.ret [(.slice 1 9 (strs (foldP t.all ps)), true)], σ) :=
 Tm.ind fun t ih hw ps hs => termParams_lim (n := t.wide + 10) <| by
  have hk := kids_le t
  have hl := lvs_le t
  rw [all_eq, massL_append] at hs
  have h0 := termParams_loop0 (N := t.wide + 10) (L := t.lvs) (by omega) (k := t.kind) (a := t.num) (nm := t.name) (t4 := t.args) (σ := σ) (f := foldP (allK t.kids)) (B := massL (allK t.kids))
   (fun ps hps => termParams_loop1 (N := t.wide + 10) (L := t.kids) (by omega) (fun c hc ps h => ih c hc (by have := kid_wide hc; omega) ps h) (t.wide + 10) 0 ps (by omega) (by omega) (by rw [List.drop_zero]; exact hps)) (t.wide + 10) 0 ps (by omega) (by omega) (by rw [List.drop_zero]; exact hs)
  rw [List.drop_zero] at h0
  rw [all_eq, foldP_append]
  exact h0
theorem massL_all : ∀ t : Tm, massL t.all ≤ 2 * t.mass
 | .var _ => by simp [Tm.all, massL]
 | .sort l => by simp only [Tm.all, massL, Tm.mass, List.map_cons, List.map_nil, List.sum_cons, List.sum_nil]; omega
 | .const s ls => by simp only [Tm.all, Tm.mass]; omega
 | .app a b => by have := massL_all a; have := massL_all b; simp only [Tm.all, massL_append, Tm.mass]; omega
 | .lam a b => by have := massL_all a; have := massL_all b; simp only [Tm.all, massL_append, Tm.mass]; omega
 | .pi a b => by have := massL_all a; have := massL_all b; simp only [Tm.all, massL_append, Tm.mass]; omega
 | .letin a b c => by have := massL_all a; have := massL_all b; have := massL_all c; simp only [Tm.all, massL_append, Tm.mass]; omega
theorem levelsFit_one (l : Lv) (σ : Sto) : ∃ b : Bool, lim C 21 [(.agg [.int .i64 0, .int .i64 0, .str (ByteArray.mk #[]), .slice 3 44 [l.enc], .slice 5 30 []], false)] σ = some (.ret [(.bool b, false)], σ) := by
 obtain ⟨n, hn⟩ := levelsFit_loop0 (N := 10) (L := [l]) (by simp) (k := 0) (a := 0) (nm := ByteArray.mk #[]) (t4 := []) (σ := σ)
  (levelsFit_loop1 (N := 10) (L := []) (by simp) (fun c hc => by simp at hc) 10 0 (by simp) (by simp)) 10 0 (by simp) (by simp)
 exact ⟨n, levelsFit_lim (n := 10) hn⟩
theorem limitV_nat {n : Int} (h : (Lit.int .i64 n).wf = true) : ∃ k : Nat, limitV n = (k : Int) ∧ k < 6 := by
 have hb : -(2 ^ 63) ≤ n ∧ n < 2 ^ 63 := by
  simp [Lit.wf, IntKind.min, IntKind.max, IntKind.bits, IntKind.signed] at h
  omega
 unfold limitV
 by_cases hn : n < 0
 ·rw [decide_eq_true hn, cond_true]
  have e1 : IntKind.wrap .i64 (n + 1) = n + 1 := by unfold IntKind.wrap; simp [IntKind.bits, IntKind.signed] <;> omega
  have e2 : IntKind.wrap .i64 (0 - (n + 1)) = 0 - (n + 1) := by unfold IntKind.wrap; simp [IntKind.bits, IntKind.signed] <;> omega
  rw [e1, e2]
  obtain ⟨m, hm⟩ : ∃ m : Nat, 0 - (n + 1) = (m : Int) := ⟨(0 - (n + 1)).toNat, by omega⟩
  rw [hm]
  exact ⟨m % 6, rfl, Nat.mod_lt _ (by omega)⟩
 ·rw [decide_eq_false hn, cond_false]
  obtain ⟨m, rfl⟩ : ∃ m : Nat, n = (m : Int) := ⟨n.toNat, by omega⟩
  exact ⟨m % 6, rfl, Nat.mod_lt _ (by omega)⟩
end Go.Ab.Mk
end
section
set_option maxRecDepth 100000
namespace Go.Ab.Mq
open Go.Proofs Go.Ab
open List (getD)
open IntKind (wrap)
def TL : List (TypeId × TI) := [
 (0, ⟨(.tuple 0), 1, 0, [V.any]⟩),
 (3, ⟨(.int .i64), 1, 8, [(V.int .i64 (0 : Int))]⟩),
 (4, ⟨.bool, 1, 1, [V.bool false]⟩),
 (9, ⟨.string, 1, 16, [V.str ⟨#[]⟩]⟩),
 (22, ⟨(.slice 25), 1, 24, [V.slice 6 25 []]⟩),
 (25, ⟨(.struct [(0, 3), (1, 9), (2, 9), (3, 9), (4, 3), (5, 3)]), 6, 72, [(V.int .i64 (0 : Int)), V.str ⟨#[]⟩, V.str ⟨#[]⟩, V.str ⟨#[]⟩, (V.int .i64 (0 : Int)), (V.int .i64 (0 : Int))]⟩),
 (27, ⟨(.slice 44), 1, 24, [V.slice 3 44 []]⟩),
 (28, ⟨(.slice 30), 1, 24, [V.slice 5 30 []]⟩),
 (30, ⟨(.struct [(0, 3), (1, 3), (2, 9), (3, 27), (4, 28)]), 5, 80, [(V.int .i64 (0 : Int)), (V.int .i64 (0 : Int)), V.str ⟨#[]⟩, V.slice 3 44 [], V.slice 5 30 []]⟩),
 (32, ⟨(.struct [(0, 3), (1, 3)]), 2, 16, [(V.int .i64 (0 : Int)), (V.int .i64 (0 : Int))]⟩),
 (33, ⟨(.tuple 2), 1, 0, [V.any]⟩),
 (41, ⟨(.slice 9), 1, 24, [V.slice 1 9 []]⟩),
 (44, ⟨(.struct [(0, 3), (1, 9), (2, 27)]), 3, 48, [(V.int .i64 (0 : Int)), V.str ⟨#[]⟩, V.slice 3 44 []]⟩),
 (45, ⟨(.tuple 2), 1, 0, [V.any]⟩),
 (49, ⟨(.tuple 2), 1, 0, [V.any]⟩)]
noncomputable def termMovesH : Hints := { keep := fun i => if i = 0 then [0, 4] else [], ep := [22] }
noncomputable def termMovesC : Code := Tryz.f3.body.getD .skip
noncomputable def termMovesD : FDef := ⟨Tryz.f3, termMovesC, termMovesH⟩
noncomputable def termsMovedH : Hints := { keep := fun i => if i = 0 then [3, 5, 15, 16, 17, 23, 25, 26, 27, 197, 200, 203, 206, 209, 210, 211, 212] else [], ownres := [(104, 0), (105, 0)], lp := [1, 3, 4, 5, 6, 10, 11, 18, 19, 21, 22, 24, 28, 32, 38, 43, 47, 55, 58, 72, 97, 117, 126], ep := [178, 182], roots := [(1, 1), (3, 3), (4, 4), (5, 5), (6, 6), (10, 10), (11, 11), (18, 18), (19, 19), (21, 21), (22, 22), (24, 24), (28, 28), (32, 1), (38, 1), (43, 4), (47, 6), (55, 1), (58, 1), (72, 1), (97, 1), (117, 1), (126, 19)], ord := fun i => if i = 15 then List.range 7 else if i = 16 then List.range 6 else if i = 18 then List.range 6 else if i = 24 then List.range 11 else if i = 31 then List.range 10 else if i = 33 then List.range 6 else [] }
noncomputable def termsMovedC : Code := Tryz.f4.body.getD .skip
noncomputable def termsMovedD : FDef := ⟨Tryz.f4, termsMovedC, termsMovedH⟩
noncomputable def FL : List (FuncId × FDef) := [(3, termMovesD), (4, termsMovedD)]
noncomputable def C : Ctx := { T := look TL, glob := fun g => if g = 0 then some [V.slice 1 9 [[V.str ⟨#[]⟩], [V.str ⟨#[115, 111, 114, 116]⟩], [V.str ⟨#[99, 111, 110, 115, 116]⟩], [V.str ⟨#[97, 112, 112]⟩], [V.str ⟨#[108, 97, 109]⟩], [V.str ⟨#[112, 105]⟩], [V.str ⟨#[108, 101, 116]⟩]]] else if g = 1 then some [V.str ⟨#[]⟩, V.str ⟨#[115, 111, 114, 116]⟩, V.str ⟨#[99, 111, 110, 115, 116]⟩, V.str ⟨#[97, 112, 112]⟩, V.str ⟨#[108, 97, 109]⟩, V.str ⟨#[112, 105]⟩, V.str ⟨#[108, 101, 116]⟩] else if g = 2 then some [V.str ⟨#[]⟩, V.str ⟨#[115]⟩, V.str ⟨#[109, 97, 120]⟩, V.str ⟨#[105, 109, 97, 120]⟩] else if g = 3 then some (Go.Lib.pow10Tab.map fun z => V.int .u64 z) else none, ext := fun f => if f = 5 then some (lim Mk.C 5) else if f = 6 then some (lim Mk.C 6) else if f = 7 then some (lim Mk.C 7) else if f = 8 then some (lim Mk.C 8) else if f = 9 then some (lim Mk.C 9) else if f = 10 then some (lim Mk.C 10) else if f = 11 then some (lim Mk.C 11) else if f = 12 then some (lim Mk.C 12) else if f = 13 then some (lim Mk.C 13) else if f = 14 then some (lim Mk.C 14) else if f = 15 then some (lim Mk.C 15) else if f = 16 then some (lim Mk.C 16) else if f = 17 then some (lim Mk.C 17) else if f = 18 then some (lim Mk.C 18) else if f = 19 then some (lim Mk.C 19) else if f = 20 then some (lim Mk.C 20) else if f = 21 then some (lim Mk.C 21) else if f = 22 then some (lim Mk.C 22) else if f = 23 then some (lim Mk.C 23) else if f = 24 then some (lim Mk.C 24) else if f = 25 then some (lim Mk.C 25) else if f = 26 then some (lim Mk.C 26) else if f = 27 then some (lim Mk.C 27) else if f = 28 then some (lim Mk.C 28) else if f = 29 then some (lim Mk.C 29) else none, fdef := lookF FL }
theorem typesOk : ∀ t i, C.T t = some i → TOk Tryz.prog t i := look_ok (by kernel_rfl)
theorem ctxOk : CtxOk Tryz.prog C where
 mixed := by kernel_rfl
 T := typesOk
 fdef := by
  refine lookF_ok (P := Tryz.prog) (Q := fun f d => Tryz.prog.funcs[f]? = some d.fn ∧ d.fn.body = some d.code ∧ (∀ (args : Array Value) (w : World), (callFunc f args).run Tryz.prog w = .ok (.enter f args) w)) (L := FL) ?_
  intro p hp
  simp only [FL, List.mem_cons, List.not_mem_nil, or_false] at hp
  rcases hp with rfl | rfl
  ·exact ⟨Tryz.func3, by kernel_rfl, fun args w => Tryz.call3 args w⟩
  ·exact ⟨Tryz.func4, by kernel_rfl, fun args w => Tryz.call4 args w⟩
end Go.Ab.Mq
end
section
set_option maxRecDepth 100000
namespace Go.Ab.Mq
open Go.Proofs Go.Ab
open List (getD)
open IntKind (wrap)
noncomputable def termsMovedk0 : List Nat := [3, 5, 15, 16, 17, 23, 25, 26, 27, 197, 200, 203, 206, 209, 210, 211, 212]
noncomputable def termsMoveds0 (call : CallF) (rec0 : V → V → V → V → V → V → Int → V → V → V → V → V → V → V → V → V → V → RR) (t u v w b x : V) (a : Int) (g h i j k o p q r s : V) (σ : Sto) : Option Res :=
 (V.asSlice w 5 30).bind fun l1 =>
 bif (decide (a < (l1.length : Int))) then
 (V.asBool x).bind fun b2 =>
 bif b2 then
 (V.asSlice w 5 30).bind fun l3 =>
 (grd (decide (0 ≤ a) && decide (a < l3.length))).bind fun _ =>
 (V.asSlice b 5 30).bind fun l4 =>
 (grd (decide (0 ≤ a) && decide (a < l4.length))).bind fun _ =>
 callK call 13 [(V.agg [(getD (getD l3 a.toNat []) 0 V.any), (getD (getD l3 a.toNat []) 1 V.any), (getD (getD l3 a.toNat []) 2 V.any), (getD (getD l3 a.toNat []) 3 V.any), (getD (getD l3 a.toNat []) 4 V.any)], false), (V.agg [(getD (getD l4 a.toNat []) 0 V.any), (getD (getD l4 a.toNat []) 1 V.any), (getD (getD l4 a.toNat []) 2 V.any), (getD (getD l4 a.toNat []) 3 V.any), (getD (getD l4 a.toNat []) 4 V.any)], false)] σ 1 (fun y z =>
 rec0 t u v w b (getD y 0 cellD).1 (wrap .i64 (a + (1 : Int))) g h i j k o p q r s z) pnK
 else
 callK call 26 [(V.agg [o, p, q, r, s], false), (b, false)] σ 1 (fun c a0 =>
 (grd (V.fits (getD c 0 cellD).1 true 5)).bind fun _ =>
 callK call 27 [(V.agg [o, p, q, r, s], false), (b, false)] a0 1 (fun a1 a2 =>
 callK call 13 [(uu5 (getD c 0 cellD).1, false), ((getD a1 0 cellD).1, false)] a2 1 (fun a3 a4 =>
 callK call 28 [(V.agg [g, h, i, j, k], false)] a4 1 (fun a5 d =>
 (V.asBool t).bind fun b20 =>
 bif b20 then
 (V.asBool u).bind fun b21 =>
 bif b21 then
 (V.asBool v).bind fun b22 =>
 bif b22 then
 (V.asBool x).bind fun b23 =>
 bif b23 then
 (V.asBool (getD a3 0 cellD).1).bind fun b24 =>
 bif b24 then
 callK call 29 [(V.agg [g, h, i, j, k], false)] d 1 (fun a6 a7 =>
 (V.asStr (getD a5 0 cellD).1).bind fun s28 =>
 (V.asStr (getD a6 0 cellD).1).bind fun s29 =>
 some (.ret [(V.bool (s28.toList == s29.toList), false)], a7)) pnK
 else
 some (.ret [(V.bool false, false)], d)
 else
 some (.ret [(V.bool false, false)], d)
 else
 some (.ret [(V.bool false, false)], d)
 else
 some (.ret [(V.bool false, false)], d)
 else
 some (.ret [(V.bool false, false)], d)) pnK) pnK) pnK) pnK
 else
 callK call 26 [(V.agg [o, p, q, r, s], false), (b, false)] σ 1 (fun e a8 =>
 (grd (V.fits (getD e 0 cellD).1 true 5)).bind fun _ =>
 callK call 27 [(V.agg [o, p, q, r, s], false), (b, false)] a8 1 (fun a9 c0 =>
 callK call 13 [(uu5 (getD e 0 cellD).1, false), ((getD a9 0 cellD).1, false)] c0 1 (fun c1 c2 =>
 callK call 28 [(V.agg [g, h, i, j, k], false)] c2 1 (fun c3 f =>
 (V.asBool t).bind fun b42 =>
 bif b42 then
 (V.asBool u).bind fun b43 =>
 bif b43 then
 (V.asBool v).bind fun b44 =>
 bif b44 then
 (V.asBool x).bind fun b45 =>
 bif b45 then
 (V.asBool (getD c1 0 cellD).1).bind fun b46 =>
 bif b46 then
 callK call 29 [(V.agg [g, h, i, j, k], false)] f 1 (fun c4 c5 =>
 (V.asStr (getD c3 0 cellD).1).bind fun s50 =>
 (V.asStr (getD c4 0 cellD).1).bind fun s51 =>
 some (.ret [(V.bool (s50.toList == s51.toList), false)], c5)) pnK
 else
 some (.ret [(V.bool false, false)], f)
 else
 some (.ret [(V.bool false, false)], f)
 else
 some (.ret [(V.bool false, false)], f)
 else
 some (.ret [(V.bool false, false)], f)
 else
 some (.ret [(V.bool false, false)], f)) pnK) pnK) pnK) pnK
noncomputable def termsMovedl0 (call : CallF) (n : Nat) : Nat → V → V → V → V → V → V → Int → V → V → V → V → V → V → V → V → V → V → RR
 | 0 => fun _ _ _ _ _ _ _ _ _ _ _ _ _ _ _ _ _ _ => none
 | m + 1 => termsMoveds0 call (termsMovedl0 call n m)
noncomputable def termsMovedt0 (a b c d e f : V) (g : Int) (h i j k o p q r s t : V) (σ : Sto) : St := ⟨[.dead, .dead, .dead, .lptr 3 0, .dead, .lptr 5 0] ++ dd 9 ([.val a false, .val b false, .val c false] ++ dd 5 ([.val d false, .dead, .val e false, .val f false, .val (V.int .i64 g) false] ++ dd 186 [])), [[], [], [], [(h, false), (i, false), (j, false), (k, false), (o, false)], [], [(p, false), (q, false), (r, false), (s, false), (t, false)]] ++ nn 208 [], σ⟩
noncomputable def termsMovedF (call : CallF) (L0 : V → V → V → V → V → V → Int → V → V → V → V → V → V → V → V → V → V → RR) (y4 : Int) (h2 h3 d0 : ByteArray) (h4 h5 : Int) (σ : Sto) : Option Res :=
 callK call 5 [(V.str h2, false)] σ 2 (fun a h6 =>
 (grd (V.fits (getD a 0 cellD).1 true 5)).bind fun _ =>
 (grd (V.fits (getD a 1 cellD).1 true 2)).bind fun _ =>
 callK call 5 [(V.str h3, false)] h6 2 (fun b d6 =>
 (grd (V.fits (getD b 0 cellD).1 true 5)).bind fun _ =>
 (grd (V.fits (getD b 1 cellD).1 true 2)).bind fun _ =>
 (V.asInt (V.cell (getD a 1 cellD).1 0) .i64).bind fun i7 =>
 bif (i7 != (0 : Int)) then
 some (.ret [(V.bool true, false)], d6)
 else
 (V.asInt (V.cell (getD b 1 cellD).1 0) .i64).bind fun i8 =>
 bif (i8 != (0 : Int)) then
 some (.ret [(V.bool true, false)], d6)
 else
 callK call 6 [(uu5 (getD a 0 cellD).1, false), (uu5 (getD b 0 cellD).1, false)] d6 1 (fun h7 e3 =>
 (V.asBool (getD h7 0 cellD).1).bind fun b12 =>
 bif b12 then
 some (.ret [(V.bool true, false)], e3)
 else
 callK call 7 [(V.int .i64 h4, false)] e3 1 (fun d5 h8 =>
 callK call 7 [(V.int .i64 h5, false)] h8 1 (fun e4 h9 =>
 callK call 8 [(uu5 (getD a 0 cellD).1, false), ((getD d5 0 cellD).1, false), ((getD e4 0 cellD).1, false)] h9 1 (fun d1 j0 =>
 (grd (V.fits (getD d1 0 cellD).1 true 5)).bind fun _ =>
 callK call 9 [(uu5 (getD a 0 cellD).1, false), (uu5 (getD b 0 cellD).1, false)] j0 1 (fun d2 j1 =>
 (grd (V.fits (getD d2 0 cellD).1 true 5)).bind fun _ =>
 callK call 10 [(uu5 (getD a 0 cellD).1, false), ((getD d5 0 cellD).1, false)] j1 1 (fun j2 j3 =>
 callK call 11 [(uu5 (getD a 0 cellD).1, false), (V.str d0, false)] j3 1 (fun j4 j5 =>
 callK call 12 [(uu5 (getD a 0 cellD).1, false), (uu5 (getD b 0 cellD).1, false)] j5 1 (fun j6 j7 =>
 callK call 14 [(uu5 (getD a 0 cellD).1, false), ((getD d5 0 cellD).1, false), ((getD e4 0 cellD).1, false)] j7 1 (fun j8 j9 =>
 callK call 13 [(uu5 (getD d1 0 cellD).1, false), ((getD j8 0 cellD).1, false)] j9 1 (fun c k0 =>
 callK call 15 [(uu5 (getD a 0 cellD).1, false), (uu5 (getD b 0 cellD).1, false)] k0 1 (fun k1 k2 =>
 callK call 13 [(uu5 (getD d2 0 cellD).1, false), ((getD k1 0 cellD).1, false)] k2 1 (fun d k3 =>
 callK call 16 [(uu5 (getD a 0 cellD).1, false), ((getD d5 0 cellD).1, false)] k3 1 (fun k4 e5 =>
 (V.asBool (getD j2 0 cellD).1).bind fun b49 =>
 (V.asBool (getD k4 0 cellD).1).bind fun b50 =>
 bif (b49 == b50) then
 callK call 17 [(uu5 (getD a 0 cellD).1, false), (V.str d0, false)] e5 1 (fun k5 k6 =>
 (V.asBool (getD j4 0 cellD).1).bind fun b54 =>
 (V.asBool (getD k5 0 cellD).1).bind fun b55 =>
 callK call 18 [(uu5 (getD a 0 cellD).1, false), (V.slice 1 9 [], true)] k6 1 (fun e6 k7 =>
 (grd ((getD e6 0 cellD).2 && true)).bind fun _ =>
 callK call 18 [(uu5 (getD b 0 cellD).1, false), ((getD e6 0 cellD).1, true)] k7 1 (fun e7 d7 =>
 (grd ((getD e7 0 cellD).2 && true)).bind fun _ =>
 (V.asSlice (getD e7 0 cellD).1 1 9).bind fun l62 =>
 bif (decide ((l62.length : Int) ≤ (6 : Int))) then
 bif (b54 == b55) then
 callK call 19 [(uu5 (getD a 0 cellD).1, false), (uu5 (getD b 0 cellD).1, false)] d7 1 (fun k8 k9 =>
 (V.asBool (getD j6 0 cellD).1).bind fun b66 =>
 (V.asBool (getD k8 0 cellD).1).bind fun b67 =>
 callK call 20 [(V.str d0, false)] k9 2 (fun e o0 =>
 (grd (V.fits (getD e 0 cellD).1 true 3)).bind fun _ =>
 (grd (V.fits (getD e 1 cellD).1 true 2)).bind fun _ =>
 callK call 21 [((V.agg [(V.int .i64 (0 : Int)), (V.int .i64 (0 : Int)), V.str ⟨#[]⟩, V.slice 3 44 [[V.cell (getD e 0 cellD).1 0, V.cell (getD e 0 cellD).1 1, V.cell (getD e 0 cellD).1 2]], V.slice 5 30 []]), false)] o0 1 (fun o1 d8 =>
 (V.asInt (V.cell (getD e 1 cellD).1 0) .i64).bind fun i74 =>
 bif (i74 == (0 : Int)) then
 (V.asBool (getD o1 0 cellD).1).bind fun b75 =>
 bif b75 then
 callK call 22 [(uu5 (getD a 0 cellD).1, false), (V.slice 1 9 [[V.str ⟨#[117]⟩]], true), (V.slice 3 44 [[V.cell (getD e 0 cellD).1 0, V.cell (getD e 0 cellD).1 1, V.cell (getD e 0 cellD).1 2]], true)] d8 1 (fun d3 e8 =>
 (grd (V.fits (getD d3 0 cellD).1 true 5)).bind fun _ =>
 bif (b66 == b67) then
 callK call 23 [(uu5 (getD a 0 cellD).1, false), (V.slice 1 9 [[V.str ⟨#[117]⟩]], true), (V.slice 3 44 [[V.cell (getD e 0 cellD).1 0, V.cell (getD e 0 cellD).1 1, V.cell (getD e 0 cellD).1 2]], true)] e8 1 (fun o2 o3 =>
 callK call 13 [(uu5 (getD d3 0 cellD).1, false), ((getD o2 0 cellD).1, false)] o3 1 (fun e9 o4 =>
 callK call 24 [(uu5 (getD a 0 cellD).1, false)] o4 2 (fun g o5 =>
 (grd (V.fits (getD g 0 cellD).1 true 5)).bind fun _ =>
 callK call 25 [(uu5 (getD a 0 cellD).1, false)] o5 2 (fun h o6 =>
 (grd (V.fits (getD h 0 cellD).1 true 5)).bind fun _ =>
 callK call 13 [(uu5 (getD g 0 cellD).1, false), (uu5 (getD h 0 cellD).1, false)] o6 1 (fun o7 f0 =>
 (V.asBool (getD o7 0 cellD).1).bind fun b94 =>
 bif b94 then
 (V.asSlice (getD g 1 cellD).1 5 30).bind fun l95 =>
 (V.asSlice (getD h 1 cellD).1 5 30).bind fun l96 =>
 L0 (getD c 0 cellD).1 (getD d 0 cellD).1 (getD e9 0 cellD).1 (getD g 1 cellD).1 (getD h 1 cellD).1 (V.bool ((l95.length : Int) == (l96.length : Int))) (0 : Int) (V.cell (getD a 0 cellD).1 0) (V.cell (getD a 0 cellD).1 1) (V.cell (getD a 0 cellD).1 2) (V.cell (getD a 0 cellD).1 3) (V.cell (getD a 0 cellD).1 4) (V.cell (getD b 0 cellD).1 0) (V.cell (getD b 0 cellD).1 1) (V.cell (getD b 0 cellD).1 2) (V.cell (getD b 0 cellD).1 3) (V.cell (getD b 0 cellD).1 4) f0
 else
 L0 (getD c 0 cellD).1 (getD d 0 cellD).1 (getD e9 0 cellD).1 (getD g 1 cellD).1 (getD h 1 cellD).1 (V.bool false) (0 : Int) (V.cell (getD a 0 cellD).1 0) (V.cell (getD a 0 cellD).1 1) (V.cell (getD a 0 cellD).1 2) (V.cell (getD a 0 cellD).1 3) (V.cell (getD a 0 cellD).1 4) (V.cell (getD b 0 cellD).1 0) (V.cell (getD b 0 cellD).1 1) (V.cell (getD b 0 cellD).1 2) (V.cell (getD b 0 cellD).1 3) (V.cell (getD b 0 cellD).1 4) f0) pnK) pnK) pnK) pnK) pnK
 else
 callK call 24 [(uu5 (getD a 0 cellD).1, false)] e8 2 (fun i o8 =>
 (grd (V.fits (getD i 0 cellD).1 true 5)).bind fun _ =>
 callK call 25 [(uu5 (getD a 0 cellD).1, false)] o8 2 (fun j o9 =>
 (grd (V.fits (getD j 0 cellD).1 true 5)).bind fun _ =>
 callK call 13 [(uu5 (getD i 0 cellD).1, false), (uu5 (getD j 0 cellD).1, false)] o9 1 (fun q0 f1 =>
 (V.asBool (getD q0 0 cellD).1).bind fun b106 =>
 bif b106 then
 (V.asSlice (getD i 1 cellD).1 5 30).bind fun l107 =>
 (V.asSlice (getD j 1 cellD).1 5 30).bind fun l108 =>
 L0 (getD c 0 cellD).1 (getD d 0 cellD).1 (V.bool false) (getD i 1 cellD).1 (getD j 1 cellD).1 (V.bool ((l107.length : Int) == (l108.length : Int))) (0 : Int) (V.cell (getD a 0 cellD).1 0) (V.cell (getD a 0 cellD).1 1) (V.cell (getD a 0 cellD).1 2) (V.cell (getD a 0 cellD).1 3) (V.cell (getD a 0 cellD).1 4) (V.cell (getD b 0 cellD).1 0) (V.cell (getD b 0 cellD).1 1) (V.cell (getD b 0 cellD).1 2) (V.cell (getD b 0 cellD).1 3) (V.cell (getD b 0 cellD).1 4) f1
 else
 L0 (getD c 0 cellD).1 (getD d 0 cellD).1 (V.bool false) (getD i 1 cellD).1 (getD j 1 cellD).1 (V.bool false) (0 : Int) (V.cell (getD a 0 cellD).1 0) (V.cell (getD a 0 cellD).1 1) (V.cell (getD a 0 cellD).1 2) (V.cell (getD a 0 cellD).1 3) (V.cell (getD a 0 cellD).1 4) (V.cell (getD b 0 cellD).1 0) (V.cell (getD b 0 cellD).1 1) (V.cell (getD b 0 cellD).1 2) (V.cell (getD b 0 cellD).1 3) (V.cell (getD b 0 cellD).1 4) f1) pnK) pnK) pnK) pnK
 else
 callK call 24 [(uu5 (getD a 0 cellD).1, false)] d8 2 (fun k q1 =>
 (grd (V.fits (getD k 0 cellD).1 true 5)).bind fun _ =>
 callK call 25 [(uu5 (getD a 0 cellD).1, false)] q1 2 (fun o q2 =>
 (grd (V.fits (getD o 0 cellD).1 true 5)).bind fun _ =>
 callK call 13 [(uu5 (getD k 0 cellD).1, false), (uu5 (getD o 0 cellD).1, false)] q2 1 (fun q3 f2 =>
 (V.asBool (getD q3 0 cellD).1).bind fun b118 =>
 bif b118 then
 (V.asSlice (getD k 1 cellD).1 5 30).bind fun l119 =>
 (V.asSlice (getD o 1 cellD).1 5 30).bind fun l120 =>
 L0 (getD c 0 cellD).1 (getD d 0 cellD).1 (V.bool (b66 == b67)) (getD k 1 cellD).1 (getD o 1 cellD).1 (V.bool ((l119.length : Int) == (l120.length : Int))) (0 : Int) (V.cell (getD a 0 cellD).1 0) (V.cell (getD a 0 cellD).1 1) (V.cell (getD a 0 cellD).1 2) (V.cell (getD a 0 cellD).1 3) (V.cell (getD a 0 cellD).1 4) (V.cell (getD b 0 cellD).1 0) (V.cell (getD b 0 cellD).1 1) (V.cell (getD b 0 cellD).1 2) (V.cell (getD b 0 cellD).1 3) (V.cell (getD b 0 cellD).1 4) f2
 else
 L0 (getD c 0 cellD).1 (getD d 0 cellD).1 (V.bool (b66 == b67)) (getD k 1 cellD).1 (getD o 1 cellD).1 (V.bool false) (0 : Int) (V.cell (getD a 0 cellD).1 0) (V.cell (getD a 0 cellD).1 1) (V.cell (getD a 0 cellD).1 2) (V.cell (getD a 0 cellD).1 3) (V.cell (getD a 0 cellD).1 4) (V.cell (getD b 0 cellD).1 0) (V.cell (getD b 0 cellD).1 1) (V.cell (getD b 0 cellD).1 2) (V.cell (getD b 0 cellD).1 3) (V.cell (getD b 0 cellD).1 4) f2) pnK) pnK) pnK
 else
 callK call 24 [(uu5 (getD a 0 cellD).1, false)] d8 2 (fun p q4 =>
 (grd (V.fits (getD p 0 cellD).1 true 5)).bind fun _ =>
 callK call 25 [(uu5 (getD a 0 cellD).1, false)] q4 2 (fun q q5 =>
 (grd (V.fits (getD q 0 cellD).1 true 5)).bind fun _ =>
 callK call 13 [(uu5 (getD p 0 cellD).1, false), (uu5 (getD q 0 cellD).1, false)] q5 1 (fun q6 f3 =>
 (V.asBool (getD q6 0 cellD).1).bind fun b130 =>
 bif b130 then
 (V.asSlice (getD p 1 cellD).1 5 30).bind fun l131 =>
 (V.asSlice (getD q 1 cellD).1 5 30).bind fun l132 =>
 L0 (getD c 0 cellD).1 (getD d 0 cellD).1 (V.bool (b66 == b67)) (getD p 1 cellD).1 (getD q 1 cellD).1 (V.bool ((l131.length : Int) == (l132.length : Int))) (0 : Int) (V.cell (getD a 0 cellD).1 0) (V.cell (getD a 0 cellD).1 1) (V.cell (getD a 0 cellD).1 2) (V.cell (getD a 0 cellD).1 3) (V.cell (getD a 0 cellD).1 4) (V.cell (getD b 0 cellD).1 0) (V.cell (getD b 0 cellD).1 1) (V.cell (getD b 0 cellD).1 2) (V.cell (getD b 0 cellD).1 3) (V.cell (getD b 0 cellD).1 4) f3
 else
 L0 (getD c 0 cellD).1 (getD d 0 cellD).1 (V.bool (b66 == b67)) (getD p 1 cellD).1 (getD q 1 cellD).1 (V.bool false) (0 : Int) (V.cell (getD a 0 cellD).1 0) (V.cell (getD a 0 cellD).1 1) (V.cell (getD a 0 cellD).1 2) (V.cell (getD a 0 cellD).1 3) (V.cell (getD a 0 cellD).1 4) (V.cell (getD b 0 cellD).1 0) (V.cell (getD b 0 cellD).1 1) (V.cell (getD b 0 cellD).1 2) (V.cell (getD b 0 cellD).1 3) (V.cell (getD b 0 cellD).1 4) f3) pnK) pnK) pnK) pnK) pnK) pnK
 else
 callK call 20 [(V.str d0, false)] d7 2 (fun r q7 =>
 (grd (V.fits (getD r 0 cellD).1 true 3)).bind fun _ =>
 (grd (V.fits (getD r 1 cellD).1 true 2)).bind fun _ =>
 callK call 21 [((V.agg [(V.int .i64 (0 : Int)), (V.int .i64 (0 : Int)), V.str ⟨#[]⟩, V.slice 3 44 [[V.cell (getD r 0 cellD).1 0, V.cell (getD r 0 cellD).1 1, V.cell (getD r 0 cellD).1 2]], V.slice 5 30 []]), false)] q7 1 (fun q8 d9 =>
 (V.asInt (V.cell (getD r 1 cellD).1 0) .i64).bind fun i139 =>
 bif (i139 == (0 : Int)) then
 (V.asBool (getD q8 0 cellD).1).bind fun b140 =>
 bif b140 then
 callK call 22 [(uu5 (getD a 0 cellD).1, false), (V.slice 1 9 [[V.str ⟨#[117]⟩]], true), (V.slice 3 44 [[V.cell (getD r 0 cellD).1 0, V.cell (getD r 0 cellD).1 1, V.cell (getD r 0 cellD).1 2]], true)] d9 1 (fun q9 r0 =>
 (grd (V.fits (getD q9 0 cellD).1 true 5)).bind fun _ =>
 callK call 24 [(uu5 (getD a 0 cellD).1, false)] r0 2 (fun s r1 =>
 (grd (V.fits (getD s 0 cellD).1 true 5)).bind fun _ =>
 callK call 25 [(uu5 (getD a 0 cellD).1, false)] r1 2 (fun t r2 =>
 (grd (V.fits (getD t 0 cellD).1 true 5)).bind fun _ =>
 callK call 13 [(uu5 (getD s 0 cellD).1, false), (uu5 (getD t 0 cellD).1, false)] r2 1 (fun r3 f4 =>
 (V.asBool (getD r3 0 cellD).1).bind fun b153 =>
 bif b153 then
 (V.asSlice (getD s 1 cellD).1 5 30).bind fun l154 =>
 (V.asSlice (getD t 1 cellD).1 5 30).bind fun l155 =>
 L0 (getD c 0 cellD).1 (getD d 0 cellD).1 (V.bool false) (getD s 1 cellD).1 (getD t 1 cellD).1 (V.bool ((l154.length : Int) == (l155.length : Int))) (0 : Int) (V.cell (getD a 0 cellD).1 0) (V.cell (getD a 0 cellD).1 1) (V.cell (getD a 0 cellD).1 2) (V.cell (getD a 0 cellD).1 3) (V.cell (getD a 0 cellD).1 4) (V.cell (getD b 0 cellD).1 0) (V.cell (getD b 0 cellD).1 1) (V.cell (getD b 0 cellD).1 2) (V.cell (getD b 0 cellD).1 3) (V.cell (getD b 0 cellD).1 4) f4
 else
 L0 (getD c 0 cellD).1 (getD d 0 cellD).1 (V.bool false) (getD s 1 cellD).1 (getD t 1 cellD).1 (V.bool false) (0 : Int) (V.cell (getD a 0 cellD).1 0) (V.cell (getD a 0 cellD).1 1) (V.cell (getD a 0 cellD).1 2) (V.cell (getD a 0 cellD).1 3) (V.cell (getD a 0 cellD).1 4) (V.cell (getD b 0 cellD).1 0) (V.cell (getD b 0 cellD).1 1) (V.cell (getD b 0 cellD).1 2) (V.cell (getD b 0 cellD).1 3) (V.cell (getD b 0 cellD).1 4) f4) pnK) pnK) pnK) pnK
 else
 callK call 24 [(uu5 (getD a 0 cellD).1, false)] d9 2 (fun u r4 =>
 (grd (V.fits (getD u 0 cellD).1 true 5)).bind fun _ =>
 callK call 25 [(uu5 (getD a 0 cellD).1, false)] r4 2 (fun v r5 =>
 (grd (V.fits (getD v 0 cellD).1 true 5)).bind fun _ =>
 callK call 13 [(uu5 (getD u 0 cellD).1, false), (uu5 (getD v 0 cellD).1, false)] r5 1 (fun r6 f5 =>
 (V.asBool (getD r6 0 cellD).1).bind fun b165 =>
 bif b165 then
 (V.asSlice (getD u 1 cellD).1 5 30).bind fun l166 =>
 (V.asSlice (getD v 1 cellD).1 5 30).bind fun l167 =>
 L0 (getD c 0 cellD).1 (getD d 0 cellD).1 (V.bool false) (getD u 1 cellD).1 (getD v 1 cellD).1 (V.bool ((l166.length : Int) == (l167.length : Int))) (0 : Int) (V.cell (getD a 0 cellD).1 0) (V.cell (getD a 0 cellD).1 1) (V.cell (getD a 0 cellD).1 2) (V.cell (getD a 0 cellD).1 3) (V.cell (getD a 0 cellD).1 4) (V.cell (getD b 0 cellD).1 0) (V.cell (getD b 0 cellD).1 1) (V.cell (getD b 0 cellD).1 2) (V.cell (getD b 0 cellD).1 3) (V.cell (getD b 0 cellD).1 4) f5
 else
 L0 (getD c 0 cellD).1 (getD d 0 cellD).1 (V.bool false) (getD u 1 cellD).1 (getD v 1 cellD).1 (V.bool false) (0 : Int) (V.cell (getD a 0 cellD).1 0) (V.cell (getD a 0 cellD).1 1) (V.cell (getD a 0 cellD).1 2) (V.cell (getD a 0 cellD).1 3) (V.cell (getD a 0 cellD).1 4) (V.cell (getD b 0 cellD).1 0) (V.cell (getD b 0 cellD).1 1) (V.cell (getD b 0 cellD).1 2) (V.cell (getD b 0 cellD).1 3) (V.cell (getD b 0 cellD).1 4) f5) pnK) pnK) pnK
 else
 callK call 24 [(uu5 (getD a 0 cellD).1, false)] d9 2 (fun w r7 =>
 (grd (V.fits (getD w 0 cellD).1 true 5)).bind fun _ =>
 callK call 25 [(uu5 (getD a 0 cellD).1, false)] r7 2 (fun x r8 =>
 (grd (V.fits (getD x 0 cellD).1 true 5)).bind fun _ =>
 callK call 13 [(uu5 (getD w 0 cellD).1, false), (uu5 (getD x 0 cellD).1, false)] r8 1 (fun r9 f6 =>
 (V.asBool (getD r9 0 cellD).1).bind fun b177 =>
 bif b177 then
 (V.asSlice (getD w 1 cellD).1 5 30).bind fun l178 =>
 (V.asSlice (getD x 1 cellD).1 5 30).bind fun l179 =>
 L0 (getD c 0 cellD).1 (getD d 0 cellD).1 (V.bool false) (getD w 1 cellD).1 (getD x 1 cellD).1 (V.bool ((l178.length : Int) == (l179.length : Int))) (0 : Int) (V.cell (getD a 0 cellD).1 0) (V.cell (getD a 0 cellD).1 1) (V.cell (getD a 0 cellD).1 2) (V.cell (getD a 0 cellD).1 3) (V.cell (getD a 0 cellD).1 4) (V.cell (getD b 0 cellD).1 0) (V.cell (getD b 0 cellD).1 1) (V.cell (getD b 0 cellD).1 2) (V.cell (getD b 0 cellD).1 3) (V.cell (getD b 0 cellD).1 4) f6
 else
 L0 (getD c 0 cellD).1 (getD d 0 cellD).1 (V.bool false) (getD w 1 cellD).1 (getD x 1 cellD).1 (V.bool false) (0 : Int) (V.cell (getD a 0 cellD).1 0) (V.cell (getD a 0 cellD).1 1) (V.cell (getD a 0 cellD).1 2) (V.cell (getD a 0 cellD).1 3) (V.cell (getD a 0 cellD).1 4) (V.cell (getD b 0 cellD).1 0) (V.cell (getD b 0 cellD).1 1) (V.cell (getD b 0 cellD).1 2) (V.cell (getD b 0 cellD).1 3) (V.cell (getD b 0 cellD).1 4) f6) pnK) pnK) pnK) pnK) pnK
 else
 callK call 20 [(V.str d0, false)] d7 2 (fun f t0 =>
 (grd (V.fits (getD f 0 cellD).1 true 3)).bind fun _ =>
 (grd (V.fits (getD f 1 cellD).1 true 2)).bind fun _ =>
 callK call 21 [((V.agg [(V.int .i64 (0 : Int)), (V.int .i64 (0 : Int)), V.str ⟨#[]⟩, V.slice 3 44 [[V.cell (getD f 0 cellD).1 0, V.cell (getD f 0 cellD).1 1, V.cell (getD f 0 cellD).1 2]], V.slice 5 30 []]), false)] t0 1 (fun t1 e0 =>
 (V.asInt (V.cell (getD f 1 cellD).1 0) .i64).bind fun i186 =>
 bif (i186 == (0 : Int)) then
 (V.asBool (getD t1 0 cellD).1).bind fun b187 =>
 bif b187 then
 callK call 22 [(uu5 (getD a 0 cellD).1, false), (V.slice 1 9 [[V.str ⟨#[117]⟩]], true), (V.slice 3 44 [[V.cell (getD f 0 cellD).1 0, V.cell (getD f 0 cellD).1 1, V.cell (getD f 0 cellD).1 2]], true)] e0 1 (fun d4 f7 =>
 (grd (V.fits (getD d4 0 cellD).1 true 5)).bind fun _ =>
 bif (b54 == b55) then
 callK call 23 [(uu5 (getD a 0 cellD).1, false), (V.slice 1 9 [[V.str ⟨#[117]⟩]], true), (V.slice 3 44 [[V.cell (getD f 0 cellD).1 0, V.cell (getD f 0 cellD).1 1, V.cell (getD f 0 cellD).1 2]], true)] f7 1 (fun t2 t3 =>
 callK call 13 [(uu5 (getD d4 0 cellD).1, false), ((getD t2 0 cellD).1, false)] t3 1 (fun f8 t4 =>
 callK call 24 [(uu5 (getD a 0 cellD).1, false)] t4 2 (fun y t5 =>
 (grd (V.fits (getD y 0 cellD).1 true 5)).bind fun _ =>
 callK call 25 [(uu5 (getD a 0 cellD).1, false)] t5 2 (fun z t6 =>
 (grd (V.fits (getD z 0 cellD).1 true 5)).bind fun _ =>
 callK call 13 [(uu5 (getD y 0 cellD).1, false), (uu5 (getD z 0 cellD).1, false)] t6 1 (fun t7 f9 =>
 (V.asBool (getD t7 0 cellD).1).bind fun b206 =>
 bif b206 then
 (V.asSlice (getD y 1 cellD).1 5 30).bind fun l207 =>
 (V.asSlice (getD z 1 cellD).1 5 30).bind fun l208 =>
 L0 (getD c 0 cellD).1 (getD d 0 cellD).1 (getD f8 0 cellD).1 (getD y 1 cellD).1 (getD z 1 cellD).1 (V.bool ((l207.length : Int) == (l208.length : Int))) (0 : Int) (V.cell (getD a 0 cellD).1 0) (V.cell (getD a 0 cellD).1 1) (V.cell (getD a 0 cellD).1 2) (V.cell (getD a 0 cellD).1 3) (V.cell (getD a 0 cellD).1 4) (V.cell (getD b 0 cellD).1 0) (V.cell (getD b 0 cellD).1 1) (V.cell (getD b 0 cellD).1 2) (V.cell (getD b 0 cellD).1 3) (V.cell (getD b 0 cellD).1 4) f9
 else
 L0 (getD c 0 cellD).1 (getD d 0 cellD).1 (getD f8 0 cellD).1 (getD y 1 cellD).1 (getD z 1 cellD).1 (V.bool false) (0 : Int) (V.cell (getD a 0 cellD).1 0) (V.cell (getD a 0 cellD).1 1) (V.cell (getD a 0 cellD).1 2) (V.cell (getD a 0 cellD).1 3) (V.cell (getD a 0 cellD).1 4) (V.cell (getD b 0 cellD).1 0) (V.cell (getD b 0 cellD).1 1) (V.cell (getD b 0 cellD).1 2) (V.cell (getD b 0 cellD).1 3) (V.cell (getD b 0 cellD).1 4) f9) pnK) pnK) pnK) pnK) pnK
 else
 callK call 24 [(uu5 (getD a 0 cellD).1, false)] f7 2 (fun a0 t8 =>
 (grd (V.fits (getD a0 0 cellD).1 true 5)).bind fun _ =>
 callK call 25 [(uu5 (getD a 0 cellD).1, false)] t8 2 (fun a1 t9 =>
 (grd (V.fits (getD a1 0 cellD).1 true 5)).bind fun _ =>
 callK call 13 [(uu5 (getD a0 0 cellD).1, false), (uu5 (getD a1 0 cellD).1, false)] t9 1 (fun u0 g0 =>
 (V.asBool (getD u0 0 cellD).1).bind fun b218 =>
 bif b218 then
 (V.asSlice (getD a0 1 cellD).1 5 30).bind fun l219 =>
 (V.asSlice (getD a1 1 cellD).1 5 30).bind fun l220 =>
 L0 (getD c 0 cellD).1 (getD d 0 cellD).1 (V.bool false) (getD a0 1 cellD).1 (getD a1 1 cellD).1 (V.bool ((l219.length : Int) == (l220.length : Int))) (0 : Int) (V.cell (getD a 0 cellD).1 0) (V.cell (getD a 0 cellD).1 1) (V.cell (getD a 0 cellD).1 2) (V.cell (getD a 0 cellD).1 3) (V.cell (getD a 0 cellD).1 4) (V.cell (getD b 0 cellD).1 0) (V.cell (getD b 0 cellD).1 1) (V.cell (getD b 0 cellD).1 2) (V.cell (getD b 0 cellD).1 3) (V.cell (getD b 0 cellD).1 4) g0
 else
 L0 (getD c 0 cellD).1 (getD d 0 cellD).1 (V.bool false) (getD a0 1 cellD).1 (getD a1 1 cellD).1 (V.bool false) (0 : Int) (V.cell (getD a 0 cellD).1 0) (V.cell (getD a 0 cellD).1 1) (V.cell (getD a 0 cellD).1 2) (V.cell (getD a 0 cellD).1 3) (V.cell (getD a 0 cellD).1 4) (V.cell (getD b 0 cellD).1 0) (V.cell (getD b 0 cellD).1 1) (V.cell (getD b 0 cellD).1 2) (V.cell (getD b 0 cellD).1 3) (V.cell (getD b 0 cellD).1 4) g0) pnK) pnK) pnK) pnK
 else
 callK call 24 [(uu5 (getD a 0 cellD).1, false)] e0 2 (fun a2 u1 =>
 (grd (V.fits (getD a2 0 cellD).1 true 5)).bind fun _ =>
 callK call 25 [(uu5 (getD a 0 cellD).1, false)] u1 2 (fun a3 u2 =>
 (grd (V.fits (getD a3 0 cellD).1 true 5)).bind fun _ =>
 callK call 13 [(uu5 (getD a2 0 cellD).1, false), (uu5 (getD a3 0 cellD).1, false)] u2 1 (fun u3 g1 =>
 (V.asBool (getD u3 0 cellD).1).bind fun b230 =>
 bif b230 then
 (V.asSlice (getD a2 1 cellD).1 5 30).bind fun l231 =>
 (V.asSlice (getD a3 1 cellD).1 5 30).bind fun l232 =>
 L0 (getD c 0 cellD).1 (getD d 0 cellD).1 (V.bool (b54 == b55)) (getD a2 1 cellD).1 (getD a3 1 cellD).1 (V.bool ((l231.length : Int) == (l232.length : Int))) (0 : Int) (V.cell (getD a 0 cellD).1 0) (V.cell (getD a 0 cellD).1 1) (V.cell (getD a 0 cellD).1 2) (V.cell (getD a 0 cellD).1 3) (V.cell (getD a 0 cellD).1 4) (V.cell (getD b 0 cellD).1 0) (V.cell (getD b 0 cellD).1 1) (V.cell (getD b 0 cellD).1 2) (V.cell (getD b 0 cellD).1 3) (V.cell (getD b 0 cellD).1 4) g1
 else
 L0 (getD c 0 cellD).1 (getD d 0 cellD).1 (V.bool (b54 == b55)) (getD a2 1 cellD).1 (getD a3 1 cellD).1 (V.bool false) (0 : Int) (V.cell (getD a 0 cellD).1 0) (V.cell (getD a 0 cellD).1 1) (V.cell (getD a 0 cellD).1 2) (V.cell (getD a 0 cellD).1 3) (V.cell (getD a 0 cellD).1 4) (V.cell (getD b 0 cellD).1 0) (V.cell (getD b 0 cellD).1 1) (V.cell (getD b 0 cellD).1 2) (V.cell (getD b 0 cellD).1 3) (V.cell (getD b 0 cellD).1 4) g1) pnK) pnK) pnK
 else
 callK call 24 [(uu5 (getD a 0 cellD).1, false)] e0 2 (fun a4 u4 =>
 (grd (V.fits (getD a4 0 cellD).1 true 5)).bind fun _ =>
 callK call 25 [(uu5 (getD a 0 cellD).1, false)] u4 2 (fun a5 u5 =>
 (grd (V.fits (getD a5 0 cellD).1 true 5)).bind fun _ =>
 callK call 13 [(uu5 (getD a4 0 cellD).1, false), (uu5 (getD a5 0 cellD).1, false)] u5 1 (fun u6 g2 =>
 (V.asBool (getD u6 0 cellD).1).bind fun b242 =>
 bif b242 then
 (V.asSlice (getD a4 1 cellD).1 5 30).bind fun l243 =>
 (V.asSlice (getD a5 1 cellD).1 5 30).bind fun l244 =>
 L0 (getD c 0 cellD).1 (getD d 0 cellD).1 (V.bool (b54 == b55)) (getD a4 1 cellD).1 (getD a5 1 cellD).1 (V.bool ((l243.length : Int) == (l244.length : Int))) (0 : Int) (V.cell (getD a 0 cellD).1 0) (V.cell (getD a 0 cellD).1 1) (V.cell (getD a 0 cellD).1 2) (V.cell (getD a 0 cellD).1 3) (V.cell (getD a 0 cellD).1 4) (V.cell (getD b 0 cellD).1 0) (V.cell (getD b 0 cellD).1 1) (V.cell (getD b 0 cellD).1 2) (V.cell (getD b 0 cellD).1 3) (V.cell (getD b 0 cellD).1 4) g2
 else
 L0 (getD c 0 cellD).1 (getD d 0 cellD).1 (V.bool (b54 == b55)) (getD a4 1 cellD).1 (getD a5 1 cellD).1 (V.bool false) (0 : Int) (V.cell (getD a 0 cellD).1 0) (V.cell (getD a 0 cellD).1 1) (V.cell (getD a 0 cellD).1 2) (V.cell (getD a 0 cellD).1 3) (V.cell (getD a 0 cellD).1 4) (V.cell (getD b 0 cellD).1 0) (V.cell (getD b 0 cellD).1 1) (V.cell (getD b 0 cellD).1 2) (V.cell (getD b 0 cellD).1 3) (V.cell (getD b 0 cellD).1 4) g2) pnK) pnK) pnK) pnK) pnK) pnK) pnK) pnK
 else
 callK call 18 [(uu5 (getD a 0 cellD).1, false), (V.slice 1 9 [], true)] e5 1 (fun g3 u7 =>
 (grd ((getD g3 0 cellD).2 && true)).bind fun _ =>
 callK call 18 [(uu5 (getD b 0 cellD).1, false), ((getD g3 0 cellD).1, true)] u7 1 (fun g4 g5 =>
 (grd ((getD g4 0 cellD).2 && true)).bind fun _ =>
 (V.asSlice (getD g4 0 cellD).1 1 9).bind fun l251 =>
 bif (decide ((l251.length : Int) ≤ (6 : Int))) then
 callK call 20 [(V.str d0, false)] g5 2 (fun a6 u8 =>
 (grd (V.fits (getD a6 0 cellD).1 true 3)).bind fun _ =>
 (grd (V.fits (getD a6 1 cellD).1 true 2)).bind fun _ =>
 callK call 21 [((V.agg [(V.int .i64 (0 : Int)), (V.int .i64 (0 : Int)), V.str ⟨#[]⟩, V.slice 3 44 [[V.cell (getD a6 0 cellD).1 0, V.cell (getD a6 0 cellD).1 1, V.cell (getD a6 0 cellD).1 2]], V.slice 5 30 []]), false)] u8 1 (fun u9 e1 =>
 (V.asInt (V.cell (getD a6 1 cellD).1 0) .i64).bind fun i258 =>
 bif (i258 == (0 : Int)) then
 (V.asBool (getD u9 0 cellD).1).bind fun b259 =>
 bif b259 then
 callK call 22 [(uu5 (getD a 0 cellD).1, false), (V.slice 1 9 [[V.str ⟨#[117]⟩]], true), (V.slice 3 44 [[V.cell (getD a6 0 cellD).1 0, V.cell (getD a6 0 cellD).1 1, V.cell (getD a6 0 cellD).1 2]], true)] e1 1 (fun w0 w1 =>
 (grd (V.fits (getD w0 0 cellD).1 true 5)).bind fun _ =>
 callK call 24 [(uu5 (getD a 0 cellD).1, false)] w1 2 (fun a7 w2 =>
 (grd (V.fits (getD a7 0 cellD).1 true 5)).bind fun _ =>
 callK call 25 [(uu5 (getD a 0 cellD).1, false)] w2 2 (fun a8 w3 =>
 (grd (V.fits (getD a8 0 cellD).1 true 5)).bind fun _ =>
 callK call 13 [(uu5 (getD a7 0 cellD).1, false), (uu5 (getD a8 0 cellD).1, false)] w3 1 (fun w4 g6 =>
 (V.asBool (getD w4 0 cellD).1).bind fun b272 =>
 bif b272 then
 (V.asSlice (getD a7 1 cellD).1 5 30).bind fun l273 =>
 (V.asSlice (getD a8 1 cellD).1 5 30).bind fun l274 =>
 L0 (getD c 0 cellD).1 (getD d 0 cellD).1 (V.bool false) (getD a7 1 cellD).1 (getD a8 1 cellD).1 (V.bool ((l273.length : Int) == (l274.length : Int))) (0 : Int) (V.cell (getD a 0 cellD).1 0) (V.cell (getD a 0 cellD).1 1) (V.cell (getD a 0 cellD).1 2) (V.cell (getD a 0 cellD).1 3) (V.cell (getD a 0 cellD).1 4) (V.cell (getD b 0 cellD).1 0) (V.cell (getD b 0 cellD).1 1) (V.cell (getD b 0 cellD).1 2) (V.cell (getD b 0 cellD).1 3) (V.cell (getD b 0 cellD).1 4) g6
 else
 L0 (getD c 0 cellD).1 (getD d 0 cellD).1 (V.bool false) (getD a7 1 cellD).1 (getD a8 1 cellD).1 (V.bool false) (0 : Int) (V.cell (getD a 0 cellD).1 0) (V.cell (getD a 0 cellD).1 1) (V.cell (getD a 0 cellD).1 2) (V.cell (getD a 0 cellD).1 3) (V.cell (getD a 0 cellD).1 4) (V.cell (getD b 0 cellD).1 0) (V.cell (getD b 0 cellD).1 1) (V.cell (getD b 0 cellD).1 2) (V.cell (getD b 0 cellD).1 3) (V.cell (getD b 0 cellD).1 4) g6) pnK) pnK) pnK) pnK
 else
 callK call 24 [(uu5 (getD a 0 cellD).1, false)] e1 2 (fun a9 w5 =>
 (grd (V.fits (getD a9 0 cellD).1 true 5)).bind fun _ =>
 callK call 25 [(uu5 (getD a 0 cellD).1, false)] w5 2 (fun c0 w6 =>
 (grd (V.fits (getD c0 0 cellD).1 true 5)).bind fun _ =>
 callK call 13 [(uu5 (getD a9 0 cellD).1, false), (uu5 (getD c0 0 cellD).1, false)] w6 1 (fun w7 g7 =>
 (V.asBool (getD w7 0 cellD).1).bind fun b284 =>
 bif b284 then
 (V.asSlice (getD a9 1 cellD).1 5 30).bind fun l285 =>
 (V.asSlice (getD c0 1 cellD).1 5 30).bind fun l286 =>
 L0 (getD c 0 cellD).1 (getD d 0 cellD).1 (V.bool false) (getD a9 1 cellD).1 (getD c0 1 cellD).1 (V.bool ((l285.length : Int) == (l286.length : Int))) (0 : Int) (V.cell (getD a 0 cellD).1 0) (V.cell (getD a 0 cellD).1 1) (V.cell (getD a 0 cellD).1 2) (V.cell (getD a 0 cellD).1 3) (V.cell (getD a 0 cellD).1 4) (V.cell (getD b 0 cellD).1 0) (V.cell (getD b 0 cellD).1 1) (V.cell (getD b 0 cellD).1 2) (V.cell (getD b 0 cellD).1 3) (V.cell (getD b 0 cellD).1 4) g7
 else
 L0 (getD c 0 cellD).1 (getD d 0 cellD).1 (V.bool false) (getD a9 1 cellD).1 (getD c0 1 cellD).1 (V.bool false) (0 : Int) (V.cell (getD a 0 cellD).1 0) (V.cell (getD a 0 cellD).1 1) (V.cell (getD a 0 cellD).1 2) (V.cell (getD a 0 cellD).1 3) (V.cell (getD a 0 cellD).1 4) (V.cell (getD b 0 cellD).1 0) (V.cell (getD b 0 cellD).1 1) (V.cell (getD b 0 cellD).1 2) (V.cell (getD b 0 cellD).1 3) (V.cell (getD b 0 cellD).1 4) g7) pnK) pnK) pnK
 else
 callK call 24 [(uu5 (getD a 0 cellD).1, false)] e1 2 (fun c1 w8 =>
 (grd (V.fits (getD c1 0 cellD).1 true 5)).bind fun _ =>
 callK call 25 [(uu5 (getD a 0 cellD).1, false)] w8 2 (fun c2 w9 =>
 (grd (V.fits (getD c2 0 cellD).1 true 5)).bind fun _ =>
 callK call 13 [(uu5 (getD c1 0 cellD).1, false), (uu5 (getD c2 0 cellD).1, false)] w9 1 (fun x0 g8 =>
 (V.asBool (getD x0 0 cellD).1).bind fun b296 =>
 bif b296 then
 (V.asSlice (getD c1 1 cellD).1 5 30).bind fun l297 =>
 (V.asSlice (getD c2 1 cellD).1 5 30).bind fun l298 =>
 L0 (getD c 0 cellD).1 (getD d 0 cellD).1 (V.bool false) (getD c1 1 cellD).1 (getD c2 1 cellD).1 (V.bool ((l297.length : Int) == (l298.length : Int))) (0 : Int) (V.cell (getD a 0 cellD).1 0) (V.cell (getD a 0 cellD).1 1) (V.cell (getD a 0 cellD).1 2) (V.cell (getD a 0 cellD).1 3) (V.cell (getD a 0 cellD).1 4) (V.cell (getD b 0 cellD).1 0) (V.cell (getD b 0 cellD).1 1) (V.cell (getD b 0 cellD).1 2) (V.cell (getD b 0 cellD).1 3) (V.cell (getD b 0 cellD).1 4) g8
 else
 L0 (getD c 0 cellD).1 (getD d 0 cellD).1 (V.bool false) (getD c1 1 cellD).1 (getD c2 1 cellD).1 (V.bool false) (0 : Int) (V.cell (getD a 0 cellD).1 0) (V.cell (getD a 0 cellD).1 1) (V.cell (getD a 0 cellD).1 2) (V.cell (getD a 0 cellD).1 3) (V.cell (getD a 0 cellD).1 4) (V.cell (getD b 0 cellD).1 0) (V.cell (getD b 0 cellD).1 1) (V.cell (getD b 0 cellD).1 2) (V.cell (getD b 0 cellD).1 3) (V.cell (getD b 0 cellD).1 4) g8) pnK) pnK) pnK) pnK) pnK
 else
 callK call 20 [(V.str d0, false)] g5 2 (fun c3 x1 =>
 (grd (V.fits (getD c3 0 cellD).1 true 3)).bind fun _ =>
 (grd (V.fits (getD c3 1 cellD).1 true 2)).bind fun _ =>
 callK call 21 [((V.agg [(V.int .i64 (0 : Int)), (V.int .i64 (0 : Int)), V.str ⟨#[]⟩, V.slice 3 44 [[V.cell (getD c3 0 cellD).1 0, V.cell (getD c3 0 cellD).1 1, V.cell (getD c3 0 cellD).1 2]], V.slice 5 30 []]), false)] x1 1 (fun x2 e2 =>
 (V.asInt (V.cell (getD c3 1 cellD).1 0) .i64).bind fun i305 =>
 bif (i305 == (0 : Int)) then
 (V.asBool (getD x2 0 cellD).1).bind fun b306 =>
 bif b306 then
 callK call 22 [(uu5 (getD a 0 cellD).1, false), (V.slice 1 9 [[V.str ⟨#[117]⟩]], true), (V.slice 3 44 [[V.cell (getD c3 0 cellD).1 0, V.cell (getD c3 0 cellD).1 1, V.cell (getD c3 0 cellD).1 2]], true)] e2 1 (fun x3 x4 =>
 (grd (V.fits (getD x3 0 cellD).1 true 5)).bind fun _ =>
 callK call 24 [(uu5 (getD a 0 cellD).1, false)] x4 2 (fun c4 x5 =>
 (grd (V.fits (getD c4 0 cellD).1 true 5)).bind fun _ =>
 callK call 25 [(uu5 (getD a 0 cellD).1, false)] x5 2 (fun c5 x6 =>
 (grd (V.fits (getD c5 0 cellD).1 true 5)).bind fun _ =>
 callK call 13 [(uu5 (getD c4 0 cellD).1, false), (uu5 (getD c5 0 cellD).1, false)] x6 1 (fun x7 g9 =>
 (V.asBool (getD x7 0 cellD).1).bind fun b319 =>
 bif b319 then
 (V.asSlice (getD c4 1 cellD).1 5 30).bind fun l320 =>
 (V.asSlice (getD c5 1 cellD).1 5 30).bind fun l321 =>
 L0 (getD c 0 cellD).1 (getD d 0 cellD).1 (V.bool false) (getD c4 1 cellD).1 (getD c5 1 cellD).1 (V.bool ((l320.length : Int) == (l321.length : Int))) (0 : Int) (V.cell (getD a 0 cellD).1 0) (V.cell (getD a 0 cellD).1 1) (V.cell (getD a 0 cellD).1 2) (V.cell (getD a 0 cellD).1 3) (V.cell (getD a 0 cellD).1 4) (V.cell (getD b 0 cellD).1 0) (V.cell (getD b 0 cellD).1 1) (V.cell (getD b 0 cellD).1 2) (V.cell (getD b 0 cellD).1 3) (V.cell (getD b 0 cellD).1 4) g9
 else
 L0 (getD c 0 cellD).1 (getD d 0 cellD).1 (V.bool false) (getD c4 1 cellD).1 (getD c5 1 cellD).1 (V.bool false) (0 : Int) (V.cell (getD a 0 cellD).1 0) (V.cell (getD a 0 cellD).1 1) (V.cell (getD a 0 cellD).1 2) (V.cell (getD a 0 cellD).1 3) (V.cell (getD a 0 cellD).1 4) (V.cell (getD b 0 cellD).1 0) (V.cell (getD b 0 cellD).1 1) (V.cell (getD b 0 cellD).1 2) (V.cell (getD b 0 cellD).1 3) (V.cell (getD b 0 cellD).1 4) g9) pnK) pnK) pnK) pnK
 else
 callK call 24 [(uu5 (getD a 0 cellD).1, false)] e2 2 (fun c6 x8 =>
 (grd (V.fits (getD c6 0 cellD).1 true 5)).bind fun _ =>
 callK call 25 [(uu5 (getD a 0 cellD).1, false)] x8 2 (fun c7 x9 =>
 (grd (V.fits (getD c7 0 cellD).1 true 5)).bind fun _ =>
 callK call 13 [(uu5 (getD c6 0 cellD).1, false), (uu5 (getD c7 0 cellD).1, false)] x9 1 (fun y0 h0 =>
 (V.asBool (getD y0 0 cellD).1).bind fun b331 =>
 bif b331 then
 (V.asSlice (getD c6 1 cellD).1 5 30).bind fun l332 =>
 (V.asSlice (getD c7 1 cellD).1 5 30).bind fun l333 =>
 L0 (getD c 0 cellD).1 (getD d 0 cellD).1 (V.bool false) (getD c6 1 cellD).1 (getD c7 1 cellD).1 (V.bool ((l332.length : Int) == (l333.length : Int))) (0 : Int) (V.cell (getD a 0 cellD).1 0) (V.cell (getD a 0 cellD).1 1) (V.cell (getD a 0 cellD).1 2) (V.cell (getD a 0 cellD).1 3) (V.cell (getD a 0 cellD).1 4) (V.cell (getD b 0 cellD).1 0) (V.cell (getD b 0 cellD).1 1) (V.cell (getD b 0 cellD).1 2) (V.cell (getD b 0 cellD).1 3) (V.cell (getD b 0 cellD).1 4) h0
 else
 L0 (getD c 0 cellD).1 (getD d 0 cellD).1 (V.bool false) (getD c6 1 cellD).1 (getD c7 1 cellD).1 (V.bool false) (0 : Int) (V.cell (getD a 0 cellD).1 0) (V.cell (getD a 0 cellD).1 1) (V.cell (getD a 0 cellD).1 2) (V.cell (getD a 0 cellD).1 3) (V.cell (getD a 0 cellD).1 4) (V.cell (getD b 0 cellD).1 0) (V.cell (getD b 0 cellD).1 1) (V.cell (getD b 0 cellD).1 2) (V.cell (getD b 0 cellD).1 3) (V.cell (getD b 0 cellD).1 4) h0) pnK) pnK) pnK
 else
 callK call 24 [(uu5 (getD a 0 cellD).1, false)] e2 2 (fun c8 y1 =>
 (grd (V.fits (getD c8 0 cellD).1 true 5)).bind fun _ =>
 callK call 25 [(uu5 (getD a 0 cellD).1, false)] y1 2 (fun c9 y2 =>
 (grd (V.fits (getD c9 0 cellD).1 true 5)).bind fun _ =>
 callK call 13 [(uu5 (getD c8 0 cellD).1, false), (uu5 (getD c9 0 cellD).1, false)] y2 1 (fun y3 h1 =>
 (V.asBool (getD y3 0 cellD).1).bind fun b343 =>
 bif b343 then
 (V.asSlice (getD c8 1 cellD).1 5 30).bind fun l344 =>
 (V.asSlice (getD c9 1 cellD).1 5 30).bind fun l345 =>
 L0 (getD c 0 cellD).1 (getD d 0 cellD).1 (V.bool false) (getD c8 1 cellD).1 (getD c9 1 cellD).1 (V.bool ((l344.length : Int) == (l345.length : Int))) (0 : Int) (V.cell (getD a 0 cellD).1 0) (V.cell (getD a 0 cellD).1 1) (V.cell (getD a 0 cellD).1 2) (V.cell (getD a 0 cellD).1 3) (V.cell (getD a 0 cellD).1 4) (V.cell (getD b 0 cellD).1 0) (V.cell (getD b 0 cellD).1 1) (V.cell (getD b 0 cellD).1 2) (V.cell (getD b 0 cellD).1 3) (V.cell (getD b 0 cellD).1 4) h1
 else
 L0 (getD c 0 cellD).1 (getD d 0 cellD).1 (V.bool false) (getD c8 1 cellD).1 (getD c9 1 cellD).1 (V.bool false) (0 : Int) (V.cell (getD a 0 cellD).1 0) (V.cell (getD a 0 cellD).1 1) (V.cell (getD a 0 cellD).1 2) (V.cell (getD a 0 cellD).1 3) (V.cell (getD a 0 cellD).1 4) (V.cell (getD b 0 cellD).1 0) (V.cell (getD b 0 cellD).1 1) (V.cell (getD b 0 cellD).1 2) (V.cell (getD b 0 cellD).1 3) (V.cell (getD b 0 cellD).1 4) h1) pnK) pnK) pnK) pnK) pnK) pnK) pnK) pnK) pnK) pnK) pnK) pnK) pnK) pnK) pnK) pnK) pnK) pnK) pnK) pnK) pnK) pnK
noncomputable def termsMoved (call : CallF) (n : Nat) (a : Int) (b c d : ByteArray) (e f : Int) (σ : Sto) : Option Res := termsMovedF call (termsMovedl0 call n n) a b c d e f σ
theorem termsMoveds0_eq (call : CallF) (n : Nat) (F0 : St → Option Res) (a b c d e f : V) (g : Int) (h i j k o p q r s t : V) (σ : Sto) :
  aexec C termsMovedH call n (cp [0,0,1,0,1,1,1,1,1,1,1,1,1,1,1,1,1,1,1,1,1,1,1,1,1,1,1] termsMovedC) 0 (termsMovedt0 a b c d e f g h i j k o p q r s t σ) (kloop termsMovedk0 F0 (kblk 0 (kseq (fun st' => aexec C termsMovedH call n (cp [1,1,1,1,1,1,1,1,1,1,1,1,1,1,1,1,1,1,1,1,1,1,1,1] termsMovedC) 0 st' (kfin C termsMovedD)) (kfin C termsMovedD)))) =
  termsMoveds0 call (fun a b c d e f g h i j k o p q r s t σ => F0 (termsMovedt0 a b c d e f g h i j k o p q r s t σ)) a b c d e f g h i j k o p q r s t σ := by kernel_rfl
theorem termsMovedl0_eq (call : CallF) (n : Nat) : ∀ (m : Nat) (a b c d e f : V) (g : Int) (h i j k o p q r s t : V) (σ : Sto),
  aloop (fun st K => aexec C termsMovedH call n (cp [0,0,1,0,1,1,1,1,1,1,1,1,1,1,1,1,1,1,1,1,1,1,1,1,1,1,1] termsMovedC) 0 st K) termsMovedk0 m (termsMovedt0 a b c d e f g h i j k o p q r s t σ) (kblk 0 (kseq (fun st' => aexec C termsMovedH call n (cp [1,1,1,1,1,1,1,1,1,1,1,1,1,1,1,1,1,1,1,1,1,1,1,1] termsMovedC) 0 st' (kfin C termsMovedD)) (kfin C termsMovedD))) = termsMovedl0 call n m a b c d e f g h i j k o p q r s t σ
 | 0, a, b, c, d, e, f, g, h, i, j, k, o, p, q, r, s, t, σ => rfl
 | m + 1, a, b, c, d, e, f, g, h, i, j, k, o, p, q, r, s, t, σ => by
  rw [aloop, termsMoveds0_eq]
  simp only [termsMovedl0_eq call n m]
  rfl
theorem termsMoved_eqF (call : CallF) (n : Nat) (a : Int) (b c d : ByteArray) (e f : Int) (σ : Sto) : afun C termsMovedD call n [(V.agg [V.int .i64 a, V.str b, V.str c, V.str d, V.int .i64 e, V.int .i64 f], false)] σ =
  termsMovedF call (fun g h i j k o p q r s t u v w x y z σ => aloop (fun st K => aexec C termsMovedH call n (cp [0,0,1,0,1,1,1,1,1,1,1,1,1,1,1,1,1,1,1,1,1,1,1,1,1,1,1] termsMovedC) 0 st K) termsMovedk0 n (termsMovedt0 g h i j k o p q r s t u v w x y z σ) (kblk 0 (kseq (fun st' => aexec C termsMovedH call n (cp [1,1,1,1,1,1,1,1,1,1,1,1,1,1,1,1,1,1,1,1,1,1,1,1] termsMovedC) 0 st' (kfin C termsMovedD)) (kfin C termsMovedD)))) a b c d e f σ := by kernel_rfl
theorem termsMoved_eq (call : CallF) (n : Nat) (a : Int) (b c d : ByteArray) (e f : Int) (σ : Sto) : afun C termsMovedD call n [(V.agg [V.int .i64 a, V.str b, V.str c, V.str d, V.int .i64 e, V.int .i64 f], false)] σ = termsMoved call n a b c d e f σ := by
 rw [termsMoved_eqF]
 simp only [termsMovedl0_eq]
 rfl
theorem termsMoved_lim {n : Nat} {a : Int} {b : ByteArray} {c : ByteArray} {e : ByteArray} {f : Int} {g : Int} {b0 : Bool} {σ : Sto} {r : Res} (h : termsMoved (lim C) n a b c e f g σ = some r) : lim C 4 [(V.agg [V.int .i64 a, V.str b, V.str c, V.str e, V.int .i64 f, V.int .i64 g], b0)] σ = some r :=
 lim_of (d := termsMovedD) (by kernel_rfl) (by kernel_rfl) n (show afun C termsMovedD (lim C) n [(V.agg [V.int .i64 a, V.str b, V.str c, V.str e, V.int .i64 f, V.int .i64 g], false)] σ = some r from (termsMoved_eq (lim C) n a b c e f g σ).trans h)
end Go.Ab.Mq
end
