/- Levels are compared: the program's laws. -/
import Derived.Test.YtifoglinlcfelaaGreatDoorLvM1
import Derived.Test.YtifoglinlcfelaaGreatDoorLvD
set_option linter.unusedSimpArgs false
set_option linter.unusedVariables false
set_option linter.deprecated false
section
namespace Go.Ab.Mk
open Go.Proofs Go.Ab Go.Proofs.Mk
theorem wrap_sm {x : Int} (h0 : -(2 ^ 62) ≤ x) (h1 : x < 2 ^ 62) : IntKind.wrap .i64 x = x := by
 unfold IntKind.wrap
 simp [IntKind.bits, IntKind.signed] <;> omega
theorem tm_readB (t : Tm) : V.agg [t.enc.getD 0 V.any, t.enc.getD 1 V.any, t.enc.getD 2 V.any, t.enc.getD 3 V.any, t.enc.getD 4 V.any] = t.val := by rw [t.enc_eq]; rfl
theorem inst1_law {v : Tm} (hv : v.top < 2 ^ 50) (hvd : v.depth < 2 ^ 49) {bv m d : Nat} (hm : m < 2 ^ 50) (hd : d < 2 ^ 50) {σ : Sto} (hb : σ[bv]? = some [(.slice 5 30 [v.enc], false)]) :
  ∃ τ, lim Mb.C 61 [((Tm.var m).val, false), (.int .i64 d, false), (.ptr 28 bv 0, false)] σ = some (.ret [((substT v (.var m) d).val, false)], σ ++ τ) := by
 have w1 : IntKind.wrap .i64 (((Tm.var m).num : Int) - (d : Int)) = (m : Int) - (d : Int) := wrap_sm (by simp only [Tm.num]; omega) (by simp only [Tm.num]; omega)
 by_cases h1 : m < d
 ·refine ⟨[], Mb.inst1_lim (n := 0) ?_⟩
  simp only [Mb.inst1, Mb.inst1F, w1]
  rw [show decide ((m : Int) - (d : Int) < 0) = true by simp; omega, cond_true, List.append_nil, substT, if_neg (by omega), if_neg (by omega)]
  rfl
 ·have hl : ((List.length [v.enc] : Nat) : Int) = 1 := rfl
  by_cases h2 : m = d
  ·subst h2
   obtain ⟨τ, hτ⟩ := tlift_lawB v hv hvd hd (f := 0) (by omega) σ
   refine ⟨τ, Mb.inst1_lim (n := 0) ?_⟩
   have hs : V.asSlice (.slice 5 30 [v.enc]) 5 30 = some [v.enc] := rfl
   have w2 : IntKind.wrap .i64 (IntKind.wrap .i64 ((1 : Int) - 1) - ((m : Int) - (m : Int))) = 0 := by rw [show ((m : Int) - (m : Int)) = 0 by omega]; rfl
   simp only [Mb.inst1, Mb.inst1F, w1, mem1 hb, Option.bind_some, hs, hl, w2]
   rw [show decide ((m : Int) - (m : Int) < 0) = false by simp, show decide ((m : Int) - (m : Int) < 1) = true by simp, cond_false, cond_true]
   have hg : V.agg [List.getD (List.getD [v.enc] (Int.toNat 0) []) 0 V.any, List.getD (List.getD [v.enc] (Int.toNat 0) []) 1 V.any, List.getD (List.getD [v.enc] (Int.toNat 0) []) 2 V.any, List.getD (List.getD [v.enc] (Int.toNat 0) []) 3 V.any, List.getD (List.getD [v.enc] (Int.toNat 0) []) 4 V.any] = v.val := tm_readB v
   rw [hg]
   simp only [show (decide ((0 : Int) ≤ 0) && decide ((0 : Int) < 1)) = true from rfl, grd, cond_true, Option.bind_some, substT, if_true]
   refine (callK_ret1 hτ).trans ?_
   rfl
  ·refine ⟨[], Mb.inst1_lim (n := 0) ?_⟩
   have hs : V.asSlice (.slice 5 30 [v.enc]) 5 30 = some [v.enc] := rfl
   have w3 : IntKind.wrap .i64 (((Tm.var m).num : Int) - 1) = ((m - 1 : Nat) : Int) := by rw [wrap_sm (by simp only [Tm.num]; omega) (by simp only [Tm.num]; omega)]; simp only [Tm.num]; omega
   simp only [Mb.inst1, Mb.inst1F, w1, mem1 hb, Option.bind_some, hs, hl, w3]
   rw [show decide ((m : Int) - (d : Int) < 0) = false by simp; omega, show decide ((m : Int) - (d : Int) < 1) = false by simp; omega, cond_false, cond_false, List.append_nil, substT, if_neg h2, if_pos (by omega)]
   rfl
theorem at_more {σ τ : Sto} {b : Nat} {x : List Cell} (h : σ[b]? = some x) : (σ ++ τ)[b]? = some x := by rw [List.getElem?_append_left (List.getElem?_eq_some_iff.1 h).1]; exact h
theorem walk_subst {v : Tm} (hv : v.top < 2 ^ 50) (hvd : v.depth < 2 ^ 49) {bv : Nat} :
  ∀ (t : Tm) (d : Nat) (σ : Sto), σ[bv]? = some [(.slice 5 30 [v.enc], false)] → t.top < 2 ^ 50 → d + t.depth < 2 ^ 50 → ∃ τ, walkV (lim Mb.C) 61 [.ptr 28 bv 0] t d σ = some ((substT v t d).enc, σ ++ τ)
 | .var m, d, σ, hb, ht, hd => by
  simp only [Tm.top] at ht
  simp only [Tm.depth] at hd
  obtain ⟨τ, h1⟩ := inst1_law hv hvd ht (show d < 2 ^ 50 by omega) hb
  refine ⟨τ, ?_⟩
  unfold walkV
  simp only [List.map_cons, List.map_nil, List.cons_append, List.nil_append, h1, cells5_tm, Option.bind_some]
 | .sort l, d, σ, _, _, _ => ⟨[], by rw [List.append_nil]; rfl⟩
 | .const s ls, d, σ, _, _, _ => ⟨[], by rw [List.append_nil]; rfl⟩
 | .app a b, d, σ, hb, ht, hd => by
  simp only [Tm.top] at ht
  simp only [Tm.depth] at hd
  obtain ⟨τ1, h1⟩ := walk_subst hv hvd a d σ hb (by omega) (by omega)
  obtain ⟨τ2, h2⟩ := walk_subst hv hvd b d (σ ++ τ1) (at_more hb) (by omega) (by omega)
  refine ⟨τ1 ++ τ2, ?_⟩
  rw [walkV, h1, Option.bind_some, h2, List.append_assoc]
  rfl
 | .lam a b, d, σ, hb, ht, hd => by
  simp only [Tm.top] at ht
  simp only [Tm.depth] at hd
  obtain ⟨τ1, h1⟩ := walk_subst hv hvd a d σ hb (by omega) (by omega)
  obtain ⟨τ2, h2⟩ := walk_subst hv hvd b (d + 1) (σ ++ τ1) (at_more hb) (by omega) (by omega)
  refine ⟨τ1 ++ τ2, ?_⟩
  rw [walkV, h1, Option.bind_some, grd_ok (by omega), Option.bind_some, show ((d : Int) + 1) = ((d + 1 : Nat) : Int) by omega, h2, List.append_assoc]
  rfl
 | .pi a b, d, σ, hb, ht, hd => by
  simp only [Tm.top] at ht
  simp only [Tm.depth] at hd
  obtain ⟨τ1, h1⟩ := walk_subst hv hvd a d σ hb (by omega) (by omega)
  obtain ⟨τ2, h2⟩ := walk_subst hv hvd b (d + 1) (σ ++ τ1) (at_more hb) (by omega) (by omega)
  refine ⟨τ1 ++ τ2, ?_⟩
  rw [walkV, h1, Option.bind_some, grd_ok (by omega), Option.bind_some, show ((d : Int) + 1) = ((d + 1 : Nat) : Int) by omega, h2, List.append_assoc]
  rfl
 | .letin a b c, d, σ, hb, ht, hd => by
  simp only [Tm.top] at ht
  simp only [Tm.depth] at hd
  obtain ⟨τ1, h1⟩ := walk_subst hv hvd a d σ hb (by omega) (by omega)
  obtain ⟨τ2, h2⟩ := walk_subst hv hvd b d (σ ++ τ1) (at_more hb) (by omega) (by omega)
  obtain ⟨τ3, h3⟩ := walk_subst hv hvd c (d + 1) (σ ++ τ1 ++ τ2) (at_more (at_more hb)) (by omega) (by omega)
  refine ⟨τ1 ++ τ2 ++ τ3, ?_⟩
  rw [walkV, h1, Option.bind_some, h2, Option.bind_some, grd_ok (by omega), Option.bind_some, show ((d : Int) + 1) = ((d + 1 : Nat) : Int) by omega, h3, ← List.append_assoc, ← List.append_assoc]
  rfl
theorem tlift_law (t : Tm) {n f : Nat} (ht : t.top < 2 ^ 50) (hd : t.depth < 2 ^ 49) (hnb : n < 2 ^ 50) (hfb : f < 2 ^ 50) (σ : Sto) :
  ∃ τ, lim C 8 [(t.val, false), (.int .i64 n, false), (.int .i64 f, false)] σ = some (.ret [((liftT n t f).val, false)], σ ++ τ) := by
 obtain ⟨τ, h⟩ := tlift_lawB t ht hd hnb hfb σ
 exact ⟨τ, lim_ext (C := C) (f := 8) (s := lim Mb.C 8) (by kernel_rfl) h⟩
theorem tsubst_law (t v : Tm) (ht : t.top < 2 ^ 50) (hd : t.depth < 2 ^ 49) (hv : v.top < 2 ^ 50) (hvd : v.depth < 2 ^ 49) (σ : Sto) :
  ∃ τ, lim C 9 [(t.val, false), (v.val, false)] σ = some (.ret [((substT v t 0).val, false)], σ ++ τ) := by
 have hb : (σ ++ [[((V.slice 5 30 [v.enc]), false)]])[σ.length]? = some [(.slice 5 30 [v.enc], false)] := by simp
 obtain ⟨τ, h1⟩ := walk_subst hv hvd t 0 _ hb ht (by omega)
 have h2 := lim_ext (C := C) (f := 60) (s := walkS (lim Mb.C)) (by kernel_rfl) (walkS_eq (o1 := false) (o2 := false) (o3 := false) h1)
 rw [← tval_enc] at h2
 have h3 : lim C 33 [(t.val, false), (.func (.func 61) [] [.ptr 28 σ.length 0], false)] (σ ++ [[((V.slice 5 30 [v.enc]), false)]]) = some (.ret [((substT v t 0).val, false)], σ ++ [[((V.slice 5 30 [v.enc]), false)]] ++ τ) := tmap_lim (n := 0) <| by
  simp only [tmap, tmapF]
  refine (callK_ret1 h2).trans ?_
  rfl
 have h4 : ∀ o : Bool, lim C 35 [(t.val, false), (.slice 5 30 [v.enc], o)] σ = some (.ret [((substT v t 0).val, false)], σ ++ [[((V.slice 5 30 [v.enc]), false)]] ++ τ) := fun o => inst_lim (n := 0) <| by
  have hs : V.asSlice (.slice 5 30 [v.enc]) 5 30 = some [v.enc] := rfl
  simp only [inst, instF, mem1 hb, Option.bind_some, hs]
  rw [show (((List.length [v.enc] : Nat) : Int) == 0) = false from rfl, cond_false]
  refine (callK_ret1 h3).trans ?_
  rfl
 refine ⟨[[((V.slice 5 30 [v.enc]), false)]] ++ τ, tsubst_lim (n := 0) ?_⟩
 simp only [tsubst, tsubstF]
 have h5 := h4 true
 rw [v.enc_eq] at h5
 refine (callK_ret1 h5).trans ?_
 rw [← List.append_assoc, v.enc_eq]
 rfl
end Go.Ab.Mk
end
section
namespace Go.Ab.Mk
open Go.Proofs Go.Ab Go.Proofs.Mk
def inn (t : Tm) (i k : Nat) : Nat := if 4 ≤ t.kind ∧ i + 1 = t.kids.length then k + 1 else k
def bnd4 (t : Tm) (i : Nat) : Bool := decide (4 ≤ t.kind ∧ i + 1 = t.kids.length)
theorem kids3 (t : Tm) : t.kids.length ≤ 3 := by cases t <;> simp [Tm.kids]
theorem binds_law (t : Tm) (i : Nat) (hi : i < t.kids.length) (σ : Sto) : lim C 43 [(t.val, false), (.int .i64 i, false)] σ = some (.ret [(.bool (bnd4 t i), false)], σ) :=
 binds_lim (n := 0) <| by
  have h3 := kids3 t
  have hl : t.args.length = t.kids.length := by simp [Tm.args]
  have w : IntKind.wrap .i64 ((t.args.length : Int) - 1) = ((t.kids.length - 1 : Nat) : Int) := by rw [hl, wrap_sm (by omega) (by omega)]; omega
  simp only [binds, bindsF, w]
  by_cases hk : 4 ≤ t.kind
  ·rw [show decide (t.kind ≥ 4) = true by simpa using hk, cond_true, beqN]
   have : (i == t.kids.length - 1) = bnd4 t i := by
    unfold bnd4
    by_cases h : i + 1 = t.kids.length
    ·rw [decide_eq_true ⟨hk, h⟩]; simp; omega
    ·rw [decide_eq_false (fun x => h x.2)]; simp; omega
   rw [this]
  ·rw [show decide (t.kind ≥ 4) = false by simp; omega, cond_false, show bnd4 t i = false from decide_eq_false (fun x => hk x.1)]
theorem inn_bnd (t : Tm) (i k : Nat) : inn t i k = bif bnd4 t i then k + 1 else k := by
 unfold inn bnd4
 by_cases h : 4 ≤ t.kind ∧ i + 1 = t.kids.length
 ·rw [if_pos h, decide_eq_true h]; rfl
 ·rw [if_neg h, decide_eq_false h]; rfl
def mapAt (g : Nat → Tm → Tm) : Nat → List Tm → List Tm
 | _, [] => []
 | i, c :: L => g i c :: mapAt g (i + 1) L
def nodeV (t : Tm) (L : List Tm) : V := .agg [.int .i64 t.kind, .int .i64 t.num, .str t.name, .slice 3 44 (t.lvs.map Lv.enc), .slice 5 30 (L.map Tm.enc)]
theorem with_law (t : Tm) (L : List (List V)) (σ : Sto) : lim C 44 [(t.val, false), (.slice 5 30 L, false)] σ = some (.ret [(.agg [.int .i64 t.kind, .int .i64 t.num, .str t.name, .slice 3 44 (t.lvs.map Lv.enc), .slice 5 30 L], false)], σ) :=
 with__lim (n := 0) rfl
theorem tm_get {L : List Tm} {i : Nat} (h : i < L.length) : (L.map Tm.enc).getD (Int.toNat (i : Int)) [] = L[i].enc := by simp [h]
theorem tm_cells (t : Tm) : [V.cell t.val 0, V.cell t.val 1, V.cell t.val 2, V.cell t.val 3, V.cell t.val 4] = t.enc := by rw [t.enc_eq]; rfl
theorem rlift_loop {N : Nat} (t : Tm) {n f : Nat} (hf : f < 2 ^ 60) {σ : Sto} {g : Nat → Tm → Tm} {t60 t61 : Int} {t62 : ByteArray} {t63 t64 : List (List V)}
  (h : ∀ (i : Nat) (hi : i < t.kids.length), lim C 14 [((t.kids[i]).val, false), (.int .i64 n, false), (.int .i64 (inn t i f : Nat), false)] σ = some (.ret [((g i t.kids[i]).val, false)], σ)) :
  ∀ (m i : Nat) (acc : List Tm), i ≤ t.kids.length → t.kids.length - i < m → acc.length = i →
   rliftl0 (lim C) N m n f (acc.map Tm.enc) i t.kind t.num t.name (t.lvs.map Lv.enc) (t.kids.map Tm.enc) t60 t61 t62 t63 t64 σ = some (.ret [(nodeV t (acc ++ mapAt g i (t.kids.drop i)), false)], σ)
 | 0, i, _, _, hm, _ => by omega
 | m + 1, i, acc, hi, hm, ha => by
  show rlifts0 (lim C) (rliftl0 (lim C) N m) _ _ _ _ _ _ _ _ _ _ _ _ _ _ σ = _
  unfold rlifts0
  rw [List.length_map]
  have h3 := kids3 t
  by_cases hlt : i < t.kids.length
  ·have hb := binds_law t i hlt σ
   have h1 := h i hlt
   have hx : (t.kids.drop i) = t.kids[i] :: t.kids.drop (i + 1) := List.drop_eq_getElem_cons hlt
   have ih := rlift_loop (N := N) t hf (t60 := t60) (t61 := t61) (t62 := t62) (t63 := t63) (t64 := t64) h m (i + 1) (acc ++ [g i t.kids[i]]) (by omega) (by omega) (by simp [ha])
   have hroom : room ((acc.map Tm.enc).length + 1) = true := room_ok (by simp; omega)
   have e1 : acc ++ [g i t.kids[i]] ++ mapAt g (i + 1) (t.kids.drop (i + 1)) = acc ++ mapAt g i (t.kids.drop i) := by rw [hx, List.append_assoc]; rfl
   rw [e1, List.map_append] at ih
   rw [dlt hlt, cond_true]
   refine (callK_ret1 hb).trans ?_
   simp only [List.getD_cons_zero, V.asBool, Option.bind_some, d0, dlt hlt, Bool.and_self, grd, cond_true, tm_get hlt, tm_readB, wrap_succ (show f < 2 ^ 61 by omega), wrap_succ (show i < 2 ^ 61 by omega)]
   rw [inn_bnd] at h1
   cases hbd : bnd4 t i with
   | true =>
    rw [hbd, cond_true] at h1
    simp only [cond_true]
    refine (callK_ret1 h1).trans ?_
    simp only [List.getD_cons_zero, tm_fits, Bool.and_self, cond_true, Option.bind_some, hroom, tm_cells]
    exact ih
   | false =>
    rw [hbd, cond_false] at h1
    simp only [cond_false]
    refine (callK_ret1 h1).trans ?_
    simp only [List.getD_cons_zero, tm_fits, Bool.and_self, cond_true, Option.bind_some, hroom, tm_cells]
    exact ih
  ·rw [dnlt hlt, cond_false, List.drop_eq_nil_of_le (by omega)]
   refine (callK_ret1 (with_law t (acc.map Tm.enc) σ)).trans ?_
   simp only [mapAt, List.append_nil]
   rfl
theorem lift_node {n : Nat} : ∀ (t : Tm) (k : Nat), t.kind ≠ 0 → (liftT n t k).val = nodeV t (mapAt (fun i c => liftT n c (inn t i k)) 0 t.kids)
 | .var m, k, h => absurd rfl h
 | .sort l, k, _ => rfl
 | .const s ls, k, _ => rfl
 | .app a b, k, _ => rfl
 | .lam a b, k, _ => rfl
 | .pi a b, k, _ => rfl
 | .letin a b c, k, _ => rfl
theorem kid_depth {t c : Tm} (h : c ∈ t.kids) : c.depth + 1 ≤ t.depth ∧ c.top ≤ t.top := by
 cases t <;> simp only [Tm.kids, List.mem_cons, List.not_mem_nil, or_false] at h
 ·rcases h with rfl | rfl <;> simp only [Tm.depth, Tm.top] <;> omega
 ·rcases h with rfl | rfl <;> simp only [Tm.depth, Tm.top] <;> omega
 ·rcases h with rfl | rfl <;> simp only [Tm.depth, Tm.top] <;> omega
 ·rcases h with rfl | rfl | rfl <;> simp only [Tm.depth, Tm.top] <;> omega
theorem rlift_law {n : Nat} (hn : n < 2 ^ 50) (σ : Sto) : ∀ (t : Tm) (f : Nat), t.top < 2 ^ 50 → f + t.depth < 2 ^ 50 → lim C 14 [(t.val, false), (.int .i64 n, false), (.int .i64 f, false)] σ = some (.ret [((liftT n t f).val, false)], σ) :=
 Tm.ind fun t ih f ht hd => rlift_lim (n := 10) <| by
  simp only [rlift, rliftF]
  by_cases hk : t.kind = 0
  ·obtain ⟨m, rfl⟩ : ∃ m, t = .var m := by cases t <;> simp [Tm.kind] at hk; exact ⟨_, rfl⟩
   simp only [Tm.top] at ht
   have w : IntKind.wrap .i64 (((Tm.var m).num : Int) + (n : Int)) = ((m + n : Nat) : Int) := wrap_add (by simp only [Tm.num]; omega)
   rw [w]
   simp only [Tm.kind, beq_self_eq_true, cond_true, liftT]
   by_cases hm : f ≤ m
   ·rw [if_pos hm, show decide (((Tm.var m).num : Int) ≥ (f : Int)) = true by simp [Tm.num]; omega]; rfl
   ·rw [if_neg hm, show decide (((Tm.var m).num : Int) ≥ (f : Int)) = false by simp [Tm.num]; omega]; rfl
  ·rw [show (t.kind == (0 : Int)) = false by simpa using hk, cond_false]
   have h3 := kids3 t
   have := rlift_loop (N := 10) t (n := n) (f := f) (σ := σ) (g := fun i c => liftT n c (inn t i f)) (t60 := 0) (t61 := 0) (t62 := ByteArray.mk #[]) (t63 := []) (t64 := []) (by omega)
    (fun i hi => by
     have hd' := kid_depth (List.getElem_mem hi)
     exact ih _ (List.getElem_mem hi) (inn t i f) (by omega) (by unfold inn; split <;> omega)) 10 0 [] (Nat.zero_le _) (by omega) rfl
   rw [lift_node t f hk]
   exact this
theorem substAt_loop {N : Nat} (t v : Tm) {k : Nat} (hk : k < 2 ^ 60) {σ : Sto} {g : Nat → Tm → Tm} {t60 t61 : Int} {t62 : ByteArray} {t63 t64 : List (List V)}
  (h : ∀ (i : Nat) (hi : i < t.kids.length), lim C 45 [((t.kids[i]).val, false), (v.val, false), (.int .i64 (inn t i k : Nat), false)] σ = some (.ret [((g i t.kids[i]).val, false)], σ)) :
  ∀ (m i : Nat) (acc : List Tm), i ≤ t.kids.length → t.kids.length - i < m → acc.length = i →
   substAtl0 (lim C) N m k (acc.map Tm.enc) i t.kind t.num t.name (t.lvs.map Lv.enc) (t.kids.map Tm.enc) v.kind v.num v.name (v.lvs.map Lv.enc) v.args t60 t61 t62 t63 t64 σ = some (.ret [(nodeV t (acc ++ mapAt g i (t.kids.drop i)), false)], σ)
 | 0, i, _, _, hm, _ => by omega
 | m + 1, i, acc, hi, hm, ha => by
  show substAts0 (lim C) (substAtl0 (lim C) N m) _ _ _ _ _ _ _ _ _ _ _ _ _ _ _ _ _ _ σ = _
  unfold substAts0
  rw [List.length_map]
  have h3 := kids3 t
  by_cases hlt : i < t.kids.length
  ·have hb := binds_law t i hlt σ
   have h1 := h i hlt
   have hx : (t.kids.drop i) = t.kids[i] :: t.kids.drop (i + 1) := List.drop_eq_getElem_cons hlt
   have ih := substAt_loop (N := N) t v hk (t60 := t60) (t61 := t61) (t62 := t62) (t63 := t63) (t64 := t64) h m (i + 1) (acc ++ [g i t.kids[i]]) (by omega) (by omega) (by simp [ha])
   have hroom : room ((acc.map Tm.enc).length + 1) = true := room_ok (by simp; omega)
   have e1 : acc ++ [g i t.kids[i]] ++ mapAt g (i + 1) (t.kids.drop (i + 1)) = acc ++ mapAt g i (t.kids.drop i) := by rw [hx, List.append_assoc]; rfl
   rw [e1, List.map_append] at ih
   rw [dlt hlt, cond_true]
   refine (callK_ret1 hb).trans ?_
   simp only [List.getD_cons_zero, V.asBool, Option.bind_some, d0, dlt hlt, Bool.and_self, grd, cond_true, tm_get hlt, tm_readB, wrap_succ (show k < 2 ^ 61 by omega), wrap_succ (show i < 2 ^ 61 by omega)]
   rw [inn_bnd] at h1
   cases hbd : bnd4 t i with
   | true =>
    rw [hbd, cond_true] at h1
    simp only [cond_true]
    refine (callK_ret1 h1).trans ?_
    simp only [List.getD_cons_zero, tm_fits, Bool.and_self, cond_true, Option.bind_some, hroom, tm_cells]
    exact ih
   | false =>
    rw [hbd, cond_false] at h1
    simp only [cond_false]
    refine (callK_ret1 h1).trans ?_
    simp only [List.getD_cons_zero, tm_fits, Bool.and_self, cond_true, Option.bind_some, hroom, tm_cells]
    exact ih
  ·rw [dnlt hlt, cond_false, List.drop_eq_nil_of_le (by omega)]
   refine (callK_ret1 (with_law t (acc.map Tm.enc) σ)).trans ?_
   simp only [mapAt, List.append_nil]
   rfl
theorem subst_node {v : Tm} : ∀ (t : Tm) (k : Nat), t.kind ≠ 0 → (substT v t k).val = nodeV t (mapAt (fun i c => substT v c (inn t i k)) 0 t.kids)
 | .var m, k, h => absurd rfl h
 | .sort l, k, _ => rfl
 | .const s ls, k, _ => rfl
 | .app a b, k, _ => rfl
 | .lam a b, k, _ => rfl
 | .pi a b, k, _ => rfl
 | .letin a b c, k, _ => rfl
theorem substAt_law {v : Tm} (hv : v.top < 2 ^ 50) (hvd : v.depth < 2 ^ 49) (σ : Sto) : ∀ (t : Tm) (k : Nat), t.top < 2 ^ 50 → k + t.depth < 2 ^ 49 → lim C 45 [(t.val, false), (v.val, false), (.int .i64 k, false)] σ = some (.ret [((substT v t k).val, false)], σ) :=
 Tm.ind fun t ih k ht hd => substAt_lim (n := 10) <| by
  simp only [substAt, substAtF]
  by_cases hk : t.kind = 0
  ·obtain ⟨m, rfl⟩ : ∃ m, t = .var m := by cases t <;> simp [Tm.kind] at hk; exact ⟨_, rfl⟩
   simp only [Tm.top] at ht
   simp only [Tm.kind, beq_self_eq_true, cond_true, substT]
   have e0 : (((Tm.var m).num : Int) == (k : Int)) = (m == k) := beqN m k
   rw [e0]
   by_cases h1 : m = k
   ·subst h1
    rw [beq_self_eq_true, cond_true, if_pos rfl]
    have h2 := rlift_law (n := m) (by omega) σ v 0 hv (by omega)
    refine (callK_ret1 h2).trans ?_
    rfl
   ·rw [show (m == k) = false by simpa using h1, cond_false, if_neg h1]
    by_cases h2 : k < m
    ·have w : IntKind.wrap .i64 (((Tm.var m).num : Int) - 1) = ((m - 1 : Nat) : Int) := by rw [wrap_sm (by simp only [Tm.num]; omega) (by simp only [Tm.num]; omega)]; simp only [Tm.num]; omega
     rw [if_pos h2, show decide (((Tm.var m).num : Int) > (k : Int)) = true by simp [Tm.num]; omega, w]; rfl
    ·rw [if_neg h2, show decide (((Tm.var m).num : Int) > (k : Int)) = false by simp [Tm.num]; omega]; rfl
  ·rw [show (t.kind == (0 : Int)) = false by simpa using hk, cond_false]
   have h3 := kids3 t
   have := substAt_loop (N := 10) t v (k := k) (σ := σ) (g := fun i c => substT v c (inn t i k)) (t60 := 0) (t61 := 0) (t62 := ByteArray.mk #[]) (t63 := []) (t64 := []) (by omega)
    (fun i hi => by
     have hd' := kid_depth (List.getElem_mem hi)
     exact ih _ (List.getElem_mem hi) (inn t i k) (by omega) (by unfold inn; split <;> omega)) 10 0 [] (Nat.zero_le _) (by omega) rfl
   rw [subst_node t k hk]
   exact this
theorem rsubstT_law (t v : Tm) (ht : t.top < 2 ^ 50) (hd : t.depth < 2 ^ 49) (hv : v.top < 2 ^ 50) (hvd : v.depth < 2 ^ 49) (σ : Sto) :
  lim C 15 [(t.val, false), (v.val, false)] σ = some (.ret [((substT v t 0).val, false)], σ) := rsubstT_lim (n := 0) <| by
 have h := substAt_law hv hvd σ t 0 ht (by omega)
 simp only [rsubstT, rsubstTF]
 refine (callK_ret1 h).trans ?_
 rfl
end Go.Ab.Mk
end
section
namespace Go.Ab.Mk
open Go.Proofs Go.Ab Go.Proofs.Mk
def anyT (p : Tm → Nat → Bool) : Tm → Nat → Bool
 | .var m, d => p (.var m) d
 | .sort l, d => p (.sort l) d
 | .const s ls, d => p (.const s ls) d
 | .app a b, d => p (.app a b) d || (anyT p a d || anyT p b d)
 | .lam a b, d => p (.lam a b) d || (anyT p a d || anyT p b (d + 1))
 | .pi a b, d => p (.pi a b) d || (anyT p a d || anyT p b (d + 1))
 | .letin a b c, d => p (.letin a b c) d || (anyT p a d || (anyT p b d || anyT p c (d + 1)))
def anyAt (q : Nat → Tm → Bool) : Nat → List Tm → Bool
 | _, [] => false
 | i, c :: L => q i c || anyAt q (i + 1) L
theorem any_node {p : Tm → Nat → Bool} : ∀ (t : Tm) (d : Nat), anyT p t d = (p t d || anyAt (fun i c => anyT p c (inn t i d)) 0 t.kids)
 | .var m, d => (Bool.or_false _).symm
 | .sort l, d => (Bool.or_false _).symm
 | .const s ls, d => (Bool.or_false _).symm
 | .app a b, d => by simp [anyT, Tm.kids, anyAt, inn, Tm.kind]
 | .lam a b, d => by simp [anyT, Tm.kids, anyAt, inn, Tm.kind]
 | .pi a b, d => by simp [anyT, Tm.kids, anyAt, inn, Tm.kind]
 | .letin a b c, d => by simp [anyT, Tm.kids, anyAt, inn, Tm.kind]
theorem inn_bounds (t : Tm) (i d : Nat) : d ≤ inn t i d ∧ inn t i d ≤ d + 1 := by unfold inn; split <;> omega
theorem tsome_loop {N : Nat} (t : Tm) {d : Nat} (hd : d < 2 ^ 60) {σ : Sto} {f : V} {q : Nat → Tm → Bool}
  (h : ∀ (i : Nat) (hi : i < t.kids.length), lim C 36 [((t.kids[i]).val, false), (.int .i64 (inn t i d : Nat), false), (f, false)] σ = some (.ret [(.bool (q i t.kids[i]), false)], σ)) :
  ∀ (m i : Nat), i ≤ t.kids.length → t.kids.length - i < m →
   tsomel0 (lim C) N m d f (t.kids.map Tm.enc) t.kids.length i t.kind t.num t.name (t.lvs.map Lv.enc) (t.kids.map Tm.enc) σ = some (.ret [(.bool (anyAt q i (t.kids.drop i)), false)], σ)
 | 0, i, _, hm => by omega
 | m + 1, i, hi, hm => by
  show tsomes0 (lim C) (tsomel0 (lim C) N m) _ _ _ _ _ _ _ _ _ _ σ = _
  unfold tsomes0
  have h3 := kids3 t
  by_cases hlt : i < t.kids.length
  ·have h1 := h i hlt
   have hx : (t.kids.drop i) = t.kids[i] :: t.kids.drop (i + 1) := List.drop_eq_getElem_cons hlt
   have ih := tsome_loop (N := N) t hd (f := f) h m (i + 1) (by omega) (by omega)
   have w : IntKind.wrap .i64 (((t.kids.map Tm.enc).length : Int) - 1) = ((t.kids.length - 1 : Nat) : Int) := by rw [List.length_map, wrap_sm (by omega) (by omega)]; omega
   rw [hx]
   simp only [dlt hlt, cond_true, d0, List.length_map, Bool.and_self, grd, Option.bind_some, tm_get hlt, tm_readB, wrap_succ (show d < 2 ^ 61 by omega), wrap_succ (show i < 2 ^ 61 by omega), anyAt]
   rw [List.length_map] at w
   rw [w, beqN]
   by_cases hk : 4 ≤ t.kind
   ·rw [show decide (t.kind ≥ 4) = true by simpa using hk, cond_true]
    by_cases hl : i + 1 = t.kids.length
    ·rw [show (i == t.kids.length - 1) = true by simp; omega, cond_true]
     have e : inn t i d = d + 1 := if_pos ⟨hk, hl⟩
     rw [e] at h1
     refine (callK_ret1 h1).trans ?_
     simp only [List.getD_cons_zero, V.asBool, Option.bind_some]
     cases q i t.kids[i] with
     | true => rfl
     | false => simp only [cond_false, Bool.false_or]; exact ih
    ·rw [show (i == t.kids.length - 1) = false by simp; omega, cond_false]
     have e : inn t i d = d := if_neg (fun x => hl x.2)
     rw [e] at h1
     refine (callK_ret1 h1).trans ?_
     simp only [List.getD_cons_zero, V.asBool, Option.bind_some]
     cases q i t.kids[i] with
     | true => rfl
     | false => simp only [cond_false, Bool.false_or]; exact ih
   ·rw [show decide (t.kind ≥ 4) = false by simp; omega, cond_false]
    have e : inn t i d = d := if_neg (fun x => hk x.1)
    rw [e] at h1
    refine (callK_ret1 h1).trans ?_
    simp only [List.getD_cons_zero, V.asBool, Option.bind_some]
    cases q i t.kids[i] with
    | true => rfl
    | false => simp only [cond_false, Bool.false_or]; exact ih
  ·rw [dnlt hlt, cond_false, List.drop_eq_nil_of_le (by omega)]
   rfl
theorem tsome_law {fid : FuncId} {cap : List V} {p : Tm → Nat → Bool} {σ : Sto}
  (hp : ∀ (t : Tm) (d : Nat), t.top < 2 ^ 50 → d < 2 ^ 50 → lim C fid ([(t.val, false), (.int .i64 d, false)] ++ cap.map fun v => (v, false)) σ = some (.ret [(.bool (p t d), false)], σ)) :
  ∀ (t : Tm) (d : Nat), t.top < 2 ^ 50 → d + t.depth < 2 ^ 50 → lim C 36 [(t.val, false), (.int .i64 d, false), (.func (.func fid) [] cap, false)] σ = some (.ret [(.bool (anyT p t d), false)], σ) :=
 Tm.ind fun t ih d ht hd => tsome_lim (n := 10) <| by
  have hf : V.asFunc (.func (.func fid) [] cap) = some (fid, [], cap) := rfl
  have h1 := hp t d ht (by omega)
  have h3 := kids3 t
  have hl : ((t.args.length : Nat) : Int) = (t.kids.length : Int) := by simp [Tm.args]
  have h2 := tsome_loop (N := 10) t (d := d) (by omega) (σ := σ) (f := .func (.func fid) [] cap) (q := fun i c => anyT p c (inn t i d))
   (fun i hi => by
    have hd' := kid_depth (List.getElem_mem hi)
    have := inn_bounds t i d
    exact ih _ (List.getElem_mem hi) (inn t i d) (by omega) (by omega)) 10 0 (Nat.zero_le _) (by omega)
  simp only [tsome, tsomeF, hf, Option.bind_some, List.map_nil, List.nil_append]
  refine (callK_ret1 h1).trans ?_
  simp only [List.getD_cons_zero, V.asBool, Option.bind_some]
  rw [any_node t d, hl]
  cases p t d with
  | true => rfl
  | false => simp only [cond_false, Bool.false_or]; exact h2
def pClosed (n : Nat) (t : Tm) (d : Nat) : Bool := t.kind == 0 && decide (n + d ≤ t.num)
theorem num_top (t : Tm) : t.num ≤ t.top := by cases t <;> simp [Tm.num, Tm.top]
theorem tclosed_law (t : Tm) {n : Nat} (hn : n < 2 ^ 50) (ht : t.top < 2 ^ 50) (hd : t.depth < 2 ^ 49) (σ : Sto) : ∃ τ, lim C 10 [(t.val, false), (.int .i64 n, false)] σ = some (.ret [(.bool (!anyT (pClosed n) t 0), false)], σ ++ τ) := by
 refine ⟨[[(.int .i64 n, false)]], tclosed_lim (n := 0) ?_⟩
 have hb : (σ ++ [[((V.int .i64 n), false)]])[σ.length]? = some [(.int .i64 n, false)] := by simp
 have h1 := tsome_law (fid := 37) (cap := [.ptr 3 σ.length 0]) (p := pClosed n) (σ := σ ++ [[((V.int .i64 n), false)]]) (fun t d ht hd => closed1_lim (n := 0) <| by
  have hm := num_top t
  have w : IntKind.wrap .i64 ((n : Int) + (d : Int)) = ((n + d : Nat) : Int) := wrap_add (by omega)
  simp only [closed1, closed1F, mem1 hb, Option.bind_some, V.asInt, if_true, w, pClosed]
  cases hk : t.kind == 0 with
  | true => rw [cond_true, Bool.true_and, show decide ((t.num : Int) ≥ ((n + d : Nat) : Int)) = decide (n + d ≤ t.num) by simp; omega]
  | false => rfl) t 0 ht (by omega)
 simp only [tclosed, tclosedF]
 refine (callK_ret1 h1).trans ?_
 rfl
theorem rclosed_loop {N : Nat} (t : Tm) {k : Nat} (hk : k < 2 ^ 60) {σ : Sto} {q : Nat → Tm → Bool}
  (h : ∀ (i : Nat) (hi : i < t.kids.length), lim C 16 [((t.kids[i]).val, false), (.int .i64 (inn t i k : Nat), false)] σ = some (.ret [(.bool (!q i t.kids[i]), false)], σ)) :
  ∀ (m i : Nat), i ≤ t.kids.length → t.kids.length - i < m →
   rclosedl0 (lim C) N m k i t.kind t.num t.name (t.lvs.map Lv.enc) (t.kids.map Tm.enc) σ = some (.ret [(.bool (!anyAt q i (t.kids.drop i)), false)], σ)
 | 0, i, _, hm => by omega
 | m + 1, i, hi, hm => by
  show rcloseds0 (lim C) (rclosedl0 (lim C) N m) _ _ _ _ _ _ _ σ = _
  unfold rcloseds0
  rw [List.length_map]
  have h3 := kids3 t
  by_cases hlt : i < t.kids.length
  ·have hb := binds_law t i hlt σ
   have h1 := h i hlt
   have hx : (t.kids.drop i) = t.kids[i] :: t.kids.drop (i + 1) := List.drop_eq_getElem_cons hlt
   have ih := rclosed_loop (N := N) t hk h m (i + 1) (by omega) (by omega)
   rw [dlt hlt, cond_true]
   refine (callK_ret1 hb).trans ?_
   rw [hx]
   simp only [List.getD_cons_zero, V.asBool, Option.bind_some, d0, dlt hlt, Bool.and_self, grd, cond_true, tm_get hlt, tm_readB, wrap_succ (show k < 2 ^ 61 by omega), wrap_succ (show i < 2 ^ 61 by omega), anyAt]
   rw [inn_bnd] at h1
   cases hbd : bnd4 t i with
   | true =>
    rw [hbd, cond_true] at h1
    simp only [cond_true]
    refine (callK_ret1 h1).trans ?_
    simp only [List.getD_cons_zero, V.asBool, Option.bind_some]
    cases q i t.kids[i] with
    | true => rfl
    | false => simp only [Bool.not_false, Bool.not_true, cond_false, Bool.false_or]; exact ih
   | false =>
    rw [hbd, cond_false] at h1
    simp only [cond_false]
    refine (callK_ret1 h1).trans ?_
    simp only [List.getD_cons_zero, V.asBool, Option.bind_some]
    cases q i t.kids[i] with
    | true => rfl
    | false => simp only [Bool.not_false, Bool.not_true, cond_false, Bool.false_or]; exact ih
  ·rw [dnlt hlt, cond_false, List.drop_eq_nil_of_le (by omega)]
   rfl
theorem rclosed_law {n : Nat} (σ : Sto) : ∀ (t : Tm) (d : Nat), t.top < 2 ^ 50 → n + d + t.depth < 2 ^ 50 → lim C 16 [(t.val, false), (.int .i64 ((n + d : Nat) : Int), false)] σ = some (.ret [(.bool (!anyT (pClosed n) t d), false)], σ) :=
 Tm.ind fun t ih d ht hd => rclosed_lim (n := 10) <| by
  have h3 := kids3 t
  simp only [rclosed, rclosedF]
  by_cases hk : t.kind = 0
  ·obtain ⟨m, rfl⟩ : ∃ m, t = .var m := by cases t <;> simp [Tm.kind] at hk; exact ⟨_, rfl⟩
   simp only [Tm.kind, beq_self_eq_true, cond_true, anyT, pClosed, Bool.true_and]
   have : ∀ x : Nat, decide ((x : Int) < ((n + d : Nat) : Int)) = !decide (n + d ≤ x) := fun x => by
    by_cases h : n + d ≤ x
    ·rw [decide_eq_true h, decide_eq_false (by omega)]; rfl
    ·rw [decide_eq_false h, decide_eq_true (by omega)]; rfl
   rw [this (Tm.var m).num]
  ·rw [show (t.kind == (0 : Int)) = false by simpa using hk, cond_false, any_node t d]
   have hp : pClosed n t d = false := by unfold pClosed; rw [show (t.kind == (0 : Int)) = false by simpa using hk]; rfl
   rw [hp, Bool.false_or]
   exact rclosed_loop (N := 10) t (k := n + d) (by omega) (q := fun i c => anyT (pClosed n) c (inn t i d)) (fun i hi => by
    have hd' := kid_depth (List.getElem_mem hi)
    have hb := inn_bounds t i d
    have e : inn t i (n + d) = n + inn t i d := by unfold inn; split <;> omega
    rw [e]
    exact ih _ (List.getElem_mem hi) (inn t i d) (by omega) (by omega)) 10 0 (Nat.zero_le _) (by omega)
def pHas (s : ByteArray) (t : Tm) (_ : Nat) : Bool := t.kind == 2 && t.name.toList == s.toList
theorem thas_law (t : Tm) (s : ByteArray) (ht : t.top < 2 ^ 50) (hd : t.depth < 2 ^ 49) (σ : Sto) : ∃ τ, lim C 11 [(t.val, false), (.str s, false)] σ = some (.ret [(.bool (anyT (pHas s) t 0), false)], σ ++ τ) := by
 refine ⟨[[(.str s, false)]], thas_lim (n := 0) ?_⟩
 have hb : (σ ++ [[((V.str s), false)]])[σ.length]? = some [(.str s, false)] := by simp
 have h1 := tsome_law (fid := 38) (cap := [.ptr 9 σ.length 0]) (p := pHas s) (σ := σ ++ [[((V.str s), false)]]) (fun t d ht hd => has1_lim (n := 0) <| by
  simp only [has1, has1F, mem1 hb, Option.bind_some, V.asStr, pHas]
  cases hk : t.kind == 2 <;> rfl) t 0 ht (by omega)
 simp only [thas, thasF]
 refine (callK_ret1 h1).trans ?_
 rfl
theorem rhas_loop {N : Nat} (t : Tm) (s : ByteArray) {σ : Sto} {q : Nat → Tm → Bool}
  (h : ∀ (i : Nat) (hi : i < t.kids.length), lim C 17 [((t.kids[i]).val, false), (.str s, false)] σ = some (.ret [(.bool (q i t.kids[i]), false)], σ)) :
  ∀ (m i : Nat), i ≤ t.kids.length → t.kids.length - i < m →
   rhasl0 (lim C) N m s i t.kind t.num t.name (t.lvs.map Lv.enc) (t.kids.map Tm.enc) σ = some (.ret [(.bool (anyAt q i (t.kids.drop i)), false)], σ)
 | 0, i, _, hm => by omega
 | m + 1, i, hi, hm => by
  show rhass0 (lim C) (rhasl0 (lim C) N m) _ _ _ _ _ _ _ σ = _
  unfold rhass0
  rw [List.length_map]
  have h3 := kids3 t
  by_cases hlt : i < t.kids.length
  ·have h1 := h i hlt
   have hx : (t.kids.drop i) = t.kids[i] :: t.kids.drop (i + 1) := List.drop_eq_getElem_cons hlt
   have ih := rhas_loop (N := N) t s h m (i + 1) (by omega) (by omega)
   rw [hx]
   simp only [dlt hlt, cond_true, d0, Bool.and_self, grd, Option.bind_some, tm_get hlt, tm_readB, wrap_succ (show i < 2 ^ 61 by omega), anyAt]
   refine (callK_ret1 h1).trans ?_
   simp only [List.getD_cons_zero, V.asBool, Option.bind_some]
   cases q i t.kids[i] with
   | true => rfl
   | false => simp only [cond_false, Bool.false_or]; exact ih
  ·rw [dnlt hlt, cond_false, List.drop_eq_nil_of_le (by omega)]
   rfl
theorem rhas_law {s : ByteArray} (σ : Sto) : ∀ (t : Tm) (d : Nat), lim C 17 [(t.val, false), (.str s, false)] σ = some (.ret [(.bool (anyT (pHas s) t d), false)], σ) :=
 Tm.ind fun t ih d => rhas_lim (n := 10) <| by
  have h3 := kids3 t
  have hl := rhas_loop (N := 10) t s (σ := σ) (q := fun i c => anyT (pHas s) c (inn t i d)) (fun i hi => ih _ (List.getElem_mem hi) _) 10 0 (Nat.zero_le _) (by omega)
  rw [List.drop_zero] at hl
  simp only [rhas, rhasF]
  rw [any_node t d]
  unfold pHas
  cases t.kind == 2 with
  | false => simp only [cond_false, Bool.false_and, Bool.false_or]; exact hl
  | true =>
   simp only [cond_true, Bool.true_and]
   cases t.name.toList == s.toList with
   | true => rfl
   | false => simp only [cond_false, Bool.false_or]; exact hl
end Go.Ab.Mk
end
section
namespace Go.Ab.Mk
open Go.Proofs Go.Ab
theorem parseTerm_law (s : ByteArray) (hs : s.size < 2 ^ 61) (σ : Sto) : ∃ σ', lim C 30 [(.str s, false)] σ = some (.ret [((tparseV s).1.val, false), (.agg [.int .i64 (tparseV s).2.1, .int .i64 (tparseV s).2.2], false)], σ ++ σ') := by
 cases hb : decide ((s.size : Int) > 20000)
 ·have hb' : s.size ≤ 20000 := by have := of_decide_eq_false hb; omega
  have h : (σ ++ [RS.cells s ⟨0, 0, 0⟩])[σ.length]? = some (RS.cells s ⟨0, 0, 0⟩) := by simp
  have h1 := rterm_law hb' (s.size + 1) ⟨0, 0, 0⟩ _ h (by simp) (.inr (by simp))
  have tk := rterm_goes s (s.size + 1) ⟨0, 0, 0⟩ (by simp) (.inr (by simp))
  have hg : ∀ x : List Cell, (σ ++ [RS.cells s ⟨0, 0, 0⟩]).set σ.length x = σ ++ [x] := fun x => by rw [List.set_append_right _ _ (Nat.le_refl _)]; simp
  rw [hg] at h1
  have h2' : (σ ++ [(rtermV (s.size + 1) s ⟨0, 0, 0⟩).2.cells s])[σ.length]? = some ((rtermV (s.size + 1) s ⟨0, 0, 0⟩).2.cells s) := by simp
  have h2 := rdone_law h2' hs tk.le
  have hg2 : ∀ x : List Cell, (σ ++ [(rtermV (s.size + 1) s ⟨0, 0, 0⟩).2.cells s]).set σ.length x = σ ++ [x] := fun x => by rw [List.set_append_right _ _ (Nat.le_refl _)]; simp
  rw [hg2] at h2
  refine ⟨[(rdoneV s (rtermV (s.size + 1) s ⟨0, 0, 0⟩).2).cells s], parseTerm_lim (n := 0) ?_⟩
  have e0 : [((V.str s), false), ((V.int .i64 (0 : Int)), false), ((V.int .i64 (0 : Int)), false), ((V.int .i64 (0 : Int)), false)] = RS.cells s ⟨0, 0, 0⟩ := rfl
  have f2 : ∀ x y : Int, V.fits (.agg [.int .i64 x, .int .i64 y]) true 2 = true := fun _ _ => rfl
  have c0 : ∀ x y : Int, V.cell (.agg [.int .i64 x, .int .i64 y]) 0 = .int .i64 x := fun _ _ => rfl
  simp only [parseTerm, parseTermF, hb, cond_false, e0, callK_ret1 h1, List.getD_cons_zero, tm_fits, grd, cond_true, Option.bind_some, callK_ret1 h2, tparseV, f2, c0, V.asInt, if_true]
  cases hd : (rdoneV s (rtermV (s.size + 1) s ⟨0, 0, 0⟩).2).c != 0 <;> rfl
 ·refine ⟨[], parseTerm_lim (n := 0) ?_⟩
  simp only [parseTerm, parseTermF, hb, cond_true, tparseV, List.append_nil]
  rfl
theorem lv_read (l : Lv) : V.agg [l.enc.getD 0 V.any, l.enc.getD 1 V.any, l.enc.getD 2 V.any] = .agg [.int .i64 l.kind, .str l.name, .slice 3 44 l.args] := by rw [l.enc_eq]; rfl
theorem tm_read (t : Tm) : V.agg [t.enc.getD 0 V.any, t.enc.getD 1 V.any, t.enc.getD 2 V.any, t.enc.getD 3 V.any, t.enc.getD 4 V.any] = t.val := by rw [t.enc_eq]; rfl
theorem alike1_loop {N : Nat} {L : List Tm} (hb : L.length < 2 ^ 60) {w : Bool} {a0 a1 b0 b1 : Int} {a2 b2 : ByteArray} {a3 b3 : List (List V)} {σ : Sto}
  (h : ∀ c ∈ L, lim C 42 [(c.val, false), (c.val, false), (.bool w, false)] σ = some (.ret [(.bool true, false)], σ)) :
  ∀ (m i : Nat), i ≤ L.length → L.length - i < m → alikel1 (lim C) N m w i a0 a1 a2 a3 (L.map Tm.enc) b0 b1 b2 b3 (L.map Tm.enc) σ = some (.ret [(.bool true, false)], σ)
 | 0, i, _, hm => by omega
 | m + 1, i, hi, hm => by
  show alikes1 (lim C) (alikel1 (lim C) N m) w i a0 a1 a2 a3 (L.map Tm.enc) b0 b1 b2 b3 (L.map Tm.enc) σ = _
  unfold alikes1
  rw [List.length_map]
  by_cases hlt : i < L.length
  ·have hget : (L.map Tm.enc).getD (Int.toNat (i : Int)) [] = L[i].enc := by simp [hlt]
   have hc := h L[i] (List.getElem_mem hlt)
   rw [d0, dlt hlt, hget]
   simp only [cond_true, Bool.and_self, grd, Option.bind_some, tm_read, callK_ret1 hc, List.getD_cons_zero, V.asBool, Bool.not_true, cond_false, wrap_succ (show i < 2 ^ 61 by omega)]
   exact alike1_loop hb h m (i + 1) (by omega) (by omega)
  ·rw [dnlt hlt]; rfl
theorem alike0_loop {N : Nat} {ls : List Lv} (hb : ls.length < 2 ^ 60) {L : List Tm} {a0 a1 b0 b1 : Int} {a2 b2 : ByteArray} {σ : Sto}
  (h : alikel1 (lim C) N N false (0 : Int) a0 a1 a2 (ls.map Lv.enc) (L.map Tm.enc) b0 b1 b2 (ls.map Lv.enc) (L.map Tm.enc) σ = some (.ret [(.bool true, false)], σ)) :
  ∀ (m i : Nat), i ≤ ls.length → ls.length - i < m → alikel0 (lim C) N m false i a0 a1 a2 (ls.map Lv.enc) (L.map Tm.enc) b0 b1 b2 (ls.map Lv.enc) (L.map Tm.enc) σ = some (.ret [(.bool true, false)], σ)
 | 0, i, _, hm => by omega
 | m + 1, i, hi, hm => by
  show alikes0 (lim C) (alikel1 (lim C) N N) (alikel0 (lim C) N m) false i a0 a1 a2 (ls.map Lv.enc) (L.map Tm.enc) b0 b1 b2 (ls.map Lv.enc) (L.map Tm.enc) σ = _
  unfold alikes0
  rw [List.length_map]
  by_cases hlt : i < ls.length
  ·have hget : (ls.map Lv.enc).getD (Int.toNat (i : Int)) [] = ls[i].enc := by simp [hlt]
   have hc := sameLevel_law σ ls[i]
   rw [d0, dlt hlt, hget]
   simp only [cond_true, Bool.and_self, grd, Option.bind_some, lv_read, callK_ret1 hc, List.getD_cons_zero, V.asBool, Bool.not_true, cond_false, wrap_succ (show i < 2 ^ 61 by omega)]
   exact alike0_loop hb h m (i + 1) (by omega) (by omega)
  ·rw [dnlt hlt]; exact h
def Tm.wide : Tm → Nat
 | .const _ ls => ls.length
 | .app a b => max a.wide b.wide
 | .lam a b => max a.wide b.wide
 | .pi a b => max a.wide b.wide
 | .letin a b c => max a.wide (max b.wide c.wide)
 | _ => 1
theorem kids_le (t : Tm) : t.kids.length ≤ 3 := by cases t <;> simp [Tm.kids]
theorem lvs_le (t : Tm) : t.lvs.length ≤ t.wide := by cases t <;> simp [Tm.lvs, Tm.wide]
theorem kid_wide {t c : Tm} (h : c ∈ t.kids) : c.wide ≤ t.wide := by
 cases t <;> simp only [Tm.kids, List.mem_cons, List.not_mem_nil, or_false] at h <;> simp only [Tm.wide]
 ·rcases h with rfl | rfl <;> omega
 ·rcases h with rfl | rfl <;> omega
 ·rcases h with rfl | rfl <;> omega
 ·rcases h with rfl | rfl | rfl <;> omega
theorem alike_law (σ : Sto) : ∀ t : Tm, t.wide < 2 ^ 60 → lim C 42 [(t.val, false), (t.val, false), (.bool false, false)] σ = some (.ret [(.bool true, false)], σ) :=
 Tm.ind fun t ih hw => alike_lim (n := t.wide + 10) <| by
  have hk := kids_le t
  have hl := lvs_le t
  have h1 := alike1_loop (N := t.wide + 10) (L := t.kids) (by omega) (w := false) (a0 := t.kind) (a1 := t.num) (b0 := t.kind) (b1 := t.num) (a2 := t.name) (b2 := t.name) (a3 := t.lvs.map Lv.enc) (b3 := t.lvs.map Lv.enc) (σ := σ)
   (fun c hc => ih c hc (by have := kid_wide hc; omega)) (t.wide + 10) 0 (by omega) (by omega)
  have h0 := alike0_loop (N := t.wide + 10) (ls := t.lvs) (by omega) h1 (t.wide + 10) 0 (by omega) (by omega)
  have e : ∀ x : Int, (x != x) = false := fun x => by simp
  simp only [alike, alikeF, e, cond_false, beq_self_eq_true, Bool.not_true]
  exact h0
theorem sameTerm_law (σ : Sto) (t : Tm) (hw : t.wide < 2 ^ 60) : lim C 13 [(t.val, false), (t.val, false)] σ = some (.ret [(.bool true, false)], σ) :=
 sameTerm_lim (n := 0) <| by
  have h := alike_law σ t hw
  simp only [Tm.val] at h
  simp only [sameTerm, sameTermF, callK_ret1 h, List.getD_cons_zero]
theorem rlvs_wide (s : ByteArray) : ∀ (n : Nat) (st : RS), (rlvsV n s st).1.length ≤ n
 | 0, _ => by simp [rlvsV]
 | n + 1, st => by
  unfold rlvsV
  cases st.c != 0
  ·cases strIs (tokV s st.p).t [41]
   ·have := rlvs_wide s n (rlevelV (s.size + 1) s st).2
    simp only [cond_false, List.length_cons]; omega
   ·simp
  ·simp
theorem rterm_wide (s : ByteArray) : ∀ (n : Nat) (st : RS), (rtermV n s st).1.wide ≤ s.size + 10
 | 0, _ => by simp [rtermV, Tm.wide]
 | n + 1, st => by
  have ih := rterm_wide s n
  unfold rtermV
  cases st.c != 0
  case true => simp [Tm.wide]
  cases badTok (tokV s st.p)
  case true => simp [Tm.wide]
  cases strIs (tokV s st.p).t [40]
  case false => simp [Tm.wide]
  simp only [cond_true, cond_false, tmP]
  cases wordIx (tokV s (rnextV s st).2.p).t == 0
  case true => simp [Tm.wide]
  simp only [cond_false]
  unfold tmB
  split
  ·simp [Tm.wide]
  ·exact rlvs_wide s _ _
  ·simp only [tm2, Tm.wide]; exact Nat.max_le.2 ⟨ih _, ih _⟩
  ·simp only [tm2, Tm.wide]; exact Nat.max_le.2 ⟨ih _, ih _⟩
  ·simp only [tm2, Tm.wide]; exact Nat.max_le.2 ⟨ih _, ih _⟩
  ·simp only [tm3, Tm.wide]; exact Nat.max_le.2 ⟨ih _, Nat.max_le.2 ⟨ih _, ih _⟩⟩
theorem tparse_wide (s : ByteArray) : (tparseV s).1.wide ≤ s.size + 10 := by
 unfold tparseV
 cases decide ((s.size : Int) > 20000)
 ·simp only [cond_false]
  cases (rdoneV s (rtermV (s.size + 1) s ⟨0, 0, 0⟩).2).c != 0
  ·exact rterm_wide s _ _
  ·simp [Tm.wide]
 ·simp [Tm.wide]
end Go.Ab.Mk
end
section
namespace Go.Ab.Mk
open Go.Proofs Go.Ab Go.Proofs.Mk
theorem tm_list (t : Tm) : [t.enc.getD 0 V.any, t.enc.getD 1 V.any, t.enc.getD 2 V.any, t.enc.getD 3 V.any, t.enc.getD 4 V.any] = t.enc := by rw [t.enc_eq]; rfl
theorem tm_cell5 (t : Tm) : V.cell t.val 0 = t.enc.getD 0 V.any ∧ V.cell t.val 1 = t.enc.getD 1 V.any ∧ V.cell t.val 2 = t.enc.getD 2 V.any ∧ V.cell t.val 3 = t.enc.getD 3 V.any ∧ V.cell t.val 4 = t.enc.getD 4 V.any := by rw [t.enc_eq]; exact ⟨rfl, rfl, rfl, rfl, rfl⟩
theorem tspine_law (t : Tm) (ht : t.spine.length < 2 ^ 40) (σ : Sto) : lim C 24 [(t.val, false)] σ = some (.ret [(t.head.val, false), (.slice 5 30 (t.spine.map Tm.enc), false)], σ) :=
 lim_ext (C := C) (f := 24) (s := Mk.spineS) (by kernel_rfl) (Mk.spineS_eq t ht false σ)
theorem rspine_loop1 {N : Nat} {L : List Tm} (hb : L.length < 2 ^ 33) {c0 c1 c2 c3 c4 : V} {t0 t1 : Int} {t2 : ByteArray} {t3 t4 : List (List V)} {σ : Sto} :
  ∀ (j m : Nat) (bs : List Tm), j ≤ L.length → j < m → bs.length + j ≤ L.length → rspinel1 (lim C) N m (L.map Tm.enc) (bs.map Tm.enc) ((j : Int) - 1) c0 c1 c2 c3 c4 t0 t1 t2 t3 t4 σ =
   some (.ret [(.agg [c0, c1, c2, c3, c4], false), (.slice 5 30 ((bs ++ (L.take j).reverse).map Tm.enc), false)], σ)
 | 0, 0, _, _, hm, _ => by omega
 | 0, m + 1, bs, _, _, _ => by
  show rspines1 (lim C) _ _ _ _ _ _ _ _ _ _ _ _ _ _ σ = _
  unfold rspines1
  rw [show decide (((0 : Nat) : Int) - 1 ≥ 0) = false from rfl, cond_false, List.take_zero, List.reverse_nil, List.append_nil]
 | j + 1, 0, _, _, hm, _ => by omega
 | j + 1, m + 1, bs, hj, hm, ha => by
  show rspines1 (lim C) (rspinel1 (lim C) N m) _ _ _ _ _ _ _ _ _ _ _ _ _ σ = _
  unfold rspines1
  have e : ((j + 1 : Nat) : Int) - 1 = (j : Int) := by omega
  have hroom : room ((bs.map Tm.enc).length + 1) = true := room_ok (by simp; omega)
  have ih := rspine_loop1 (N := N) hb (c0 := c0) (c1 := c1) (c2 := c2) (c3 := c3) (c4 := c4) (t0 := t0) (t1 := t1) (t2 := t2) (t3 := t3) (t4 := t4) (σ := σ) j m (bs ++ [L[j]]) (by omega) (by omega) (by simp; omega)
  rw [e, show decide ((j : Int) ≥ 0) = true by simp, cond_true, List.length_map, dlt (show j < L.length by omega), hroom, tm_get (show j < L.length by omega), tm_list, wrap_sm (by omega) (by omega)]
  simp only [Bool.and_self, grd, cond_true, Option.bind_some]
  rw [List.map_append] at ih
  refine ih.trans ?_
  rw [List.take_succ_eq_append_getElem (show j < L.length by omega), List.reverse_append]
  simp
theorem rspine_loop0 {N : Nat} {t0 t1 : Int} {t2 : ByteArray} {t3 t4 : List (List V)} {σ : Sto} :
  ∀ (u : Tm) (m : Nat) (acc : List Tm), u.spine.length < m → acc.length + u.spine.length < N → N < 2 ^ 33 → rspinel0 (lim C) N m (acc.map Tm.enc) (u.enc.getD 0 V.any) (u.enc.getD 1 V.any) (u.enc.getD 2 V.any) (u.enc.getD 3 V.any) (u.enc.getD 4 V.any) t0 t1 t2 t3 t4 σ =
   some (.ret [(u.head.val, false), (.slice 5 30 ((u.spine ++ acc.reverse).map Tm.enc), false)], σ)
 | u, 0, _, hm, _, _ => by omega
 | u, m + 1, acc, hm, hN, hb => by
  show rspines0 (lim C) (rspinel1 (lim C) N N) (rspinel0 (lim C) N m) _ _ _ _ _ _ _ _ _ _ _ σ = _
  unfold rspines0
  have e0 : u.enc.getD 0 V.any = .int .i64 u.kind := by rw [u.enc_eq]; rfl
  by_cases hk : u.kind = 3
  ·obtain ⟨a, b, rfl⟩ : ∃ a b, u = .app a b := by cases u <;> simp [Tm.kind] at hk; exact ⟨_, _, rfl⟩
   simp only [Tm.spine, List.length_append, List.length_singleton] at hm hN
   have ih := rspine_loop0 (N := N) (t0 := t0) (t1 := t1) (t2 := t2) (t3 := t3) (t4 := t4) (σ := σ) a m (acc ++ [b]) (by omega) (by simp; omega) hb
   have hs : V.asSlice ((Tm.app a b).enc.getD 4 V.any) 5 30 = some [a.enc, b.enc] := rfl
   have hroom : room ((acc.map Tm.enc).length + 1) = true := room_ok (by simp; omega)
   have g1 : List.getD [a.enc, b.enc] (Int.toNat 1) [] = b.enc := rfl
   have g0 : List.getD [a.enc, b.enc] (Int.toNat 0) [] = a.enc := rfl
   have k1 : (decide ((0 : Int) ≤ 1) && decide ((1 : Int) < ([a.enc, b.enc].length : Int))) = true := rfl
   have k0 : (decide ((0 : Int) ≤ 0) && decide ((0 : Int) < ([a.enc, b.enc].length : Int))) = true := rfl
   have hki : (Tm.app a b).kind = 3 := rfl
   rw [e0]
   simp only [V.asInt, if_true, Option.bind_some, hki, beq_self_eq_true, cond_true, hs, g0, g1, k0, k1, grd, hroom, tm_list]
   rw [List.map_append] at ih
   refine ih.trans ?_
   simp [Tm.head, Tm.spine]
  ·have hsp : u.spine = [] := by cases u <;> simp [Tm.kind] at hk <;> rfl
   have hhd : u.head = u := by cases u <;> simp [Tm.kind] at hk <;> rfl
   have h1 := rspine_loop1 (N := N) (L := acc) (by omega) (c0 := u.enc.getD 0 V.any) (c1 := u.enc.getD 1 V.any) (c2 := u.enc.getD 2 V.any) (c3 := u.enc.getD 3 V.any) (c4 := u.enc.getD 4 V.any) (t0 := t0) (t1 := t1) (t2 := t2) (t3 := t3) (t4 := t4) (σ := σ) acc.length N [] (Nat.le_refl _) (by rw [hsp] at hN; simpa using hN) (by simp)
   rw [e0] at h1 ⊢
   rw [show V.asInt (.int .i64 u.kind) .i64 = some u.kind from rfl, Option.bind_some, show (u.kind == (3 : Int)) = false by simpa using hk, cond_false, List.length_map, wrap_sm (by omega) (by omega)]
   refine h1.trans ?_
   rw [← e0, tm_readB, hhd, hsp, List.take_length]
theorem rspine_law (t : Tm) (ht : t.spine.length < 2 ^ 32) (σ : Sto) : lim C 25 [(t.val, false)] σ = some (.ret [(t.head.val, false), (.slice 5 30 (t.spine.map Tm.enc), false)], σ) :=
 rspine_lim (n := t.spine.length + 1) <| by
  have h := rspine_loop0 (N := t.spine.length + 1) (t0 := 0) (t1 := 0) (t2 := ByteArray.mk #[]) (t3 := []) (t4 := []) (σ := σ) t (t.spine.length + 1) [] (by omega) (by simp) (by omega)
  rw [t.enc_eq] at h
  simp only [List.reverse_nil, List.append_nil] at h
  exact h
def applyT (f : Tm) : List Tm → Tm
 | [] => f
 | a :: bs => applyT (.app f a) bs
theorem app_val (f a : Tm) : V.agg [.int .i64 3, .int .i64 0, .str (ByteArray.mk #[]), .slice 3 44 [], .slice 5 30 [f.enc, a.enc]] = (Tm.app f a).val := rfl
theorem tnew_law (f a : Tm) (b : Bool) (σ : Sto) : lim C 53 [(.int .i64 3, false), (.slice 5 30 [f.enc, a.enc], b)] σ = some (.ret [((Tm.app f a).val, false)], σ) := tnew_lim (n := 0) rfl
theorem rapp_law (f a : Tm) (σ : Sto) : lim C 54 [(f.val, false), (a.val, false)] σ = some (.ret [((Tm.app f a).val, false)], σ) := rapp_lim (n := 0) <| by
 simp only [rapp, rappF]
 rw [← app_val, f.enc_eq, a.enc_eq]
theorem tapply_loop {N : Nat} {L : List Tm} (hb : L.length < 2 ^ 33) {t0 t1 : Int} {t2 : ByteArray} {t3 t4 : List (List V)} {σ : Sto} :
  ∀ (m i : Nat) (f : Tm), i ≤ L.length → L.length - i < m → tapplyl0 (lim C) N m (L.map Tm.enc) L.length i (f.enc.getD 0 V.any) (f.enc.getD 1 V.any) (f.enc.getD 2 V.any) (f.enc.getD 3 V.any) (f.enc.getD 4 V.any) t0 t1 t2 t3 t4 σ =
   some (.ret [((applyT f (L.drop i)).val, false)], σ)
 | 0, i, f, _, hm => by omega
 | m + 1, i, f, hi, hm => by
  show tapplys0 (lim C) (tapplyl0 (lim C) N m) _ _ _ _ _ _ _ _ _ _ _ _ _ σ = _
  unfold tapplys0
  by_cases hlt : i < L.length
  ·have ih := tapply_loop (N := N) hb (t0 := t0) (t1 := t1) (t2 := t2) (t3 := t3) (t4 := t4) (σ := σ) m (i + 1) (.app f L[i]) (by omega) (by omega)
   have hx : L.drop i = L[i] :: L.drop (i + 1) := List.drop_eq_getElem_cons hlt
   obtain ⟨q0, q1, q2, q3, q4⟩ := tm_cell5 (.app f L[i])
   rw [List.length_map, dlt hlt, cond_true, d0, tm_get hlt, tm_list, tm_list]
   simp only [Bool.and_self, grd, cond_true, Option.bind_some]
   refine (callK_ret1 (tnew_law f L[i] true σ)).trans ?_
   simp only [List.getD_cons_zero, tm_fits, cond_true, Option.bind_some, wrap_succ (show i < 2 ^ 61 by omega), q0, q1, q2, q3, q4]
   rw [hx]
   exact ih
  ·rw [dnlt hlt, cond_false, tm_readB, List.drop_eq_nil_of_le (by omega)]
   rfl
theorem tapply_law (f : Tm) (L : List Tm) (hb : L.length < 2 ^ 33) (σ : Sto) : lim C 26 [(f.val, false), (.slice 5 30 (L.map Tm.enc), false)] σ = some (.ret [((applyT f L).val, false)], σ) :=
 tapply_lim (n := L.length + 1) <| by
  have h := tapply_loop (N := L.length + 1) hb (t0 := 0) (t1 := 0) (t2 := ByteArray.mk #[]) (t3 := []) (t4 := []) (σ := σ) (L.length + 1) 0 f (by omega) (by omega)
  rw [f.enc_eq] at h
  simp only [tapply, tapplyF, List.length_map]
  exact h
theorem rapply_loop {N : Nat} {L : List Tm} (hb : L.length < 2 ^ 33) {t0 t1 : Int} {t2 : ByteArray} {t3 t4 : List (List V)} {σ : Sto} :
  ∀ (m i : Nat) (f : Tm), i ≤ L.length → L.length - i < m → rapplyl0 (lim C) N m (L.map Tm.enc) i (f.enc.getD 0 V.any) (f.enc.getD 1 V.any) (f.enc.getD 2 V.any) (f.enc.getD 3 V.any) (f.enc.getD 4 V.any) t0 t1 t2 t3 t4 σ =
   some (.ret [((applyT f (L.drop i)).val, false)], σ)
 | 0, i, f, _, hm => by omega
 | m + 1, i, f, hi, hm => by
  show rapplys0 (lim C) (rapplyl0 (lim C) N m) _ _ _ _ _ _ _ _ _ _ _ _ σ = _
  unfold rapplys0
  by_cases hlt : i < L.length
  ·have ih := rapply_loop (N := N) hb (t0 := t0) (t1 := t1) (t2 := t2) (t3 := t3) (t4 := t4) (σ := σ) m (i + 1) (.app f L[i]) (by omega) (by omega)
   have hx : L.drop i = L[i] :: L.drop (i + 1) := List.drop_eq_getElem_cons hlt
   obtain ⟨q0, q1, q2, q3, q4⟩ := tm_cell5 (.app f L[i])
   rw [List.length_map, dlt hlt, cond_true, d0, tm_get hlt, tm_readB, tm_readB]
   simp only [Bool.and_self, grd, cond_true, Option.bind_some]
   refine (callK_ret1 (rapp_law f L[i] σ)).trans ?_
   simp only [List.getD_cons_zero, tm_fits, cond_true, Option.bind_some, wrap_succ (show i < 2 ^ 61 by omega), q0, q1, q2, q3, q4]
   rw [hx]
   exact ih
  ·rw [List.length_map, dnlt hlt, cond_false, tm_readB, List.drop_eq_nil_of_le (by omega)]
   rfl
theorem rapply_law (f : Tm) (L : List Tm) (hb : L.length < 2 ^ 33) (σ : Sto) : lim C 27 [(f.val, false), (.slice 5 30 (L.map Tm.enc), false)] σ = some (.ret [((applyT f L).val, false)], σ) :=
 rapply_lim (n := L.length + 1) <| by
  have h := rapply_loop (N := L.length + 1) hb (t0 := 0) (t1 := 0) (t2 := ByteArray.mk #[]) (t3 := []) (t4 := []) (σ := σ) (L.length + 1) 0 f (by omega) (by omega)
  rw [f.enc_eq] at h
  exact h
end Go.Ab.Mk
end
section
namespace Go.Ab.Mk
open Go.Proofs Go.Ab Go.Proofs.Mk
def levT (ps : List ByteArray) (ls : List Lv) : Tm → Tm
 | .var n => .var n
 | .sort l => .sort (substV ps ls l)
 | .const s ms => .const s (ms.map (substV ps ls))
 | .app a b => .app (levT ps ls a) (levT ps ls b)
 | .lam a b => .lam (levT ps ls a) (levT ps ls b)
 | .pi a b => .pi (levT ps ls a) (levT ps ls b)
 | .letin a b c => .letin (levT ps ls a) (levT ps ls b) (levT ps ls c)
theorem levT_val (ps : List ByteArray) (ls : List Lv) (t : Tm) : (levT ps ls t).val = .agg [.int .i64 t.kind, .int .i64 t.num, .str t.name, .slice 3 44 ((t.lvs.map (substV ps ls)).map Lv.enc), .slice 5 30 ((t.kids.map (levT ps ls)).map Tm.enc)] := by cases t <;> rfl
theorem lv_cells (l : Lv) : [V.cell (.agg [.int .i64 l.kind, .str l.name, .slice 3 44 l.args]) 0, V.cell (.agg [.int .i64 l.kind, .str l.name, .slice 3 44 l.args]) 1, V.cell (.agg [.int .i64 l.kind, .str l.name, .slice 3 44 l.args]) 2] = l.enc := cell_lv l
theorem lv_get {L : List Lv} {i : Nat} (h : i < L.length) : (L.map Lv.enc).getD (Int.toNat (i : Int)) [] = L[i].enc := by simp [h]
section
variable {ps : List ByteArray} {ls : List Lv}
theorem tlevels_loop1 {N : Nat} {L : List Tm} (hb : L.length < 2 ^ 33) {σ : Sto} {t0 t1 : Int} {t2 : ByteArray} {t3 t4 : List (List V)} {k n : Int} {s : ByteArray} {o3 : List (List V)}
  (h : ∀ c ∈ L, lim C 22 [(c.val, false), (.slice 1 9 (strs ps), false), (.slice 3 44 (encs ls), false)] σ = some (.ret [((levT ps ls c).val, false)], σ)) :
  ∀ (m i : Nat) (acc : List Tm), i ≤ L.length → L.length - i < m → acc.length = i →
   tlevelsl1 (lim C) N m (strs ps) (encs ls) (L.map Tm.enc) L.length i t0 t1 t2 t3 t4 k n s o3 (acc.map Tm.enc) σ = some (.ret [(.agg [.int .i64 k, .int .i64 n, .str s, .slice 3 44 o3, .slice 5 30 ((acc ++ (L.drop i).map (levT ps ls)).map Tm.enc)], false)], σ)
 | 0, i, acc, _, hm, _ => by omega
 | m + 1, i, acc, hi, hm, ha => by
  show tlevelss1 (lim C) (tlevelsl1 (lim C) N m) _ _ _ _ _ _ _ _ _ _ _ _ _ _ _ σ = _
  unfold tlevelss1
  by_cases hlt : i < L.length
  ·have h1 := h _ (List.getElem_mem hlt)
   have hx : L.drop i = L[i] :: L.drop (i + 1) := List.drop_eq_getElem_cons hlt
   have ih := tlevels_loop1 (N := N) hb (t0 := t0) (t1 := t1) (t2 := t2) (t3 := t3) (t4 := t4) (k := k) (n := n) (s := s) (o3 := o3) h m (i + 1) (acc ++ [levT ps ls L[i]]) (by omega) (by omega) (by simp [ha])
   have hroom : room ((acc.map Tm.enc).length + 1) = true := room_ok (by simp; omega)
   rw [List.length_map, dlt hlt, cond_true, d0, tm_get hlt, tm_readB]
   simp only [Bool.and_self, grd, cond_true, Option.bind_some]
   refine (callK_ret1 h1).trans ?_
   simp only [List.getD_cons_zero, tm_fits, Bool.and_self, cond_true, Option.bind_some, hroom, tm_cells, wrap_succ (show i < 2 ^ 61 by omega)]
   rw [List.map_append] at ih
   refine ih.trans ?_
   rw [hx, List.map_cons, List.append_assoc]
   rfl
  ·rw [dnlt hlt, cond_false, List.drop_eq_nil_of_le (by omega), List.map_nil, List.append_nil]
theorem tlevels_loop0 {N : Nat} (hl : ps.length = ls.length) (hp : ps.length < 2 ^ 61) {L : List Lv} (hb : L.length < 2 ^ 33) {σ : Sto} {u0 u1 : Int} {u2 : ByteArray} {u3 u4 : List (List V)} {t0 t1 : Int} {t2 : ByteArray} {t3 : List (List V)} {K : List Tm} {k n : Int} {s : ByteArray} {r : Res}
  (h : tlevelsl1 (lim C) N N (strs ps) (encs ls) (K.map Tm.enc) K.length 0 u0 u1 u2 u3 u4 k n s ((L.map (substV ps ls)).map Lv.enc) [] σ = some r) :
  ∀ (m i : Nat) (acc : List Lv), i ≤ L.length → L.length - i < m → acc.length = i → acc ++ (L.drop i).map (substV ps ls) = L.map (substV ps ls) →
   tlevelsl0 (lim C) N m (strs ps) (encs ls) (L.map Lv.enc) L.length i t0 t1 t2 t3 (K.map Tm.enc) u0 u1 u2 u3 u4 k n s (acc.map Lv.enc) [] σ = some r
 | 0, i, acc, _, hm, _, _ => by omega
 | m + 1, i, acc, hi, hm, ha, he => by
  show tlevelss0 (lim C) (tlevelsl1 (lim C) N N) (tlevelsl0 (lim C) N m) _ _ _ _ _ _ _ _ _ _ _ _ _ _ _ _ _ _ _ _ σ = _
  unfold tlevelss0
  by_cases hlt : i < L.length
  ·have h1 := subst_law hl hp σ L[i]
   have hx : L.drop i = L[i] :: L.drop (i + 1) := List.drop_eq_getElem_cons hlt
   have ih := tlevels_loop0 (N := N) hl hp hb (t0 := t0) (t1 := t1) (t2 := t2) (t3 := t3) h m (i + 1) (acc ++ [substV ps ls L[i]]) (by omega) (by omega) (by simp [ha]) (by rw [← he, hx, List.map_cons, List.append_assoc]; rfl)
   have hroom : room ((acc.map Lv.enc).length + 1) = true := room_ok (by simp; omega)
   rw [List.length_map, dlt hlt, cond_true, d0, lv_get hlt, lv_read]
   simp only [Bool.and_self, grd, cond_true, Option.bind_some]
   refine (callK_ret1 h1).trans ?_
   simp only [List.getD_cons_zero, fits_lv, Bool.and_self, cond_true, Option.bind_some, hroom, lv_cells, wrap_succ (show i < 2 ^ 61 by omega)]
   rw [List.map_append] at ih
   exact ih
  ·rw [dnlt hlt, cond_false, List.length_map]
   rw [List.drop_eq_nil_of_le (by omega), List.map_nil, List.append_nil] at he
   rw [he]
   exact h
theorem tlevels_law (hl : ps.length = ls.length) (hp : ps.length < 2 ^ 61) (hne : ps ≠ []) (σ : Sto) : ∀ t : Tm, t.wide < 2 ^ 32 → lim C 22 [(t.val, false), (.slice 1 9 (strs ps), false), (.slice 3 44 (encs ls), false)] σ = some (.ret [((levT ps ls t).val, false)], σ) :=
 Tm.ind fun t ih hw => tlevels_lim (n := t.wide + 10) <| by
  have hk := kids_le t
  have hlv := lvs_le t
  have h1 := tlevels_loop1 (N := t.wide + 10) (ps := ps) (ls := ls) (L := t.kids) (by omega) (σ := σ) (t0 := 0) (t1 := 0) (t2 := ByteArray.mk #[]) (t3 := []) (t4 := []) (k := t.kind) (n := t.num) (s := t.name) (o3 := (t.lvs.map (substV ps ls)).map Lv.enc) (fun c hc => ih c hc (by have := kid_wide hc; omega)) (t.wide + 10) 0 [] (by omega) (by omega) rfl
  rw [List.drop_zero, List.nil_append] at h1
  have h0 := tlevels_loop0 (N := t.wide + 10) hl hp (L := t.lvs) (by omega) (t0 := t.kind) (t1 := t.num) (t2 := t.name) (t3 := t.lvs.map Lv.enc) h1 (t.wide + 10) 0 [] (by omega) (by omega) rfl (by simp)
  have hz : ((strs ps).length : Int) ≠ 0 := by
   rw [strs_length]
   intro h
   exact hne (List.length_eq_zero_iff.1 (by omega))
  simp only [tlevels, tlevelsF, List.length_map]
  rw [show (((strs ps).length : Int) == 0) = false by simpa using hz, cond_false, levT_val]
  exact h0
theorem tlevels_law2 (hl : ps.length = ls.length) (hp : ps.length < 2 ^ 61) (hne : ps ≠ []) (σ : Sto) (t : Tm) (hw : t.wide < 2 ^ 32) (b1 b2 : Bool) : lim C 22 [(t.val, false), (.slice 1 9 (strs ps), b1), (.slice 3 44 (encs ls), b2)] σ = some (.ret [((levT ps ls t).val, false)], σ) :=
 tlevels_lim (n := t.wide + 10) <| by
  have hk := kids_le t
  have hlv := lvs_le t
  have h1 := tlevels_loop1 (N := t.wide + 10) (ps := ps) (ls := ls) (L := t.kids) (by omega) (σ := σ) (t0 := 0) (t1 := 0) (t2 := ByteArray.mk #[]) (t3 := []) (t4 := []) (k := t.kind) (n := t.num) (s := t.name) (o3 := (t.lvs.map (substV ps ls)).map Lv.enc) (fun c hc => tlevels_law hl hp hne σ c (by have := kid_wide hc; omega)) (t.wide + 10) 0 [] (by omega) (by omega) rfl
  rw [List.drop_zero, List.nil_append] at h1
  have h0 := tlevels_loop0 (N := t.wide + 10) hl hp (L := t.lvs) (by omega) (t0 := t.kind) (t1 := t.num) (t2 := t.name) (t3 := t.lvs.map Lv.enc) h1 (t.wide + 10) 0 [] (by omega) (by omega) rfl (by simp)
  have hz : ((strs ps).length : Int) ≠ 0 := by
   rw [strs_length]
   intro h
   exact hne (List.length_eq_zero_iff.1 (by omega))
  simp only [tlevels, tlevelsF, List.length_map]
  rw [show (((strs ps).length : Int) == 0) = false by simpa using hz, cond_false, levT_val]
  exact h0
theorem rlevels_loop1 {N : Nat} {L : List Tm} (hb : L.length < 2 ^ 33) {σ : Sto} {t0 t1 : Int} {t2 : ByteArray} {t3 : List (List V)} {u0 u1 : Int} {u2 : ByteArray} {u3 u4 : List (List V)} {k n : Int} {s : ByteArray} {o3 : List (List V)}
  (h : ∀ c ∈ L, lim C 23 [(c.val, false), (.slice 1 9 (strs ps), false), (.slice 3 44 (encs ls), false)] σ = some (.ret [((levT ps ls c).val, false)], σ)) :
  ∀ (m i : Nat) (acc : List Tm), i ≤ L.length → L.length - i < m → acc.length = i →
   rlevelsl1 (lim C) N m (strs ps) (encs ls) i t0 t1 t2 t3 (L.map Tm.enc) u0 u1 u2 u3 u4 k n s o3 (acc.map Tm.enc) σ = some (.ret [(.agg [.int .i64 k, .int .i64 n, .str s, .slice 3 44 o3, .slice 5 30 ((acc ++ (L.drop i).map (levT ps ls)).map Tm.enc)], false)], σ)
 | 0, i, acc, _, hm, _ => by omega
 | m + 1, i, acc, hi, hm, ha => by
  show rlevelss1 (lim C) (rlevelsl1 (lim C) N m) _ _ _ _ _ _ _ _ _ _ _ _ _ _ _ _ _ _ σ = _
  unfold rlevelss1
  rw [List.length_map]
  by_cases hlt : i < L.length
  ·have h1 := h _ (List.getElem_mem hlt)
   have hx : L.drop i = L[i] :: L.drop (i + 1) := List.drop_eq_getElem_cons hlt
   have ih := rlevels_loop1 (N := N) hb (t0 := t0) (t1 := t1) (t2 := t2) (t3 := t3) (u0 := u0) (u1 := u1) (u2 := u2) (u3 := u3) (u4 := u4) (k := k) (n := n) (s := s) (o3 := o3) h m (i + 1) (acc ++ [levT ps ls L[i]]) (by omega) (by omega) (by simp [ha])
   have hroom : room ((acc.map Tm.enc).length + 1) = true := room_ok (by simp; omega)
   rw [dlt hlt, cond_true, d0, tm_get hlt, tm_readB]
   simp only [Bool.and_self, grd, cond_true, Option.bind_some]
   refine (callK_ret1 h1).trans ?_
   simp only [List.getD_cons_zero, tm_fits, Bool.and_self, cond_true, Option.bind_some, hroom, tm_cells, wrap_succ (show i < 2 ^ 61 by omega)]
   rw [List.map_append] at ih
   refine ih.trans ?_
   rw [hx, List.map_cons, List.append_assoc]
   rfl
  ·rw [dnlt hlt, cond_false, List.drop_eq_nil_of_le (by omega), List.map_nil, List.append_nil]
theorem rlevels_loop0 {N : Nat} (hl : ps.length = ls.length) (hp : ps.length < 2 ^ 61) {L : List Lv} (hb : L.length < 2 ^ 33) {σ : Sto} {u0 u1 : Int} {u2 : ByteArray} {u3 u4 : List (List V)} {t0 t1 : Int} {t2 : ByteArray} {t4 : List (List V)} {k n : Int} {s : ByteArray} {r : Res}
  (h : rlevelsl1 (lim C) N N (strs ps) (encs ls) 0 t0 t1 t2 (L.map Lv.enc) t4 u0 u1 u2 u3 u4 k n s ((L.map (substV ps ls)).map Lv.enc) [] σ = some r) :
  ∀ (m i : Nat) (acc : List Lv), i ≤ L.length → L.length - i < m → acc.length = i → acc ++ (L.drop i).map (substV ps ls) = L.map (substV ps ls) →
   rlevelsl0 (lim C) N m (strs ps) (encs ls) i t0 t1 t2 (L.map Lv.enc) t4 u0 u1 u2 u3 u4 k n s (acc.map Lv.enc) [] σ = some r
 | 0, i, acc, _, hm, _, _ => by omega
 | m + 1, i, acc, hi, hm, ha, he => by
  show rlevelss0 (lim C) (rlevelsl1 (lim C) N N) (rlevelsl0 (lim C) N m) _ _ _ _ _ _ _ _ _ _ _ _ _ _ _ _ _ _ σ = _
  unfold rlevelss0
  rw [List.length_map]
  by_cases hlt : i < L.length
  ·have h1 := rsubst_law hl hp σ L[i]
   have hx : L.drop i = L[i] :: L.drop (i + 1) := List.drop_eq_getElem_cons hlt
   have ih := rlevels_loop0 (N := N) hl hp hb h m (i + 1) (acc ++ [substV ps ls L[i]]) (by omega) (by omega) (by simp [ha]) (by rw [← he, hx, List.map_cons, List.append_assoc]; rfl)
   have hroom : room ((acc.map Lv.enc).length + 1) = true := room_ok (by simp; omega)
   rw [dlt hlt, cond_true, d0, lv_get hlt, lv_read]
   simp only [Bool.and_self, grd, cond_true, Option.bind_some]
   refine (callK_ret1 h1).trans ?_
   simp only [List.getD_cons_zero, fits_lv, Bool.and_self, cond_true, Option.bind_some, hroom, lv_cells, wrap_succ (show i < 2 ^ 61 by omega)]
   rw [List.map_append] at ih
   exact ih
  ·rw [dnlt hlt, cond_false]
   rw [List.drop_eq_nil_of_le (by omega), List.map_nil, List.append_nil] at he
   rw [he]
   exact h
theorem rlevels_run (hl : ps.length = ls.length) (hp : ps.length < 2 ^ 61) (σ : Sto) (t : Tm) (hw : t.wide < 2 ^ 32)
  (ih : ∀ c ∈ t.kids, lim C 23 [(c.val, false), (.slice 1 9 (strs ps), false), (.slice 3 44 (encs ls), false)] σ = some (.ret [((levT ps ls c).val, false)], σ)) :
  rlevels (lim C) (t.wide + 10) t.kind t.num t.name (t.lvs.map Lv.enc) t.args (strs ps) (encs ls) σ = some (.ret [((levT ps ls t).val, false)], σ) := by
  have hk := kids_le t
  have hlv := lvs_le t
  have h1 := rlevels_loop1 (N := t.wide + 10) (ps := ps) (ls := ls) (L := t.kids) (by omega) (σ := σ) (t0 := t.kind) (t1 := t.num) (t2 := t.name) (t3 := t.lvs.map Lv.enc) (u0 := 0) (u1 := 0) (u2 := ByteArray.mk #[]) (u3 := []) (u4 := []) (k := t.kind) (n := t.num) (s := t.name) (o3 := (t.lvs.map (substV ps ls)).map Lv.enc) ih (t.wide + 10) 0 [] (by omega) (by omega) rfl
  rw [List.drop_zero, List.nil_append] at h1
  have h0 := rlevels_loop0 (N := t.wide + 10) hl hp (L := t.lvs) (by omega) h1 (t.wide + 10) 0 [] (by omega) (by omega) rfl (by simp)
  simp only [rlevels, rlevelsF]
  rw [levT_val]
  exact h0
theorem rlevels_law (hl : ps.length = ls.length) (hp : ps.length < 2 ^ 61) (σ : Sto) : ∀ t : Tm, t.wide < 2 ^ 32 → lim C 23 [(t.val, false), (.slice 1 9 (strs ps), false), (.slice 3 44 (encs ls), false)] σ = some (.ret [((levT ps ls t).val, false)], σ) :=
 Tm.ind fun t ih hw => rlevels_lim (n := t.wide + 10) (rlevels_run hl hp σ t hw fun c hc => ih c hc (by have := kid_wide hc; omega))
theorem rlevels_law2 (hl : ps.length = ls.length) (hp : ps.length < 2 ^ 61) (σ : Sto) (t : Tm) (hw : t.wide < 2 ^ 32) (b1 b2 : Bool) : lim C 23 [(t.val, false), (.slice 1 9 (strs ps), b1), (.slice 3 44 (encs ls), b2)] σ = some (.ret [((levT ps ls t).val, false)], σ) :=
 rlevels_lim (n := t.wide + 10) (rlevels_run hl hp σ t hw fun c hc => rlevels_law hl hp σ c (by have := kid_wide hc; omega))
end
end Go.Ab.Mk
end
section
namespace Go.Ab.Mk
open Go.Proofs Go.Ab
def kidsL : List Lv → List UInt8
 | [] => [41]
 | c :: L => 32 :: (printL c ++ kidsL L)
theorem write_loop (call : CallF) (n : Nat) {L : List Lv} (hb : L.length < 2 ^ 61) (b : Nat)
  (h1 : ∀ (σ : Sto) (X : List UInt8) (c : UInt8), σ[b]? = some (bcell b true X) → X.length + 1 < 2 ^ 34 → call 76 [(.ptr 75 b 0, false), (.int .u8 (c.toNat : Int), false)] σ = some (.ret [(.nilIface, false)], σ.set b (bcell b true (X ++ [c]))))
  (h : ∀ d ∈ L, ∀ (σ : Sto) (X : List UInt8), σ[b]? = some (bcell b true X) → X.length + (printL d).length < 2 ^ 34 →
   call 85 [(.ptr 75 b 0, false), (.agg [.int .i64 d.kind, .str d.name, .slice 3 44 d.args], false)] σ = some (.ret [], σ.set b (bcell b true (X ++ printL d)))) :
  ∀ (m i : Nat) (X : List UInt8) (σ : Sto), i ≤ L.length → L.length - i < m → X.length + (kidsL (L.drop i)).length < 2 ^ 34 → σ[b]? = some (bcell b true X) →
   writel0 call n m b (L.map Lv.enc) L.length i σ = some (.ret [], σ.set b (bcell b true (X ++ kidsL (L.drop i))))
 | 0, i, _, _, _, hm, _, _ => by omega
 | m + 1, i, X, σ, hi, hm, hs, hσ => by
  show writes0 call (writel0 call n m) b (L.map Lv.enc) L.length i σ = _
  unfold writes0
  rw [List.length_map]
  obtain ⟨hblt, hget⟩ := List.getElem?_eq_some_iff.1 hσ
  by_cases hlt : i < L.length
  ·have hc := List.getElem?_eq_getElem hlt
   rw [drop_cons hc] at hs
   simp only [kidsL, List.length_cons, List.length_append] at hs
   have e1 : call 76 [(.ptr 75 b 0, false), (.int .u8 32, false)] σ = some (.ret [(.nilIface, false)], σ.set b (bcell b true (X ++ [32]))) := h1 σ X 32 hσ (by omega)
   have e2 := h _ (List.getElem_mem hlt) (σ.set b (bcell b true (X ++ [32]))) (X ++ [32]) (by simp [hblt]) (by simp; omega)
   rw [d0, dlt hlt, kid_get hc, L[i].cells, drop_cons hc]
   simp only [cond_true, Bool.and_self, grd, Option.bind_some, callK_ret1 e1, callK_ret0 e2, wrap_succ (show i < 2 ^ 61 by omega), kidsL]
   rw [write_loop call n hb b h1 h m (i + 1) (X ++ [32] ++ printL L[i]) _ (by omega) (by omega) (by simp; omega) (by simp [hblt])]
   simp [List.set_set]
  ·rw [dnlt hlt, List.drop_eq_nil_of_le (by omega)]
   rw [List.drop_eq_nil_of_le (by omega)] at hs
   simp only [kidsL, List.length_cons, List.length_nil] at hs
   have e1 : call 76 [(.ptr 75 b 0, false), (.int .u8 41, false)] σ = some (.ret [(.nilIface, false)], σ.set b (bcell b true (X ++ [41]))) := h1 σ X 41 hσ (by omega)
   simp only [cond_false, callK_ret1 e1, kidsL]
theorem write_law (b : Nat) : ∀ (l : Lv) (σ : Sto) (u : Bool) (X : List UInt8), σ[b]? = some (bcell b u X) → X.length + (printL l).length < 2 ^ 34 →
  lim C 85 [(.ptr 75 b 0, false), (.agg [.int .i64 l.kind, .str l.name, .slice 3 44 l.args], false)] σ = some (.ret [], σ.set b (bcell b true (X ++ printL l))) :=
 Lv.ind fun l ih σ u X hσ hb => write_lim (n := 4) <| by
  obtain ⟨hblt, hget⟩ := List.getElem?_eq_some_iff.1 hσ
  have hlen : (l.args.length : Int) = (l.kids.length : Int) := by simp [Lv.args]
  have loop := fun (X : List UInt8) (σ : Sto) (h1 : X.length + (kidsL l.kids).length < 2 ^ 34) (h2 : σ[b]? = some (bcell b true X)) =>
   write_loop (lim C) 4 (L := l.kids) (by have := kids_few l; omega) b (fun σ X c h1 h2 => wbyte_law h1 c h2) (fun d hd σ X h1 h2 => ih d hd σ true X h1 h2) 4 0 X σ (by omega) (by have := kids_few l; omega) (by simpa using h1) h2
  simp only [List.drop_zero] at loop
  cases l with
  | zero =>
   have h1 := wstring_law hσ [48] (by simpa [printL] using hb)
   have e1 : ByteArray.mk #[48] = ba [48] := rfl
   simp only [write, writeF, Lv.kind, beq_self_eq_true, cond_true, e1, callK_ret2 h1, printL]
  | param s =>
   have h1 := wstring_law hσ s.data.toList (by simpa [printL] using hb)
   rw [ba_of] at h1
   simp only [write, writeF, Lv.kind, Lv.name, callK_ret2 h1, printL]
   rfl
  | succ l =>
   have h1 := wstring_law hσ [40, 115] (by simp [printL] at hb ⊢; omega)
   have h2 := loop (X ++ [40, 115]) (σ.set b (bcell b true (X ++ [40, 115]))) (by simp [Lv.kids, kidsL, printL] at hb ⊢; omega) (by simp [hblt])
   have e1 : ByteArray.mk #[40] = ba [40] := rfl
   have e2 : ByteArray.mk #[115] = ba [115] := rfl
   have hm : (memGet [] (V.eptr 4 [(V.str (ByteArray.mk #[])), (V.str (ByteArray.mk #[115])), (V.str (ByteArray.mk #[109, 97, 120])), (V.str (ByteArray.mk #[105, 109, 97, 120]))] (0 + Int.toNat (1 : Int) * 1)) false 1) = some (V.str (ba [115])) := rfl
   have hr : strRoom (ba [40]) (ba [115]) = true := strRoom_ok (by simp [ba_size])
   have h1' : callK (lim C) 73 [(.ptr 75 b 0, false), (.str (ba ([40] ++ [115])), false)] σ 2 = fun K KP => K [(.int .i64 ([40, 115] : List UInt8).length, false), (.nilIface, false)] (σ.set b (bcell b true (X ++ [40, 115]))) := by
    funext K KP; exact callK_ret2 h1
   simp only [write, writeF, Lv.kind, Int.reduceBEq, cond_false, hm, e1, Option.bind_some, V.asStr, hr, ba_append, h1']
   rw [hlen]
   simp only [Lv.args]
   refine Eq.trans (show _ = _ from h2) ?_
   simp [List.set_set, Lv.kids, kidsL, printL]
  | max x y =>
   have h1 := wstring_law hσ [40, 109, 97, 120] (by simp [printL] at hb ⊢; omega)
   have h2 := loop (X ++ [40, 109, 97, 120]) (σ.set b (bcell b true (X ++ [40, 109, 97, 120]))) (by simp [Lv.kids, kidsL, printL] at hb ⊢; omega) (by simp [hblt])
   have e1 : ByteArray.mk #[40] = ba [40] := rfl
   have hm : (memGet [] (V.eptr 4 [(V.str (ByteArray.mk #[])), (V.str (ByteArray.mk #[115])), (V.str (ByteArray.mk #[109, 97, 120])), (V.str (ByteArray.mk #[105, 109, 97, 120]))] (0 + Int.toNat (2 : Int) * 1)) false 1) = some (V.str (ba [109, 97, 120])) := rfl
   have hr : strRoom (ba [40]) (ba [109, 97, 120]) = true := strRoom_ok (by simp [ba_size])
   have h1' : callK (lim C) 73 [(.ptr 75 b 0, false), (.str (ba ([40] ++ [109, 97, 120])), false)] σ 2 = fun K KP => K [(.int .i64 ([40, 109, 97, 120] : List UInt8).length, false), (.nilIface, false)] (σ.set b (bcell b true (X ++ [40, 109, 97, 120]))) := by
    funext K KP; exact callK_ret2 h1
   simp only [write, writeF, Lv.kind, Int.reduceBEq, cond_false, hm, e1, Option.bind_some, V.asStr, hr, ba_append, h1']
   rw [hlen]
   simp only [Lv.args]
   refine Eq.trans (show _ = _ from h2) ?_
   simp [List.set_set, Lv.kids, kidsL, printL]
  | imax x y =>
   have h1 := wstring_law hσ [40, 105, 109, 97, 120] (by simp [printL] at hb ⊢; omega)
   have h2 := loop (X ++ [40, 105, 109, 97, 120]) (σ.set b (bcell b true (X ++ [40, 105, 109, 97, 120]))) (by simp [Lv.kids, kidsL, printL] at hb ⊢; omega) (by simp [hblt])
   have e1 : ByteArray.mk #[40] = ba [40] := rfl
   have hm : (memGet [] (V.eptr 4 [(V.str (ByteArray.mk #[])), (V.str (ByteArray.mk #[115])), (V.str (ByteArray.mk #[109, 97, 120])), (V.str (ByteArray.mk #[105, 109, 97, 120]))] (0 + Int.toNat (3 : Int) * 1)) false 1) = some (V.str (ba [105, 109, 97, 120])) := rfl
   have hr : strRoom (ba [40]) (ba [105, 109, 97, 120]) = true := strRoom_ok (by simp [ba_size])
   have h1' : callK (lim C) 73 [(.ptr 75 b 0, false), (.str (ba ([40] ++ [105, 109, 97, 120])), false)] σ 2 = fun K KP => K [(.int .i64 ([40, 105, 109, 97, 120] : List UInt8).length, false), (.nilIface, false)] (σ.set b (bcell b true (X ++ [40, 105, 109, 97, 120]))) := by
    funext K KP; exact callK_ret2 h1
   simp only [write, writeF, Lv.kind, Int.reduceBEq, cond_false, hm, e1, Option.bind_some, V.asStr, hr, ba_append, h1']
   rw [hlen]
   simp only [Lv.args]
   refine Eq.trans (show _ = _ from h2) ?_
   simp [List.set_set, Lv.kids, kidsL, printL]
theorem print_law (σ : Sto) (l : Lv) (hne : printL l ≠ []) (hb : (printL l).length < 2 ^ 33) :
  lim C 75 [(.agg [.int .i64 l.kind, .str l.name, .slice 3 44 l.args], false)] σ = some (.ret [(.str (ba (printL l)), false)], σ ++ [bcell σ.length true (printL l)]) :=
 print_lim (n := 0) <| by
  have h1 := write_law σ.length l (σ ++ [bcell σ.length false []]) false [] (by simp) (by simp; omega)
  have hset : (σ ++ [bcell σ.length false []]).set σ.length (bcell σ.length true ([] ++ printL l)) = σ ++ [bcell σ.length true (printL l)] := by
   rw [List.set_append_right _ _ (Nat.le_refl _)]; simp
  rw [hset] at h1
  have h2 : lim C 56 [(.ptr 75 σ.length 0, false)] (σ ++ [bcell σ.length true (printL l)]) = some (.ret [(.str (ba (printL l)), false)], σ ++ [bcell σ.length true (printL l)]) := by
   refine lim_ext (s := bldStringS 75 5) (by kernel_rfl) ?_
   simp only [bldStringS, if_true]
   rw [show (σ ++ [bcell σ.length true (printL l)])[σ.length]? = some (bcell σ.length true (printL l)) by simp]
   have hn : bytesL (printL l) ≠ [] := by
    intro h0
    have := bytesL_length (printL l)
    rw [h0] at this
    exact hne (List.length_eq_zero_iff.1 this.symm)
   simp only [bcell, cond_true]
   rw [if_pos ⟨trivial, hn, by rw [bytesL_length]; exact room_ok (by omega)⟩, unbytes_bytesL]
   rfl
  have e0 : [(V.nilp, false), ((V.slice 1 5 []), true)] = bcell σ.length false [] := rfl
  simp only [print, printF, e0, callK_ret0 h1, callK_ret1 h2]
  rfl
end Go.Ab.Mk
end
section
namespace Go.Ab.Mk
open Go.Proofs Go.Ab Go.Proofs.Mk
def Tm.word : Tm → List UInt8
 | .var _ => []
 | .sort _ => wsort
 | .const .. => wconst
 | .app .. => wapp
 | .lam .. => wlam
 | .pi .. => wpi
 | .letin .. => wlet
def lvsL (ls : List Lv) : List UInt8 := ls.flatMap fun l => 32 :: printL l
def ksL (ks : List (List UInt8)) : List UInt8 := ks.flatMap (fun k => 32 :: k) ++ [41]
def printT : Tm → List UInt8
 | .var n => 35 :: Go.Lib.decDigits n
 | .sort l => 40 :: wsort ++ lvsL [l] ++ ksL []
 | .const s ls => 40 :: wconst ++ 32 :: s.data.toList ++ lvsL ls ++ ksL []
 | .app a b => 40 :: wapp ++ ksL [printT a, printT b]
 | .lam a b => 40 :: wlam ++ ksL [printT a, printT b]
 | .pi a b => 40 :: wpi ++ ksL [printT a, printT b]
 | .letin a b c => 40 :: wlet ++ ksL [printT a, printT b, printT c]
theorem print_node (t : Tm) (h : t.kind ≠ 0) : printT t = 40 :: t.word ++ (if t.kind = 2 then 32 :: t.name.data.toList else []) ++ lvsL t.lvs ++ ksL (t.kids.map printT) := by
 cases t with
 | var => exact absurd rfl h
 | sort => simp [printT, Tm.word, Tm.kind, Tm.lvs, Tm.kids]
 | const => simp [printT, Tm.word, Tm.kind, Tm.lvs, Tm.kids, Tm.name]
 | app => simp [printT, Tm.word, Tm.kind, Tm.lvs, Tm.kids, lvsL]
 | lam => simp [printT, Tm.word, Tm.kind, Tm.lvs, Tm.kids, lvsL]
 | pi => simp [printT, Tm.word, Tm.kind, Tm.lvs, Tm.kids, lvsL]
 | letin => simp [printT, Tm.word, Tm.kind, Tm.lvs, Tm.kids, lvsL]
def Tm.all : Tm → List Lv
 | .sort l => [l]
 | .const _ ls => ls
 | .app a b => a.all ++ b.all
 | .lam a b => a.all ++ b.all
 | .pi a b => a.all ++ b.all
 | .letin a b c => a.all ++ (b.all ++ c.all)
 | _ => []
theorem all_node (t : Tm) : ∀ l, l ∈ t.all ↔ l ∈ t.lvs ∨ ∃ c ∈ t.kids, l ∈ c.all := by
 intro l
 cases t <;> simp [Tm.all, Tm.lvs, Tm.kids]
theorem kid_all {t c : Tm} (h : c ∈ t.kids) {P : Lv → Prop} (hP : ∀ l ∈ t.all, P l) : ∀ l ∈ c.all, P l := fun l hl => hP l ((all_node t l).2 (.inr ⟨c, h, hl⟩))
theorem lvs_all {t : Tm} {P : Lv → Prop} (hP : ∀ l ∈ t.all, P l) : ∀ l ∈ t.lvs, P l := fun l hl => hP l ((all_node t l).2 (.inl hl))
theorem lvsL_cons (l : Lv) (ls : List Lv) : lvsL (l :: ls) = 32 :: printL l ++ lvsL ls := by simp [lvsL]
theorem ksL_cons (k : List UInt8) (ks : List (List UInt8)) : ksL (k :: ks) = 32 :: k ++ ksL ks := by simp [ksL]
theorem ksL_nil : ksL [] = [41] := rfl
theorem lvsL_nil : lvsL [] = [] := rfl
theorem itoa_law (n : Nat) (h : n < 2 ^ 60) (σ : Sto) : lim C 74 [(.int .i64 n, false)] σ = some (.ret [(.str (ba (Go.Lib.decDigits n)), false)], σ) :=
 lim_ext (C := C) (f := 74) (s := Mk.textA) (by kernel_rfl) (Mk.textA_eq (by omega) false σ)
theorem digits_law (n : Nat) (h : n < 2 ^ 60) (σ : Sto) : lim C 57 [(.int .i64 n, false)] σ = some (.ret [(.str (ba (Go.Lib.decDigits n)), false)], σ) :=
 lim_ext (C := C) (f := 57) (s := Mk.textA) (by kernel_rfl) (Mk.textA_eq (by omega) false σ)
theorem bldString_law {σ : Sto} {b : Nat} {L : List UInt8} (h : σ[b]? = some (bcell b true L)) (hne : L ≠ []) (hb : L.length < 2 ^ 34) : lim C 56 [(.ptr 75 b 0, false)] σ = some (.ret [(.str (ba L), false)], σ) := by
 refine lim_ext (s := bldStringS 75 5) (by kernel_rfl) ?_
 simp only [bldStringS, if_true]
 rw [h]
 have hn : bytesL L ≠ [] := by
  intro h0
  have := bytesL_length L
  rw [h0] at this
  exact hne (List.length_eq_zero_iff.1 this.symm)
 simp only [bcell, cond_true]
 rw [if_pos ⟨trivial, hn, by rw [bytesL_length]; exact room_ok (by omega)⟩, unbytes_bytesL]
 rfl
theorem set_got {σ : Sto} {b : Nat} {x y : List Cell} (h : σ[b]? = some x) : (σ.set b y)[b]? = some y := by
 obtain ⟨hlt, _⟩ := List.getElem?_eq_some_iff.1 h
 simp [hlt]
theorem get_more {σ τ : Sto} {b : Nat} {x : List Cell} (h : σ[b]? = some x) : (σ ++ τ)[b]? = some x := by rw [List.getElem?_append_left (List.getElem?_eq_some_iff.1 h).1]; exact h
theorem twrite_loop1 {N : Nat} {b : Nat} {L : List Tm} (hb : L.length < 2 ^ 33)
  (h : ∀ c ∈ L, ∀ (σ : Sto) (X : List UInt8), σ[b]? = some (bcell b true X) → X.length + (printT c).length < 2 ^ 33 → ∃ σ', lim C 55 [(.ptr 75 b 0, false), (c.val, false)] σ = some (.ret [], σ') ∧ σ'[b]? = some (bcell b true (X ++ printT c))) :
  ∀ (m i : Nat) (σ : Sto) (X : List UInt8), i ≤ L.length → L.length - i < m → σ[b]? = some (bcell b true X) → X.length + (ksL ((L.drop i).map printT)).length < 2 ^ 33 →
   ∃ σ', twritel1 (lim C) N m b (L.map Tm.enc) L.length i σ = some (.ret [], σ') ∧ σ'[b]? = some (bcell b true (X ++ ksL ((L.drop i).map printT)))
 | 0, i, _, _, _, hm, _, _ => by omega
 | m + 1, i, σ, X, hi, hm, hσ, hs => by
  show ∃ σ', twrites1 (lim C) (twritel1 (lim C) N m) _ _ _ _ σ = _ ∧ _
  unfold twrites1
  by_cases hlt : i < L.length
  ·have hx : L.drop i = L[i] :: L.drop (i + 1) := List.drop_eq_getElem_cons hlt
   rw [hx, List.map_cons, ksL_cons] at hs
   simp only [List.length_cons, List.length_append] at hs
   have e1 : lim C 76 [(.ptr 75 b 0, false), (.int .u8 32, false)] σ = _ := wbyte_law hσ 32 (by omega)
   obtain ⟨σ2, e2, g2⟩ := h L[i] (List.getElem_mem hlt) _ (X ++ [32]) (set_got hσ) (by simp; omega)
   obtain ⟨σ3, e3, g3⟩ := twrite_loop1 (N := N) hb h m (i + 1) σ2 (X ++ [32] ++ printT L[i]) (by omega) (by omega) g2 (by simp at hs ⊢; omega)
   refine ⟨σ3, ?_, ?_⟩
   ·rw [List.length_map, dlt hlt, cond_true, d0, tm_get hlt, tm_readB]
    simp only [Bool.and_self, grd, cond_true, Option.bind_some, callK_ret1 e1, callK_ret0 e2, wrap_succ (show i < 2 ^ 61 by omega)]
    exact e3
   ·rw [g3, hx, List.map_cons, ksL_cons]
    simp
  ·rw [List.drop_eq_nil_of_le (by omega)] at hs ⊢
   rw [List.map_nil, ksL_nil] at hs ⊢
   have e1 : lim C 76 [(.ptr 75 b 0, false), (.int .u8 41, false)] σ = _ := wbyte_law hσ 41 (by simp at hs; omega)
   refine ⟨_, ?_, set_got (y := bcell b true (X ++ [41])) hσ⟩
   rw [dnlt hlt, cond_false]
   exact (callK_ret1 e1).trans rfl
theorem twrite_loop0 {N : Nat} {b : Nat} {K : List Tm} (hK : K.length < 2 ^ 33) (hN : K.length < N)
  (h : ∀ c ∈ K, ∀ (σ : Sto) (X : List UInt8), σ[b]? = some (bcell b true X) → X.length + (printT c).length < 2 ^ 33 → ∃ σ', lim C 55 [(.ptr 75 b 0, false), (c.val, false)] σ = some (.ret [], σ') ∧ σ'[b]? = some (bcell b true (X ++ printT c)))
  {L : List Lv} (hb : L.length < 2 ^ 33) (hL : ∀ l ∈ L, printL l ≠ []) {k n : Int} {s : ByteArray} {t3 : List (List V)} :
  ∀ (m i : Nat) (σ : Sto) (X : List UInt8), i ≤ L.length → L.length - i < m → σ[b]? = some (bcell b true X) → X.length + (lvsL (L.drop i) ++ ksL (K.map printT)).length < 2 ^ 33 →
   ∃ σ', twritel0 (lim C) N m b (L.map Lv.enc) L.length i k n s t3 (K.map Tm.enc) σ = some (.ret [], σ') ∧ σ'[b]? = some (bcell b true (X ++ (lvsL (L.drop i) ++ ksL (K.map printT))))
 | 0, i, _, _, _, hm, _, _ => by omega
 | m + 1, i, σ, X, hi, hm, hσ, hs => by
  show ∃ σ', twrites0 (lim C) (twritel1 (lim C) N N) (twritel0 (lim C) N m) _ _ _ _ _ _ _ _ _ σ = _ ∧ _
  unfold twrites0
  by_cases hlt : i < L.length
  ·have hx : L.drop i = L[i] :: L.drop (i + 1) := List.drop_eq_getElem_cons hlt
   rw [hx, lvsL_cons] at hs
   simp only [List.length_cons, List.length_append] at hs
   have e1 := print_law σ L[i] (hL _ (List.getElem_mem hlt)) (by omega)
   have hσ1 : (σ ++ [bcell σ.length true (printL L[i])])[b]? = some (bcell b true X) := get_more hσ
   have e2 := wstring_law hσ1 (32 :: printL L[i]) (by simp; omega)
   obtain ⟨σ3, e3, g3⟩ := twrite_loop0 (N := N) hK hN h hb hL (k := k) (n := n) (s := s) (t3 := t3) m (i + 1) _ (X ++ (32 :: printL L[i])) (by omega) (by omega) (set_got hσ1) (by simp at hs ⊢; omega)
   have hr : strRoom (ba [32]) (ba (printL L[i])) = true := strRoom_ok (by simp [ba_size]; omega)
   have e32 : ByteArray.mk #[32] = ba [32] := rfl
   refine ⟨σ3, ?_, ?_⟩
   ·rw [List.length_map, dlt hlt, cond_true, d0, lv_get hlt, lv_read, e32]
    simp only [Bool.and_self, grd, cond_true, Option.bind_some, callK_ret1 e1, List.getD_cons_zero, V.asStr, hr, ba_append, List.cons_append, List.nil_append, callK_ret2 e2, wrap_succ (show i < 2 ^ 61 by omega)]
    exact e3
   ·rw [g3, hx, lvsL_cons]
    simp
  ·rw [List.drop_eq_nil_of_le (by omega), lvsL_nil, List.nil_append] at hs ⊢
   obtain ⟨σ3, e3, g3⟩ := twrite_loop1 (N := N) hK h N 0 σ X (by omega) (by omega) hσ (by rw [List.drop_zero]; exact hs)
   rw [List.drop_zero] at g3
   refine ⟨σ3, ?_, g3⟩
   rw [dnlt hlt, cond_false, List.length_map]
   exact e3
theorem words_mem (t : Tm) (h : t.kind ≠ 0) : memGet [] (V.eptr 7 [(V.str (ByteArray.mk #[])), (V.str (ByteArray.mk #[115, 111, 114, 116])), (V.str (ByteArray.mk #[99, 111, 110, 115, 116])), (V.str (ByteArray.mk #[97, 112, 112])), (V.str (ByteArray.mk #[108, 97, 109])), (V.str (ByteArray.mk #[112, 105])), (V.str (ByteArray.mk #[108, 101, 116]))] (0 + Int.toNat t.kind * 1)) false 1 = some (.str (ba t.word)) := by
 cases t <;> first | exact absurd rfl h | rfl
theorem kind_in (t : Tm) : (decide (0 ≤ t.kind) && decide (t.kind < 7)) = true := by cases t <;> rfl
theorem word_len (t : Tm) : t.word.length ≤ 5 := by cases t <;> simp [Tm.word, wsort, wconst, wapp, wlam, wpi, wlet]
theorem twrite_law (b : Nat) : ∀ (t : Tm), t.top < 2 ^ 60 → t.wide < 2 ^ 32 → (∀ l ∈ t.all, printL l ≠ []) → ∀ (u : Bool) (σ : Sto) (X : List UInt8), σ[b]? = some (bcell b u X) → X.length + (printT t).length < 2 ^ 33 →
  ∃ σ', lim C 55 [(.ptr 75 b 0, false), (t.val, false)] σ = some (.ret [], σ') ∧ σ'[b]? = some (bcell b true (X ++ printT t)) :=
 Tm.ind fun t ih ht hw hne u σ X hσ hs => by
  by_cases hk : t.kind = 0
  ·obtain ⟨m, rfl⟩ : ∃ m, t = .var m := by cases t <;> simp [Tm.kind] at hk; exact ⟨_, rfl⟩
   simp only [printT, List.length_cons] at hs
   have e1 := itoa_law m ht σ
   have e2 := wstring_law hσ (35 :: Go.Lib.decDigits m) (by simp; omega)
   have hr : strRoom (ba [35]) (ba (Go.Lib.decDigits m)) = true := strRoom_ok (by simp [ba_size]; omega)
   have e35 : ByteArray.mk #[35] = ba [35] := rfl
   refine ⟨_, twrite_lim (n := 0) ?_, set_got (y := bcell b true (X ++ printT (.var m))) hσ⟩
   have e1' : lim C 74 [(.int .i64 ((Tm.var m).num : Int), false)] σ = _ := e1
   simp only [twrite, twriteF, Tm.kind, beq_self_eq_true, cond_true, callK_ret1 e1', List.getD_cons_zero, V.asStr, Option.bind_some, e35, hr, grd, ba_append, List.cons_append, List.nil_append, callK_ret2 e2, printT]
  ·rw [print_node t hk] at hs ⊢
   simp only [List.length_append, List.length_cons] at hs
   have hk3 := kids_le t
   have hlv := lvs_le t
   have hw5 := word_len t
   have ih' : ∀ c ∈ t.kids, ∀ (σ : Sto) (X : List UInt8), σ[b]? = some (bcell b true X) → X.length + (printT c).length < 2 ^ 33 → ∃ σ', lim C 55 [(.ptr 75 b 0, false), (c.val, false)] σ = some (.ret [], σ') ∧ σ'[b]? = some (bcell b true (X ++ printT c)) :=
    fun c hc σ X h1 h2 => ih c hc (by have := kid_depth hc; omega) (by have := kid_wide hc; omega) (kid_all hc hne) true σ X h1 h2
   have loop := fun σ X => twrite_loop0 (N := t.wide + 10) (K := t.kids) (by omega) (by omega) ih' (L := t.lvs) (by omega) (lvs_all hne) (k := t.kind) (n := t.num) (s := t.name) (t3 := t.lvs.map Lv.enc) (t.wide + 10) 0 σ X (by omega) (by omega)
   simp only [List.drop_zero] at loop
   have e1 := wstring_law hσ (40 :: t.word) (by simp; omega)
   have hr : strRoom (ba [40]) (ba t.word) = true := strRoom_ok (by simp [ba_size]; omega)
   have e40 : ByteArray.mk #[40] = ba [40] := rfl
   have g1 := set_got (y := bcell b true (X ++ 40 :: t.word)) hσ
   by_cases h2 : t.kind = 2
   ·rw [if_pos h2] at hs ⊢
    simp only [List.length_cons] at hs
    have e2 := wstring_law g1 (32 :: t.name.data.toList) (by simp only [List.length_append, List.length_cons]; omega)
    have hsz : t.name.size = t.name.data.toList.length := by rw [← ba_size, ba_of]
    have hr2 : strRoom (ba [32]) t.name = true := strRoom_ok (by rw [ba_size, hsz]; simp; omega)
    have e32 : ByteArray.mk #[32] = ba [32] := rfl
    obtain ⟨σ3, e3, g3⟩ := loop _ (X ++ 40 :: t.word ++ 32 :: t.name.data.toList) (set_got g1) (by simp only [List.length_append, List.length_cons]; omega)
    refine ⟨σ3, twrite_lim (n := t.wide + 10) ?_, by rw [g3]; simp⟩
    have hnm : ba [32] ++ t.name = ba (32 :: t.name.data.toList) := by rw [← ba_of t.name, ba_append, ba_of]; rfl
    simp only [twrite, twriteF, kind_in, grd, cond_true, Option.bind_some, words_mem t hk, V.asStr, e40, hr, ba_append, List.cons_append, List.nil_append]
    rw [show (t.kind == 0) = false by simpa using hk, cond_false, callK_ret2 e1, show (t.kind == 2) = true by simpa using h2, cond_true, e32, hr2]
    simp only [cond_true, Option.bind_some, hnm]
    rw [callK_ret2 e2, List.length_map]
    exact e3
   ·rw [if_neg h2] at hs ⊢
    obtain ⟨σ3, e3, g3⟩ := loop _ (X ++ 40 :: t.word) g1 (by simp only [List.length_append, List.length_cons, List.length_nil] at hs ⊢; omega)
    refine ⟨σ3, twrite_lim (n := t.wide + 10) ?_, by rw [g3]; simp⟩
    simp only [twrite, twriteF, kind_in, grd, cond_true, Option.bind_some, words_mem t hk, V.asStr, e40, hr, ba_append, List.cons_append, List.nil_append]
    rw [show (t.kind == 0) = false by simpa using hk, cond_false, callK_ret2 e1, show (t.kind == 2) = false by simpa using h2, cond_false, List.length_map]
    exact e3
theorem printT_ne (t : Tm) : printT t ≠ [] := by cases t <;> simp [printT]
theorem tprint_law (t : Tm) (ht : t.top < 2 ^ 60) (hw : t.wide < 2 ^ 32) (hne : ∀ l ∈ t.all, printL l ≠ []) (hs : (printT t).length < 2 ^ 33) (σ : Sto) : ∃ σ', lim C 28 [(t.val, false)] σ = some (.ret [(.str (ba (printT t)), false)], σ') := by
 obtain ⟨σ', h1, g1⟩ := twrite_law σ.length t ht hw hne false (σ ++ [bcell σ.length false []]) [] (by simp) (by simpa using hs)
 have h2 := bldString_law g1 (by simpa using printT_ne t) (by simp; omega)
 refine ⟨σ', tprint_lim (n := 0) ?_⟩
 have e0 : [(V.nilp, false), ((V.slice 1 5 []), true)] = bcell σ.length false [] := rfl
 simp only [tprint, tprintF, e0]
 refine (callK_ret0 h1).trans ?_
 refine (callK_ret1 h2).trans ?_
 rfl
end Go.Ab.Mk
end
section
namespace Go.Ab.Mk
open Go.Proofs Go.Ab Go.Proofs.Mk
theorem rpt_loop1 {N : Nat} {L : List Tm} (hb : L.length < 2 ^ 33) {k n : Int} {s : ByteArray} {t3 : List (List V)} {σ : Sto}
  (h : ∀ c ∈ L, (printT c).length < 2 ^ 33 → lim C 29 [(c.val, false)] σ = some (.ret [(.str (ba (printT c)), false)], σ)) :
  ∀ (m i : Nat) (X : List UInt8), i ≤ L.length → L.length - i < m → X.length + (ksL ((L.drop i).map printT)).length < 2 ^ 33 →
   rprintTerml1 (lim C) N m (ba X) i k n s t3 (L.map Tm.enc) σ = some (.ret [(.str (ba (X ++ ksL ((L.drop i).map printT))), false)], σ)
 | 0, i, _, _, hm, _ => by omega
 | m + 1, i, X, hi, hm, hs => by
  show rprintTerms1 (lim C) (rprintTerml1 (lim C) N m) _ _ _ _ _ _ _ σ = _
  unfold rprintTerms1
  rw [List.length_map]
  have e32 : ByteArray.mk #[32] = ba [32] := rfl
  have e41 : ByteArray.mk #[41] = ba [41] := rfl
  by_cases hlt : i < L.length
  ·have hx : L.drop i = L[i] :: L.drop (i + 1) := List.drop_eq_getElem_cons hlt
   rw [hx, List.map_cons, ksL_cons] at hs
   simp only [List.length_cons, List.length_append] at hs
   have e1 := h L[i] (List.getElem_mem hlt) (by omega)
   have hr : strRoom (ba X) (ba [32]) = true := strRoom_ok (by simp only [ba_size, List.length_singleton]; omega)
   have hr2 : strRoom (ba (X ++ [32])) (ba (printT L[i])) = true := strRoom_ok (by simp only [ba_size, List.length_append, List.length_singleton]; omega)
   have ih := rpt_loop1 (N := N) hb (k := k) (n := n) (s := s) (t3 := t3) h m (i + 1) (X ++ [32] ++ printT L[i]) (by omega) (by omega) (by simp only [List.length_append, List.length_singleton]; omega)
   rw [dlt hlt, cond_true, d0, tm_get hlt, tm_readB, e32, hr]
   simp only [Bool.and_self, grd, cond_true, Option.bind_some, callK_ret1 e1, List.getD_cons_zero, V.asStr, ba_append, hr2, wrap_succ (show i < 2 ^ 61 by omega)]
   refine ih.trans ?_
   rw [hx, List.map_cons, ksL_cons]
   simp
  ·rw [List.drop_eq_nil_of_le (by omega)] at hs ⊢
   rw [List.map_nil, ksL_nil] at hs ⊢
   have hr : strRoom (ba X) (ba [41]) = true := strRoom_ok (by simp only [ba_size, List.length_singleton] at hs ⊢; omega)
   rw [dnlt hlt, cond_false, e41, hr, ba_append]
   rfl
theorem rpt_loop0 {N : Nat} {K : List Tm} (hK : K.length < 2 ^ 33) (hN : K.length < N) {L : List Lv} (hb : L.length < 2 ^ 33) {k n : Int} {s : ByteArray} {σ : Sto}
  (h : ∀ c ∈ K, (printT c).length < 2 ^ 33 → lim C 29 [(c.val, false)] σ = some (.ret [(.str (ba (printT c)), false)], σ)) :
  ∀ (m i : Nat) (X : List UInt8), i ≤ L.length → L.length - i < m → X.length + (lvsL (L.drop i) ++ ksL (K.map printT)).length < 2 ^ 33 →
   rprintTerml0 (lim C) N m (ba X) i k n s (L.map Lv.enc) (K.map Tm.enc) σ = some (.ret [(.str (ba (X ++ (lvsL (L.drop i) ++ ksL (K.map printT)))), false)], σ)
 | 0, i, _, _, hm, _ => by omega
 | m + 1, i, X, hi, hm, hs => by
  show rprintTerms0 (lim C) (rprintTerml1 (lim C) N N) (rprintTerml0 (lim C) N m) _ _ _ _ _ _ _ σ = _
  unfold rprintTerms0
  rw [List.length_map]
  have e32 : ByteArray.mk #[32] = ba [32] := rfl
  by_cases hlt : i < L.length
  ·have hx : L.drop i = L[i] :: L.drop (i + 1) := List.drop_eq_getElem_cons hlt
   rw [hx, lvsL_cons] at hs
   simp only [List.length_cons, List.length_append] at hs
   have e1 := rprint_law σ L[i] (by omega)
   have hr : strRoom (ba X) (ba [32]) = true := strRoom_ok (by simp only [ba_size, List.length_singleton]; omega)
   have hr2 : strRoom (ba (X ++ [32])) (ba (printL L[i])) = true := strRoom_ok (by simp only [ba_size, List.length_append, List.length_singleton]; omega)
   have ih := rpt_loop0 (N := N) hK hN hb (k := k) (n := n) (s := s) h m (i + 1) (X ++ [32] ++ printL L[i]) (by omega) (by omega) (by simp only [List.length_append, List.length_singleton]; omega)
   rw [dlt hlt, cond_true, d0, lv_get hlt, lv_read, e32, hr]
   simp only [Bool.and_self, grd, cond_true, Option.bind_some, callK_ret1 e1, List.getD_cons_zero, V.asStr, ba_append, hr2, wrap_succ (show i < 2 ^ 61 by omega)]
   refine ih.trans ?_
   rw [hx, lvsL_cons]
   simp
  ·rw [List.drop_eq_nil_of_le (by omega), lvsL_nil, List.nil_append] at hs ⊢
   have e := rpt_loop1 (N := N) hK (k := k) (n := n) (s := s) (t3 := L.map Lv.enc) h N 0 X (by omega) (by omega) (by rw [List.drop_zero]; exact hs)
   rw [List.drop_zero] at e
   rw [dnlt hlt, cond_false]
   exact e
theorem words_slice (t : Tm) (h : t.kind ≠ 0) {l : List (List V)} (hl : (V.asSlice (List.getD [(V.slice 1 9 [[V.str (ByteArray.mk #[])], [V.str (ByteArray.mk #[115, 111, 114, 116])], [V.str (ByteArray.mk #[99, 111, 110, 115, 116])], [V.str (ByteArray.mk #[97, 112, 112])], [V.str (ByteArray.mk #[108, 97, 109])], [V.str (ByteArray.mk #[112, 105])], [V.str (ByteArray.mk #[108, 101, 116])]])] 0 V.any) 1 9) = some l) :
  (decide (0 ≤ t.kind) && decide (t.kind < l.length)) = true ∧ V.asStr (List.getD (List.getD l (Int.toNat t.kind) []) 0 V.any) = some (ba t.word) := by
 obtain rfl := Option.some.inj (hl.symm.trans rfl)
 cases t <;> first | exact absurd rfl h | exact ⟨rfl, rfl⟩
theorem rprintTerm_law (σ : Sto) : ∀ (t : Tm), t.top < 2 ^ 60 → t.wide < 2 ^ 32 → (printT t).length < 2 ^ 33 → lim C 29 [(t.val, false)] σ = some (.ret [(.str (ba (printT t)), false)], σ) :=
 Tm.ind fun t ih ht hw hs => by
  by_cases hk : t.kind = 0
  ·obtain ⟨m, rfl⟩ : ∃ m, t = .var m := by cases t <;> simp [Tm.kind] at hk; exact ⟨_, rfl⟩
   simp only [printT, List.length_cons] at hs
   have e1 := digits_law m ht σ
   have hr : strRoom (ba [35]) (ba (Go.Lib.decDigits m)) = true := strRoom_ok (by simp [ba_size]; omega)
   have e35 : ByteArray.mk #[35] = ba [35] := rfl
   refine rprintTerm_lim (n := 0) ?_
   have e1' : lim C 57 [(.int .i64 ((Tm.var m).num : Int), false)] σ = _ := e1
   simp only [rprintTerm, rprintTermF, Tm.kind, beq_self_eq_true, cond_true, callK_ret1 e1', List.getD_cons_zero, V.asStr, Option.bind_some, e35, hr, grd, ba_append, List.cons_append, List.nil_append, printT]
  ·rw [print_node t hk] at hs ⊢
   simp only [List.length_append, List.length_cons] at hs
   have hk3 := kids_le t
   have hlv := lvs_le t
   have hw5 := word_len t
   have loop := fun X => rpt_loop0 (N := t.wide + 10) (K := t.kids) (by omega) (by omega) (L := t.lvs) (by omega) (k := t.kind) (n := t.num) (s := t.name) (σ := σ) (fun c hc h => ih c hc (by have := kid_depth hc; omega) (by have := kid_wide hc; omega) h) (t.wide + 10) 0 X (by omega) (by omega)
   simp only [List.drop_zero] at loop
   obtain ⟨l5, hl5⟩ : ∃ l, (V.asSlice (List.getD [(V.slice 1 9 [[V.str (ByteArray.mk #[])], [V.str (ByteArray.mk #[115, 111, 114, 116])], [V.str (ByteArray.mk #[99, 111, 110, 115, 116])], [V.str (ByteArray.mk #[97, 112, 112])], [V.str (ByteArray.mk #[108, 97, 109])], [V.str (ByteArray.mk #[112, 105])], [V.str (ByteArray.mk #[108, 101, 116])]])] 0 V.any) 1 9) = some l := ⟨_, rfl⟩
   obtain ⟨k1, k2⟩ := words_slice t hk hl5
   have hr : strRoom (ba [40]) (ba t.word) = true := strRoom_ok (by simp [ba_size]; omega)
   have e40 : ByteArray.mk #[40] = ba [40] := rfl
   refine rprintTerm_lim (n := t.wide + 10) ?_
   simp only [rprintTerm, rprintTermF, hl5, Option.bind_some, k1, k2, grd, cond_true, e40, hr, ba_append, List.cons_append, List.nil_append]
   rw [show (t.kind == 0) = false by simpa using hk, cond_false]
   by_cases h2 : t.kind = 2
   ·rw [if_pos h2] at hs ⊢
    simp only [List.length_cons] at hs
    have hsz : t.name.size = t.name.data.toList.length := by rw [← ba_size, ba_of]
    have e32 : ByteArray.mk #[32] = ba [32] := rfl
    have hr2 : strRoom (ba (40 :: t.word)) (ba [32]) = true := strRoom_ok (by simp only [ba_size, List.length_cons, List.length_nil]; omega)
    have hr3 : strRoom (ba (40 :: t.word ++ [32])) t.name = true := strRoom_ok (by simp only [ba_size, hsz, List.length_append, List.length_cons, List.length_nil]; omega)
    have hnm : ba (40 :: t.word ++ [32]) ++ t.name = ba (40 :: t.word ++ 32 :: t.name.data.toList) := by
     rw [← ba_of t.name, ba_append, ba_of]; simp
    have e := loop (40 :: t.word ++ 32 :: t.name.data.toList) (by simp only [List.length_append, List.length_cons]; omega)
    rw [show (t.kind == 2) = true by simpa using h2, cond_true, e32, hr2]
    simp only [cond_true, Option.bind_some, ba_append]
    rw [hr3, hnm]
    simp only [cond_true, Option.bind_some]
    refine e.trans ?_
    simp
   ·rw [if_neg h2] at hs ⊢
    have e := loop (40 :: t.word) (by simp only [List.length_append, List.length_cons, List.length_nil] at hs ⊢; omega)
    rw [show (t.kind == 2) = false by simpa using h2, cond_false]
    refine e.trans ?_
    simp
end Go.Ab.Mk
end
section
namespace Go.Ab.Mk
open Go.Proofs Go.Ab
def sucsL : List Lv → Nat
 | [] => 0
 | c :: L => c.sucs + sucsL L
theorem sucsL_eq : ∀ l : Lv, l.sucs = (if l.kind = 1 then 1 else 0) + sucsL l.kids
 | .zero => rfl
 | .param _ => rfl
 | .succ l => by simp [Lv.sucs, Lv.kind, Lv.kids, sucsL]; omega
 | .max a b => by simp [Lv.sucs, Lv.kind, Lv.kids, sucsL]
 | .imax a b => by simp [Lv.sucs, Lv.kind, Lv.kids, sucsL]
theorem succs_loop (call : CallF) (n : Nat) {L : List Lv} (hb : L.length < 2 ^ 61) (k : Int) (nm : ByteArray) (σ : Sto)
  (h : ∀ c ∈ L, call 87 [(.agg [.int .i64 c.kind, .str c.name, .slice 3 44 c.args], false)] σ = some (.ret [(.int .i64 (c.sucs : Int), false)], σ)) :
  ∀ (m i acc : Nat), i ≤ L.length → L.length - i < m → acc + sucsL (L.drop i) < 2 ^ 60 → succsl0 call n m acc i k nm (L.map Lv.enc) σ = some (.ret [(.int .i64 ((acc + sucsL (L.drop i) : Nat) : Int), false)], σ)
 | 0, i, _, _, hm, _ => by omega
 | m + 1, i, acc, hi, hm, hs => by
  show succss0 call (succsl0 call n m) acc i k nm (L.map Lv.enc) σ = _
  unfold succss0
  rw [List.length_map]
  by_cases hlt : i < L.length
  ·have hc := List.getElem?_eq_getElem hlt
   rw [drop_cons hc] at hs
   simp only [sucsL] at hs
   have h1 := h _ (List.getElem_mem hlt)
   rw [d0, dlt hlt, kid_get hc, L[i].cells, drop_cons hc]
   simp only [cond_true, Bool.and_self, grd, Option.bind_some, callK_ret1 h1, wrap_succ (show i < 2 ^ 61 by omega), List.getD_cons_zero, sucsL, V.asInt, if_true, wrap_add (show acc + L[i].sucs < 2 ^ 62 by omega)]
   rw [← Nat.add_assoc]
   exact succs_loop call n hb k nm σ h m (i + 1) (acc + L[i].sucs) (by omega) (by omega) (by omega)
  ·rw [dnlt hlt, List.drop_eq_nil_of_le (by omega)]; rfl
theorem succs_law (σ : Sto) : ∀ (l : Lv), l.size < 2 ^ 60 → lim C 87 [(.agg [.int .i64 l.kind, .str l.name, .slice 3 44 l.args], false)] σ = some (.ret [(.int .i64 (l.sucs : Int), false)], σ) :=
 Lv.ind fun l ih hb => succs_lim (n := 4) <| by
  have hk : l.kids.length ≤ 2 := by cases l <;> simp [Lv.kids]
  have hs := sucs_size l
  have he := sucsL_eq l
  have h : ∀ c ∈ l.kids, lim C 87 [(.agg [.int .i64 c.kind, .str c.name, .slice 3 44 c.args], false)] σ = some (.ret [(.int .i64 (c.sucs : Int), false)], σ) := fun c hc => ih c hc (by have := Lv.kid_size hc; omega)
  have go : ∀ acc : Nat, acc + sucsL l.kids < 2 ^ 60 → succsl0 (lim C) 4 4 (acc : Int) (0 : Int) l.kind l.name l.args σ = some (.ret [(.int .i64 ((acc + sucsL l.kids : Nat) : Int), false)], σ) := by
   intro acc ha
   have := succs_loop (lim C) 4 (L := l.kids) (by omega) l.kind l.name σ h 4 0 acc (Nat.zero_le _) (by omega) (by simpa using ha)
   simpa [Lv.args] using this
  by_cases h1 : l.kind = 1
  ·rw [if_pos h1] at he
   simp only [succs, succsF, h1, beq_self_eq_true, cond_true]
   have := go 1 (by omega)
   rw [h1] at this
   rw [he]
   exact this
  ·rw [if_neg h1] at he
   have hne : (l.kind == (1 : Int)) = false := by simpa using h1
   simp only [succs, succsF, hne, cond_false]
   have := go 0 (by omega)
   rw [he]
   exact this
theorem vals_get (B r : Nat) : List.getD (List.getD (ints [0, 1, (B : Int)]) (Int.toNat (Int.tmod (r : Int) (3 : Int))) []) 0 V.any = .int .i64 ((vd B (r % 3) : Nat) : Int) := by
 have e : Int.toNat (Int.tmod (r : Int) (3 : Int)) = r % 3 := rfl
 rw [e]
 have h3 : r % 3 = 0 ∨ r % 3 = 1 ∨ r % 3 = 2 := by omega
 rcases h3 with h | h | h <;> rw [h] <;> rfl
theorem vals_in (B r : Nat) : (decide (0 ≤ Int.tmod (r : Int) (3 : Int)) && decide (Int.tmod (r : Int) (3 : Int) < ((ints [0, 1, (B : Int)]).length : Int))) = true := by
 have e : Int.tmod (r : Int) (3 : Int) = ((r % 3 : Nat) : Int) := rfl
 have e2 : ((ints [0, 1, (B : Int)]).length : Int) = 3 := rfl
 rw [e, e2]
 simp
 omega
theorem ints_append (ps qs : List Int) : ints (ps ++ qs) = ints ps ++ ints qs := by simp [ints]
theorem rleq_loop2 (call : CallF) (n : Nat) (rec1 : V → List (List V) → Int → Int → Int → ByteArray → List (List V) → Int → ByteArray → List (List V) → Sto → Option Res)
  {P : List ByteArray} (hP : P.length ≤ 6) (B : Nat) (N k : Nat) (ka : Int) (na : ByteArray) (xa : List (List V)) (kb : Int) (nb : ByteArray) (xb : List (List V)) (σ : Sto) {wa wb : List Int → Int}
  (ha : ∀ ns : List Int, ns.length = P.length → call 88 [(.agg [.int .i64 ka, .str na, .slice 3 44 xa], false), (.slice 1 9 (strs P), false), (.slice 1 3 (ints ns), false)] σ = some (.ret [(.int .i64 (wa ns), false)], σ))
  (hb : ∀ ns : List Int, ns.length = P.length → call 88 [(.agg [.int .i64 kb, .str nb, .slice 3 44 xb], false), (.slice 1 9 (strs P), false), (.slice 1 3 (ints ns), false)] σ = some (.ret [(.int .i64 (wb ns), false)], σ)) :
  ∀ (m i r : Nat) (ns : List Int), i ≤ P.length → P.length - i < m → r < 2 ^ 60 → ns.length = i →
   rleql2 call n rec1 m (.slice 1 9 (strs P)) (ints [0, 1, (B : Int)]) N k (ints ns) r i ka na xa kb nb xb σ =
    bif decide (wa (ns ++ nsV B (P.length - i) r) > wb (ns ++ nsV B (P.length - i) r)) then some (.ret [(.bool false, false)], σ) else rec1 (.slice 1 9 (strs P)) (ints [0, 1, (B : Int)]) N (IntKind.wrap .i64 ((k : Int) + 1)) ka na xa kb nb xb σ
 | 0, i, _, _, _, hm, _, _ => by omega
 | m + 1, i, r, ns, hi, hm, hr, hn => by
  show rleqs2 call rec1 (rleql2 call n rec1 m) _ _ _ _ _ _ _ _ _ _ _ _ _ σ = _
  unfold rleqs2
  have hsl : V.asSlice (.slice 1 9 (strs P)) 1 9 = some (strs P) := rfl
  rw [hsl, Option.bind_some, strs_length]
  by_cases hlt : i < P.length
  ·have hf : ∀ x : Int, V.fits (.int .i64 x) false 1 = true := fun _ => rfl
   have hroom : room (List.length (ints ns) + 1) = true := room_ok (by rw [ints_length]; omega)
   have e1 : IntKind.wrap .i64 (Int.tdiv (r : Int) (3 : Int)) = ((r / 3 : Nat) : Int) := by
    rw [show Int.tdiv (r : Int) (3 : Int) = ((r / 3 : Nat) : Int) from rfl]
    exact wrap_nat (by omega)
   have e2 : ints ns ++ [[V.int .i64 ((vd B (r % 3) : Nat) : Int)]] = ints (ns ++ [((vd B (r % 3) : Nat) : Int)]) := by rw [ints_append]; rfl
   rw [dlt hlt, vals_get, vals_in, hf, hroom, e1, wrap_succ (show i < 2 ^ 61 by omega), e2]
   simp only [cond_true, Bool.and_self, grd, Option.bind_some]
   rw [rleq_loop2 call n rec1 hP B N k ka na xa kb nb xb σ ha hb m (i + 1) (r / 3) _ (by omega) (by omega) (by omega) (by simp [hn])]
   have e3 : P.length - i = (P.length - (i + 1)) + 1 := by omega
   have e4 : (ns ++ [((vd B (r % 3) : Nat) : Int)]) ++ nsV B (P.length - (i + 1)) (r / 3) = ns ++ nsV B (P.length - i) r := by
    rw [e3, List.append_assoc]; rfl
   rw [e4]
  ·have e0 : P.length - i = 0 := by omega
   have e1 : ns ++ nsV B (P.length - i) r = ns := by rw [e0]; exact List.append_nil _
   have hl : ns.length = P.length := by omega
   rw [dnlt hlt, e1]
   simp only [cond_false, callK_ret1 (ha ns hl), callK_ret1 (hb ns hl), List.getD_cons_zero, V.asInt, if_true, Option.bind_some]
open Classical in
theorem rleq_loop1 (call : CallF) (n : Nat) {P : List ByteArray} (hP : P.length ≤ 6) (hn : 7 ≤ n) (B : Nat) {N : Nat} (hN : N < 2 ^ 60) (ka : Int) (na : ByteArray) (xa : List (List V)) (kb : Int) (nb : ByteArray) (xb : List (List V)) (σ : Sto) {wa wb : List Int → Int}
  (ha : ∀ ns : List Int, ns.length = P.length → call 88 [(.agg [.int .i64 ka, .str na, .slice 3 44 xa], false), (.slice 1 9 (strs P), false), (.slice 1 3 (ints ns), false)] σ = some (.ret [(.int .i64 (wa ns), false)], σ))
  (hb : ∀ ns : List Int, ns.length = P.length → call 88 [(.agg [.int .i64 kb, .str nb, .slice 3 44 xb], false), (.slice 1 9 (strs P), false), (.slice 1 3 (ints ns), false)] σ = some (.ret [(.int .i64 (wb ns), false)], σ)) :
  ∀ (m k : Nat), k ≤ N → N - k < m →
   rleql1 call n m (.slice 1 9 (strs P)) (ints [0, 1, (B : Int)]) N k ka na xa kb nb xb σ = some (.ret [(.bool (decide (∀ j, k ≤ j → j < N → wa (nsV B P.length j) ≤ wb (nsV B P.length j))), false)], σ)
 | 0, k, _, hm => by omega
 | m + 1, k, hk, hm => by
  show rleqs1 call (rleql2 call n (rleql1 call n m) n) (rleql1 call n m) _ _ _ _ _ _ _ _ _ _ σ = _
  unfold rleqs1
  by_cases hlt : k < N
  ·rw [dlt hlt]
   simp only [cond_true]
   have h2 := rleq_loop2 call n (rleql1 call n m) hP B N k ka na xa kb nb xb σ ha hb n 0 k [] (Nat.zero_le _) (by omega) (by omega) rfl
   have h2' : rleql2 call n (rleql1 call n m) n (.slice 1 9 (strs P)) (ints [0, 1, (B : Int)]) N k [] k (0 : Int) ka na xa kb nb xb σ = bif decide (wa (nsV B P.length k) > wb (nsV B P.length k)) then some (.ret [(.bool false, false)], σ) else rleql1 call n m (.slice 1 9 (strs P)) (ints [0, 1, (B : Int)]) N (IntKind.wrap .i64 ((k : Int) + 1)) ka na xa kb nb xb σ := h2
   rw [h2', wrap_succ (show k < 2 ^ 61 by omega), rleq_loop1 call n hP hn B hN ka na xa kb nb xb σ ha hb m (k + 1) (by omega) (by omega)]
   by_cases hg : wa (nsV B P.length k) > wb (nsV B P.length k)
   ·rw [decide_eq_true hg, cond_true]
    have : ¬ ∀ j, k ≤ j → j < N → wa (nsV B P.length j) ≤ wb (nsV B P.length j) := fun h => by have := h k (Nat.le_refl _) hlt; omega
    rw [decide_eq_false this]
   ·rw [decide_eq_false hg, cond_false]
    have e : (∀ j, k + 1 ≤ j → j < N → wa (nsV B P.length j) ≤ wb (nsV B P.length j)) ↔ ∀ j, k ≤ j → j < N → wa (nsV B P.length j) ≤ wb (nsV B P.length j) :=
     ⟨fun h j h1 h2 => by
      rcases Nat.lt_or_ge k j with h3 | h3
      ·exact h j h3 h2
      ·obtain rfl : j = k := by omega
       omega, fun h j h1 h2 => h j (by omega) h2⟩
    rw [show decide (∀ j, k + 1 ≤ j → j < N → wa (nsV B P.length j) ≤ wb (nsV B P.length j)) = decide (∀ j, k ≤ j → j < N → wa (nsV B P.length j) ≤ wb (nsV B P.length j)) from decide_eq_decide.2 e]
  ·rw [dnlt hlt, cond_false]
   have : ∀ j, k ≤ j → j < N → wa (nsV B P.length j) ≤ wb (nsV B P.length j) := fun j h1 h2 => by omega
   rw [decide_eq_true this]
theorem rleq_loop0 (call : CallF) (n : Nat) {P : List ByteArray} (hP : P.length ≤ 6) (vs : List (List V)) (ka : Int) (na : ByteArray) (xa : List (List V)) (kb : Int) (nb : ByteArray) (xb : List (List V)) (σ : Sto) :
  ∀ (m i all : Nat), i ≤ P.length → P.length - i < m → all ≤ 3 ^ i →
   rleql0 call n m (.slice 1 9 (strs P)) vs all i ka na xa kb nb xb σ = rleql1 call n n (.slice 1 9 (strs P)) vs ((all * 3 ^ (P.length - i) : Nat) : Int) (0 : Int) ka na xa kb nb xb σ
 | 0, i, _, _, hm, _ => by omega
 | m + 1, i, all, hi, hm, ha => by
  show rleqs0 call (rleql1 call n n) (rleql0 call n m) _ _ _ _ _ _ _ _ _ _ σ = _
  unfold rleqs0
  have hsl : V.asSlice (.slice 1 9 (strs P)) 1 9 = some (strs P) := rfl
  rw [hsl, Option.bind_some, strs_length]
  by_cases hlt : i < P.length
  ·have h3 : 3 ^ i ≤ 3 ^ 6 := Nat.pow_le_pow_right (by omega) (by omega)
   have e1 : IntKind.wrap .i64 ((all : Int) * (3 : Int)) = ((all * 3 : Nat) : Int) := by
    rw [show (all : Int) * (3 : Int) = ((all * 3 : Nat) : Int) from rfl]
    exact wrap_nat (by omega)
   rw [dlt hlt, cond_true, e1, wrap_succ (show i < 2 ^ 61 by omega), rleq_loop0 call n hP vs ka na xa kb nb xb σ m (i + 1) _ (by omega) (by omega) (by rw [Nat.pow_succ]; omega)]
   have e2 : P.length - i = (P.length - (i + 1)) + 1 := by omega
   rw [e2, Nat.pow_succ, Nat.mul_assoc, Nat.mul_comm 3]
  ·have e0 : P.length - i = 0 := by omega
   rw [dnlt hlt, cond_false, e0]
   simp
open Classical in
theorem rleq_law {a b : Lv} (ha : a.size < 2 ^ 31) (hb : b.size < 2 ^ 31) (hP : (rparamsV b (rparamsV a [])).length ≤ 6) (σ : Sto) :
  lim C 81 [(.agg [.int .i64 a.kind, .str a.name, .slice 3 44 a.args], false), (.agg [.int .i64 b.kind, .str b.name, .slice 3 44 b.args], false)] σ = some (.ret [(.bool (decide (a.Leq b)), false)], σ) :=
 rleq_lim (n := 1000) <| by
  have sa := sucs_size a
  have sb := sucs_size b
  have la := rparamsV_length a []
  have h1 := rparams_law σ a [] (by simp; omega)
  have h2 := rparams_law σ b (rparamsV a []) (by simp at la; omega)
  have h3 := succs_law σ a (by omega)
  have h4 := succs_law σ b (by omega)
  generalize hPd : rparamsV b (rparamsV a []) = P at hP h2
  have inA : ∀ s ∈ a.pars, s ∈ P := fun s hs => by rw [← hPd, rparams_mem, rparams_mem]; exact .inl (.inr hs)
  have inB : ∀ s ∈ b.pars, s ∈ P := fun s hs => by rw [← hPd, rparams_mem]; exact .inr hs
  have h1' : lim C 46 [(.agg [.int .i64 a.kind, .str a.name, .slice 3 44 a.args], false), (.slice 1 9 [], true)] σ = some (.ret [(.slice 1 9 (strs (rparamsV a [])), true)], σ) := h1
  have e1 : IntKind.wrap .i64 (IntKind.wrap .i64 ((2 : Int) + (a.sucs : Int)) + (b.sucs : Int)) = ((2 + a.sucs + b.sucs : Nat) : Int) := by
   rw [show IntKind.wrap .i64 ((2 : Int) + (a.sucs : Int)) = ((2 + a.sucs : Nat) : Int) from wrap_add (a := 2) (by omega)]
   exact wrap_add (by omega)
  have e2 : ([[V.int .i64 (0 : Int)], [V.int .i64 (1 : Int)], [V.int .i64 ((2 + a.sucs + b.sucs : Nat) : Int)]] : List (List V)) = ints [0, 1, ((2 + a.sucs + b.sucs : Nat) : Int)] := rfl
  simp only [rleq, rleqF, callK_ret1 h1', callK_ret1 h2, callK_ret1 h3, callK_ret1 h4, List.getD_cons_zero, Bool.and_self, grd, cond_true, Option.bind_some, V.asInt, if_true, e1, e2]
  have h5 := rleq_loop0 (lim C) 1000 hP (ints [0, 1, ((2 + a.sucs + b.sucs : Nat) : Int)]) a.kind a.name a.args b.kind b.name b.args σ 1000 0 1 (Nat.zero_le _) (by omega) (by simp)
  have h3' : 3 ^ P.length ≤ 3 ^ 6 := Nat.pow_le_pow_right (by omega) hP
  have h6 := rleq_loop1 (lim C) 1000 hP (by omega) (2 + a.sucs + b.sucs) (N := 1 * 3 ^ (P.length - 0)) (by simp only [Nat.sub_zero, Nat.one_mul]; omega) a.kind a.name a.args b.kind b.name b.args σ
   (fun ns hl => rworth_law hl.symm (by omega) σ a false false) (fun ns hl => rworth_law hl.symm (by omega) σ b false false) 1000 0 (Nat.zero_le _) (by simp only [Nat.sub_zero, Nat.one_mul]; omega)
  refine (h5.trans h6).trans ?_
  have h7 := tests_iff inA inB (by omega)
  have h8 : (∀ j, 0 ≤ j → j < 1 * 3 ^ (P.length - 0) → rworthV P (nsV (2 + a.sucs + b.sucs) P.length j) a ≤ rworthV P (nsV (2 + a.sucs + b.sucs) P.length j) b) ↔ a.Leq b := by
   rw [← h7]
   simp only [Nat.zero_le, forall_const, Nat.sub_zero, Nat.one_mul]
  rw [show decide (∀ j, 0 ≤ j → j < 1 * 3 ^ (P.length - 0) → rworthV P (nsV (2 + a.sucs + b.sucs) P.length j) a ≤ rworthV P (nsV (2 + a.sucs + b.sucs) P.length j) b) = decide (a.Leq b) from decide_eq_decide.2 h8]
open Classical in
theorem rsame_law {a b : Lv} (ha : a.size < 2 ^ 31) (hb : b.size < 2 ^ 31) (hP : (rparamsV a (rparamsV b [])).length ≤ 6) (σ : Sto) :
  lim C 65 [(.agg [.int .i64 a.kind, .str a.name, .slice 3 44 a.args], false), (.agg [.int .i64 b.kind, .str b.name, .slice 3 44 b.args], false)] σ = some (.ret [(.bool (decide (a.Leq b) && decide (b.Leq a)), false)], σ) :=
 rsame_lim (n := 0) <| by
  have h1 := rleq_law ha hb (Nat.le_trans (params_len a b) hP) σ
  have h2 := rleq_law hb ha hP σ
  simp only [rsame, rsameF, callK_ret1 h1, callK_ret1 h2, List.getD_cons_zero, V.asBool, Option.bind_some]
  cases decide (a.Leq b) <;> rfl
end Go.Ab.Mk
end
