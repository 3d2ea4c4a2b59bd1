/- What only counts parts hands back a number; the parameters of a term. -/
import Derived.Test.YtifoglinlcfelaaDoorAbMk2
import Derived.Test.YtifoglinlcfelaaDoorAbMa1
import Derived.Test.YtifoglinlcfelaaDoorLvG
set_option linter.unusedSimpArgs false
set_option linter.unusedVariables false
set_option linter.deprecated false
section
set_option maxRecDepth 100000
namespace Go.Ab.Mb
open Go.Proofs Go.Ab
open List (getD)
open IntKind (wrap)
noncomputable def tmapF (call : CallF) (b c : Int) (d : ByteArray) (e f : LL) (g : V) (σ : Sto) : Option Res :=
 callK call 42 [(V.agg [V.int .i64 b, V.int .i64 c, V.str d, V.slice 3 74 e, V.slice 5 29 f], false), ((V.int .i64 (0 : Int)), false), (g, false)] σ 1 (fun a h =>
 (grd (V.fits (getD a 0 cellD).1 true 5)).bind fun _ =>
 some (.ret [(V.agg [V.cell (getD a 0 cellD).1 0, V.cell (getD a 0 cellD).1 1, V.cell (getD a 0 cellD).1 2, V.cell (getD a 0 cellD).1 3, V.cell (getD a 0 cellD).1 4], false)], h)) pnK
noncomputable def tmap (call : CallF) (n : Nat) (a b : Int) (c : ByteArray) (d e : LL) (f : V) (σ : Sto) : Option Res := tmapF call a b c d e f σ
theorem tmap_eqF (call : CallF) (n : Nat) (a b : Int) (c : ByteArray) (d e : LL) (f : V) (σ : Sto) : afun C tmapD call n [(V.agg [V.int .i64 a, V.int .i64 b, V.str c, V.slice 3 74 d, V.slice 5 29 e], false), (f, false)] σ =
  tmapF call a b c d e f σ := by kernel_rfl
theorem tmap_eq (call : CallF) (n : Nat) (a b : Int) (c : ByteArray) (d e : LL) (f : V) (σ : Sto) : afun C tmapD call n [(V.agg [V.int .i64 a, V.int .i64 b, V.str c, V.slice 3 74 d, V.slice 5 29 e], false), (f, false)] σ = tmap call n a b c d e f σ := tmap_eqF call n a b c d e f σ
theorem tmap_lim {n : Nat} {a : Int} {b : Int} {c : ByteArray} {e : LL} {f : LL} {g : V} {b0 b1 : Bool} {σ : Sto} {r : Res} (h : tmap (lim C) n a b c e f g σ = some r) : lim C 22 [(V.agg [V.int .i64 a, V.int .i64 b, V.str c, V.slice 3 74 e, V.slice 5 29 f], b0), (g, b1)] σ = some r :=
 lim_of (d := tmapD) (by kernel_rfl) (by kernel_rfl) n (show afun C tmapD (lim C) n [(V.agg [V.int .i64 a, V.int .i64 b, V.str c, V.slice 3 74 e, V.slice 5 29 f], false), (g, false)] σ = some r from (tmap_eq (lim C) n a b c e f g σ).trans h)
noncomputable def tliftF (call : CallF) (d e : Int) (f : ByteArray) (g h : LL) (b c : Int) (σ : Sto) : Option Res :=
 (memGet ((σ ++ [[(V.int .i64 b, false)]]) ++ [[(V.int .i64 c, false)]]) (V.ptr 3 (List.length σ) 0) false 1).bind fun m1 =>
 (V.asInt m1 .i64).bind fun i2 =>
 bif (i2 == (0 : Int)) then
 some (.ret [(V.agg [V.int .i64 d, V.int .i64 e, V.str f, V.slice 3 74 g, V.slice 5 29 h], false)], ((σ ++ [[(V.int .i64 b, false)]]) ++ [[(V.int .i64 c, false)]]))
 else
 callK call 22 [(V.agg [V.int .i64 d, V.int .i64 e, V.str f, V.slice 3 74 g, V.slice 5 29 h], false), ((V.func (.func 23) [] [V.ptr 3 (List.length (σ ++ [[(V.int .i64 b, false)]])) 0, V.ptr 3 (List.length σ) 0]), false)] ((σ ++ [[(V.int .i64 b, false)]]) ++ [[(V.int .i64 c, false)]]) 1 (fun a i =>
 (grd (V.fits (getD a 0 cellD).1 true 5)).bind fun _ =>
 some (.ret [(V.agg [V.cell (getD a 0 cellD).1 0, V.cell (getD a 0 cellD).1 1, V.cell (getD a 0 cellD).1 2, V.cell (getD a 0 cellD).1 3, V.cell (getD a 0 cellD).1 4], false)], i)) pnK
noncomputable def tlift (call : CallF) (n : Nat) (a b : Int) (c : ByteArray) (d e : LL) (f g : Int) (σ : Sto) : Option Res := tliftF call a b c d e f g σ
theorem tlift_eqF (call : CallF) (n : Nat) (a b : Int) (c : ByteArray) (d e : LL) (f g : Int) (σ : Sto) : afun C tliftD call n [(V.agg [V.int .i64 a, V.int .i64 b, V.str c, V.slice 3 74 d, V.slice 5 29 e], false), (V.int .i64 f, false), (V.int .i64 g, false)] σ =
  tliftF call a b c d e f g σ := by kernel_rfl
theorem tlift_eq (call : CallF) (n : Nat) (a b : Int) (c : ByteArray) (d e : LL) (f g : Int) (σ : Sto) : afun C tliftD call n [(V.agg [V.int .i64 a, V.int .i64 b, V.str c, V.slice 3 74 d, V.slice 5 29 e], false), (V.int .i64 f, false), (V.int .i64 g, false)] σ = tlift call n a b c d e f g σ := tlift_eqF call n a b c d e f g σ
theorem tlift_lim {n : Nat} {a : Int} {b : Int} {c : ByteArray} {e : LL} {f : LL} {g : Int} {i : Int} {b0 b1 b2 : Bool} {σ : Sto} {r : Res} (h : tlift (lim C) n a b c e f g i σ = some r) : lim C 10 [(V.agg [V.int .i64 a, V.int .i64 b, V.str c, V.slice 3 74 e, V.slice 5 29 f], b0), (V.int .i64 g, b1), (V.int .i64 i, b2)] σ = some r :=
 lim_of (d := tliftD) (by kernel_rfl) (by kernel_rfl) n (show afun C tliftD (lim C) n [(V.agg [V.int .i64 a, V.int .i64 b, V.str c, V.slice 3 74 e, V.slice 5 29 f], false), (V.int .i64 g, false), (V.int .i64 i, false)] σ = some r from (tlift_eq (lim C) n a b c e f g i σ).trans h)
noncomputable def inst1F (call : CallF) (e a : Int) (f : ByteArray) (g h : LL) (b : Int) (d : Nat) (σ : Sto) : Option Res :=
 bif (decide ((wrap .i64 (a - b)) < (0 : Int))) then
 some (.ret [(V.agg [V.int .i64 e, V.int .i64 a, V.str f, V.slice 3 74 g, V.slice 5 29 h], false)], σ)
 else
 (memGet σ (V.ptr 27 d 0) false 1).bind fun m1 =>
 (V.asSlice m1 5 29).bind fun l2 =>
 bif (decide ((wrap .i64 (a - b)) < (l2.length : Int))) then
 (memGet σ (V.ptr 27 d 0) false 1).bind fun m3 =>
 (memGet σ (V.ptr 27 d 0) false 1).bind fun m4 =>
 (V.asSlice m4 5 29).bind fun l5 =>
 (V.asSlice m3 5 29).bind fun l6 =>
 (grd (decide (0 ≤ (wrap .i64 ((wrap .i64 ((l5.length : Int) - (1 : Int))) - (wrap .i64 (a - b))))) && decide ((wrap .i64 ((wrap .i64 ((l5.length : Int) - (1 : Int))) - (wrap .i64 (a - b)))) < l6.length))).bind fun _ =>
 callK call 10 [((V.agg [(getD (getD l6 (Int.toNat (wrap .i64 ((wrap .i64 ((l5.length : Int) - (1 : Int))) - (wrap .i64 (a - b))))) []) 0 V.any), (getD (getD l6 (Int.toNat (wrap .i64 ((wrap .i64 ((l5.length : Int) - (1 : Int))) - (wrap .i64 (a - b))))) []) 1 V.any), (getD (getD l6 (Int.toNat (wrap .i64 ((wrap .i64 ((l5.length : Int) - (1 : Int))) - (wrap .i64 (a - b))))) []) 2 V.any), (getD (getD l6 (Int.toNat (wrap .i64 ((wrap .i64 ((l5.length : Int) - (1 : Int))) - (wrap .i64 (a - b))))) []) 3 V.any), (getD (getD l6 (Int.toNat (wrap .i64 ((wrap .i64 ((l5.length : Int) - (1 : Int))) - (wrap .i64 (a - b))))) []) 4 V.any)]), false), (V.int .i64 b, false), ((V.int .i64 (0 : Int)), false)] σ 1 (fun c i =>
 (grd (V.fits (getD c 0 cellD).1 true 5)).bind fun _ =>
 some (.ret [(V.agg [V.cell (getD c 0 cellD).1 0, V.cell (getD c 0 cellD).1 1, V.cell (getD c 0 cellD).1 2, V.cell (getD c 0 cellD).1 3, V.cell (getD c 0 cellD).1 4], false)], i)) pnK
 else
 (memGet σ (V.ptr 27 d 0) false 1).bind fun m10 =>
 (V.asSlice m10 5 29).bind fun l11 =>
 some (.ret [((V.agg [V.int .i64 e, (V.int .i64 (wrap .i64 (a - (l11.length : Int)))), V.str f, V.slice 3 74 g, V.slice 5 29 h]), false)], σ)
noncomputable def inst1 (call : CallF) (n : Nat) (a b : Int) (c : ByteArray) (d e : LL) (f : Int) (g : Nat) (σ : Sto) : Option Res := inst1F call a b c d e f g σ
theorem inst1_eqF (call : CallF) (n : Nat) (a b : Int) (c : ByteArray) (d e : LL) (f : Int) (g : Nat) (σ : Sto) : afun C inst1D call n [(V.agg [V.int .i64 a, V.int .i64 b, V.str c, V.slice 3 74 d, V.slice 5 29 e], false), (V.int .i64 f, false), (V.ptr 27 g 0, false)] σ =
  inst1F call a b c d e f g σ := by kernel_rfl
theorem inst1_eq (call : CallF) (n : Nat) (a b : Int) (c : ByteArray) (d e : LL) (f : Int) (g : Nat) (σ : Sto) : afun C inst1D call n [(V.agg [V.int .i64 a, V.int .i64 b, V.str c, V.slice 3 74 d, V.slice 5 29 e], false), (V.int .i64 f, false), (V.ptr 27 g 0, false)] σ = inst1 call n a b c d e f g σ := inst1_eqF call n a b c d e f g σ
theorem inst1_lim {n : Nat} {a : Int} {b : Int} {c : ByteArray} {e : LL} {f : LL} {g : Int} {i : Nat} {b0 b1 b2 : Bool} {σ : Sto} {r : Res} (h : inst1 (lim C) n a b c e f g i σ = some r) : lim C 41 [(V.agg [V.int .i64 a, V.int .i64 b, V.str c, V.slice 3 74 e, V.slice 5 29 f], b0), (V.int .i64 g, b1), (V.ptr 27 i 0, b2)] σ = some r :=
 lim_of (d := inst1D) (by kernel_rfl) (by kernel_rfl) n (show afun C inst1D (lim C) n [(V.agg [V.int .i64 a, V.int .i64 b, V.str c, V.slice 3 74 e, V.slice 5 29 f], false), (V.int .i64 g, false), (V.ptr 27 i 0, false)] σ = some r from (inst1_eq (lim C) n a b c e f g i σ).trans h)
end Go.Ab.Mb
end
section
namespace Go.Ab.Mk
open Go.Proofs Go.Ab Go.Proofs.Mk
def Tm.depth : Tm → Nat
 | .app a b => max a.depth b.depth + 1
 | .lam a b => max a.depth b.depth + 1
 | .pi a b => max a.depth b.depth + 1
 | .letin a b c => max a.depth (max b.depth c.depth) + 1
 | _ => 0
def Tm.top : Tm → Nat
 | .var n => n
 | .app a b => max a.top b.top
 | .lam a b => max a.top b.top
 | .pi a b => max a.top b.top
 | .letin a b c => max a.top (max b.top c.top)
 | _ => 0
def liftT (n : Nat) : Tm → Nat → Tm
 | .var m, k => if k ≤ m then .var (m + n) else .var m
 | .sort l, _ => .sort l
 | .const s ls, _ => .const s ls
 | .app a b, k => .app (liftT n a k) (liftT n b k)
 | .lam a b, k => .lam (liftT n a k) (liftT n b (k + 1))
 | .pi a b, k => .pi (liftT n a k) (liftT n b (k + 1))
 | .letin a b c, k => .letin (liftT n a k) (liftT n b k) (liftT n c (k + 1))
def substT (v : Tm) : Tm → Nat → Tm
 | .var m, k => if m = k then liftT k v 0 else if k < m then .var (m - 1) else .var m
 | .sort l, _ => .sort l
 | .const s ls, _ => .const s ls
 | .app a b, k => .app (substT v a k) (substT v b k)
 | .lam a b, k => .lam (substT v a k) (substT v b (k + 1))
 | .pi a b, k => .pi (substT v a k) (substT v b (k + 1))
 | .letin a b c, k => .letin (substT v a k) (substT v b k) (substT v c (k + 1))
theorem lift_zero : ∀ (t : Tm) (k : Nat), liftT 0 t k = t
 | .var m, k => by simp only [liftT]; split <;> rfl
 | .sort l, _ => rfl
 | .const s ls, _ => rfl
 | .app a b, k => by rw [liftT, lift_zero a, lift_zero b]
 | .lam a b, k => by rw [liftT, lift_zero a, lift_zero b]
 | .pi a b, k => by rw [liftT, lift_zero a, lift_zero b]
 | .letin a b c, k => by rw [liftT, lift_zero a, lift_zero b, lift_zero c]
theorem grd_ok {d : Nat} (h : d < 2 ^ 60) : grd (decide (0 ≤ (d : Int)) && decide ((d : Int) < 2 ^ 60)) = some () := by
 rw [show (decide (0 ≤ (d : Int)) && decide ((d : Int) < 2 ^ 60)) = true by simp; omega]
 rfl
theorem cells5_tm (t : Tm) : cells5 t.val = some t.enc := by rw [t.enc_eq]; rfl
theorem mem1 {σ : Sto} {b : Nat} {v : V} {o : Bool} (h : σ[b]? = some [(v, o)]) (t : TypeId) : memGet σ (.ptr t b 0) false 1 = some v := by simp [memGet, h, gather]
theorem walk_lift {σ : Sto} {bf bn n f : Nat} (hf : σ[bf]? = some [(.int .i64 f, false)]) (hn : σ[bn]? = some [(.int .i64 n, false)]) (hnb : n < 2 ^ 50) (hfb : f < 2 ^ 50) :
  ∀ (t : Tm) (d : Nat), t.top < 2 ^ 50 → d + t.depth < 2 ^ 50 → walkV (lim Ma.C) 23 [.ptr 3 bf 0, .ptr 3 bn 0] t d σ = some ((liftT n t (f + d)).enc, σ)
 | .var m, d, ht, hd => by
  simp only [Tm.top] at ht
  simp only [Tm.depth] at hd
  have h1 : lim Ma.C 23 [((Tm.var m).val, false), (.int .i64 d, false), (.ptr 3 bf 0, false), (.ptr 3 bn 0, false)] σ = some (.ret [((liftT n (.var m) (f + d)).val, false)], σ) := Ma.lift1_lim (n := 0) <| by
   have w1 : IntKind.wrap .i64 ((f : Int) + (d : Int)) = ((f + d : Nat) : Int) := wrap_add (by omega)
   have w2 : IntKind.wrap .i64 ((m : Int) + (n : Int)) = ((m + n : Nat) : Int) := wrap_add (by omega)
   have w3 : IntKind.wrap .i64 (((Tm.var m).num : Int) + (n : Int)) = ((m + n : Nat) : Int) := w2
   simp only [Ma.lift1, Ma.lift1F, mem1 hf, mem1 hn, Option.bind_some, V.asInt, if_true, w1, w3, liftT]
   by_cases hk : f + d ≤ m
   ·rw [if_pos hk, show decide (((Tm.var m).num : Int) ≥ ((f + d : Nat) : Int)) = true by simp [Tm.num]; omega]; rfl
   ·rw [if_neg hk, show decide (((Tm.var m).num : Int) ≥ ((f + d : Nat) : Int)) = false by simp [Tm.num]; omega]; rfl
  unfold walkV
  simp only [List.map_cons, List.map_nil, List.cons_append, List.nil_append, h1, cells5_tm, Option.bind_some]
 | .sort l, d, _, _ => rfl
 | .const s ls, d, _, _ => rfl
 | .app a b, d, ht, hd => by
  simp only [Tm.top] at ht
  simp only [Tm.depth] at hd
  rw [walkV, walk_lift hf hn hnb hfb a d (by omega) (by omega), Option.bind_some, walk_lift hf hn hnb hfb b d (by omega) (by omega)]
  rfl
 | .lam a b, d, ht, hd => by
  simp only [Tm.top] at ht
  simp only [Tm.depth] at hd
  rw [walkV, walk_lift hf hn hnb hfb a d (by omega) (by omega), Option.bind_some, grd_ok (by omega), Option.bind_some, show ((d : Int) + 1) = ((d + 1 : Nat) : Int) by omega, walk_lift hf hn hnb hfb b (d + 1) (by omega) (by omega)]
  rfl
 | .pi a b, d, ht, hd => by
  simp only [Tm.top] at ht
  simp only [Tm.depth] at hd
  rw [walkV, walk_lift hf hn hnb hfb a d (by omega) (by omega), Option.bind_some, grd_ok (by omega), Option.bind_some, show ((d : Int) + 1) = ((d + 1 : Nat) : Int) by omega, walk_lift hf hn hnb hfb b (d + 1) (by omega) (by omega)]
  rfl
 | .letin a b c, d, ht, hd => by
  simp only [Tm.top] at ht
  simp only [Tm.depth] at hd
  rw [walkV, walk_lift hf hn hnb hfb a d (by omega) (by omega), Option.bind_some, walk_lift hf hn hnb hfb b d (by omega) (by omega), Option.bind_some, grd_ok (by omega), Option.bind_some, show ((d : Int) + 1) = ((d + 1 : Nat) : Int) by omega, walk_lift hf hn hnb hfb c (d + 1) (by omega) (by omega)]
  rfl
theorem tlift_lawB (t : Tm) {n f : Nat} (ht : t.top < 2 ^ 50) (hd : t.depth < 2 ^ 49) (hnb : n < 2 ^ 50) (hfb : f < 2 ^ 50) (σ : Sto) :
  ∃ τ, lim Mb.C 10 [(t.val, false), (.int .i64 n, false), (.int .i64 f, false)] σ = some (.ret [((liftT n t f).val, false)], σ ++ τ) := by
 refine ⟨[[(.int .i64 n, false)], [(.int .i64 f, false)]], Mb.tlift_lim (n := 0) ?_⟩
 have e1 : (σ ++ [[((V.int .i64 n), false)]]) ++ [[((V.int .i64 f), false)]] = σ ++ [[(.int .i64 n, false)], [(.int .i64 f, false)]] := by simp
 have hn : (σ ++ [[((V.int .i64 n), false)], [((V.int .i64 f), false)]])[σ.length]? = some [(.int .i64 n, false)] := by simp
 have hf : (σ ++ [[((V.int .i64 n), false)], [((V.int .i64 f), false)]])[(σ ++ [[((V.int .i64 n), false)]]).length]? = some [(.int .i64 f, false)] := by simp
 have h1 := walkS_eq (o1 := false) (o2 := false) (o3 := false) (walk_lift hf hn hnb hfb t 0 ht (by omega))
 have h2 : lim Mb.C 22 [(t.val, false), (.func (.func 23) [] [.ptr 3 (σ ++ [[((V.int .i64 n), false)]]).length 0, .ptr 3 σ.length 0], false)] (σ ++ [[((V.int .i64 n), false)], [((V.int .i64 f), false)]]) = some (.ret [((liftT n t f).val, false)], σ ++ [[((V.int .i64 n), false)], [((V.int .i64 f), false)]]) := Mb.tmap_lim (n := 0) <| by
  have h3 := lim_ext (C := Mb.C) (f := 42) (s := walkS (lim Ma.C)) (by kernel_rfl) h1
  rw [Nat.add_zero, ← tval_enc] at h3
  simp only [Mb.tmap, Mb.tmapF]
  refine (callK_ret1 h3).trans ?_
  rfl
 simp only [Mb.tlift, Mb.tliftF, e1, mem1 hn, Option.bind_some, V.asInt, if_true]
 by_cases h0 : n = 0
 ·subst h0
  rw [lift_zero]
  rfl
 ·rw [show ((n : Int) == 0) = false by simp; omega, cond_false]
  refine (callK_ret1 h2).trans ?_
  rfl
end Go.Ab.Mk
end
section
namespace Go.Ab.Mk
open Go.Proofs Go.Ab Go.Proofs.Mk
theorem wrap_sm {x : Int} (h0 : -(2 ^ 62) ≤ x) (h1 : x < 2 ^ 62) : IntKind.wrap .i64 x = x := by
 unfold IntKind.wrap
 simp [IntKind.bits, IntKind.signed] <;> omega
theorem tm_readB (t : Tm) : V.agg [t.enc.getD 0 V.any, t.enc.getD 1 V.any, t.enc.getD 2 V.any, t.enc.getD 3 V.any, t.enc.getD 4 V.any] = t.val := by rw [t.enc_eq]; rfl
theorem inst1_law {v : Tm} (hv : v.top < 2 ^ 50) (hvd : v.depth < 2 ^ 49) {bv m d : Nat} (hm : m < 2 ^ 50) (hd : d < 2 ^ 50) {σ : Sto} (hb : σ[bv]? = some [(.slice 5 29 [v.enc], false)]) :
  ∃ τ, lim Mb.C 41 [((Tm.var m).val, false), (.int .i64 d, false), (.ptr 27 bv 0, false)] σ = some (.ret [((substT v (.var m) d).val, false)], σ ++ τ) := by
 have w1 : IntKind.wrap .i64 (((Tm.var m).num : Int) - (d : Int)) = (m : Int) - (d : Int) := wrap_sm (by simp only [Tm.num]; omega) (by simp only [Tm.num]; omega)
 by_cases h1 : m < d
 ·refine ⟨[], Mb.inst1_lim (n := 0) ?_⟩
  simp only [Mb.inst1, Mb.inst1F, w1]
  rw [show decide ((m : Int) - (d : Int) < 0) = true by simp; omega, cond_true, List.append_nil, substT, if_neg (by omega), if_neg (by omega)]
  rfl
 ·have hl : ((List.length [v.enc] : Nat) : Int) = 1 := rfl
  by_cases h2 : m = d
  ·subst h2
   obtain ⟨τ, hτ⟩ := tlift_lawB v hv hvd hd (f := 0) (by omega) σ
   refine ⟨τ, Mb.inst1_lim (n := 0) ?_⟩
   have hs : V.asSlice (.slice 5 29 [v.enc]) 5 29 = some [v.enc] := rfl
   have w2 : IntKind.wrap .i64 (IntKind.wrap .i64 ((1 : Int) - 1) - ((m : Int) - (m : Int))) = 0 := by rw [show ((m : Int) - (m : Int)) = 0 by omega]; rfl
   simp only [Mb.inst1, Mb.inst1F, w1, mem1 hb, Option.bind_some, hs, hl, w2]
   rw [show decide ((m : Int) - (m : Int) < 0) = false by simp, show decide ((m : Int) - (m : Int) < 1) = true by simp, cond_false, cond_true]
   have hg : V.agg [List.getD (List.getD [v.enc] (Int.toNat 0) []) 0 V.any, List.getD (List.getD [v.enc] (Int.toNat 0) []) 1 V.any, List.getD (List.getD [v.enc] (Int.toNat 0) []) 2 V.any, List.getD (List.getD [v.enc] (Int.toNat 0) []) 3 V.any, List.getD (List.getD [v.enc] (Int.toNat 0) []) 4 V.any] = v.val := tm_readB v
   rw [hg]
   simp only [show (decide ((0 : Int) ≤ 0) && decide ((0 : Int) < 1)) = true from rfl, grd, cond_true, Option.bind_some, substT, if_true]
   refine (callK_ret1 hτ).trans ?_
   rfl
  ·refine ⟨[], Mb.inst1_lim (n := 0) ?_⟩
   have hs : V.asSlice (.slice 5 29 [v.enc]) 5 29 = some [v.enc] := rfl
   have w3 : IntKind.wrap .i64 (((Tm.var m).num : Int) - 1) = ((m - 1 : Nat) : Int) := by rw [wrap_sm (by simp only [Tm.num]; omega) (by simp only [Tm.num]; omega)]; simp only [Tm.num]; omega
   simp only [Mb.inst1, Mb.inst1F, w1, mem1 hb, Option.bind_some, hs, hl, w3]
   rw [show decide ((m : Int) - (d : Int) < 0) = false by simp; omega, show decide ((m : Int) - (d : Int) < 1) = false by simp; omega, cond_false, cond_false, List.append_nil, substT, if_neg h2, if_pos (by omega)]
   rfl
theorem at_more {σ τ : Sto} {b : Nat} {x : List Cell} (h : σ[b]? = some x) : (σ ++ τ)[b]? = some x := by rw [List.getElem?_append_left (List.getElem?_eq_some_iff.1 h).1]; exact h
theorem walk_subst {v : Tm} (hv : v.top < 2 ^ 50) (hvd : v.depth < 2 ^ 49) {bv : Nat} :
  ∀ (t : Tm) (d : Nat) (σ : Sto), σ[bv]? = some [(.slice 5 29 [v.enc], false)] → t.top < 2 ^ 50 → d + t.depth < 2 ^ 50 → ∃ τ, walkV (lim Mb.C) 41 [.ptr 27 bv 0] t d σ = some ((substT v t d).enc, σ ++ τ)
 | .var m, d, σ, hb, ht, hd => by
  simp only [Tm.top] at ht
  simp only [Tm.depth] at hd
  obtain ⟨τ, h1⟩ := inst1_law hv hvd ht (show d < 2 ^ 50 by omega) hb
  refine ⟨τ, ?_⟩
  unfold walkV
  simp only [List.map_cons, List.map_nil, List.cons_append, List.nil_append, h1, cells5_tm, Option.bind_some]
 | .sort l, d, σ, _, _, _ => ⟨[], by rw [List.append_nil]; rfl⟩
 | .const s ls, d, σ, _, _, _ => ⟨[], by rw [List.append_nil]; rfl⟩
 | .app a b, d, σ, hb, ht, hd => by
  simp only [Tm.top] at ht
  simp only [Tm.depth] at hd
  obtain ⟨τ1, h1⟩ := walk_subst hv hvd a d σ hb (by omega) (by omega)
  obtain ⟨τ2, h2⟩ := walk_subst hv hvd b d (σ ++ τ1) (at_more hb) (by omega) (by omega)
  refine ⟨τ1 ++ τ2, ?_⟩
  rw [walkV, h1, Option.bind_some, h2, List.append_assoc]
  rfl
 | .lam a b, d, σ, hb, ht, hd => by
  simp only [Tm.top] at ht
  simp only [Tm.depth] at hd
  obtain ⟨τ1, h1⟩ := walk_subst hv hvd a d σ hb (by omega) (by omega)
  obtain ⟨τ2, h2⟩ := walk_subst hv hvd b (d + 1) (σ ++ τ1) (at_more hb) (by omega) (by omega)
  refine ⟨τ1 ++ τ2, ?_⟩
  rw [walkV, h1, Option.bind_some, grd_ok (by omega), Option.bind_some, show ((d : Int) + 1) = ((d + 1 : Nat) : Int) by omega, h2, List.append_assoc]
  rfl
 | .pi a b, d, σ, hb, ht, hd => by
  simp only [Tm.top] at ht
  simp only [Tm.depth] at hd
  obtain ⟨τ1, h1⟩ := walk_subst hv hvd a d σ hb (by omega) (by omega)
  obtain ⟨τ2, h2⟩ := walk_subst hv hvd b (d + 1) (σ ++ τ1) (at_more hb) (by omega) (by omega)
  refine ⟨τ1 ++ τ2, ?_⟩
  rw [walkV, h1, Option.bind_some, grd_ok (by omega), Option.bind_some, show ((d : Int) + 1) = ((d + 1 : Nat) : Int) by omega, h2, List.append_assoc]
  rfl
 | .letin a b c, d, σ, hb, ht, hd => by
  simp only [Tm.top] at ht
  simp only [Tm.depth] at hd
  obtain ⟨τ1, h1⟩ := walk_subst hv hvd a d σ hb (by omega) (by omega)
  obtain ⟨τ2, h2⟩ := walk_subst hv hvd b d (σ ++ τ1) (at_more hb) (by omega) (by omega)
  obtain ⟨τ3, h3⟩ := walk_subst hv hvd c (d + 1) (σ ++ τ1 ++ τ2) (at_more (at_more hb)) (by omega) (by omega)
  refine ⟨τ1 ++ τ2 ++ τ3, ?_⟩
  rw [walkV, h1, Option.bind_some, h2, Option.bind_some, grd_ok (by omega), Option.bind_some, show ((d : Int) + 1) = ((d + 1 : Nat) : Int) by omega, h3, ← List.append_assoc, ← List.append_assoc]
  rfl
theorem tlift_law (t : Tm) {n f : Nat} (ht : t.top < 2 ^ 50) (hd : t.depth < 2 ^ 49) (hnb : n < 2 ^ 50) (hfb : f < 2 ^ 50) (σ : Sto) :
  ∃ τ, lim C 10 [(t.val, false), (.int .i64 n, false), (.int .i64 f, false)] σ = some (.ret [((liftT n t f).val, false)], σ ++ τ) := by
 obtain ⟨τ, h⟩ := tlift_lawB t ht hd hnb hfb σ
 exact ⟨τ, lim_ext (C := C) (f := 10) (s := lim Mb.C 10) (by kernel_rfl) h⟩
theorem tsubst_law (t v : Tm) (ht : t.top < 2 ^ 50) (hd : t.depth < 2 ^ 49) (hv : v.top < 2 ^ 50) (hvd : v.depth < 2 ^ 49) (σ : Sto) :
  ∃ τ, lim C 9 [(t.val, false), (v.val, false)] σ = some (.ret [((substT v t 0).val, false)], σ ++ τ) := by
 have hb : (σ ++ [[((V.slice 5 29 [v.enc]), false)]])[σ.length]? = some [(.slice 5 29 [v.enc], false)] := by simp
 obtain ⟨τ, h1⟩ := walk_subst hv hvd t 0 _ hb ht (by omega)
 have h2 := lim_ext (C := C) (f := 42) (s := walkS (lim Mb.C)) (by kernel_rfl) (walkS_eq (o1 := false) (o2 := false) (o3 := false) h1)
 rw [← tval_enc] at h2
 have h3 : lim C 22 [(t.val, false), (.func (.func 41) [] [.ptr 27 σ.length 0], false)] (σ ++ [[((V.slice 5 29 [v.enc]), false)]]) = some (.ret [((substT v t 0).val, false)], σ ++ [[((V.slice 5 29 [v.enc]), false)]] ++ τ) := tmap_lim (n := 0) <| by
  simp only [tmap, tmapF]
  refine (callK_ret1 h2).trans ?_
  rfl
 have h4 : ∀ o : Bool, lim C 21 [(t.val, false), (.slice 5 29 [v.enc], o)] σ = some (.ret [((substT v t 0).val, false)], σ ++ [[((V.slice 5 29 [v.enc]), false)]] ++ τ) := fun o => inst_lim (n := 0) <| by
  have hs : V.asSlice (.slice 5 29 [v.enc]) 5 29 = some [v.enc] := rfl
  simp only [inst, instF, mem1 hb, Option.bind_some, hs]
  rw [show (((List.length [v.enc] : Nat) : Int) == 0) = false from rfl, cond_false]
  refine (callK_ret1 h3).trans ?_
  rfl
 refine ⟨[[((V.slice 5 29 [v.enc]), false)]] ++ τ, tsubst_lim (n := 0) ?_⟩
 simp only [tsubst, tsubstF]
 have h5 := h4 true
 rw [v.enc_eq] at h5
 refine (callK_ret1 h5).trans ?_
 rw [← List.append_assoc, v.enc_eq]
 rfl
end Go.Ab.Mk
end
section
namespace Go.Ab.Mk
open Go.Proofs Go.Ab Go.Proofs.Mk
def inn (t : Tm) (i k : Nat) : Nat := if 4 ≤ t.kind ∧ i + 1 = t.kids.length then k + 1 else k
def bnd4 (t : Tm) (i : Nat) : Bool := decide (4 ≤ t.kind ∧ i + 1 = t.kids.length)
theorem kids3 (t : Tm) : t.kids.length ≤ 3 := by cases t <;> simp [Tm.kids]
theorem binds_law (t : Tm) (i : Nat) (hi : i < t.kids.length) (σ : Sto) : lim C 36 [(t.val, false), (.int .i64 i, false)] σ = some (.ret [(.bool (bnd4 t i), false)], σ) :=
 binds_lim (n := 0) <| by
  have h3 := kids3 t
  have hl : t.args.length = t.kids.length := by simp [Tm.args]
  have w : IntKind.wrap .i64 ((t.args.length : Int) - 1) = ((t.kids.length - 1 : Nat) : Int) := by rw [hl, wrap_sm (by omega) (by omega)]; omega
  simp only [binds, bindsF, w]
  by_cases hk : 4 ≤ t.kind
  ·rw [show decide (t.kind ≥ 4) = true by simpa using hk, cond_true, beqN]
   have : (i == t.kids.length - 1) = bnd4 t i := by
    unfold bnd4
    by_cases h : i + 1 = t.kids.length
    ·rw [decide_eq_true ⟨hk, h⟩]; simp; omega
    ·rw [decide_eq_false (fun x => h x.2)]; simp; omega
   rw [this]
  ·rw [show decide (t.kind ≥ 4) = false by simp; omega, cond_false, show bnd4 t i = false from decide_eq_false (fun x => hk x.1)]
theorem inn_bnd (t : Tm) (i k : Nat) : inn t i k = bif bnd4 t i then k + 1 else k := by
 unfold inn bnd4
 by_cases h : 4 ≤ t.kind ∧ i + 1 = t.kids.length
 ·rw [if_pos h, decide_eq_true h]; rfl
 ·rw [if_neg h, decide_eq_false h]; rfl
theorem tm_get {L : List Tm} {i : Nat} (h : i < L.length) : (L.map Tm.enc).getD (Int.toNat (i : Int)) [] = L[i].enc := by simp [h]
theorem kid_depth {t c : Tm} (h : c ∈ t.kids) : c.depth + 1 ≤ t.depth ∧ c.top ≤ t.top := by
 cases t <;> simp only [Tm.kids, List.mem_cons, List.not_mem_nil, or_false] at h
 ·rcases h with rfl | rfl <;> simp only [Tm.depth, Tm.top] <;> omega
 ·rcases h with rfl | rfl <;> simp only [Tm.depth, Tm.top] <;> omega
 ·rcases h with rfl | rfl <;> simp only [Tm.depth, Tm.top] <;> omega
 ·rcases h with rfl | rfl | rfl <;> simp only [Tm.depth, Tm.top] <;> omega
end Go.Ab.Mk
end
section
namespace Go.Ab.Mk
open Go.Proofs Go.Ab Go.Proofs.Mk
def anyT (p : Tm → Nat → Bool) : Tm → Nat → Bool
 | .var m, d => p (.var m) d
 | .sort l, d => p (.sort l) d
 | .const s ls, d => p (.const s ls) d
 | .app a b, d => p (.app a b) d || (anyT p a d || anyT p b d)
 | .lam a b, d => p (.lam a b) d || (anyT p a d || anyT p b (d + 1))
 | .pi a b, d => p (.pi a b) d || (anyT p a d || anyT p b (d + 1))
 | .letin a b c, d => p (.letin a b c) d || (anyT p a d || (anyT p b d || anyT p c (d + 1)))
def anyAt (q : Nat → Tm → Bool) : Nat → List Tm → Bool
 | _, [] => false
 | i, c :: L => q i c || anyAt q (i + 1) L
theorem any_node {p : Tm → Nat → Bool} : ∀ (t : Tm) (d : Nat), anyT p t d = (p t d || anyAt (fun i c => anyT p c (inn t i d)) 0 t.kids)
 | .var m, d => (Bool.or_false _).symm
 | .sort l, d => (Bool.or_false _).symm
 | .const s ls, d => (Bool.or_false _).symm
 | .app a b, d => by simp [anyT, Tm.kids, anyAt, inn, Tm.kind]
 | .lam a b, d => by simp [anyT, Tm.kids, anyAt, inn, Tm.kind]
 | .pi a b, d => by simp [anyT, Tm.kids, anyAt, inn, Tm.kind]
 | .letin a b c, d => by simp [anyT, Tm.kids, anyAt, inn, Tm.kind]
theorem inn_bounds (t : Tm) (i d : Nat) : d ≤ inn t i d ∧ inn t i d ≤ d + 1 := by unfold inn; split <;> omega
theorem tsome_loop {N : Nat} (t : Tm) {d : Nat} (hd : d < 2 ^ 60) {σ : Sto} {f : V} {q : Nat → Tm → Bool}
  (h : ∀ (i : Nat) (hi : i < t.kids.length), lim C 31 [((t.kids[i]).val, false), (.int .i64 (inn t i d : Nat), false), (f, false)] σ = some (.ret [(.bool (q i t.kids[i]), false)], σ)) :
  ∀ (m i : Nat), i ≤ t.kids.length → t.kids.length - i < m →
   tsomel0 (lim C) N m d f (t.kids.map Tm.enc) t.kids.length i t.kind t.num t.name (t.lvs.map Lv.enc) (t.kids.map Tm.enc) σ = some (.ret [(.bool (anyAt q i (t.kids.drop i)), false)], σ)
 | 0, i, _, hm => by omega
 | m + 1, i, hi, hm => by
  show tsomes0 (lim C) (tsomel0 (lim C) N m) _ _ _ _ _ _ _ _ _ _ σ = _
  unfold tsomes0
  have h3 := kids3 t
  by_cases hlt : i < t.kids.length
  ·have h1 := h i hlt
   have hx : (t.kids.drop i) = t.kids[i] :: t.kids.drop (i + 1) := List.drop_eq_getElem_cons hlt
   have ih := tsome_loop (N := N) t hd (f := f) h m (i + 1) (by omega) (by omega)
   have w : IntKind.wrap .i64 (((t.kids.map Tm.enc).length : Int) - 1) = ((t.kids.length - 1 : Nat) : Int) := by rw [List.length_map, wrap_sm (by omega) (by omega)]; omega
   rw [hx]
   simp only [dlt hlt, cond_true, d0, List.length_map, Bool.and_self, grd, Option.bind_some, tm_get hlt, tm_readB, wrap_succ (show d < 2 ^ 61 by omega), wrap_succ (show i < 2 ^ 61 by omega), anyAt]
   rw [List.length_map] at w
   rw [w, beqN]
   by_cases hk : 4 ≤ t.kind
   ·rw [show decide (t.kind ≥ 4) = true by simpa using hk, cond_true]
    by_cases hl : i + 1 = t.kids.length
    ·rw [show (i == t.kids.length - 1) = true by simp; omega, cond_true]
     have e : inn t i d = d + 1 := if_pos ⟨hk, hl⟩
     rw [e] at h1
     refine (callK_ret1 h1).trans ?_
     simp only [List.getD_cons_zero, V.asBool, Option.bind_some]
     cases q i t.kids[i] with
     | true => rfl
     | false => simp only [cond_false, Bool.false_or]; exact ih
    ·rw [show (i == t.kids.length - 1) = false by simp; omega, cond_false]
     have e : inn t i d = d := if_neg (fun x => hl x.2)
     rw [e] at h1
     refine (callK_ret1 h1).trans ?_
     simp only [List.getD_cons_zero, V.asBool, Option.bind_some]
     cases q i t.kids[i] with
     | true => rfl
     | false => simp only [cond_false, Bool.false_or]; exact ih
   ·rw [show decide (t.kind ≥ 4) = false by simp; omega, cond_false]
    have e : inn t i d = d := if_neg (fun x => hk x.1)
    rw [e] at h1
    refine (callK_ret1 h1).trans ?_
    simp only [List.getD_cons_zero, V.asBool, Option.bind_some]
    cases q i t.kids[i] with
    | true => rfl
    | false => simp only [cond_false, Bool.false_or]; exact ih
  ·rw [dnlt hlt, cond_false, List.drop_eq_nil_of_le (by omega)]
   rfl
theorem tsome_law {fid : FuncId} {cap : List V} {p : Tm → Nat → Bool} {σ : Sto}
  (hp : ∀ (t : Tm) (d : Nat), t.top < 2 ^ 50 → d < 2 ^ 50 → lim C fid ([(t.val, false), (.int .i64 d, false)] ++ cap.map fun v => (v, false)) σ = some (.ret [(.bool (p t d), false)], σ)) :
  ∀ (t : Tm) (d : Nat), t.top < 2 ^ 50 → d + t.depth < 2 ^ 50 → lim C 31 [(t.val, false), (.int .i64 d, false), (.func (.func fid) [] cap, false)] σ = some (.ret [(.bool (anyT p t d), false)], σ) :=
 Tm.ind fun t ih d ht hd => tsome_lim (n := 10) <| by
  have hf : V.asFunc (.func (.func fid) [] cap) = some (fid, [], cap) := rfl
  have h1 := hp t d ht (by omega)
  have h3 := kids3 t
  have hl : ((t.args.length : Nat) : Int) = (t.kids.length : Int) := by simp [Tm.args]
  have h2 := tsome_loop (N := 10) t (d := d) (by omega) (σ := σ) (f := .func (.func fid) [] cap) (q := fun i c => anyT p c (inn t i d))
   (fun i hi => by
    have hd' := kid_depth (List.getElem_mem hi)
    have := inn_bounds t i d
    exact ih _ (List.getElem_mem hi) (inn t i d) (by omega) (by omega)) 10 0 (Nat.zero_le _) (by omega)
  simp only [tsome, tsomeF, hf, Option.bind_some, List.map_nil, List.nil_append]
  refine (callK_ret1 h1).trans ?_
  simp only [List.getD_cons_zero, V.asBool, Option.bind_some]
  rw [any_node t d, hl]
  cases p t d with
  | true => rfl
  | false => simp only [cond_false, Bool.false_or]; exact h2
def pClosed (n : Nat) (t : Tm) (d : Nat) : Bool := t.kind == 0 && decide (n + d ≤ t.num)
theorem num_top (t : Tm) : t.num ≤ t.top := by cases t <;> simp [Tm.num, Tm.top]
theorem tclosed_law (t : Tm) {n : Nat} (hn : n < 2 ^ 50) (ht : t.top < 2 ^ 50) (hd : t.depth < 2 ^ 49) (σ : Sto) : ∃ τ, lim C 14 [(t.val, false), (.int .i64 n, false)] σ = some (.ret [(.bool (!anyT (pClosed n) t 0), false)], σ ++ τ) := by
 refine ⟨[[(.int .i64 n, false)]], tclosed_lim (n := 0) ?_⟩
 have hb : (σ ++ [[((V.int .i64 n), false)]])[σ.length]? = some [(.int .i64 n, false)] := by simp
 have h1 := tsome_law (fid := 32) (cap := [.ptr 3 σ.length 0]) (p := pClosed n) (σ := σ ++ [[((V.int .i64 n), false)]]) (fun t d ht hd => closed1_lim (n := 0) <| by
  have hm := num_top t
  have w : IntKind.wrap .i64 ((n : Int) + (d : Int)) = ((n + d : Nat) : Int) := wrap_add (by omega)
  simp only [closed1, closed1F, mem1 hb, Option.bind_some, V.asInt, if_true, w, pClosed]
  cases hk : t.kind == 0 with
  | true => rw [cond_true, Bool.true_and, show decide ((t.num : Int) ≥ ((n + d : Nat) : Int)) = decide (n + d ≤ t.num) by simp; omega]
  | false => rfl) t 0 ht (by omega)
 simp only [tclosed, tclosedF]
 refine (callK_ret1 h1).trans ?_
 rfl
end Go.Ab.Mk
end
section
namespace Go.Ab.Mk
open Go.Proofs Go.Ab
theorem parseTerm_law (s : ByteArray) (hs : s.size < 2 ^ 61) (σ : Sto) : ∃ σ', lim C 15 [(.str s, false)] σ = some (.ret [((tparseV s).1.val, false), (.agg [.int .i64 (tparseV s).2.1, .int .i64 (tparseV s).2.2], false)], σ ++ σ') := by
 cases hb : decide ((s.size : Int) > 20000)
 ·have hb' : s.size ≤ 20000 := by have := of_decide_eq_false hb; omega
  have h : (σ ++ [RS.cells s ⟨0, 0, 0⟩])[σ.length]? = some (RS.cells s ⟨0, 0, 0⟩) := by simp
  have h1 := rterm_law hb' (s.size + 1) ⟨0, 0, 0⟩ _ h (by simp) (.inr (by simp))
  have tk := rterm_goes s (s.size + 1) ⟨0, 0, 0⟩ (by simp) (.inr (by simp))
  have hg : ∀ x : List Cell, (σ ++ [RS.cells s ⟨0, 0, 0⟩]).set σ.length x = σ ++ [x] := fun x => by rw [List.set_append_right _ _ (Nat.le_refl _)]; simp
  rw [hg] at h1
  have h2' : (σ ++ [(rtermV (s.size + 1) s ⟨0, 0, 0⟩).2.cells s])[σ.length]? = some ((rtermV (s.size + 1) s ⟨0, 0, 0⟩).2.cells s) := by simp
  have h2 := rdone_law h2' hs tk.le
  have hg2 : ∀ x : List Cell, (σ ++ [(rtermV (s.size + 1) s ⟨0, 0, 0⟩).2.cells s]).set σ.length x = σ ++ [x] := fun x => by rw [List.set_append_right _ _ (Nat.le_refl _)]; simp
  rw [hg2] at h2
  refine ⟨[(rdoneV s (rtermV (s.size + 1) s ⟨0, 0, 0⟩).2).cells s], parseTerm_lim (n := 0) ?_⟩
  have e0 : [((V.str s), false), ((V.int .i64 (0 : Int)), false), ((V.int .i64 (0 : Int)), false), ((V.int .i64 (0 : Int)), false)] = RS.cells s ⟨0, 0, 0⟩ := rfl
  have f2 : ∀ x y : Int, V.fits (.agg [.int .i64 x, .int .i64 y]) true 2 = true := fun _ _ => rfl
  have c0 : ∀ x y : Int, V.cell (.agg [.int .i64 x, .int .i64 y]) 0 = .int .i64 x := fun _ _ => rfl
  simp only [parseTerm, parseTermF, hb, cond_false, e0, callK_ret1 h1, List.getD_cons_zero, tm_fits, grd, cond_true, Option.bind_some, callK_ret1 h2, tparseV, f2, c0, V.asInt, if_true]
  cases hd : (rdoneV s (rtermV (s.size + 1) s ⟨0, 0, 0⟩).2).c != 0 <;> rfl
 ·refine ⟨[], parseTerm_lim (n := 0) ?_⟩
  simp only [parseTerm, parseTermF, hb, cond_true, tparseV, List.append_nil]
  rfl
theorem lv_read (l : Lv) : V.agg [l.enc.getD 0 V.any, l.enc.getD 1 V.any, l.enc.getD 2 V.any] = .agg [.int .i64 l.kind, .str l.name, .slice 3 74 l.args] := by rw [l.enc_eq]; rfl
def Tm.wide : Tm → Nat
 | .const _ ls => ls.length
 | .app a b => max a.wide b.wide
 | .lam a b => max a.wide b.wide
 | .pi a b => max a.wide b.wide
 | .letin a b c => max a.wide (max b.wide c.wide)
 | _ => 1
theorem kids_le (t : Tm) : t.kids.length ≤ 3 := by cases t <;> simp [Tm.kids]
theorem lvs_le (t : Tm) : t.lvs.length ≤ t.wide := by cases t <;> simp [Tm.lvs, Tm.wide]
theorem kid_wide {t c : Tm} (h : c ∈ t.kids) : c.wide ≤ t.wide := by
 cases t <;> simp only [Tm.kids, List.mem_cons, List.not_mem_nil, or_false] at h <;> simp only [Tm.wide]
 ·rcases h with rfl | rfl <;> omega
 ·rcases h with rfl | rfl <;> omega
 ·rcases h with rfl | rfl <;> omega
 ·rcases h with rfl | rfl | rfl <;> omega
theorem rlvs_wide (s : ByteArray) : ∀ (n : Nat) (st : RS), (rlvsV n s st).1.length ≤ n
 | 0, _ => by simp [rlvsV]
 | n + 1, st => by
  unfold rlvsV
  cases st.c != 0
  ·cases strIs (tokV s st.p).t [41]
   ·have := rlvs_wide s n (rlevelV (s.size + 1) s st).2
    simp only [cond_false, List.length_cons]; omega
   ·simp
  ·simp
theorem rterm_wide (s : ByteArray) : ∀ (n : Nat) (st : RS), (rtermV n s st).1.wide ≤ s.size + 10
 | 0, _ => by simp [rtermV, Tm.wide]
 | n + 1, st => by
  have ih := rterm_wide s n
  unfold rtermV
  cases st.c != 0
  case true => simp [Tm.wide]
  cases badTok (tokV s st.p)
  case true => simp [Tm.wide]
  cases strIs (tokV s st.p).t [40]
  case false => simp [Tm.wide]
  simp only [cond_true, cond_false, tmP]
  cases wordIx (tokV s (rnextV s st).2.p).t == 0
  case true => simp [Tm.wide]
  simp only [cond_false]
  unfold tmB
  split
  ·simp [Tm.wide]
  ·exact rlvs_wide s _ _
  ·simp only [tm2, Tm.wide]; exact Nat.max_le.2 ⟨ih _, ih _⟩
  ·simp only [tm2, Tm.wide]; exact Nat.max_le.2 ⟨ih _, ih _⟩
  ·simp only [tm2, Tm.wide]; exact Nat.max_le.2 ⟨ih _, ih _⟩
  ·simp only [tm3, Tm.wide]; exact Nat.max_le.2 ⟨ih _, Nat.max_le.2 ⟨ih _, ih _⟩⟩
theorem tparse_wide (s : ByteArray) : (tparseV s).1.wide ≤ s.size + 10 := by
 unfold tparseV
 cases decide ((s.size : Int) > 20000)
 ·simp only [cond_false]
  cases (rdoneV s (rtermV (s.size + 1) s ⟨0, 0, 0⟩).2).c != 0
  ·exact rterm_wide s _ _
  ·simp [Tm.wide]
 ·simp [Tm.wide]
end Go.Ab.Mk
end
section
namespace Go.Ab.Mk
open Go.Proofs Go.Ab Go.Proofs.Mk
theorem tm_list (t : Tm) : [t.enc.getD 0 V.any, t.enc.getD 1 V.any, t.enc.getD 2 V.any, t.enc.getD 3 V.any, t.enc.getD 4 V.any] = t.enc := by rw [t.enc_eq]; rfl
theorem tm_cell5 (t : Tm) : V.cell t.val 0 = t.enc.getD 0 V.any ∧ V.cell t.val 1 = t.enc.getD 1 V.any ∧ V.cell t.val 2 = t.enc.getD 2 V.any ∧ V.cell t.val 3 = t.enc.getD 3 V.any ∧ V.cell t.val 4 = t.enc.getD 4 V.any := by rw [t.enc_eq]; exact ⟨rfl, rfl, rfl, rfl, rfl⟩
theorem tspine_law (t : Tm) (ht : t.spine.length < 2 ^ 40) (σ : Sto) : lim C 12 [(t.val, false)] σ = some (.ret [(t.head.val, false), (.slice 5 29 (t.spine.map Tm.enc), false)], σ) :=
 lim_ext (C := C) (f := 12) (s := Mk.spineS) (by kernel_rfl) (Mk.spineS_eq t ht false σ)
def applyT (f : Tm) : List Tm → Tm
 | [] => f
 | a :: bs => applyT (.app f a) bs
theorem tnew_law (f a : Tm) (b : Bool) (σ : Sto) : lim C 30 [(.int .i64 3, false), (.slice 5 29 [f.enc, a.enc], b)] σ = some (.ret [((Tm.app f a).val, false)], σ) := tnew_lim (n := 0) rfl
theorem tapply_loop {N : Nat} {L : List Tm} (hb : L.length < 2 ^ 33) {t0 t1 : Int} {t2 : ByteArray} {t3 t4 : List (List V)} {σ : Sto} :
  ∀ (m i : Nat) (f : Tm), i ≤ L.length → L.length - i < m → tapplyl0 (lim C) N m (L.map Tm.enc) L.length i (f.enc.getD 0 V.any) (f.enc.getD 1 V.any) (f.enc.getD 2 V.any) (f.enc.getD 3 V.any) (f.enc.getD 4 V.any) t0 t1 t2 t3 t4 σ =
   some (.ret [((applyT f (L.drop i)).val, false)], σ)
 | 0, i, f, _, hm => by omega
 | m + 1, i, f, hi, hm => by
  show tapplys0 (lim C) (tapplyl0 (lim C) N m) _ _ _ _ _ _ _ _ _ _ _ _ _ σ = _
  unfold tapplys0
  by_cases hlt : i < L.length
  ·have ih := tapply_loop (N := N) hb (t0 := t0) (t1 := t1) (t2 := t2) (t3 := t3) (t4 := t4) (σ := σ) m (i + 1) (.app f L[i]) (by omega) (by omega)
   have hx : L.drop i = L[i] :: L.drop (i + 1) := List.drop_eq_getElem_cons hlt
   obtain ⟨q0, q1, q2, q3, q4⟩ := tm_cell5 (.app f L[i])
   rw [List.length_map, dlt hlt, cond_true, d0, tm_get hlt, tm_list, tm_list]
   simp only [Bool.and_self, grd, cond_true, Option.bind_some]
   refine (callK_ret1 (tnew_law f L[i] true σ)).trans ?_
   simp only [List.getD_cons_zero, tm_fits, cond_true, Option.bind_some, wrap_succ (show i < 2 ^ 61 by omega), q0, q1, q2, q3, q4]
   rw [hx]
   exact ih
  ·rw [dnlt hlt, cond_false, tm_readB, List.drop_eq_nil_of_le (by omega)]
   rfl
theorem tapply_law (f : Tm) (L : List Tm) (hb : L.length < 2 ^ 33) (σ : Sto) : lim C 13 [(f.val, false), (.slice 5 29 (L.map Tm.enc), false)] σ = some (.ret [((applyT f L).val, false)], σ) :=
 tapply_lim (n := L.length + 1) <| by
  have h := tapply_loop (N := L.length + 1) hb (t0 := 0) (t1 := 0) (t2 := ByteArray.mk #[]) (t3 := []) (t4 := []) (σ := σ) (L.length + 1) 0 f (by omega) (by omega)
  rw [f.enc_eq] at h
  simp only [tapply, tapplyF, List.length_map]
  exact h
end Go.Ab.Mk
end
section
namespace Go.Ab.Mk
open Go.Proofs Go.Ab Go.Proofs.Mk
theorem lv_get {L : List Lv} {i : Nat} (h : i < L.length) : (L.map Lv.enc).getD (Int.toNat (i : Int)) [] = L[i].enc := by simp [h]
section
variable {ps : List ByteArray} {ls : List Lv}
end
end Go.Ab.Mk
end
section
namespace Go.Ab.Mk
open Go.Proofs Go.Ab
def kidsL : List Lv → List UInt8
 | [] => [41]
 | c :: L => 32 :: (printL c ++ kidsL L)
theorem write_loop (call : CallF) (n : Nat) {L : List Lv} (hb : L.length < 2 ^ 61) (b : Nat)
  (h1 : ∀ (σ : Sto) (X : List UInt8) (c : UInt8), σ[b]? = some (bcell b true X) → X.length + 1 < 2 ^ 34 → call 40 [(.ptr 53 b 0, false), (.int .u8 (c.toNat : Int), false)] σ = some (.ret [(.nilIface, false)], σ.set b (bcell b true (X ++ [c]))))
  (h : ∀ d ∈ L, ∀ (σ : Sto) (X : List UInt8), σ[b]? = some (bcell b true X) → X.length + (printL d).length < 2 ^ 34 →
   call 61 [(.ptr 53 b 0, false), (.agg [.int .i64 d.kind, .str d.name, .slice 3 74 d.args], false)] σ = some (.ret [], σ.set b (bcell b true (X ++ printL d)))) :
  ∀ (m i : Nat) (X : List UInt8) (σ : Sto), i ≤ L.length → L.length - i < m → X.length + (kidsL (L.drop i)).length < 2 ^ 34 → σ[b]? = some (bcell b true X) →
   writel0 call n m b (L.map Lv.enc) L.length i σ = some (.ret [], σ.set b (bcell b true (X ++ kidsL (L.drop i))))
 | 0, i, _, _, _, hm, _, _ => by omega
 | m + 1, i, X, σ, hi, hm, hs, hσ => by
  show writes0 call (writel0 call n m) b (L.map Lv.enc) L.length i σ = _
  unfold writes0
  rw [List.length_map]
  obtain ⟨hblt, hget⟩ := List.getElem?_eq_some_iff.1 hσ
  by_cases hlt : i < L.length
  ·have hc := List.getElem?_eq_getElem hlt
   rw [drop_cons hc] at hs
   simp only [kidsL, List.length_cons, List.length_append] at hs
   have e1 : call 40 [(.ptr 53 b 0, false), (.int .u8 32, false)] σ = some (.ret [(.nilIface, false)], σ.set b (bcell b true (X ++ [32]))) := h1 σ X 32 hσ (by omega)
   have e2 := h _ (List.getElem_mem hlt) (σ.set b (bcell b true (X ++ [32]))) (X ++ [32]) (by simp [hblt]) (by simp; omega)
   rw [d0, dlt hlt, kid_get hc, L[i].cells, drop_cons hc]
   simp only [cond_true, Bool.and_self, grd, Option.bind_some, callK_ret1 e1, callK_ret0 e2, wrap_succ (show i < 2 ^ 61 by omega), kidsL]
   rw [write_loop call n hb b h1 h m (i + 1) (X ++ [32] ++ printL L[i]) _ (by omega) (by omega) (by simp; omega) (by simp [hblt])]
   simp [List.set_set]
  ·rw [dnlt hlt, List.drop_eq_nil_of_le (by omega)]
   rw [List.drop_eq_nil_of_le (by omega)] at hs
   simp only [kidsL, List.length_cons, List.length_nil] at hs
   have e1 : call 40 [(.ptr 53 b 0, false), (.int .u8 41, false)] σ = some (.ret [(.nilIface, false)], σ.set b (bcell b true (X ++ [41]))) := h1 σ X 41 hσ (by omega)
   simp only [cond_false, callK_ret1 e1, kidsL]
theorem write_law (b : Nat) : ∀ (l : Lv) (σ : Sto) (u : Bool) (X : List UInt8), σ[b]? = some (bcell b u X) → X.length + (printL l).length < 2 ^ 34 →
  lim C 61 [(.ptr 53 b 0, false), (.agg [.int .i64 l.kind, .str l.name, .slice 3 74 l.args], false)] σ = some (.ret [], σ.set b (bcell b true (X ++ printL l))) :=
 Lv.ind fun l ih σ u X hσ hb => write_lim (n := 4) <| by
  obtain ⟨hblt, hget⟩ := List.getElem?_eq_some_iff.1 hσ
  have hlen : (l.args.length : Int) = (l.kids.length : Int) := by simp [Lv.args]
  have loop := fun (X : List UInt8) (σ : Sto) (h1 : X.length + (kidsL l.kids).length < 2 ^ 34) (h2 : σ[b]? = some (bcell b true X)) =>
   write_loop (lim C) 4 (L := l.kids) (by have := kids_few l; omega) b (fun σ X c h1 h2 => wbyte_law h1 c h2) (fun d hd σ X h1 h2 => ih d hd σ true X h1 h2) 4 0 X σ (by omega) (by have := kids_few l; omega) (by simpa using h1) h2
  simp only [List.drop_zero] at loop
  cases l with
  | zero =>
   have h1 := wstring_law hσ [48] (by simpa [printL] using hb)
   have e1 : ByteArray.mk #[48] = ba [48] := rfl
   simp only [write, writeF, Lv.kind, beq_self_eq_true, cond_true, e1, callK_ret2 h1, printL]
  | param s =>
   have h1 := wstring_law hσ s.data.toList (by simpa [printL] using hb)
   rw [ba_of] at h1
   simp only [write, writeF, Lv.kind, Lv.name, callK_ret2 h1, printL]
   rfl
  | succ l =>
   have h1 := wstring_law hσ [40, 115] (by simp [printL] at hb ⊢; omega)
   have h2 := loop (X ++ [40, 115]) (σ.set b (bcell b true (X ++ [40, 115]))) (by simp [Lv.kids, kidsL, printL] at hb ⊢; omega) (by simp [hblt])
   have e1 : ByteArray.mk #[40] = ba [40] := rfl
   have e2 : ByteArray.mk #[115] = ba [115] := rfl
   have hm : (memGet [] (V.eptr 4 [(V.str (ByteArray.mk #[])), (V.str (ByteArray.mk #[115])), (V.str (ByteArray.mk #[109, 97, 120])), (V.str (ByteArray.mk #[105, 109, 97, 120]))] (0 + Int.toNat (1 : Int) * 1)) false 1) = some (V.str (ba [115])) := rfl
   have hr : strRoom (ba [40]) (ba [115]) = true := strRoom_ok (by simp [ba_size])
   have h1' : callK (lim C) 37 [(.ptr 53 b 0, false), (.str (ba ([40] ++ [115])), false)] σ 2 = fun K KP => K [(.int .i64 ([40, 115] : List UInt8).length, false), (.nilIface, false)] (σ.set b (bcell b true (X ++ [40, 115]))) := by
    funext K KP; exact callK_ret2 h1
   simp only [write, writeF, Lv.kind, Int.reduceBEq, cond_false, hm, e1, Option.bind_some, V.asStr, hr, ba_append, h1']
   rw [hlen]
   simp only [Lv.args]
   refine Eq.trans (show _ = _ from h2) ?_
   simp [List.set_set, Lv.kids, kidsL, printL]
  | max x y =>
   have h1 := wstring_law hσ [40, 109, 97, 120] (by simp [printL] at hb ⊢; omega)
   have h2 := loop (X ++ [40, 109, 97, 120]) (σ.set b (bcell b true (X ++ [40, 109, 97, 120]))) (by simp [Lv.kids, kidsL, printL] at hb ⊢; omega) (by simp [hblt])
   have e1 : ByteArray.mk #[40] = ba [40] := rfl
   have hm : (memGet [] (V.eptr 4 [(V.str (ByteArray.mk #[])), (V.str (ByteArray.mk #[115])), (V.str (ByteArray.mk #[109, 97, 120])), (V.str (ByteArray.mk #[105, 109, 97, 120]))] (0 + Int.toNat (2 : Int) * 1)) false 1) = some (V.str (ba [109, 97, 120])) := rfl
   have hr : strRoom (ba [40]) (ba [109, 97, 120]) = true := strRoom_ok (by simp [ba_size])
   have h1' : callK (lim C) 37 [(.ptr 53 b 0, false), (.str (ba ([40] ++ [109, 97, 120])), false)] σ 2 = fun K KP => K [(.int .i64 ([40, 109, 97, 120] : List UInt8).length, false), (.nilIface, false)] (σ.set b (bcell b true (X ++ [40, 109, 97, 120]))) := by
    funext K KP; exact callK_ret2 h1
   simp only [write, writeF, Lv.kind, Int.reduceBEq, cond_false, hm, e1, Option.bind_some, V.asStr, hr, ba_append, h1']
   rw [hlen]
   simp only [Lv.args]
   refine Eq.trans (show _ = _ from h2) ?_
   simp [List.set_set, Lv.kids, kidsL, printL]
  | imax x y =>
   have h1 := wstring_law hσ [40, 105, 109, 97, 120] (by simp [printL] at hb ⊢; omega)
   have h2 := loop (X ++ [40, 105, 109, 97, 120]) (σ.set b (bcell b true (X ++ [40, 105, 109, 97, 120]))) (by simp [Lv.kids, kidsL, printL] at hb ⊢; omega) (by simp [hblt])
   have e1 : ByteArray.mk #[40] = ba [40] := rfl
   have hm : (memGet [] (V.eptr 4 [(V.str (ByteArray.mk #[])), (V.str (ByteArray.mk #[115])), (V.str (ByteArray.mk #[109, 97, 120])), (V.str (ByteArray.mk #[105, 109, 97, 120]))] (0 + Int.toNat (3 : Int) * 1)) false 1) = some (V.str (ba [105, 109, 97, 120])) := rfl
   have hr : strRoom (ba [40]) (ba [105, 109, 97, 120]) = true := strRoom_ok (by simp [ba_size])
   have h1' : callK (lim C) 37 [(.ptr 53 b 0, false), (.str (ba ([40] ++ [105, 109, 97, 120])), false)] σ 2 = fun K KP => K [(.int .i64 ([40, 105, 109, 97, 120] : List UInt8).length, false), (.nilIface, false)] (σ.set b (bcell b true (X ++ [40, 105, 109, 97, 120]))) := by
    funext K KP; exact callK_ret2 h1
   simp only [write, writeF, Lv.kind, Int.reduceBEq, cond_false, hm, e1, Option.bind_some, V.asStr, hr, ba_append, h1']
   rw [hlen]
   simp only [Lv.args]
   refine Eq.trans (show _ = _ from h2) ?_
   simp [List.set_set, Lv.kids, kidsL, printL]
theorem print_law (σ : Sto) (l : Lv) (hne : printL l ≠ []) (hb : (printL l).length < 2 ^ 33) :
  lim C 39 [(.agg [.int .i64 l.kind, .str l.name, .slice 3 74 l.args], false)] σ = some (.ret [(.str (ba (printL l)), false)], σ ++ [bcell σ.length true (printL l)]) :=
 print_lim (n := 0) <| by
  have h1 := write_law σ.length l (σ ++ [bcell σ.length false []]) false [] (by simp) (by simp; omega)
  have hset : (σ ++ [bcell σ.length false []]).set σ.length (bcell σ.length true ([] ++ printL l)) = σ ++ [bcell σ.length true (printL l)] := by
   rw [List.set_append_right _ _ (Nat.le_refl _)]; simp
  rw [hset] at h1
  have h2 : lim C 20 [(.ptr 53 σ.length 0, false)] (σ ++ [bcell σ.length true (printL l)]) = some (.ret [(.str (ba (printL l)), false)], σ ++ [bcell σ.length true (printL l)]) := by
   refine lim_ext (s := bldStringS 53 5) (by kernel_rfl) ?_
   simp only [bldStringS, if_true]
   rw [show (σ ++ [bcell σ.length true (printL l)])[σ.length]? = some (bcell σ.length true (printL l)) by simp]
   have hn : bytesL (printL l) ≠ [] := by
    intro h0
    have := bytesL_length (printL l)
    rw [h0] at this
    exact hne (List.length_eq_zero_iff.1 this.symm)
   simp only [bcell, cond_true]
   rw [if_pos ⟨trivial, hn, by rw [bytesL_length]; exact room_ok (by omega)⟩, unbytes_bytesL]
   rfl
  have e0 : [(V.nilp, false), ((V.slice 1 5 []), true)] = bcell σ.length false [] := rfl
  simp only [print, printF, e0, callK_ret0 h1, callK_ret1 h2]
  rfl
end Go.Ab.Mk
end
section
namespace Go.Ab.Mk
open Go.Proofs Go.Ab Go.Proofs.Mk
def Tm.word : Tm → List UInt8
 | .var _ => []
 | .sort _ => wsort
 | .const .. => wconst
 | .app .. => wapp
 | .lam .. => wlam
 | .pi .. => wpi
 | .letin .. => wlet
def lvsL (ls : List Lv) : List UInt8 := ls.flatMap fun l => 32 :: printL l
def ksL (ks : List (List UInt8)) : List UInt8 := ks.flatMap (fun k => 32 :: k) ++ [41]
def printT : Tm → List UInt8
 | .var n => 35 :: Go.Lib.decDigits n
 | .sort l => 40 :: wsort ++ lvsL [l] ++ ksL []
 | .const s ls => 40 :: wconst ++ 32 :: s.data.toList ++ lvsL ls ++ ksL []
 | .app a b => 40 :: wapp ++ ksL [printT a, printT b]
 | .lam a b => 40 :: wlam ++ ksL [printT a, printT b]
 | .pi a b => 40 :: wpi ++ ksL [printT a, printT b]
 | .letin a b c => 40 :: wlet ++ ksL [printT a, printT b, printT c]
theorem print_node (t : Tm) (h : t.kind ≠ 0) : printT t = 40 :: t.word ++ (if t.kind = 2 then 32 :: t.name.data.toList else []) ++ lvsL t.lvs ++ ksL (t.kids.map printT) := by
 cases t with
 | var => exact absurd rfl h
 | sort => simp [printT, Tm.word, Tm.kind, Tm.lvs, Tm.kids]
 | const => simp [printT, Tm.word, Tm.kind, Tm.lvs, Tm.kids, Tm.name]
 | app => simp [printT, Tm.word, Tm.kind, Tm.lvs, Tm.kids, lvsL]
 | lam => simp [printT, Tm.word, Tm.kind, Tm.lvs, Tm.kids, lvsL]
 | pi => simp [printT, Tm.word, Tm.kind, Tm.lvs, Tm.kids, lvsL]
 | letin => simp [printT, Tm.word, Tm.kind, Tm.lvs, Tm.kids, lvsL]
def Tm.all : Tm → List Lv
 | .sort l => [l]
 | .const _ ls => ls
 | .app a b => a.all ++ b.all
 | .lam a b => a.all ++ b.all
 | .pi a b => a.all ++ b.all
 | .letin a b c => a.all ++ (b.all ++ c.all)
 | _ => []
theorem all_node (t : Tm) : ∀ l, l ∈ t.all ↔ l ∈ t.lvs ∨ ∃ c ∈ t.kids, l ∈ c.all := by
 intro l
 cases t <;> simp [Tm.all, Tm.lvs, Tm.kids]
theorem kid_all {t c : Tm} (h : c ∈ t.kids) {P : Lv → Prop} (hP : ∀ l ∈ t.all, P l) : ∀ l ∈ c.all, P l := fun l hl => hP l ((all_node t l).2 (.inr ⟨c, h, hl⟩))
theorem lvs_all {t : Tm} {P : Lv → Prop} (hP : ∀ l ∈ t.all, P l) : ∀ l ∈ t.lvs, P l := fun l hl => hP l ((all_node t l).2 (.inl hl))
theorem lvsL_cons (l : Lv) (ls : List Lv) : lvsL (l :: ls) = 32 :: printL l ++ lvsL ls := by simp [lvsL]
theorem ksL_cons (k : List UInt8) (ks : List (List UInt8)) : ksL (k :: ks) = 32 :: k ++ ksL ks := by simp [ksL]
theorem ksL_nil : ksL [] = [41] := rfl
theorem lvsL_nil : lvsL [] = [] := rfl
theorem itoa_law (n : Nat) (h : n < 2 ^ 60) (σ : Sto) : lim C 38 [(.int .i64 n, false)] σ = some (.ret [(.str (ba (Go.Lib.decDigits n)), false)], σ) :=
 lim_ext (C := C) (f := 38) (s := Mk.textA) (by kernel_rfl) (Mk.textA_eq (by omega) false σ)
theorem bldString_law {σ : Sto} {b : Nat} {L : List UInt8} (h : σ[b]? = some (bcell b true L)) (hne : L ≠ []) (hb : L.length < 2 ^ 34) : lim C 20 [(.ptr 53 b 0, false)] σ = some (.ret [(.str (ba L), false)], σ) := by
 refine lim_ext (s := bldStringS 53 5) (by kernel_rfl) ?_
 simp only [bldStringS, if_true]
 rw [h]
 have hn : bytesL L ≠ [] := by
  intro h0
  have := bytesL_length L
  rw [h0] at this
  exact hne (List.length_eq_zero_iff.1 this.symm)
 simp only [bcell, cond_true]
 rw [if_pos ⟨trivial, hn, by rw [bytesL_length]; exact room_ok (by omega)⟩, unbytes_bytesL]
 rfl
theorem set_got {σ : Sto} {b : Nat} {x y : List Cell} (h : σ[b]? = some x) : (σ.set b y)[b]? = some y := by
 obtain ⟨hlt, _⟩ := List.getElem?_eq_some_iff.1 h
 simp [hlt]
theorem get_more {σ τ : Sto} {b : Nat} {x : List Cell} (h : σ[b]? = some x) : (σ ++ τ)[b]? = some x := by rw [List.getElem?_append_left (List.getElem?_eq_some_iff.1 h).1]; exact h
theorem twrite_loop1 {N : Nat} {b : Nat} {L : List Tm} (hb : L.length < 2 ^ 33)
  (h : ∀ c ∈ L, ∀ (σ : Sto) (X : List UInt8), σ[b]? = some (bcell b true X) → X.length + (printT c).length < 2 ^ 33 → ∃ σ', lim C 19 [(.ptr 53 b 0, false), (c.val, false)] σ = some (.ret [], σ') ∧ σ'[b]? = some (bcell b true (X ++ printT c))) :
  ∀ (m i : Nat) (σ : Sto) (X : List UInt8), i ≤ L.length → L.length - i < m → σ[b]? = some (bcell b true X) → X.length + (ksL ((L.drop i).map printT)).length < 2 ^ 33 →
   ∃ σ', twritel1 (lim C) N m b (L.map Tm.enc) L.length i σ = some (.ret [], σ') ∧ σ'[b]? = some (bcell b true (X ++ ksL ((L.drop i).map printT)))
 | 0, i, _, _, _, hm, _, _ => by omega
 | m + 1, i, σ, X, hi, hm, hσ, hs => by
  show ∃ σ', twrites1 (lim C) (twritel1 (lim C) N m) _ _ _ _ σ = _ ∧ _
  unfold twrites1
  by_cases hlt : i < L.length
  ·have hx : L.drop i = L[i] :: L.drop (i + 1) := List.drop_eq_getElem_cons hlt
   rw [hx, List.map_cons, ksL_cons] at hs
   simp only [List.length_cons, List.length_append] at hs
   have e1 : lim C 40 [(.ptr 53 b 0, false), (.int .u8 32, false)] σ = _ := wbyte_law hσ 32 (by omega)
   obtain ⟨σ2, e2, g2⟩ := h L[i] (List.getElem_mem hlt) _ (X ++ [32]) (set_got hσ) (by simp; omega)
   obtain ⟨σ3, e3, g3⟩ := twrite_loop1 (N := N) hb h m (i + 1) σ2 (X ++ [32] ++ printT L[i]) (by omega) (by omega) g2 (by simp at hs ⊢; omega)
   refine ⟨σ3, ?_, ?_⟩
   ·rw [List.length_map, dlt hlt, cond_true, d0, tm_get hlt, tm_readB]
    simp only [Bool.and_self, grd, cond_true, Option.bind_some, callK_ret1 e1, callK_ret0 e2, wrap_succ (show i < 2 ^ 61 by omega)]
    exact e3
   ·rw [g3, hx, List.map_cons, ksL_cons]
    simp
  ·rw [List.drop_eq_nil_of_le (by omega)] at hs ⊢
   rw [List.map_nil, ksL_nil] at hs ⊢
   have e1 : lim C 40 [(.ptr 53 b 0, false), (.int .u8 41, false)] σ = _ := wbyte_law hσ 41 (by simp at hs; omega)
   refine ⟨_, ?_, set_got (y := bcell b true (X ++ [41])) hσ⟩
   rw [dnlt hlt, cond_false]
   exact (callK_ret1 e1).trans rfl
theorem twrite_loop0 {N : Nat} {b : Nat} {K : List Tm} (hK : K.length < 2 ^ 33) (hN : K.length < N)
  (h : ∀ c ∈ K, ∀ (σ : Sto) (X : List UInt8), σ[b]? = some (bcell b true X) → X.length + (printT c).length < 2 ^ 33 → ∃ σ', lim C 19 [(.ptr 53 b 0, false), (c.val, false)] σ = some (.ret [], σ') ∧ σ'[b]? = some (bcell b true (X ++ printT c)))
  {L : List Lv} (hb : L.length < 2 ^ 33) (hL : ∀ l ∈ L, printL l ≠ []) {k n : Int} {s : ByteArray} {t3 : List (List V)} :
  ∀ (m i : Nat) (σ : Sto) (X : List UInt8), i ≤ L.length → L.length - i < m → σ[b]? = some (bcell b true X) → X.length + (lvsL (L.drop i) ++ ksL (K.map printT)).length < 2 ^ 33 →
   ∃ σ', twritel0 (lim C) N m b (L.map Lv.enc) L.length i k n s t3 (K.map Tm.enc) σ = some (.ret [], σ') ∧ σ'[b]? = some (bcell b true (X ++ (lvsL (L.drop i) ++ ksL (K.map printT))))
 | 0, i, _, _, _, hm, _, _ => by omega
 | m + 1, i, σ, X, hi, hm, hσ, hs => by
  show ∃ σ', twrites0 (lim C) (twritel1 (lim C) N N) (twritel0 (lim C) N m) _ _ _ _ _ _ _ _ _ σ = _ ∧ _
  unfold twrites0
  by_cases hlt : i < L.length
  ·have hx : L.drop i = L[i] :: L.drop (i + 1) := List.drop_eq_getElem_cons hlt
   rw [hx, lvsL_cons] at hs
   simp only [List.length_cons, List.length_append] at hs
   have e1 := print_law σ L[i] (hL _ (List.getElem_mem hlt)) (by omega)
   have hσ1 : (σ ++ [bcell σ.length true (printL L[i])])[b]? = some (bcell b true X) := get_more hσ
   have e2 := wstring_law hσ1 (32 :: printL L[i]) (by simp; omega)
   obtain ⟨σ3, e3, g3⟩ := twrite_loop0 (N := N) hK hN h hb hL (k := k) (n := n) (s := s) (t3 := t3) m (i + 1) _ (X ++ (32 :: printL L[i])) (by omega) (by omega) (set_got hσ1) (by simp at hs ⊢; omega)
   have hr : strRoom (ba [32]) (ba (printL L[i])) = true := strRoom_ok (by simp [ba_size]; omega)
   have e32 : ByteArray.mk #[32] = ba [32] := rfl
   refine ⟨σ3, ?_, ?_⟩
   ·rw [List.length_map, dlt hlt, cond_true, d0, lv_get hlt, lv_read, e32]
    simp only [Bool.and_self, grd, cond_true, Option.bind_some, callK_ret1 e1, List.getD_cons_zero, V.asStr, hr, ba_append, List.cons_append, List.nil_append, callK_ret2 e2, wrap_succ (show i < 2 ^ 61 by omega)]
    exact e3
   ·rw [g3, hx, lvsL_cons]
    simp
  ·rw [List.drop_eq_nil_of_le (by omega), lvsL_nil, List.nil_append] at hs ⊢
   obtain ⟨σ3, e3, g3⟩ := twrite_loop1 (N := N) hK h N 0 σ X (by omega) (by omega) hσ (by rw [List.drop_zero]; exact hs)
   rw [List.drop_zero] at g3
   refine ⟨σ3, ?_, g3⟩
   rw [dnlt hlt, cond_false, List.length_map]
   exact e3
theorem words_mem (t : Tm) (h : t.kind ≠ 0) : memGet [] (V.eptr 7 [(V.str (ByteArray.mk #[])), (V.str (ByteArray.mk #[115, 111, 114, 116])), (V.str (ByteArray.mk #[99, 111, 110, 115, 116])), (V.str (ByteArray.mk #[97, 112, 112])), (V.str (ByteArray.mk #[108, 97, 109])), (V.str (ByteArray.mk #[112, 105])), (V.str (ByteArray.mk #[108, 101, 116]))] (0 + Int.toNat t.kind * 1)) false 1 = some (.str (ba t.word)) := by
 cases t <;> first | exact absurd rfl h | rfl
theorem kind_in (t : Tm) : (decide (0 ≤ t.kind) && decide (t.kind < 7)) = true := by cases t <;> rfl
theorem word_len (t : Tm) : t.word.length ≤ 5 := by cases t <;> simp [Tm.word, wsort, wconst, wapp, wlam, wpi, wlet]
theorem twrite_law (b : Nat) : ∀ (t : Tm), t.top < 2 ^ 60 → t.wide < 2 ^ 32 → (∀ l ∈ t.all, printL l ≠ []) → ∀ (u : Bool) (σ : Sto) (X : List UInt8), σ[b]? = some (bcell b u X) → X.length + (printT t).length < 2 ^ 33 →
  ∃ σ', lim C 19 [(.ptr 53 b 0, false), (t.val, false)] σ = some (.ret [], σ') ∧ σ'[b]? = some (bcell b true (X ++ printT t)) :=
 Tm.ind fun t ih ht hw hne u σ X hσ hs => by
  by_cases hk : t.kind = 0
  ·obtain ⟨m, rfl⟩ : ∃ m, t = .var m := by cases t <;> simp [Tm.kind] at hk; exact ⟨_, rfl⟩
   simp only [printT, List.length_cons] at hs
   have e1 := itoa_law m ht σ
   have e2 := wstring_law hσ (35 :: Go.Lib.decDigits m) (by simp; omega)
   have hr : strRoom (ba [35]) (ba (Go.Lib.decDigits m)) = true := strRoom_ok (by simp [ba_size]; omega)
   have e35 : ByteArray.mk #[35] = ba [35] := rfl
   refine ⟨_, twrite_lim (n := 0) ?_, set_got (y := bcell b true (X ++ printT (.var m))) hσ⟩
   have e1' : lim C 38 [(.int .i64 ((Tm.var m).num : Int), false)] σ = _ := e1
   simp only [twrite, twriteF, Tm.kind, beq_self_eq_true, cond_true, callK_ret1 e1', List.getD_cons_zero, V.asStr, Option.bind_some, e35, hr, grd, ba_append, List.cons_append, List.nil_append, callK_ret2 e2, printT]
  ·rw [print_node t hk] at hs ⊢
   simp only [List.length_append, List.length_cons] at hs
   have hk3 := kids_le t
   have hlv := lvs_le t
   have hw5 := word_len t
   have ih' : ∀ c ∈ t.kids, ∀ (σ : Sto) (X : List UInt8), σ[b]? = some (bcell b true X) → X.length + (printT c).length < 2 ^ 33 → ∃ σ', lim C 19 [(.ptr 53 b 0, false), (c.val, false)] σ = some (.ret [], σ') ∧ σ'[b]? = some (bcell b true (X ++ printT c)) :=
    fun c hc σ X h1 h2 => ih c hc (by have := kid_depth hc; omega) (by have := kid_wide hc; omega) (kid_all hc hne) true σ X h1 h2
   have loop := fun σ X => twrite_loop0 (N := t.wide + 10) (K := t.kids) (by omega) (by omega) ih' (L := t.lvs) (by omega) (lvs_all hne) (k := t.kind) (n := t.num) (s := t.name) (t3 := t.lvs.map Lv.enc) (t.wide + 10) 0 σ X (by omega) (by omega)
   simp only [List.drop_zero] at loop
   have e1 := wstring_law hσ (40 :: t.word) (by simp; omega)
   have hr : strRoom (ba [40]) (ba t.word) = true := strRoom_ok (by simp [ba_size]; omega)
   have e40 : ByteArray.mk #[40] = ba [40] := rfl
   have g1 := set_got (y := bcell b true (X ++ 40 :: t.word)) hσ
   by_cases h2 : t.kind = 2
   ·rw [if_pos h2] at hs ⊢
    simp only [List.length_cons] at hs
    have e2 := wstring_law g1 (32 :: t.name.data.toList) (by simp only [List.length_append, List.length_cons]; omega)
    have hsz : t.name.size = t.name.data.toList.length := by rw [← ba_size, ba_of]
    have hr2 : strRoom (ba [32]) t.name = true := strRoom_ok (by rw [ba_size, hsz]; simp; omega)
    have e32 : ByteArray.mk #[32] = ba [32] := rfl
    obtain ⟨σ3, e3, g3⟩ := loop _ (X ++ 40 :: t.word ++ 32 :: t.name.data.toList) (set_got g1) (by simp only [List.length_append, List.length_cons]; omega)
    refine ⟨σ3, twrite_lim (n := t.wide + 10) ?_, by rw [g3]; simp⟩
    have hnm : ba [32] ++ t.name = ba (32 :: t.name.data.toList) := by rw [← ba_of t.name, ba_append, ba_of]; rfl
    simp only [twrite, twriteF, kind_in, grd, cond_true, Option.bind_some, words_mem t hk, V.asStr, e40, hr, ba_append, List.cons_append, List.nil_append]
    rw [show (t.kind == 0) = false by simpa using hk, cond_false, callK_ret2 e1, show (t.kind == 2) = true by simpa using h2, cond_true, e32, hr2]
    simp only [cond_true, Option.bind_some, hnm]
    rw [callK_ret2 e2, List.length_map]
    exact e3
   ·rw [if_neg h2] at hs ⊢
    obtain ⟨σ3, e3, g3⟩ := loop _ (X ++ 40 :: t.word) g1 (by simp only [List.length_append, List.length_cons, List.length_nil] at hs ⊢; omega)
    refine ⟨σ3, twrite_lim (n := t.wide + 10) ?_, by rw [g3]; simp⟩
    simp only [twrite, twriteF, kind_in, grd, cond_true, Option.bind_some, words_mem t hk, V.asStr, e40, hr, ba_append, List.cons_append, List.nil_append]
    rw [show (t.kind == 0) = false by simpa using hk, cond_false, callK_ret2 e1, show (t.kind == 2) = false by simpa using h2, cond_false, List.length_map]
    exact e3
theorem printT_ne (t : Tm) : printT t ≠ [] := by cases t <;> simp [printT]
theorem tprint_law (t : Tm) (ht : t.top < 2 ^ 60) (hw : t.wide < 2 ^ 32) (hne : ∀ l ∈ t.all, printL l ≠ []) (hs : (printT t).length < 2 ^ 33) (σ : Sto) : ∃ σ', lim C 8 [(t.val, false)] σ = some (.ret [(.str (ba (printT t)), false)], σ') := by
 obtain ⟨σ', h1, g1⟩ := twrite_law σ.length t ht hw hne false (σ ++ [bcell σ.length false []]) [] (by simp) (by simpa using hs)
 have h2 := bldString_law g1 (by simpa using printT_ne t) (by simp; omega)
 refine ⟨σ', tprint_lim (n := 0) ?_⟩
 have e0 : [(V.nilp, false), ((V.slice 1 5 []), true)] = bcell σ.length false [] := rfl
 simp only [tprint, tprintF, e0]
 refine (callK_ret0 h1).trans ?_
 refine (callK_ret1 h2).trans ?_
 rfl
end Go.Ab.Mk
end
section
namespace Go.Ab.Mk
open Go.Proofs Go.Ab Go.Proofs.Mk
def _root_.Go.Ab.Lv.mass (l : Lv) : Nat := l.size + (printL l).length
def massL (ls : List Lv) : Nat := (ls.map fun l => l.mass + 1).sum
def Tm.mass : Tm → Nat
 | .var _ => 1
 | .sort l => l.mass + 1
 | .const s ls => s.size + massL ls + 1
 | .app a b => a.mass + b.mass + 1
 | .lam a b => a.mass + b.mass + 1
 | .pi a b => a.mass + b.mass + 1
 | .letin a b c => a.mass + b.mass + c.mass + 1
def LvRead (s : ByteArray) (l : Lv) : Prop := printL l ≠ [] ∧ ∀ x ∈ l.pars, 0 < x.size ∧ x.size ≤ s.size
structure TmRead (s : ByteArray) (p q : Nat) (t : Tm) : Prop where
 mass : t.mass ≤ 4 * (q - p)
 top : t.top < 100000
 all : ∀ l ∈ t.all, LvRead s l
theorem rlevel_read {s : ByteArray} {st : RS} (h : st.p ≤ s.size) (hc : (rlevelV (s.size + 1) s st).2.c = 0) : (rlevelV (s.size + 1) s st).1.mass ≤ 3 * ((rlevelV (s.size + 1) s st).2.p - st.p) ∧ LvRead s (rlevelV (s.size + 1) s st).1 := by
 have tk := rlevel_took s (s.size + 1) st h (.inr (by omega))
 obtain ⟨_, a1, a2, a3, a4⟩ := tk.ok hc
 exact ⟨by unfold Lv.mass; omega, a4, rlevel_names s _ st⟩
theorem rlvs_read (s : ByteArray) : ∀ (n : Nat) (st : RS), st.p ≤ s.size → (rlvsV n s st).2.c = 0 → massL (rlvsV n s st).1 ≤ 4 * ((rlvsV n s st).2.p - st.p) ∧ ∀ l ∈ (rlvsV n s st).1, LvRead s l
 | 0, st, h, _ => ⟨by simp [rlvsV, massL], fun l hl => by simp [rlvsV] at hl⟩
 | n + 1, st, h, hc => by
  unfold rlvsV at hc ⊢
  cases h1 : st.c != 0
  ·rw [h1] at hc
   cases h2 : strIs (tokV s st.p).t [41]
   ·rw [h2] at hc
    simp only [cond_false] at hc ⊢
    have g := rlevel_goes (s := s) (st := st) h
    have g2 := rlvs_gone s n (rlevelV (s.size + 1) s st).2 g.le
    obtain ⟨hc1, hp1⟩ := g2.ok hc
    obtain ⟨m1, m2⟩ := rlvs_read s n _ g.le hc
    obtain ⟨m3, m4⟩ := rlevel_read h hc1
    have := (g.ok hc1).2
    refine ⟨?_, fun l hl => ?_⟩
    ·have e : ∀ (x : Lv) (y : List Lv), massL (x :: y) = x.mass + 1 + massL y := fun x y => by simp [massL]
     rw [e]
     omega
    ·rcases List.mem_cons.1 hl with rfl | hl
     ·exact m4
     ·exact m2 l hl
   ·exact ⟨by simp [massL], fun l hl => by simp at hl⟩
  ·exact ⟨by simp [massL], fun l hl => by simp at hl⟩
theorem rname_read {s : ByteArray} {st : RS} (h : st.p ≤ s.size) (hc : (rnameV s st).2.c = 0) : (rnameV s st).1.size + st.p ≤ (rnameV s st).2.p := by
 obtain ⟨k1, k2, k3⟩ := tokV_ok s h
 unfold rnameV at hc ⊢
 simp only at hc ⊢
 cases hx : (bif !(tokV s st.p).ok || !isNameV (tokV s st.p).t then rfailV st (tokV s st.p).at_ else st).c != 0
 ·simp only [cond_false]
  omega
 ·rw [hx] at hc
  simp only [cond_true] at hc
  rw [hc] at hx
  simp at hx
theorem tm2_read {s : ByteArray} {rec : RS → Tm × RS} {f : Tm → Tm → Tm} (hf : ∀ a b, (f a b).mass = a.mass + b.mass + 1 ∧ (f a b).top = max a.top b.top ∧ (f a b).all = a.all ++ b.all) {st0 st : RS} (hp : st.p ≤ s.size) (hlt : st.c = 0 → st0.p < st.p)
  (hg : ∀ st', Gone s st st' → Goes s st' (rec st').2) (hr : ∀ st', Gone s st st' → (rec st').2.c = 0 → TmRead s st'.p (rec st').2.p (rec st').1) (hc : (tm2 rec s f st).2.c = 0) : TmRead s st0.p (tm2 rec s f st).2.p (tm2 rec s f st).1 := by
 have g0 := Gone.refl hp
 have g1 := hg st g0
 have k1 : Gone s st (rec st).2 := g1.gone
 have g2 := hg _ k1
 have k2 : Gone s st (rec (rec st).2).2 := k1.trans g2.gone
 have g3 := rtake_gone g2.le (ba [41])
 obtain ⟨c2, p3⟩ := g3.ok hc
 obtain ⟨c1, p2⟩ := g2.ok c2
 obtain ⟨c0, p1⟩ := g1.ok c1
 have r1 := hr st g0 c1
 have r2 := hr _ k1 c2
 have := hlt c0
 have m1 := r1.mass
 have m2 := r2.mass
 obtain ⟨f1, f2, f3⟩ := hf (rec st).1 (rec (rec st).2).1
 simp only [tm2] at p3 ⊢
 refine ⟨by rw [f1]; omega, by rw [f2]; exact Nat.max_lt.2 ⟨r1.top, r2.top⟩, fun l hl => ?_⟩
 rw [f3] at hl
 rcases List.mem_append.1 hl with hl | hl
 ·exact r1.all l hl
 ·exact r2.all l hl
theorem rterm_read (s : ByteArray) : ∀ (n : Nat) (st : RS), st.p ≤ s.size → (st.c ≠ 0 ∨ s.size - st.p < n) → (rtermV n s st).2.c = 0 → TmRead s st.p (rtermV n s st).2.p (rtermV n s st).1
 | 0, st, hp, hn, hc => by rcases hn with hn | hn; exact absurd hc hn; omega
 | n + 1, st, hp, hn, hc0 => by
  by_cases hc : st.c = 0
  case neg => rw [rterm_stuck hc] at hc0; exact absurd hc0 hc
  have hc' : (st.c != 0) = false := by simp [hc]
  have g1 := rnext_goes hp
  simp only [rtermV, hc', cond_false] at hc0 ⊢
  cases hbad : badTok (tokV s st.p)
  case true => rw [hbad] at hc0; exact absurd hc0 (rfail_c _ _)
  rw [hbad] at hc0
  cases h40 : strIs (tokV s st.p).t [40]
  case false =>
   rw [h40] at hc0
   simp only [cond_false] at hc0 ⊢
   have hlt := (g1.ok hc0).2
   refine ⟨by simp only [Tm.mass]; omega, ?_, fun l hl => by simp [Tm.all] at hl⟩
   simp only [badTok, h40, Bool.not_false, Bool.and_true, Bool.or_eq_false_iff, Bool.not_eq_false', Bool.not_eq_true', Bool.not_not] at hbad
   have hd := tok_num hp hbad.1 hbad.2.1 (by simpa using hbad.2.2)
   have hb := num_lt hd ((tokV s st.p).t.extract 1 (tokV s st.p).t.size).size 0 0 (by omega)
   have h5 := hd.few
   have h10 : 10 ^ ((tokV s st.p).t.extract 1 (tokV s st.p).t.size).size ≤ 10 ^ 5 := Nat.pow_le_pow_right (by omega) (by omega)
   simp only [Tm.top, numV]
   omega
  rw [h40] at hc0
  simp only [cond_true, cond_false, tmP] at hc0 ⊢
  cases hw : wordIx (tokV s (rnextV s st).2.p).t == 0
  case true => rw [hw] at hc0; exact absurd hc0 (rfail_c _ _)
  rw [hw] at hc0
  have g2 := g1.trans (rnext_goes g1.le).gone
  simp only [cond_false] at hc0 ⊢
  have hn2 : ∀ st', Goes s st st' → st'.c ≠ 0 ∨ s.size - st'.p < n := by
   intro st' h
   by_cases hz : st'.c = 0
   ·have := (h.ok hz).2
    have := h.le
    rcases hn with hn | hn
    ·exact absurd hc hn
    ·right; omega
   ·exact .inl hz
  generalize (rnextV s (rnextV s st).2).2 = st2 at g2 hc0 ⊢
  have hlt : st2.c = 0 → st.p < st2.p := fun h => (g2.ok h).2
  have hg : ∀ st', Gone s st2 st' → Goes s st' (rtermV n s st').2 := fun st' h => rterm_goes s n st' h.le (hn2 _ (g2.trans h))
  have hr : ∀ st', Gone s st2 st' → (rtermV n s st').2.c = 0 → TmRead s st'.p (rtermV n s st').2.p (rtermV n s st').1 := fun st' h h0 => rterm_read s n st' h.le (hn2 _ (g2.trans h)) h0
  unfold tmB at hc0 ⊢
  split at hc0
  ·have l1 := rlevel_goes g2.le
   have g3 := rtake_gone l1.le (ba [41])
   obtain ⟨c1, p1⟩ := g3.ok hc0
   obtain ⟨m1, m2⟩ := rlevel_read g2.le c1
   have := hlt (l1.ok c1).1
   have := (l1.ok c1).2
   simp only
   refine ⟨by simp only [Tm.mass]; omega, by simp [Tm.top], fun l hl => ?_⟩
   simp only [Tm.all, List.mem_singleton] at hl
   subst hl
   exact m2
  ·have l1 := rname_goes (s := s) g2.le
   have l2 := rlvs_gone s (s.size + 10) _ l1.le
   have g3 := rtake_gone l2.le (ba [41])
   obtain ⟨c2, p2⟩ := g3.ok hc0
   obtain ⟨c1, p1⟩ := l2.ok c2
   obtain ⟨m1, m2⟩ := rlvs_read s (s.size + 10) _ l1.le c2
   have m3 := rname_read g2.le c1
   have := hlt (l1.ok c1).1
   simp only
   refine ⟨by simp only [Tm.mass]; omega, by simp [Tm.top], fun l hl => m2 l hl⟩
  ·exact tm2_read (fun a b => ⟨rfl, rfl, rfl⟩) g2.le hlt hg hr hc0
  ·exact tm2_read (fun a b => ⟨rfl, rfl, rfl⟩) g2.le hlt hg hr hc0
  ·exact tm2_read (fun a b => ⟨rfl, rfl, rfl⟩) g2.le hlt hg hr hc0
  ·have g0 := Gone.refl g2.le
   have g1' := hg st2 g0
   have k1 : Gone s st2 (rtermV n s st2).2 := g1'.gone
   have g2' := hg _ k1
   have k2 : Gone s st2 (rtermV n s (rtermV n s st2).2).2 := k1.trans g2'.gone
   have g3' := hg _ k2
   have g4 := rtake_gone g3'.le (ba [41])
   obtain ⟨c3, p4⟩ := g4.ok hc0
   obtain ⟨c2, p3⟩ := g3'.ok c3
   obtain ⟨c1, p2⟩ := g2'.ok c2
   obtain ⟨c0, p1⟩ := g1'.ok c1
   have r1 := hr st2 g0 c1
   have r2 := hr _ k1 c2
   have r3 := hr _ k2 c3
   have := hlt c0
   have m1 := r1.mass
   have m2 := r2.mass
   have m3 := r3.mass
   simp only [tm3] at p4 ⊢
   refine ⟨by simp only [Tm.mass]; omega, by simp only [Tm.top]; exact Nat.max_lt.2 ⟨r1.top, Nat.max_lt.2 ⟨r2.top, r3.top⟩⟩, fun l hl => ?_⟩
   simp only [Tm.all] at hl
   rcases List.mem_append.1 hl with hl | hl
   ·exact r1.all l hl
   ·rcases List.mem_append.1 hl with hl | hl
    ·exact r2.all l hl
    ·exact r3.all l hl
theorem tparse_read {s : ByteArray} (h : (tparseV s).2.1 = 0) : s.size ≤ 20000 ∧ TmRead s 0 s.size (tparseV s).1 := by
 unfold tparseV at *
 cases hb : decide ((s.size : Int) > 20000)
 ·rw [hb] at h
  have tk := rterm_goes s (s.size + 1) ⟨0, 0, 0⟩ (by simp) (.inr (by simp))
  simp only [cond_false] at h ⊢
  have hb' : s.size ≤ 20000 := by have := of_decide_eq_false hb; omega
  cases hd : (rdoneV s (rtermV (s.size + 1) s ⟨0, 0, 0⟩).2).c != 0
  ·rw [hd] at h
   simp only [cond_false] at h ⊢
   have hc : (rtermV (s.size + 1) s ⟨0, 0, 0⟩).2.c = 0 := by
    have hd' : (rdoneV s (rtermV (s.size + 1) s ⟨0, 0, 0⟩).2).c = 0 := h
    simp only [rdoneV] at hd'
    cases hx : (!(tokV s (rtermV (s.size + 1) s ⟨0, 0, 0⟩).2.p).ok || !isNo (tokV s (rtermV (s.size + 1) s ⟨0, 0, 0⟩).2.p).t)
    ·rw [hx] at hd'; exact hd'
    ·rw [hx] at hd'; exact absurd hd' (rfail_c _ _)
   have r := rterm_read s (s.size + 1) ⟨0, 0, 0⟩ (by simp) (.inr (by simp)) hc
   have := tk.le
   have m := r.mass
   exact ⟨hb', by simp only at m ⊢; omega, r.top, r.all⟩
  ·rw [hd] at h
   simp only [cond_true] at h
   rw [h] at hd; simp at hd
 ·rw [hb] at h
  simp at h
theorem depth_mass : ∀ t : Tm, t.depth ≤ t.mass
 | .var _ => by simp [Tm.depth]
 | .sort _ => by simp [Tm.depth]
 | .const .. => by simp [Tm.depth]
 | .app a b => by have := depth_mass a; have := depth_mass b; simp only [Tm.depth, Tm.mass]; omega
 | .lam a b => by have := depth_mass a; have := depth_mass b; simp only [Tm.depth, Tm.mass]; omega
 | .pi a b => by have := depth_mass a; have := depth_mass b; simp only [Tm.depth, Tm.mass]; omega
 | .letin a b c => by have := depth_mass a; have := depth_mass b; have := depth_mass c; simp only [Tm.depth, Tm.mass]; omega
theorem massL_len : ∀ ls : List Lv, ls.length ≤ massL ls
 | [] => by simp [massL]
 | l :: ls => by have := massL_len ls; simp only [massL, List.map_cons, List.sum_cons, List.length_cons] at this ⊢; omega
theorem wide_mass : ∀ t : Tm, t.wide ≤ t.mass
 | .var _ => by simp [Tm.wide, Tm.mass]
 | .sort _ => by simp [Tm.wide, Tm.mass]
 | .const s ls => by have := massL_len ls; simp only [Tm.wide, Tm.mass]; omega
 | .app a b => by have := wide_mass a; have := wide_mass b; simp only [Tm.wide, Tm.mass]; omega
 | .lam a b => by have := wide_mass a; have := wide_mass b; simp only [Tm.wide, Tm.mass]; omega
 | .pi a b => by have := wide_mass a; have := wide_mass b; simp only [Tm.wide, Tm.mass]; omega
 | .letin a b c => by have := wide_mass a; have := wide_mass b; have := wide_mass c; simp only [Tm.wide, Tm.mass]; omega
theorem spine_mass : ∀ t : Tm, t.spine.length ≤ t.mass
 | .var _ => by simp [Tm.spine]
 | .sort _ => by simp [Tm.spine]
 | .const .. => by simp [Tm.spine]
 | .app a b => by have := spine_mass a; simp only [Tm.spine, Tm.mass, List.length_append, List.length_singleton]; omega
 | .lam a b => by simp [Tm.spine]
 | .pi a b => by simp [Tm.spine]
 | .letin a b c => by simp [Tm.spine]
theorem dec_digits : ∀ (k n : Nat), n < 10 ^ (k + 1) → (Go.Lib.decDigits n).length ≤ k + 1
 | 0, n, h => by rw [Go.Lib.decDigits, dif_pos (by simpa using h)]; simp
 | k + 1, n, h => by
  rw [Go.Lib.decDigits]
  split
  ·simp
  ·have := dec_digits k (n / 10) (by rw [Nat.pow_succ] at h; omega)
   simp only [List.length_append, List.length_singleton]
   omega
end Go.Ab.Mk
end
section
namespace Go.Ab.Mk
open Go.Proofs Go.Ab
open Go.Lib (decDigits)
theorem dd_lt {n : Nat} (h : n < 10) : decDigits n = [UInt8.ofNat (48 + n)] := by rw [decDigits, dif_pos h]
theorem dd_ge {n : Nat} (h : ¬ n < 10) : decDigits n = decDigits (n / 10) ++ [UInt8.ofNat (48 + n % 10)] := by rw [decDigits, dif_neg h]
theorem dig_nat {n : Nat} (h : n < 10) : (UInt8.ofNat (48 + n)).toNat = 48 + n := by rw [UInt8.toNat_ofNat']; omega
theorem dd_digit : ∀ (k n : Nat), n ≤ k → ∀ c ∈ decDigits n, 48 ≤ c.toNat ∧ c.toNat ≤ 57
 | 0, n, h, c, hc => by
  rw [dd_lt (by omega), List.mem_singleton] at hc
  subst hc
  rw [dig_nat (by omega)]; omega
 | k + 1, n, h, c, hc => by
  by_cases hn : n < 10
  ·rw [dd_lt hn, List.mem_singleton] at hc
   subst hc
   rw [dig_nat hn]; omega
  ·rw [dd_ge hn, List.mem_append, List.mem_singleton] at hc
   rcases hc with hc | rfl
   ·exact dd_digit k (n / 10) (by omega) c hc
   ·rw [dig_nat (by omega)]; omega
theorem dd_head : ∀ (k n : Nat), n ≤ k → 0 < n → ∃ c L, decDigits n = c :: L ∧ c.toNat ≠ 48
 | 0, n, h, h0 => by omega
 | k + 1, n, h, h0 => by
  by_cases hn : n < 10
  ·exact ⟨_, [], dd_lt hn, by rw [dig_nat hn]; omega⟩
  ·obtain ⟨c, L, h1, h2⟩ := dd_head k (n / 10) (by omega) (by omega)
   exact ⟨c, L ++ [UInt8.ofNat (48 + n % 10)], by rw [dd_ge hn, h1]; rfl, h2⟩
def listNum (L : List UInt8) (acc : Nat) : Nat := L.foldl (fun a c => 10 * a + (c.toNat - 48)) acc
theorem dd_listNum : ∀ (k n : Nat), n ≤ k → listNum (decDigits n) 0 = n
 | 0, n, h => by rw [dd_lt (by omega)]; simp only [listNum, List.foldl_cons, List.foldl_nil, dig_nat (show n < 10 by omega)]; omega
 | k + 1, n, h => by
  by_cases hn : n < 10
  ·rw [dd_lt hn]; simp only [listNum, List.foldl_cons, List.foldl_nil, dig_nat hn]; omega
  ·have := dd_listNum k (n / 10) (by omega)
   rw [dd_ge hn]
   simp only [listNum, List.foldl_append, List.foldl_cons, List.foldl_nil, dig_nat (show n % 10 < 10 by omega)] at this ⊢
   rw [this]
   omega
theorem byteAt_ba {L : List UInt8} {i : Nat} (h : i < L.length) : byteAt (ba L) i = ((L[i]).toNat : Int) := by simp [byteAt, ba, List.getD, h]
theorem numFrom_list (L : List UInt8) : ∀ (k i acc : Nat), L.length - i = k → numFrom (ba L) i acc = listNum (L.drop i) acc
 | 0, i, acc, hk => by rw [numFrom_end (by rw [ba_size]; omega), List.drop_eq_nil_of_le (by omega)]; rfl
 | k + 1, i, acc, hk => by
  have hi : i < L.length := by omega
  rw [numFrom_go (by rw [ba_size]; omega), numFrom_list L k (i + 1) _ (by omega), List.drop_eq_getElem_cons hi, byteAt_ba hi]
  rfl
theorem numV_dd (n : Nat) : numV (ba (decDigits n)) = n := by
 unfold numV
 rw [numFrom_list _ _ 0 0 rfl, List.drop_zero]
 exact dd_listNum n n (Nat.le_refl _)
theorem isDigit_of {c : UInt8} (h : 48 ≤ c.toNat ∧ c.toNat ≤ 57) : isDigit (c.toNat : Int) = true := by
 simp only [isDigit, Bool.and_eq_true, decide_eq_true_eq]; omega
theorem dd_pos (n : Nat) : 0 < (decDigits n).length := by
 by_cases hn : n < 10
 ·rw [dd_lt hn]; simp
 ·rw [dd_ge hn]; simp
theorem tok_hash {s : ByteArray} {p m : Nat} {Z : List UInt8} (h : At s p (35 :: decDigits m ++ Z)) (hZ : Sep Z) (hm : m < 100000) : tokV s p = ⟨ba (35 :: decDigits m), p, true⟩ := by
 have hlen := dec_digits 4 m (by simpa using hm)
 have hpos := dd_pos m
 have e : byteAt s p = 35 := At.head (Y := decDigits m ++ Z) h
 rw [tok_here (by rw [e]; rfl)]
 have ht : At s (p + 1) (decDigits m ++ Z) := At.tail (Y := decDigits m ++ Z) h
 have hz := ht.size
 rw [List.length_append] at hz
 have bw : ∀ j (hj : j < (decDigits m).length), byteAt s (p + 1 + j) = (((decDigits m)[j]).toNat : Int) := by
  intro j hj
  rw [ht.byte j]
  simp [List.getD, List.getElem?_append_left hj, hj]
 have sc : scan isDigit s (p + 1) = p + 1 + (decDigits m).length := scan_to (by omega) (hZ.stop ht.drop isDigit rfl rfl) _ (p + 1) rfl fun j h1 h2 => by
  have := bw (j - (p + 1)) (by omega)
  rw [show p + 1 + (j - (p + 1)) = j by omega] at this
  rw [this]
  exact isDigit_of (dd_digit m m (Nat.le_refl _) _ (List.getElem_mem _))
 have ex : s.extract p (p + 1 + (decDigits m).length) = ba (35 :: decDigits m) := by
  have := At.ext (A := 35 :: decDigits m) h
  rw [List.length_cons, show p + ((decDigits m).length + 1) = p + 1 + (decDigits m).length by omega] at this
  exact this
 have h48 : (decide ((decDigits m).length > 1) && byteAt s (p + 1) == 48) = false := by
  by_cases hl : (decDigits m).length > 1
  ·have hm0 : 0 < m := by
    rcases Nat.eq_zero_or_pos m with rfl | h0
    ·rw [dd_lt (by omega)] at hl; simp at hl
    ·exact h0
   obtain ⟨c, L, h1, h2⟩ := dd_head m m (Nat.le_refl _) hm0
   have := bw 0 (by omega)
   rw [Nat.add_zero] at this
   rw [this]
   simp only [h1, List.getElem_cons_zero]
   have : ((c.toNat : Int) == 48) = false := by rw [beq_eq_false_iff_ne]; omega
   rw [this, Bool.and_false]
  ·rw [decide_eq_false hl]; rfl
 have c1 : (p + 1 + (decDigits m).length == p + 1) = false := by rw [beq_eq_false_iff_ne]; omega
 have c2 : decide ((decDigits m).length > 5) = false := decide_eq_false (by omega)
 have c3 : p + 1 + (decDigits m).length - (p + 1) = (decDigits m).length := by omega
 unfold tokAt
 rw [ne_end (Y := decDigits m ++ Z) h, e, sc]
 simp only [cond_false, cond_true, numTok, show ((35 : Int) == 40) = false from rfl, show ((35 : Int) == 41) = false from rfl, show nmByte 35 true = false from rfl, show ((35 : Int) == 35) = true from rfl, Bool.true_or, c1, c3, c2, h48, ex]
theorem word_ok {w : List UInt8} (h0 : 0 < w.length) (h1 : w.length ≤ 40) (h2 : nmByte (byteAt (ba w) 0) true = true) (h3 : ∀ i, i < w.length → nmByte (byteAt (ba w) i) false = true) : NameOk (ba w) :=
 ⟨by rw [ba_size]; exact h0, by rw [ba_size]; exact h1, h2, fun i _ hi => h3 i (by rwa [ba_size] at hi)⟩
theorem w_sort : NameOk (ba wsort) := word_ok (by decide) (by decide) rfl (fun i hi => by
 have : i = 0 ∨ i = 1 ∨ i = 2 ∨ i = 3 := by simp only [wsort, List.length_cons, List.length_nil] at hi; omega
 rcases this with rfl | rfl | rfl | rfl <;> rfl)
theorem w_const : NameOk (ba wconst) := word_ok (by decide) (by decide) rfl (fun i hi => by
 have : i = 0 ∨ i = 1 ∨ i = 2 ∨ i = 3 ∨ i = 4 := by simp only [wconst, List.length_cons, List.length_nil] at hi; omega
 rcases this with rfl | rfl | rfl | rfl | rfl <;> rfl)
theorem w_app : NameOk (ba wapp) := word_ok (by decide) (by decide) rfl (fun i hi => by
 have : i = 0 ∨ i = 1 ∨ i = 2 := by simp only [wapp, List.length_cons, List.length_nil] at hi; omega
 rcases this with rfl | rfl | rfl <;> rfl)
theorem w_lam : NameOk (ba wlam) := word_ok (by decide) (by decide) rfl (fun i hi => by
 have : i = 0 ∨ i = 1 ∨ i = 2 := by simp only [wlam, List.length_cons, List.length_nil] at hi; omega
 rcases this with rfl | rfl | rfl <;> rfl)
theorem w_pi : NameOk (ba wpi) := word_ok (by decide) (by decide) rfl (fun i hi => by
 have : i = 0 ∨ i = 1 := by simp only [wpi, List.length_cons, List.length_nil] at hi; omega
 rcases this with rfl | rfl <;> rfl)
theorem w_let : NameOk (ba wlet) := word_ok (by decide) (by decide) rfl (fun i hi => by
 have : i = 0 ∨ i = 1 ∨ i = 2 := by simp only [wlet, List.length_cons, List.length_nil] at hi; omega
 rcases this with rfl | rfl | rfl <;> rfl)
theorem wIx : wordIx (ba wsort) = 1 ∧ wordIx (ba wconst) = 2 ∧ wordIx (ba wapp) = 3 ∧ wordIx (ba wlam) = 4 ∧ wordIx (ba wpi) = 5 ∧ wordIx (ba wlet) = 6 := by
 simp only [wordIx, strIs_ba]
 exact ⟨rfl, rfl, rfl, rfl, rfl, rfl⟩
theorem rname_ok {s : ByteArray} {q p : Nat} {w : List UInt8} {a : Int} (h : tokV s q = ⟨ba w, p, true⟩) (hw : NameOk (ba w)) : rnameV s ⟨q, 0, a⟩ = (ba w, ⟨p + w.length, 0, a⟩) := by
 unfold rnameV
 simp only [h, (nameOk_is hw).1, Bool.not_true, Bool.or_self, cond_false, bne_self_eq_false, ba_size]
theorem lv_tok {s : ByteArray} {p : Nat} {Z : List UInt8} : ∀ {l : Lv}, At s p (printL l ++ Z) → Sep Z → (∀ x ∈ l.pars, NameOk x) → strIs (tokV s p).t [41] = false
 | .zero, h, hZ, _ => by rw [tok_nought h hZ]; exact strIs_ba _ _
 | .param x, h, hZ, hp => by
  have hx : NameOk (ba x.data.toList) := by rw [ba_of]; exact hp x (by simp [Lv.pars])
  rw [tok_word h hx hZ, strIs_ba]
  cases hw : x.data.toList == [41] with
  | false => exact hw
  | true =>
   have := hx.first
   rw [beq_iff_eq.1 hw] at this
   simp [show nmByte (byteAt (ba [41]) 0) true = false from rfl] at this
 | .succ l, h, hZ, _ => by rw [tok_open (Y := ([115, 32] ++ printL l ++ [41] ++ Z)) (by simpa [printL] using h)]; exact strIs_ba _ _
 | .max x y, h, hZ, _ => by rw [tok_open (Y := ([109, 97, 120, 32] ++ printL x ++ [32] ++ printL y ++ [41] ++ Z)) (by simpa [printL] using h)]; exact strIs_ba _ _
 | .imax x y, h, hZ, _ => by rw [tok_open (Y := ([105, 109, 97, 120, 32] ++ printL x ++ [32] ++ printL y ++ [41] ++ Z)) (by simpa [printL] using h)]; exact strIs_ba _ _
theorem sep_lvs (ls : List Lv) (Z : List UInt8) : Sep (lvsL ls ++ 41 :: Z) := by
 cases ls with
 | nil => exact sep_close Z
 | cons l ls => rw [lvsL_cons]; exact sep_blank _
theorem rlvs_rt {s : ByteArray} {a : Int} {Z : List UInt8} : ∀ (ls : List Lv) (n p : Nat), At s p (lvsL ls ++ 41 :: Z) → (∀ l ∈ ls, ∀ x ∈ l.pars, NameOk x) → ls.length < n → rlvsV n s ⟨p, 0, a⟩ = (ls, ⟨p + (lvsL ls).length, 0, a⟩)
 | ls, 0, _, _, _, hn => by omega
 | [], n + 1, p, h, _, _ => by
  rw [rlvsV]
  simp only [tok_close (Y := Z) h, strIs_ba, bne_self_eq_false, cond_false, beq_self_eq_true, cond_true, lvsL_nil, List.length_nil, Nat.add_zero]
 | l :: ls, n + 1, p, h, hp, hn => by
  have h' : At s p (32 :: (printL l ++ (lvsL ls ++ 41 :: Z))) := by
   have : (lvsL (l :: ls) ++ 41 :: Z : List UInt8) = 32 :: (printL l ++ (lvsL ls ++ 41 :: Z)) := by rw [lvsL_cons]; simp
   rw [← this]; exact h
  have hl := hp l (List.mem_cons_self ..)
  have t1 := lv_tok h'.tail (sep_lvs ls Z) hl
  rw [← tok_blank h'] at t1
  have hz := h'.size
  simp only [List.length_cons, List.length_append] at hz
  have h1 := rt l (s.size + 1) (a := a) h'.tail (tok_blank h') (sep_lvs ls Z) hl (by have := size_print l hl; omega)
  have h2 := rlvs_rt (a := a) ls n (p + 1 + (printL l).length) h'.tail.drop (fun m hm => hp m (List.mem_cons_of_mem _ hm)) (by simp at hn; omega)
  rw [rlvsV]
  simp only [bne_self_eq_false, cond_false, t1, h1, h2, lvsL_cons, List.length_append, List.length_cons]
  simp
  omega
structure TOk1 (t : Tm) : Prop where
 top : t.top < 100000
 lv : ∀ l ∈ t.all, ∀ x ∈ l.pars, NameOk x
def Tm.names : Tm → List ByteArray
 | .const s _ => [s]
 | .app a b => a.names ++ b.names
 | .lam a b => a.names ++ b.names
 | .pi a b => a.names ++ b.names
 | .letin a b c => a.names ++ (b.names ++ c.names)
 | _ => []
structure TOk (t : Tm) : Prop where
 top : t.top < 100000
 lv : ∀ l ∈ t.all, ∀ x ∈ l.pars, NameOk x
 names : ∀ x ∈ t.names, NameOk x
theorem rt_headT {s : ByteArray} {q p : Nat} {w Y : List UInt8} {a : Int} (hw : NameOk (ba w)) (hY : Sep Y) (hk : wordIx (ba w) ≠ 0) (h : At s p (40 :: (w ++ Y))) (hq : tokV s q = tokV s p) (n : Nat) :
  rtermV (n + 1) s ⟨q, 0, a⟩ = tmB (rtermV n s) s (wordIx (ba w)) ⟨p + 1 + w.length, 0, a⟩ ∧ At s (p + 1 + w.length) Y := by
 have t0 := hq.trans (tok_open h)
 have hn := rnext_ok (a := a) t0 (by rw [isNo_eq]; rfl)
 have ht := tok_word h.tail hw hY
 have hno : isNo (ba w) = false := by rw [isNo_eq]; simp [nameOk_ne hw]
 have hn2 := rnext_ok (a := a) ht hno
 refine ⟨?_, h.tail.drop⟩
 have hbad : badTok ⟨ba [40], p, true⟩ = false := by
  simp only [badTok, isNo_eq, strIs_ba]
  rfl
 rw [rtermV]
 simp only [t0, hbad, bne_self_eq_false, cond_false, strIs_ba, beq_self_eq_true, cond_true, hn, ba_size, List.length_singleton]
 unfold tmP
 rw [ht]
 simp only [show (wordIx (ba w) == 0) = false by simpa using hk, cond_false, hn2, ba_size]
theorem rtT : ∀ (t : Tm) (n : Nat) {s : ByteArray} {q p : Nat} {Z : List UInt8} {a : Int}, At s p (printT t ++ Z) → tokV s q = tokV s p → Sep Z → TOk t → t.depth < n →
  rtermV n s ⟨q, 0, a⟩ = (t, ⟨p + (printT t).length, 0, a⟩)
 | t, 0, _, _, _, _, _, _, _, _, _, hn => by omega
 | .var m, n + 1, s, q, p, Z, a, h, hq, hZ, ok, hn => by
  have hm : m < 100000 := ok.top
  have t0 := hq.trans (tok_hash h hZ hm)
  have hno : isNo (ba (35 :: decDigits m)) = false := by rw [isNo_eq]; rfl
  have h40 : strIs (ba (35 :: decDigits m)) [40] = false := by rw [strIs_ba]; simp
  have hbad : badTok ⟨ba (35 :: decDigits m), p, true⟩ = false := by
   simp only [badTok, hno, h40]
   rfl
  have hx : (ba (35 :: decDigits m)).extract 1 (ba (35 :: decDigits m)).size = ba (decDigits m) := by
   have h0 : At (ba (35 :: decDigits m)) 1 (decDigits m ++ []) := ⟨[35], by simp, rfl⟩
   have := h0.ext
   rw [ba_size, List.length_cons, Nat.add_comm]
   exact this
  rw [ba_size] at hx
  rw [rtermV]
  simp only [t0, hbad, bne_self_eq_false, cond_false, h40, hx, numV_dd, rnext_ok (a := a) t0 hno, ba_size, printT]
 | .sort l, n + 1, s, q, p, Z, a, h, hq, hZ, ok, hn => by
  have h' : At s p (40 :: (wsort ++ 32 :: (printL l ++ 41 :: Z))) := by
   have : (printT (.sort l) ++ Z : List UInt8) = 40 :: (wsort ++ 32 :: (printL l ++ 41 :: Z)) := by simp [printT, lvsL, ksL]
   rw [← this]; exact h
  obtain ⟨e1, e2⟩ := rt_headT (a := a) w_sort (sep_blank _) (by rw [wIx.1]; decide) h' hq n
  have hl : ∀ x ∈ l.pars, NameOk x := ok.lv l (by simp [Tm.all])
  have hz := e2.size
  simp only [List.length_cons, List.length_append] at hz
  have h3 := rt l (s.size + 1) (a := a) e2.tail (tok_blank e2) (sep_close Z) hl (by have := size_print l hl; omega)
  have h4 := rtake_ok (w := ba [41]) (a := a) (tok_close e2.tail.drop) rfl
  rw [e1, wIx.1]
  simp only [tmB, h3, h4, ba_size]
  simp [printT, lvsL, ksL]
  omega
 | .const x ls, n + 1, s, q, p, Z, a, h, hq, hZ, ok, hn => by
  have key : ∀ w, NameOk (ba w) → At s p (40 :: (wconst ++ 32 :: (w ++ (lvsL ls ++ 41 :: Z)))) → rtermV (n + 1) s ⟨q, 0, a⟩ = (.const (ba w) ls, ⟨p + 1 + wconst.length + 1 + w.length + (lvsL ls).length + 1, 0, a⟩) := by
   intro w hw h'
   obtain ⟨e1, e2⟩ := rt_headT (a := a) w_const (sep_blank _) (by rw [wIx.2.1]; decide) h' hq n
   have t1 := (tok_blank e2).trans (tok_word e2.tail hw (sep_lvs ls Z))
   have h3 := rname_ok (a := a) t1 hw
   have e3 := e2.tail.drop
   have hz := e3.size
   have hlen : ls.length ≤ (lvsL ls).length := by
    clear h e1 e2 e3 hz t1 h3 h' hn ok
    induction ls with
    | nil => simp
    | cons l ls ih => rw [lvsL_cons]; simp only [List.length_cons, List.length_append]; omega
   rw [List.length_append] at hz
   have h4 := rlvs_rt (a := a) ls (s.size + 10) _ e3 (fun l hl => ok.lv l hl) (by omega)
   have h5 := rtake_ok (w := ba [41]) (a := a) (tok_close e3.drop) rfl
   rw [e1, wIx.2.1]
   simp only [tmB, h3, h4, h5, ba_size]
   simp
  have hx : NameOk (ba x.data.toList) := by rw [ba_of]; exact ok.names x (by simp [Tm.names])
  have := key x.data.toList hx (by
   have e : (printT (.const x ls) ++ Z : List UInt8) = 40 :: (wconst ++ 32 :: (x.data.toList ++ (lvsL ls ++ 41 :: Z))) := by simp [printT, ksL]
   rw [← e]; exact h)
  rw [this, ba_of]
  simp [printT, ksL]
  omega
 | .app x y, n + 1, s, q, p, Z, a, h, hq, hZ, ok, hn => by
  have h' : At s p (40 :: (wapp ++ 32 :: (printT x ++ 32 :: (printT y ++ 41 :: Z)))) := by
   have : (printT (.app x y) ++ Z : List UInt8) = 40 :: (wapp ++ 32 :: (printT x ++ 32 :: (printT y ++ 41 :: Z))) := by simp [printT, ksL]
   rw [← this]; exact h
  simp only [Tm.depth] at hn
  have hx : TOk x := ⟨by have := ok.top; simp only [Tm.top] at this; omega, fun l hl => ok.lv l (List.mem_append_left _ hl), fun l hl => ok.names l (List.mem_append_left _ hl)⟩
  have hy : TOk y := ⟨by have := ok.top; simp only [Tm.top] at this; omega, fun l hl => ok.lv l (List.mem_append_right _ hl), fun l hl => ok.names l (List.mem_append_right _ hl)⟩
  obtain ⟨e1, e2⟩ := rt_headT (a := a) w_app (sep_blank _) (by rw [wIx.2.2.1]; decide) h' hq n
  have h3 := rtT x n (a := a) e2.tail (tok_blank e2) (sep_blank _) hx (by omega)
  have h5 := rtT y n (a := a) e2.tail.drop.tail (tok_blank e2.tail.drop) (sep_close Z) hy (by omega)
  have h4 := rtake_ok (w := ba [41]) (a := a) (tok_close e2.tail.drop.tail.drop) rfl
  rw [e1, wIx.2.2.1]
  simp only [tmB, tm2, h3, h5, h4, ba_size]
  simp [printT, ksL]
  omega
 | .lam x y, n + 1, s, q, p, Z, a, h, hq, hZ, ok, hn => by
  have h' : At s p (40 :: (wlam ++ 32 :: (printT x ++ 32 :: (printT y ++ 41 :: Z)))) := by
   have : (printT (.lam x y) ++ Z : List UInt8) = 40 :: (wlam ++ 32 :: (printT x ++ 32 :: (printT y ++ 41 :: Z))) := by simp [printT, ksL]
   rw [← this]; exact h
  simp only [Tm.depth] at hn
  have hx : TOk x := ⟨by have := ok.top; simp only [Tm.top] at this; omega, fun l hl => ok.lv l (List.mem_append_left _ hl), fun l hl => ok.names l (List.mem_append_left _ hl)⟩
  have hy : TOk y := ⟨by have := ok.top; simp only [Tm.top] at this; omega, fun l hl => ok.lv l (List.mem_append_right _ hl), fun l hl => ok.names l (List.mem_append_right _ hl)⟩
  obtain ⟨e1, e2⟩ := rt_headT (a := a) w_lam (sep_blank _) (by rw [wIx.2.2.2.1]; decide) h' hq n
  have h3 := rtT x n (a := a) e2.tail (tok_blank e2) (sep_blank _) hx (by omega)
  have h5 := rtT y n (a := a) e2.tail.drop.tail (tok_blank e2.tail.drop) (sep_close Z) hy (by omega)
  have h4 := rtake_ok (w := ba [41]) (a := a) (tok_close e2.tail.drop.tail.drop) rfl
  rw [e1, wIx.2.2.2.1]
  simp only [tmB, tm2, h3, h5, h4, ba_size]
  simp [printT, ksL]
  omega
 | .pi x y, n + 1, s, q, p, Z, a, h, hq, hZ, ok, hn => by
  have h' : At s p (40 :: (wpi ++ 32 :: (printT x ++ 32 :: (printT y ++ 41 :: Z)))) := by
   have : (printT (.pi x y) ++ Z : List UInt8) = 40 :: (wpi ++ 32 :: (printT x ++ 32 :: (printT y ++ 41 :: Z))) := by simp [printT, ksL]
   rw [← this]; exact h
  simp only [Tm.depth] at hn
  have hx : TOk x := ⟨by have := ok.top; simp only [Tm.top] at this; omega, fun l hl => ok.lv l (List.mem_append_left _ hl), fun l hl => ok.names l (List.mem_append_left _ hl)⟩
  have hy : TOk y := ⟨by have := ok.top; simp only [Tm.top] at this; omega, fun l hl => ok.lv l (List.mem_append_right _ hl), fun l hl => ok.names l (List.mem_append_right _ hl)⟩
  obtain ⟨e1, e2⟩ := rt_headT (a := a) w_pi (sep_blank _) (by rw [wIx.2.2.2.2.1]; decide) h' hq n
  have h3 := rtT x n (a := a) e2.tail (tok_blank e2) (sep_blank _) hx (by omega)
  have h5 := rtT y n (a := a) e2.tail.drop.tail (tok_blank e2.tail.drop) (sep_close Z) hy (by omega)
  have h4 := rtake_ok (w := ba [41]) (a := a) (tok_close e2.tail.drop.tail.drop) rfl
  rw [e1, wIx.2.2.2.2.1]
  simp only [tmB, tm2, h3, h5, h4, ba_size]
  simp [printT, ksL]
  omega
 | .letin x y z, n + 1, s, q, p, Z, a, h, hq, hZ, ok, hn => by
  have h' : At s p (40 :: (wlet ++ 32 :: (printT x ++ 32 :: (printT y ++ 32 :: (printT z ++ 41 :: Z))))) := by
   have : (printT (.letin x y z) ++ Z : List UInt8) = 40 :: (wlet ++ 32 :: (printT x ++ 32 :: (printT y ++ 32 :: (printT z ++ 41 :: Z)))) := by simp [printT, ksL]
   rw [← this]; exact h
  simp only [Tm.depth] at hn
  have hx : TOk x := ⟨by have := ok.top; simp only [Tm.top] at this; omega, fun l hl => ok.lv l (List.mem_append_left _ hl), fun l hl => ok.names l (List.mem_append_left _ hl)⟩
  have hy : TOk y := ⟨by have := ok.top; simp only [Tm.top] at this; omega, fun l hl => ok.lv l (List.mem_append_right _ (List.mem_append_left _ hl)), fun l hl => ok.names l (List.mem_append_right _ (List.mem_append_left _ hl))⟩
  have hz : TOk z := ⟨by have := ok.top; simp only [Tm.top] at this; omega, fun l hl => ok.lv l (List.mem_append_right _ (List.mem_append_right _ hl)), fun l hl => ok.names l (List.mem_append_right _ (List.mem_append_right _ hl))⟩
  obtain ⟨e1, e2⟩ := rt_headT (a := a) w_let (sep_blank _) (by rw [wIx.2.2.2.2.2]; decide) h' hq n
  have h3 := rtT x n (a := a) e2.tail (tok_blank e2) (sep_blank _) hx (by omega)
  have h5 := rtT y n (a := a) e2.tail.drop.tail (tok_blank e2.tail.drop) (sep_blank _) hy (by omega)
  have h6 := rtT z n (a := a) e2.tail.drop.tail.drop.tail (tok_blank e2.tail.drop.tail.drop) (sep_close Z) hz (by omega)
  have h4 := rtake_ok (w := ba [41]) (a := a) (tok_close e2.tail.drop.tail.drop.tail.drop) rfl
  rw [e1, wIx.2.2.2.2.2]
  simp only [tmB, tm3, h3, h5, h6, h4, ba_size]
  simp [printT, ksL]
  omega
theorem depth_print : ∀ t : Tm, t.depth ≤ (printT t).length
 | .var _ => by simp [Tm.depth]
 | .sort _ => by simp [Tm.depth]
 | .const .. => by simp [Tm.depth]
 | .app a b => by have := depth_print a; have := depth_print b; simp only [Tm.depth, printT, ksL, List.length_cons, List.length_append, List.length_nil, List.flatMap_cons, List.flatMap_nil]; omega
 | .lam a b => by have := depth_print a; have := depth_print b; simp only [Tm.depth, printT, ksL, List.length_cons, List.length_append, List.length_nil, List.flatMap_cons, List.flatMap_nil]; omega
 | .pi a b => by have := depth_print a; have := depth_print b; simp only [Tm.depth, printT, ksL, List.length_cons, List.length_append, List.length_nil, List.flatMap_cons, List.flatMap_nil]; omega
 | .letin a b c => by have := depth_print a; have := depth_print b; have := depth_print c; simp only [Tm.depth, printT, ksL, List.length_cons, List.length_append, List.length_nil, List.flatMap_cons, List.flatMap_nil]; omega
theorem tparse_print {t : Tm} (h : TOk t) (hb : (printT t).length ≤ 20000) : tparseV (ba (printT t)) = (t, 0, 0) := by
 have h0 : At (ba (printT t)) 0 (printT t ++ []) := ⟨[], by simp, rfl⟩
 have h1 := rtT t ((ba (printT t)).size + 1) (a := 0) h0 rfl (.inl rfl) h (by rw [ba_size]; have := depth_print t; omega)
 have h2 := tok_end h0.drop
 have hz : decide (((ba (printT t)).size : Int) > 20000) = false := decide_eq_false (by rw [ba_size]; omega)
 unfold tparseV
 rw [hz]
 simp only [cond_false, h1]
 have h3 : rdoneV (ba (printT t)) ⟨0 + (printT t).length, 0, 0⟩ = ⟨0 + (printT t).length, 0, 0⟩ := by
  unfold rdoneV
  simp only [h2, Bool.not_true, isNo_eq, beq_self_eq_true, Bool.or_self, cond_false]
 rw [h3]
 rfl
theorem tparseV_long {t : Tm} (hb : ¬ (printT t).length ≤ 20000) : tparseV (ba (printT t)) = (.var 0, 2, 0) := by
 unfold tparseV
 rw [show decide (((ba (printT t)).size : Int) > 20000) = true from decide_eq_true (by rw [ba_size]; omega)]
 rfl
theorem rname_named {s : ByteArray} {st : RS} (hc : (rnameV s st).2.c = 0) : NameOk (rnameV s st).1 := by
 unfold rnameV at hc ⊢
 simp only at hc ⊢
 cases hx : (!(tokV s st.p).ok || !isNameV (tokV s st.p).t)
 ·rw [hx] at hc
  simp only [Bool.or_eq_false_iff, Bool.not_eq_false'] at hx
  simp only [cond_false] at hc ⊢
  cases h2 : st.c != 0
  ·simp only [cond_false]
   exact tok_name hx.2
  ·rw [h2] at hc
   simp only [cond_true] at hc
   rw [hc] at h2
   simp at h2
 ·rw [hx] at hc
  simp only [cond_true] at hc
  have hf : ((rfailV st (tokV s st.p).at_).c != 0) = true := by simpa using rfail_c st (tokV s st.p).at_
  rw [hf] at hc
  exact absurd hc (rfail_c _ _)
theorem rlvs_named (s : ByteArray) : ∀ (n : Nat) (st : RS), ∀ l ∈ (rlvsV n s st).1, ∀ x ∈ l.pars, NameOk x
 | 0, st, l, h => by simp [rlvsV] at h
 | n + 1, st, l, h => by
  unfold rlvsV at h
  cases h1 : st.c != 0
  ·rw [h1] at h
   cases h2 : strIs (tokV s st.p).t [41]
   ·rw [h2] at h
    simp only [cond_false] at h
    rcases List.mem_cons.1 h with rfl | h
    ·exact rlevel_named s _ _
    ·exact rlvs_named s n _ l h
   ·rw [h2] at h; simp at h
  ·rw [h1] at h; simp at h
structure Named (t : Tm) : Prop where
 lv : ∀ l ∈ t.all, ∀ x ∈ l.pars, NameOk x
 names : ∀ x ∈ t.names, NameOk x
theorem Named.leaf : Named (.var 0) := ⟨fun l hl => by simp [Tm.all] at hl, fun x hx => by simp [Tm.names] at hx⟩
theorem tm2_named {s : ByteArray} {rec : RS → Tm × RS} {f : Tm → Tm → Tm} (hf : ∀ a b, (f a b).all = a.all ++ b.all ∧ (f a b).names = a.names ++ b.names) {st : RS} (hp : st.p ≤ s.size)
  (hg : ∀ st', Gone s st st' → Goes s st' (rec st').2) (hr : ∀ st', Gone s st st' → (rec st').2.c = 0 → Named (rec st').1) (hc : (tm2 rec s f st).2.c = 0) : Named (tm2 rec s f st).1 := by
 have g0 := Gone.refl hp
 have g1 := hg st g0
 have k1 : Gone s st (rec st).2 := g1.gone
 have g2 := hg _ k1
 have g3 := rtake_gone g2.le (ba [41])
 obtain ⟨c2, _⟩ := g3.ok hc
 obtain ⟨c1, _⟩ := g2.ok c2
 have r1 := hr st g0 c1
 have r2 := hr _ k1 c2
 obtain ⟨f1, f2⟩ := hf (rec st).1 (rec (rec st).2).1
 simp only [tm2]
 refine ⟨fun l hl => ?_, fun l hl => ?_⟩
 ·rw [f1] at hl
  rcases List.mem_append.1 hl with hl | hl
  ·exact r1.lv l hl
  ·exact r2.lv l hl
 ·rw [f2] at hl
  rcases List.mem_append.1 hl with hl | hl
  ·exact r1.names l hl
  ·exact r2.names l hl
theorem rterm_named (s : ByteArray) : ∀ (n : Nat) (st : RS), st.p ≤ s.size → (st.c ≠ 0 ∨ s.size - st.p < n) → (rtermV n s st).2.c = 0 → Named (rtermV n s st).1
 | 0, st, hp, hn, hc => Named.leaf
 | n + 1, st, hp, hn, hc0 => by
  by_cases hc : st.c = 0
  case neg => rw [rterm_stuck hc]; exact Named.leaf
  have hc' : (st.c != 0) = false := by simp [hc]
  have g1 := rnext_goes hp
  simp only [rtermV, hc', cond_false] at hc0 ⊢
  cases hbad : badTok (tokV s st.p)
  case true => exact Named.leaf
  rw [hbad] at hc0
  cases h40 : strIs (tokV s st.p).t [40]
  case false => exact ⟨fun l hl => by simp [Tm.all] at hl, fun x hx => by simp [Tm.names] at hx⟩
  rw [h40] at hc0
  simp only [cond_true, cond_false, tmP] at hc0 ⊢
  cases hw : wordIx (tokV s (rnextV s st).2.p).t == 0
  case true => exact Named.leaf
  rw [hw] at hc0
  have g2 := g1.trans (rnext_goes g1.le).gone
  simp only [cond_false] at hc0 ⊢
  have hn2 : ∀ st', Goes s st st' → st'.c ≠ 0 ∨ s.size - st'.p < n := by
   intro st' h
   by_cases hz : st'.c = 0
   ·have := (h.ok hz).2
    have := h.le
    rcases hn with hn | hn
    ·exact absurd hc hn
    ·right; omega
   ·exact .inl hz
  generalize (rnextV s (rnextV s st).2).2 = st2 at g2 hc0 ⊢
  have hg : ∀ st', Gone s st2 st' → Goes s st' (rtermV n s st').2 := fun st' h => rterm_goes s n st' h.le (hn2 _ (g2.trans h))
  have hr : ∀ st', Gone s st2 st' → (rtermV n s st').2.c = 0 → Named (rtermV n s st').1 := fun st' h h0 => rterm_named s n st' h.le (hn2 _ (g2.trans h)) h0
  unfold tmB at hc0 ⊢
  split at hc0
  ·simp only
   refine ⟨fun l hl => ?_, fun x hx => by simp [Tm.names] at hx⟩
   simp only [Tm.all, List.mem_singleton] at hl
   subst hl
   exact rlevel_named s _ _
  ·have l1 := rname_goes (s := s) g2.le
   have l2 := rlvs_gone s (s.size + 10) _ l1.le
   have g3 := rtake_gone l2.le (ba [41])
   obtain ⟨c2, _⟩ := g3.ok hc0
   obtain ⟨c1, _⟩ := l2.ok c2
   simp only
   refine ⟨fun l hl => rlvs_named s _ _ l hl, fun x hx => ?_⟩
   simp only [Tm.names, List.mem_singleton] at hx
   subst hx
   exact rname_named c1
  ·exact tm2_named (fun a b => ⟨rfl, rfl⟩) g2.le hg hr hc0
  ·exact tm2_named (fun a b => ⟨rfl, rfl⟩) g2.le hg hr hc0
  ·exact tm2_named (fun a b => ⟨rfl, rfl⟩) g2.le hg hr hc0
  ·have g0 := Gone.refl g2.le
   have g1' := hg st2 g0
   have k1 : Gone s st2 (rtermV n s st2).2 := g1'.gone
   have g2' := hg _ k1
   have k2 : Gone s st2 (rtermV n s (rtermV n s st2).2).2 := k1.trans g2'.gone
   have g3' := hg _ k2
   have g4 := rtake_gone g3'.le (ba [41])
   obtain ⟨c3, _⟩ := g4.ok hc0
   obtain ⟨c2, _⟩ := g3'.ok c3
   obtain ⟨c1, _⟩ := g2'.ok c2
   have r1 := hr st2 g0 c1
   have r2 := hr _ k1 c2
   have r3 := hr _ k2 c3
   simp only [tm3]
   refine ⟨fun l hl => ?_, fun l hl => ?_⟩
   ·simp only [Tm.all] at hl
    rcases List.mem_append.1 hl with hl | hl
    ·exact r1.lv l hl
    ·rcases List.mem_append.1 hl with hl | hl
     ·exact r2.lv l hl
     ·exact r3.lv l hl
   ·simp only [Tm.names] at hl
    rcases List.mem_append.1 hl with hl | hl
    ·exact r1.names l hl
    ·rcases List.mem_append.1 hl with hl | hl
     ·exact r2.names l hl
     ·exact r3.names l hl
theorem tparse_named {s : ByteArray} (h : (tparseV s).2.1 = 0) : Named (tparseV s).1 := by
 unfold tparseV at *
 cases hb : decide ((s.size : Int) > 20000)
 ·rw [hb] at h
  simp only [cond_false] at h ⊢
  cases hd : (rdoneV s (rtermV (s.size + 1) s ⟨0, 0, 0⟩).2).c != 0
  ·rw [hd] at h
   simp only [cond_false] at h ⊢
   have hc : (rtermV (s.size + 1) s ⟨0, 0, 0⟩).2.c = 0 := by
    have hd' : (rdoneV s (rtermV (s.size + 1) s ⟨0, 0, 0⟩).2).c = 0 := h
    simp only [rdoneV] at hd'
    cases hx : (!(tokV s (rtermV (s.size + 1) s ⟨0, 0, 0⟩).2.p).ok || !isNo (tokV s (rtermV (s.size + 1) s ⟨0, 0, 0⟩).2.p).t)
    ·rw [hx] at hd'; exact hd'
    ·rw [hx] at hd'; exact absurd hd' (rfail_c _ _)
   exact rterm_named s (s.size + 1) ⟨0, 0, 0⟩ (by simp) (.inr (by simp)) hc
  ·exact Named.leaf
 ·exact Named.leaf
theorem tok_read {s : ByteArray} (h : (tparseV s).2.1 = 0) : TOk (tparseV s).1 :=
 ⟨(tparse_read h).2.top, (tparse_named h).lv, (tparse_named h).names⟩
end Go.Ab.Mk
end
section
namespace Go.Ab.Mk
open Go.Proofs Go.Ab Go.Proofs.Mk
theorem levelParts_loop {N : Nat} {L : List Lv} (hb : L.length < 2 ^ 60) {most : Int} {k : Int} {nm : ByteArray} {σ : Sto}
  (h : ∀ c ∈ L, ∀ most : Int, ∃ n : Int, lim C 35 [(.agg [.int .i64 c.kind, .str c.name, .slice 3 74 c.args], false), (.int .i64 most, false)] σ = some (.ret [(.int .i64 n, false)], σ)) :
  ∀ (m i : Nat) (v : Int), i ≤ L.length → L.length - i < m → ∃ n : Int, levelPartsl0 (lim C) N m most v i k nm (L.map Lv.enc) σ = some (.ret [(.int .i64 n, false)], σ)
 | 0, i, _, _, hm => by omega
 | m + 1, i, v, hi, hm => by
  show ∃ n : Int, levelPartss0 (lim C) (levelPartsl0 (lim C) N m) _ _ _ _ _ _ σ = _
  unfold levelPartss0
  rw [List.length_map]
  by_cases hlt : i < L.length
  ·rw [dlt hlt, cond_true]
   cases decide (v ≤ most) with
   | false => exact ⟨v, rfl⟩
   | true =>
    obtain ⟨x, hx⟩ := h _ (List.getElem_mem hlt) (IntKind.wrap .i64 (most - v))
    obtain ⟨n, hn⟩ := levelParts_loop (N := N) hb h m (i + 1) (IntKind.wrap .i64 (v + x)) (by omega) (by omega)
    refine ⟨n, ?_⟩
    rw [cond_true, d0, lv_get hlt, lv_read]
    simp only [Bool.and_self, grd, cond_true, Option.bind_some]
    refine (callK_ret1 hx).trans ?_
    simp only [List.getD_cons_zero, V.asInt, if_true, Option.bind_some, wrap_succ (show i < 2 ^ 61 by omega)]
    exact hn
  ·rw [dnlt hlt]; exact ⟨v, rfl⟩
theorem levelParts_law (σ : Sto) : ∀ (l : Lv) (most : Int), ∃ n : Int, lim C 35 [(.agg [.int .i64 l.kind, .str l.name, .slice 3 74 l.args], false), (.int .i64 most, false)] σ = some (.ret [(.int .i64 n, false)], σ) :=
 Lv.ind fun l ih most => by
  have h2 := kids_few l
  obtain ⟨n, hn⟩ := levelParts_loop (N := 10) (L := l.kids) (by omega) (most := most) (k := l.kind) (nm := l.name) (σ := σ) ih 10 0 1 (by omega) (by omega)
  exact ⟨n, levelParts_lim (n := 10) hn⟩
theorem levelsFit_loop1 {N : Nat} {L : List Tm} (hb : L.length < 2 ^ 60) {k a : Int} {nm : ByteArray} {t3 : List (List V)} {σ : Sto}
  (h : ∀ c ∈ L, ∃ b : Bool, lim C 16 [(c.val, false)] σ = some (.ret [(.bool b, false)], σ)) :
  ∀ (m i : Nat), i ≤ L.length → L.length - i < m → ∃ b : Bool, levelsFitl1 (lim C) N m i k a nm t3 (L.map Tm.enc) σ = some (.ret [(.bool b, false)], σ)
 | 0, i, _, hm => by omega
 | m + 1, i, hi, hm => by
  show ∃ b : Bool, levelsFits1 (lim C) (levelsFitl1 (lim C) N m) _ _ _ _ _ _ σ = _
  unfold levelsFits1
  rw [List.length_map]
  by_cases hlt : i < L.length
  ·obtain ⟨x, hx⟩ := h _ (List.getElem_mem hlt)
   obtain ⟨n, hn⟩ := levelsFit_loop1 (N := N) hb (k := k) (a := a) (nm := nm) (t3 := t3) h m (i + 1) (by omega) (by omega)
   cases x with
   | false =>
    refine ⟨false, ?_⟩
    rw [dlt hlt, cond_true, d0, tm_get hlt, tm_readB]
    simp only [Bool.and_self, grd, cond_true, Option.bind_some]
    exact (callK_ret1 hx).trans rfl
   | true =>
    refine ⟨n, ?_⟩
    rw [dlt hlt, cond_true, d0, tm_get hlt, tm_readB]
    simp only [Bool.and_self, grd, cond_true, Option.bind_some]
    refine (callK_ret1 hx).trans ?_
    simp only [List.getD_cons_zero, V.asBool, Option.bind_some, Bool.not_true, cond_false, wrap_succ (show i < 2 ^ 61 by omega)]
    exact hn
  ·rw [dnlt hlt]; exact ⟨true, rfl⟩
theorem levelsFit_loop0 {N : Nat} {L : List Lv} (hb : L.length < 2 ^ 60) {k a : Int} {nm : ByteArray} {t4 : List (List V)} {σ : Sto}
  (h : ∃ b : Bool, levelsFitl1 (lim C) N N 0 k a nm (L.map Lv.enc) t4 σ = some (.ret [(.bool b, false)], σ)) :
  ∀ (m i : Nat), i ≤ L.length → L.length - i < m → ∃ b : Bool, levelsFitl0 (lim C) N m i k a nm (L.map Lv.enc) t4 σ = some (.ret [(.bool b, false)], σ)
 | 0, i, _, hm => by omega
 | m + 1, i, hi, hm => by
  show ∃ b : Bool, levelsFits0 (lim C) (levelsFitl1 (lim C) N N) (levelsFitl0 (lim C) N m) _ _ _ _ _ _ σ = _
  unfold levelsFits0
  rw [List.length_map]
  by_cases hlt : i < L.length
  ·obtain ⟨x, hx⟩ := levelParts_law σ L[i] 300
   obtain ⟨n, hn⟩ := levelsFit_loop0 (N := N) hb h m (i + 1) (by omega) (by omega)
   rw [dlt hlt, cond_true, d0, lv_get hlt, lv_read]
   simp only [Bool.and_self, grd, cond_true, Option.bind_some]
   rw [callK_ret1 hx]
   simp only [List.getD_cons_zero, V.asInt, if_true, Option.bind_some, wrap_succ (show i < 2 ^ 61 by omega)]
   cases decide (x > 300) with
   | true => exact ⟨false, rfl⟩
   | false => exact ⟨n, hn⟩
  ·rw [dnlt hlt]; exact h
theorem levelsFit_law (σ : Sto) : ∀ (t : Tm), t.wide < 2 ^ 32 → ∃ b : Bool, lim C 16 [(t.val, false)] σ = some (.ret [(.bool b, false)], σ) :=
 Tm.ind fun t ih hw => by
  have hk := kids_le t
  have hl := lvs_le t
  obtain ⟨n, hn⟩ := levelsFit_loop0 (N := t.wide + 10) (L := t.lvs) (by omega) (k := t.kind) (a := t.num) (nm := t.name) (t4 := t.args) (σ := σ)
   (levelsFit_loop1 (N := t.wide + 10) (L := t.kids) (by omega) (fun c hc => ih c hc (by have := kid_wide hc; omega)) (t.wide + 10) 0 (by omega) (by omega)) (t.wide + 10) 0 (by omega) (by omega)
  exact ⟨n, levelsFit_lim (n := t.wide + 10) hn⟩
theorem tparse_wide' (s : ByteArray) : (tparseV s).1.wide ≤ 20010 := by
 by_cases hb : s.size ≤ 20000
 ·have := tparse_wide s; omega
 ·unfold tparseV
  rw [show decide ((s.size : Int) > 20000) = true by simp; omega]
  simp [Tm.wide]
theorem fitting_law (s : ByteArray) (hs : s.size < 2 ^ 61) (σ : Sto) : ∃ (c a : Int) (σ' : Sto), lim C 5 [(.str s, false)] σ = some (.ret [((tparseV s).1.val, false), (.agg [.int .i64 c, .int .i64 a], false)], σ') ∧ (c = 0 → (tparseV s).2.1 = 0) := by
 obtain ⟨τ, h1⟩ := parseTerm_law s (by omega) σ
 have hw := tparse_wide' s
 obtain ⟨b, h2⟩ := levelsFit_law (σ ++ τ) (tparseV s).1 (by omega)
 have f2 : ∀ x y : Int, V.fits (.agg [.int .i64 x, .int .i64 y]) true 2 = true := fun _ _ => rfl
 have c0 : ∀ x y : Int, V.cell (.agg [.int .i64 x, .int .i64 y]) 0 = .int .i64 x := fun _ _ => rfl
 have c1 : ∀ x y : Int, V.cell (.agg [.int .i64 x, .int .i64 y]) 1 = .int .i64 y := fun _ _ => rfl
 have uc : ∀ t : Tm, V.agg [V.cell t.val 0, V.cell t.val 1, V.cell t.val 2, V.cell t.val 3, V.cell t.val 4] = t.val := fun _ => rfl
 have hg : ∀ {c : Cell} {cs : List Cell}, (c :: cs).getD 0 cellD = c := fun {_ _} => rfl
 have hg1 : ∀ {c d : Cell} {cs : List Cell}, (c :: d :: cs).getD 1 cellD = d := fun {_ _ _} => rfl
 have run : ∀ r, (bif (tparseV s).2.1 == 0 then bif !b then some (End.ret [((tparseV s).1.val, false), (.agg [.int .i64 14, .int .i64 (tparseV s).2.2], false)], σ ++ τ) else some (End.ret [((tparseV s).1.val, false), (.agg [.int .i64 (tparseV s).2.1, .int .i64 (tparseV s).2.2], false)], σ ++ τ) else some (End.ret [((tparseV s).1.val, false), (.agg [.int .i64 (tparseV s).2.1, .int .i64 (tparseV s).2.2], false)], σ ++ τ)) = some r → lim C 5 [(.str s, false)] σ = some r := fun r hr => fitting_lim (n := 0) <| by
  simp only [fitting, fittingF]
  refine (callK_ret2 h1).trans ?_
  simp only [hg, hg1, tm_fits, f2, grd, cond_true, Option.bind_some, uc]
  refine (callK_ret1 h2).trans ?_
  simp only [hg, c0, c1, V.asInt, if_true, Option.bind_some, V.asBool]
  exact hr
 by_cases hz : (tparseV s).2.1 = 0
 ·cases b with
  | true => exact ⟨_, _, _, run _ (by rw [hz]; rfl), fun h => h⟩
  | false => exact ⟨14, (tparseV s).2.2, _, run _ (by rw [hz]; rfl), fun h => absurd h (by decide)⟩
 ·exact ⟨_, _, _, run _ (by rw [show ((tparseV s).2.1 == 0) = false by simpa using hz]; rfl), fun h => h⟩
theorem limitV_nat {n : Int} (h : (Lit.int .i64 n).wf = true) : ∃ k : Nat, limitV n = (k : Int) ∧ k < 6 := by
 have hb : -(2 ^ 63) ≤ n ∧ n < 2 ^ 63 := by
  simp [Lit.wf, IntKind.min, IntKind.max, IntKind.bits, IntKind.signed] at h
  omega
 unfold limitV
 by_cases hn : n < 0
 ·rw [decide_eq_true hn, cond_true]
  have e1 : IntKind.wrap .i64 (n + 1) = n + 1 := by unfold IntKind.wrap; simp [IntKind.bits, IntKind.signed] <;> omega
  have e2 : IntKind.wrap .i64 (0 - (n + 1)) = 0 - (n + 1) := by unfold IntKind.wrap; simp [IntKind.bits, IntKind.signed] <;> omega
  rw [e1, e2]
  obtain ⟨m, hm⟩ : ∃ m : Nat, 0 - (n + 1) = (m : Int) := ⟨(0 - (n + 1)).toNat, by omega⟩
  rw [hm]
  exact ⟨m % 6, rfl, Nat.mod_lt _ (by omega)⟩
 ·rw [decide_eq_false hn, cond_false]
  obtain ⟨m, rfl⟩ : ∃ m : Nat, n = (m : Int) := ⟨n.toNat, by omega⟩
  exact ⟨m % 6, rfl, Nat.mod_lt _ (by omega)⟩
end Go.Ab.Mk
end
