/- AbMk7: printed by program: functions of the program as plain Lean, and the equations. -/
import Derived.Test.YtifoglinlcfelaaGreatDoorAbMk1
set_option linter.unusedSimpArgs false
set_option linter.unusedVariables false
set_option linter.deprecated false
section
set_option maxRecDepth 100000
namespace Go.Ab.Mk
open Go.Proofs Go.Ab
open List (getD)
open IntKind (wrap)
noncomputable def alikek0 : List Nat := [2, 3, 4, 7]
noncomputable def alikek1 : List Nat := [2, 3, 4, 9]
noncomputable def alikes1 (call : CallF) (rec1 : Bool → Int → Int → Int → ByteArray → LL → LL → Int → Int → ByteArray → LL → LL → RR) (d : Bool) (a f g : Int) (h : ByteArray) (i b : LL) (j k : Int) (o : ByteArray) (p c : LL) (σ : Sto) : Option Res :=
 bif (decide (a < (b.length : Int))) then
 (grd (decide (0 ≤ a) && decide (a < b.length))).bind fun _ =>
 (grd (decide (0 ≤ a) && decide (a < c.length))).bind fun _ =>
 callK call 42 [(V.agg [(getD (getD b a.toNat []) 0 V.any), (getD (getD b a.toNat []) 1 V.any), (getD (getD b a.toNat []) 2 V.any), (getD (getD b a.toNat []) 3 V.any), (getD (getD b a.toNat []) 4 V.any)], false), (V.agg [(getD (getD c a.toNat []) 0 V.any), (getD (getD c a.toNat []) 1 V.any), (getD (getD c a.toNat []) 2 V.any), (getD (getD c a.toNat []) 3 V.any), (getD (getD c a.toNat []) 4 V.any)], false), (V.bool d, false)] σ 1 (fun q e =>
 (V.asBool (getD q 0 cellD).1).bind fun b4 =>
 bif (!b4) then
 some (.ret [(V.bool false, false)], e)
 else
 rec1 d (wrap .i64 (a + (1 : Int))) f g h i b j k o p c e) pnK
 else
 some (.ret [(V.bool true, false)], σ)
noncomputable def alikel1 (call : CallF) (n : Nat) : Nat → Bool → Int → Int → Int → ByteArray → LL → LL → Int → Int → ByteArray → LL → LL → RR
 | 0 => fun _ _ _ _ _ _ _ _ _ _ _ _ _ => none
 | m + 1 => alikes1 call (alikel1 call n m)
noncomputable def aliket1 (a : Bool) (b c d : Int) (e : ByteArray) (f g : LL) (h i : Int) (j : ByteArray) (k o : LL) (σ : Sto) : St := ⟨[.dead, .dead, .val (V.bool a) false, .lptr 3 0, .lptr 4 0] ++ dd 4 ([.val (V.int .i64 b) false] ++ dd 95 []), [[], [], [], [(V.int .i64 c, false), (V.int .i64 d, false), (V.str e, false), (V.slice 3 44 f, false), (V.slice 5 30 g, false)], [(V.int .i64 h, false), (V.int .i64 i, false), (V.str j, false), (V.slice 3 44 k, false), (V.slice 5 30 o, false)]] ++ nn 100 [], σ⟩
noncomputable def alikes0 (call : CallF) (L1 rec0 : Bool → Int → Int → Int → ByteArray → LL → LL → Int → Int → ByteArray → LL → LL → RR) (d : Bool) (a f g : Int) (h : ByteArray) (b i : LL) (j k : Int) (o : ByteArray) (c p : LL) (σ : Sto) : Option Res :=
 bif (decide (a < (b.length : Int))) then
 (grd (decide (0 ≤ a) && decide (a < b.length))).bind fun _ =>
 (grd (decide (0 ≤ a) && decide (a < c.length))).bind fun _ =>
 callK call 64 [(V.agg [(getD (getD b a.toNat []) 0 V.any), (getD (getD b a.toNat []) 1 V.any), (getD (getD b a.toNat []) 2 V.any)], false), (V.agg [(getD (getD c a.toNat []) 0 V.any), (getD (getD c a.toNat []) 1 V.any), (getD (getD c a.toNat []) 2 V.any)], false)] σ 1 (fun q e =>
 (V.asBool (getD q 0 cellD).1).bind fun b4 =>
 bif (!b4) then
 bif d then
 (grd (decide (0 ≤ a) && decide (a < b.length))).bind fun _ =>
 (grd (decide (0 ≤ a) && decide (a < c.length))).bind fun _ =>
 callK call 65 [(V.agg [(getD (getD b a.toNat []) 0 V.any), (getD (getD b a.toNat []) 1 V.any), (getD (getD b a.toNat []) 2 V.any)], false), (V.agg [(getD (getD c a.toNat []) 0 V.any), (getD (getD c a.toNat []) 1 V.any), (getD (getD c a.toNat []) 2 V.any)], false)] e 1 (fun s r =>
 (V.asBool (getD s 0 cellD).1).bind fun b8 =>
 bif (!b8) then
 some (.ret [(V.bool false, false)], r)
 else
 rec0 d (wrap .i64 (a + (1 : Int))) f g h b i j k o c p r) pnK
 else
 (V.asBool (getD q 0 cellD).1).bind fun b9 =>
 bif (!b9) then
 some (.ret [(V.bool false, false)], e)
 else
 rec0 d (wrap .i64 (a + (1 : Int))) f g h b i j k o c p e
 else
 (V.asBool (getD q 0 cellD).1).bind fun b10 =>
 bif (!b10) then
 some (.ret [(V.bool false, false)], e)
 else
 rec0 d (wrap .i64 (a + (1 : Int))) f g h b i j k o c p e) pnK
 else
 L1 d (0 : Int) f g h b i j k o c p σ
noncomputable def alikel0 (call : CallF) (n : Nat) : Nat → Bool → Int → Int → Int → ByteArray → LL → LL → Int → Int → ByteArray → LL → LL → RR
 | 0 => fun _ _ _ _ _ _ _ _ _ _ _ _ _ => none
 | m + 1 => alikes0 call (alikel1 call n n) (alikel0 call n m)
noncomputable def aliket0 (a : Bool) (b c d : Int) (e : ByteArray) (f g : LL) (h i : Int) (j : ByteArray) (k o : LL) (σ : Sto) : St := ⟨[.dead, .dead, .val (V.bool a) false, .lptr 3 0, .lptr 4 0, .dead, .dead, .val (V.int .i64 b) false] ++ dd 97 [], [[], [], [], [(V.int .i64 c, false), (V.int .i64 d, false), (V.str e, false), (V.slice 3 44 f, false), (V.slice 5 30 g, false)], [(V.int .i64 h, false), (V.int .i64 i, false), (V.str j, false), (V.slice 3 44 k, false), (V.slice 5 30 o, false)]] ++ nn 100 [], σ⟩
noncomputable def alikeF (call : CallF) (L0 : Bool → Int → Int → Int → ByteArray → LL → LL → Int → Int → ByteArray → LL → LL → RR) (a b : Int) (c : ByteArray) (d e : LL) (f g : Int) (h : ByteArray) (i j : LL) (k : Bool) (σ : Sto) : Option Res :=
 bif (a != f) then
 some (.ret [(V.bool false, false)], σ)
 else
 bif (b != g) then
 some (.ret [(V.bool false, false)], σ)
 else
 bif (!(c.toList == h.toList)) then
 some (.ret [(V.bool false, false)], σ)
 else
 bif ((d.length : Int) != (i.length : Int)) then
 some (.ret [(V.bool false, false)], σ)
 else
 bif ((e.length : Int) != (j.length : Int)) then
 some (.ret [(V.bool false, false)], σ)
 else
 L0 k (0 : Int) a b c d e f g h i j σ
noncomputable def alike (call : CallF) (n : Nat) (a b : Int) (c : ByteArray) (d e : LL) (f g : Int) (h : ByteArray) (i j : LL) (k : Bool) (σ : Sto) : Option Res := alikeF call (alikel0 call n n) a b c d e f g h i j k σ
theorem alikes1_eq (call : CallF) (n : Nat) (F1 : St → Option Res) (a : Bool) (b c d : Int) (e : ByteArray) (f g : LL) (h i : Int) (j : ByteArray) (k o : LL) (σ : Sto) :
  aexec C alikeH call n (cp [0,0,1,0,1,1,1] alikeC) 0 (aliket1 a b c d e f g h i j k o σ) (kloop alikek1 F1 (kblk 2 (kseq (fun st' => aexec C alikeH call n (cp [1,1,1,1] alikeC) 0 st' (kfin C alikeD)) (kfin C alikeD)))) =
  alikes1 call (fun a b c d e f g h i j k o σ => F1 (aliket1 a b c d e f g h i j k o σ)) a b c d e f g h i j k o σ := by kernel_rfl
theorem alikel1_eq (call : CallF) (n : Nat) : ∀ (m : Nat) (a : Bool) (b c d : Int) (e : ByteArray) (f g : LL) (h i : Int) (j : ByteArray) (k o : LL) (σ : Sto),
  aloop (fun st K => aexec C alikeH call n (cp [0,0,1,0,1,1,1] alikeC) 0 st K) alikek1 m (aliket1 a b c d e f g h i j k o σ) (kblk 2 (kseq (fun st' => aexec C alikeH call n (cp [1,1,1,1] alikeC) 0 st' (kfin C alikeD)) (kfin C alikeD))) = alikel1 call n m a b c d e f g h i j k o σ
 | 0, a, b, c, d, e, f, g, h, i, j, k, o, σ => rfl
 | m + 1, a, b, c, d, e, f, g, h, i, j, k, o, σ => by
  rw [aloop, alikes1_eq]
  simp only [alikel1_eq call n m]
  rfl
theorem alikes0_eq (call : CallF) (n : Nat) (F0 : St → Option Res) (a : Bool) (o b c : Int) (d : ByteArray) (e f : LL) (g h : Int) (i : ByteArray) (j k : LL) (σ : Sto) :
  aexec C alikeH call n (cp [0,0,1,0,1,1] alikeC) 0 (aliket0 a o b c d e f g h i j k σ) (kloop alikek0 F0 (kblk 0 (kseq (fun st' => aexec C alikeH call n (cp [1,1,1] alikeC) 0 st' (kfin C alikeD)) (kfin C alikeD)))) =
  alikes0 call (fun a p b c d e f g h i j k σ => aloop (fun st K => aexec C alikeH call n (cp [0,0,1,0,1,1,1] alikeC) 0 st K) alikek1 n (aliket1 a p b c d e f g h i j k σ) (kblk 2 (kseq (fun st' => aexec C alikeH call n (cp [1,1,1,1] alikeC) 0 st' (kfin C alikeD)) (kfin C alikeD)))) (fun a o b c d e f g h i j k σ => F0 (aliket0 a o b c d e f g h i j k σ)) a o b c d e f g h i j k σ := by kernel_rfl
theorem alikel0_eq (call : CallF) (n : Nat) : ∀ (m : Nat) (a : Bool) (b c d : Int) (e : ByteArray) (f g : LL) (h i : Int) (j : ByteArray) (k o : LL) (σ : Sto),
  aloop (fun st K => aexec C alikeH call n (cp [0,0,1,0,1,1] alikeC) 0 st K) alikek0 m (aliket0 a b c d e f g h i j k o σ) (kblk 0 (kseq (fun st' => aexec C alikeH call n (cp [1,1,1] alikeC) 0 st' (kfin C alikeD)) (kfin C alikeD))) = alikel0 call n m a b c d e f g h i j k o σ
 | 0, a, b, c, d, e, f, g, h, i, j, k, o, σ => rfl
 | m + 1, a, b, c, d, e, f, g, h, i, j, k, o, σ => by
  rw [aloop, alikes0_eq]
  simp only [alikel0_eq call n m, alikel1_eq]
  rfl
theorem alike_eqF (call : CallF) (n : Nat) (b c : Int) (d : ByteArray) (e f : LL) (g h : Int) (i : ByteArray) (j k : LL) (a : Bool) (σ : Sto) : afun C alikeD call n [(V.agg [V.int .i64 b, V.int .i64 c, V.str d, V.slice 3 44 e, V.slice 5 30 f], false), (V.agg [V.int .i64 g, V.int .i64 h, V.str i, V.slice 3 44 j, V.slice 5 30 k], false), (V.bool a, false)] σ =
  alikeF call (fun a o p q r s t u v w x y σ => aloop (fun st K => aexec C alikeH call n (cp [0,0,1,0,1,1] alikeC) 0 st K) alikek0 n (aliket0 a o p q r s t u v w x y σ) (kblk 0 (kseq (fun st' => aexec C alikeH call n (cp [1,1,1] alikeC) 0 st' (kfin C alikeD)) (kfin C alikeD)))) b c d e f g h i j k a σ := by kernel_rfl
theorem alike_eq (call : CallF) (n : Nat) (a b : Int) (c : ByteArray) (d e : LL) (f g : Int) (h : ByteArray) (i j : LL) (k : Bool) (σ : Sto) : afun C alikeD call n [(V.agg [V.int .i64 a, V.int .i64 b, V.str c, V.slice 3 44 d, V.slice 5 30 e], false), (V.agg [V.int .i64 f, V.int .i64 g, V.str h, V.slice 3 44 i, V.slice 5 30 j], false), (V.bool k, false)] σ = alike call n a b c d e f g h i j k σ := by
 rw [alike_eqF]
 simp only [alikel0_eq]
 rfl
theorem alike_lim {n : Nat} {a : Int} {b : Int} {c : ByteArray} {e : LL} {f : LL} {g : Int} {i : Int} {j : ByteArray} {k : LL} {o : LL} {p : Bool} {b0 b1 b2 : Bool} {σ : Sto} {r : Res} (h : alike (lim C) n a b c e f g i j k o p σ = some r) : lim C 42 [(V.agg [V.int .i64 a, V.int .i64 b, V.str c, V.slice 3 44 e, V.slice 5 30 f], b0), (V.agg [V.int .i64 g, V.int .i64 i, V.str j, V.slice 3 44 k, V.slice 5 30 o], b1), (V.bool p, b2)] σ = some r :=
 lim_of (d := alikeD) (by kernel_rfl) (by kernel_rfl) n (show afun C alikeD (lim C) n [(V.agg [V.int .i64 a, V.int .i64 b, V.str c, V.slice 3 44 e, V.slice 5 30 f], false), (V.agg [V.int .i64 g, V.int .i64 i, V.str j, V.slice 3 44 k, V.slice 5 30 o], false), (V.bool p, false)] σ = some r from (alike_eq (lim C) n a b c e f g i j k o p σ).trans h)
noncomputable def bindsF (call : CallF) (a d : Int) (e : ByteArray) (f b : LL) (c : Int) (σ : Sto) : Option Res :=
 bif (decide (a ≥ (4 : Int))) then
 some (.ret [((V.bool (c == (wrap .i64 ((b.length : Int) - (1 : Int))))), false)], σ)
 else
 some (.ret [(V.bool false, false)], σ)
noncomputable def binds (call : CallF) (n : Nat) (a b : Int) (c : ByteArray) (d e : LL) (f : Int) (σ : Sto) : Option Res := bindsF call a b c d e f σ
theorem binds_eqF (call : CallF) (n : Nat) (a b : Int) (c : ByteArray) (d e : LL) (f : Int) (σ : Sto) : afun C bindsD call n [(V.agg [V.int .i64 a, V.int .i64 b, V.str c, V.slice 3 44 d, V.slice 5 30 e], false), (V.int .i64 f, false)] σ =
  bindsF call a b c d e f σ := by kernel_rfl
theorem binds_eq (call : CallF) (n : Nat) (a b : Int) (c : ByteArray) (d e : LL) (f : Int) (σ : Sto) : afun C bindsD call n [(V.agg [V.int .i64 a, V.int .i64 b, V.str c, V.slice 3 44 d, V.slice 5 30 e], false), (V.int .i64 f, false)] σ = binds call n a b c d e f σ := binds_eqF call n a b c d e f σ
theorem binds_lim {n : Nat} {a : Int} {b : Int} {c : ByteArray} {e : LL} {f : LL} {g : Int} {b0 b1 : Bool} {σ : Sto} {r : Res} (h : binds (lim C) n a b c e f g σ = some r) : lim C 43 [(V.agg [V.int .i64 a, V.int .i64 b, V.str c, V.slice 3 44 e, V.slice 5 30 f], b0), (V.int .i64 g, b1)] σ = some r :=
 lim_of (d := bindsD) (by kernel_rfl) (by kernel_rfl) n (show afun C bindsD (lim C) n [(V.agg [V.int .i64 a, V.int .i64 b, V.str c, V.slice 3 44 e, V.slice 5 30 f], false), (V.int .i64 g, false)] σ = some r from (binds_eq (lim C) n a b c e f g σ).trans h)
noncomputable def with_F (call : CallF) (a b : Int) (c : ByteArray) (d f e : LL) (σ : Sto) : Option Res :=
 some (.ret [(V.agg [V.int .i64 a, V.int .i64 b, V.str c, V.slice 3 44 d, V.slice 5 30 e], false)], σ)
noncomputable def with_ (call : CallF) (n : Nat) (a b : Int) (c : ByteArray) (d e f : LL) (σ : Sto) : Option Res := with_F call a b c d e f σ
theorem with__eqF (call : CallF) (n : Nat) (a b : Int) (c : ByteArray) (d e f : LL) (σ : Sto) : afun C with_D call n [(V.agg [V.int .i64 a, V.int .i64 b, V.str c, V.slice 3 44 d, V.slice 5 30 e], false), (V.slice 5 30 f, false)] σ =
  with_F call a b c d e f σ := by kernel_rfl
theorem with__eq (call : CallF) (n : Nat) (a b : Int) (c : ByteArray) (d e f : LL) (σ : Sto) : afun C with_D call n [(V.agg [V.int .i64 a, V.int .i64 b, V.str c, V.slice 3 44 d, V.slice 5 30 e], false), (V.slice 5 30 f, false)] σ = with_ call n a b c d e f σ := with__eqF call n a b c d e f σ
theorem with__lim {n : Nat} {a : Int} {b : Int} {c : ByteArray} {e : LL} {f : LL} {g : LL} {b0 b1 : Bool} {σ : Sto} {r : Res} (h : with_ (lim C) n a b c e f g σ = some r) : lim C 44 [(V.agg [V.int .i64 a, V.int .i64 b, V.str c, V.slice 3 44 e, V.slice 5 30 f], b0), (V.slice 5 30 g, b1)] σ = some r :=
 lim_of (d := with_D) (by kernel_rfl) (by kernel_rfl) n (show afun C with_D (lim C) n [(V.agg [V.int .i64 a, V.int .i64 b, V.str c, V.slice 3 44 e, V.slice 5 30 f], false), (V.slice 5 30 g, false)] σ = some r from (with__eq (lim C) n a b c e f g σ).trans h)
noncomputable def substAtk0 : List Nat := [2, 3, 4, 6, 7, 8]
noncomputable def substAts0 (call : CallF) (rec0 : Int → LL → Int → Int → Int → ByteArray → LL → LL → Int → Int → ByteArray → LL → LL → Int → Int → ByteArray → LL → LL → RR) (g : Int) (f : LL) (a h i : Int) (j : ByteArray) (k b : LL) (o p : Int) (q : ByteArray) (r s : LL) (t u : Int) (v : ByteArray) (w x : LL) (σ : Sto) : Option Res :=
 bif (decide (a < (b.length : Int))) then
 callK call 43 [(V.agg [V.int .i64 h, V.int .i64 i, V.str j, V.slice 3 44 k, V.slice 5 30 b], false), (V.int .i64 a, false)] σ 1 (fun z y =>
 (V.asBool (getD z 0 cellD).1).bind fun b4 =>
 bif b4 then
 (grd (decide (0 ≤ a) && decide (a < b.length))).bind fun _ =>
 callK call 45 [(V.agg [(getD (getD b a.toNat []) 0 V.any), (getD (getD b a.toNat []) 1 V.any), (getD (getD b a.toNat []) 2 V.any), (getD (getD b a.toNat []) 3 V.any), (getD (getD b a.toNat []) 4 V.any)], false), (V.agg [V.int .i64 o, V.int .i64 p, V.str q, V.slice 3 44 r, V.slice 5 30 s], false), ((V.int .i64 (wrap .i64 (g + (1 : Int)))), false)] y 1 (fun c a0 =>
 (grd ((V.fits (getD c 0 cellD).1 true 5 && true))).bind fun _ =>
 (grd (room (List.length f + 1))).bind fun _ =>
 rec0 g (f ++ [[V.cell (getD c 0 cellD).1 0, V.cell (getD c 0 cellD).1 1, V.cell (getD c 0 cellD).1 2, V.cell (getD c 0 cellD).1 3, V.cell (getD c 0 cellD).1 4]]) (wrap .i64 (a + (1 : Int))) h i j k b o p q r s t u v w x a0) pnK
 else
 (grd (decide (0 ≤ a) && decide (a < b.length))).bind fun _ =>
 callK call 45 [(V.agg [(getD (getD b a.toNat []) 0 V.any), (getD (getD b a.toNat []) 1 V.any), (getD (getD b a.toNat []) 2 V.any), (getD (getD b a.toNat []) 3 V.any), (getD (getD b a.toNat []) 4 V.any)], false), (V.agg [V.int .i64 o, V.int .i64 p, V.str q, V.slice 3 44 r, V.slice 5 30 s], false), (V.int .i64 g, false)] y 1 (fun d a1 =>
 (grd ((V.fits (getD d 0 cellD).1 true 5 && true))).bind fun _ =>
 (grd (room (List.length f + 1))).bind fun _ =>
 rec0 g (f ++ [[V.cell (getD d 0 cellD).1 0, V.cell (getD d 0 cellD).1 1, V.cell (getD d 0 cellD).1 2, V.cell (getD d 0 cellD).1 3, V.cell (getD d 0 cellD).1 4]]) (wrap .i64 (a + (1 : Int))) h i j k b o p q r s t u v w x a1) pnK) pnK
 else
 callK call 44 [(V.agg [V.int .i64 h, V.int .i64 i, V.str j, V.slice 3 44 k, V.slice 5 30 b], false), (V.slice 5 30 f, false)] σ 1 (fun e a2 =>
 (grd (V.fits (getD e 0 cellD).1 true 5)).bind fun _ =>
 some (.ret [(V.agg [V.cell (getD e 0 cellD).1 0, V.cell (getD e 0 cellD).1 1, V.cell (getD e 0 cellD).1 2, V.cell (getD e 0 cellD).1 3, V.cell (getD e 0 cellD).1 4], false)], a2)) pnK
noncomputable def substAtl0 (call : CallF) (n : Nat) : Nat → Int → LL → Int → Int → Int → ByteArray → LL → LL → Int → Int → ByteArray → LL → LL → Int → Int → ByteArray → LL → LL → RR
 | 0 => fun _ _ _ _ _ _ _ _ _ _ _ _ _ _ _ _ _ _ _ => none
 | m + 1 => substAts0 call (substAtl0 call n m)
noncomputable def substAtt0 (a : Int) (b : LL) (c d e : Int) (f : ByteArray) (g h : LL) (i j : Int) (k : ByteArray) (o p : LL) (q r : Int) (s : ByteArray) (t u : LL) (σ : Sto) : St := ⟨[.dead, .dead, .val (V.int .i64 a) false, .lptr 3 0, .lptr 4 0, .dead, .lptr 6 0, .val (V.slice 5 30 b) true, .val (V.int .i64 c) false] ++ dd 47 [], [[], [], [], [(V.int .i64 d, false), (V.int .i64 e, false), (V.str f, false), (V.slice 3 44 g, false), (V.slice 5 30 h, false)], [(V.int .i64 i, false), (V.int .i64 j, false), (V.str k, false), (V.slice 3 44 o, false), (V.slice 5 30 p, false)], [], [(V.int .i64 q, false), (V.int .i64 r, false), (V.str s, false), (V.slice 3 44 t, true), (V.slice 5 30 u, true)]] ++ nn 49 [], σ⟩
noncomputable def substAtF (call : CallF) (L0 : Int → LL → Int → Int → Int → ByteArray → LL → LL → Int → Int → ByteArray → LL → LL → Int → Int → ByteArray → LL → LL → RR) (d b : Int) (e : ByteArray) (f g : LL) (h i : Int) (j : ByteArray) (k o : LL) (c : Int) (σ : Sto) : Option Res :=
 bif (d == (0 : Int)) then
 bif (b == c) then
 callK call 14 [(V.agg [V.int .i64 h, V.int .i64 i, V.str j, V.slice 3 44 k, V.slice 5 30 o], false), (V.int .i64 c, false), ((V.int .i64 (0 : Int)), false)] σ 1 (fun a p =>
 (grd (V.fits (getD a 0 cellD).1 true 5)).bind fun _ =>
 some (.ret [(V.agg [V.cell (getD a 0 cellD).1 0, V.cell (getD a 0 cellD).1 1, V.cell (getD a 0 cellD).1 2, V.cell (getD a 0 cellD).1 3, V.cell (getD a 0 cellD).1 4], false)], p)) pnK
 else
 bif (decide (b > c)) then
 some (.ret [((V.agg [(V.int .i64 (0 : Int)), (V.int .i64 (wrap .i64 (b - (1 : Int)))), V.str ⟨#[]⟩, V.slice 3 44 [], V.slice 5 30 []]), false)], σ)
 else
 some (.ret [(V.agg [V.int .i64 d, V.int .i64 b, V.str e, V.slice 3 44 f, V.slice 5 30 g], false)], σ)
 else
 L0 c [] (0 : Int) d b e f g h i j k o (0 : Int) (0 : Int) (ByteArray.mk #[]) [] [] σ
noncomputable def substAt (call : CallF) (n : Nat) (a b : Int) (c : ByteArray) (d e : LL) (f g : Int) (h : ByteArray) (i j : LL) (k : Int) (σ : Sto) : Option Res := substAtF call (substAtl0 call n n) a b c d e f g h i j k σ
theorem substAts0_eq (call : CallF) (n : Nat) (F0 : St → Option Res) (a : Int) (b : LL) (c d e : Int) (f : ByteArray) (g h : LL) (i j : Int) (k : ByteArray) (o p : LL) (q r : Int) (s : ByteArray) (t u : LL) (σ : Sto) :
  aexec C substAtH call n (cp [0,0,1,0,1,1,1] substAtC) 0 (substAtt0 a b c d e f g h i j k o p q r s t u σ) (kloop substAtk0 F0 (kblk 0 (kseq (fun st' => aexec C substAtH call n (cp [1,1,1,1] substAtC) 0 st' (kfin C substAtD)) (kfin C substAtD)))) =
  substAts0 call (fun a b c d e f g h i j k o p q r s t u σ => F0 (substAtt0 a b c d e f g h i j k o p q r s t u σ)) a b c d e f g h i j k o p q r s t u σ := by kernel_rfl
theorem substAtl0_eq (call : CallF) (n : Nat) : ∀ (m : Nat) (a : Int) (b : LL) (c d e : Int) (f : ByteArray) (g h : LL) (i j : Int) (k : ByteArray) (o p : LL) (q r : Int) (s : ByteArray) (t u : LL) (σ : Sto),
  aloop (fun st K => aexec C substAtH call n (cp [0,0,1,0,1,1,1] substAtC) 0 st K) substAtk0 m (substAtt0 a b c d e f g h i j k o p q r s t u σ) (kblk 0 (kseq (fun st' => aexec C substAtH call n (cp [1,1,1,1] substAtC) 0 st' (kfin C substAtD)) (kfin C substAtD))) = substAtl0 call n m a b c d e f g h i j k o p q r s t u σ
 | 0, a, b, c, d, e, f, g, h, i, j, k, o, p, q, r, s, t, u, σ => rfl
 | m + 1, a, b, c, d, e, f, g, h, i, j, k, o, p, q, r, s, t, u, σ => by
  rw [aloop, substAts0_eq]
  simp only [substAtl0_eq call n m]
  rfl
theorem substAt_eqF (call : CallF) (n : Nat) (a b : Int) (c : ByteArray) (d e : LL) (f g : Int) (h : ByteArray) (i j : LL) (k : Int) (σ : Sto) : afun C substAtD call n [(V.agg [V.int .i64 a, V.int .i64 b, V.str c, V.slice 3 44 d, V.slice 5 30 e], false), (V.agg [V.int .i64 f, V.int .i64 g, V.str h, V.slice 3 44 i, V.slice 5 30 j], false), (V.int .i64 k, false)] σ =
  substAtF call (fun o p q r s t u v w x y z a0 a1 a2 a3 a4 a5 σ => aloop (fun st K => aexec C substAtH call n (cp [0,0,1,0,1,1,1] substAtC) 0 st K) substAtk0 n (substAtt0 o p q r s t u v w x y z a0 a1 a2 a3 a4 a5 σ) (kblk 0 (kseq (fun st' => aexec C substAtH call n (cp [1,1,1,1] substAtC) 0 st' (kfin C substAtD)) (kfin C substAtD)))) a b c d e f g h i j k σ := by kernel_rfl
theorem substAt_eq (call : CallF) (n : Nat) (a b : Int) (c : ByteArray) (d e : LL) (f g : Int) (h : ByteArray) (i j : LL) (k : Int) (σ : Sto) : afun C substAtD call n [(V.agg [V.int .i64 a, V.int .i64 b, V.str c, V.slice 3 44 d, V.slice 5 30 e], false), (V.agg [V.int .i64 f, V.int .i64 g, V.str h, V.slice 3 44 i, V.slice 5 30 j], false), (V.int .i64 k, false)] σ = substAt call n a b c d e f g h i j k σ := by
 rw [substAt_eqF]
 simp only [substAtl0_eq]
 rfl
theorem substAt_lim {n : Nat} {a : Int} {b : Int} {c : ByteArray} {e : LL} {f : LL} {g : Int} {i : Int} {j : ByteArray} {k : LL} {o : LL} {p : Int} {b0 b1 b2 : Bool} {σ : Sto} {r : Res} (h : substAt (lim C) n a b c e f g i j k o p σ = some r) : lim C 45 [(V.agg [V.int .i64 a, V.int .i64 b, V.str c, V.slice 3 44 e, V.slice 5 30 f], b0), (V.agg [V.int .i64 g, V.int .i64 i, V.str j, V.slice 3 44 k, V.slice 5 30 o], b1), (V.int .i64 p, b2)] σ = some r :=
 lim_of (d := substAtD) (by kernel_rfl) (by kernel_rfl) n (show afun C substAtD (lim C) n [(V.agg [V.int .i64 a, V.int .i64 b, V.str c, V.slice 3 44 e, V.slice 5 30 f], false), (V.agg [V.int .i64 g, V.int .i64 i, V.str j, V.slice 3 44 k, V.slice 5 30 o], false), (V.int .i64 p, false)] σ = some r from (substAt_eq (lim C) n a b c e f g i j k o p σ).trans h)
noncomputable def rparamsk0 : List Nat := [1, 2, 6]
noncomputable def rparamss0 (call : CallF) (rec0 : V → Int → Int → ByteArray → LL → RR) (c : V) (a e : Int) (f : ByteArray) (b : LL) (σ : Sto) : Option Res :=
 bif (decide (a < (b.length : Int))) then
 (grd (decide (0 ≤ a) && decide (a < b.length))).bind fun _ =>
 callK call 46 [(V.agg [(getD (getD b a.toNat []) 0 V.any), (getD (getD b a.toNat []) 1 V.any), (getD (getD b a.toNat []) 2 V.any)], false), (c, true)] σ 1 (fun d g =>
 (grd ((getD d 0 cellD).2 && true)).bind fun _ =>
 rec0 (getD d 0 cellD).1 (wrap .i64 (a + (1 : Int))) e f b g) pnK
 else
 some (.ret [(c, true)], σ)
noncomputable def rparamsl0 (call : CallF) (n : Nat) : Nat → V → Int → Int → ByteArray → LL → RR
 | 0 => fun _ _ _ _ _ _ => none
 | m + 1 => rparamss0 call (rparamsl0 call n m)
noncomputable def rparamst0 (a : V) (b c : Int) (d : ByteArray) (e : LL) (σ : Sto) : St := ⟨[.dead, .val a true, .lptr 2 0, .dead, .dead, .dead, .val (V.int .i64 b) false] ++ dd 30 [], [[], [], [(V.int .i64 c, false), (V.str d, false), (V.slice 3 44 e, false)]] ++ nn 34 [], σ⟩
noncomputable def rparamsF (call : CallF) (L0 : V → Int → Int → ByteArray → LL → RR) (c : Int) (b : ByteArray) (e a : LL) (σ : Sto) : Option Res :=
 bif (c == (4 : Int)) then
 callK call 66 [(V.str b, false), (V.slice 1 9 a, false)] σ 1 (fun f d =>
 (V.asBool (getD f 0 cellD).1).bind fun b4 =>
 bif (!b4) then
 (grd (room (List.length a + 1))).bind fun _ =>
 some (.ret [(V.slice 1 9 (a ++ [[V.str b]]), true)], d)
 else
 some (.ret [(V.slice 1 9 a, true)], d)) pnK
 else
 L0 (V.slice 1 9 a) (0 : Int) c b e σ
noncomputable def rparams (call : CallF) (n : Nat) (a : Int) (b : ByteArray) (c d : LL) (σ : Sto) : Option Res := rparamsF call (rparamsl0 call n n) a b c d σ
theorem rparamss0_eq (call : CallF) (n : Nat) (F0 : St → Option Res) (a : V) (b c : Int) (d : ByteArray) (e : LL) (σ : Sto) :
  aexec C rparamsH call n (cp [0,0,1,0,1,1] rparamsC) 0 (rparamst0 a b c d e σ) (kloop rparamsk0 F0 (kblk 0 (kseq (fun st' => aexec C rparamsH call n (cp [1,1,1] rparamsC) 0 st' (kfin C rparamsD)) (kfin C rparamsD)))) =
  rparamss0 call (fun a b c d e σ => F0 (rparamst0 a b c d e σ)) a b c d e σ := by kernel_rfl
theorem rparamsl0_eq (call : CallF) (n : Nat) : ∀ (m : Nat) (a : V) (b c : Int) (d : ByteArray) (e : LL) (σ : Sto),
  aloop (fun st K => aexec C rparamsH call n (cp [0,0,1,0,1,1] rparamsC) 0 st K) rparamsk0 m (rparamst0 a b c d e σ) (kblk 0 (kseq (fun st' => aexec C rparamsH call n (cp [1,1,1] rparamsC) 0 st' (kfin C rparamsD)) (kfin C rparamsD))) = rparamsl0 call n m a b c d e σ
 | 0, a, b, c, d, e, σ => rfl
 | m + 1, a, b, c, d, e, σ => by
  rw [aloop, rparamss0_eq]
  simp only [rparamsl0_eq call n m]
  rfl
theorem rparams_eqF (call : CallF) (n : Nat) (b : Int) (c : ByteArray) (d a : LL) (σ : Sto) : afun C rparamsD call n [(V.agg [V.int .i64 b, V.str c, V.slice 3 44 d], false), (V.slice 1 9 a, true)] σ =
  rparamsF call (fun a e f g h σ => aloop (fun st K => aexec C rparamsH call n (cp [0,0,1,0,1,1] rparamsC) 0 st K) rparamsk0 n (rparamst0 a e f g h σ) (kblk 0 (kseq (fun st' => aexec C rparamsH call n (cp [1,1,1] rparamsC) 0 st' (kfin C rparamsD)) (kfin C rparamsD)))) b c d a σ := by kernel_rfl
theorem rparams_eq (call : CallF) (n : Nat) (a : Int) (b : ByteArray) (c d : LL) (σ : Sto) : afun C rparamsD call n [(V.agg [V.int .i64 a, V.str b, V.slice 3 44 c], false), (V.slice 1 9 d, true)] σ = rparams call n a b c d σ := by
 rw [rparams_eqF]
 simp only [rparamsl0_eq]
 rfl
theorem rparams_lim {n : Nat} {a : Int} {b : ByteArray} {c : LL} {e : LL} {b0 : Bool} {σ : Sto} {r : Res} (h : rparams (lim C) n a b c e σ = some r) : lim C 46 [(V.agg [V.int .i64 a, V.str b, V.slice 3 44 c], b0), (V.slice 1 9 e, true)] σ = some r :=
 lim_of (d := rparamsD) (by kernel_rfl) (by kernel_rfl) n (show afun C rparamsD (lim C) n [(V.agg [V.int .i64 a, V.str b, V.slice 3 44 c], false), (V.slice 1 9 e, true)] σ = some r from (rparams_eq (lim C) n a b c e σ).trans h)
noncomputable def rlevelF (call : CallF) (a : Nat) (σ : Sto) : Option Res :=
 callK call 67 [(V.ptr 65 a 0, false)] σ 3 (fun b k =>
 callK call 68 [((getD b 0 cellD).1, false)] k 1 (fun o c =>
 (memGet c (V.ptr 65 a 2) false 1).bind fun m7 =>
 (V.asInt m7 .i64).bind fun i8 =>
 bif (i8 != (0 : Int)) then
 some (.ret [((V.agg [(V.int .i64 (0 : Int)), V.str ⟨#[]⟩, V.slice 3 44 []]), false)], c)
 else
 (V.asStr (getD b 0 cellD).1).bind fun s9 =>
 bif (s9.toList == (ByteArray.mk #[48]).toList) then
 callK call 69 [(V.ptr 65 a 0, false)] c 1 (fun a5 p =>
 some (.ret [((V.agg [(V.int .i64 (0 : Int)), V.str ⟨#[]⟩, V.slice 3 44 []]), false)], p)) pnK
 else
 (V.asBool (getD o 0 cellD).1).bind fun b13 =>
 bif b13 then
 callK call 69 [(V.ptr 65 a 0, false)] c 1 (fun a6 q =>
 (grd ((V.fits (getD b 0 cellD).1 false 1 && true))).bind fun _ =>
 some (.ret [((V.agg [(V.int .i64 (4 : Int)), (getD b 0 cellD).1, V.slice 3 44 []]), false)], q)) pnK
 else
 (V.asStr (getD b 0 cellD).1).bind fun s17 =>
 bif (s17.toList == (ByteArray.mk #[40]).toList) then
 callK call 69 [(V.ptr 65 a 0, false)] c 1 (fun a7 r =>
 callK call 67 [(V.ptr 65 a 0, false)] r 3 (fun d e =>
 (V.asStr (getD d 0 cellD).1).bind fun s24 =>
 bif (s24.toList == (ByteArray.mk #[115]).toList) then
 callK call 69 [(V.ptr 65 a 0, false)] e 1 (fun a8 s =>
 callK call 47 [(V.ptr 65 a 0, false)] s 1 (fun f t =>
 (grd ((V.fits (getD f 0 cellD).1 true 3 && true))).bind fun _ =>
 (grd (room (0 + 1))).bind fun _ =>
 callK call 71 [(V.ptr 65 a 0, false), (V.str ⟨#[41]⟩, false)] t 0 (fun a9 u =>
 some (.ret [((V.agg [(V.int .i64 (1 : Int)), V.str ⟨#[]⟩, V.slice 3 44 [[V.cell (getD f 0 cellD).1 0, V.cell (getD f 0 cellD).1 1, V.cell (getD f 0 cellD).1 2]]]), false)], u)) pnK) pnK) pnK
 else
 (V.asStr (getD d 0 cellD).1).bind fun s34 =>
 bif (s34.toList == (ByteArray.mk #[109, 97, 120]).toList) then
 callK call 69 [(V.ptr 65 a 0, false)] e 1 (fun c0 v =>
 callK call 47 [(V.ptr 65 a 0, false)] v 1 (fun g w =>
 (grd ((V.fits (getD g 0 cellD).1 true 3 && true))).bind fun _ =>
 (grd (room (0 + 1))).bind fun _ =>
 callK call 47 [(V.ptr 65 a 0, false)] w 1 (fun h x =>
 (grd ((V.fits (getD h 0 cellD).1 true 3 && true))).bind fun _ =>
 (grd (room (1 + 1))).bind fun _ =>
 callK call 71 [(V.ptr 65 a 0, false), (V.str ⟨#[41]⟩, false)] x 0 (fun c1 y =>
 some (.ret [((V.agg [(V.int .i64 (2 : Int)), V.str ⟨#[]⟩, V.slice 3 44 [[V.cell (getD g 0 cellD).1 0, V.cell (getD g 0 cellD).1 1, V.cell (getD g 0 cellD).1 2], [V.cell (getD h 0 cellD).1 0, V.cell (getD h 0 cellD).1 1, V.cell (getD h 0 cellD).1 2]]]), false)], y)) pnK) pnK) pnK) pnK
 else
 (V.asStr (getD d 0 cellD).1).bind fun s47 =>
 bif (s47.toList == (ByteArray.mk #[105, 109, 97, 120]).toList) then
 callK call 69 [(V.ptr 65 a 0, false)] e 1 (fun c2 z =>
 callK call 47 [(V.ptr 65 a 0, false)] z 1 (fun i a0 =>
 (grd ((V.fits (getD i 0 cellD).1 true 3 && true))).bind fun _ =>
 (grd (room (0 + 1))).bind fun _ =>
 callK call 47 [(V.ptr 65 a 0, false)] a0 1 (fun j a1 =>
 (grd ((V.fits (getD j 0 cellD).1 true 3 && true))).bind fun _ =>
 (grd (room (1 + 1))).bind fun _ =>
 callK call 71 [(V.ptr 65 a 0, false), (V.str ⟨#[41]⟩, false)] a1 0 (fun c3 a2 =>
 some (.ret [((V.agg [(V.int .i64 (3 : Int)), V.str ⟨#[]⟩, V.slice 3 44 [[V.cell (getD i 0 cellD).1 0, V.cell (getD i 0 cellD).1 1, V.cell (getD i 0 cellD).1 2], [V.cell (getD j 0 cellD).1 0, V.cell (getD j 0 cellD).1 1, V.cell (getD j 0 cellD).1 2]]]), false)], a2)) pnK) pnK) pnK) pnK
 else
 callK call 70 [(V.ptr 65 a 0, false), ((getD d 1 cellD).1, false)] e 0 (fun c4 a3 =>
 some (.ret [((V.agg [(V.int .i64 (0 : Int)), V.str ⟨#[]⟩, V.slice 3 44 []]), false)], a3)) pnK) pnK) pnK
 else
 callK call 70 [(V.ptr 65 a 0, false), ((getD b 1 cellD).1, false)] c 0 (fun c5 a4 =>
 some (.ret [((V.agg [(V.int .i64 (0 : Int)), V.str ⟨#[]⟩, V.slice 3 44 []]), false)], a4)) pnK) pnK) pnK
noncomputable def rlevel (call : CallF) (n a : Nat) (σ : Sto) : Option Res := rlevelF call a σ
theorem rlevel_eqF (call : CallF) (n a : Nat) (σ : Sto) : afun C rlevelD call n [(V.ptr 65 a 0, false)] σ =
  rlevelF call a σ := by kernel_rfl
theorem rlevel_eq (call : CallF) (n a : Nat) (σ : Sto) : afun C rlevelD call n [(V.ptr 65 a 0, false)] σ = rlevel call n a σ := rlevel_eqF call n a σ
theorem rlevel_lim {n : Nat} {a : Nat} {b0 : Bool} {σ : Sto} {r : Res} (h : rlevel (lim C) n a σ = some r) : lim C 47 [(V.ptr 65 a 0, b0)] σ = some r :=
 lim_of (d := rlevelD) (by kernel_rfl) (by kernel_rfl) n (show afun C rlevelD (lim C) n [(V.ptr 65 a 0, false)] σ = some r from (rlevel_eq (lim C) n a σ).trans h)
noncomputable def rdoneF (call : CallF) (a : Nat) (σ : Sto) : Option Res :=
 callK call 67 [(V.ptr 65 a 0, false)] σ 3 (fun b c =>
 (V.asBool (getD b 2 cellD).1).bind fun b4 =>
 bif (!b4) then
 callK call 70 [(V.ptr 65 a 0, false), ((getD b 1 cellD).1, false)] c 0 (fun f d =>
 (memGet d (V.ptr 65 a 2) true 2).bind fun m8 =>
 (grd (V.fits m8 true 2)).bind fun _ =>
 some (.ret [(V.agg [V.cell m8 0, V.cell m8 1], false)], d)) pnK
 else
 (V.asStr (getD b 0 cellD).1).bind fun s9 =>
 bif (!(s9.toList == (ByteArray.mk #[]).toList)) then
 callK call 70 [(V.ptr 65 a 0, false), ((getD b 1 cellD).1, false)] c 0 (fun g e =>
 (memGet e (V.ptr 65 a 2) true 2).bind fun m13 =>
 (grd (V.fits m13 true 2)).bind fun _ =>
 some (.ret [(V.agg [V.cell m13 0, V.cell m13 1], false)], e)) pnK
 else
 (memGet c (V.ptr 65 a 2) true 2).bind fun m14 =>
 (grd (V.fits m14 true 2)).bind fun _ =>
 some (.ret [(V.agg [V.cell m14 0, V.cell m14 1], false)], c)) pnK
noncomputable def rdone (call : CallF) (n a : Nat) (σ : Sto) : Option Res := rdoneF call a σ
theorem rdone_eqF (call : CallF) (n a : Nat) (σ : Sto) : afun C rdoneD call n [(V.ptr 65 a 0, false)] σ =
  rdoneF call a σ := by kernel_rfl
theorem rdone_eq (call : CallF) (n a : Nat) (σ : Sto) : afun C rdoneD call n [(V.ptr 65 a 0, false)] σ = rdone call n a σ := rdone_eqF call n a σ
theorem rdone_lim {n : Nat} {a : Nat} {b0 : Bool} {σ : Sto} {r : Res} (h : rdone (lim C) n a σ = some r) : lim C 48 [(V.ptr 65 a 0, b0)] σ = some r :=
 lim_of (d := rdoneD) (by kernel_rfl) (by kernel_rfl) n (show afun C rdoneD (lim C) n [(V.ptr 65 a 0, false)] σ = some r from (rdone_eq (lim C) n a σ).trans h)
noncomputable def levelPartsk0 : List Nat := [1, 2, 5, 6]
noncomputable def levelPartss0 (call : CallF) (rec0 : Int → Int → Int → Int → ByteArray → LL → RR) (d c a e : Int) (f : ByteArray) (b : LL) (σ : Sto) : Option Res :=
 bif (decide (a < (b.length : Int))) then
 bif (decide (c ≤ d)) then
 (grd (decide (0 ≤ a) && decide (a < b.length))).bind fun _ =>
 callK call 49 [(V.agg [(getD (getD b a.toNat []) 0 V.any), (getD (getD b a.toNat []) 1 V.any), (getD (getD b a.toNat []) 2 V.any)], false), (V.int .i64 (wrap .i64 (d - c)), false)] σ 1 (fun g h =>
 (V.asInt (getD g 0 cellD).1 .i64).bind fun i4 =>
 rec0 d (wrap .i64 (c + i4)) (wrap .i64 (a + (1 : Int))) e f b h) pnK
 else
 some (.ret [(V.int .i64 c, false)], σ)
 else
 some (.ret [(V.int .i64 c, false)], σ)
noncomputable def levelPartsl0 (call : CallF) (n : Nat) : Nat → Int → Int → Int → Int → ByteArray → LL → RR
 | 0 => fun _ _ _ _ _ _ _ => none
 | m + 1 => levelPartss0 call (levelPartsl0 call n m)
noncomputable def levelPartst0 (a b c d : Int) (e : ByteArray) (f : LL) (σ : Sto) : St := ⟨[.dead, .val (V.int .i64 a) false, .lptr 2 0, .dead, .dead, .val (V.int .i64 b) false, .val (V.int .i64 c) false] ++ dd 26 [], [[], [], [(V.int .i64 d, false), (V.str e, false), (V.slice 3 44 f, false)]] ++ nn 30 [], σ⟩
noncomputable def levelPartsF (call : CallF) (L0 : Int → Int → Int → Int → ByteArray → LL → RR) (a : Int) (b : ByteArray) (c : LL) (d : Int) (σ : Sto) : Option Res :=
 L0 d (1 : Int) (0 : Int) a b c σ
noncomputable def levelParts (call : CallF) (n : Nat) (a : Int) (b : ByteArray) (c : LL) (d : Int) (σ : Sto) : Option Res := levelPartsF call (levelPartsl0 call n n) a b c d σ
theorem levelPartss0_eq (call : CallF) (n : Nat) (F0 : St → Option Res) (a b c d : Int) (e : ByteArray) (f : LL) (σ : Sto) :
  aexec C levelPartsH call n (cp [0,0,1,0,1,1] levelPartsC) 0 (levelPartst0 a b c d e f σ) (kloop levelPartsk0 F0 (kblk 0 (kseq (fun st' => aexec C levelPartsH call n (cp [1,1,1] levelPartsC) 0 st' (kfin C levelPartsD)) (kfin C levelPartsD)))) =
  levelPartss0 call (fun a b c d e f σ => F0 (levelPartst0 a b c d e f σ)) a b c d e f σ := by kernel_rfl
theorem levelPartsl0_eq (call : CallF) (n : Nat) : ∀ (m : Nat) (a b c d : Int) (e : ByteArray) (f : LL) (σ : Sto),
  aloop (fun st K => aexec C levelPartsH call n (cp [0,0,1,0,1,1] levelPartsC) 0 st K) levelPartsk0 m (levelPartst0 a b c d e f σ) (kblk 0 (kseq (fun st' => aexec C levelPartsH call n (cp [1,1,1] levelPartsC) 0 st' (kfin C levelPartsD)) (kfin C levelPartsD))) = levelPartsl0 call n m a b c d e f σ
 | 0, a, b, c, d, e, f, σ => rfl
 | m + 1, a, b, c, d, e, f, σ => by
  rw [aloop, levelPartss0_eq]
  simp only [levelPartsl0_eq call n m]
  rfl
theorem levelParts_eqF (call : CallF) (n : Nat) (b : Int) (c : ByteArray) (d : LL) (a : Int) (σ : Sto) : afun C levelPartsD call n [(V.agg [V.int .i64 b, V.str c, V.slice 3 44 d], false), (V.int .i64 a, false)] σ =
  levelPartsF call (fun a e f g h i σ => aloop (fun st K => aexec C levelPartsH call n (cp [0,0,1,0,1,1] levelPartsC) 0 st K) levelPartsk0 n (levelPartst0 a e f g h i σ) (kblk 0 (kseq (fun st' => aexec C levelPartsH call n (cp [1,1,1] levelPartsC) 0 st' (kfin C levelPartsD)) (kfin C levelPartsD)))) b c d a σ := by kernel_rfl
theorem levelParts_eq (call : CallF) (n : Nat) (a : Int) (b : ByteArray) (c : LL) (d : Int) (σ : Sto) : afun C levelPartsD call n [(V.agg [V.int .i64 a, V.str b, V.slice 3 44 c], false), (V.int .i64 d, false)] σ = levelParts call n a b c d σ := by
 rw [levelParts_eqF]
 simp only [levelPartsl0_eq]
 rfl
theorem levelParts_lim {n : Nat} {a : Int} {b : ByteArray} {c : LL} {e : Int} {b0 b1 : Bool} {σ : Sto} {r : Res} (h : levelParts (lim C) n a b c e σ = some r) : lim C 49 [(V.agg [V.int .i64 a, V.str b, V.slice 3 44 c], b0), (V.int .i64 e, b1)] σ = some r :=
 lim_of (d := levelPartsD) (by kernel_rfl) (by kernel_rfl) n (show afun C levelPartsD (lim C) n [(V.agg [V.int .i64 a, V.str b, V.slice 3 44 c], false), (V.int .i64 e, false)] σ = some r from (levelParts_eq (lim C) n a b c e σ).trans h)
end Go.Ab.Mk
end
section
set_option maxRecDepth 100000
namespace Go.Ab.Mk
open Go.Proofs Go.Ab
open List (getD)
open IntKind (wrap)
noncomputable def substk0 : List Nat := [1, 2, 6, 8, 28, 29, 30]
noncomputable def substs0 (call : CallF) (rec0 : LL → LL → LL → Int → Int → Int → ByteArray → LL → Int → ByteArray → LL → RR) (e f b : LL) (g a j : Int) (k : ByteArray) (o : LL) (h : Int) (i : ByteArray) (d : LL) (σ : Sto) : Option Res :=
 bif (decide (a < g)) then
 (grd (decide (0 ≤ a) && decide (a < b.length))).bind fun _ =>
 callK call 50 [(V.agg [(getD (getD b a.toNat []) 0 V.any), (getD (getD b a.toNat []) 1 V.any), (getD (getD b a.toNat []) 2 V.any)], false), (V.slice 1 9 e, false), (V.slice 3 44 f, false)] σ 1 (fun c p =>
 (grd ((V.fits (getD c 0 cellD).1 true 3 && true))).bind fun _ =>
 (grd (room (List.length d + 1))).bind fun _ =>
 rec0 e f b g (wrap .i64 (a + (1 : Int))) j k o h i (d ++ [[V.cell (getD c 0 cellD).1 0, V.cell (getD c 0 cellD).1 1, V.cell (getD c 0 cellD).1 2]]) p) pnK
 else
 some (.ret [(V.agg [V.int .i64 h, V.str i, V.slice 3 44 d], false)], σ)
noncomputable def substl0 (call : CallF) (n : Nat) : Nat → LL → LL → LL → Int → Int → Int → ByteArray → LL → Int → ByteArray → LL → RR
 | 0 => fun _ _ _ _ _ _ _ _ _ _ _ _ => none
 | m + 1 => substs0 call (substl0 call n m)
noncomputable def substt0 (a b c : LL) (d e f : Int) (g : ByteArray) (h : LL) (i : Int) (j : ByteArray) (k : LL) (σ : Sto) : St := ⟨[.dead, .val (V.slice 1 9 a) false, .val (V.slice 3 44 b) false, .dead, .dead, .dead, .lptr 6 0, .dead, .lptr 8 0] ++ dd 19 ([.val (V.slice 3 44 c) false, .val (V.int .i64 d) false, .val (V.int .i64 e) false] ++ dd 14 []), nn 6 ([[(V.int .i64 f, false), (V.str g, false), (V.slice 3 44 h, true)], [], [(V.int .i64 i, false), (V.str j, false), (V.slice 3 44 k, true)]] ++ nn 36 []), σ⟩
noncomputable def substF (call : CallF) (L0 : LL → LL → LL → Int → Int → Int → ByteArray → LL → Int → ByteArray → LL → RR) (b : Int) (c : ByteArray) (d e a : LL) (σ : Sto) : Option Res :=
 bif (b == (4 : Int)) then
 callK call 72 [(V.slice 1 9 e, false), (V.str c, false)] σ 1 (fun f g =>
 (V.asInt (getD f 0 cellD).1 .i64).bind fun i4 =>
 bif (decide (i4 ≥ (0 : Int))) then
 (V.asInt (getD f 0 cellD).1 .i64).bind fun i5 =>
 (grd (decide (0 ≤ i5) && decide (i5 < a.length))).bind fun _ =>
 some (.ret [(V.agg [(getD (getD a i5.toNat []) 0 V.any), (getD (getD a i5.toNat []) 1 V.any), (getD (getD a i5.toNat []) 2 V.any)], false)], g)
 else
 some (.ret [(V.agg [V.int .i64 b, V.str c, V.slice 3 44 d], false)], g)) pnK
 else
 L0 e a d (d.length : Int) (0 : Int) (0 : Int) (ByteArray.mk #[]) [] b c [] σ
noncomputable def subst (call : CallF) (n : Nat) (a : Int) (b : ByteArray) (c d e : LL) (σ : Sto) : Option Res := substF call (substl0 call n n) a b c d e σ
theorem substs0_eq (call : CallF) (n : Nat) (F0 : St → Option Res) (a b c : LL) (d e f : Int) (g : ByteArray) (h : LL) (i : Int) (j : ByteArray) (k : LL) (σ : Sto) :
  aexec C substH call n (cp [0,0,1,0,1,1,1,1] substC) 0 (substt0 a b c d e f g h i j k σ) (kloop substk0 F0 (kblk 0 (kseq (fun st' => aexec C substH call n (cp [1,1,1,1,1] substC) 0 st' (kfin C substD)) (kfin C substD)))) =
  substs0 call (fun a b c d e f g h i j k σ => F0 (substt0 a b c d e f g h i j k σ)) a b c d e f g h i j k σ := by kernel_rfl
theorem substl0_eq (call : CallF) (n : Nat) : ∀ (m : Nat) (a b c : LL) (d e f : Int) (g : ByteArray) (h : LL) (i : Int) (j : ByteArray) (k : LL) (σ : Sto),
  aloop (fun st K => aexec C substH call n (cp [0,0,1,0,1,1,1,1] substC) 0 st K) substk0 m (substt0 a b c d e f g h i j k σ) (kblk 0 (kseq (fun st' => aexec C substH call n (cp [1,1,1,1,1] substC) 0 st' (kfin C substD)) (kfin C substD))) = substl0 call n m a b c d e f g h i j k σ
 | 0, a, b, c, d, e, f, g, h, i, j, k, σ => rfl
 | m + 1, a, b, c, d, e, f, g, h, i, j, k, σ => by
  rw [aloop, substs0_eq]
  simp only [substl0_eq call n m]
  rfl
theorem subst_eqF (call : CallF) (n : Nat) (c : Int) (d : ByteArray) (e a b : LL) (σ : Sto) : afun C substD call n [(V.agg [V.int .i64 c, V.str d, V.slice 3 44 e], false), (V.slice 1 9 a, false), (V.slice 3 44 b, false)] σ =
  substF call (fun a b f g h i j k o p q σ => aloop (fun st K => aexec C substH call n (cp [0,0,1,0,1,1,1,1] substC) 0 st K) substk0 n (substt0 a b f g h i j k o p q σ) (kblk 0 (kseq (fun st' => aexec C substH call n (cp [1,1,1,1,1] substC) 0 st' (kfin C substD)) (kfin C substD)))) c d e a b σ := by kernel_rfl
theorem subst_eq (call : CallF) (n : Nat) (a : Int) (b : ByteArray) (c d e : LL) (σ : Sto) : afun C substD call n [(V.agg [V.int .i64 a, V.str b, V.slice 3 44 c], false), (V.slice 1 9 d, false), (V.slice 3 44 e, false)] σ = subst call n a b c d e σ := by
 rw [subst_eqF]
 simp only [substl0_eq]
 rfl
theorem subst_lim {n : Nat} {a : Int} {b : ByteArray} {c : LL} {e : LL} {f : LL} {b0 b1 b2 : Bool} {σ : Sto} {r : Res} (h : subst (lim C) n a b c e f σ = some r) : lim C 50 [(V.agg [V.int .i64 a, V.str b, V.slice 3 44 c], b0), (V.slice 1 9 e, b1), (V.slice 3 44 f, b2)] σ = some r :=
 lim_of (d := substD) (by kernel_rfl) (by kernel_rfl) n (show afun C substD (lim C) n [(V.agg [V.int .i64 a, V.str b, V.slice 3 44 c], false), (V.slice 1 9 e, false), (V.slice 3 44 f, false)] σ = some r from (subst_eq (lim C) n a b c e f σ).trans h)
noncomputable def rsubstk0 : List Nat := [1, 2, 3, 6, 7]
noncomputable def rsubstk1 : List Nat := [1, 2, 3, 6, 8, 9]
noncomputable def rsubsts0 (call : CallF) (rec0 : LL → LL → Int → Int → ByteArray → LL → Int → ByteArray → LL → RR) (c b : LL) (a e : Int) (d : ByteArray) (f : LL) (g : Int) (h : ByteArray) (i : LL) (σ : Sto) : Option Res :=
 bif (decide (a < (c.length : Int))) then
 (grd (decide (0 ≤ a) && decide (a < c.length))).bind fun _ =>
 (V.asStr (getD (getD c a.toNat []) 0 V.any)).bind fun s1 =>
 bif (s1.toList == d.toList) then
 (grd (decide (0 ≤ a) && decide (a < b.length))).bind fun _ =>
 some (.ret [(V.agg [(getD (getD b a.toNat []) 0 V.any), (getD (getD b a.toNat []) 1 V.any), (getD (getD b a.toNat []) 2 V.any)], false)], σ)
 else
 rec0 c b (wrap .i64 (a + (1 : Int))) e d f g h i σ
 else
 some (.ret [(V.agg [V.int .i64 e, V.str d, V.slice 3 44 f], false)], σ)
noncomputable def rsubstl0 (call : CallF) (n : Nat) : Nat → LL → LL → Int → Int → ByteArray → LL → Int → ByteArray → LL → RR
 | 0 => fun _ _ _ _ _ _ _ _ _ _ => none
 | m + 1 => rsubsts0 call (rsubstl0 call n m)
noncomputable def rsubstt0 (a b : LL) (c d : Int) (e : ByteArray) (f : LL) (g : Int) (h : ByteArray) (i : LL) (σ : Sto) : St := ⟨[.dead, .val (V.slice 1 9 a) false, .val (V.slice 3 44 b) false, .lptr 3 0, .dead, .dead, .lptr 6 0, .val (V.int .i64 c) false] ++ dd 49 [], [[], [], [], [(V.int .i64 d, false), (V.str e, false), (V.slice 3 44 f, false)], [], [], [(V.int .i64 g, false), (V.str h, false), (V.slice 3 44 i, true)]] ++ nn 50 [], σ⟩
noncomputable def rsubsts1 (call : CallF) (rec1 : LL → LL → Int → Int → ByteArray → LL → Int → ByteArray → LL → Int → ByteArray → LL → RR) (e f : LL) (a i : Int) (j : ByteArray) (b : LL) (k : Int) (o : ByteArray) (p : LL) (g : Int) (h : ByteArray) (d : LL) (σ : Sto) : Option Res :=
 bif (decide (a < (b.length : Int))) then
 (grd (decide (0 ≤ a) && decide (a < b.length))).bind fun _ =>
 callK call 51 [(V.agg [(getD (getD b a.toNat []) 0 V.any), (getD (getD b a.toNat []) 1 V.any), (getD (getD b a.toNat []) 2 V.any)], false), (V.slice 1 9 e, false), (V.slice 3 44 f, false)] σ 1 (fun c q =>
 (grd ((V.fits (getD c 0 cellD).1 true 3 && true))).bind fun _ =>
 (grd (room (List.length d + 1))).bind fun _ =>
 rec1 e f (wrap .i64 (a + (1 : Int))) i j b k o p g h (d ++ [[V.cell (getD c 0 cellD).1 0, V.cell (getD c 0 cellD).1 1, V.cell (getD c 0 cellD).1 2]]) q) pnK
 else
 some (.ret [(V.agg [V.int .i64 g, V.str h, V.slice 3 44 d], false)], σ)
noncomputable def rsubstl1 (call : CallF) (n : Nat) : Nat → LL → LL → Int → Int → ByteArray → LL → Int → ByteArray → LL → Int → ByteArray → LL → RR
 | 0 => fun _ _ _ _ _ _ _ _ _ _ _ _ _ => none
 | m + 1 => rsubsts1 call (rsubstl1 call n m)
noncomputable def rsubstt1 (a b : LL) (c d : Int) (e : ByteArray) (f : LL) (g : Int) (h : ByteArray) (i : LL) (j : Int) (k : ByteArray) (o : LL) (σ : Sto) : St := ⟨[.dead, .val (V.slice 1 9 a) false, .val (V.slice 3 44 b) false, .lptr 3 0, .dead, .dead, .lptr 6 0, .dead, .lptr 8 0, .val (V.int .i64 c) false] ++ dd 47 [], [[], [], [], [(V.int .i64 d, false), (V.str e, false), (V.slice 3 44 f, false)], [], [], [(V.int .i64 g, false), (V.str h, false), (V.slice 3 44 i, true)], [], [(V.int .i64 j, false), (V.str k, false), (V.slice 3 44 o, true)]] ++ nn 48 [], σ⟩
noncomputable def rsubstF (call : CallF) (L0 : LL → LL → Int → Int → ByteArray → LL → Int → ByteArray → LL → RR) (L1 : LL → LL → Int → Int → ByteArray → LL → Int → ByteArray → LL → Int → ByteArray → LL → RR) (a : Int) (b : ByteArray) (c d e : LL) (σ : Sto) : Option Res :=
 bif (a == (4 : Int)) then
 L0 d e (0 : Int) a b c (0 : Int) (ByteArray.mk #[]) [] σ
 else
 L1 d e (0 : Int) a b c (0 : Int) (ByteArray.mk #[]) [] a b [] σ
noncomputable def rsubst (call : CallF) (n : Nat) (a : Int) (b : ByteArray) (c d e : LL) (σ : Sto) : Option Res := rsubstF call (rsubstl0 call n n) (rsubstl1 call n n) a b c d e σ
theorem rsubsts0_eq (call : CallF) (n : Nat) (F0 : St → Option Res) (a b : LL) (c d : Int) (e : ByteArray) (f : LL) (g : Int) (h : ByteArray) (i : LL) (σ : Sto) :
  aexec C rsubstH call n (cp [0,0,1,0,0,1,0,1] rsubstC) 0 (rsubstt0 a b c d e f g h i σ) (kloop rsubstk0 F0 (kblk 0 (kseq (fun st' => aexec C rsubstH call n (cp [1,0,1,0,1] rsubstC) 0 st' (kseq (fun st' => aexec C rsubstH call n (codeR (codeR rsubstC)) 0 st' (kfin C rsubstD)) (kfin C rsubstD))) (kseq (fun st' => aexec C rsubstH call n (codeR (codeR rsubstC)) 0 st' (kfin C rsubstD)) (kfin C rsubstD))))) =
  rsubsts0 call (fun a b c d e f g h i σ => F0 (rsubstt0 a b c d e f g h i σ)) a b c d e f g h i σ := by kernel_rfl
theorem rsubstl0_eq (call : CallF) (n : Nat) : ∀ (m : Nat) (a b : LL) (c d : Int) (e : ByteArray) (f : LL) (g : Int) (h : ByteArray) (i : LL) (σ : Sto),
  aloop (fun st K => aexec C rsubstH call n (cp [0,0,1,0,0,1,0,1] rsubstC) 0 st K) rsubstk0 m (rsubstt0 a b c d e f g h i σ) (kblk 0 (kseq (fun st' => aexec C rsubstH call n (cp [1,0,1,0,1] rsubstC) 0 st' (kseq (fun st' => aexec C rsubstH call n (codeR (codeR rsubstC)) 0 st' (kfin C rsubstD)) (kfin C rsubstD))) (kseq (fun st' => aexec C rsubstH call n (codeR (codeR rsubstC)) 0 st' (kfin C rsubstD)) (kfin C rsubstD)))) = rsubstl0 call n m a b c d e f g h i σ
 | 0, a, b, c, d, e, f, g, h, i, σ => rfl
 | m + 1, a, b, c, d, e, f, g, h, i, σ => by
  rw [aloop, rsubsts0_eq]
  simp only [rsubstl0_eq call n m]
  rfl
theorem rsubsts1_eq (call : CallF) (n : Nat) (F1 : St → Option Res) (a b : LL) (c d : Int) (e : ByteArray) (f : LL) (g : Int) (h : ByteArray) (i : LL) (j : Int) (k : ByteArray) (o : LL) (σ : Sto) :
  aexec C rsubstH call n (cp [0,0,1,0,1,1,1] rsubstC) 0 (rsubstt1 a b c d e f g h i j k o σ) (kloop rsubstk1 F1 (kblk 2 (kseq (fun st' => aexec C rsubstH call n (cp [1,1,1,1] rsubstC) 0 st' (kfin C rsubstD)) (kfin C rsubstD)))) =
  rsubsts1 call (fun a b c d e f g h i j k o σ => F1 (rsubstt1 a b c d e f g h i j k o σ)) a b c d e f g h i j k o σ := by kernel_rfl
theorem rsubstl1_eq (call : CallF) (n : Nat) : ∀ (m : Nat) (a b : LL) (c d : Int) (e : ByteArray) (f : LL) (g : Int) (h : ByteArray) (i : LL) (j : Int) (k : ByteArray) (o : LL) (σ : Sto),
  aloop (fun st K => aexec C rsubstH call n (cp [0,0,1,0,1,1,1] rsubstC) 0 st K) rsubstk1 m (rsubstt1 a b c d e f g h i j k o σ) (kblk 2 (kseq (fun st' => aexec C rsubstH call n (cp [1,1,1,1] rsubstC) 0 st' (kfin C rsubstD)) (kfin C rsubstD))) = rsubstl1 call n m a b c d e f g h i j k o σ
 | 0, a, b, c, d, e, f, g, h, i, j, k, o, σ => rfl
 | m + 1, a, b, c, d, e, f, g, h, i, j, k, o, σ => by
  rw [aloop, rsubsts1_eq]
  simp only [rsubstl1_eq call n m]
  rfl
theorem rsubst_eqF (call : CallF) (n : Nat) (i : Int) (j : ByteArray) (k a b : LL) (σ : Sto) : afun C rsubstD call n [(V.agg [V.int .i64 i, V.str j, V.slice 3 44 k], false), (V.slice 1 9 a, false), (V.slice 3 44 b, false)] σ =
  rsubstF call (fun a b o c d e f g h σ => aloop (fun st K => aexec C rsubstH call n (cp [0,0,1,0,0,1,0,1] rsubstC) 0 st K) rsubstk0 n (rsubstt0 a b o c d e f g h σ) (kblk 0 (kseq (fun st' => aexec C rsubstH call n (cp [1,0,1,0,1] rsubstC) 0 st' (kseq (fun st' => aexec C rsubstH call n (codeR (codeR rsubstC)) 0 st' (kfin C rsubstD)) (kfin C rsubstD))) (kseq (fun st' => aexec C rsubstH call n (codeR (codeR rsubstC)) 0 st' (kfin C rsubstD)) (kfin C rsubstD))))) (fun a b p c d e f g h q r s σ => aloop (fun st K => aexec C rsubstH call n (cp [0,0,1,0,1,1,1] rsubstC) 0 st K) rsubstk1 n (rsubstt1 a b p c d e f g h q r s σ) (kblk 2 (kseq (fun st' => aexec C rsubstH call n (cp [1,1,1,1] rsubstC) 0 st' (kfin C rsubstD)) (kfin C rsubstD)))) i j k a b σ := by kernel_rfl
theorem rsubst_eq (call : CallF) (n : Nat) (a : Int) (b : ByteArray) (c d e : LL) (σ : Sto) : afun C rsubstD call n [(V.agg [V.int .i64 a, V.str b, V.slice 3 44 c], false), (V.slice 1 9 d, false), (V.slice 3 44 e, false)] σ = rsubst call n a b c d e σ := by
 rw [rsubst_eqF]
 simp only [rsubstl0_eq, rsubstl1_eq]
 rfl
theorem rsubst_lim {n : Nat} {a : Int} {b : ByteArray} {c : LL} {e : LL} {f : LL} {b0 b1 b2 : Bool} {σ : Sto} {r : Res} (h : rsubst (lim C) n a b c e f σ = some r) : lim C 51 [(V.agg [V.int .i64 a, V.str b, V.slice 3 44 c], b0), (V.slice 1 9 e, b1), (V.slice 3 44 f, b2)] σ = some r :=
 lim_of (d := rsubstD) (by kernel_rfl) (by kernel_rfl) n (show afun C rsubstD (lim C) n [(V.agg [V.int .i64 a, V.str b, V.slice 3 44 c], false), (V.slice 1 9 e, false), (V.slice 3 44 f, false)] σ = some r from (rsubst_eq (lim C) n a b c e f σ).trans h)
noncomputable def tnewF (call : CallF) (a : Int) (b : LL) (σ : Sto) : Option Res :=
 some (.ret [((V.agg [V.int .i64 a, (V.int .i64 (0 : Int)), V.str ⟨#[]⟩, V.slice 3 44 [], V.slice 5 30 b]), false)], σ)
noncomputable def tnew (call : CallF) (n : Nat) (a : Int) (b : LL) (σ : Sto) : Option Res := tnewF call a b σ
theorem tnew_eqF (call : CallF) (n : Nat) (a : Int) (b : LL) (σ : Sto) : afun C tnewD call n [(V.int .i64 a, false), (V.slice 5 30 b, false)] σ =
  tnewF call a b σ := by kernel_rfl
theorem tnew_eq (call : CallF) (n : Nat) (a : Int) (b : LL) (σ : Sto) : afun C tnewD call n [(V.int .i64 a, false), (V.slice 5 30 b, false)] σ = tnew call n a b σ := tnew_eqF call n a b σ
theorem tnew_lim {n : Nat} {a : Int} {b : LL} {b0 b1 : Bool} {σ : Sto} {r : Res} (h : tnew (lim C) n a b σ = some r) : lim C 53 [(V.int .i64 a, b0), (V.slice 5 30 b, b1)] σ = some r :=
 lim_of (d := tnewD) (by kernel_rfl) (by kernel_rfl) n (show afun C tnewD (lim C) n [(V.int .i64 a, false), (V.slice 5 30 b, false)] σ = some r from (tnew_eq (lim C) n a b σ).trans h)
noncomputable def rappF (call : CallF) (a b : Int) (c : ByteArray) (d e : LL) (f g : Int) (h : ByteArray) (i j : LL) (σ : Sto) : Option Res :=
 some (.ret [((V.agg [(V.int .i64 (3 : Int)), (V.int .i64 (0 : Int)), V.str ⟨#[]⟩, V.slice 3 44 [], V.slice 5 30 [[V.int .i64 a, V.int .i64 b, V.str c, V.slice 3 44 d, V.slice 5 30 e], [V.int .i64 f, V.int .i64 g, V.str h, V.slice 3 44 i, V.slice 5 30 j]]]), false)], σ)
noncomputable def rapp (call : CallF) (n : Nat) (a b : Int) (c : ByteArray) (d e : LL) (f g : Int) (h : ByteArray) (i j : LL) (σ : Sto) : Option Res := rappF call a b c d e f g h i j σ
theorem rapp_eqF (call : CallF) (n : Nat) (a b : Int) (c : ByteArray) (d e : LL) (f g : Int) (h : ByteArray) (i j : LL) (σ : Sto) : afun C rappD call n [(V.agg [V.int .i64 a, V.int .i64 b, V.str c, V.slice 3 44 d, V.slice 5 30 e], false), (V.agg [V.int .i64 f, V.int .i64 g, V.str h, V.slice 3 44 i, V.slice 5 30 j], false)] σ =
  rappF call a b c d e f g h i j σ := by kernel_rfl
theorem rapp_eq (call : CallF) (n : Nat) (a b : Int) (c : ByteArray) (d e : LL) (f g : Int) (h : ByteArray) (i j : LL) (σ : Sto) : afun C rappD call n [(V.agg [V.int .i64 a, V.int .i64 b, V.str c, V.slice 3 44 d, V.slice 5 30 e], false), (V.agg [V.int .i64 f, V.int .i64 g, V.str h, V.slice 3 44 i, V.slice 5 30 j], false)] σ = rapp call n a b c d e f g h i j σ := rapp_eqF call n a b c d e f g h i j σ
theorem rapp_lim {n : Nat} {a : Int} {b : Int} {c : ByteArray} {e : LL} {f : LL} {g : Int} {i : Int} {j : ByteArray} {k : LL} {o : LL} {b0 b1 : Bool} {σ : Sto} {r : Res} (h : rapp (lim C) n a b c e f g i j k o σ = some r) : lim C 54 [(V.agg [V.int .i64 a, V.int .i64 b, V.str c, V.slice 3 44 e, V.slice 5 30 f], b0), (V.agg [V.int .i64 g, V.int .i64 i, V.str j, V.slice 3 44 k, V.slice 5 30 o], b1)] σ = some r :=
 lim_of (d := rappD) (by kernel_rfl) (by kernel_rfl) n (show afun C rappD (lim C) n [(V.agg [V.int .i64 a, V.int .i64 b, V.str c, V.slice 3 44 e, V.slice 5 30 f], false), (V.agg [V.int .i64 g, V.int .i64 i, V.str j, V.slice 3 44 k, V.slice 5 30 o], false)] σ = some r from (rapp_eq (lim C) n a b c e f g i j k o σ).trans h)
noncomputable def twritek0 : List Nat := [0, 3, 33, 34, 35]
noncomputable def twritek1 : List Nat := [0, 46, 47, 48]
noncomputable def twrites1 (call : CallF) (rec1 : Nat → LL → Int → Int → RR) (c : Nat) (b : LL) (d a : Int) (σ : Sto) : Option Res :=
 bif (decide (a < d)) then
 (grd (decide (0 ≤ a) && decide (a < b.length))).bind fun _ =>
 callK call 76 [(V.ptr 75 c 0, false), ((V.int .u8 (32 : Int)), false)] σ 1 (fun h e =>
 callK call 55 [(V.ptr 75 c 0, false), (V.agg [(getD (getD b a.toNat []) 0 V.any), (getD (getD b a.toNat []) 1 V.any), (getD (getD b a.toNat []) 2 V.any), (getD (getD b a.toNat []) 3 V.any), (getD (getD b a.toNat []) 4 V.any)], false)] e 0 (fun i f =>
 rec1 c b d (wrap .i64 (a + (1 : Int))) f) pnK) pnK
 else
 callK call 76 [(V.ptr 75 c 0, false), ((V.int .u8 (41 : Int)), false)] σ 1 (fun j g =>
 some (.ret [], g)) pnK
noncomputable def twritel1 (call : CallF) (n : Nat) : Nat → Nat → LL → Int → Int → RR
 | 0 => fun _ _ _ _ _ => none
 | m + 1 => twrites1 call (twritel1 call n m)
noncomputable def twritet1 (a : Nat) (b : LL) (c d : Int) (σ : Sto) : St := ⟨[.val (V.ptr 75 a 0) false] ++ dd 45 ([.val (V.slice 5 30 b) false, .val (V.int .i64 c) false, .val (V.int .i64 d) false] ++ dd 11 []), nn 60 [], σ⟩
noncomputable def twrites0 (call : CallF) (L1 : Nat → LL → Int → Int → RR) (rec0 : Nat → LL → Int → Int → Int → Int → ByteArray → LL → LL → RR) (c : Nat) (b : LL) (e a f g : Int) (h : ByteArray) (i d : LL) (σ : Sto) : Option Res :=
 bif (decide (a < e)) then
 (grd (decide (0 ≤ a) && decide (a < b.length))).bind fun _ =>
 callK call 75 [(V.agg [(getD (getD b a.toNat []) 0 V.any), (getD (getD b a.toNat []) 1 V.any), (getD (getD b a.toNat []) 2 V.any)], false)] σ 1 (fun j k =>
 (V.asStr (getD j 0 cellD).1).bind fun s4 =>
 (grd (strRoom (ByteArray.mk #[32]) s4)).bind fun _ =>
 callK call 73 [(V.ptr 75 c 0, false), (V.str ((ByteArray.mk #[32]) ++ s4), false)] k 2 (fun p o =>
 rec0 c b e (wrap .i64 (a + (1 : Int))) f g h i d o) pnK) pnK
 else
 L1 c d (d.length : Int) (0 : Int) σ
noncomputable def twritel0 (call : CallF) (n : Nat) : Nat → Nat → LL → Int → Int → Int → Int → ByteArray → LL → LL → RR
 | 0 => fun _ _ _ _ _ _ _ _ _ _ => none
 | m + 1 => twrites0 call (twritel1 call n n) (twritel0 call n m)
noncomputable def twritet0 (a : Nat) (b : LL) (c d e f : Int) (g : ByteArray) (h i : LL) (σ : Sto) : St := ⟨[.val (V.ptr 75 a 0) false, .dead, .dead, .lptr 3 0] ++ dd 29 ([.val (V.slice 3 44 b) false, .val (V.int .i64 c) false, .val (V.int .i64 d) false] ++ dd 24 []), [[], [], [], [(V.int .i64 e, false), (V.int .i64 f, false), (V.str g, false), (V.slice 3 44 h, false), (V.slice 5 30 i, false)]] ++ nn 56 [], σ⟩
noncomputable def twriteF (call : CallF) (L0 : Nat → LL → Int → Int → Int → Int → ByteArray → LL → LL → RR) (c : Nat) (a e : Int) (d : ByteArray) (b f : LL) (σ : Sto) : Option Res :=
 bif (a == (0 : Int)) then
 callK call 74 [(V.int .i64 e, false)] σ 1 (fun h i =>
 (V.asStr (getD h 0 cellD).1).bind fun s4 =>
 (grd (strRoom (ByteArray.mk #[35]) s4)).bind fun _ =>
 callK call 73 [(V.ptr 75 c 0, false), (V.str ((ByteArray.mk #[35]) ++ s4), false)] i 2 (fun o j =>
 some (.ret [], j)) pnK) pnK
 else
 (grd (decide (0 ≤ a) && decide (a < 7))).bind fun _ =>
 (memGet [] (V.eptr 7 [V.str ⟨#[]⟩, V.str ⟨#[115, 111, 114, 116]⟩, V.str ⟨#[99, 111, 110, 115, 116]⟩, V.str ⟨#[97, 112, 112]⟩, V.str ⟨#[108, 97, 109]⟩, V.str ⟨#[112, 105]⟩, V.str ⟨#[108, 101, 116]⟩] (0 + Int.toNat a * 1)) false 1).bind fun m8 =>
 (V.asStr m8).bind fun s9 =>
 (grd (strRoom (ByteArray.mk #[40]) s9)).bind fun _ =>
 callK call 73 [(V.ptr 75 c 0, false), (V.str ((ByteArray.mk #[40]) ++ s9), false)] σ 2 (fun p g =>
 bif (a == (2 : Int)) then
 (grd (strRoom (ByteArray.mk #[32]) d)).bind fun _ =>
 callK call 73 [(V.ptr 75 c 0, false), (V.str ((ByteArray.mk #[32]) ++ d), false)] g 2 (fun q k =>
 L0 c b (b.length : Int) (0 : Int) a e d b f k) pnK
 else
 L0 c b (b.length : Int) (0 : Int) a e d b f g) pnK
noncomputable def twrite (call : CallF) (n a : Nat) (b c : Int) (d : ByteArray) (e f : LL) (σ : Sto) : Option Res := twriteF call (twritel0 call n n) a b c d e f σ
theorem twrites1_eq (call : CallF) (n : Nat) (F1 : St → Option Res) (a : Nat) (b : LL) (c d : Int) (σ : Sto) :
  aexec C twriteH call n (cp [0,0,1,0,1,1,1,1,1] twriteC) 0 (twritet1 a b c d σ) (kloop twritek1 F1 (kblk 2 (kseq (fun st' => aexec C twriteH call n (cp [1,1,1,1,1,1] twriteC) 0 st' (kfin C twriteD)) (kfin C twriteD)))) =
  twrites1 call (fun a b c d σ => F1 (twritet1 a b c d σ)) a b c d σ := by kernel_rfl
theorem twritel1_eq (call : CallF) (n : Nat) : ∀ (m a : Nat) (b : LL) (c d : Int) (σ : Sto),
  aloop (fun st K => aexec C twriteH call n (cp [0,0,1,0,1,1,1,1,1] twriteC) 0 st K) twritek1 m (twritet1 a b c d σ) (kblk 2 (kseq (fun st' => aexec C twriteH call n (cp [1,1,1,1,1,1] twriteC) 0 st' (kfin C twriteD)) (kfin C twriteD))) = twritel1 call n m a b c d σ
 | 0, a, b, c, d, σ => rfl
 | m + 1, a, b, c, d, σ => by
  rw [aloop, twrites1_eq]
  simp only [twritel1_eq call n m]
  rfl
theorem twrites0_eq (call : CallF) (n : Nat) (F0 : St → Option Res) (a : Nat) (b : LL) (c d e f : Int) (g : ByteArray) (h i : LL) (σ : Sto) :
  aexec C twriteH call n (cp [0,0,1,0,1,1,1,1] twriteC) 0 (twritet0 a b c d e f g h i σ) (kloop twritek0 F0 (kblk 0 (kseq (fun st' => aexec C twriteH call n (cp [1,1,1,1,1] twriteC) 0 st' (kfin C twriteD)) (kfin C twriteD)))) =
  twrites0 call (fun a j k o σ => aloop (fun st K => aexec C twriteH call n (cp [0,0,1,0,1,1,1,1,1] twriteC) 0 st K) twritek1 n (twritet1 a j k o σ) (kblk 2 (kseq (fun st' => aexec C twriteH call n (cp [1,1,1,1,1,1] twriteC) 0 st' (kfin C twriteD)) (kfin C twriteD)))) (fun a b c d e f g h i σ => F0 (twritet0 a b c d e f g h i σ)) a b c d e f g h i σ := by kernel_rfl
theorem twritel0_eq (call : CallF) (n : Nat) : ∀ (m a : Nat) (b : LL) (c d e f : Int) (g : ByteArray) (h i : LL) (σ : Sto),
  aloop (fun st K => aexec C twriteH call n (cp [0,0,1,0,1,1,1,1] twriteC) 0 st K) twritek0 m (twritet0 a b c d e f g h i σ) (kblk 0 (kseq (fun st' => aexec C twriteH call n (cp [1,1,1,1,1] twriteC) 0 st' (kfin C twriteD)) (kfin C twriteD))) = twritel0 call n m a b c d e f g h i σ
 | 0, a, b, c, d, e, f, g, h, i, σ => rfl
 | m + 1, a, b, c, d, e, f, g, h, i, σ => by
  rw [aloop, twrites0_eq]
  simp only [twritel0_eq call n m, twritel1_eq]
  rfl
theorem twrite_eqF (call : CallF) (n a : Nat) (b c : Int) (d : ByteArray) (e f : LL) (σ : Sto) : afun C twriteD call n [(V.ptr 75 a 0, false), (V.agg [V.int .i64 b, V.int .i64 c, V.str d, V.slice 3 44 e, V.slice 5 30 f], false)] σ =
  twriteF call (fun a g h i j k o p q σ => aloop (fun st K => aexec C twriteH call n (cp [0,0,1,0,1,1,1,1] twriteC) 0 st K) twritek0 n (twritet0 a g h i j k o p q σ) (kblk 0 (kseq (fun st' => aexec C twriteH call n (cp [1,1,1,1,1] twriteC) 0 st' (kfin C twriteD)) (kfin C twriteD)))) a b c d e f σ := by kernel_rfl
theorem twrite_eq (call : CallF) (n a : Nat) (b c : Int) (d : ByteArray) (e f : LL) (σ : Sto) : afun C twriteD call n [(V.ptr 75 a 0, false), (V.agg [V.int .i64 b, V.int .i64 c, V.str d, V.slice 3 44 e, V.slice 5 30 f], false)] σ = twrite call n a b c d e f σ := by
 rw [twrite_eqF]
 simp only [twritel0_eq]
 rfl
theorem twrite_lim {n : Nat} {a : Nat} {b : Int} {c : Int} {e : ByteArray} {f : LL} {g : LL} {b0 b1 : Bool} {σ : Sto} {r : Res} (h : twrite (lim C) n a b c e f g σ = some r) : lim C 55 [(V.ptr 75 a 0, b0), (V.agg [V.int .i64 b, V.int .i64 c, V.str e, V.slice 3 44 f, V.slice 5 30 g], b1)] σ = some r :=
 lim_of (d := twriteD) (by kernel_rfl) (by kernel_rfl) n (show afun C twriteD (lim C) n [(V.ptr 75 a 0, false), (V.agg [V.int .i64 b, V.int .i64 c, V.str e, V.slice 3 44 f, V.slice 5 30 g], false)] σ = some r from (twrite_eq (lim C) n a b c e f g σ).trans h)
noncomputable def rprintF (call : CallF) (b : Int) (c : ByteArray) (a : LL) (σ : Sto) : Option Res :=
 bif (b == (0 : Int)) then
 some (.ret [(V.str ⟨#[48]⟩, false)], σ)
 else
 bif (b == (1 : Int)) then
 (grd (decide (0 ≤ (0 : Int)) && decide ((0 : Int) < a.length))).bind fun _ =>
 callK call 58 [((V.agg [(getD (getD a (Int.toNat (0 : Int)) []) 0 V.any), (getD (getD a (Int.toNat (0 : Int)) []) 1 V.any), (getD (getD a (Int.toNat (0 : Int)) []) 2 V.any)]), false)] σ 1 (fun d e =>
 (V.asStr (getD d 0 cellD).1).bind fun s4 =>
 (grd (strRoom (ByteArray.mk #[40, 115, 32]) s4)).bind fun _ =>
 (grd (strRoom ((ByteArray.mk #[40, 115, 32]) ++ s4) (ByteArray.mk #[41]))).bind fun _ =>
 some (.ret [(V.str (((ByteArray.mk #[40, 115, 32]) ++ s4) ++ (ByteArray.mk #[41])), false)], e)) pnK
 else
 bif (b == (4 : Int)) then
 some (.ret [(V.str c, false)], σ)
 else
 bif (b == (3 : Int)) then
 (grd (strRoom (ByteArray.mk #[40]) (ByteArray.mk #[105, 109, 97, 120]))).bind fun _ =>
 (grd (strRoom ((ByteArray.mk #[40]) ++ (ByteArray.mk #[105, 109, 97, 120])) (ByteArray.mk #[32]))).bind fun _ =>
 (grd (decide (0 ≤ (0 : Int)) && decide ((0 : Int) < a.length))).bind fun _ =>
 (grd (decide (0 ≤ (1 : Int)) && decide ((1 : Int) < a.length))).bind fun _ =>
 callK call 58 [((V.agg [(getD (getD a (Int.toNat (0 : Int)) []) 0 V.any), (getD (getD a (Int.toNat (0 : Int)) []) 1 V.any), (getD (getD a (Int.toNat (0 : Int)) []) 2 V.any)]), false)] σ 1 (fun f g =>
 (V.asStr (getD f 0 cellD).1).bind fun s8 =>
 (grd (strRoom (((ByteArray.mk #[40]) ++ (ByteArray.mk #[105, 109, 97, 120])) ++ (ByteArray.mk #[32])) s8)).bind fun _ =>
 (grd (strRoom ((((ByteArray.mk #[40]) ++ (ByteArray.mk #[105, 109, 97, 120])) ++ (ByteArray.mk #[32])) ++ s8) (ByteArray.mk #[32]))).bind fun _ =>
 callK call 58 [((V.agg [(getD (getD a (Int.toNat (1 : Int)) []) 0 V.any), (getD (getD a (Int.toNat (1 : Int)) []) 1 V.any), (getD (getD a (Int.toNat (1 : Int)) []) 2 V.any)]), false)] g 1 (fun h i =>
 (V.asStr (getD h 0 cellD).1).bind fun s12 =>
 (grd (strRoom (((((ByteArray.mk #[40]) ++ (ByteArray.mk #[105, 109, 97, 120])) ++ (ByteArray.mk #[32])) ++ s8) ++ (ByteArray.mk #[32])) s12)).bind fun _ =>
 (grd (strRoom ((((((ByteArray.mk #[40]) ++ (ByteArray.mk #[105, 109, 97, 120])) ++ (ByteArray.mk #[32])) ++ s8) ++ (ByteArray.mk #[32])) ++ s12) (ByteArray.mk #[41]))).bind fun _ =>
 some (.ret [(V.str (((((((ByteArray.mk #[40]) ++ (ByteArray.mk #[105, 109, 97, 120])) ++ (ByteArray.mk #[32])) ++ s8) ++ (ByteArray.mk #[32])) ++ s12) ++ (ByteArray.mk #[41])), false)], i)) pnK) pnK
 else
 (grd (strRoom (ByteArray.mk #[40]) (ByteArray.mk #[109, 97, 120]))).bind fun _ =>
 (grd (strRoom ((ByteArray.mk #[40]) ++ (ByteArray.mk #[109, 97, 120])) (ByteArray.mk #[32]))).bind fun _ =>
 (grd (decide (0 ≤ (0 : Int)) && decide ((0 : Int) < a.length))).bind fun _ =>
 (grd (decide (0 ≤ (1 : Int)) && decide ((1 : Int) < a.length))).bind fun _ =>
 callK call 58 [((V.agg [(getD (getD a (Int.toNat (0 : Int)) []) 0 V.any), (getD (getD a (Int.toNat (0 : Int)) []) 1 V.any), (getD (getD a (Int.toNat (0 : Int)) []) 2 V.any)]), false)] σ 1 (fun j k =>
 (V.asStr (getD j 0 cellD).1).bind fun s16 =>
 (grd (strRoom (((ByteArray.mk #[40]) ++ (ByteArray.mk #[109, 97, 120])) ++ (ByteArray.mk #[32])) s16)).bind fun _ =>
 (grd (strRoom ((((ByteArray.mk #[40]) ++ (ByteArray.mk #[109, 97, 120])) ++ (ByteArray.mk #[32])) ++ s16) (ByteArray.mk #[32]))).bind fun _ =>
 callK call 58 [((V.agg [(getD (getD a (Int.toNat (1 : Int)) []) 0 V.any), (getD (getD a (Int.toNat (1 : Int)) []) 1 V.any), (getD (getD a (Int.toNat (1 : Int)) []) 2 V.any)]), false)] k 1 (fun o p =>
 (V.asStr (getD o 0 cellD).1).bind fun s20 =>
 (grd (strRoom (((((ByteArray.mk #[40]) ++ (ByteArray.mk #[109, 97, 120])) ++ (ByteArray.mk #[32])) ++ s16) ++ (ByteArray.mk #[32])) s20)).bind fun _ =>
 (grd (strRoom ((((((ByteArray.mk #[40]) ++ (ByteArray.mk #[109, 97, 120])) ++ (ByteArray.mk #[32])) ++ s16) ++ (ByteArray.mk #[32])) ++ s20) (ByteArray.mk #[41]))).bind fun _ =>
 some (.ret [(V.str (((((((ByteArray.mk #[40]) ++ (ByteArray.mk #[109, 97, 120])) ++ (ByteArray.mk #[32])) ++ s16) ++ (ByteArray.mk #[32])) ++ s20) ++ (ByteArray.mk #[41])), false)], p)) pnK) pnK
noncomputable def rprint (call : CallF) (n : Nat) (a : Int) (b : ByteArray) (c : LL) (σ : Sto) : Option Res := rprintF call a b c σ
theorem rprint_eqF (call : CallF) (n : Nat) (a : Int) (b : ByteArray) (c : LL) (σ : Sto) : afun C rprintD call n [(V.agg [V.int .i64 a, V.str b, V.slice 3 44 c], false)] σ =
  rprintF call a b c σ := by kernel_rfl
theorem rprint_eq (call : CallF) (n : Nat) (a : Int) (b : ByteArray) (c : LL) (σ : Sto) : afun C rprintD call n [(V.agg [V.int .i64 a, V.str b, V.slice 3 44 c], false)] σ = rprint call n a b c σ := rprint_eqF call n a b c σ
theorem rprint_lim {n : Nat} {a : Int} {b : ByteArray} {c : LL} {b0 : Bool} {σ : Sto} {r : Res} (h : rprint (lim C) n a b c σ = some r) : lim C 58 [(V.agg [V.int .i64 a, V.str b, V.slice 3 44 c], b0)] σ = some r :=
 lim_of (d := rprintD) (by kernel_rfl) (by kernel_rfl) n (show afun C rprintD (lim C) n [(V.agg [V.int .i64 a, V.str b, V.slice 3 44 c], false)] σ = some r from (rprint_eq (lim C) n a b c σ).trans h)
end Go.Ab.Mk
end
section
set_option maxRecDepth 100000
namespace Go.Ab.Mk
open Go.Proofs Go.Ab
open List (getD)
open IntKind (wrap)
noncomputable def rtermk0 : List Nat := [0, 2, 6, 7, 9, 10, 105, 106, 107]
noncomputable def rtermk1 : List Nat := [0, 2, 11, 12, 13]
noncomputable def rtermk2 : List Nat := [0, 2, 11, 12]
noncomputable def rterms1 (call : CallF) (rec1 : Nat → Int → Int → Int → Int → ByteArray → LL → LL → Int → Int → V → LL → LL → RR) (b : Nat) (d e j k : Int) (o : ByteArray) (p q : LL) (f g : Int) (h : V) (i c : LL) (σ : Sto) : Option Res :=
 bif (decide (e < d)) then
 callK call 59 [(V.ptr 65 b 0, false)] σ 1 (fun a r =>
 (grd ((V.fits (getD a 0 cellD).1 true 5 && true))).bind fun _ =>
 (grd (room (List.length c + 1))).bind fun _ =>
 rec1 b d (wrap .i64 (e + (1 : Int))) j k o p q f g h i (c ++ [[V.cell (getD a 0 cellD).1 0, V.cell (getD a 0 cellD).1 1, V.cell (getD a 0 cellD).1 2, V.cell (getD a 0 cellD).1 3, V.cell (getD a 0 cellD).1 4]]) r) pnK
 else
 callK call 71 [(V.ptr 65 b 0, false), (V.str ⟨#[41]⟩, false)] σ 0 (fun t s =>
 some (.ret [(V.agg [V.int .i64 f, V.int .i64 g, h, V.slice 3 44 i, V.slice 5 30 c], false)], s)) pnK
noncomputable def rterml1 (call : CallF) (n : Nat) : Nat → Nat → Int → Int → Int → Int → ByteArray → LL → LL → Int → Int → V → LL → LL → RR
 | 0 => fun _ _ _ _ _ _ _ _ _ _ _ _ _ _ => none
 | m + 1 => rterms1 call (rterml1 call n m)
noncomputable def rtermt1 (a : Nat) (b c d e : Int) (f : ByteArray) (g h : LL) (i j : Int) (k : V) (o p : LL) (σ : Sto) : St := ⟨[.val (V.ptr 65 a 0) false, .dead, .lptr 2 0] ++ dd 8 ([.lptr 11 0, .val (V.int .i64 b) false, .val (V.int .i64 c) false] ++ dd 119 []), [[], [], [(V.int .i64 d, false), (V.int .i64 e, false), (V.str f, false), (V.slice 3 44 g, true), (V.slice 5 30 h, true)]] ++ nn 8 ([[(V.int .i64 i, false), (V.int .i64 j, false), (k, false), (V.slice 3 44 o, true), (V.slice 5 30 p, true)]] ++ nn 121 []), σ⟩
noncomputable def rterms2 (call : CallF) (L1 : Nat → Int → Int → Int → Int → ByteArray → LL → LL → Int → Int → V → LL → LL → RR) (rec2 : Nat → Int → Int → Int → ByteArray → LL → LL → Int → Int → V → LL → LL → RR) (a : Nat) (d e f : Int) (g : ByteArray) (h i : LL) (j k : Int) (o : V) (b p : LL) (σ : Sto) : Option Res :=
 (memGet σ (V.ptr 65 a 2) false 1).bind fun m1 =>
 (V.asInt m1 .i64).bind fun i2 =>
 bif (i2 == (0 : Int)) then
 callK call 79 [(V.ptr 65 a 0, false)] σ 1 (fun r q =>
 (V.asStr (getD r 0 cellD).1).bind fun s6 =>
 bif (!(s6.toList == (ByteArray.mk #[41]).toList)) then
 callK call 47 [(V.ptr 65 a 0, false)] q 1 (fun c s =>
 (grd ((V.fits (getD c 0 cellD).1 true 3 && true))).bind fun _ =>
 (grd (room (List.length b + 1))).bind fun _ =>
 rec2 a d e f g h i j k o (b ++ [[V.cell (getD c 0 cellD).1 0, V.cell (getD c 0 cellD).1 1, V.cell (getD c 0 cellD).1 2]]) p s) pnK
 else
 L1 a d (0 : Int) e f g h i j k o b p q) pnK
 else
 L1 a d (0 : Int) e f g h i j k o b p σ
noncomputable def rterml2 (call : CallF) (n : Nat) : Nat → Nat → Int → Int → Int → ByteArray → LL → LL → Int → Int → V → LL → LL → RR
 | 0 => fun _ _ _ _ _ _ _ _ _ _ _ _ _ => none
 | m + 1 => rterms2 call (rterml1 call n n) (rterml2 call n m)
noncomputable def rtermt2 (a : Nat) (b c d : Int) (e : ByteArray) (f g : LL) (h i : Int) (j : V) (k o : LL) (σ : Sto) : St := ⟨[.val (V.ptr 65 a 0) false, .dead, .lptr 2 0] ++ dd 8 ([.lptr 11 0, .val (V.int .i64 b) false] ++ dd 120 []), [[], [], [(V.int .i64 c, false), (V.int .i64 d, false), (V.str e, false), (V.slice 3 44 f, true), (V.slice 5 30 g, true)]] ++ nn 8 ([[(V.int .i64 h, false), (V.int .i64 i, false), (j, false), (V.slice 3 44 k, true), (V.slice 5 30 o, true)]] ++ nn 121 []), σ⟩
noncomputable def rterms0 (call : CallF) (L1 : Nat → Int → Int → Int → Int → ByteArray → LL → LL → Int → Int → V → LL → LL → RR) (L2 : Nat → Int → Int → Int → ByteArray → LL → LL → Int → Int → V → LL → LL → RR) (rec0 : Nat → V → V → Int → Int → Int → Int → ByteArray → LL → LL → RR) (a : Nat) (k o : V) (b c d e : Int) (f : ByteArray) (g h : LL) (σ : Sto) : Option Res :=
 (V.asSlice (getD [V.slice 1 9 [[V.str ⟨#[]⟩], [V.str ⟨#[115, 111, 114, 116]⟩], [V.str ⟨#[99, 111, 110, 115, 116]⟩], [V.str ⟨#[97, 112, 112]⟩], [V.str ⟨#[108, 97, 109]⟩], [V.str ⟨#[112, 105]⟩], [V.str ⟨#[108, 101, 116]⟩]]] 0 V.any) 1 9).bind fun l1 =>
 bif (decide (c < (l1.length : Int))) then
 (V.asSlice (getD [V.slice 1 9 [[V.str ⟨#[]⟩], [V.str ⟨#[115, 111, 114, 116]⟩], [V.str ⟨#[99, 111, 110, 115, 116]⟩], [V.str ⟨#[97, 112, 112]⟩], [V.str ⟨#[108, 97, 109]⟩], [V.str ⟨#[112, 105]⟩], [V.str ⟨#[108, 101, 116]⟩]]] 0 V.any) 1 9).bind fun l2 =>
 (grd (decide (0 ≤ c) && decide (c < l2.length))).bind fun _ =>
 (V.asStr (getD (getD l2 c.toNat []) 0 V.any)).bind fun s3 =>
 (V.asStr k).bind fun s4 =>
 bif (s3.toList == s4.toList) then
 rec0 a k o c (wrap .i64 (c + (1 : Int))) d e f g h σ
 else
 rec0 a k o b (wrap .i64 (c + (1 : Int))) d e f g h σ
 else
 bif (b == (0 : Int)) then
 callK call 70 [(V.ptr 65 a 0, false), (o, false)] σ 0 (fun t q =>
 some (.ret [((V.agg [(V.int .i64 (0 : Int)), (V.int .i64 (0 : Int)), V.str ⟨#[]⟩, V.slice 3 44 [], V.slice 5 30 []]), false)], q)) pnK
 else
 callK call 69 [(V.ptr 65 a 0, false)] σ 1 (fun u i =>
 bif (b == (1 : Int)) then
 callK call 47 [(V.ptr 65 a 0, false)] i 1 (fun j r =>
 (grd ((V.fits (getD j 0 cellD).1 true 3 && true))).bind fun _ =>
 (grd (room (0 + 1))).bind fun _ =>
 L1 a (0 : Int) (0 : Int) d e f g h b (0 : Int) (V.str ⟨#[]⟩) [[V.cell (getD j 0 cellD).1 0, V.cell (getD j 0 cellD).1 1, V.cell (getD j 0 cellD).1 2]] [] r) pnK
 else
 bif (b == (2 : Int)) then
 callK call 78 [(V.ptr 65 a 0, false)] i 1 (fun p s =>
 (grd (V.fits (getD p 0 cellD).1 false 1)).bind fun _ =>
 L2 a (0 : Int) d e f g h b (0 : Int) (getD p 0 cellD).1 [] [] s) pnK
 else
 bif (b == (6 : Int)) then
 L1 a (3 : Int) (0 : Int) d e f g h b (0 : Int) (V.str ⟨#[]⟩) [] [] i
 else
 L1 a (2 : Int) (0 : Int) d e f g h b (0 : Int) (V.str ⟨#[]⟩) [] [] i) pnK
noncomputable def rterml0 (call : CallF) (n : Nat) : Nat → Nat → V → V → Int → Int → Int → Int → ByteArray → LL → LL → RR
 | 0 => fun _ _ _ _ _ _ _ _ _ _ _ => none
 | m + 1 => rterms0 call (rterml1 call n n) (rterml2 call n n) (rterml0 call n m)
noncomputable def rtermt0 (a : Nat) (b c : V) (d e f g : Int) (h : ByteArray) (i j : LL) (σ : Sto) : St := ⟨[.val (V.ptr 65 a 0) false, .dead, .lptr 2 0, .dead, .dead, .dead, .val b false, .val c false, .dead, .val (V.int .i64 d) false, .val (V.int .i64 e) false] ++ dd 122 [], [[], [], [(V.int .i64 f, false), (V.int .i64 g, false), (V.str h, false), (V.slice 3 44 i, true), (V.slice 5 30 j, true)]] ++ nn 130 [], σ⟩
noncomputable def rtermF (call : CallF) (L0 : Nat → V → V → Int → Int → Int → Int → ByteArray → LL → LL → RR) (a : Nat) (σ : Sto) : Option Res :=
 callK call 67 [(V.ptr 65 a 0, false)] σ 3 (fun b c =>
 (memGet c (V.ptr 65 a 2) false 1).bind fun m4 =>
 (V.asInt m4 .i64).bind fun i5 =>
 bif (i5 != (0 : Int)) then
 some (.ret [((V.agg [(V.int .i64 (0 : Int)), (V.int .i64 (0 : Int)), V.str ⟨#[]⟩, V.slice 3 44 [], V.slice 5 30 []]), false)], c)
 else
 (V.asBool (getD b 2 cellD).1).bind fun b6 =>
 bif (!b6) then
 callK call 70 [(V.ptr 65 a 0, false), ((getD b 1 cellD).1, false)] c 0 (fun t j =>
 some (.ret [((V.agg [(V.int .i64 (0 : Int)), (V.int .i64 (0 : Int)), V.str ⟨#[]⟩, V.slice 3 44 [], V.slice 5 30 []]), false)], j)) pnK
 else
 (V.asStr (getD b 0 cellD).1).bind fun s10 =>
 bif (s10.toList == (ByteArray.mk #[]).toList) then
 callK call 70 [(V.ptr 65 a 0, false), ((getD b 1 cellD).1, false)] c 0 (fun u k =>
 some (.ret [((V.agg [(V.int .i64 (0 : Int)), (V.int .i64 (0 : Int)), V.str ⟨#[]⟩, V.slice 3 44 [], V.slice 5 30 []]), false)], k)) pnK
 else
 (V.asStr (getD b 0 cellD).1).bind fun s14 =>
 (grd (decide (0 ≤ (0 : Int)) && decide ((0 : Int) < s14.size))).bind fun _ =>
 bif ((byteAt s14 (Int.toNat (0 : Int))) != (35 : Int)) then
 (V.asStr (getD b 0 cellD).1).bind fun s15 =>
 bif (!(s15.toList == (ByteArray.mk #[40]).toList)) then
 callK call 70 [(V.ptr 65 a 0, false), ((getD b 1 cellD).1, false)] c 0 (fun v o =>
 some (.ret [((V.agg [(V.int .i64 (0 : Int)), (V.int .i64 (0 : Int)), V.str ⟨#[]⟩, V.slice 3 44 [], V.slice 5 30 []]), false)], o)) pnK
 else
 callK call 69 [(V.ptr 65 a 0, false)] c 1 (fun w d =>
 (V.asStr (getD b 0 cellD).1).bind fun s22 =>
 bif (!(s22.toList == (ByteArray.mk #[40]).toList)) then
 (V.asStr (getD b 0 cellD).1).bind fun s23 =>
 (grd (decide (0 ≤ (1 : Int)) && decide ((1 : Int) ≤ (s23.size : Int)) && decide ((s23.size : Int) ≤ s23.size))).bind fun _ =>
 callK call 77 [((V.str (s23.extract (Int.toNat (1 : Int)) (Int.toNat (s23.size : Int)))), false)] d 1 (fun e p =>
 (grd ((V.fits (getD e 0 cellD).1 false 1 && true))).bind fun _ =>
 some (.ret [((V.agg [(V.int .i64 (0 : Int)), (getD e 0 cellD).1, V.str ⟨#[]⟩, V.slice 3 44 [], V.slice 5 30 []]), false)], p)) pnK
 else
 callK call 67 [(V.ptr 65 a 0, false)] d 3 (fun f q =>
 L0 a (getD f 0 cellD).1 (getD f 1 cellD).1 (0 : Int) (1 : Int) (0 : Int) (0 : Int) (ByteArray.mk #[]) [] [] q) pnK) pnK
 else
 callK call 69 [(V.ptr 65 a 0, false)] c 1 (fun x g =>
 (V.asStr (getD b 0 cellD).1).bind fun s33 =>
 bif (!(s33.toList == (ByteArray.mk #[40]).toList)) then
 (V.asStr (getD b 0 cellD).1).bind fun s34 =>
 (grd (decide (0 ≤ (1 : Int)) && decide ((1 : Int) ≤ (s34.size : Int)) && decide ((s34.size : Int) ≤ s34.size))).bind fun _ =>
 callK call 77 [((V.str (s34.extract (Int.toNat (1 : Int)) (Int.toNat (s34.size : Int)))), false)] g 1 (fun h r =>
 (grd ((V.fits (getD h 0 cellD).1 false 1 && true))).bind fun _ =>
 some (.ret [((V.agg [(V.int .i64 (0 : Int)), (getD h 0 cellD).1, V.str ⟨#[]⟩, V.slice 3 44 [], V.slice 5 30 []]), false)], r)) pnK
 else
 callK call 67 [(V.ptr 65 a 0, false)] g 3 (fun i s =>
 L0 a (getD i 0 cellD).1 (getD i 1 cellD).1 (0 : Int) (1 : Int) (0 : Int) (0 : Int) (ByteArray.mk #[]) [] [] s) pnK) pnK) pnK
noncomputable def rterm (call : CallF) (n a : Nat) (σ : Sto) : Option Res := rtermF call (rterml0 call n n) a σ
theorem rterms1_eq (call : CallF) (n : Nat) (F1 : St → Option Res) (a : Nat) (b c d e : Int) (f : ByteArray) (g h : LL) (i j : Int) (k : V) (o p : LL) (σ : Sto) :
  aexec C rtermH call n (cp [0,0,1,0,1,1,1,1,1,1,1,1,1,1,1,1,1,1] rtermC) 0 (rtermt1 a b c d e f g h i j k o p σ) (kloop rtermk1 F1 (kblk 5 (kseq (fun st' => aexec C rtermH call n (cp [1,1,1,1,1,1,1,1,1,1,1,1,1,1,1] rtermC) 0 st' (kfin C rtermD)) (kfin C rtermD)))) =
  rterms1 call (fun a b c d e f g h i j k o p σ => F1 (rtermt1 a b c d e f g h i j k o p σ)) a b c d e f g h i j k o p σ := by kernel_rfl
theorem rterml1_eq (call : CallF) (n : Nat) : ∀ (m a : Nat) (b c d e : Int) (f : ByteArray) (g h : LL) (i j : Int) (k : V) (o p : LL) (σ : Sto),
  aloop (fun st K => aexec C rtermH call n (cp [0,0,1,0,1,1,1,1,1,1,1,1,1,1,1,1,1,1] rtermC) 0 st K) rtermk1 m (rtermt1 a b c d e f g h i j k o p σ) (kblk 5 (kseq (fun st' => aexec C rtermH call n (cp [1,1,1,1,1,1,1,1,1,1,1,1,1,1,1] rtermC) 0 st' (kfin C rtermD)) (kfin C rtermD))) = rterml1 call n m a b c d e f g h i j k o p σ
 | 0, a, b, c, d, e, f, g, h, i, j, k, o, p, σ => rfl
 | m + 1, a, b, c, d, e, f, g, h, i, j, k, o, p, σ => by
  rw [aloop, rterms1_eq]
  simp only [rterml1_eq call n m]
  rfl
theorem rterms2_eq (call : CallF) (n : Nat) (F2 : St → Option Res) (a : Nat) (b c d : Int) (e : ByteArray) (f g : LL) (h i : Int) (j : V) (k o : LL) (σ : Sto) :
  aexec C rtermH call n (cp [0,0,1,1,0,1,1,1,0,1,0,1,1,1,1,1,1,1,1,1,1,1,1,1] rtermC) 0 (rtermt2 a b c d e f g h i j k o σ) (kloop rtermk2 F2 (kblk 3 (kblk 2 (kseq (fun st' => aexec C rtermH call n (cp [1,1,1,1,1,1,1,1,1,1,1,1,1,1] rtermC) 0 st' (kfin C rtermD)) (kfin C rtermD))))) =
  rterms2 call (fun a b p c d e f g h i j k o σ => aloop (fun st K => aexec C rtermH call n (cp [0,0,1,0,1,1,1,1,1,1,1,1,1,1,1,1,1,1] rtermC) 0 st K) rtermk1 n (rtermt1 a b p c d e f g h i j k o σ) (kblk 5 (kseq (fun st' => aexec C rtermH call n (cp [1,1,1,1,1,1,1,1,1,1,1,1,1,1,1] rtermC) 0 st' (kfin C rtermD)) (kfin C rtermD)))) (fun a b c d e f g h i j k o σ => F2 (rtermt2 a b c d e f g h i j k o σ)) a b c d e f g h i j k o σ := by kernel_rfl
theorem rterml2_eq (call : CallF) (n : Nat) : ∀ (m a : Nat) (b c d : Int) (e : ByteArray) (f g : LL) (h i : Int) (j : V) (k o : LL) (σ : Sto),
  aloop (fun st K => aexec C rtermH call n (cp [0,0,1,1,0,1,1,1,0,1,0,1,1,1,1,1,1,1,1,1,1,1,1,1] rtermC) 0 st K) rtermk2 m (rtermt2 a b c d e f g h i j k o σ) (kblk 3 (kblk 2 (kseq (fun st' => aexec C rtermH call n (cp [1,1,1,1,1,1,1,1,1,1,1,1,1,1] rtermC) 0 st' (kfin C rtermD)) (kfin C rtermD)))) = rterml2 call n m a b c d e f g h i j k o σ
 | 0, a, b, c, d, e, f, g, h, i, j, k, o, σ => rfl
 | m + 1, a, b, c, d, e, f, g, h, i, j, k, o, σ => by
  rw [aloop, rterms2_eq]
  simp only [rterml2_eq call n m, rterml1_eq]
  rfl
theorem rterms0_eq (call : CallF) (n : Nat) (F0 : St → Option Res) (a : Nat) (g h : V) (i j b c : Int) (d : ByteArray) (e f : LL) (σ : Sto) :
  aexec C rtermH call n (cp [0,0,1,0,1,1,1,1,1,1,1,1] rtermC) 0 (rtermt0 a g h i j b c d e f σ) (kloop rtermk0 F0 (kblk 0 (kseq (fun st' => aexec C rtermH call n (cp [1,1,1,1,1,1,1,1,1] rtermC) 0 st' (kfin C rtermD)) (kfin C rtermD)))) =
  rterms0 call (fun a k t b c d e f o p q r s σ => aloop (fun st K => aexec C rtermH call n (cp [0,0,1,0,1,1,1,1,1,1,1,1,1,1,1,1,1,1] rtermC) 0 st K) rtermk1 n (rtermt1 a k t b c d e f o p q r s σ) (kblk 5 (kseq (fun st' => aexec C rtermH call n (cp [1,1,1,1,1,1,1,1,1,1,1,1,1,1,1] rtermC) 0 st' (kfin C rtermD)) (kfin C rtermD)))) (fun a k b c d e f o p q r s σ => aloop (fun st K => aexec C rtermH call n (cp [0,0,1,1,0,1,1,1,0,1,0,1,1,1,1,1,1,1,1,1,1,1,1,1] rtermC) 0 st K) rtermk2 n (rtermt2 a k b c d e f o p q r s σ) (kblk 3 (kblk 2 (kseq (fun st' => aexec C rtermH call n (cp [1,1,1,1,1,1,1,1,1,1,1,1,1,1] rtermC) 0 st' (kfin C rtermD)) (kfin C rtermD))))) (fun a g h i j b c d e f σ => F0 (rtermt0 a g h i j b c d e f σ)) a g h i j b c d e f σ := by kernel_rfl
theorem rterml0_eq (call : CallF) (n : Nat) : ∀ (m a : Nat) (b c : V) (d e f g : Int) (h : ByteArray) (i j : LL) (σ : Sto),
  aloop (fun st K => aexec C rtermH call n (cp [0,0,1,0,1,1,1,1,1,1,1,1] rtermC) 0 st K) rtermk0 m (rtermt0 a b c d e f g h i j σ) (kblk 0 (kseq (fun st' => aexec C rtermH call n (cp [1,1,1,1,1,1,1,1,1] rtermC) 0 st' (kfin C rtermD)) (kfin C rtermD))) = rterml0 call n m a b c d e f g h i j σ
 | 0, a, b, c, d, e, f, g, h, i, j, σ => rfl
 | m + 1, a, b, c, d, e, f, g, h, i, j, σ => by
  rw [aloop, rterms0_eq]
  simp only [rterml0_eq call n m, rterml1_eq, rterml2_eq]
  rfl
theorem rterm_eqF (call : CallF) (n a : Nat) (σ : Sto) : afun C rtermD call n [(V.ptr 65 a 0, false)] σ =
  rtermF call (fun a b c d e f g h i j σ => aloop (fun st K => aexec C rtermH call n (cp [0,0,1,0,1,1,1,1,1,1,1,1] rtermC) 0 st K) rtermk0 n (rtermt0 a b c d e f g h i j σ) (kblk 0 (kseq (fun st' => aexec C rtermH call n (cp [1,1,1,1,1,1,1,1,1] rtermC) 0 st' (kfin C rtermD)) (kfin C rtermD)))) a σ := by kernel_rfl
theorem rterm_eq (call : CallF) (n a : Nat) (σ : Sto) : afun C rtermD call n [(V.ptr 65 a 0, false)] σ = rterm call n a σ := by
 rw [rterm_eqF]
 simp only [rterml0_eq]
 rfl
theorem rterm_lim {n : Nat} {a : Nat} {b0 : Bool} {σ : Sto} {r : Res} (h : rterm (lim C) n a σ = some r) : lim C 59 [(V.ptr 65 a 0, b0)] σ = some r :=
 lim_of (d := rtermD) (by kernel_rfl) (by kernel_rfl) n (show afun C rtermD (lim C) n [(V.ptr 65 a 0, false)] σ = some r from (rterm_eq (lim C) n a σ).trans h)
noncomputable def writtenF (call : CallF) (a : Int) (b : ByteArray) (c : LL) (d : Int) (e : ByteArray) (f : LL) (σ : Sto) : Option Res :=
 bif (a == d) then
 bif (b.toList == e.toList) then
 callK call 39 [(V.slice 3 44 c, false), (V.slice 3 44 f, false), ((V.func (.func 62) [] []), false)] σ 1 (fun g h =>
 some (.ret [((getD g 0 cellD).1, false)], h)) pnK
 else
 some (.ret [(V.bool false, false)], σ)
 else
 some (.ret [(V.bool false, false)], σ)
noncomputable def written (call : CallF) (n : Nat) (a : Int) (b : ByteArray) (c : LL) (d : Int) (e : ByteArray) (f : LL) (σ : Sto) : Option Res := writtenF call a b c d e f σ
theorem written_eqF (call : CallF) (n : Nat) (a : Int) (b : ByteArray) (c : LL) (d : Int) (e : ByteArray) (f : LL) (σ : Sto) : afun C writtenD call n [(V.agg [V.int .i64 a, V.str b, V.slice 3 44 c], false), (V.agg [V.int .i64 d, V.str e, V.slice 3 44 f], false)] σ =
  writtenF call a b c d e f σ := by kernel_rfl
theorem written_eq (call : CallF) (n : Nat) (a : Int) (b : ByteArray) (c : LL) (d : Int) (e : ByteArray) (f : LL) (σ : Sto) : afun C writtenD call n [(V.agg [V.int .i64 a, V.str b, V.slice 3 44 c], false), (V.agg [V.int .i64 d, V.str e, V.slice 3 44 f], false)] σ = written call n a b c d e f σ := written_eqF call n a b c d e f σ
theorem written_lim {n : Nat} {a : Int} {b : ByteArray} {c : LL} {e : Int} {f : ByteArray} {g : LL} {b0 b1 : Bool} {σ : Sto} {r : Res} (h : written (lim C) n a b c e f g σ = some r) : lim C 62 [(V.agg [V.int .i64 a, V.str b, V.slice 3 44 c], b0), (V.agg [V.int .i64 e, V.str f, V.slice 3 44 g], b1)] σ = some r :=
 lim_of (d := writtenD) (by kernel_rfl) (by kernel_rfl) n (show afun C writtenD (lim C) n [(V.agg [V.int .i64 a, V.str b, V.slice 3 44 c], false), (V.agg [V.int .i64 e, V.str f, V.slice 3 44 g], false)] σ = some r from (written_eq (lim C) n a b c e f g σ).trans h)
noncomputable def sameF (call : CallF) (a : Int) (b : ByteArray) (c : LL) (d : Int) (e : ByteArray) (f : LL) (σ : Sto) : Option Res :=
 callK call 80 [(V.agg [V.int .i64 a, V.str b, V.slice 3 44 c], false), (V.agg [V.int .i64 d, V.str e, V.slice 3 44 f], false)] σ 1 (fun h g =>
 (V.asBool (getD h 0 cellD).1).bind fun b4 =>
 bif b4 then
 callK call 80 [(V.agg [V.int .i64 d, V.str e, V.slice 3 44 f], false), (V.agg [V.int .i64 a, V.str b, V.slice 3 44 c], false)] g 1 (fun i j =>
 some (.ret [((getD i 0 cellD).1, false)], j)) pnK
 else
 some (.ret [(V.bool false, false)], g)) pnK
noncomputable def same (call : CallF) (n : Nat) (a : Int) (b : ByteArray) (c : LL) (d : Int) (e : ByteArray) (f : LL) (σ : Sto) : Option Res := sameF call a b c d e f σ
theorem same_eqF (call : CallF) (n : Nat) (a : Int) (b : ByteArray) (c : LL) (d : Int) (e : ByteArray) (f : LL) (σ : Sto) : afun C sameD call n [(V.agg [V.int .i64 a, V.str b, V.slice 3 44 c], false), (V.agg [V.int .i64 d, V.str e, V.slice 3 44 f], false)] σ =
  sameF call a b c d e f σ := by kernel_rfl
theorem same_eq (call : CallF) (n : Nat) (a : Int) (b : ByteArray) (c : LL) (d : Int) (e : ByteArray) (f : LL) (σ : Sto) : afun C sameD call n [(V.agg [V.int .i64 a, V.str b, V.slice 3 44 c], false), (V.agg [V.int .i64 d, V.str e, V.slice 3 44 f], false)] σ = same call n a b c d e f σ := same_eqF call n a b c d e f σ
theorem same_lim {n : Nat} {a : Int} {b : ByteArray} {c : LL} {e : Int} {f : ByteArray} {g : LL} {b0 b1 : Bool} {σ : Sto} {r : Res} (h : same (lim C) n a b c e f g σ = some r) : lim C 63 [(V.agg [V.int .i64 a, V.str b, V.slice 3 44 c], b0), (V.agg [V.int .i64 e, V.str f, V.slice 3 44 g], b1)] σ = some r :=
 lim_of (d := sameD) (by kernel_rfl) (by kernel_rfl) n (show afun C sameD (lim C) n [(V.agg [V.int .i64 a, V.str b, V.slice 3 44 c], false), (V.agg [V.int .i64 e, V.str f, V.slice 3 44 g], false)] σ = some r from (same_eq (lim C) n a b c e f g σ).trans h)
noncomputable def sameLevelk0 : List Nat := [2, 3, 5]
noncomputable def sameLevels0 (call : CallF) (rec0 : Int → Int → ByteArray → LL → Int → ByteArray → LL → RR) (a e : Int) (f : ByteArray) (b : LL) (g : Int) (h : ByteArray) (c : LL) (σ : Sto) : Option Res :=
 bif (decide (a < (b.length : Int))) then
 (grd (decide (0 ≤ a) && decide (a < b.length))).bind fun _ =>
 (grd (decide (0 ≤ a) && decide (a < c.length))).bind fun _ =>
 callK call 64 [(V.agg [(getD (getD b a.toNat []) 0 V.any), (getD (getD b a.toNat []) 1 V.any), (getD (getD b a.toNat []) 2 V.any)], false), (V.agg [(getD (getD c a.toNat []) 0 V.any), (getD (getD c a.toNat []) 1 V.any), (getD (getD c a.toNat []) 2 V.any)], false)] σ 1 (fun i d =>
 (V.asBool (getD i 0 cellD).1).bind fun b4 =>
 bif (!b4) then
 some (.ret [(V.bool false, false)], d)
 else
 rec0 (wrap .i64 (a + (1 : Int))) e f b g h c d) pnK
 else
 some (.ret [(V.bool true, false)], σ)
noncomputable def sameLevell0 (call : CallF) (n : Nat) : Nat → Int → Int → ByteArray → LL → Int → ByteArray → LL → RR
 | 0 => fun _ _ _ _ _ _ _ _ => none
 | m + 1 => sameLevels0 call (sameLevell0 call n m)
noncomputable def sameLevelt0 (a b : Int) (c : ByteArray) (d : LL) (e : Int) (f : ByteArray) (g : LL) (σ : Sto) : St := ⟨[.dead, .dead, .lptr 2 0, .lptr 3 0, .dead, .val (V.int .i64 a) false] ++ dd 42 [], [[], [], [(V.int .i64 b, false), (V.str c, false), (V.slice 3 44 d, false)], [(V.int .i64 e, false), (V.str f, false), (V.slice 3 44 g, false)]] ++ nn 44 [], σ⟩
noncomputable def sameLevelF (call : CallF) (L0 : Int → Int → ByteArray → LL → Int → ByteArray → LL → RR) (a : Int) (b : ByteArray) (c : LL) (d : Int) (e : ByteArray) (f : LL) (σ : Sto) : Option Res :=
 bif (a != d) then
 some (.ret [(V.bool false, false)], σ)
 else
 bif (!(b.toList == e.toList)) then
 some (.ret [(V.bool false, false)], σ)
 else
 bif ((c.length : Int) != (f.length : Int)) then
 some (.ret [(V.bool false, false)], σ)
 else
 L0 (0 : Int) a b c d e f σ
noncomputable def sameLevel (call : CallF) (n : Nat) (a : Int) (b : ByteArray) (c : LL) (d : Int) (e : ByteArray) (f : LL) (σ : Sto) : Option Res := sameLevelF call (sameLevell0 call n n) a b c d e f σ
theorem sameLevels0_eq (call : CallF) (n : Nat) (F0 : St → Option Res) (a b : Int) (c : ByteArray) (d : LL) (e : Int) (f : ByteArray) (g : LL) (σ : Sto) :
  aexec C sameLevelH call n (cp [0,0,1,0,1,1] sameLevelC) 0 (sameLevelt0 a b c d e f g σ) (kloop sameLevelk0 F0 (kblk 0 (kseq (fun st' => aexec C sameLevelH call n (cp [1,1,1] sameLevelC) 0 st' (kfin C sameLevelD)) (kfin C sameLevelD)))) =
  sameLevels0 call (fun a b c d e f g σ => F0 (sameLevelt0 a b c d e f g σ)) a b c d e f g σ := by kernel_rfl
theorem sameLevell0_eq (call : CallF) (n : Nat) : ∀ (m : Nat) (a b : Int) (c : ByteArray) (d : LL) (e : Int) (f : ByteArray) (g : LL) (σ : Sto),
  aloop (fun st K => aexec C sameLevelH call n (cp [0,0,1,0,1,1] sameLevelC) 0 st K) sameLevelk0 m (sameLevelt0 a b c d e f g σ) (kblk 0 (kseq (fun st' => aexec C sameLevelH call n (cp [1,1,1] sameLevelC) 0 st' (kfin C sameLevelD)) (kfin C sameLevelD))) = sameLevell0 call n m a b c d e f g σ
 | 0, a, b, c, d, e, f, g, σ => rfl
 | m + 1, a, b, c, d, e, f, g, σ => by
  rw [aloop, sameLevels0_eq]
  simp only [sameLevell0_eq call n m]
  rfl
theorem sameLevel_eqF (call : CallF) (n : Nat) (a : Int) (b : ByteArray) (c : LL) (d : Int) (e : ByteArray) (f : LL) (σ : Sto) : afun C sameLevelD call n [(V.agg [V.int .i64 a, V.str b, V.slice 3 44 c], false), (V.agg [V.int .i64 d, V.str e, V.slice 3 44 f], false)] σ =
  sameLevelF call (fun g h i j k o p σ => aloop (fun st K => aexec C sameLevelH call n (cp [0,0,1,0,1,1] sameLevelC) 0 st K) sameLevelk0 n (sameLevelt0 g h i j k o p σ) (kblk 0 (kseq (fun st' => aexec C sameLevelH call n (cp [1,1,1] sameLevelC) 0 st' (kfin C sameLevelD)) (kfin C sameLevelD)))) a b c d e f σ := by kernel_rfl
theorem sameLevel_eq (call : CallF) (n : Nat) (a : Int) (b : ByteArray) (c : LL) (d : Int) (e : ByteArray) (f : LL) (σ : Sto) : afun C sameLevelD call n [(V.agg [V.int .i64 a, V.str b, V.slice 3 44 c], false), (V.agg [V.int .i64 d, V.str e, V.slice 3 44 f], false)] σ = sameLevel call n a b c d e f σ := by
 rw [sameLevel_eqF]
 simp only [sameLevell0_eq]
 rfl
theorem sameLevel_lim {n : Nat} {a : Int} {b : ByteArray} {c : LL} {e : Int} {f : ByteArray} {g : LL} {b0 b1 : Bool} {σ : Sto} {r : Res} (h : sameLevel (lim C) n a b c e f g σ = some r) : lim C 64 [(V.agg [V.int .i64 a, V.str b, V.slice 3 44 c], b0), (V.agg [V.int .i64 e, V.str f, V.slice 3 44 g], b1)] σ = some r :=
 lim_of (d := sameLevelD) (by kernel_rfl) (by kernel_rfl) n (show afun C sameLevelD (lim C) n [(V.agg [V.int .i64 a, V.str b, V.slice 3 44 c], false), (V.agg [V.int .i64 e, V.str f, V.slice 3 44 g], false)] σ = some r from (sameLevel_eq (lim C) n a b c e f g σ).trans h)
noncomputable def rsameF (call : CallF) (a : Int) (b : ByteArray) (c : LL) (d : Int) (e : ByteArray) (f : LL) (σ : Sto) : Option Res :=
 callK call 81 [(V.agg [V.int .i64 a, V.str b, V.slice 3 44 c], false), (V.agg [V.int .i64 d, V.str e, V.slice 3 44 f], false)] σ 1 (fun h i =>
 callK call 81 [(V.agg [V.int .i64 d, V.str e, V.slice 3 44 f], false), (V.agg [V.int .i64 a, V.str b, V.slice 3 44 c], false)] i 1 (fun j g =>
 (V.asBool (getD h 0 cellD).1).bind fun b7 =>
 bif b7 then
 some (.ret [((getD j 0 cellD).1, false)], g)
 else
 some (.ret [(V.bool false, false)], g)) pnK) pnK
noncomputable def rsame (call : CallF) (n : Nat) (a : Int) (b : ByteArray) (c : LL) (d : Int) (e : ByteArray) (f : LL) (σ : Sto) : Option Res := rsameF call a b c d e f σ
theorem rsame_eqF (call : CallF) (n : Nat) (a : Int) (b : ByteArray) (c : LL) (d : Int) (e : ByteArray) (f : LL) (σ : Sto) : afun C rsameD call n [(V.agg [V.int .i64 a, V.str b, V.slice 3 44 c], false), (V.agg [V.int .i64 d, V.str e, V.slice 3 44 f], false)] σ =
  rsameF call a b c d e f σ := by kernel_rfl
theorem rsame_eq (call : CallF) (n : Nat) (a : Int) (b : ByteArray) (c : LL) (d : Int) (e : ByteArray) (f : LL) (σ : Sto) : afun C rsameD call n [(V.agg [V.int .i64 a, V.str b, V.slice 3 44 c], false), (V.agg [V.int .i64 d, V.str e, V.slice 3 44 f], false)] σ = rsame call n a b c d e f σ := rsame_eqF call n a b c d e f σ
theorem rsame_lim {n : Nat} {a : Int} {b : ByteArray} {c : LL} {e : Int} {f : ByteArray} {g : LL} {b0 b1 : Bool} {σ : Sto} {r : Res} (h : rsame (lim C) n a b c e f g σ = some r) : lim C 65 [(V.agg [V.int .i64 a, V.str b, V.slice 3 44 c], b0), (V.agg [V.int .i64 e, V.str f, V.slice 3 44 g], b1)] σ = some r :=
 lim_of (d := rsameD) (by kernel_rfl) (by kernel_rfl) n (show afun C rsameD (lim C) n [(V.agg [V.int .i64 a, V.str b, V.slice 3 44 c], false), (V.agg [V.int .i64 e, V.str f, V.slice 3 44 g], false)] σ = some r from (rsame_eq (lim C) n a b c e f g σ).trans h)
noncomputable def amongk0 : List Nat := [0, 1, 5]
noncomputable def amongs0 (call : CallF) (rec0 : ByteArray → LL → Int → RR) (c : ByteArray) (b : LL) (a : Int) (σ : Sto) : Option Res :=
 bif (decide (a < (b.length : Int))) then
 (grd (decide (0 ≤ a) && decide (a < b.length))).bind fun _ =>
 (V.asStr (getD (getD b a.toNat []) 0 V.any)).bind fun s1 =>
 bif (s1.toList == c.toList) then
 some (.ret [(V.bool true, false)], σ)
 else
 rec0 c b (wrap .i64 (a + (1 : Int))) σ
 else
 some (.ret [(V.bool false, false)], σ)
noncomputable def amongl0 (call : CallF) (n : Nat) : Nat → ByteArray → LL → Int → RR
 | 0 => fun _ _ _ _ => none
 | m + 1 => amongs0 call (amongl0 call n m)
noncomputable def amongt0 (a : ByteArray) (b : LL) (c : Int) (σ : Sto) : St := ⟨[.val (V.str a) false, .val (V.slice 1 9 b) false, .dead, .dead, .dead, .val (V.int .i64 c) false] ++ dd 12 [], nn 18 [], σ⟩
noncomputable def amongF (call : CallF) (L0 : ByteArray → LL → Int → RR) (a : ByteArray) (b : LL) (σ : Sto) : Option Res :=
 L0 a b (0 : Int) σ
noncomputable def among (call : CallF) (n : Nat) (a : ByteArray) (b : LL) (σ : Sto) : Option Res := amongF call (amongl0 call n n) a b σ
theorem amongs0_eq (call : CallF) (n : Nat) (F0 : St → Option Res) (a : ByteArray) (b : LL) (c : Int) (σ : Sto) :
  aexec C amongH call n (cp [0,0,1,0,1] amongC) 0 (amongt0 a b c σ) (kloop amongk0 F0 (kblk 0 (kseq (fun st' => aexec C amongH call n (codeR (codeR amongC)) 0 st' (kfin C amongD)) (kfin C amongD)))) =
  amongs0 call (fun a b c σ => F0 (amongt0 a b c σ)) a b c σ := by kernel_rfl
theorem amongl0_eq (call : CallF) (n : Nat) : ∀ (m : Nat) (a : ByteArray) (b : LL) (c : Int) (σ : Sto),
  aloop (fun st K => aexec C amongH call n (cp [0,0,1,0,1] amongC) 0 st K) amongk0 m (amongt0 a b c σ) (kblk 0 (kseq (fun st' => aexec C amongH call n (codeR (codeR amongC)) 0 st' (kfin C amongD)) (kfin C amongD))) = amongl0 call n m a b c σ
 | 0, a, b, c, σ => rfl
 | m + 1, a, b, c, σ => by
  rw [aloop, amongs0_eq]
  simp only [amongl0_eq call n m]
  rfl
theorem among_eqF (call : CallF) (n : Nat) (a : ByteArray) (b : LL) (σ : Sto) : afun C amongD call n [(V.str a, false), (V.slice 1 9 b, false)] σ =
  amongF call (fun a b c σ => aloop (fun st K => aexec C amongH call n (cp [0,0,1,0,1] amongC) 0 st K) amongk0 n (amongt0 a b c σ) (kblk 0 (kseq (fun st' => aexec C amongH call n (codeR (codeR amongC)) 0 st' (kfin C amongD)) (kfin C amongD)))) a b σ := by kernel_rfl
theorem among_eq (call : CallF) (n : Nat) (a : ByteArray) (b : LL) (σ : Sto) : afun C amongD call n [(V.str a, false), (V.slice 1 9 b, false)] σ = among call n a b σ := by
 rw [among_eqF]
 simp only [amongl0_eq]
 rfl
theorem among_lim {n : Nat} {a : ByteArray} {b : LL} {b0 b1 : Bool} {σ : Sto} {r : Res} (h : among (lim C) n a b σ = some r) : lim C 66 [(V.str a, b0), (V.slice 1 9 b, b1)] σ = some r :=
 lim_of (d := amongD) (by kernel_rfl) (by kernel_rfl) n (show afun C amongD (lim C) n [(V.str a, false), (V.slice 1 9 b, false)] σ = some r from (among_eq (lim C) n a b σ).trans h)
end Go.Ab.Mk
end
