/- AbMk5: printed by program: functions of the program as plain Lean, and the equations. -/
import Derived.Test.YtifoglinlcfelaaDoorAbMk2
set_option linter.unusedSimpArgs false
set_option linter.unusedVariables false
set_option linter.deprecated false
section
set_option maxRecDepth 100000
namespace Go.Ab.Mk
open Go.Proofs Go.Ab
open List (getD)
open IntKind (wrap)
noncomputable def tsomek0 : List Nat := [1, 2, 3, 15, 16, 17]
noncomputable def tsomes0 (call : CallF) (rec0 : Int → V → LL → Int → Int → Int → Int → ByteArray → LL → LL → RR) (c : Int) (d : V) (b : LL) (e a f h : Int) (i : ByteArray) (j g : LL) (σ : Sto) : Option Res :=
 bif (decide (a < e)) then
 (grd (decide (0 ≤ a) && decide (a < b.length))).bind fun _ =>
 bif (decide (f ≥ (4 : Int))) then
 bif (a == (wrap .i64 ((g.length : Int) - (1 : Int)))) then
 callK call 31 [(V.agg [(getD (getD b a.toNat []) 0 V.any), (getD (getD b a.toNat []) 1 V.any), (getD (getD b a.toNat []) 2 V.any), (getD (getD b a.toNat []) 3 V.any), (getD (getD b a.toNat []) 4 V.any)], false), ((V.int .i64 (wrap .i64 (c + (1 : Int)))), false), (d, false)] σ 1 (fun q k =>
 (V.asBool (getD q 0 cellD).1).bind fun b4 =>
 bif b4 then
 some (.ret [(V.bool true, false)], k)
 else
 rec0 c d b e (wrap .i64 (a + (1 : Int))) f h i j g k) pnK
 else
 callK call 31 [(V.agg [(getD (getD b a.toNat []) 0 V.any), (getD (getD b a.toNat []) 1 V.any), (getD (getD b a.toNat []) 2 V.any), (getD (getD b a.toNat []) 3 V.any), (getD (getD b a.toNat []) 4 V.any)], false), (V.int .i64 c, false), (d, false)] σ 1 (fun r o =>
 (V.asBool (getD r 0 cellD).1).bind fun b8 =>
 bif b8 then
 some (.ret [(V.bool true, false)], o)
 else
 rec0 c d b e (wrap .i64 (a + (1 : Int))) f h i j g o) pnK
 else
 callK call 31 [(V.agg [(getD (getD b a.toNat []) 0 V.any), (getD (getD b a.toNat []) 1 V.any), (getD (getD b a.toNat []) 2 V.any), (getD (getD b a.toNat []) 3 V.any), (getD (getD b a.toNat []) 4 V.any)], false), (V.int .i64 c, false), (d, false)] σ 1 (fun s p =>
 (V.asBool (getD s 0 cellD).1).bind fun b12 =>
 bif b12 then
 some (.ret [(V.bool true, false)], p)
 else
 rec0 c d b e (wrap .i64 (a + (1 : Int))) f h i j g p) pnK
 else
 some (.ret [(V.bool false, false)], σ)
noncomputable def tsomel0 (call : CallF) (n : Nat) : Nat → Int → V → LL → Int → Int → Int → Int → ByteArray → LL → LL → RR
 | 0 => fun _ _ _ _ _ _ _ _ _ _ _ => none
 | m + 1 => tsomes0 call (tsomel0 call n m)
noncomputable def tsomet0 (a : Int) (b : V) (c : LL) (d e f g : Int) (h : ByteArray) (i j : LL) (σ : Sto) : St := ⟨[.dead, .val (V.int .i64 a) false, .val b false, .lptr 3 0] ++ dd 11 ([.val (V.slice 5 29 c) false, .val (V.int .i64 d) false, .val (V.int .i64 e) false] ++ dd 23 []), [[], [], [], [(V.int .i64 f, false), (V.int .i64 g, false), (V.str h, false), (V.slice 3 74 i, false), (V.slice 5 29 j, false)]] ++ nn 37 [], σ⟩
noncomputable def tsomeF (call : CallF) (L0 : Int → V → LL → Int → Int → Int → Int → ByteArray → LL → LL → RR) (b c : Int) (d : ByteArray) (e a : LL) (f : Int) (g : V) (σ : Sto) : Option Res :=
 (V.asFunc g).bind fun fn1 =>
 callK call fn1.1 (fn1.2.1.map (fun v => (v, false)) ++ [(V.agg [V.int .i64 b, V.int .i64 c, V.str d, V.slice 3 74 e, V.slice 5 29 a], false), (V.int .i64 f, false)] ++ fn1.2.2.map fun v => (v, false)) σ 1 (fun i h =>
 (V.asBool (getD i 0 cellD).1).bind fun b5 =>
 bif b5 then
 some (.ret [(V.bool true, false)], h)
 else
 L0 f g a (a.length : Int) (0 : Int) b c d e a h) pnK
noncomputable def tsome (call : CallF) (n : Nat) (a b : Int) (c : ByteArray) (d e : LL) (f : Int) (g : V) (σ : Sto) : Option Res := tsomeF call (tsomel0 call n n) a b c d e f g σ
theorem tsomes0_eq (call : CallF) (n : Nat) (F0 : St → Option Res) (a : Int) (b : V) (c : LL) (d e f g : Int) (h : ByteArray) (i j : LL) (σ : Sto) :
  aexec C tsomeH call n (cp [0,0,1,0,1,1] tsomeC) 0 (tsomet0 a b c d e f g h i j σ) (kloop tsomek0 F0 (kblk 0 (kseq (fun st' => aexec C tsomeH call n (cp [1,1,1] tsomeC) 0 st' (kfin C tsomeD)) (kfin C tsomeD)))) =
  tsomes0 call (fun a b c d e f g h i j σ => F0 (tsomet0 a b c d e f g h i j σ)) a b c d e f g h i j σ := by kernel_rfl
theorem tsomel0_eq (call : CallF) (n : Nat) : ∀ (m : Nat) (a : Int) (b : V) (c : LL) (d e f g : Int) (h : ByteArray) (i j : LL) (σ : Sto),
  aloop (fun st K => aexec C tsomeH call n (cp [0,0,1,0,1,1] tsomeC) 0 st K) tsomek0 m (tsomet0 a b c d e f g h i j σ) (kblk 0 (kseq (fun st' => aexec C tsomeH call n (cp [1,1,1] tsomeC) 0 st' (kfin C tsomeD)) (kfin C tsomeD))) = tsomel0 call n m a b c d e f g h i j σ
 | 0, a, b, c, d, e, f, g, h, i, j, σ => rfl
 | m + 1, a, b, c, d, e, f, g, h, i, j, σ => by
  rw [aloop, tsomes0_eq]
  simp only [tsomel0_eq call n m]
  rfl
theorem tsome_eqF (call : CallF) (n : Nat) (c d : Int) (e : ByteArray) (f g : LL) (a : Int) (b : V) (σ : Sto) : afun C tsomeD call n [(V.agg [V.int .i64 c, V.int .i64 d, V.str e, V.slice 3 74 f, V.slice 5 29 g], false), (V.int .i64 a, false), (b, false)] σ =
  tsomeF call (fun a b h i j k o p q r σ => aloop (fun st K => aexec C tsomeH call n (cp [0,0,1,0,1,1] tsomeC) 0 st K) tsomek0 n (tsomet0 a b h i j k o p q r σ) (kblk 0 (kseq (fun st' => aexec C tsomeH call n (cp [1,1,1] tsomeC) 0 st' (kfin C tsomeD)) (kfin C tsomeD)))) c d e f g a b σ := by kernel_rfl
theorem tsome_eq (call : CallF) (n : Nat) (a b : Int) (c : ByteArray) (d e : LL) (f : Int) (g : V) (σ : Sto) : afun C tsomeD call n [(V.agg [V.int .i64 a, V.int .i64 b, V.str c, V.slice 3 74 d, V.slice 5 29 e], false), (V.int .i64 f, false), (g, false)] σ = tsome call n a b c d e f g σ := by
 rw [tsome_eqF]
 simp only [tsomel0_eq]
 rfl
theorem tsome_lim {n : Nat} {a : Int} {b : Int} {c : ByteArray} {e : LL} {f : LL} {g : Int} {i : V} {b0 b1 b2 : Bool} {σ : Sto} {r : Res} (h : tsome (lim C) n a b c e f g i σ = some r) : lim C 31 [(V.agg [V.int .i64 a, V.int .i64 b, V.str c, V.slice 3 74 e, V.slice 5 29 f], b0), (V.int .i64 g, b1), (i, b2)] σ = some r :=
 lim_of (d := tsomeD) (by kernel_rfl) (by kernel_rfl) n (show afun C tsomeD (lim C) n [(V.agg [V.int .i64 a, V.int .i64 b, V.str c, V.slice 3 74 e, V.slice 5 29 f], false), (V.int .i64 g, false), (i, false)] σ = some r from (tsome_eq (lim C) n a b c e f g i σ).trans h)
noncomputable def closed1F (call : CallF) (a b : Int) (e : ByteArray) (f g : LL) (c : Int) (d : Nat) (σ : Sto) : Option Res :=
 bif (a == (0 : Int)) then
 (memGet σ (V.ptr 3 d 0) false 1).bind fun m1 =>
 (V.asInt m1 .i64).bind fun i2 =>
 some (.ret [(V.bool (decide (b ≥ (wrap .i64 (i2 + c)))), false)], σ)
 else
 some (.ret [(V.bool false, false)], σ)
noncomputable def closed1 (call : CallF) (n : Nat) (a b : Int) (c : ByteArray) (d e : LL) (f : Int) (g : Nat) (σ : Sto) : Option Res := closed1F call a b c d e f g σ
theorem closed1_eqF (call : CallF) (n : Nat) (a b : Int) (c : ByteArray) (d e : LL) (f : Int) (g : Nat) (σ : Sto) : afun C closed1D call n [(V.agg [V.int .i64 a, V.int .i64 b, V.str c, V.slice 3 74 d, V.slice 5 29 e], false), (V.int .i64 f, false), (V.ptr 3 g 0, false)] σ =
  closed1F call a b c d e f g σ := by kernel_rfl
theorem closed1_eq (call : CallF) (n : Nat) (a b : Int) (c : ByteArray) (d e : LL) (f : Int) (g : Nat) (σ : Sto) : afun C closed1D call n [(V.agg [V.int .i64 a, V.int .i64 b, V.str c, V.slice 3 74 d, V.slice 5 29 e], false), (V.int .i64 f, false), (V.ptr 3 g 0, false)] σ = closed1 call n a b c d e f g σ := closed1_eqF call n a b c d e f g σ
theorem closed1_lim {n : Nat} {a : Int} {b : Int} {c : ByteArray} {e : LL} {f : LL} {g : Int} {i : Nat} {b0 b1 b2 : Bool} {σ : Sto} {r : Res} (h : closed1 (lim C) n a b c e f g i σ = some r) : lim C 32 [(V.agg [V.int .i64 a, V.int .i64 b, V.str c, V.slice 3 74 e, V.slice 5 29 f], b0), (V.int .i64 g, b1), (V.ptr 3 i 0, b2)] σ = some r :=
 lim_of (d := closed1D) (by kernel_rfl) (by kernel_rfl) n (show afun C closed1D (lim C) n [(V.agg [V.int .i64 a, V.int .i64 b, V.str c, V.slice 3 74 e, V.slice 5 29 f], false), (V.int .i64 g, false), (V.ptr 3 i 0, false)] σ = some r from (closed1_eq (lim C) n a b c e f g i σ).trans h)
noncomputable def rtermk0 : List Nat := [0, 2, 6, 7, 9, 10, 105, 106, 107]
noncomputable def rtermk1 : List Nat := [0, 2, 11, 12, 13]
noncomputable def rtermk2 : List Nat := [0, 2, 11, 12]
noncomputable def rterms1 (call : CallF) (rec1 : Nat → Int → Int → Int → Int → ByteArray → LL → LL → Int → Int → V → LL → LL → RR) (b : Nat) (d e j k : Int) (o : ByteArray) (p q : LL) (f g : Int) (h : V) (i c : LL) (σ : Sto) : Option Res :=
 bif (decide (e < d)) then
 callK call 33 [(V.ptr 69 b 0, false)] σ 1 (fun a r =>
 (grd ((V.fits (getD a 0 cellD).1 true 5 && true))).bind fun _ =>
 (grd (room (List.length c + 1))).bind fun _ =>
 rec1 b d (wrap .i64 (e + (1 : Int))) j k o p q f g h i (c ++ [[V.cell (getD a 0 cellD).1 0, V.cell (getD a 0 cellD).1 1, V.cell (getD a 0 cellD).1 2, V.cell (getD a 0 cellD).1 3, V.cell (getD a 0 cellD).1 4]]) r) pnK
 else
 callK call 58 [(V.ptr 69 b 0, false), (V.str ⟨#[41]⟩, false)] σ 0 (fun t s =>
 some (.ret [(V.agg [V.int .i64 f, V.int .i64 g, h, V.slice 3 74 i, V.slice 5 29 c], false)], s)) pnK
noncomputable def rterml1 (call : CallF) (n : Nat) : Nat → Nat → Int → Int → Int → Int → ByteArray → LL → LL → Int → Int → V → LL → LL → RR
 | 0 => fun _ _ _ _ _ _ _ _ _ _ _ _ _ _ => none
 | m + 1 => rterms1 call (rterml1 call n m)
noncomputable def rtermt1 (a : Nat) (b c d e : Int) (f : ByteArray) (g h : LL) (i j : Int) (k : V) (o p : LL) (σ : Sto) : St := ⟨[.val (V.ptr 69 a 0) false, .dead, .lptr 2 0] ++ dd 8 ([.lptr 11 0, .val (V.int .i64 b) false, .val (V.int .i64 c) false] ++ dd 119 []), [[], [], [(V.int .i64 d, false), (V.int .i64 e, false), (V.str f, false), (V.slice 3 74 g, true), (V.slice 5 29 h, true)]] ++ nn 8 ([[(V.int .i64 i, false), (V.int .i64 j, false), (k, false), (V.slice 3 74 o, true), (V.slice 5 29 p, true)]] ++ nn 121 []), σ⟩
noncomputable def rterms2 (call : CallF) (L1 : Nat → Int → Int → Int → Int → ByteArray → LL → LL → Int → Int → V → LL → LL → RR) (rec2 : Nat → Int → Int → Int → ByteArray → LL → LL → Int → Int → V → LL → LL → RR) (a : Nat) (d e f : Int) (g : ByteArray) (h i : LL) (j k : Int) (o : V) (b p : LL) (σ : Sto) : Option Res :=
 (memGet σ (V.ptr 69 a 2) false 1).bind fun m1 =>
 (V.asInt m1 .i64).bind fun i2 =>
 bif (i2 == (0 : Int)) then
 callK call 57 [(V.ptr 69 a 0, false)] σ 1 (fun r q =>
 (V.asStr (getD r 0 cellD).1).bind fun s6 =>
 bif (!(s6.toList == (ByteArray.mk #[41]).toList)) then
 callK call 55 [(V.ptr 69 a 0, false)] q 1 (fun c s =>
 (grd ((V.fits (getD c 0 cellD).1 true 3 && true))).bind fun _ =>
 (grd (room (List.length b + 1))).bind fun _ =>
 rec2 a d e f g h i j k o (b ++ [[V.cell (getD c 0 cellD).1 0, V.cell (getD c 0 cellD).1 1, V.cell (getD c 0 cellD).1 2]]) p s) pnK
 else
 L1 a d (0 : Int) e f g h i j k o b p q) pnK
 else
 L1 a d (0 : Int) e f g h i j k o b p σ
noncomputable def rterml2 (call : CallF) (n : Nat) : Nat → Nat → Int → Int → Int → ByteArray → LL → LL → Int → Int → V → LL → LL → RR
 | 0 => fun _ _ _ _ _ _ _ _ _ _ _ _ _ => none
 | m + 1 => rterms2 call (rterml1 call n n) (rterml2 call n m)
noncomputable def rtermt2 (a : Nat) (b c d : Int) (e : ByteArray) (f g : LL) (h i : Int) (j : V) (k o : LL) (σ : Sto) : St := ⟨[.val (V.ptr 69 a 0) false, .dead, .lptr 2 0] ++ dd 8 ([.lptr 11 0, .val (V.int .i64 b) false] ++ dd 120 []), [[], [], [(V.int .i64 c, false), (V.int .i64 d, false), (V.str e, false), (V.slice 3 74 f, true), (V.slice 5 29 g, true)]] ++ nn 8 ([[(V.int .i64 h, false), (V.int .i64 i, false), (j, false), (V.slice 3 74 k, true), (V.slice 5 29 o, true)]] ++ nn 121 []), σ⟩
noncomputable def rterms0 (call : CallF) (L1 : Nat → Int → Int → Int → Int → ByteArray → LL → LL → Int → Int → V → LL → LL → RR) (L2 : Nat → Int → Int → Int → ByteArray → LL → LL → Int → Int → V → LL → LL → RR) (rec0 : Nat → V → V → Int → Int → Int → Int → ByteArray → LL → LL → RR) (a : Nat) (k o : V) (b c d e : Int) (f : ByteArray) (g h : LL) (σ : Sto) : Option Res :=
 (V.asSlice (getD [V.slice 1 9 [[V.str ⟨#[]⟩], [V.str ⟨#[115, 111, 114, 116]⟩], [V.str ⟨#[99, 111, 110, 115, 116]⟩], [V.str ⟨#[97, 112, 112]⟩], [V.str ⟨#[108, 97, 109]⟩], [V.str ⟨#[112, 105]⟩], [V.str ⟨#[108, 101, 116]⟩]]] 0 V.any) 1 9).bind fun l1 =>
 bif (decide (c < (l1.length : Int))) then
 (V.asSlice (getD [V.slice 1 9 [[V.str ⟨#[]⟩], [V.str ⟨#[115, 111, 114, 116]⟩], [V.str ⟨#[99, 111, 110, 115, 116]⟩], [V.str ⟨#[97, 112, 112]⟩], [V.str ⟨#[108, 97, 109]⟩], [V.str ⟨#[112, 105]⟩], [V.str ⟨#[108, 101, 116]⟩]]] 0 V.any) 1 9).bind fun l2 =>
 (grd (decide (0 ≤ c) && decide (c < l2.length))).bind fun _ =>
 (V.asStr (getD (getD l2 c.toNat []) 0 V.any)).bind fun s3 =>
 (V.asStr k).bind fun s4 =>
 bif (s3.toList == s4.toList) then
 rec0 a k o c (wrap .i64 (c + (1 : Int))) d e f g h σ
 else
 rec0 a k o b (wrap .i64 (c + (1 : Int))) d e f g h σ
 else
 bif (b == (0 : Int)) then
 callK call 52 [(V.ptr 69 a 0, false), (o, false)] σ 0 (fun t q =>
 some (.ret [((V.agg [(V.int .i64 (0 : Int)), (V.int .i64 (0 : Int)), V.str ⟨#[]⟩, V.slice 3 74 [], V.slice 5 29 []]), false)], q)) pnK
 else
 callK call 53 [(V.ptr 69 a 0, false)] σ 1 (fun u i =>
 bif (b == (1 : Int)) then
 callK call 55 [(V.ptr 69 a 0, false)] i 1 (fun j r =>
 (grd ((V.fits (getD j 0 cellD).1 true 3 && true))).bind fun _ =>
 (grd (room (0 + 1))).bind fun _ =>
 L1 a (0 : Int) (0 : Int) d e f g h b (0 : Int) (V.str ⟨#[]⟩) [[V.cell (getD j 0 cellD).1 0, V.cell (getD j 0 cellD).1 1, V.cell (getD j 0 cellD).1 2]] [] r) pnK
 else
 bif (b == (2 : Int)) then
 callK call 56 [(V.ptr 69 a 0, false)] i 1 (fun p s =>
 (grd (V.fits (getD p 0 cellD).1 false 1)).bind fun _ =>
 L2 a (0 : Int) d e f g h b (0 : Int) (getD p 0 cellD).1 [] [] s) pnK
 else
 bif (b == (6 : Int)) then
 L1 a (3 : Int) (0 : Int) d e f g h b (0 : Int) (V.str ⟨#[]⟩) [] [] i
 else
 L1 a (2 : Int) (0 : Int) d e f g h b (0 : Int) (V.str ⟨#[]⟩) [] [] i) pnK
noncomputable def rterml0 (call : CallF) (n : Nat) : Nat → Nat → V → V → Int → Int → Int → Int → ByteArray → LL → LL → RR
 | 0 => fun _ _ _ _ _ _ _ _ _ _ _ => none
 | m + 1 => rterms0 call (rterml1 call n n) (rterml2 call n n) (rterml0 call n m)
noncomputable def rtermt0 (a : Nat) (b c : V) (d e f g : Int) (h : ByteArray) (i j : LL) (σ : Sto) : St := ⟨[.val (V.ptr 69 a 0) false, .dead, .lptr 2 0, .dead, .dead, .dead, .val b false, .val c false, .dead, .val (V.int .i64 d) false, .val (V.int .i64 e) false] ++ dd 122 [], [[], [], [(V.int .i64 f, false), (V.int .i64 g, false), (V.str h, false), (V.slice 3 74 i, true), (V.slice 5 29 j, true)]] ++ nn 130 [], σ⟩
noncomputable def rtermF (call : CallF) (L0 : Nat → V → V → Int → Int → Int → Int → ByteArray → LL → LL → RR) (a : Nat) (σ : Sto) : Option Res :=
 callK call 51 [(V.ptr 69 a 0, false)] σ 3 (fun b c =>
 (memGet c (V.ptr 69 a 2) false 1).bind fun m4 =>
 (V.asInt m4 .i64).bind fun i5 =>
 bif (i5 != (0 : Int)) then
 some (.ret [((V.agg [(V.int .i64 (0 : Int)), (V.int .i64 (0 : Int)), V.str ⟨#[]⟩, V.slice 3 74 [], V.slice 5 29 []]), false)], c)
 else
 (V.asBool (getD b 2 cellD).1).bind fun b6 =>
 bif (!b6) then
 callK call 52 [(V.ptr 69 a 0, false), ((getD b 1 cellD).1, false)] c 0 (fun t j =>
 some (.ret [((V.agg [(V.int .i64 (0 : Int)), (V.int .i64 (0 : Int)), V.str ⟨#[]⟩, V.slice 3 74 [], V.slice 5 29 []]), false)], j)) pnK
 else
 (V.asStr (getD b 0 cellD).1).bind fun s10 =>
 bif (s10.toList == (ByteArray.mk #[]).toList) then
 callK call 52 [(V.ptr 69 a 0, false), ((getD b 1 cellD).1, false)] c 0 (fun u k =>
 some (.ret [((V.agg [(V.int .i64 (0 : Int)), (V.int .i64 (0 : Int)), V.str ⟨#[]⟩, V.slice 3 74 [], V.slice 5 29 []]), false)], k)) pnK
 else
 (V.asStr (getD b 0 cellD).1).bind fun s14 =>
 (grd (decide (0 ≤ (0 : Int)) && decide ((0 : Int) < s14.size))).bind fun _ =>
 bif ((byteAt s14 (Int.toNat (0 : Int))) != (35 : Int)) then
 (V.asStr (getD b 0 cellD).1).bind fun s15 =>
 bif (!(s15.toList == (ByteArray.mk #[40]).toList)) then
 callK call 52 [(V.ptr 69 a 0, false), ((getD b 1 cellD).1, false)] c 0 (fun v o =>
 some (.ret [((V.agg [(V.int .i64 (0 : Int)), (V.int .i64 (0 : Int)), V.str ⟨#[]⟩, V.slice 3 74 [], V.slice 5 29 []]), false)], o)) pnK
 else
 callK call 53 [(V.ptr 69 a 0, false)] c 1 (fun w d =>
 (V.asStr (getD b 0 cellD).1).bind fun s22 =>
 bif (!(s22.toList == (ByteArray.mk #[40]).toList)) then
 (V.asStr (getD b 0 cellD).1).bind fun s23 =>
 (grd (decide (0 ≤ (1 : Int)) && decide ((1 : Int) ≤ (s23.size : Int)) && decide ((s23.size : Int) ≤ s23.size))).bind fun _ =>
 callK call 54 [((V.str (s23.extract (Int.toNat (1 : Int)) (Int.toNat (s23.size : Int)))), false)] d 1 (fun e p =>
 (grd ((V.fits (getD e 0 cellD).1 false 1 && true))).bind fun _ =>
 some (.ret [((V.agg [(V.int .i64 (0 : Int)), (getD e 0 cellD).1, V.str ⟨#[]⟩, V.slice 3 74 [], V.slice 5 29 []]), false)], p)) pnK
 else
 callK call 51 [(V.ptr 69 a 0, false)] d 3 (fun f q =>
 L0 a (getD f 0 cellD).1 (getD f 1 cellD).1 (0 : Int) (1 : Int) (0 : Int) (0 : Int) (ByteArray.mk #[]) [] [] q) pnK) pnK
 else
 callK call 53 [(V.ptr 69 a 0, false)] c 1 (fun x g =>
 (V.asStr (getD b 0 cellD).1).bind fun s33 =>
 bif (!(s33.toList == (ByteArray.mk #[40]).toList)) then
 (V.asStr (getD b 0 cellD).1).bind fun s34 =>
 (grd (decide (0 ≤ (1 : Int)) && decide ((1 : Int) ≤ (s34.size : Int)) && decide ((s34.size : Int) ≤ s34.size))).bind fun _ =>
 callK call 54 [((V.str (s34.extract (Int.toNat (1 : Int)) (Int.toNat (s34.size : Int)))), false)] g 1 (fun h r =>
 (grd ((V.fits (getD h 0 cellD).1 false 1 && true))).bind fun _ =>
 some (.ret [((V.agg [(V.int .i64 (0 : Int)), (getD h 0 cellD).1, V.str ⟨#[]⟩, V.slice 3 74 [], V.slice 5 29 []]), false)], r)) pnK
 else
 callK call 51 [(V.ptr 69 a 0, false)] g 3 (fun i s =>
 L0 a (getD i 0 cellD).1 (getD i 1 cellD).1 (0 : Int) (1 : Int) (0 : Int) (0 : Int) (ByteArray.mk #[]) [] [] s) pnK) pnK) pnK
noncomputable def rterm (call : CallF) (n a : Nat) (σ : Sto) : Option Res := rtermF call (rterml0 call n n) a σ
theorem rterms1_eq (call : CallF) (n : Nat) (F1 : St → Option Res) (a : Nat) (b c d e : Int) (f : ByteArray) (g h : LL) (i j : Int) (k : V) (o p : LL) (σ : Sto) :
  aexec C rtermH call n (cp [0,0,1,0,1,1,1,1,1,1,1,1,1,1,1,1,1,1] rtermC) 0 (rtermt1 a b c d e f g h i j k o p σ) (kloop rtermk1 F1 (kblk 5 (kseq (fun st' => aexec C rtermH call n (cp [1,1,1,1,1,1,1,1,1,1,1,1,1,1,1] rtermC) 0 st' (kfin C rtermD)) (kfin C rtermD)))) =
  rterms1 call (fun a b c d e f g h i j k o p σ => F1 (rtermt1 a b c d e f g h i j k o p σ)) a b c d e f g h i j k o p σ := by kernel_rfl
theorem rterml1_eq (call : CallF) (n : Nat) : ∀ (m a : Nat) (b c d e : Int) (f : ByteArray) (g h : LL) (i j : Int) (k : V) (o p : LL) (σ : Sto),
  aloop (fun st K => aexec C rtermH call n (cp [0,0,1,0,1,1,1,1,1,1,1,1,1,1,1,1,1,1] rtermC) 0 st K) rtermk1 m (rtermt1 a b c d e f g h i j k o p σ) (kblk 5 (kseq (fun st' => aexec C rtermH call n (cp [1,1,1,1,1,1,1,1,1,1,1,1,1,1,1] rtermC) 0 st' (kfin C rtermD)) (kfin C rtermD))) = rterml1 call n m a b c d e f g h i j k o p σ
 | 0, a, b, c, d, e, f, g, h, i, j, k, o, p, σ => rfl
 | m + 1, a, b, c, d, e, f, g, h, i, j, k, o, p, σ => by
  rw [aloop, rterms1_eq]
  simp only [rterml1_eq call n m]
  rfl
theorem rterms2_eq (call : CallF) (n : Nat) (F2 : St → Option Res) (a : Nat) (b c d : Int) (e : ByteArray) (f g : LL) (h i : Int) (j : V) (k o : LL) (σ : Sto) :
  aexec C rtermH call n (cp [0,0,1,1,0,1,1,1,0,1,0,1,1,1,1,1,1,1,1,1,1,1,1,1] rtermC) 0 (rtermt2 a b c d e f g h i j k o σ) (kloop rtermk2 F2 (kblk 3 (kblk 2 (kseq (fun st' => aexec C rtermH call n (cp [1,1,1,1,1,1,1,1,1,1,1,1,1,1] rtermC) 0 st' (kfin C rtermD)) (kfin C rtermD))))) =
  rterms2 call (fun a b p c d e f g h i j k o σ => aloop (fun st K => aexec C rtermH call n (cp [0,0,1,0,1,1,1,1,1,1,1,1,1,1,1,1,1,1] rtermC) 0 st K) rtermk1 n (rtermt1 a b p c d e f g h i j k o σ) (kblk 5 (kseq (fun st' => aexec C rtermH call n (cp [1,1,1,1,1,1,1,1,1,1,1,1,1,1,1] rtermC) 0 st' (kfin C rtermD)) (kfin C rtermD)))) (fun a b c d e f g h i j k o σ => F2 (rtermt2 a b c d e f g h i j k o σ)) a b c d e f g h i j k o σ := by kernel_rfl
theorem rterml2_eq (call : CallF) (n : Nat) : ∀ (m a : Nat) (b c d : Int) (e : ByteArray) (f g : LL) (h i : Int) (j : V) (k o : LL) (σ : Sto),
  aloop (fun st K => aexec C rtermH call n (cp [0,0,1,1,0,1,1,1,0,1,0,1,1,1,1,1,1,1,1,1,1,1,1,1] rtermC) 0 st K) rtermk2 m (rtermt2 a b c d e f g h i j k o σ) (kblk 3 (kblk 2 (kseq (fun st' => aexec C rtermH call n (cp [1,1,1,1,1,1,1,1,1,1,1,1,1,1] rtermC) 0 st' (kfin C rtermD)) (kfin C rtermD)))) = rterml2 call n m a b c d e f g h i j k o σ
 | 0, a, b, c, d, e, f, g, h, i, j, k, o, σ => rfl
 | m + 1, a, b, c, d, e, f, g, h, i, j, k, o, σ => by
  rw [aloop, rterms2_eq]
  simp only [rterml2_eq call n m, rterml1_eq]
  rfl
theorem rterms0_eq (call : CallF) (n : Nat) (F0 : St → Option Res) (a : Nat) (g h : V) (i j b c : Int) (d : ByteArray) (e f : LL) (σ : Sto) :
  aexec C rtermH call n (cp [0,0,1,0,1,1,1,1,1,1,1,1] rtermC) 0 (rtermt0 a g h i j b c d e f σ) (kloop rtermk0 F0 (kblk 0 (kseq (fun st' => aexec C rtermH call n (cp [1,1,1,1,1,1,1,1,1] rtermC) 0 st' (kfin C rtermD)) (kfin C rtermD)))) =
  rterms0 call (fun a k t b c d e f o p q r s σ => aloop (fun st K => aexec C rtermH call n (cp [0,0,1,0,1,1,1,1,1,1,1,1,1,1,1,1,1,1] rtermC) 0 st K) rtermk1 n (rtermt1 a k t b c d e f o p q r s σ) (kblk 5 (kseq (fun st' => aexec C rtermH call n (cp [1,1,1,1,1,1,1,1,1,1,1,1,1,1,1] rtermC) 0 st' (kfin C rtermD)) (kfin C rtermD)))) (fun a k b c d e f o p q r s σ => aloop (fun st K => aexec C rtermH call n (cp [0,0,1,1,0,1,1,1,0,1,0,1,1,1,1,1,1,1,1,1,1,1,1,1] rtermC) 0 st K) rtermk2 n (rtermt2 a k b c d e f o p q r s σ) (kblk 3 (kblk 2 (kseq (fun st' => aexec C rtermH call n (cp [1,1,1,1,1,1,1,1,1,1,1,1,1,1] rtermC) 0 st' (kfin C rtermD)) (kfin C rtermD))))) (fun a g h i j b c d e f σ => F0 (rtermt0 a g h i j b c d e f σ)) a g h i j b c d e f σ := by kernel_rfl
theorem rterml0_eq (call : CallF) (n : Nat) : ∀ (m a : Nat) (b c : V) (d e f g : Int) (h : ByteArray) (i j : LL) (σ : Sto),
  aloop (fun st K => aexec C rtermH call n (cp [0,0,1,0,1,1,1,1,1,1,1,1] rtermC) 0 st K) rtermk0 m (rtermt0 a b c d e f g h i j σ) (kblk 0 (kseq (fun st' => aexec C rtermH call n (cp [1,1,1,1,1,1,1,1,1] rtermC) 0 st' (kfin C rtermD)) (kfin C rtermD))) = rterml0 call n m a b c d e f g h i j σ
 | 0, a, b, c, d, e, f, g, h, i, j, σ => rfl
 | m + 1, a, b, c, d, e, f, g, h, i, j, σ => by
  rw [aloop, rterms0_eq]
  simp only [rterml0_eq call n m, rterml1_eq, rterml2_eq]
  rfl
theorem rterm_eqF (call : CallF) (n a : Nat) (σ : Sto) : afun C rtermD call n [(V.ptr 69 a 0, false)] σ =
  rtermF call (fun a b c d e f g h i j σ => aloop (fun st K => aexec C rtermH call n (cp [0,0,1,0,1,1,1,1,1,1,1,1] rtermC) 0 st K) rtermk0 n (rtermt0 a b c d e f g h i j σ) (kblk 0 (kseq (fun st' => aexec C rtermH call n (cp [1,1,1,1,1,1,1,1,1] rtermC) 0 st' (kfin C rtermD)) (kfin C rtermD)))) a σ := by kernel_rfl
theorem rterm_eq (call : CallF) (n a : Nat) (σ : Sto) : afun C rtermD call n [(V.ptr 69 a 0, false)] σ = rterm call n a σ := by
 rw [rterm_eqF]
 simp only [rterml0_eq]
 rfl
theorem rterm_lim {n : Nat} {a : Nat} {b0 : Bool} {σ : Sto} {r : Res} (h : rterm (lim C) n a σ = some r) : lim C 33 [(V.ptr 69 a 0, b0)] σ = some r :=
 lim_of (d := rtermD) (by kernel_rfl) (by kernel_rfl) n (show afun C rtermD (lim C) n [(V.ptr 69 a 0, false)] σ = some r from (rterm_eq (lim C) n a σ).trans h)
noncomputable def rdoneF (call : CallF) (a : Nat) (σ : Sto) : Option Res :=
 callK call 51 [(V.ptr 69 a 0, false)] σ 3 (fun b c =>
 (V.asBool (getD b 2 cellD).1).bind fun b4 =>
 bif (!b4) then
 callK call 52 [(V.ptr 69 a 0, false), ((getD b 1 cellD).1, false)] c 0 (fun f d =>
 (memGet d (V.ptr 69 a 2) true 2).bind fun m8 =>
 (grd (V.fits m8 true 2)).bind fun _ =>
 some (.ret [(V.agg [V.cell m8 0, V.cell m8 1], false)], d)) pnK
 else
 (V.asStr (getD b 0 cellD).1).bind fun s9 =>
 bif (!(s9.toList == (ByteArray.mk #[]).toList)) then
 callK call 52 [(V.ptr 69 a 0, false), ((getD b 1 cellD).1, false)] c 0 (fun g e =>
 (memGet e (V.ptr 69 a 2) true 2).bind fun m13 =>
 (grd (V.fits m13 true 2)).bind fun _ =>
 some (.ret [(V.agg [V.cell m13 0, V.cell m13 1], false)], e)) pnK
 else
 (memGet c (V.ptr 69 a 2) true 2).bind fun m14 =>
 (grd (V.fits m14 true 2)).bind fun _ =>
 some (.ret [(V.agg [V.cell m14 0, V.cell m14 1], false)], c)) pnK
noncomputable def rdone (call : CallF) (n a : Nat) (σ : Sto) : Option Res := rdoneF call a σ
theorem rdone_eqF (call : CallF) (n a : Nat) (σ : Sto) : afun C rdoneD call n [(V.ptr 69 a 0, false)] σ =
  rdoneF call a σ := by kernel_rfl
theorem rdone_eq (call : CallF) (n a : Nat) (σ : Sto) : afun C rdoneD call n [(V.ptr 69 a 0, false)] σ = rdone call n a σ := rdone_eqF call n a σ
theorem rdone_lim {n : Nat} {a : Nat} {b0 : Bool} {σ : Sto} {r : Res} (h : rdone (lim C) n a σ = some r) : lim C 34 [(V.ptr 69 a 0, b0)] σ = some r :=
 lim_of (d := rdoneD) (by kernel_rfl) (by kernel_rfl) n (show afun C rdoneD (lim C) n [(V.ptr 69 a 0, false)] σ = some r from (rdone_eq (lim C) n a σ).trans h)
noncomputable def levelPartsk0 : List Nat := [1, 2, 5, 6]
noncomputable def levelPartss0 (call : CallF) (rec0 : Int → Int → Int → Int → ByteArray → LL → RR) (d c a e : Int) (f : ByteArray) (b : LL) (σ : Sto) : Option Res :=
 bif (decide (a < (b.length : Int))) then
 bif (decide (c ≤ d)) then
 (grd (decide (0 ≤ a) && decide (a < b.length))).bind fun _ =>
 callK call 35 [(V.agg [(getD (getD b a.toNat []) 0 V.any), (getD (getD b a.toNat []) 1 V.any), (getD (getD b a.toNat []) 2 V.any)], false), (V.int .i64 (wrap .i64 (d - c)), false)] σ 1 (fun g h =>
 (V.asInt (getD g 0 cellD).1 .i64).bind fun i4 =>
 rec0 d (wrap .i64 (c + i4)) (wrap .i64 (a + (1 : Int))) e f b h) pnK
 else
 some (.ret [(V.int .i64 c, false)], σ)
 else
 some (.ret [(V.int .i64 c, false)], σ)
noncomputable def levelPartsl0 (call : CallF) (n : Nat) : Nat → Int → Int → Int → Int → ByteArray → LL → RR
 | 0 => fun _ _ _ _ _ _ _ => none
 | m + 1 => levelPartss0 call (levelPartsl0 call n m)
noncomputable def levelPartst0 (a b c d : Int) (e : ByteArray) (f : LL) (σ : Sto) : St := ⟨[.dead, .val (V.int .i64 a) false, .lptr 2 0, .dead, .dead, .val (V.int .i64 b) false, .val (V.int .i64 c) false] ++ dd 26 [], [[], [], [(V.int .i64 d, false), (V.str e, false), (V.slice 3 74 f, false)]] ++ nn 30 [], σ⟩
noncomputable def levelPartsF (call : CallF) (L0 : Int → Int → Int → Int → ByteArray → LL → RR) (a : Int) (b : ByteArray) (c : LL) (d : Int) (σ : Sto) : Option Res :=
 L0 d (1 : Int) (0 : Int) a b c σ
noncomputable def levelParts (call : CallF) (n : Nat) (a : Int) (b : ByteArray) (c : LL) (d : Int) (σ : Sto) : Option Res := levelPartsF call (levelPartsl0 call n n) a b c d σ
theorem levelPartss0_eq (call : CallF) (n : Nat) (F0 : St → Option Res) (a b c d : Int) (e : ByteArray) (f : LL) (σ : Sto) :
  aexec C levelPartsH call n (cp [0,0,1,0,1,1] levelPartsC) 0 (levelPartst0 a b c d e f σ) (kloop levelPartsk0 F0 (kblk 0 (kseq (fun st' => aexec C levelPartsH call n (cp [1,1,1] levelPartsC) 0 st' (kfin C levelPartsD)) (kfin C levelPartsD)))) =
  levelPartss0 call (fun a b c d e f σ => F0 (levelPartst0 a b c d e f σ)) a b c d e f σ := by kernel_rfl
theorem levelPartsl0_eq (call : CallF) (n : Nat) : ∀ (m : Nat) (a b c d : Int) (e : ByteArray) (f : LL) (σ : Sto),
  aloop (fun st K => aexec C levelPartsH call n (cp [0,0,1,0,1,1] levelPartsC) 0 st K) levelPartsk0 m (levelPartst0 a b c d e f σ) (kblk 0 (kseq (fun st' => aexec C levelPartsH call n (cp [1,1,1] levelPartsC) 0 st' (kfin C levelPartsD)) (kfin C levelPartsD))) = levelPartsl0 call n m a b c d e f σ
 | 0, a, b, c, d, e, f, σ => rfl
 | m + 1, a, b, c, d, e, f, σ => by
  rw [aloop, levelPartss0_eq]
  simp only [levelPartsl0_eq call n m]
  rfl
theorem levelParts_eqF (call : CallF) (n : Nat) (b : Int) (c : ByteArray) (d : LL) (a : Int) (σ : Sto) : afun C levelPartsD call n [(V.agg [V.int .i64 b, V.str c, V.slice 3 74 d], false), (V.int .i64 a, false)] σ =
  levelPartsF call (fun a e f g h i σ => aloop (fun st K => aexec C levelPartsH call n (cp [0,0,1,0,1,1] levelPartsC) 0 st K) levelPartsk0 n (levelPartst0 a e f g h i σ) (kblk 0 (kseq (fun st' => aexec C levelPartsH call n (cp [1,1,1] levelPartsC) 0 st' (kfin C levelPartsD)) (kfin C levelPartsD)))) b c d a σ := by kernel_rfl
theorem levelParts_eq (call : CallF) (n : Nat) (a : Int) (b : ByteArray) (c : LL) (d : Int) (σ : Sto) : afun C levelPartsD call n [(V.agg [V.int .i64 a, V.str b, V.slice 3 74 c], false), (V.int .i64 d, false)] σ = levelParts call n a b c d σ := by
 rw [levelParts_eqF]
 simp only [levelPartsl0_eq]
 rfl
theorem levelParts_lim {n : Nat} {a : Int} {b : ByteArray} {c : LL} {e : Int} {b0 b1 : Bool} {σ : Sto} {r : Res} (h : levelParts (lim C) n a b c e σ = some r) : lim C 35 [(V.agg [V.int .i64 a, V.str b, V.slice 3 74 c], b0), (V.int .i64 e, b1)] σ = some r :=
 lim_of (d := levelPartsD) (by kernel_rfl) (by kernel_rfl) n (show afun C levelPartsD (lim C) n [(V.agg [V.int .i64 a, V.str b, V.slice 3 74 c], false), (V.int .i64 e, false)] σ = some r from (levelParts_eq (lim C) n a b c e σ).trans h)
noncomputable def bindsF (call : CallF) (a d : Int) (e : ByteArray) (f b : LL) (c : Int) (σ : Sto) : Option Res :=
 bif (decide (a ≥ (4 : Int))) then
 some (.ret [((V.bool (c == (wrap .i64 ((b.length : Int) - (1 : Int))))), false)], σ)
 else
 some (.ret [(V.bool false, false)], σ)
noncomputable def binds (call : CallF) (n : Nat) (a b : Int) (c : ByteArray) (d e : LL) (f : Int) (σ : Sto) : Option Res := bindsF call a b c d e f σ
theorem binds_eqF (call : CallF) (n : Nat) (a b : Int) (c : ByteArray) (d e : LL) (f : Int) (σ : Sto) : afun C bindsD call n [(V.agg [V.int .i64 a, V.int .i64 b, V.str c, V.slice 3 74 d, V.slice 5 29 e], false), (V.int .i64 f, false)] σ =
  bindsF call a b c d e f σ := by kernel_rfl
theorem binds_eq (call : CallF) (n : Nat) (a b : Int) (c : ByteArray) (d e : LL) (f : Int) (σ : Sto) : afun C bindsD call n [(V.agg [V.int .i64 a, V.int .i64 b, V.str c, V.slice 3 74 d, V.slice 5 29 e], false), (V.int .i64 f, false)] σ = binds call n a b c d e f σ := binds_eqF call n a b c d e f σ
theorem binds_lim {n : Nat} {a : Int} {b : Int} {c : ByteArray} {e : LL} {f : LL} {g : Int} {b0 b1 : Bool} {σ : Sto} {r : Res} (h : binds (lim C) n a b c e f g σ = some r) : lim C 36 [(V.agg [V.int .i64 a, V.int .i64 b, V.str c, V.slice 3 74 e, V.slice 5 29 f], b0), (V.int .i64 g, b1)] σ = some r :=
 lim_of (d := bindsD) (by kernel_rfl) (by kernel_rfl) n (show afun C bindsD (lim C) n [(V.agg [V.int .i64 a, V.int .i64 b, V.str c, V.slice 3 74 e, V.slice 5 29 f], false), (V.int .i64 g, false)] σ = some r from (binds_eq (lim C) n a b c e f g σ).trans h)
noncomputable def wstringF (call : CallF) (a : Nat) (b : ByteArray) (σ : Sto) : Option Res :=
 callK call 59 [(V.ptr 53 a 0, false)] σ 0 (fun d c =>
 (memTake c (V.ptr 53 a 1)).bind fun m4 =>
 (V.asSlice m4.1 1 5).bind fun l5 =>
 (grd (room (List.length l5 + b.size))).bind fun _ =>
 (memSet m4.2 (V.ptr 53 a 1) [(V.slice 1 5 (l5 ++ bytesV b), true)]).bind fun m6 =>
 some (.ret [((V.int .i64 (b.size : Int)), false), (V.nilIface, false)], m6)) pnK
noncomputable def wstring (call : CallF) (n a : Nat) (b : ByteArray) (σ : Sto) : Option Res := wstringF call a b σ
theorem wstring_eqF (call : CallF) (n a : Nat) (b : ByteArray) (σ : Sto) : afun C wstringD call n [(V.ptr 53 a 0, false), (V.str b, false)] σ =
  wstringF call a b σ := by kernel_rfl
theorem wstring_eq (call : CallF) (n a : Nat) (b : ByteArray) (σ : Sto) : afun C wstringD call n [(V.ptr 53 a 0, false), (V.str b, false)] σ = wstring call n a b σ := wstring_eqF call n a b σ
theorem wstring_lim {n : Nat} {a : Nat} {b : ByteArray} {b0 b1 : Bool} {σ : Sto} {r : Res} (h : wstring (lim C) n a b σ = some r) : lim C 37 [(V.ptr 53 a 0, b0), (V.str b, b1)] σ = some r :=
 lim_of (d := wstringD) (by kernel_rfl) (by kernel_rfl) n (show afun C wstringD (lim C) n [(V.ptr 53 a 0, false), (V.str b, false)] σ = some r from (wstring_eq (lim C) n a b σ).trans h)
noncomputable def printF (call : CallF) (a : Int) (b : ByteArray) (c : LL) (σ : Sto) : Option Res :=
 callK call 61 [(V.ptr 53 (List.length σ) 0, false), (V.agg [V.int .i64 a, V.str b, V.slice 3 74 c], false)] (σ ++ [[(V.nilp, false), (V.slice 1 5 [], true)]]) 0 (fun g d =>
 callK call 20 [(V.ptr 53 (List.length σ) 0, false)] d 1 (fun e f =>
 some (.ret [((getD e 0 cellD).1, false)], f)) pnK) pnK
noncomputable def print (call : CallF) (n : Nat) (a : Int) (b : ByteArray) (c : LL) (σ : Sto) : Option Res := printF call a b c σ
theorem print_eqF (call : CallF) (n : Nat) (a : Int) (b : ByteArray) (c : LL) (σ : Sto) : afun C printD call n [(V.agg [V.int .i64 a, V.str b, V.slice 3 74 c], false)] σ =
  printF call a b c σ := by kernel_rfl
theorem print_eq (call : CallF) (n : Nat) (a : Int) (b : ByteArray) (c : LL) (σ : Sto) : afun C printD call n [(V.agg [V.int .i64 a, V.str b, V.slice 3 74 c], false)] σ = print call n a b c σ := print_eqF call n a b c σ
theorem print_lim {n : Nat} {a : Int} {b : ByteArray} {c : LL} {b0 : Bool} {σ : Sto} {r : Res} (h : print (lim C) n a b c σ = some r) : lim C 39 [(V.agg [V.int .i64 a, V.str b, V.slice 3 74 c], b0)] σ = some r :=
 lim_of (d := printD) (by kernel_rfl) (by kernel_rfl) n (show afun C printD (lim C) n [(V.agg [V.int .i64 a, V.str b, V.slice 3 74 c], false)] σ = some r from (print_eq (lim C) n a b c σ).trans h)
noncomputable def wbyteF (call : CallF) (a : Nat) (b : Int) (σ : Sto) : Option Res :=
 callK call 59 [(V.ptr 53 a 0, false)] σ 0 (fun d c =>
 (memTake c (V.ptr 53 a 1)).bind fun m4 =>
 (V.asSlice m4.1 1 5).bind fun l5 =>
 (grd (room (List.length l5 + 1))).bind fun _ =>
 (memSet m4.2 (V.ptr 53 a 1) [(V.slice 1 5 (l5 ++ [[V.int .u8 b]]), true)]).bind fun m6 =>
 some (.ret [(V.nilIface, false)], m6)) pnK
noncomputable def wbyte (call : CallF) (n a : Nat) (b : Int) (σ : Sto) : Option Res := wbyteF call a b σ
theorem wbyte_eqF (call : CallF) (n a : Nat) (b : Int) (σ : Sto) : afun C wbyteD call n [(V.ptr 53 a 0, false), (V.int .u8 b, false)] σ =
  wbyteF call a b σ := by kernel_rfl
theorem wbyte_eq (call : CallF) (n a : Nat) (b : Int) (σ : Sto) : afun C wbyteD call n [(V.ptr 53 a 0, false), (V.int .u8 b, false)] σ = wbyte call n a b σ := wbyte_eqF call n a b σ
theorem wbyte_lim {n : Nat} {a : Nat} {b : Int} {b0 b1 : Bool} {σ : Sto} {r : Res} (h : wbyte (lim C) n a b σ = some r) : lim C 40 [(V.ptr 53 a 0, b0), (V.int .u8 b, b1)] σ = some r :=
 lim_of (d := wbyteD) (by kernel_rfl) (by kernel_rfl) n (show afun C wbyteD (lim C) n [(V.ptr 53 a 0, false), (V.int .u8 b, false)] σ = some r from (wbyte_eq (lim C) n a b σ).trans h)
end Go.Ab.Mk
end
section
set_option maxRecDepth 100000
namespace Go.Ab.Mk
open Go.Proofs Go.Ab
open List (getD)
open IntKind (wrap)
noncomputable def sstepF (call : CallF) (a : Nat) (σ : Sto) : Option Res :=
 (memGet σ (V.ptr 84 a 1) false 1).bind fun m1 =>
 callK call 62 [(V.ptr 84 a 0, false), (m1, false), ((V.func (.func 63) [] []), false)] σ 1 (fun q r =>
 (grd (V.fits (getD q 0 cellD).1 false 1)).bind fun _ =>
 (memSet r (V.ptr 84 a 3) [((getD q 0 cellD).1, false)]).bind fun m5 =>
 (memGet m5 (V.ptr 84 a 3) false 1).bind fun m6 =>
 (memGet m5 (V.ptr 84 a 0) false 1).bind fun m7 =>
 (V.asStr m7).bind fun s8 =>
 (V.asInt m6 .i64).bind fun i9 =>
 bif (i9 == (s8.size : Int)) then
 (memGet m5 (V.ptr 84 a 3) false 1).bind fun m10 =>
 (memSet m5 (V.ptr 84 a 2) [(V.str ⟨#[]⟩, false)]).bind fun m11 =>
 (grd (V.fits m10 false 1)).bind fun _ =>
 (memSet m11 (V.ptr 84 a 1) [(m10, false)]).bind fun m12 =>
 some (.ret [], m12)
 else
 (memGet m5 (V.ptr 84 a 3) false 1).bind fun m13 =>
 (V.asInt m13 .i64).bind fun i14 =>
 (memGet m5 (V.ptr 84 a 0) false 1).bind fun m15 =>
 (memGet m5 (V.ptr 84 a 3) false 1).bind fun m16 =>
 (V.asStr m15).bind fun s17 =>
 (V.asInt m16 .i64).bind fun i18 =>
 (grd (decide (0 ≤ i18) && decide (i18 < s17.size))).bind fun _ =>
 bif ((byteAt s17 i18.toNat) == (40 : Int)) then
 bif (decide ((wrap .i64 (i14 + (1 : Int))) < (0 : Int))) then
 (memSet m5 (V.ptr 84 a 2) [(V.str ⟨#[0]⟩, false)]).bind fun m19 =>
 some (.ret [], m19)
 else
 (memGet m5 (V.ptr 84 a 0) false 1).bind fun m20 =>
 (memGet m5 (V.ptr 84 a 3) false 1).bind fun m21 =>
 (V.asStr m20).bind fun s22 =>
 (V.asInt m21 .i64).bind fun i23 =>
 (grd (decide (0 ≤ i23) && decide (i23 ≤ (wrap .i64 (i14 + (1 : Int)))) && decide ((wrap .i64 (i14 + (1 : Int))) ≤ s22.size))).bind fun _ =>
 (memSet m5 (V.ptr 84 a 2) [((V.str (s22.extract i23.toNat (Int.toNat (wrap .i64 (i14 + (1 : Int)))))), false)]).bind fun m24 =>
 (memSet m24 (V.ptr 84 a 1) [((V.int .i64 (wrap .i64 (i14 + (1 : Int)))), false)]).bind fun m25 =>
 some (.ret [], m25)
 else
 bif ((byteAt s17 i18.toNat) == (41 : Int)) then
 bif (decide ((wrap .i64 (i14 + (1 : Int))) < (0 : Int))) then
 (memSet m5 (V.ptr 84 a 2) [(V.str ⟨#[0]⟩, false)]).bind fun m26 =>
 some (.ret [], m26)
 else
 (memGet m5 (V.ptr 84 a 0) false 1).bind fun m27 =>
 (memGet m5 (V.ptr 84 a 3) false 1).bind fun m28 =>
 (V.asStr m27).bind fun s29 =>
 (V.asInt m28 .i64).bind fun i30 =>
 (grd (decide (0 ≤ i30) && decide (i30 ≤ (wrap .i64 (i14 + (1 : Int)))) && decide ((wrap .i64 (i14 + (1 : Int))) ≤ s29.size))).bind fun _ =>
 (memSet m5 (V.ptr 84 a 2) [((V.str (s29.extract i30.toNat (Int.toNat (wrap .i64 (i14 + (1 : Int)))))), false)]).bind fun m31 =>
 (memSet m31 (V.ptr 84 a 1) [((V.int .i64 (wrap .i64 (i14 + (1 : Int)))), false)]).bind fun m32 =>
 some (.ret [], m32)
 else
 callK call 64 [(V.int .u8 (byteAt s17 i18.toNat), false)] m5 1 (fun s j =>
 (V.asBool (getD s 0 cellD).1).bind fun b36 =>
 bif b36 then
 (memGet j (V.ptr 84 a 3) false 1).bind fun m37 =>
 callK call 62 [(V.ptr 84 a 0, false), (m37, false), ((V.func (.func 65) [] []), false)] j 1 (fun o k =>
 (memGet k (V.ptr 84 a 3) false 1).bind fun m41 =>
 (V.asInt (getD o 0 cellD).1 .i64).bind fun i42 =>
 (V.asInt m41 .i64).bind fun i43 =>
 bif (decide ((wrap .i64 (i42 - i43)) > (40 : Int))) then
 (memSet k (V.ptr 84 a 2) [(V.str ⟨#[0]⟩, false)]).bind fun m44 =>
 some (.ret [], m44)
 else
 (V.asInt (getD o 0 cellD).1 .i64).bind fun i45 =>
 bif (decide (i45 < (0 : Int))) then
 (memSet k (V.ptr 84 a 2) [(V.str ⟨#[0]⟩, false)]).bind fun m46 =>
 some (.ret [], m46)
 else
 (memGet k (V.ptr 84 a 0) false 1).bind fun m47 =>
 (memGet k (V.ptr 84 a 3) false 1).bind fun m48 =>
 (V.asStr m47).bind fun s49 =>
 (V.asInt m48 .i64).bind fun i50 =>
 (V.asInt (getD o 0 cellD).1 .i64).bind fun i51 =>
 (grd (decide (0 ≤ i50) && decide (i50 ≤ i51) && decide (i51 ≤ s49.size))).bind fun _ =>
 (memSet k (V.ptr 84 a 2) [(V.str (s49.extract i50.toNat i51.toNat), false)]).bind fun m52 =>
 (grd (V.fits (getD o 0 cellD).1 false 1)).bind fun _ =>
 (memSet m52 (V.ptr 84 a 1) [((getD o 0 cellD).1, false)]).bind fun m53 =>
 some (.ret [], m53)) pnK
 else
 bif ((byteAt s17 i18.toNat) == (35 : Int)) then
 (memGet j (V.ptr 84 a 3) false 1).bind fun m54 =>
 bif ((byteAt s17 i18.toNat) == (35 : Int)) then
 (V.asInt m54 .i64).bind fun i55 =>
 callK call 62 [(V.ptr 84 a 0, false), ((V.int .i64 (wrap .i64 (i55 + (1 : Int)))), false), ((V.func (.func 66) [] []), false)] j 1 (fun f b =>
 (V.asInt (getD f 0 cellD).1 .i64).bind fun i59 =>
 bif ((wrap .i64 (i59 - (wrap .i64 (i55 + (1 : Int))))) == (0 : Int)) then
 (memSet b (V.ptr 84 a 2) [(V.str ⟨#[0]⟩, false)]).bind fun m60 =>
 some (.ret [], m60)
 else
 bif (decide ((wrap .i64 (i59 - (wrap .i64 (i55 + (1 : Int))))) > (5 : Int))) then
 (memSet b (V.ptr 84 a 2) [(V.str ⟨#[0]⟩, false)]).bind fun m61 =>
 some (.ret [], m61)
 else
 bif (decide ((wrap .i64 (i59 - (wrap .i64 (i55 + (1 : Int))))) > (1 : Int))) then
 (memGet b (V.ptr 84 a 0) false 1).bind fun m62 =>
 (V.asStr m62).bind fun s63 =>
 (grd (decide (0 ≤ (wrap .i64 (i55 + (1 : Int)))) && decide ((wrap .i64 (i55 + (1 : Int))) < s63.size))).bind fun _ =>
 bif ((byteAt s63 (Int.toNat (wrap .i64 (i55 + (1 : Int))))) == (48 : Int)) then
 (memSet b (V.ptr 84 a 2) [(V.str ⟨#[0]⟩, false)]).bind fun m64 =>
 some (.ret [], m64)
 else
 (V.asInt (getD f 0 cellD).1 .i64).bind fun i65 =>
 bif (decide (i65 < (0 : Int))) then
 (memSet b (V.ptr 84 a 2) [(V.str ⟨#[0]⟩, false)]).bind fun m66 =>
 some (.ret [], m66)
 else
 (memGet b (V.ptr 84 a 0) false 1).bind fun m67 =>
 (memGet b (V.ptr 84 a 3) false 1).bind fun m68 =>
 (V.asStr m67).bind fun s69 =>
 (V.asInt m68 .i64).bind fun i70 =>
 (V.asInt (getD f 0 cellD).1 .i64).bind fun i71 =>
 (grd (decide (0 ≤ i70) && decide (i70 ≤ i71) && decide (i71 ≤ s69.size))).bind fun _ =>
 (memSet b (V.ptr 84 a 2) [(V.str (s69.extract i70.toNat i71.toNat), false)]).bind fun m72 =>
 (grd (V.fits (getD f 0 cellD).1 false 1)).bind fun _ =>
 (memSet m72 (V.ptr 84 a 1) [((getD f 0 cellD).1, false)]).bind fun m73 =>
 some (.ret [], m73)
 else
 (V.asInt (getD f 0 cellD).1 .i64).bind fun i74 =>
 bif (decide (i74 < (0 : Int))) then
 (memSet b (V.ptr 84 a 2) [(V.str ⟨#[0]⟩, false)]).bind fun m75 =>
 some (.ret [], m75)
 else
 (memGet b (V.ptr 84 a 0) false 1).bind fun m76 =>
 (memGet b (V.ptr 84 a 3) false 1).bind fun m77 =>
 (V.asStr m76).bind fun s78 =>
 (V.asInt m77 .i64).bind fun i79 =>
 (V.asInt (getD f 0 cellD).1 .i64).bind fun i80 =>
 (grd (decide (0 ≤ i79) && decide (i79 ≤ i80) && decide (i80 ≤ s78.size))).bind fun _ =>
 (memSet b (V.ptr 84 a 2) [(V.str (s78.extract i79.toNat i80.toNat), false)]).bind fun m81 =>
 (grd (V.fits (getD f 0 cellD).1 false 1)).bind fun _ =>
 (memSet m81 (V.ptr 84 a 1) [((getD f 0 cellD).1, false)]).bind fun m82 =>
 some (.ret [], m82)) pnK
 else
 callK call 62 [(V.ptr 84 a 0, false), (m54, false), ((V.func (.func 66) [] []), false)] j 1 (fun g c =>
 (V.asInt (getD g 0 cellD).1 .i64).bind fun i86 =>
 (V.asInt m54 .i64).bind fun i87 =>
 bif ((wrap .i64 (i86 - i87)) == (0 : Int)) then
 (memSet c (V.ptr 84 a 2) [(V.str ⟨#[0]⟩, false)]).bind fun m88 =>
 some (.ret [], m88)
 else
 bif (decide ((wrap .i64 (i86 - i87)) > (5 : Int))) then
 (memSet c (V.ptr 84 a 2) [(V.str ⟨#[0]⟩, false)]).bind fun m89 =>
 some (.ret [], m89)
 else
 bif (decide ((wrap .i64 (i86 - i87)) > (1 : Int))) then
 (memGet c (V.ptr 84 a 0) false 1).bind fun m90 =>
 (V.asStr m90).bind fun s91 =>
 (V.asInt m54 .i64).bind fun i92 =>
 (grd (decide (0 ≤ i92) && decide (i92 < s91.size))).bind fun _ =>
 bif ((byteAt s91 i92.toNat) == (48 : Int)) then
 (memSet c (V.ptr 84 a 2) [(V.str ⟨#[0]⟩, false)]).bind fun m93 =>
 some (.ret [], m93)
 else
 (V.asInt (getD g 0 cellD).1 .i64).bind fun i94 =>
 bif (decide (i94 < (0 : Int))) then
 (memSet c (V.ptr 84 a 2) [(V.str ⟨#[0]⟩, false)]).bind fun m95 =>
 some (.ret [], m95)
 else
 (memGet c (V.ptr 84 a 0) false 1).bind fun m96 =>
 (memGet c (V.ptr 84 a 3) false 1).bind fun m97 =>
 (V.asStr m96).bind fun s98 =>
 (V.asInt m97 .i64).bind fun i99 =>
 (V.asInt (getD g 0 cellD).1 .i64).bind fun i100 =>
 (grd (decide (0 ≤ i99) && decide (i99 ≤ i100) && decide (i100 ≤ s98.size))).bind fun _ =>
 (memSet c (V.ptr 84 a 2) [(V.str (s98.extract i99.toNat i100.toNat), false)]).bind fun m101 =>
 (grd (V.fits (getD g 0 cellD).1 false 1)).bind fun _ =>
 (memSet m101 (V.ptr 84 a 1) [((getD g 0 cellD).1, false)]).bind fun m102 =>
 some (.ret [], m102)
 else
 (V.asInt (getD g 0 cellD).1 .i64).bind fun i103 =>
 bif (decide (i103 < (0 : Int))) then
 (memSet c (V.ptr 84 a 2) [(V.str ⟨#[0]⟩, false)]).bind fun m104 =>
 some (.ret [], m104)
 else
 (memGet c (V.ptr 84 a 0) false 1).bind fun m105 =>
 (memGet c (V.ptr 84 a 3) false 1).bind fun m106 =>
 (V.asStr m105).bind fun s107 =>
 (V.asInt m106 .i64).bind fun i108 =>
 (V.asInt (getD g 0 cellD).1 .i64).bind fun i109 =>
 (grd (decide (0 ≤ i108) && decide (i108 ≤ i109) && decide (i109 ≤ s107.size))).bind fun _ =>
 (memSet c (V.ptr 84 a 2) [(V.str (s107.extract i108.toNat i109.toNat), false)]).bind fun m110 =>
 (grd (V.fits (getD g 0 cellD).1 false 1)).bind fun _ =>
 (memSet m110 (V.ptr 84 a 1) [((getD g 0 cellD).1, false)]).bind fun m111 =>
 some (.ret [], m111)) pnK
 else
 callK call 66 [(V.int .u8 (byteAt s17 i18.toNat), false)] j 1 (fun t p =>
 (V.asBool (getD t 0 cellD).1).bind fun b115 =>
 bif b115 then
 (memGet p (V.ptr 84 a 3) false 1).bind fun m116 =>
 bif ((byteAt s17 i18.toNat) == (35 : Int)) then
 (V.asInt m116 .i64).bind fun i117 =>
 callK call 62 [(V.ptr 84 a 0, false), ((V.int .i64 (wrap .i64 (i117 + (1 : Int)))), false), ((V.func (.func 66) [] []), false)] p 1 (fun h d =>
 (V.asInt (getD h 0 cellD).1 .i64).bind fun i121 =>
 bif ((wrap .i64 (i121 - (wrap .i64 (i117 + (1 : Int))))) == (0 : Int)) then
 (memSet d (V.ptr 84 a 2) [(V.str ⟨#[0]⟩, false)]).bind fun m122 =>
 some (.ret [], m122)
 else
 bif (decide ((wrap .i64 (i121 - (wrap .i64 (i117 + (1 : Int))))) > (5 : Int))) then
 (memSet d (V.ptr 84 a 2) [(V.str ⟨#[0]⟩, false)]).bind fun m123 =>
 some (.ret [], m123)
 else
 bif (decide ((wrap .i64 (i121 - (wrap .i64 (i117 + (1 : Int))))) > (1 : Int))) then
 (memGet d (V.ptr 84 a 0) false 1).bind fun m124 =>
 (V.asStr m124).bind fun s125 =>
 (grd (decide (0 ≤ (wrap .i64 (i117 + (1 : Int)))) && decide ((wrap .i64 (i117 + (1 : Int))) < s125.size))).bind fun _ =>
 bif ((byteAt s125 (Int.toNat (wrap .i64 (i117 + (1 : Int))))) == (48 : Int)) then
 (memSet d (V.ptr 84 a 2) [(V.str ⟨#[0]⟩, false)]).bind fun m126 =>
 some (.ret [], m126)
 else
 (V.asInt (getD h 0 cellD).1 .i64).bind fun i127 =>
 bif (decide (i127 < (0 : Int))) then
 (memSet d (V.ptr 84 a 2) [(V.str ⟨#[0]⟩, false)]).bind fun m128 =>
 some (.ret [], m128)
 else
 (memGet d (V.ptr 84 a 0) false 1).bind fun m129 =>
 (memGet d (V.ptr 84 a 3) false 1).bind fun m130 =>
 (V.asStr m129).bind fun s131 =>
 (V.asInt m130 .i64).bind fun i132 =>
 (V.asInt (getD h 0 cellD).1 .i64).bind fun i133 =>
 (grd (decide (0 ≤ i132) && decide (i132 ≤ i133) && decide (i133 ≤ s131.size))).bind fun _ =>
 (memSet d (V.ptr 84 a 2) [(V.str (s131.extract i132.toNat i133.toNat), false)]).bind fun m134 =>
 (grd (V.fits (getD h 0 cellD).1 false 1)).bind fun _ =>
 (memSet m134 (V.ptr 84 a 1) [((getD h 0 cellD).1, false)]).bind fun m135 =>
 some (.ret [], m135)
 else
 (V.asInt (getD h 0 cellD).1 .i64).bind fun i136 =>
 bif (decide (i136 < (0 : Int))) then
 (memSet d (V.ptr 84 a 2) [(V.str ⟨#[0]⟩, false)]).bind fun m137 =>
 some (.ret [], m137)
 else
 (memGet d (V.ptr 84 a 0) false 1).bind fun m138 =>
 (memGet d (V.ptr 84 a 3) false 1).bind fun m139 =>
 (V.asStr m138).bind fun s140 =>
 (V.asInt m139 .i64).bind fun i141 =>
 (V.asInt (getD h 0 cellD).1 .i64).bind fun i142 =>
 (grd (decide (0 ≤ i141) && decide (i141 ≤ i142) && decide (i142 ≤ s140.size))).bind fun _ =>
 (memSet d (V.ptr 84 a 2) [(V.str (s140.extract i141.toNat i142.toNat), false)]).bind fun m143 =>
 (grd (V.fits (getD h 0 cellD).1 false 1)).bind fun _ =>
 (memSet m143 (V.ptr 84 a 1) [((getD h 0 cellD).1, false)]).bind fun m144 =>
 some (.ret [], m144)) pnK
 else
 callK call 62 [(V.ptr 84 a 0, false), (m116, false), ((V.func (.func 66) [] []), false)] p 1 (fun i e =>
 (V.asInt (getD i 0 cellD).1 .i64).bind fun i148 =>
 (V.asInt m116 .i64).bind fun i149 =>
 bif ((wrap .i64 (i148 - i149)) == (0 : Int)) then
 (memSet e (V.ptr 84 a 2) [(V.str ⟨#[0]⟩, false)]).bind fun m150 =>
 some (.ret [], m150)
 else
 bif (decide ((wrap .i64 (i148 - i149)) > (5 : Int))) then
 (memSet e (V.ptr 84 a 2) [(V.str ⟨#[0]⟩, false)]).bind fun m151 =>
 some (.ret [], m151)
 else
 bif (decide ((wrap .i64 (i148 - i149)) > (1 : Int))) then
 (memGet e (V.ptr 84 a 0) false 1).bind fun m152 =>
 (V.asStr m152).bind fun s153 =>
 (V.asInt m116 .i64).bind fun i154 =>
 (grd (decide (0 ≤ i154) && decide (i154 < s153.size))).bind fun _ =>
 bif ((byteAt s153 i154.toNat) == (48 : Int)) then
 (memSet e (V.ptr 84 a 2) [(V.str ⟨#[0]⟩, false)]).bind fun m155 =>
 some (.ret [], m155)
 else
 (V.asInt (getD i 0 cellD).1 .i64).bind fun i156 =>
 bif (decide (i156 < (0 : Int))) then
 (memSet e (V.ptr 84 a 2) [(V.str ⟨#[0]⟩, false)]).bind fun m157 =>
 some (.ret [], m157)
 else
 (memGet e (V.ptr 84 a 0) false 1).bind fun m158 =>
 (memGet e (V.ptr 84 a 3) false 1).bind fun m159 =>
 (V.asStr m158).bind fun s160 =>
 (V.asInt m159 .i64).bind fun i161 =>
 (V.asInt (getD i 0 cellD).1 .i64).bind fun i162 =>
 (grd (decide (0 ≤ i161) && decide (i161 ≤ i162) && decide (i162 ≤ s160.size))).bind fun _ =>
 (memSet e (V.ptr 84 a 2) [(V.str (s160.extract i161.toNat i162.toNat), false)]).bind fun m163 =>
 (grd (V.fits (getD i 0 cellD).1 false 1)).bind fun _ =>
 (memSet m163 (V.ptr 84 a 1) [((getD i 0 cellD).1, false)]).bind fun m164 =>
 some (.ret [], m164)
 else
 (V.asInt (getD i 0 cellD).1 .i64).bind fun i165 =>
 bif (decide (i165 < (0 : Int))) then
 (memSet e (V.ptr 84 a 2) [(V.str ⟨#[0]⟩, false)]).bind fun m166 =>
 some (.ret [], m166)
 else
 (memGet e (V.ptr 84 a 0) false 1).bind fun m167 =>
 (memGet e (V.ptr 84 a 3) false 1).bind fun m168 =>
 (V.asStr m167).bind fun s169 =>
 (V.asInt m168 .i64).bind fun i170 =>
 (V.asInt (getD i 0 cellD).1 .i64).bind fun i171 =>
 (grd (decide (0 ≤ i170) && decide (i170 ≤ i171) && decide (i171 ≤ s169.size))).bind fun _ =>
 (memSet e (V.ptr 84 a 2) [(V.str (s169.extract i170.toNat i171.toNat), false)]).bind fun m172 =>
 (grd (V.fits (getD i 0 cellD).1 false 1)).bind fun _ =>
 (memSet m172 (V.ptr 84 a 1) [((getD i 0 cellD).1, false)]).bind fun m173 =>
 some (.ret [], m173)) pnK
 else
 (memSet p (V.ptr 84 a 2) [(V.str ⟨#[0]⟩, false)]).bind fun m174 =>
 some (.ret [], m174)) pnK) pnK) pnK
noncomputable def sstep (call : CallF) (n a : Nat) (σ : Sto) : Option Res := sstepF call a σ
theorem sstep_eqF (call : CallF) (n a : Nat) (σ : Sto) : afun C sstepD call n [(V.ptr 84 a 0, false)] σ =
  sstepF call a σ := by kernel_rfl
theorem sstep_eq (call : CallF) (n a : Nat) (σ : Sto) : afun C sstepD call n [(V.ptr 84 a 0, false)] σ = sstep call n a σ := sstep_eqF call n a σ
theorem sstep_lim {n : Nat} {a : Nat} {b0 : Bool} {σ : Sto} {r : Res} (h : sstep (lim C) n a σ = some r) : lim C 43 [(V.ptr 84 a 0, b0)] σ = some r :=
 lim_of (d := sstepD) (by kernel_rfl) (by kernel_rfl) n (show afun C sstepD (lim C) n [(V.ptr 84 a 0, false)] σ = some r from (sstep_eq (lim C) n a σ).trans h)
noncomputable def cutPrefixF (call : CallF) (b c : ByteArray) (σ : Sto) : Option Res :=
 callK call 67 [(V.str b, false), (V.str c, false)] σ 2 (fun a d =>
 some (.ret [((getD a 0 cellD).1, false), ((getD a 1 cellD).1, false)], d)) pnK
noncomputable def cutPrefix (call : CallF) (n : Nat) (a b : ByteArray) (σ : Sto) : Option Res := cutPrefixF call a b σ
theorem cutPrefix_eqF (call : CallF) (n : Nat) (a b : ByteArray) (σ : Sto) : afun C cutPrefixD call n [(V.str a, false), (V.str b, false)] σ =
  cutPrefixF call a b σ := by kernel_rfl
theorem cutPrefix_eq (call : CallF) (n : Nat) (a b : ByteArray) (σ : Sto) : afun C cutPrefixD call n [(V.str a, false), (V.str b, false)] σ = cutPrefix call n a b σ := cutPrefix_eqF call n a b σ
theorem cutPrefix_lim {n : Nat} {a : ByteArray} {b : ByteArray} {b0 b1 : Bool} {σ : Sto} {r : Res} (h : cutPrefix (lim C) n a b σ = some r) : lim C 44 [(V.str a, b0), (V.str b, b1)] σ = some r :=
 lim_of (d := cutPrefixD) (by kernel_rfl) (by kernel_rfl) n (show afun C cutPrefixD (lim C) n [(V.str a, false), (V.str b, false)] σ = some r from (cutPrefix_eq (lim C) n a b σ).trans h)
noncomputable def atoiF (call : CallF) (b : ByteArray) (σ : Sto) : Option Res :=
 callK call 68 [(V.str b, false)] σ 2 (fun a c =>
 (V.ifaceNil (getD a 1 cellD).1).bind fun b4 =>
 bif (!b4) then
 callK call 69 [(V.str ⟨#[65, 116, 111, 105]⟩, false), (V.str b, false), ((V.int .i64 (0 : Int)), false), ((V.int .i64 (0 : Int)), false), ((getD a 1 cellD).1, false)] c 1 (fun d e =>
 some (.ret [((getD a 0 cellD).1, false), ((getD d 0 cellD).1, false)], e)) pnK
 else
 some (.ret [((getD a 0 cellD).1, false), (V.nilIface, false)], c)) pnK
noncomputable def atoi (call : CallF) (n : Nat) (a : ByteArray) (σ : Sto) : Option Res := atoiF call a σ
theorem atoi_eqF (call : CallF) (n : Nat) (a : ByteArray) (σ : Sto) : afun C atoiD call n [(V.str a, false)] σ =
  atoiF call a σ := by kernel_rfl
theorem atoi_eq (call : CallF) (n : Nat) (a : ByteArray) (σ : Sto) : afun C atoiD call n [(V.str a, false)] σ = atoi call n a σ := atoi_eqF call n a σ
theorem atoi_lim {n : Nat} {a : ByteArray} {b0 : Bool} {σ : Sto} {r : Res} (h : atoi (lim C) n a σ = some r) : lim C 45 [(V.str a, b0)] σ = some r :=
 lim_of (d := atoiD) (by kernel_rfl) (by kernel_rfl) n (show afun C atoiD (lim C) n [(V.str a, false)] σ = some r from (atoi_eq (lim C) n a σ).trans h)
noncomputable def sfailF (call : CallF) (a : Nat) (σ : Sto) : Option Res :=
 (memGet σ (V.ptr 84 a 3) false 1).bind fun m1 =>
 (grd ((V.fits m1 false 1 && true))).bind fun _ =>
 some (.pan (V.iface 58 (V.ptr 31 (List.length σ) 0)), (σ ++ [[((V.int .i64 (1 : Int)), false), (m1, false)]]))
noncomputable def sfail (call : CallF) (n a : Nat) (σ : Sto) : Option Res := sfailF call a σ
theorem sfail_eqF (call : CallF) (n a : Nat) (σ : Sto) : afun C sfailD call n [(V.ptr 84 a 0, false)] σ =
  sfailF call a σ := by kernel_rfl
theorem sfail_eq (call : CallF) (n a : Nat) (σ : Sto) : afun C sfailD call n [(V.ptr 84 a 0, false)] σ = sfail call n a σ := sfail_eqF call n a σ
theorem sfail_lim {n : Nat} {a : Nat} {b0 : Bool} {σ : Sto} {r : Res} (h : sfail (lim C) n a σ = some r) : lim C 46 [(V.ptr 84 a 0, b0)] σ = some r :=
 lim_of (d := sfailD) (by kernel_rfl) (by kernel_rfl) n (show afun C sfailD (lim C) n [(V.ptr 84 a 0, false)] σ = some r from (sfail_eq (lim C) n a σ).trans h)
noncomputable def stakeF (call : CallF) (a : Nat) (b : ByteArray) (σ : Sto) : Option Res :=
 (memGet σ (V.ptr 84 a 2) false 1).bind fun m1 =>
 (V.asStr m1).bind fun s2 =>
 bif (!(s2.toList == b.toList)) then
 callK call 46 [(V.ptr 84 a 0, false)] σ 0 (fun f c =>
 callK call 43 [(V.ptr 84 a 0, false)] c 0 (fun g d =>
 some (.ret [], d)) pnK) pnK
 else
 callK call 43 [(V.ptr 84 a 0, false)] σ 0 (fun h e =>
 some (.ret [], e)) pnK
noncomputable def stake (call : CallF) (n a : Nat) (b : ByteArray) (σ : Sto) : Option Res := stakeF call a b σ
theorem stake_eqF (call : CallF) (n a : Nat) (b : ByteArray) (σ : Sto) : afun C stakeD call n [(V.ptr 84 a 0, false), (V.str b, false)] σ =
  stakeF call a b σ := by kernel_rfl
theorem stake_eq (call : CallF) (n a : Nat) (b : ByteArray) (σ : Sto) : afun C stakeD call n [(V.ptr 84 a 0, false), (V.str b, false)] σ = stake call n a b σ := stake_eqF call n a b σ
theorem stake_lim {n : Nat} {a : Nat} {b : ByteArray} {b0 b1 : Bool} {σ : Sto} {r : Res} (h : stake (lim C) n a b σ = some r) : lim C 47 [(V.ptr 84 a 0, b0), (V.str b, b1)] σ = some r :=
 lim_of (d := stakeD) (by kernel_rfl) (by kernel_rfl) n (show afun C stakeD (lim C) n [(V.ptr 84 a 0, false), (V.str b, false)] σ = some r from (stake_eq (lim C) n a b σ).trans h)
noncomputable def indexk0 : List Nat := [0, 1, 7, 8]
noncomputable def indexs0 (call : CallF) (rec0 : LL → ByteArray → Int → Int → RR) (b : LL) (c : ByteArray) (d a : Int) (σ : Sto) : Option Res :=
 bif (decide (a < d)) then
 (grd (decide (0 ≤ a) && decide (a < b.length))).bind fun _ =>
 (V.asStr (getD (getD b a.toNat []) 0 V.any)).bind fun s1 =>
 bif (c.toList == s1.toList) then
 some (.ret [(V.int .i64 a, false)], σ)
 else
 rec0 b c d (wrap .i64 (a + (1 : Int))) σ
 else
 some (.ret [((V.int .i64 (-1 : Int)), false)], σ)
noncomputable def indexl0 (call : CallF) (n : Nat) : Nat → LL → ByteArray → Int → Int → RR
 | 0 => fun _ _ _ _ _ => none
 | m + 1 => indexs0 call (indexl0 call n m)
noncomputable def indext0 (a : LL) (b : ByteArray) (c d : Int) (σ : Sto) : St := ⟨[.val (V.slice 1 9 a) false, .val (V.str b) false] ++ dd 5 ([.val (V.int .i64 c) false, .val (V.int .i64 d) false] ++ dd 10 []), nn 19 [], σ⟩
noncomputable def indexF (call : CallF) (L0 : LL → ByteArray → Int → Int → RR) (a : LL) (b : ByteArray) (σ : Sto) : Option Res :=
 L0 a b (a.length : Int) (0 : Int) σ
noncomputable def index (call : CallF) (n : Nat) (a : LL) (b : ByteArray) (σ : Sto) : Option Res := indexF call (indexl0 call n n) a b σ
theorem indexs0_eq (call : CallF) (n : Nat) (F0 : St → Option Res) (a : LL) (b : ByteArray) (c d : Int) (σ : Sto) :
  aexec C indexH call n (cp [0,0,1,0,1] indexC) 0 (indext0 a b c d σ) (kloop indexk0 F0 (kblk 0 (kseq (fun st' => aexec C indexH call n (codeR (codeR indexC)) 0 st' (kfin C indexD)) (kfin C indexD)))) =
  indexs0 call (fun a b c d σ => F0 (indext0 a b c d σ)) a b c d σ := by kernel_rfl
theorem indexl0_eq (call : CallF) (n : Nat) : ∀ (m : Nat) (a : LL) (b : ByteArray) (c d : Int) (σ : Sto),
  aloop (fun st K => aexec C indexH call n (cp [0,0,1,0,1] indexC) 0 st K) indexk0 m (indext0 a b c d σ) (kblk 0 (kseq (fun st' => aexec C indexH call n (codeR (codeR indexC)) 0 st' (kfin C indexD)) (kfin C indexD))) = indexl0 call n m a b c d σ
 | 0, a, b, c, d, σ => rfl
 | m + 1, a, b, c, d, σ => by
  rw [aloop, indexs0_eq]
  simp only [indexl0_eq call n m]
  rfl
theorem index_eqF (call : CallF) (n : Nat) (a : LL) (b : ByteArray) (σ : Sto) : afun C indexD call n [(V.slice 1 9 a, false), (V.str b, false)] σ =
  indexF call (fun a b c d σ => aloop (fun st K => aexec C indexH call n (cp [0,0,1,0,1] indexC) 0 st K) indexk0 n (indext0 a b c d σ) (kblk 0 (kseq (fun st' => aexec C indexH call n (codeR (codeR indexC)) 0 st' (kfin C indexD)) (kfin C indexD)))) a b σ := by kernel_rfl
theorem index_eq (call : CallF) (n : Nat) (a : LL) (b : ByteArray) (σ : Sto) : afun C indexD call n [(V.slice 1 9 a, false), (V.str b, false)] σ = index call n a b σ := by
 rw [index_eqF]
 simp only [indexl0_eq]
 rfl
theorem index_lim {n : Nat} {a : LL} {b : ByteArray} {b0 b1 : Bool} {σ : Sto} {r : Res} (h : index (lim C) n a b σ = some r) : lim C 48 [(V.slice 1 9 a, b0), (V.str b, b1)] σ = some r :=
 lim_of (d := indexD) (by kernel_rfl) (by kernel_rfl) n (show afun C indexD (lim C) n [(V.slice 1 9 a, false), (V.str b, false)] σ = some r from (index_eq (lim C) n a b σ).trans h)
noncomputable def slevelF (call : CallF) (a : Nat) (σ : Sto) : Option Res :=
 (memGet σ (V.ptr 84 a 2) false 1).bind fun m1 =>
 (V.asStr m1).bind fun s2 =>
 bif (s2.toList == (ByteArray.mk #[48]).toList) then
 callK call 43 [(V.ptr 84 a 0, false)] σ 0 (fun a5 k =>
 some (.ret [((V.agg [(V.int .i64 (0 : Int)), V.str ⟨#[]⟩, V.slice 3 74 []]), false)], k)) pnK
 else
 (V.asStr m1).bind fun s6 =>
 bif (s6.toList == (ByteArray.mk #[40]).toList) then
 callK call 43 [(V.ptr 84 a 0, false)] σ 0 (fun a6 b =>
 (memGet b (V.ptr 84 a 2) false 1).bind fun m10 =>
 (V.asStr m10).bind fun s11 =>
 bif (s11.toList == (ByteArray.mk #[115]).toList) then
 callK call 43 [(V.ptr 84 a 0, false)] b 0 (fun a7 o =>
 callK call 49 [(V.ptr 84 a 0, false)] o 1 (fun c p =>
 (grd ((V.fits (getD c 0 cellD).1 true 3 && true))).bind fun _ =>
 (grd (room (0 + 1))).bind fun _ =>
 callK call 47 [(V.ptr 84 a 0, false), (V.str ⟨#[41]⟩, false)] p 0 (fun a8 q =>
 some (.ret [((V.agg [(V.int .i64 (1 : Int)), V.str ⟨#[]⟩, V.slice 3 74 [[V.cell (getD c 0 cellD).1 0, V.cell (getD c 0 cellD).1 1, V.cell (getD c 0 cellD).1 2]]]), false)], q)) pnK) pnK) pnK
 else
 (V.asStr m10).bind fun s21 =>
 bif (s21.toList == (ByteArray.mk #[109, 97, 120]).toList) then
 callK call 43 [(V.ptr 84 a 0, false)] b 0 (fun a9 r =>
 callK call 49 [(V.ptr 84 a 0, false)] r 1 (fun d s =>
 (grd ((V.fits (getD d 0 cellD).1 true 3 && true))).bind fun _ =>
 (grd (room (0 + 1))).bind fun _ =>
 callK call 49 [(V.ptr 84 a 0, false)] s 1 (fun e t =>
 (grd ((V.fits (getD e 0 cellD).1 true 3 && true))).bind fun _ =>
 (grd (room (1 + 1))).bind fun _ =>
 callK call 47 [(V.ptr 84 a 0, false), (V.str ⟨#[41]⟩, false)] t 0 (fun c0 u =>
 some (.ret [((V.agg [(V.int .i64 (2 : Int)), V.str ⟨#[]⟩, V.slice 3 74 [[V.cell (getD d 0 cellD).1 0, V.cell (getD d 0 cellD).1 1, V.cell (getD d 0 cellD).1 2], [V.cell (getD e 0 cellD).1 0, V.cell (getD e 0 cellD).1 1, V.cell (getD e 0 cellD).1 2]]]), false)], u)) pnK) pnK) pnK) pnK
 else
 (V.asStr m10).bind fun s34 =>
 bif (s34.toList == (ByteArray.mk #[105, 109, 97, 120]).toList) then
 callK call 43 [(V.ptr 84 a 0, false)] b 0 (fun c1 v =>
 callK call 49 [(V.ptr 84 a 0, false)] v 1 (fun f w =>
 (grd ((V.fits (getD f 0 cellD).1 true 3 && true))).bind fun _ =>
 (grd (room (0 + 1))).bind fun _ =>
 callK call 49 [(V.ptr 84 a 0, false)] w 1 (fun g x =>
 (grd ((V.fits (getD g 0 cellD).1 true 3 && true))).bind fun _ =>
 (grd (room (1 + 1))).bind fun _ =>
 callK call 47 [(V.ptr 84 a 0, false), (V.str ⟨#[41]⟩, false)] x 0 (fun c2 y =>
 some (.ret [((V.agg [(V.int .i64 (3 : Int)), V.str ⟨#[]⟩, V.slice 3 74 [[V.cell (getD f 0 cellD).1 0, V.cell (getD f 0 cellD).1 1, V.cell (getD f 0 cellD).1 2], [V.cell (getD g 0 cellD).1 0, V.cell (getD g 0 cellD).1 1, V.cell (getD g 0 cellD).1 2]]]), false)], y)) pnK) pnK) pnK) pnK
 else
 callK call 46 [(V.ptr 84 a 0, false)] b 0 (fun c3 z =>
 callK call 43 [(V.ptr 84 a 0, false)] z 0 (fun c4 a0 =>
 callK call 49 [(V.ptr 84 a 0, false)] a0 1 (fun h a1 =>
 (grd ((V.fits (getD h 0 cellD).1 true 3 && true))).bind fun _ =>
 (grd (room (0 + 1))).bind fun _ =>
 callK call 49 [(V.ptr 84 a 0, false)] a1 1 (fun i a2 =>
 (grd ((V.fits (getD i 0 cellD).1 true 3 && true))).bind fun _ =>
 (grd (room (1 + 1))).bind fun _ =>
 callK call 47 [(V.ptr 84 a 0, false), (V.str ⟨#[41]⟩, false)] a2 0 (fun c5 a3 =>
 some (.ret [((V.agg [(V.int .i64 (0 : Int)), V.str ⟨#[]⟩, V.slice 3 74 [[V.cell (getD h 0 cellD).1 0, V.cell (getD h 0 cellD).1 1, V.cell (getD h 0 cellD).1 2], [V.cell (getD i 0 cellD).1 0, V.cell (getD i 0 cellD).1 1, V.cell (getD i 0 cellD).1 2]]]), false)], a3)) pnK) pnK) pnK) pnK) pnK) pnK
 else
 callK call 50 [(V.ptr 84 a 0, false)] σ 1 (fun j a4 =>
 (grd ((V.fits (getD j 0 cellD).1 false 1 && true))).bind fun _ =>
 some (.ret [((V.agg [(V.int .i64 (4 : Int)), (getD j 0 cellD).1, V.slice 3 74 []]), false)], a4)) pnK
noncomputable def slevel (call : CallF) (n a : Nat) (σ : Sto) : Option Res := slevelF call a σ
theorem slevel_eqF (call : CallF) (n a : Nat) (σ : Sto) : afun C slevelD call n [(V.ptr 84 a 0, false)] σ =
  slevelF call a σ := by kernel_rfl
theorem slevel_eq (call : CallF) (n a : Nat) (σ : Sto) : afun C slevelD call n [(V.ptr 84 a 0, false)] σ = slevel call n a σ := slevel_eqF call n a σ
theorem slevel_lim {n : Nat} {a : Nat} {b0 : Bool} {σ : Sto} {r : Res} (h : slevel (lim C) n a σ = some r) : lim C 49 [(V.ptr 84 a 0, b0)] σ = some r :=
 lim_of (d := slevelD) (by kernel_rfl) (by kernel_rfl) n (show afun C slevelD (lim C) n [(V.ptr 84 a 0, false)] σ = some r from (slevel_eq (lim C) n a σ).trans h)
noncomputable def snameF (call : CallF) (a : Nat) (σ : Sto) : Option Res :=
 (memGet σ (V.ptr 84 a 2) false 1).bind fun m1 =>
 (V.asStr m1).bind fun s2 =>
 bif (s2.toList == (ByteArray.mk #[]).toList) then
 callK call 46 [(V.ptr 84 a 0, false)] σ 0 (fun i c =>
 callK call 43 [(V.ptr 84 a 0, false)] c 0 (fun j d =>
 some (.ret [(m1, false)], d)) pnK) pnK
 else
 (V.asStr m1).bind fun s9 =>
 (grd (decide (0 ≤ (0 : Int)) && decide ((0 : Int) < s9.size))).bind fun _ =>
 callK call 64 [((V.int .u8 (byteAt s9 (Int.toNat (0 : Int)))), false)] σ 1 (fun e b =>
 (V.asBool (getD e 0 cellD).1).bind fun b13 =>
 bif (!b13) then
 callK call 46 [(V.ptr 84 a 0, false)] b 0 (fun k f =>
 callK call 43 [(V.ptr 84 a 0, false)] f 0 (fun o g =>
 some (.ret [(m1, false)], g)) pnK) pnK
 else
 callK call 43 [(V.ptr 84 a 0, false)] b 0 (fun p h =>
 some (.ret [(m1, false)], h)) pnK) pnK
noncomputable def sname (call : CallF) (n a : Nat) (σ : Sto) : Option Res := snameF call a σ
theorem sname_eqF (call : CallF) (n a : Nat) (σ : Sto) : afun C snameD call n [(V.ptr 84 a 0, false)] σ =
  snameF call a σ := by kernel_rfl
theorem sname_eq (call : CallF) (n a : Nat) (σ : Sto) : afun C snameD call n [(V.ptr 84 a 0, false)] σ = sname call n a σ := sname_eqF call n a σ
theorem sname_lim {n : Nat} {a : Nat} {b0 : Bool} {σ : Sto} {r : Res} (h : sname (lim C) n a σ = some r) : lim C 50 [(V.ptr 84 a 0, b0)] σ = some r :=
 lim_of (d := snameD) (by kernel_rfl) (by kernel_rfl) n (show afun C snameD (lim C) n [(V.ptr 84 a 0, false)] σ = some r from (sname_eq (lim C) n a σ).trans h)
end Go.Ab.Mk
end
section
set_option maxRecDepth 100000
namespace Go.Ab.Mk
open Go.Proofs Go.Ab
open List (getD)
open IntKind (wrap)
noncomputable def rtokenk0 : List Nat := [0, 5, 73, 74, 86, 87, 88, 89, 90, 91, 92, 105, 106, 107, 108, 109, 110, 120, 121, 122, 123, 124, 125, 126, 129, 130, 131, 132, 133, 134, 135, 148, 149, 150, 151, 154, 155, 156, 157, 158, 159, 160, 161, 162, 163, 164, 165, 166]
noncomputable def rtokenk1 : List Nat := [0, 5, 6]
noncomputable def rtokenk2 : List Nat := [0, 5, 6, 7, 148, 149, 150, 151, 154, 155, 156, 157, 158, 159, 160, 161, 162, 163, 164, 165, 166]
noncomputable def rtokens1 (call : CallF) (rec1 : Nat → V → Int → RR) (c : Nat) (b : V) (a : Int) (σ : Sto) : Option Res :=
 (memGet σ (V.ptr 69 c 0) false 1).bind fun m1 =>
 (V.asStr m1).bind fun s2 =>
 bif (decide (a < (s2.size : Int))) then
 (memGet σ (V.ptr 69 c 0) false 1).bind fun m3 =>
 (V.asStr m3).bind fun s4 =>
 (grd (decide (0 ≤ a) && decide (a < s4.size))).bind fun _ =>
 callK call 70 [(V.int .u8 (byteAt s4 a.toNat), false), (V.bool false, false)] σ 1 (fun e d =>
 (V.asBool (getD e 0 cellD).1).bind fun b8 =>
 bif b8 then
 rec1 c b (wrap .i64 (a + (1 : Int))) d
 else
 (V.asInt b .i64).bind fun i9 =>
 bif (decide ((wrap .i64 (a - i9)) > (40 : Int))) then
 some (.ret [(V.str ⟨#[]⟩, false), (b, false), (V.bool false, false)], d)
 else
 (memGet d (V.ptr 69 c 0) false 1).bind fun m10 =>
 (V.asStr m10).bind fun s11 =>
 (V.asInt b .i64).bind fun i12 =>
 (grd (decide (0 ≤ i12) && decide (i12 ≤ a) && decide (a ≤ s11.size))).bind fun _ =>
 some (.ret [(V.str (s11.extract i12.toNat a.toNat), false), (b, false), (V.bool true, false)], d)) pnK
 else
 (V.asInt b .i64).bind fun i13 =>
 bif (decide ((wrap .i64 (a - i13)) > (40 : Int))) then
 some (.ret [(V.str ⟨#[]⟩, false), (b, false), (V.bool false, false)], σ)
 else
 (memGet σ (V.ptr 69 c 0) false 1).bind fun m14 =>
 (V.asStr m14).bind fun s15 =>
 (V.asInt b .i64).bind fun i16 =>
 (grd (decide (0 ≤ i16) && decide (i16 ≤ a) && decide (a ≤ s15.size))).bind fun _ =>
 some (.ret [(V.str (s15.extract i16.toNat a.toNat), false), (b, false), (V.bool true, false)], σ)
noncomputable def rtokenl1 (call : CallF) (n : Nat) : Nat → Nat → V → Int → RR
 | 0 => fun _ _ _ _ => none
 | m + 1 => rtokens1 call (rtokenl1 call n m)
noncomputable def rtokent1 (a : Nat) (b : V) (c : Int) (σ : Sto) : St := ⟨[.val (V.ptr 69 a 0) false] ++ dd 4 ([.val b false, .val (V.int .i64 c) false] ++ dd 170 []), nn 177 [], σ⟩
noncomputable def rtokens2 (call : CallF) (rec2 : Nat → V → Int → Int → RR) (c : Nat) (b : V) (a d : Int) (σ : Sto) : Option Res :=
 (memGet σ (V.ptr 69 c 0) false 1).bind fun m1 =>
 (V.asStr m1).bind fun s2 =>
 bif (decide (a < (s2.size : Int))) then
 (memGet σ (V.ptr 69 c 0) false 1).bind fun m3 =>
 (V.asStr m3).bind fun s4 =>
 (grd (decide (0 ≤ a) && decide (a < s4.size))).bind fun _ =>
 bif (decide ((byteAt s4 a.toNat) ≥ (48 : Int))) then
 (memGet σ (V.ptr 69 c 0) false 1).bind fun m5 =>
 (V.asStr m5).bind fun s6 =>
 (grd (decide (0 ≤ a) && decide (a < s6.size))).bind fun _ =>
 bif (decide ((byteAt s6 a.toNat) ≤ (57 : Int))) then
 rec2 c b (wrap .i64 (a + (1 : Int))) d σ
 else
 bif (d == (35 : Int)) then
 (V.asInt b .i64).bind fun i7 =>
 bif (a == (wrap .i64 (i7 + (1 : Int)))) then
 some (.ret [(V.str ⟨#[]⟩, false), (b, false), (V.bool false, false)], σ)
 else
 bif (decide ((wrap .i64 (a - (wrap .i64 (i7 + (1 : Int))))) > (5 : Int))) then
 some (.ret [(V.str ⟨#[]⟩, false), (b, false), (V.bool false, false)], σ)
 else
 bif (decide ((wrap .i64 (a - (wrap .i64 (i7 + (1 : Int))))) > (1 : Int))) then
 (memGet σ (V.ptr 69 c 0) false 1).bind fun m8 =>
 (V.asStr m8).bind fun s9 =>
 (grd (decide (0 ≤ (wrap .i64 (i7 + (1 : Int)))) && decide ((wrap .i64 (i7 + (1 : Int))) < s9.size))).bind fun _ =>
 bif ((byteAt s9 (Int.toNat (wrap .i64 (i7 + (1 : Int))))) == (48 : Int)) then
 some (.ret [(V.str ⟨#[]⟩, false), (b, false), (V.bool false, false)], σ)
 else
 (memGet σ (V.ptr 69 c 0) false 1).bind fun m10 =>
 (V.asStr m10).bind fun s11 =>
 (V.asInt b .i64).bind fun i12 =>
 (grd (decide (0 ≤ i12) && decide (i12 ≤ a) && decide (a ≤ s11.size))).bind fun _ =>
 some (.ret [(V.str (s11.extract i12.toNat a.toNat), false), (b, false), (V.bool true, false)], σ)
 else
 (memGet σ (V.ptr 69 c 0) false 1).bind fun m13 =>
 (V.asStr m13).bind fun s14 =>
 (V.asInt b .i64).bind fun i15 =>
 (grd (decide (0 ≤ i15) && decide (i15 ≤ a) && decide (a ≤ s14.size))).bind fun _ =>
 some (.ret [(V.str (s14.extract i15.toNat a.toNat), false), (b, false), (V.bool true, false)], σ)
 else
 (V.asInt b .i64).bind fun i16 =>
 bif (a == i16) then
 some (.ret [(V.str ⟨#[]⟩, false), (b, false), (V.bool false, false)], σ)
 else
 (V.asInt b .i64).bind fun i17 =>
 bif (decide ((wrap .i64 (a - i17)) > (5 : Int))) then
 some (.ret [(V.str ⟨#[]⟩, false), (b, false), (V.bool false, false)], σ)
 else
 (V.asInt b .i64).bind fun i18 =>
 bif (decide ((wrap .i64 (a - i18)) > (1 : Int))) then
 (memGet σ (V.ptr 69 c 0) false 1).bind fun m19 =>
 (V.asStr m19).bind fun s20 =>
 (V.asInt b .i64).bind fun i21 =>
 (grd (decide (0 ≤ i21) && decide (i21 < s20.size))).bind fun _ =>
 bif ((byteAt s20 i21.toNat) == (48 : Int)) then
 some (.ret [(V.str ⟨#[]⟩, false), (b, false), (V.bool false, false)], σ)
 else
 (memGet σ (V.ptr 69 c 0) false 1).bind fun m22 =>
 (V.asStr m22).bind fun s23 =>
 (V.asInt b .i64).bind fun i24 =>
 (grd (decide (0 ≤ i24) && decide (i24 ≤ a) && decide (a ≤ s23.size))).bind fun _ =>
 some (.ret [(V.str (s23.extract i24.toNat a.toNat), false), (b, false), (V.bool true, false)], σ)
 else
 (memGet σ (V.ptr 69 c 0) false 1).bind fun m25 =>
 (V.asStr m25).bind fun s26 =>
 (V.asInt b .i64).bind fun i27 =>
 (grd (decide (0 ≤ i27) && decide (i27 ≤ a) && decide (a ≤ s26.size))).bind fun _ =>
 some (.ret [(V.str (s26.extract i27.toNat a.toNat), false), (b, false), (V.bool true, false)], σ)
 else
 bif (d == (35 : Int)) then
 (V.asInt b .i64).bind fun i28 =>
 bif (a == (wrap .i64 (i28 + (1 : Int)))) then
 some (.ret [(V.str ⟨#[]⟩, false), (b, false), (V.bool false, false)], σ)
 else
 bif (decide ((wrap .i64 (a - (wrap .i64 (i28 + (1 : Int))))) > (5 : Int))) then
 some (.ret [(V.str ⟨#[]⟩, false), (b, false), (V.bool false, false)], σ)
 else
 bif (decide ((wrap .i64 (a - (wrap .i64 (i28 + (1 : Int))))) > (1 : Int))) then
 (memGet σ (V.ptr 69 c 0) false 1).bind fun m29 =>
 (V.asStr m29).bind fun s30 =>
 (grd (decide (0 ≤ (wrap .i64 (i28 + (1 : Int)))) && decide ((wrap .i64 (i28 + (1 : Int))) < s30.size))).bind fun _ =>
 bif ((byteAt s30 (Int.toNat (wrap .i64 (i28 + (1 : Int))))) == (48 : Int)) then
 some (.ret [(V.str ⟨#[]⟩, false), (b, false), (V.bool false, false)], σ)
 else
 (memGet σ (V.ptr 69 c 0) false 1).bind fun m31 =>
 (V.asStr m31).bind fun s32 =>
 (V.asInt b .i64).bind fun i33 =>
 (grd (decide (0 ≤ i33) && decide (i33 ≤ a) && decide (a ≤ s32.size))).bind fun _ =>
 some (.ret [(V.str (s32.extract i33.toNat a.toNat), false), (b, false), (V.bool true, false)], σ)
 else
 (memGet σ (V.ptr 69 c 0) false 1).bind fun m34 =>
 (V.asStr m34).bind fun s35 =>
 (V.asInt b .i64).bind fun i36 =>
 (grd (decide (0 ≤ i36) && decide (i36 ≤ a) && decide (a ≤ s35.size))).bind fun _ =>
 some (.ret [(V.str (s35.extract i36.toNat a.toNat), false), (b, false), (V.bool true, false)], σ)
 else
 (V.asInt b .i64).bind fun i37 =>
 bif (a == i37) then
 some (.ret [(V.str ⟨#[]⟩, false), (b, false), (V.bool false, false)], σ)
 else
 (V.asInt b .i64).bind fun i38 =>
 bif (decide ((wrap .i64 (a - i38)) > (5 : Int))) then
 some (.ret [(V.str ⟨#[]⟩, false), (b, false), (V.bool false, false)], σ)
 else
 (V.asInt b .i64).bind fun i39 =>
 bif (decide ((wrap .i64 (a - i39)) > (1 : Int))) then
 (memGet σ (V.ptr 69 c 0) false 1).bind fun m40 =>
 (V.asStr m40).bind fun s41 =>
 (V.asInt b .i64).bind fun i42 =>
 (grd (decide (0 ≤ i42) && decide (i42 < s41.size))).bind fun _ =>
 bif ((byteAt s41 i42.toNat) == (48 : Int)) then
 some (.ret [(V.str ⟨#[]⟩, false), (b, false), (V.bool false, false)], σ)
 else
 (memGet σ (V.ptr 69 c 0) false 1).bind fun m43 =>
 (V.asStr m43).bind fun s44 =>
 (V.asInt b .i64).bind fun i45 =>
 (grd (decide (0 ≤ i45) && decide (i45 ≤ a) && decide (a ≤ s44.size))).bind fun _ =>
 some (.ret [(V.str (s44.extract i45.toNat a.toNat), false), (b, false), (V.bool true, false)], σ)
 else
 (memGet σ (V.ptr 69 c 0) false 1).bind fun m46 =>
 (V.asStr m46).bind fun s47 =>
 (V.asInt b .i64).bind fun i48 =>
 (grd (decide (0 ≤ i48) && decide (i48 ≤ a) && decide (a ≤ s47.size))).bind fun _ =>
 some (.ret [(V.str (s47.extract i48.toNat a.toNat), false), (b, false), (V.bool true, false)], σ)
 else
 bif (d == (35 : Int)) then
 (V.asInt b .i64).bind fun i49 =>
 bif (a == (wrap .i64 (i49 + (1 : Int)))) then
 some (.ret [(V.str ⟨#[]⟩, false), (b, false), (V.bool false, false)], σ)
 else
 bif (decide ((wrap .i64 (a - (wrap .i64 (i49 + (1 : Int))))) > (5 : Int))) then
 some (.ret [(V.str ⟨#[]⟩, false), (b, false), (V.bool false, false)], σ)
 else
 bif (decide ((wrap .i64 (a - (wrap .i64 (i49 + (1 : Int))))) > (1 : Int))) then
 (memGet σ (V.ptr 69 c 0) false 1).bind fun m50 =>
 (V.asStr m50).bind fun s51 =>
 (grd (decide (0 ≤ (wrap .i64 (i49 + (1 : Int)))) && decide ((wrap .i64 (i49 + (1 : Int))) < s51.size))).bind fun _ =>
 bif ((byteAt s51 (Int.toNat (wrap .i64 (i49 + (1 : Int))))) == (48 : Int)) then
 some (.ret [(V.str ⟨#[]⟩, false), (b, false), (V.bool false, false)], σ)
 else
 (memGet σ (V.ptr 69 c 0) false 1).bind fun m52 =>
 (V.asStr m52).bind fun s53 =>
 (V.asInt b .i64).bind fun i54 =>
 (grd (decide (0 ≤ i54) && decide (i54 ≤ a) && decide (a ≤ s53.size))).bind fun _ =>
 some (.ret [(V.str (s53.extract i54.toNat a.toNat), false), (b, false), (V.bool true, false)], σ)
 else
 (memGet σ (V.ptr 69 c 0) false 1).bind fun m55 =>
 (V.asStr m55).bind fun s56 =>
 (V.asInt b .i64).bind fun i57 =>
 (grd (decide (0 ≤ i57) && decide (i57 ≤ a) && decide (a ≤ s56.size))).bind fun _ =>
 some (.ret [(V.str (s56.extract i57.toNat a.toNat), false), (b, false), (V.bool true, false)], σ)
 else
 (V.asInt b .i64).bind fun i58 =>
 bif (a == i58) then
 some (.ret [(V.str ⟨#[]⟩, false), (b, false), (V.bool false, false)], σ)
 else
 (V.asInt b .i64).bind fun i59 =>
 bif (decide ((wrap .i64 (a - i59)) > (5 : Int))) then
 some (.ret [(V.str ⟨#[]⟩, false), (b, false), (V.bool false, false)], σ)
 else
 (V.asInt b .i64).bind fun i60 =>
 bif (decide ((wrap .i64 (a - i60)) > (1 : Int))) then
 (memGet σ (V.ptr 69 c 0) false 1).bind fun m61 =>
 (V.asStr m61).bind fun s62 =>
 (V.asInt b .i64).bind fun i63 =>
 (grd (decide (0 ≤ i63) && decide (i63 < s62.size))).bind fun _ =>
 bif ((byteAt s62 i63.toNat) == (48 : Int)) then
 some (.ret [(V.str ⟨#[]⟩, false), (b, false), (V.bool false, false)], σ)
 else
 (memGet σ (V.ptr 69 c 0) false 1).bind fun m64 =>
 (V.asStr m64).bind fun s65 =>
 (V.asInt b .i64).bind fun i66 =>
 (grd (decide (0 ≤ i66) && decide (i66 ≤ a) && decide (a ≤ s65.size))).bind fun _ =>
 some (.ret [(V.str (s65.extract i66.toNat a.toNat), false), (b, false), (V.bool true, false)], σ)
 else
 (memGet σ (V.ptr 69 c 0) false 1).bind fun m67 =>
 (V.asStr m67).bind fun s68 =>
 (V.asInt b .i64).bind fun i69 =>
 (grd (decide (0 ≤ i69) && decide (i69 ≤ a) && decide (a ≤ s68.size))).bind fun _ =>
 some (.ret [(V.str (s68.extract i69.toNat a.toNat), false), (b, false), (V.bool true, false)], σ)
noncomputable def rtokenl2 (call : CallF) (n : Nat) : Nat → Nat → V → Int → Int → RR
 | 0 => fun _ _ _ _ _ => none
 | m + 1 => rtokens2 call (rtokenl2 call n m)
noncomputable def rtokent2 (a : Nat) (b : V) (c d : Int) (σ : Sto) : St := ⟨[.val (V.ptr 69 a 0) false] ++ dd 4 ([.val b false, .val (V.int .i64 c) false, .val (V.int .u8 d) false] ++ dd 169 []), nn 177 [], σ⟩
noncomputable def rtokens0 (call : CallF) (L1 : Nat → V → Int → RR) (L2 : Nat → V → Int → Int → RR) (rec0 : Nat → V → RR) (b : Nat) (a : V) (σ : Sto) : Option Res :=
 (memGet σ (V.ptr 69 b 0) false 1).bind fun m1 =>
 (V.asStr m1).bind fun s2 =>
 (V.asInt a .i64).bind fun i3 =>
 bif (decide (i3 < (s2.size : Int))) then
 (memGet σ (V.ptr 69 b 0) false 1).bind fun m4 =>
 (V.asStr m4).bind fun s5 =>
 (V.asInt a .i64).bind fun i6 =>
 (grd (decide (0 ≤ i6) && decide (i6 < s5.size))).bind fun _ =>
 bif ((byteAt s5 i6.toNat) == (32 : Int)) then
 (V.asInt a .i64).bind fun i7 =>
 rec0 b (V.int .i64 (wrap .i64 (i7 + (1 : Int)))) σ
 else
 (memGet σ (V.ptr 69 b 0) false 1).bind fun m8 =>
 (V.asStr m8).bind fun s9 =>
 (V.asInt a .i64).bind fun i10 =>
 (grd (decide (0 ≤ i10) && decide (i10 < s9.size))).bind fun _ =>
 bif ((byteAt s9 i10.toNat) == (9 : Int)) then
 (V.asInt a .i64).bind fun i11 =>
 rec0 b (V.int .i64 (wrap .i64 (i11 + (1 : Int)))) σ
 else
 (memGet σ (V.ptr 69 b 0) false 1).bind fun m12 =>
 (V.asStr m12).bind fun s13 =>
 (V.asInt a .i64).bind fun i14 =>
 (grd (decide (0 ≤ i14) && decide (i14 < s13.size))).bind fun _ =>
 bif ((byteAt s13 i14.toNat) == (10 : Int)) then
 (V.asInt a .i64).bind fun i15 =>
 rec0 b (V.int .i64 (wrap .i64 (i15 + (1 : Int)))) σ
 else
 (memGet σ (V.ptr 69 b 0) false 1).bind fun m16 =>
 (V.asStr m16).bind fun s17 =>
 (V.asInt a .i64).bind fun i18 =>
 bif (i18 == (s17.size : Int)) then
 some (.ret [(V.str ⟨#[]⟩, false), (a, false), (V.bool true, false)], σ)
 else
 (V.asInt a .i64).bind fun i19 =>
 (memGet σ (V.ptr 69 b 0) false 1).bind fun m20 =>
 (V.asStr m20).bind fun s21 =>
 (V.asInt a .i64).bind fun i22 =>
 (grd (decide (0 ≤ i22) && decide (i22 < s21.size))).bind fun _ =>
 callK call 70 [(V.int .u8 (byteAt s21 i22.toNat), false), (V.bool true, false)] σ 1 (fun e c =>
 bif ((byteAt s21 i22.toNat) == (40 : Int)) then
 (memGet c (V.ptr 69 b 0) false 1).bind fun m26 =>
 (V.asStr m26).bind fun s27 =>
 (V.asInt a .i64).bind fun i28 =>
 (grd (decide (0 ≤ i28) && decide (i28 ≤ (wrap .i64 (i19 + (1 : Int)))) && decide ((wrap .i64 (i19 + (1 : Int))) ≤ s27.size))).bind fun _ =>
 some (.ret [((V.str (s27.extract i28.toNat (Int.toNat (wrap .i64 (i19 + (1 : Int)))))), false), (a, false), (V.bool true, false)], c)
 else
 bif ((byteAt s21 i22.toNat) == (41 : Int)) then
 (memGet c (V.ptr 69 b 0) false 1).bind fun m29 =>
 (V.asStr m29).bind fun s30 =>
 (V.asInt a .i64).bind fun i31 =>
 (grd (decide (0 ≤ i31) && decide (i31 ≤ (wrap .i64 (i19 + (1 : Int)))) && decide ((wrap .i64 (i19 + (1 : Int))) ≤ s30.size))).bind fun _ =>
 some (.ret [((V.str (s30.extract i31.toNat (Int.toNat (wrap .i64 (i19 + (1 : Int)))))), false), (a, false), (V.bool true, false)], c)
 else
 (V.asBool (getD e 0 cellD).1).bind fun b32 =>
 bif b32 then
 L1 b a (wrap .i64 (i19 + (1 : Int))) c
 else
 bif ((byteAt s21 i22.toNat) == (35 : Int)) then
 L2 b a (wrap .i64 (i19 + (1 : Int))) (byteAt s21 i22.toNat) c
 else
 bif (decide ((byteAt s21 i22.toNat) ≥ (48 : Int))) then
 bif (decide ((byteAt s21 i22.toNat) ≤ (57 : Int))) then
 L2 b a (wrap .i64 (i19 + (1 : Int))) (byteAt s21 i22.toNat) c
 else
 some (.ret [(V.str ⟨#[]⟩, false), (a, false), (V.bool false, false)], c)
 else
 some (.ret [(V.str ⟨#[]⟩, false), (a, false), (V.bool false, false)], c)) pnK
 else
 (memGet σ (V.ptr 69 b 0) false 1).bind fun m33 =>
 (V.asStr m33).bind fun s34 =>
 (V.asInt a .i64).bind fun i35 =>
 bif (i35 == (s34.size : Int)) then
 some (.ret [(V.str ⟨#[]⟩, false), (a, false), (V.bool true, false)], σ)
 else
 (V.asInt a .i64).bind fun i36 =>
 (memGet σ (V.ptr 69 b 0) false 1).bind fun m37 =>
 (V.asStr m37).bind fun s38 =>
 (V.asInt a .i64).bind fun i39 =>
 (grd (decide (0 ≤ i39) && decide (i39 < s38.size))).bind fun _ =>
 callK call 70 [(V.int .u8 (byteAt s38 i39.toNat), false), (V.bool true, false)] σ 1 (fun f d =>
 bif ((byteAt s38 i39.toNat) == (40 : Int)) then
 (memGet d (V.ptr 69 b 0) false 1).bind fun m43 =>
 (V.asStr m43).bind fun s44 =>
 (V.asInt a .i64).bind fun i45 =>
 (grd (decide (0 ≤ i45) && decide (i45 ≤ (wrap .i64 (i36 + (1 : Int)))) && decide ((wrap .i64 (i36 + (1 : Int))) ≤ s44.size))).bind fun _ =>
 some (.ret [((V.str (s44.extract i45.toNat (Int.toNat (wrap .i64 (i36 + (1 : Int)))))), false), (a, false), (V.bool true, false)], d)
 else
 bif ((byteAt s38 i39.toNat) == (41 : Int)) then
 (memGet d (V.ptr 69 b 0) false 1).bind fun m46 =>
 (V.asStr m46).bind fun s47 =>
 (V.asInt a .i64).bind fun i48 =>
 (grd (decide (0 ≤ i48) && decide (i48 ≤ (wrap .i64 (i36 + (1 : Int)))) && decide ((wrap .i64 (i36 + (1 : Int))) ≤ s47.size))).bind fun _ =>
 some (.ret [((V.str (s47.extract i48.toNat (Int.toNat (wrap .i64 (i36 + (1 : Int)))))), false), (a, false), (V.bool true, false)], d)
 else
 (V.asBool (getD f 0 cellD).1).bind fun b49 =>
 bif b49 then
 L1 b a (wrap .i64 (i36 + (1 : Int))) d
 else
 bif ((byteAt s38 i39.toNat) == (35 : Int)) then
 L2 b a (wrap .i64 (i36 + (1 : Int))) (byteAt s38 i39.toNat) d
 else
 bif (decide ((byteAt s38 i39.toNat) ≥ (48 : Int))) then
 bif (decide ((byteAt s38 i39.toNat) ≤ (57 : Int))) then
 L2 b a (wrap .i64 (i36 + (1 : Int))) (byteAt s38 i39.toNat) d
 else
 some (.ret [(V.str ⟨#[]⟩, false), (a, false), (V.bool false, false)], d)
 else
 some (.ret [(V.str ⟨#[]⟩, false), (a, false), (V.bool false, false)], d)) pnK
noncomputable def rtokenl0 (call : CallF) (n : Nat) : Nat → Nat → V → RR
 | 0 => fun _ _ _ => none
 | m + 1 => rtokens0 call (rtokenl1 call n n) (rtokenl2 call n n) (rtokenl0 call n m)
noncomputable def rtokent0 (a : Nat) (b : V) (σ : Sto) : St := ⟨[.val (V.ptr 69 a 0) false] ++ dd 4 ([.val b false] ++ dd 171 []), nn 177 [], σ⟩
noncomputable def rtokenF (call : CallF) (L0 : Nat → V → RR) (a : Nat) (σ : Sto) : Option Res :=
 (memGet σ (V.ptr 69 a 1) false 1).bind fun m1 =>
 L0 a m1 σ
noncomputable def rtoken (call : CallF) (n a : Nat) (σ : Sto) : Option Res := rtokenF call (rtokenl0 call n n) a σ
theorem rtokens1_eq (call : CallF) (n : Nat) (F1 : St → Option Res) (a : Nat) (b : V) (c : Int) (σ : Sto) :
  aexec C rtokenH call n (cp [0,0,0,0,1,1,1,0,0,1,1,1,1,1,1,1] rtokenC) 0 (rtokent1 a b c σ) (kloop rtokenk1 F1 (kblk 3 (kseq (fun st' => aexec C rtokenH call n (cp [1,0,1,1,1,0,0,1,1,1,1,1,1,1] rtokenC) 0 st' (kblk 2 (kseq (fun st' => aexec C rtokenH call n (cp [1,1,1,1,1,1,1,1] rtokenC) 0 st' (kfin C rtokenD)) (kfin C rtokenD)))) (kblk 2 (kseq (fun st' => aexec C rtokenH call n (cp [1,1,1,1,1,1,1,1] rtokenC) 0 st' (kfin C rtokenD)) (kfin C rtokenD)))))) =
  rtokens1 call (fun a b c σ => F1 (rtokent1 a b c σ)) a b c σ := by kernel_rfl
theorem rtokenl1_eq (call : CallF) (n : Nat) : ∀ (m a : Nat) (b : V) (c : Int) (σ : Sto),
  aloop (fun st K => aexec C rtokenH call n (cp [0,0,0,0,1,1,1,0,0,1,1,1,1,1,1,1] rtokenC) 0 st K) rtokenk1 m (rtokent1 a b c σ) (kblk 3 (kseq (fun st' => aexec C rtokenH call n (cp [1,0,1,1,1,0,0,1,1,1,1,1,1,1] rtokenC) 0 st' (kblk 2 (kseq (fun st' => aexec C rtokenH call n (cp [1,1,1,1,1,1,1,1] rtokenC) 0 st' (kfin C rtokenD)) (kfin C rtokenD)))) (kblk 2 (kseq (fun st' => aexec C rtokenH call n (cp [1,1,1,1,1,1,1,1] rtokenC) 0 st' (kfin C rtokenD)) (kfin C rtokenD))))) = rtokenl1 call n m a b c σ
 | 0, a, b, c, σ => rfl
 | m + 1, a, b, c, σ => by
  rw [aloop, rtokens1_eq]
  simp only [rtokenl1_eq call n m]
  rfl
theorem rtokens2_eq (call : CallF) (n : Nat) (F2 : St → Option Res) (a : Nat) (b : V) (c d : Int) (σ : Sto) :
  aexec C rtokenH call n (cp [0,0,0,0,1,1,1,1,1,0,0,1,1,1,1,1,1,1] rtokenC) 0 (rtokent2 a b c d σ) (kloop rtokenk2 F2 (kblk 5 (kseq (fun st' => aexec C rtokenH call n (cp [1,0,1,1,1,1,1,0,0,1,1,1,1,1,1,1] rtokenC) 0 st' (kblk 2 (kseq (fun st' => aexec C rtokenH call n (cp [1,1,1,1,1,1,1,1] rtokenC) 0 st' (kfin C rtokenD)) (kfin C rtokenD)))) (kblk 2 (kseq (fun st' => aexec C rtokenH call n (cp [1,1,1,1,1,1,1,1] rtokenC) 0 st' (kfin C rtokenD)) (kfin C rtokenD)))))) =
  rtokens2 call (fun a b c d σ => F2 (rtokent2 a b c d σ)) a b c d σ := by kernel_rfl
theorem rtokenl2_eq (call : CallF) (n : Nat) : ∀ (m a : Nat) (b : V) (c d : Int) (σ : Sto),
  aloop (fun st K => aexec C rtokenH call n (cp [0,0,0,0,1,1,1,1,1,0,0,1,1,1,1,1,1,1] rtokenC) 0 st K) rtokenk2 m (rtokent2 a b c d σ) (kblk 5 (kseq (fun st' => aexec C rtokenH call n (cp [1,0,1,1,1,1,1,0,0,1,1,1,1,1,1,1] rtokenC) 0 st' (kblk 2 (kseq (fun st' => aexec C rtokenH call n (cp [1,1,1,1,1,1,1,1] rtokenC) 0 st' (kfin C rtokenD)) (kfin C rtokenD)))) (kblk 2 (kseq (fun st' => aexec C rtokenH call n (cp [1,1,1,1,1,1,1,1] rtokenC) 0 st' (kfin C rtokenD)) (kfin C rtokenD))))) = rtokenl2 call n m a b c d σ
 | 0, a, b, c, d, σ => rfl
 | m + 1, a, b, c, d, σ => by
  rw [aloop, rtokens2_eq]
  simp only [rtokenl2_eq call n m]
  rfl
theorem rtokens0_eq (call : CallF) (n : Nat) (F0 : St → Option Res) (a : Nat) (b : V) (σ : Sto) :
  aexec C rtokenH call n (cp [0,0,0,1,1] rtokenC) 0 (rtokent0 a b σ) (kloop rtokenk0 F0 (kblk 0 (kseq (fun st' => aexec C rtokenH call n (cp [1,1,1] rtokenC) 0 st' (kfin C rtokenD)) (kfin C rtokenD)))) =
  rtokens0 call (fun a b c σ => aloop (fun st K => aexec C rtokenH call n (cp [0,0,0,0,1,1,1,0,0,1,1,1,1,1,1,1] rtokenC) 0 st K) rtokenk1 n (rtokent1 a b c σ) (kblk 3 (kseq (fun st' => aexec C rtokenH call n (cp [1,0,1,1,1,0,0,1,1,1,1,1,1,1] rtokenC) 0 st' (kblk 2 (kseq (fun st' => aexec C rtokenH call n (cp [1,1,1,1,1,1,1,1] rtokenC) 0 st' (kfin C rtokenD)) (kfin C rtokenD)))) (kblk 2 (kseq (fun st' => aexec C rtokenH call n (cp [1,1,1,1,1,1,1,1] rtokenC) 0 st' (kfin C rtokenD)) (kfin C rtokenD)))))) (fun a b c d σ => aloop (fun st K => aexec C rtokenH call n (cp [0,0,0,0,1,1,1,1,1,0,0,1,1,1,1,1,1,1] rtokenC) 0 st K) rtokenk2 n (rtokent2 a b c d σ) (kblk 5 (kseq (fun st' => aexec C rtokenH call n (cp [1,0,1,1,1,1,1,0,0,1,1,1,1,1,1,1] rtokenC) 0 st' (kblk 2 (kseq (fun st' => aexec C rtokenH call n (cp [1,1,1,1,1,1,1,1] rtokenC) 0 st' (kfin C rtokenD)) (kfin C rtokenD)))) (kblk 2 (kseq (fun st' => aexec C rtokenH call n (cp [1,1,1,1,1,1,1,1] rtokenC) 0 st' (kfin C rtokenD)) (kfin C rtokenD)))))) (fun a b σ => F0 (rtokent0 a b σ)) a b σ := by kernel_rfl
theorem rtokenl0_eq (call : CallF) (n : Nat) : ∀ (m a : Nat) (b : V) (σ : Sto),
  aloop (fun st K => aexec C rtokenH call n (cp [0,0,0,1,1] rtokenC) 0 st K) rtokenk0 m (rtokent0 a b σ) (kblk 0 (kseq (fun st' => aexec C rtokenH call n (cp [1,1,1] rtokenC) 0 st' (kfin C rtokenD)) (kfin C rtokenD))) = rtokenl0 call n m a b σ
 | 0, a, b, σ => rfl
 | m + 1, a, b, σ => by
  rw [aloop, rtokens0_eq]
  simp only [rtokenl0_eq call n m, rtokenl1_eq, rtokenl2_eq]
  rfl
theorem rtoken_eqF (call : CallF) (n a : Nat) (σ : Sto) : afun C rtokenD call n [(V.ptr 69 a 0, false)] σ =
  rtokenF call (fun a b σ => aloop (fun st K => aexec C rtokenH call n (cp [0,0,0,1,1] rtokenC) 0 st K) rtokenk0 n (rtokent0 a b σ) (kblk 0 (kseq (fun st' => aexec C rtokenH call n (cp [1,1,1] rtokenC) 0 st' (kfin C rtokenD)) (kfin C rtokenD)))) a σ := by kernel_rfl
theorem rtoken_eq (call : CallF) (n a : Nat) (σ : Sto) : afun C rtokenD call n [(V.ptr 69 a 0, false)] σ = rtoken call n a σ := by
 rw [rtoken_eqF]
 simp only [rtokenl0_eq]
 rfl
theorem rtoken_lim {n : Nat} {a : Nat} {b0 : Bool} {σ : Sto} {r : Res} (h : rtoken (lim C) n a σ = some r) : lim C 51 [(V.ptr 69 a 0, b0)] σ = some r :=
 lim_of (d := rtokenD) (by kernel_rfl) (by kernel_rfl) n (show afun C rtokenD (lim C) n [(V.ptr 69 a 0, false)] σ = some r from (rtoken_eq (lim C) n a σ).trans h)
noncomputable def rfailF (call : CallF) (a : Nat) (b : Int) (σ : Sto) : Option Res :=
 (memGet σ (V.ptr 69 a 2) false 1).bind fun m1 =>
 (V.asInt m1 .i64).bind fun i2 =>
 bif (i2 == (0 : Int)) then
 (memSet σ (V.ptr 69 a 2) [((V.int .i64 (1 : Int)), false), (V.int .i64 b, false)]).bind fun m3 =>
 some (.ret [], m3)
 else
 some (.ret [], σ)
noncomputable def rfail (call : CallF) (n a : Nat) (b : Int) (σ : Sto) : Option Res := rfailF call a b σ
theorem rfail_eqF (call : CallF) (n a : Nat) (b : Int) (σ : Sto) : afun C rfailD call n [(V.ptr 69 a 0, false), (V.int .i64 b, false)] σ =
  rfailF call a b σ := by kernel_rfl
theorem rfail_eq (call : CallF) (n a : Nat) (b : Int) (σ : Sto) : afun C rfailD call n [(V.ptr 69 a 0, false), (V.int .i64 b, false)] σ = rfail call n a b σ := rfail_eqF call n a b σ
theorem rfail_lim {n : Nat} {a : Nat} {b : Int} {b0 b1 : Bool} {σ : Sto} {r : Res} (h : rfail (lim C) n a b σ = some r) : lim C 52 [(V.ptr 69 a 0, b0), (V.int .i64 b, b1)] σ = some r :=
 lim_of (d := rfailD) (by kernel_rfl) (by kernel_rfl) n (show afun C rfailD (lim C) n [(V.ptr 69 a 0, false), (V.int .i64 b, false)] σ = some r from (rfail_eq (lim C) n a b σ).trans h)
noncomputable def rnextF (call : CallF) (b : Nat) (σ : Sto) : Option Res :=
 callK call 51 [(V.ptr 69 b 0, false)] σ 3 (fun a c =>
 (V.asBool (getD a 2 cellD).1).bind fun b4 =>
 bif (!b4) then
 callK call 52 [(V.ptr 69 b 0, false), ((getD a 1 cellD).1, false)] c 0 (fun f d =>
 (memGet d (V.ptr 69 b 2) false 1).bind fun m8 =>
 (V.asInt m8 .i64).bind fun i9 =>
 bif (i9 != (0 : Int)) then
 some (.ret [(V.str ⟨#[]⟩, false)], d)
 else
 (V.asStr (getD a 0 cellD).1).bind fun s10 =>
 (V.asInt (getD a 1 cellD).1 .i64).bind fun i11 =>
 (memSet d (V.ptr 69 b 1) [((V.int .i64 (wrap .i64 (i11 + (s10.size : Int)))), false)]).bind fun m12 =>
 some (.ret [((getD a 0 cellD).1, false)], m12)) pnK
 else
 (V.asStr (getD a 0 cellD).1).bind fun s13 =>
 bif (s13.toList == (ByteArray.mk #[]).toList) then
 callK call 52 [(V.ptr 69 b 0, false), ((getD a 1 cellD).1, false)] c 0 (fun g e =>
 (memGet e (V.ptr 69 b 2) false 1).bind fun m17 =>
 (V.asInt m17 .i64).bind fun i18 =>
 bif (i18 != (0 : Int)) then
 some (.ret [(V.str ⟨#[]⟩, false)], e)
 else
 (V.asStr (getD a 0 cellD).1).bind fun s19 =>
 (V.asInt (getD a 1 cellD).1 .i64).bind fun i20 =>
 (memSet e (V.ptr 69 b 1) [((V.int .i64 (wrap .i64 (i20 + (s19.size : Int)))), false)]).bind fun m21 =>
 some (.ret [((getD a 0 cellD).1, false)], m21)) pnK
 else
 (memGet c (V.ptr 69 b 2) false 1).bind fun m22 =>
 (V.asInt m22 .i64).bind fun i23 =>
 bif (i23 != (0 : Int)) then
 some (.ret [(V.str ⟨#[]⟩, false)], c)
 else
 (V.asStr (getD a 0 cellD).1).bind fun s24 =>
 (V.asInt (getD a 1 cellD).1 .i64).bind fun i25 =>
 (memSet c (V.ptr 69 b 1) [((V.int .i64 (wrap .i64 (i25 + (s24.size : Int)))), false)]).bind fun m26 =>
 some (.ret [((getD a 0 cellD).1, false)], m26)) pnK
noncomputable def rnext (call : CallF) (n a : Nat) (σ : Sto) : Option Res := rnextF call a σ
theorem rnext_eqF (call : CallF) (n a : Nat) (σ : Sto) : afun C rnextD call n [(V.ptr 69 a 0, false)] σ =
  rnextF call a σ := by kernel_rfl
theorem rnext_eq (call : CallF) (n a : Nat) (σ : Sto) : afun C rnextD call n [(V.ptr 69 a 0, false)] σ = rnext call n a σ := rnext_eqF call n a σ
theorem rnext_lim {n : Nat} {a : Nat} {b0 : Bool} {σ : Sto} {r : Res} (h : rnext (lim C) n a σ = some r) : lim C 53 [(V.ptr 69 a 0, b0)] σ = some r :=
 lim_of (d := rnextD) (by kernel_rfl) (by kernel_rfl) n (show afun C rnextD (lim C) n [(V.ptr 69 a 0, false)] σ = some r from (rnext_eq (lim C) n a σ).trans h)
noncomputable def numberk0 : List Nat := [0, 3, 4]
noncomputable def numbers0 (call : CallF) (rec0 : ByteArray → Int → Int → RR) (b : ByteArray) (c a : Int) (σ : Sto) : Option Res :=
 bif (decide (a < (b.size : Int))) then
 (grd (decide (0 ≤ a) && decide (a < b.size))).bind fun _ =>
 rec0 b (wrap .i64 ((wrap .i64 ((10 : Int) * c)) + (wrap .i64 ((IntKind.wrap .u8 ((byteAt b a.toNat) - (48 : Int))))))) (wrap .i64 (a + (1 : Int))) σ
 else
 some (.ret [(V.int .i64 c, false)], σ)
noncomputable def numberl0 (call : CallF) (n : Nat) : Nat → ByteArray → Int → Int → RR
 | 0 => fun _ _ _ _ => none
 | m + 1 => numbers0 call (numberl0 call n m)
noncomputable def numbert0 (a : ByteArray) (b c : Int) (σ : Sto) : St := ⟨[.val (V.str a) false, .dead, .dead, .val (V.int .i64 b) false, .val (V.int .i64 c) false] ++ dd 15 [], nn 20 [], σ⟩
noncomputable def numberF (call : CallF) (L0 : ByteArray → Int → Int → RR) (a : ByteArray) (σ : Sto) : Option Res :=
 L0 a (0 : Int) (0 : Int) σ
noncomputable def number (call : CallF) (n : Nat) (a : ByteArray) (σ : Sto) : Option Res := numberF call (numberl0 call n n) a σ
theorem numbers0_eq (call : CallF) (n : Nat) (F0 : St → Option Res) (a : ByteArray) (b c : Int) (σ : Sto) :
  aexec C numberH call n (cp [0,0,1,0,1,1] numberC) 0 (numbert0 a b c σ) (kloop numberk0 F0 (kblk 0 (kseq (fun st' => aexec C numberH call n (cp [1,1,1] numberC) 0 st' (kfin C numberD)) (kfin C numberD)))) =
  numbers0 call (fun a b c σ => F0 (numbert0 a b c σ)) a b c σ := by kernel_rfl
theorem numberl0_eq (call : CallF) (n : Nat) : ∀ (m : Nat) (a : ByteArray) (b c : Int) (σ : Sto),
  aloop (fun st K => aexec C numberH call n (cp [0,0,1,0,1,1] numberC) 0 st K) numberk0 m (numbert0 a b c σ) (kblk 0 (kseq (fun st' => aexec C numberH call n (cp [1,1,1] numberC) 0 st' (kfin C numberD)) (kfin C numberD))) = numberl0 call n m a b c σ
 | 0, a, b, c, σ => rfl
 | m + 1, a, b, c, σ => by
  rw [aloop, numbers0_eq]
  simp only [numberl0_eq call n m]
  rfl
theorem number_eqF (call : CallF) (n : Nat) (a : ByteArray) (σ : Sto) : afun C numberD call n [(V.str a, false)] σ =
  numberF call (fun a b c σ => aloop (fun st K => aexec C numberH call n (cp [0,0,1,0,1,1] numberC) 0 st K) numberk0 n (numbert0 a b c σ) (kblk 0 (kseq (fun st' => aexec C numberH call n (cp [1,1,1] numberC) 0 st' (kfin C numberD)) (kfin C numberD)))) a σ := by kernel_rfl
theorem number_eq (call : CallF) (n : Nat) (a : ByteArray) (σ : Sto) : afun C numberD call n [(V.str a, false)] σ = number call n a σ := by
 rw [number_eqF]
 simp only [numberl0_eq]
 rfl
theorem number_lim {n : Nat} {a : ByteArray} {b0 : Bool} {σ : Sto} {r : Res} (h : number (lim C) n a σ = some r) : lim C 54 [(V.str a, b0)] σ = some r :=
 lim_of (d := numberD) (by kernel_rfl) (by kernel_rfl) n (show afun C numberD (lim C) n [(V.str a, false)] σ = some r from (number_eq (lim C) n a σ).trans h)
noncomputable def rlevelF (call : CallF) (a : Nat) (σ : Sto) : Option Res :=
 callK call 51 [(V.ptr 69 a 0, false)] σ 3 (fun b k =>
 callK call 71 [((getD b 0 cellD).1, false)] k 1 (fun o c =>
 (memGet c (V.ptr 69 a 2) false 1).bind fun m7 =>
 (V.asInt m7 .i64).bind fun i8 =>
 bif (i8 != (0 : Int)) then
 some (.ret [((V.agg [(V.int .i64 (0 : Int)), V.str ⟨#[]⟩, V.slice 3 74 []]), false)], c)
 else
 (V.asStr (getD b 0 cellD).1).bind fun s9 =>
 bif (s9.toList == (ByteArray.mk #[48]).toList) then
 callK call 53 [(V.ptr 69 a 0, false)] c 1 (fun a5 p =>
 some (.ret [((V.agg [(V.int .i64 (0 : Int)), V.str ⟨#[]⟩, V.slice 3 74 []]), false)], p)) pnK
 else
 (V.asBool (getD o 0 cellD).1).bind fun b13 =>
 bif b13 then
 callK call 53 [(V.ptr 69 a 0, false)] c 1 (fun a6 q =>
 (grd ((V.fits (getD b 0 cellD).1 false 1 && true))).bind fun _ =>
 some (.ret [((V.agg [(V.int .i64 (4 : Int)), (getD b 0 cellD).1, V.slice 3 74 []]), false)], q)) pnK
 else
 (V.asStr (getD b 0 cellD).1).bind fun s17 =>
 bif (s17.toList == (ByteArray.mk #[40]).toList) then
 callK call 53 [(V.ptr 69 a 0, false)] c 1 (fun a7 r =>
 callK call 51 [(V.ptr 69 a 0, false)] r 3 (fun d e =>
 (V.asStr (getD d 0 cellD).1).bind fun s24 =>
 bif (s24.toList == (ByteArray.mk #[115]).toList) then
 callK call 53 [(V.ptr 69 a 0, false)] e 1 (fun a8 s =>
 callK call 55 [(V.ptr 69 a 0, false)] s 1 (fun f t =>
 (grd ((V.fits (getD f 0 cellD).1 true 3 && true))).bind fun _ =>
 (grd (room (0 + 1))).bind fun _ =>
 callK call 58 [(V.ptr 69 a 0, false), (V.str ⟨#[41]⟩, false)] t 0 (fun a9 u =>
 some (.ret [((V.agg [(V.int .i64 (1 : Int)), V.str ⟨#[]⟩, V.slice 3 74 [[V.cell (getD f 0 cellD).1 0, V.cell (getD f 0 cellD).1 1, V.cell (getD f 0 cellD).1 2]]]), false)], u)) pnK) pnK) pnK
 else
 (V.asStr (getD d 0 cellD).1).bind fun s34 =>
 bif (s34.toList == (ByteArray.mk #[109, 97, 120]).toList) then
 callK call 53 [(V.ptr 69 a 0, false)] e 1 (fun c0 v =>
 callK call 55 [(V.ptr 69 a 0, false)] v 1 (fun g w =>
 (grd ((V.fits (getD g 0 cellD).1 true 3 && true))).bind fun _ =>
 (grd (room (0 + 1))).bind fun _ =>
 callK call 55 [(V.ptr 69 a 0, false)] w 1 (fun h x =>
 (grd ((V.fits (getD h 0 cellD).1 true 3 && true))).bind fun _ =>
 (grd (room (1 + 1))).bind fun _ =>
 callK call 58 [(V.ptr 69 a 0, false), (V.str ⟨#[41]⟩, false)] x 0 (fun c1 y =>
 some (.ret [((V.agg [(V.int .i64 (2 : Int)), V.str ⟨#[]⟩, V.slice 3 74 [[V.cell (getD g 0 cellD).1 0, V.cell (getD g 0 cellD).1 1, V.cell (getD g 0 cellD).1 2], [V.cell (getD h 0 cellD).1 0, V.cell (getD h 0 cellD).1 1, V.cell (getD h 0 cellD).1 2]]]), false)], y)) pnK) pnK) pnK) pnK
 else
 (V.asStr (getD d 0 cellD).1).bind fun s47 =>
 bif (s47.toList == (ByteArray.mk #[105, 109, 97, 120]).toList) then
 callK call 53 [(V.ptr 69 a 0, false)] e 1 (fun c2 z =>
 callK call 55 [(V.ptr 69 a 0, false)] z 1 (fun i a0 =>
 (grd ((V.fits (getD i 0 cellD).1 true 3 && true))).bind fun _ =>
 (grd (room (0 + 1))).bind fun _ =>
 callK call 55 [(V.ptr 69 a 0, false)] a0 1 (fun j a1 =>
 (grd ((V.fits (getD j 0 cellD).1 true 3 && true))).bind fun _ =>
 (grd (room (1 + 1))).bind fun _ =>
 callK call 58 [(V.ptr 69 a 0, false), (V.str ⟨#[41]⟩, false)] a1 0 (fun c3 a2 =>
 some (.ret [((V.agg [(V.int .i64 (3 : Int)), V.str ⟨#[]⟩, V.slice 3 74 [[V.cell (getD i 0 cellD).1 0, V.cell (getD i 0 cellD).1 1, V.cell (getD i 0 cellD).1 2], [V.cell (getD j 0 cellD).1 0, V.cell (getD j 0 cellD).1 1, V.cell (getD j 0 cellD).1 2]]]), false)], a2)) pnK) pnK) pnK) pnK
 else
 callK call 52 [(V.ptr 69 a 0, false), ((getD d 1 cellD).1, false)] e 0 (fun c4 a3 =>
 some (.ret [((V.agg [(V.int .i64 (0 : Int)), V.str ⟨#[]⟩, V.slice 3 74 []]), false)], a3)) pnK) pnK) pnK
 else
 callK call 52 [(V.ptr 69 a 0, false), ((getD b 1 cellD).1, false)] c 0 (fun c5 a4 =>
 some (.ret [((V.agg [(V.int .i64 (0 : Int)), V.str ⟨#[]⟩, V.slice 3 74 []]), false)], a4)) pnK) pnK) pnK
noncomputable def rlevel (call : CallF) (n a : Nat) (σ : Sto) : Option Res := rlevelF call a σ
theorem rlevel_eqF (call : CallF) (n a : Nat) (σ : Sto) : afun C rlevelD call n [(V.ptr 69 a 0, false)] σ =
  rlevelF call a σ := by kernel_rfl
theorem rlevel_eq (call : CallF) (n a : Nat) (σ : Sto) : afun C rlevelD call n [(V.ptr 69 a 0, false)] σ = rlevel call n a σ := rlevel_eqF call n a σ
theorem rlevel_lim {n : Nat} {a : Nat} {b0 : Bool} {σ : Sto} {r : Res} (h : rlevel (lim C) n a σ = some r) : lim C 55 [(V.ptr 69 a 0, b0)] σ = some r :=
 lim_of (d := rlevelD) (by kernel_rfl) (by kernel_rfl) n (show afun C rlevelD (lim C) n [(V.ptr 69 a 0, false)] σ = some r from (rlevel_eq (lim C) n a σ).trans h)
noncomputable def rnameF (call : CallF) (b : Nat) (σ : Sto) : Option Res :=
 callK call 51 [(V.ptr 69 b 0, false)] σ 3 (fun a f =>
 callK call 71 [((getD a 0 cellD).1, false)] f 1 (fun g c =>
 (V.asBool (getD a 2 cellD).1).bind fun b7 =>
 bif (!b7) then
 callK call 52 [(V.ptr 69 b 0, false), ((getD a 1 cellD).1, false)] c 0 (fun h d =>
 (memGet d (V.ptr 69 b 2) false 1).bind fun m11 =>
 (V.asInt m11 .i64).bind fun i12 =>
 bif (i12 != (0 : Int)) then
 some (.ret [(V.str ⟨#[]⟩, false)], d)
 else
 (V.asStr (getD a 0 cellD).1).bind fun s13 =>
 (V.asInt (getD a 1 cellD).1 .i64).bind fun i14 =>
 (memSet d (V.ptr 69 b 1) [((V.int .i64 (wrap .i64 (i14 + (s13.size : Int)))), false)]).bind fun m15 =>
 some (.ret [((getD a 0 cellD).1, false)], m15)) pnK
 else
 (V.asBool (getD g 0 cellD).1).bind fun b16 =>
 bif (!b16) then
 callK call 52 [(V.ptr 69 b 0, false), ((getD a 1 cellD).1, false)] c 0 (fun i e =>
 (memGet e (V.ptr 69 b 2) false 1).bind fun m20 =>
 (V.asInt m20 .i64).bind fun i21 =>
 bif (i21 != (0 : Int)) then
 some (.ret [(V.str ⟨#[]⟩, false)], e)
 else
 (V.asStr (getD a 0 cellD).1).bind fun s22 =>
 (V.asInt (getD a 1 cellD).1 .i64).bind fun i23 =>
 (memSet e (V.ptr 69 b 1) [((V.int .i64 (wrap .i64 (i23 + (s22.size : Int)))), false)]).bind fun m24 =>
 some (.ret [((getD a 0 cellD).1, false)], m24)) pnK
 else
 (memGet c (V.ptr 69 b 2) false 1).bind fun m25 =>
 (V.asInt m25 .i64).bind fun i26 =>
 bif (i26 != (0 : Int)) then
 some (.ret [(V.str ⟨#[]⟩, false)], c)
 else
 (V.asStr (getD a 0 cellD).1).bind fun s27 =>
 (V.asInt (getD a 1 cellD).1 .i64).bind fun i28 =>
 (memSet c (V.ptr 69 b 1) [((V.int .i64 (wrap .i64 (i28 + (s27.size : Int)))), false)]).bind fun m29 =>
 some (.ret [((getD a 0 cellD).1, false)], m29)) pnK) pnK
noncomputable def rname (call : CallF) (n a : Nat) (σ : Sto) : Option Res := rnameF call a σ
theorem rname_eqF (call : CallF) (n a : Nat) (σ : Sto) : afun C rnameD call n [(V.ptr 69 a 0, false)] σ =
  rnameF call a σ := by kernel_rfl
theorem rname_eq (call : CallF) (n a : Nat) (σ : Sto) : afun C rnameD call n [(V.ptr 69 a 0, false)] σ = rname call n a σ := rname_eqF call n a σ
theorem rname_lim {n : Nat} {a : Nat} {b0 : Bool} {σ : Sto} {r : Res} (h : rname (lim C) n a σ = some r) : lim C 56 [(V.ptr 69 a 0, b0)] σ = some r :=
 lim_of (d := rnameD) (by kernel_rfl) (by kernel_rfl) n (show afun C rnameD (lim C) n [(V.ptr 69 a 0, false)] σ = some r from (rname_eq (lim C) n a σ).trans h)
noncomputable def rpeekF (call : CallF) (b : Nat) (σ : Sto) : Option Res :=
 callK call 51 [(V.ptr 69 b 0, false)] σ 3 (fun c a =>
 (V.asBool (getD c 2 cellD).1).bind fun b4 =>
 bif (!b4) then
 some (.ret [(V.str ⟨#[]⟩, false)], a)
 else
 (memGet a (V.ptr 69 b 2) false 1).bind fun m5 =>
 (V.asInt m5 .i64).bind fun i6 =>
 bif (i6 != (0 : Int)) then
 some (.ret [(V.str ⟨#[]⟩, false)], a)
 else
 some (.ret [((getD c 0 cellD).1, false)], a)) pnK
noncomputable def rpeek (call : CallF) (n a : Nat) (σ : Sto) : Option Res := rpeekF call a σ
theorem rpeek_eqF (call : CallF) (n a : Nat) (σ : Sto) : afun C rpeekD call n [(V.ptr 69 a 0, false)] σ =
  rpeekF call a σ := by kernel_rfl
theorem rpeek_eq (call : CallF) (n a : Nat) (σ : Sto) : afun C rpeekD call n [(V.ptr 69 a 0, false)] σ = rpeek call n a σ := rpeek_eqF call n a σ
theorem rpeek_lim {n : Nat} {a : Nat} {b0 : Bool} {σ : Sto} {r : Res} (h : rpeek (lim C) n a σ = some r) : lim C 57 [(V.ptr 69 a 0, b0)] σ = some r :=
 lim_of (d := rpeekD) (by kernel_rfl) (by kernel_rfl) n (show afun C rpeekD (lim C) n [(V.ptr 69 a 0, false)] σ = some r from (rpeek_eq (lim C) n a σ).trans h)
noncomputable def rtakeF (call : CallF) (b : Nat) (f : ByteArray) (σ : Sto) : Option Res :=
 callK call 51 [(V.ptr 69 b 0, false)] σ 3 (fun a c =>
 (V.asBool (getD a 2 cellD).1).bind fun b4 =>
 bif (!b4) then
 callK call 52 [(V.ptr 69 b 0, false), ((getD a 1 cellD).1, false)] c 0 (fun g d =>
 (memGet d (V.ptr 69 b 2) false 1).bind fun m8 =>
 (V.asInt m8 .i64).bind fun i9 =>
 bif (i9 == (0 : Int)) then
 (V.asStr (getD a 0 cellD).1).bind fun s10 =>
 (V.asInt (getD a 1 cellD).1 .i64).bind fun i11 =>
 (memSet d (V.ptr 69 b 1) [((V.int .i64 (wrap .i64 (i11 + (s10.size : Int)))), false)]).bind fun m12 =>
 some (.ret [], m12)
 else
 some (.ret [], d)) pnK
 else
 (V.asStr (getD a 0 cellD).1).bind fun s13 =>
 bif (!(s13.toList == f.toList)) then
 callK call 52 [(V.ptr 69 b 0, false), ((getD a 1 cellD).1, false)] c 0 (fun h e =>
 (memGet e (V.ptr 69 b 2) false 1).bind fun m17 =>
 (V.asInt m17 .i64).bind fun i18 =>
 bif (i18 == (0 : Int)) then
 (V.asStr (getD a 0 cellD).1).bind fun s19 =>
 (V.asInt (getD a 1 cellD).1 .i64).bind fun i20 =>
 (memSet e (V.ptr 69 b 1) [((V.int .i64 (wrap .i64 (i20 + (s19.size : Int)))), false)]).bind fun m21 =>
 some (.ret [], m21)
 else
 some (.ret [], e)) pnK
 else
 (memGet c (V.ptr 69 b 2) false 1).bind fun m22 =>
 (V.asInt m22 .i64).bind fun i23 =>
 bif (i23 == (0 : Int)) then
 (V.asStr (getD a 0 cellD).1).bind fun s24 =>
 (V.asInt (getD a 1 cellD).1 .i64).bind fun i25 =>
 (memSet c (V.ptr 69 b 1) [((V.int .i64 (wrap .i64 (i25 + (s24.size : Int)))), false)]).bind fun m26 =>
 some (.ret [], m26)
 else
 some (.ret [], c)) pnK
noncomputable def rtake (call : CallF) (n a : Nat) (b : ByteArray) (σ : Sto) : Option Res := rtakeF call a b σ
theorem rtake_eqF (call : CallF) (n a : Nat) (b : ByteArray) (σ : Sto) : afun C rtakeD call n [(V.ptr 69 a 0, false), (V.str b, false)] σ =
  rtakeF call a b σ := by kernel_rfl
theorem rtake_eq (call : CallF) (n a : Nat) (b : ByteArray) (σ : Sto) : afun C rtakeD call n [(V.ptr 69 a 0, false), (V.str b, false)] σ = rtake call n a b σ := rtake_eqF call n a b σ
theorem rtake_lim {n : Nat} {a : Nat} {b : ByteArray} {b0 b1 : Bool} {σ : Sto} {r : Res} (h : rtake (lim C) n a b σ = some r) : lim C 58 [(V.ptr 69 a 0, b0), (V.str b, b1)] σ = some r :=
 lim_of (d := rtakeD) (by kernel_rfl) (by kernel_rfl) n (show afun C rtakeD (lim C) n [(V.ptr 69 a 0, false), (V.str b, false)] σ = some r from (rtake_eq (lim C) n a b σ).trans h)
end Go.Ab.Mk
end
