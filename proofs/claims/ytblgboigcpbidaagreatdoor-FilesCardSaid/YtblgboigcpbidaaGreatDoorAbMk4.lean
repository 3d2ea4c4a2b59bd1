/- AbMk4: printed by program: functions of the program as plain Lean, and the equations. -/
import Derived.Test.YtblgboigcpbidaaGreatDoorAbMk1
set_option linter.unusedSimpArgs false
set_option linter.unusedVariables false
set_option linter.deprecated false
section
set_option maxRecDepth 100000
namespace Go.Ab.Mk
open Go.Proofs Go.Ab
open List (getD)
open IntKind (wrap)
noncomputable def sameDeclk0 : List Nat := [2, 3, 5, 88, 89, 90, 91, 92, 93, 94, 95, 96, 97, 98, 99, 100, 114]
noncomputable def sameDeclk1 : List Nat := [2, 3, 6, 114]
noncomputable def sameDecls1 (call : CallF) (rec1 : Int → Int → ByteArray → LL → Int → Int → ByteArray → LL → LL → Int → Int → ByteArray → LL → LL → Int → LL → Int → ByteArray → LL → Int → Int → ByteArray → LL → LL → Int → Int → ByteArray → LL → LL → Int → LL → RR) (a a2 : Int) (a3 : ByteArray) (a4 : LL) (e f : Int) (g : ByteArray) (h i : LL) (j k : Int) (o : ByteArray) (p q : LL) (a5 : Int) (b : LL) (a6 : Int) (a7 : ByteArray) (a8 : LL) (r s : Int) (t : ByteArray) (u v : LL) (w x : Int) (y : ByteArray) (z a0 : LL) (a9 : Int) (c : LL) (σ : Sto) : Option Res :=
 bif (decide (a < (b.length : Int))) then
 (grd (decide (0 ≤ a) && decide (a < b.length))).bind fun _ =>
 (grd (decide (0 ≤ a) && decide (a < c.length))).bind fun _ =>
 callK call 26 [(V.agg [(getD (getD b a.toNat []) 1 V.any), (getD (getD b a.toNat []) 2 V.any), (getD (getD b a.toNat []) 3 V.any), (getD (getD b a.toNat []) 4 V.any), (getD (getD b a.toNat []) 5 V.any)], false), (V.agg [(getD (getD c a.toNat []) 1 V.any), (getD (getD c a.toNat []) 2 V.any), (getD (getD c a.toNat []) 3 V.any), (getD (getD c a.toNat []) 4 V.any), (getD (getD c a.toNat []) 5 V.any)], false)] σ 1 (fun c0 d =>
 (V.asBool (getD c0 0 cellD).1).bind fun b4 =>
 bif (!b4) then
 some (.ret [(V.bool false, false)], d)
 else
 (grd (decide (0 ≤ a) && decide (a < b.length))).bind fun _ =>
 (grd (decide (0 ≤ a) && decide (a < c.length))).bind fun _ =>
 (V.asStr (getD (getD b a.toNat []) 0 V.any)).bind fun s5 =>
 (V.asStr (getD (getD c a.toNat []) 0 V.any)).bind fun s6 =>
 bif (!(s5.toList == s6.toList)) then
 some (.ret [(V.bool false, false)], d)
 else
 rec1 (wrap .i64 (a + (1 : Int))) a2 a3 a4 e f g h i j k o p q a5 b a6 a7 a8 r s t u v w x y z a0 a9 c d) pnK
 else
 callK call 26 [(V.agg [V.int .i64 e, V.int .i64 f, V.str g, V.slice 3 92 h, V.slice 5 44 i], false), (V.agg [V.int .i64 r, V.int .i64 s, V.str t, V.slice 3 92 u, V.slice 5 44 v], false)] σ 1 (fun c1 c2 =>
 callK call 26 [(V.agg [V.int .i64 j, V.int .i64 k, V.str o, V.slice 3 92 p, V.slice 5 44 q], false), (V.agg [V.int .i64 w, V.int .i64 x, V.str y, V.slice 3 92 z, V.slice 5 44 a0], false)] c2 1 (fun c3 a1 =>
 (V.asBool (getD c1 0 cellD).1).bind fun b13 =>
 bif b13 then
 some (.ret [((getD c3 0 cellD).1, false)], a1)
 else
 some (.ret [(V.bool false, false)], a1)) pnK) pnK
noncomputable def sameDecll1 (call : CallF) (n : Nat) : Nat → Int → Int → ByteArray → LL → Int → Int → ByteArray → LL → LL → Int → Int → ByteArray → LL → LL → Int → LL → Int → ByteArray → LL → Int → Int → ByteArray → LL → LL → Int → Int → ByteArray → LL → LL → Int → LL → RR
 | 0 => fun _ _ _ _ _ _ _ _ _ _ _ _ _ _ _ _ _ _ _ _ _ _ _ _ _ _ _ _ _ _ _ _ => none
 | m + 1 => sameDecls1 call (sameDecll1 call n m)
noncomputable def sameDeclt1 (a b : Int) (c : ByteArray) (d : LL) (e f : Int) (g : ByteArray) (h i : LL) (j k : Int) (o : ByteArray) (p q : LL) (r : Int) (s : LL) (t : Int) (u : ByteArray) (v : LL) (w x : Int) (y : ByteArray) (z a0 : LL) (a1 a2 : Int) (a3 : ByteArray) (a4 a5 : LL) (a6 : Int) (a7 : LL) (σ : Sto) : St := ⟨[.dead, .dead, .lptr 2 0, .lptr 3 0, .dead, .dead, .val (V.int .i64 a) false] ++ dd 109 [], [[], [], [(V.int .i64 b, false), (V.str c, false), (V.slice 1 9 d, false), (V.int .i64 e, false), (V.int .i64 f, false), (V.str g, false), (V.slice 3 92 h, false), (V.slice 5 44 i, false), (V.int .i64 j, false), (V.int .i64 k, false), (V.str o, false), (V.slice 3 92 p, false), (V.slice 5 44 q, false), (V.int .i64 r, false), (V.slice 6 71 s, false)], [(V.int .i64 t, false), (V.str u, false), (V.slice 1 9 v, false), (V.int .i64 w, false), (V.int .i64 x, false), (V.str y, false), (V.slice 3 92 z, false), (V.slice 5 44 a0, false), (V.int .i64 a1, false), (V.int .i64 a2, false), (V.str a3, false), (V.slice 3 92 a4, false), (V.slice 5 44 a5, false), (V.int .i64 a6, false), (V.slice 6 71 a7, false)]] ++ nn 112 [], σ⟩
noncomputable def sameDecls0 (call : CallF) (L1 rec0 : Int → Int → ByteArray → LL → Int → Int → ByteArray → LL → LL → Int → Int → ByteArray → LL → LL → Int → LL → Int → ByteArray → LL → Int → Int → ByteArray → LL → LL → Int → Int → ByteArray → LL → LL → Int → LL → RR) (a d : Int) (e : ByteArray) (b : LL) (f g : Int) (h : ByteArray) (i j : LL) (k o : Int) (p : ByteArray) (q r : LL) (s : Int) (t : LL) (u : Int) (v : ByteArray) (c : LL) (w x : Int) (y : ByteArray) (z a0 : LL) (a1 a2 : Int) (a3 : ByteArray) (a4 a5 : LL) (a6 : Int) (a7 : LL) (σ : Sto) : Option Res :=
 bif (decide (a < (b.length : Int))) then
 (grd (decide (0 ≤ a) && decide (a < b.length))).bind fun _ =>
 (grd (decide (0 ≤ a) && decide (a < c.length))).bind fun _ =>
 (V.asStr (getD (getD b a.toNat []) 0 V.any)).bind fun s1 =>
 (V.asStr (getD (getD c a.toNat []) 0 V.any)).bind fun s2 =>
 bif (!(s1.toList == s2.toList)) then
 some (.ret [(V.bool false, false)], σ)
 else
 rec0 (wrap .i64 (a + (1 : Int))) d e b f g h i j k o p q r s t u v c w x y z a0 a1 a2 a3 a4 a5 a6 a7 σ
 else
 L1 (0 : Int) d e b f g h i j k o p q r s t u v c w x y z a0 a1 a2 a3 a4 a5 a6 a7 σ
noncomputable def sameDecll0 (call : CallF) (n : Nat) : Nat → Int → Int → ByteArray → LL → Int → Int → ByteArray → LL → LL → Int → Int → ByteArray → LL → LL → Int → LL → Int → ByteArray → LL → Int → Int → ByteArray → LL → LL → Int → Int → ByteArray → LL → LL → Int → LL → RR
 | 0 => fun _ _ _ _ _ _ _ _ _ _ _ _ _ _ _ _ _ _ _ _ _ _ _ _ _ _ _ _ _ _ _ _ => none
 | m + 1 => sameDecls0 call (sameDecll1 call n n) (sameDecll0 call n m)
noncomputable def sameDeclt0 (a b : Int) (c : ByteArray) (d : LL) (e f : Int) (g : ByteArray) (h i : LL) (j k : Int) (o : ByteArray) (p q : LL) (r : Int) (s : LL) (t : Int) (u : ByteArray) (v : LL) (w x : Int) (y : ByteArray) (z a0 : LL) (a1 a2 : Int) (a3 : ByteArray) (a4 a5 : LL) (a6 : Int) (a7 : LL) (σ : Sto) : St := ⟨[.dead, .dead, .lptr 2 0, .lptr 3 0, .dead, .val (V.int .i64 a) false] ++ dd 110 [], [[], [], [(V.int .i64 b, false), (V.str c, false), (V.slice 1 9 d, false), (V.int .i64 e, false), (V.int .i64 f, false), (V.str g, false), (V.slice 3 92 h, false), (V.slice 5 44 i, false), (V.int .i64 j, false), (V.int .i64 k, false), (V.str o, false), (V.slice 3 92 p, false), (V.slice 5 44 q, false), (V.int .i64 r, false), (V.slice 6 71 s, false)], [(V.int .i64 t, false), (V.str u, false), (V.slice 1 9 v, false), (V.int .i64 w, false), (V.int .i64 x, false), (V.str y, false), (V.slice 3 92 z, false), (V.slice 5 44 a0, false), (V.int .i64 a1, false), (V.int .i64 a2, false), (V.str a3, false), (V.slice 3 92 a4, false), (V.slice 5 44 a5, false), (V.int .i64 a6, false), (V.slice 6 71 a7, false)]] ++ nn 112 [], σ⟩
noncomputable def sameDeclF (call : CallF) (L0 : Int → Int → ByteArray → LL → Int → Int → ByteArray → LL → LL → Int → Int → ByteArray → LL → LL → Int → LL → Int → ByteArray → LL → Int → Int → ByteArray → LL → LL → Int → Int → ByteArray → LL → LL → Int → LL → RR) (a : Int) (b : ByteArray) (c : LL) (k o : Int) (p : ByteArray) (q r : LL) (s t : Int) (u : ByteArray) (v w : LL) (d : Int) (e : LL) (f : Int) (g : ByteArray) (h : LL) (x y : Int) (z : ByteArray) (a0 a1 : LL) (a2 a3 : Int) (a4 : ByteArray) (a5 a6 : LL) (i : Int) (j : LL) (σ : Sto) : Option Res :=
 bif (a != f) then
 some (.ret [(V.bool false, false)], σ)
 else
 bif (!(b.toList == g.toList)) then
 some (.ret [(V.bool false, false)], σ)
 else
 bif (d != i) then
 some (.ret [(V.bool false, false)], σ)
 else
 bif ((c.length : Int) != (h.length : Int)) then
 some (.ret [(V.bool false, false)], σ)
 else
 bif ((e.length : Int) != (j.length : Int)) then
 some (.ret [(V.bool false, false)], σ)
 else
 L0 (0 : Int) a b c k o p q r s t u v w d e f g h x y z a0 a1 a2 a3 a4 a5 a6 i j σ
noncomputable def sameDecl (call : CallF) (n : Nat) (a : Int) (b : ByteArray) (c : LL) (d e : Int) (f : ByteArray) (g h : LL) (i j : Int) (k : ByteArray) (o p : LL) (q : Int) (r : LL) (s : Int) (t : ByteArray) (u : LL) (v w : Int) (x : ByteArray) (y z : LL) (a0 a1 : Int) (a2 : ByteArray) (a3 a4 : LL) (a5 : Int) (a6 : LL) (σ : Sto) : Option Res := sameDeclF call (sameDecll0 call n n) a b c d e f g h i j k o p q r s t u v w x y z a0 a1 a2 a3 a4 a5 a6 σ
theorem sameDecls1_eq (call : CallF) (n : Nat) (F1 : St → Option Res) (a b : Int) (c : ByteArray) (d : LL) (e f : Int) (g : ByteArray) (h i : LL) (j k : Int) (o : ByteArray) (p q : LL) (r : Int) (s : LL) (t : Int) (u : ByteArray) (v : LL) (w x : Int) (y : ByteArray) (z a0 : LL) (a1 a2 : Int) (a3 : ByteArray) (a4 a5 : LL) (a6 : Int) (a7 : LL) (σ : Sto) :
  aexec C sameDeclH call n (cp [0,0,1,0,1,1,1] sameDeclC) 0 (sameDeclt1 a b c d e f g h i j k o p q r s t u v w x y z a0 a1 a2 a3 a4 a5 a6 a7 σ) (kloop sameDeclk1 F1 (kblk 2 (kseq (fun st' => aexec C sameDeclH call n (cp [1,1,1,1] sameDeclC) 0 st' (kfin C sameDeclD)) (kfin C sameDeclD)))) =
  sameDecls1 call (fun a b c d e f g h i j k o p q r s t u v w x y z a0 a1 a2 a3 a4 a5 a6 a7 σ => F1 (sameDeclt1 a b c d e f g h i j k o p q r s t u v w x y z a0 a1 a2 a3 a4 a5 a6 a7 σ)) a b c d e f g h i j k o p q r s t u v w x y z a0 a1 a2 a3 a4 a5 a6 a7 σ := by kernel_rfl
theorem sameDecll1_eq (call : CallF) (n : Nat) : ∀ (m : Nat) (a b : Int) (c : ByteArray) (d : LL) (e f : Int) (g : ByteArray) (h i : LL) (j k : Int) (o : ByteArray) (p q : LL) (r : Int) (s : LL) (t : Int) (u : ByteArray) (v : LL) (w x : Int) (y : ByteArray) (z a0 : LL) (a1 a2 : Int) (a3 : ByteArray) (a4 a5 : LL) (a6 : Int) (a7 : LL) (σ : Sto),
  aloop (fun st K => aexec C sameDeclH call n (cp [0,0,1,0,1,1,1] sameDeclC) 0 st K) sameDeclk1 m (sameDeclt1 a b c d e f g h i j k o p q r s t u v w x y z a0 a1 a2 a3 a4 a5 a6 a7 σ) (kblk 2 (kseq (fun st' => aexec C sameDeclH call n (cp [1,1,1,1] sameDeclC) 0 st' (kfin C sameDeclD)) (kfin C sameDeclD))) = sameDecll1 call n m a b c d e f g h i j k o p q r s t u v w x y z a0 a1 a2 a3 a4 a5 a6 a7 σ
 | 0, a, b, c, d, e, f, g, h, i, j, k, o, p, q, r, s, t, u, v, w, x, y, z, a0, a1, a2, a3, a4, a5, a6, a7, σ => rfl
 | m + 1, a, b, c, d, e, f, g, h, i, j, k, o, p, q, r, s, t, u, v, w, x, y, z, a0, a1, a2, a3, a4, a5, a6, a7, σ => by
  rw [aloop, sameDecls1_eq]
  simp only [sameDecll1_eq call n m]
  rfl
theorem sameDecls0_eq (call : CallF) (n : Nat) (F0 : St → Option Res) (a7 a : Int) (b : ByteArray) (c : LL) (d e : Int) (f : ByteArray) (g h : LL) (i j : Int) (k : ByteArray) (o p : LL) (q : Int) (r : LL) (s : Int) (t : ByteArray) (u : LL) (v w : Int) (x : ByteArray) (y z : LL) (a0 a1 : Int) (a2 : ByteArray) (a3 a4 : LL) (a5 : Int) (a6 : LL) (σ : Sto) :
  aexec C sameDeclH call n (cp [0,0,1,0,1,1] sameDeclC) 0 (sameDeclt0 a7 a b c d e f g h i j k o p q r s t u v w x y z a0 a1 a2 a3 a4 a5 a6 σ) (kloop sameDeclk0 F0 (kblk 0 (kseq (fun st' => aexec C sameDeclH call n (cp [1,1,1] sameDeclC) 0 st' (kfin C sameDeclD)) (kfin C sameDeclD)))) =
  sameDecls0 call (fun a8 a b c d e f g h i j k o p q r s t u v w x y z a0 a1 a2 a3 a4 a5 a6 σ => aloop (fun st K => aexec C sameDeclH call n (cp [0,0,1,0,1,1,1] sameDeclC) 0 st K) sameDeclk1 n (sameDeclt1 a8 a b c d e f g h i j k o p q r s t u v w x y z a0 a1 a2 a3 a4 a5 a6 σ) (kblk 2 (kseq (fun st' => aexec C sameDeclH call n (cp [1,1,1,1] sameDeclC) 0 st' (kfin C sameDeclD)) (kfin C sameDeclD)))) (fun a7 a b c d e f g h i j k o p q r s t u v w x y z a0 a1 a2 a3 a4 a5 a6 σ => F0 (sameDeclt0 a7 a b c d e f g h i j k o p q r s t u v w x y z a0 a1 a2 a3 a4 a5 a6 σ)) a7 a b c d e f g h i j k o p q r s t u v w x y z a0 a1 a2 a3 a4 a5 a6 σ := by kernel_rfl
theorem sameDecll0_eq (call : CallF) (n : Nat) : ∀ (m : Nat) (a b : Int) (c : ByteArray) (d : LL) (e f : Int) (g : ByteArray) (h i : LL) (j k : Int) (o : ByteArray) (p q : LL) (r : Int) (s : LL) (t : Int) (u : ByteArray) (v : LL) (w x : Int) (y : ByteArray) (z a0 : LL) (a1 a2 : Int) (a3 : ByteArray) (a4 a5 : LL) (a6 : Int) (a7 : LL) (σ : Sto),
  aloop (fun st K => aexec C sameDeclH call n (cp [0,0,1,0,1,1] sameDeclC) 0 st K) sameDeclk0 m (sameDeclt0 a b c d e f g h i j k o p q r s t u v w x y z a0 a1 a2 a3 a4 a5 a6 a7 σ) (kblk 0 (kseq (fun st' => aexec C sameDeclH call n (cp [1,1,1] sameDeclC) 0 st' (kfin C sameDeclD)) (kfin C sameDeclD))) = sameDecll0 call n m a b c d e f g h i j k o p q r s t u v w x y z a0 a1 a2 a3 a4 a5 a6 a7 σ
 | 0, a, b, c, d, e, f, g, h, i, j, k, o, p, q, r, s, t, u, v, w, x, y, z, a0, a1, a2, a3, a4, a5, a6, a7, σ => rfl
 | m + 1, a, b, c, d, e, f, g, h, i, j, k, o, p, q, r, s, t, u, v, w, x, y, z, a0, a1, a2, a3, a4, a5, a6, a7, σ => by
  rw [aloop, sameDecls0_eq]
  simp only [sameDecll0_eq call n m, sameDecll1_eq]
  rfl
theorem sameDecl_eqF (call : CallF) (n : Nat) (a : Int) (b : ByteArray) (c : LL) (d e : Int) (f : ByteArray) (g h : LL) (i j : Int) (k : ByteArray) (o p : LL) (q : Int) (r : LL) (s : Int) (t : ByteArray) (u : LL) (v w : Int) (x : ByteArray) (y z : LL) (a0 a1 : Int) (a2 : ByteArray) (a3 a4 : LL) (a5 : Int) (a6 : LL) (σ : Sto) : afun C sameDeclD call n [(V.agg [V.int .i64 a, V.str b, V.slice 1 9 c, V.int .i64 d, V.int .i64 e, V.str f, V.slice 3 92 g, V.slice 5 44 h, V.int .i64 i, V.int .i64 j, V.str k, V.slice 3 92 o, V.slice 5 44 p, V.int .i64 q, V.slice 6 71 r], false), (V.agg [V.int .i64 s, V.str t, V.slice 1 9 u, V.int .i64 v, V.int .i64 w, V.str x, V.slice 3 92 y, V.slice 5 44 z, V.int .i64 a0, V.int .i64 a1, V.str a2, V.slice 3 92 a3, V.slice 5 44 a4, V.int .i64 a5, V.slice 6 71 a6], false)] σ =
  sameDeclF call (fun a7 a8 a9 c0 c1 c2 c3 c4 c5 c6 c7 c8 c9 d0 d1 d2 d3 d4 d5 d6 d7 d8 d9 e0 e1 e2 e3 e4 e5 e6 e7 σ => aloop (fun st K => aexec C sameDeclH call n (cp [0,0,1,0,1,1] sameDeclC) 0 st K) sameDeclk0 n (sameDeclt0 a7 a8 a9 c0 c1 c2 c3 c4 c5 c6 c7 c8 c9 d0 d1 d2 d3 d4 d5 d6 d7 d8 d9 e0 e1 e2 e3 e4 e5 e6 e7 σ) (kblk 0 (kseq (fun st' => aexec C sameDeclH call n (cp [1,1,1] sameDeclC) 0 st' (kfin C sameDeclD)) (kfin C sameDeclD)))) a b c d e f g h i j k o p q r s t u v w x y z a0 a1 a2 a3 a4 a5 a6 σ := by kernel_rfl
theorem sameDecl_eq (call : CallF) (n : Nat) (a : Int) (b : ByteArray) (c : LL) (d e : Int) (f : ByteArray) (g h : LL) (i j : Int) (k : ByteArray) (o p : LL) (q : Int) (r : LL) (s : Int) (t : ByteArray) (u : LL) (v w : Int) (x : ByteArray) (y z : LL) (a0 a1 : Int) (a2 : ByteArray) (a3 a4 : LL) (a5 : Int) (a6 : LL) (σ : Sto) : afun C sameDeclD call n [(V.agg [V.int .i64 a, V.str b, V.slice 1 9 c, V.int .i64 d, V.int .i64 e, V.str f, V.slice 3 92 g, V.slice 5 44 h, V.int .i64 i, V.int .i64 j, V.str k, V.slice 3 92 o, V.slice 5 44 p, V.int .i64 q, V.slice 6 71 r], false), (V.agg [V.int .i64 s, V.str t, V.slice 1 9 u, V.int .i64 v, V.int .i64 w, V.str x, V.slice 3 92 y, V.slice 5 44 z, V.int .i64 a0, V.int .i64 a1, V.str a2, V.slice 3 92 a3, V.slice 5 44 a4, V.int .i64 a5, V.slice 6 71 a6], false)] σ = sameDecl call n a b c d e f g h i j k o p q r s t u v w x y z a0 a1 a2 a3 a4 a5 a6 σ := by
 rw [sameDecl_eqF]
 simp only [sameDecll0_eq]
 rfl
theorem sameDecl_lim {n : Nat} {a : Int} {b : ByteArray} {c : LL} {e : Int} {f : Int} {g : ByteArray} {i : LL} {j : LL} {k : Int} {o : Int} {p : ByteArray} {q : LL} {s : LL} {t : Int} {u : LL} {v : Int} {w : ByteArray} {x : LL} {y : Int} {z : Int} {a0 : ByteArray} {a1 : LL} {a2 : LL} {a3 : Int} {a4 : Int} {a5 : ByteArray} {a6 : LL} {a7 : LL} {a8 : Int} {a9 : LL} {b0 b1 : Bool} {σ : Sto} {r : Res} (h : sameDecl (lim C) n a b c e f g i j k o p q s t u v w x y z a0 a1 a2 a3 a4 a5 a6 a7 a8 a9 σ = some r) : lim C 12 [(V.agg [V.int .i64 a, V.str b, V.slice 1 9 c, V.int .i64 e, V.int .i64 f, V.str g, V.slice 3 92 i, V.slice 5 44 j, V.int .i64 k, V.int .i64 o, V.str p, V.slice 3 92 q, V.slice 5 44 s, V.int .i64 t, V.slice 6 71 u], b0), (V.agg [V.int .i64 v, V.str w, V.slice 1 9 x, V.int .i64 y, V.int .i64 z, V.str a0, V.slice 3 92 a1, V.slice 5 44 a2, V.int .i64 a3, V.int .i64 a4, V.str a5, V.slice 3 92 a6, V.slice 5 44 a7, V.int .i64 a8, V.slice 6 71 a9], b1)] σ = some r :=
 lim_of (d := sameDeclD) (by kernel_rfl) (by kernel_rfl) n (show afun C sameDeclD (lim C) n [(V.agg [V.int .i64 a, V.str b, V.slice 1 9 c, V.int .i64 e, V.int .i64 f, V.str g, V.slice 3 92 i, V.slice 5 44 j, V.int .i64 k, V.int .i64 o, V.str p, V.slice 3 92 q, V.slice 5 44 s, V.int .i64 t, V.slice 6 71 u], false), (V.agg [V.int .i64 v, V.str w, V.slice 1 9 x, V.int .i64 y, V.int .i64 z, V.str a0, V.slice 3 92 a1, V.slice 5 44 a2, V.int .i64 a3, V.int .i64 a4, V.str a5, V.slice 3 92 a6, V.slice 5 44 a7, V.int .i64 a8, V.slice 6 71 a9], false)] σ = some r from (sameDecl_eq (lim C) n a b c e f g i j k o p q s t u v w x y z a0 a1 a2 a3 a4 a5 a6 a7 a8 a9 σ).trans h)
noncomputable def rprintDeclk0 : List Nat := [1, 3, 4]
noncomputable def rprintDeclk1 : List Nat := [1, 3, 5]
noncomputable def rprintDecls1 (call : CallF) (rec1 : ByteArray → Int → Int → ByteArray → LL → Int → Int → ByteArray → LL → LL → Int → Int → ByteArray → LL → LL → Int → LL → RR) (c : ByteArray) (a d : Int) (e : ByteArray) (f : LL) (g h : Int) (i : ByteArray) (j k : LL) (o p : Int) (q : ByteArray) (r s : LL) (t : Int) (b : LL) (σ : Sto) : Option Res :=
 bif (decide (a < (b.length : Int))) then
 (grd (strRoom c (ByteArray.mk #[32, 40, 99, 116, 111, 114, 32]))).bind fun _ =>
 (grd (decide (0 ≤ a) && decide (a < b.length))).bind fun _ =>
 (V.asStr (getD (getD b a.toNat []) 0 V.any)).bind fun s1 =>
 (grd (strRoom (c ++ (ByteArray.mk #[32, 40, 99, 116, 111, 114, 32])) s1)).bind fun _ =>
 (grd (strRoom ((c ++ (ByteArray.mk #[32, 40, 99, 116, 111, 114, 32])) ++ s1) (ByteArray.mk #[32]))).bind fun _ =>
 (grd (decide (0 ≤ a) && decide (a < b.length))).bind fun _ =>
 callK call 28 [(V.agg [(getD (getD b a.toNat []) 1 V.any), (getD (getD b a.toNat []) 2 V.any), (getD (getD b a.toNat []) 3 V.any), (getD (getD b a.toNat []) 4 V.any), (getD (getD b a.toNat []) 5 V.any)], false)] σ 1 (fun u v =>
 (V.asStr (getD u 0 cellD).1).bind fun s5 =>
 (grd (strRoom (((c ++ (ByteArray.mk #[32, 40, 99, 116, 111, 114, 32])) ++ s1) ++ (ByteArray.mk #[32])) s5)).bind fun _ =>
 (grd (strRoom ((((c ++ (ByteArray.mk #[32, 40, 99, 116, 111, 114, 32])) ++ s1) ++ (ByteArray.mk #[32])) ++ s5) (ByteArray.mk #[41]))).bind fun _ =>
 rec1 (((((c ++ (ByteArray.mk #[32, 40, 99, 116, 111, 114, 32])) ++ s1) ++ (ByteArray.mk #[32])) ++ s5) ++ (ByteArray.mk #[41])) (wrap .i64 (a + (1 : Int))) d e f g h i j k o p q r s t b v) pnK
 else
 (grd (strRoom c (ByteArray.mk #[41]))).bind fun _ =>
 some (.ret [(V.str (c ++ (ByteArray.mk #[41])), false)], σ)
noncomputable def rprintDecll1 (call : CallF) (n : Nat) : Nat → ByteArray → Int → Int → ByteArray → LL → Int → Int → ByteArray → LL → LL → Int → Int → ByteArray → LL → LL → Int → LL → RR
 | 0 => fun _ _ _ _ _ _ _ _ _ _ _ _ _ _ _ _ _ _ => none
 | m + 1 => rprintDecls1 call (rprintDecll1 call n m)
noncomputable def rprintDeclt1 (a : ByteArray) (b c : Int) (d : ByteArray) (e : LL) (f g : Int) (h : ByteArray) (i j : LL) (k o : Int) (p : ByteArray) (q r : LL) (s : Int) (t : LL) (σ : Sto) : St := ⟨[.dead, .lptr 1 0, .dead, .val (V.str a) false, .dead, .val (V.int .i64 b) false] ++ dd 82 [], [[], [(V.int .i64 c, false), (V.str d, false), (V.slice 1 9 e, false), (V.int .i64 f, false), (V.int .i64 g, false), (V.str h, false), (V.slice 3 92 i, false), (V.slice 5 44 j, false), (V.int .i64 k, false), (V.int .i64 o, false), (V.str p, false), (V.slice 3 92 q, false), (V.slice 5 44 r, false), (V.int .i64 s, false), (V.slice 6 71 t, false)]] ++ nn 86 [], σ⟩
noncomputable def rprintDecls0 (call : CallF) (L1 rec0 : ByteArray → Int → Int → ByteArray → LL → Int → Int → ByteArray → LL → LL → Int → Int → ByteArray → LL → LL → Int → LL → RR) (a : ByteArray) (c d : Int) (s : ByteArray) (b : LL) (e f : Int) (g : ByteArray) (h i : LL) (j k : Int) (o : ByteArray) (p q : LL) (r : Int) (t : LL) (σ : Sto) : Option Res :=
 bif (decide (c < (b.length : Int))) then
 bif (decide (c > (0 : Int))) then
 (grd (strRoom a (ByteArray.mk #[32]))).bind fun _ =>
 (grd (decide (0 ≤ c) && decide (c < b.length))).bind fun _ =>
 (V.asStr (getD (getD b c.toNat []) 0 V.any)).bind fun s1 =>
 (grd (strRoom (a ++ (ByteArray.mk #[32])) s1)).bind fun _ =>
 rec0 ((a ++ (ByteArray.mk #[32])) ++ s1) (wrap .i64 (c + (1 : Int))) d s b e f g h i j k o p q r t σ
 else
 (grd (decide (0 ≤ c) && decide (c < b.length))).bind fun _ =>
 (V.asStr (getD (getD b c.toNat []) 0 V.any)).bind fun s2 =>
 (grd (strRoom a s2)).bind fun _ =>
 rec0 (a ++ s2) (wrap .i64 (c + (1 : Int))) d s b e f g h i j k o p q r t σ
 else
 (grd (strRoom a (ByteArray.mk #[41, 32]))).bind fun _ =>
 bif (d == (3 : Int)) then
 callK call 27 [(V.int .i64 r, false)] σ 1 (fun w x =>
 (V.asStr (getD w 0 cellD).1).bind fun s6 =>
 (grd (strRoom (a ++ (ByteArray.mk #[41, 32])) s6)).bind fun _ =>
 (grd (strRoom ((a ++ (ByteArray.mk #[41, 32])) ++ s6) (ByteArray.mk #[32]))).bind fun _ =>
 callK call 28 [(V.agg [V.int .i64 e, V.int .i64 f, V.str g, V.slice 3 92 h, V.slice 5 44 i], false)] x 1 (fun y u =>
 (V.asStr (getD y 0 cellD).1).bind fun s10 =>
 (grd (strRoom (((a ++ (ByteArray.mk #[41, 32])) ++ s6) ++ (ByteArray.mk #[32])) s10)).bind fun _ =>
 bif (d == (2 : Int)) then
 (grd (strRoom ((((a ++ (ByteArray.mk #[41, 32])) ++ s6) ++ (ByteArray.mk #[32])) ++ s10) (ByteArray.mk #[32]))).bind fun _ =>
 callK call 28 [(V.agg [V.int .i64 j, V.int .i64 k, V.str o, V.slice 3 92 p, V.slice 5 44 q], false)] u 1 (fun z a0 =>
 (V.asStr (getD z 0 cellD).1).bind fun s14 =>
 (grd (strRoom (((((a ++ (ByteArray.mk #[41, 32])) ++ s6) ++ (ByteArray.mk #[32])) ++ s10) ++ (ByteArray.mk #[32])) s14)).bind fun _ =>
 L1 ((((((a ++ (ByteArray.mk #[41, 32])) ++ s6) ++ (ByteArray.mk #[32])) ++ s10) ++ (ByteArray.mk #[32])) ++ s14) (0 : Int) d s b e f g h i j k o p q r t a0) pnK
 else
 L1 ((((a ++ (ByteArray.mk #[41, 32])) ++ s6) ++ (ByteArray.mk #[32])) ++ s10) (0 : Int) d s b e f g h i j k o p q r t u) pnK) pnK
 else
 callK call 28 [(V.agg [V.int .i64 e, V.int .i64 f, V.str g, V.slice 3 92 h, V.slice 5 44 i], false)] σ 1 (fun a1 v =>
 (V.asStr (getD a1 0 cellD).1).bind fun s18 =>
 (grd (strRoom (a ++ (ByteArray.mk #[41, 32])) s18)).bind fun _ =>
 bif (d == (2 : Int)) then
 (grd (strRoom ((a ++ (ByteArray.mk #[41, 32])) ++ s18) (ByteArray.mk #[32]))).bind fun _ =>
 callK call 28 [(V.agg [V.int .i64 j, V.int .i64 k, V.str o, V.slice 3 92 p, V.slice 5 44 q], false)] v 1 (fun a2 a3 =>
 (V.asStr (getD a2 0 cellD).1).bind fun s22 =>
 (grd (strRoom (((a ++ (ByteArray.mk #[41, 32])) ++ s18) ++ (ByteArray.mk #[32])) s22)).bind fun _ =>
 L1 ((((a ++ (ByteArray.mk #[41, 32])) ++ s18) ++ (ByteArray.mk #[32])) ++ s22) (0 : Int) d s b e f g h i j k o p q r t a3) pnK
 else
 L1 ((a ++ (ByteArray.mk #[41, 32])) ++ s18) (0 : Int) d s b e f g h i j k o p q r t v) pnK
noncomputable def rprintDecll0 (call : CallF) (n : Nat) : Nat → ByteArray → Int → Int → ByteArray → LL → Int → Int → ByteArray → LL → LL → Int → Int → ByteArray → LL → LL → Int → LL → RR
 | 0 => fun _ _ _ _ _ _ _ _ _ _ _ _ _ _ _ _ _ _ => none
 | m + 1 => rprintDecls0 call (rprintDecll1 call n n) (rprintDecll0 call n m)
noncomputable def rprintDeclt0 (a : ByteArray) (b c : Int) (d : ByteArray) (e : LL) (f g : Int) (h : ByteArray) (i j : LL) (k o : Int) (p : ByteArray) (q r : LL) (s : Int) (t : LL) (σ : Sto) : St := ⟨[.dead, .lptr 1 0, .dead, .val (V.str a) false, .val (V.int .i64 b) false] ++ dd 83 [], [[], [(V.int .i64 c, false), (V.str d, false), (V.slice 1 9 e, false), (V.int .i64 f, false), (V.int .i64 g, false), (V.str h, false), (V.slice 3 92 i, false), (V.slice 5 44 j, false), (V.int .i64 k, false), (V.int .i64 o, false), (V.str p, false), (V.slice 3 92 q, false), (V.slice 5 44 r, false), (V.int .i64 s, false), (V.slice 6 71 t, false)]] ++ nn 86 [], σ⟩
noncomputable def rprintDeclF (call : CallF) (L0 : ByteArray → Int → Int → ByteArray → LL → Int → Int → ByteArray → LL → LL → Int → Int → ByteArray → LL → LL → Int → LL → RR) (b : Int) (a : ByteArray) (c : LL) (d e : Int) (f : ByteArray) (g h : LL) (i j : Int) (k : ByteArray) (o p : LL) (q : Int) (r : LL) (σ : Sto) : Option Res :=
 bif (b == (2 : Int)) then
 bif (b == (3 : Int)) then
 (grd (strRoom (ByteArray.mk #[40, 105, 110, 100, 117, 99, 116, 105, 118, 101, 32]) a)).bind fun _ =>
 (grd (strRoom ((ByteArray.mk #[40, 105, 110, 100, 117, 99, 116, 105, 118, 101, 32]) ++ a) (ByteArray.mk #[32, 40]))).bind fun _ =>
 L0 (((ByteArray.mk #[40, 105, 110, 100, 117, 99, 116, 105, 118, 101, 32]) ++ a) ++ (ByteArray.mk #[32, 40])) (0 : Int) b a c d e f g h i j k o p q r σ
 else
 (grd (strRoom (ByteArray.mk #[40, 100, 101, 102, 32]) a)).bind fun _ =>
 (grd (strRoom ((ByteArray.mk #[40, 100, 101, 102, 32]) ++ a) (ByteArray.mk #[32, 40]))).bind fun _ =>
 L0 (((ByteArray.mk #[40, 100, 101, 102, 32]) ++ a) ++ (ByteArray.mk #[32, 40])) (0 : Int) b a c d e f g h i j k o p q r σ
 else
 bif (b == (3 : Int)) then
 (grd (strRoom (ByteArray.mk #[40, 105, 110, 100, 117, 99, 116, 105, 118, 101, 32]) a)).bind fun _ =>
 (grd (strRoom ((ByteArray.mk #[40, 105, 110, 100, 117, 99, 116, 105, 118, 101, 32]) ++ a) (ByteArray.mk #[32, 40]))).bind fun _ =>
 L0 (((ByteArray.mk #[40, 105, 110, 100, 117, 99, 116, 105, 118, 101, 32]) ++ a) ++ (ByteArray.mk #[32, 40])) (0 : Int) b a c d e f g h i j k o p q r σ
 else
 (grd (strRoom (ByteArray.mk #[40, 97, 120, 105, 111, 109, 32]) a)).bind fun _ =>
 (grd (strRoom ((ByteArray.mk #[40, 97, 120, 105, 111, 109, 32]) ++ a) (ByteArray.mk #[32, 40]))).bind fun _ =>
 L0 (((ByteArray.mk #[40, 97, 120, 105, 111, 109, 32]) ++ a) ++ (ByteArray.mk #[32, 40])) (0 : Int) b a c d e f g h i j k o p q r σ
noncomputable def rprintDecl (call : CallF) (n : Nat) (a : Int) (b : ByteArray) (c : LL) (d e : Int) (f : ByteArray) (g h : LL) (i j : Int) (k : ByteArray) (o p : LL) (q : Int) (r : LL) (σ : Sto) : Option Res := rprintDeclF call (rprintDecll0 call n n) a b c d e f g h i j k o p q r σ
theorem rprintDecls1_eq (call : CallF) (n : Nat) (F1 : St → Option Res) (a : ByteArray) (b c : Int) (d : ByteArray) (e : LL) (f g : Int) (h : ByteArray) (i j : LL) (k o : Int) (p : ByteArray) (q r : LL) (s : Int) (t : LL) (σ : Sto) :
  aexec C rprintDeclH call n (cp [0,0,1,0,1,1,1,1,1,1,1,1,1,1] rprintDeclC) 0 (rprintDeclt1 a b c d e f g h i j k o p q r s t σ) (kloop rprintDeclk1 F1 (kblk 2 (kseq (fun st' => aexec C rprintDeclH call n (cp [1,1,1,1,1,1,1,1,1,1,1] rprintDeclC) 0 st' (kfin C rprintDeclD)) (kfin C rprintDeclD)))) =
  rprintDecls1 call (fun a b c d e f g h i j k o p q r s t σ => F1 (rprintDeclt1 a b c d e f g h i j k o p q r s t σ)) a b c d e f g h i j k o p q r s t σ := by kernel_rfl
theorem rprintDecll1_eq (call : CallF) (n : Nat) : ∀ (m : Nat) (a : ByteArray) (b c : Int) (d : ByteArray) (e : LL) (f g : Int) (h : ByteArray) (i j : LL) (k o : Int) (p : ByteArray) (q r : LL) (s : Int) (t : LL) (σ : Sto),
  aloop (fun st K => aexec C rprintDeclH call n (cp [0,0,1,0,1,1,1,1,1,1,1,1,1,1] rprintDeclC) 0 st K) rprintDeclk1 m (rprintDeclt1 a b c d e f g h i j k o p q r s t σ) (kblk 2 (kseq (fun st' => aexec C rprintDeclH call n (cp [1,1,1,1,1,1,1,1,1,1,1] rprintDeclC) 0 st' (kfin C rprintDeclD)) (kfin C rprintDeclD))) = rprintDecll1 call n m a b c d e f g h i j k o p q r s t σ
 | 0, a, b, c, d, e, f, g, h, i, j, k, o, p, q, r, s, t, σ => rfl
 | m + 1, a, b, c, d, e, f, g, h, i, j, k, o, p, q, r, s, t, σ => by
  rw [aloop, rprintDecls1_eq]
  simp only [rprintDecll1_eq call n m]
  rfl
theorem rprintDecls0_eq (call : CallF) (n : Nat) (F0 : St → Option Res) (a : ByteArray) (t b : Int) (c : ByteArray) (d : LL) (e f : Int) (g : ByteArray) (h i : LL) (j k : Int) (o : ByteArray) (p q : LL) (r : Int) (s : LL) (σ : Sto) :
  aexec C rprintDeclH call n (cp [0,0,1,0,1,1,1,1,1] rprintDeclC) 0 (rprintDeclt0 a t b c d e f g h i j k o p q r s σ) (kloop rprintDeclk0 F0 (kblk 0 (kseq (fun st' => aexec C rprintDeclH call n (cp [1,1,1,1,1,1] rprintDeclC) 0 st' (kfin C rprintDeclD)) (kfin C rprintDeclD)))) =
  rprintDecls0 call (fun a u b c d e f g h i j k o p q r s σ => aloop (fun st K => aexec C rprintDeclH call n (cp [0,0,1,0,1,1,1,1,1,1,1,1,1,1] rprintDeclC) 0 st K) rprintDeclk1 n (rprintDeclt1 a u b c d e f g h i j k o p q r s σ) (kblk 2 (kseq (fun st' => aexec C rprintDeclH call n (cp [1,1,1,1,1,1,1,1,1,1,1] rprintDeclC) 0 st' (kfin C rprintDeclD)) (kfin C rprintDeclD)))) (fun a t b c d e f g h i j k o p q r s σ => F0 (rprintDeclt0 a t b c d e f g h i j k o p q r s σ)) a t b c d e f g h i j k o p q r s σ := by kernel_rfl
theorem rprintDecll0_eq (call : CallF) (n : Nat) : ∀ (m : Nat) (a : ByteArray) (b c : Int) (d : ByteArray) (e : LL) (f g : Int) (h : ByteArray) (i j : LL) (k o : Int) (p : ByteArray) (q r : LL) (s : Int) (t : LL) (σ : Sto),
  aloop (fun st K => aexec C rprintDeclH call n (cp [0,0,1,0,1,1,1,1,1] rprintDeclC) 0 st K) rprintDeclk0 m (rprintDeclt0 a b c d e f g h i j k o p q r s t σ) (kblk 0 (kseq (fun st' => aexec C rprintDeclH call n (cp [1,1,1,1,1,1] rprintDeclC) 0 st' (kfin C rprintDeclD)) (kfin C rprintDeclD))) = rprintDecll0 call n m a b c d e f g h i j k o p q r s t σ
 | 0, a, b, c, d, e, f, g, h, i, j, k, o, p, q, r, s, t, σ => rfl
 | m + 1, a, b, c, d, e, f, g, h, i, j, k, o, p, q, r, s, t, σ => by
  rw [aloop, rprintDecls0_eq]
  simp only [rprintDecll0_eq call n m, rprintDecll1_eq]
  rfl
theorem rprintDecl_eqF (call : CallF) (n : Nat) (a : Int) (b : ByteArray) (c : LL) (d e : Int) (f : ByteArray) (g h : LL) (i j : Int) (k : ByteArray) (o p : LL) (q : Int) (r : LL) (σ : Sto) : afun C rprintDeclD call n [(V.agg [V.int .i64 a, V.str b, V.slice 1 9 c, V.int .i64 d, V.int .i64 e, V.str f, V.slice 3 92 g, V.slice 5 44 h, V.int .i64 i, V.int .i64 j, V.str k, V.slice 3 92 o, V.slice 5 44 p, V.int .i64 q, V.slice 6 71 r], false)] σ =
  rprintDeclF call (fun s t u v w x y z a0 a1 a2 a3 a4 a5 a6 a7 a8 σ => aloop (fun st K => aexec C rprintDeclH call n (cp [0,0,1,0,1,1,1,1,1] rprintDeclC) 0 st K) rprintDeclk0 n (rprintDeclt0 s t u v w x y z a0 a1 a2 a3 a4 a5 a6 a7 a8 σ) (kblk 0 (kseq (fun st' => aexec C rprintDeclH call n (cp [1,1,1,1,1,1] rprintDeclC) 0 st' (kfin C rprintDeclD)) (kfin C rprintDeclD)))) a b c d e f g h i j k o p q r σ := by kernel_rfl
theorem rprintDecl_eq (call : CallF) (n : Nat) (a : Int) (b : ByteArray) (c : LL) (d e : Int) (f : ByteArray) (g h : LL) (i j : Int) (k : ByteArray) (o p : LL) (q : Int) (r : LL) (σ : Sto) : afun C rprintDeclD call n [(V.agg [V.int .i64 a, V.str b, V.slice 1 9 c, V.int .i64 d, V.int .i64 e, V.str f, V.slice 3 92 g, V.slice 5 44 h, V.int .i64 i, V.int .i64 j, V.str k, V.slice 3 92 o, V.slice 5 44 p, V.int .i64 q, V.slice 6 71 r], false)] σ = rprintDecl call n a b c d e f g h i j k o p q r σ := by
 rw [rprintDecl_eqF]
 simp only [rprintDecll0_eq]
 rfl
theorem rprintDecl_lim {n : Nat} {a : Int} {b : ByteArray} {c : LL} {e : Int} {f : Int} {g : ByteArray} {i : LL} {j : LL} {k : Int} {o : Int} {p : ByteArray} {q : LL} {s : LL} {t : Int} {u : LL} {b0 : Bool} {σ : Sto} {r : Res} (h : rprintDecl (lim C) n a b c e f g i j k o p q s t u σ = some r) : lim C 13 [(V.agg [V.int .i64 a, V.str b, V.slice 1 9 c, V.int .i64 e, V.int .i64 f, V.str g, V.slice 3 92 i, V.slice 5 44 j, V.int .i64 k, V.int .i64 o, V.str p, V.slice 3 92 q, V.slice 5 44 s, V.int .i64 t, V.slice 6 71 u], b0)] σ = some r :=
 lim_of (d := rprintDeclD) (by kernel_rfl) (by kernel_rfl) n (show afun C rprintDeclD (lim C) n [(V.agg [V.int .i64 a, V.str b, V.slice 1 9 c, V.int .i64 e, V.int .i64 f, V.str g, V.slice 3 92 i, V.slice 5 44 j, V.int .i64 k, V.int .i64 o, V.str p, V.slice 3 92 q, V.slice 5 44 s, V.int .i64 t, V.slice 6 71 u], false)] σ = some r from (rprintDecl_eq (lim C) n a b c e f g i j k o p q s t u σ).trans h)
end Go.Ab.Mk
end
section
set_option maxRecDepth 100000
namespace Go.Ab.Mk
open Go.Proofs Go.Ab
open List (getD)
open IntKind (wrap)
noncomputable def newScannerF (call : CallF) (a : ByteArray) (σ : Sto) : Option Res :=
 callK call 29 [(V.ptr 55 (List.length σ) 0, false)] (σ ++ [[(V.str a, false), ((V.int .i64 (0 : Int)), false), (V.str ⟨#[]⟩, false), ((V.int .i64 (0 : Int)), false)]]) 0 (fun c b =>
 some (.ret [(V.ptr 55 (List.length σ) 0, false)], b)) pnK
noncomputable def newScanner (call : CallF) (n : Nat) (a : ByteArray) (σ : Sto) : Option Res := newScannerF call a σ
theorem newScanner_eqF (call : CallF) (n : Nat) (a : ByteArray) (σ : Sto) : afun C newScannerD call n [(V.str a, false)] σ =
  newScannerF call a σ := by kernel_rfl
theorem newScanner_eq (call : CallF) (n : Nat) (a : ByteArray) (σ : Sto) : afun C newScannerD call n [(V.str a, false)] σ = newScanner call n a σ := newScanner_eqF call n a σ
theorem newScanner_lim {n : Nat} {a : ByteArray} {b0 : Bool} {σ : Sto} {r : Res} (h : newScanner (lim C) n a σ = some r) : lim C 16 [(V.str a, b0)] σ = some r :=
 lim_of (d := newScannerD) (by kernel_rfl) (by kernel_rfl) n (show afun C newScannerD (lim C) n [(V.str a, false)] σ = some r from (newScanner_eq (lim C) n a σ).trans h)
noncomputable def freadk0 : List Nat := [0, 2, 3, 55, 56]
noncomputable def freadk1 : List Nat := [0, 2, 3]
noncomputable def freads1 (call : CallF) (rec1 : Nat → Int → ByteArray → LL → Int → Int → ByteArray → LL → LL → Int → Int → ByteArray → LL → LL → Int → LL → Int → V → LL → V → V → V → V → V → Int → Int → ByteArray → LL → LL → V → LL → RR) (a : Nat) (v : Int) (w : ByteArray) (x : LL) (y z : Int) (a0 : ByteArray) (a1 a2 : LL) (a3 a4 : Int) (a5 : ByteArray) (a6 a7 : LL) (a8 : Int) (a9 : LL) (d : Int) (e : V) (f : LL) (g h i j k : V) (o p : Int) (q : ByteArray) (r s : LL) (t : V) (c : LL) (σ : Sto) : Option Res :=
 (memGet σ (V.ptr 55 a 2) false 1).bind fun m1 =>
 (V.asStr m1).bind fun s2 =>
 bif (s2.toList == (ByteArray.mk #[40]).toList) then
 callK call 29 [(V.ptr 55 a 0, false)] σ 0 (fun c6 c0 =>
 callK call 30 [(V.ptr 55 a 0, false), (V.str ⟨#[99, 116, 111, 114]⟩, false)] c0 0 (fun c7 c1 =>
 callK call 33 [(V.ptr 55 a 0, false)] c1 1 (fun u c2 =>
 callK call 35 [(V.ptr 55 a 0, false)] c2 1 (fun b c3 =>
 (grd ((V.fits (getD u 0 cellD).1 false 1 && true))).bind fun _ =>
 (grd ((V.fits (getD b 0 cellD).1 true 5 && true))).bind fun _ =>
 (grd (room (List.length c + 1))).bind fun _ =>
 callK call 30 [(V.ptr 55 a 0, false), (V.str ⟨#[41]⟩, false)] c3 0 (fun c8 c4 =>
 rec1 a v w x y z a0 a1 a2 a3 a4 a5 a6 a7 a8 a9 d e f g h i j k o p q r s t (c ++ [[(getD u 0 cellD).1, V.cell (getD b 0 cellD).1 0, V.cell (getD b 0 cellD).1 1, V.cell (getD b 0 cellD).1 2, V.cell (getD b 0 cellD).1 3, V.cell (getD b 0 cellD).1 4]]) c4) pnK) pnK) pnK) pnK) pnK
 else
 callK call 30 [(V.ptr 55 a 0, false), (V.str ⟨#[41]⟩, false)] σ 0 (fun c9 c5 =>
 some (.ret [(V.agg [V.int .i64 d, e, V.slice 1 9 f, g, h, i, j, k, V.int .i64 o, V.int .i64 p, V.str q, V.slice 3 92 r, V.slice 5 44 s, t, V.slice 6 71 c], false)], c5)) pnK
noncomputable def freadl1 (call : CallF) (n : Nat) : Nat → Nat → Int → ByteArray → LL → Int → Int → ByteArray → LL → LL → Int → Int → ByteArray → LL → LL → Int → LL → Int → V → LL → V → V → V → V → V → Int → Int → ByteArray → LL → LL → V → LL → RR
 | 0 => fun _ _ _ _ _ _ _ _ _ _ _ _ _ _ _ _ _ _ _ _ _ _ _ _ _ _ _ _ _ _ _ _ => none
 | m + 1 => freads1 call (freadl1 call n m)
noncomputable def freadt1 (a : Nat) (b : Int) (c : ByteArray) (d : LL) (e f : Int) (g : ByteArray) (h i : LL) (j k : Int) (o : ByteArray) (p q : LL) (r : Int) (s : LL) (t : Int) (u : V) (v : LL) (w x y z a0 : V) (a1 a2 : Int) (a3 : ByteArray) (a4 a5 : LL) (a6 : V) (a7 : LL) (σ : Sto) : St := ⟨[.val (V.ptr 55 a 0) false, .dead, .lptr 2 0, .lptr 3 0] ++ dd 96 [], [[], [], [(V.int .i64 b, false), (V.str c, false), (V.slice 1 9 d, true), (V.int .i64 e, false), (V.int .i64 f, false), (V.str g, false), (V.slice 3 92 h, true), (V.slice 5 44 i, true), (V.int .i64 j, false), (V.int .i64 k, false), (V.str o, false), (V.slice 3 92 p, true), (V.slice 5 44 q, true), (V.int .i64 r, false), (V.slice 6 71 s, true)], [(V.int .i64 t, false), (u, false), (V.slice 1 9 v, true), (w, false), (x, false), (y, false), (z, false), (a0, false), (V.int .i64 a1, false), (V.int .i64 a2, false), (V.str a3, false), (V.slice 3 92 a4, true), (V.slice 5 44 a5, true), (a6, false), (V.slice 6 71 a7, true)]] ++ nn 96 [], σ⟩
noncomputable def freads0 (call : CallF) (L1 : Nat → Int → ByteArray → LL → Int → Int → ByteArray → LL → LL → Int → Int → ByteArray → LL → LL → Int → LL → Int → V → LL → V → V → V → V → V → Int → Int → ByteArray → LL → LL → V → LL → RR) (rec0 : Nat → Int → ByteArray → LL → Int → Int → ByteArray → LL → LL → Int → Int → ByteArray → LL → LL → Int → LL → Int → V → LL → Int → Int → ByteArray → LL → LL → Int → Int → ByteArray → LL → LL → Int → LL → RR) (a : Nat) (w : Int) (x : ByteArray) (y : LL) (z a0 : Int) (a1 : ByteArray) (a2 a3 : LL) (a4 a5 : Int) (a6 : ByteArray) (a7 a8 : LL) (a9 : Int) (c0 : LL) (b : Int) (i : V) (g : LL) (c9 d0 : Int) (d1 : ByteArray) (d2 d3 : LL) (k o : Int) (p : ByteArray) (q r : LL) (c1 : Int) (j : LL) (σ : Sto) : Option Res :=
 (memGet σ (V.ptr 55 a 2) false 1).bind fun m1 =>
 (V.asStr m1).bind fun s2 =>
 bif (!(s2.toList == (ByteArray.mk #[41]).toList)) then
 callK call 33 [(V.ptr 55 a 0, false)] σ 1 (fun c8 d4 =>
 (grd ((V.fits (getD c8 0 cellD).1 false 1 && true))).bind fun _ =>
 (grd (room (List.length g + 1))).bind fun _ =>
 rec0 a w x y z a0 a1 a2 a3 a4 a5 a6 a7 a8 a9 c0 b i (g ++ [[(getD c8 0 cellD).1]]) c9 d0 d1 d2 d3 k o p q r c1 j d4) pnK
 else
 callK call 29 [(V.ptr 55 a 0, false)] σ 0 (fun f2 c2 =>
 bif (b == (3 : Int)) then
 (memGet c2 (V.ptr 55 a 2) false 1).bind fun m9 =>
 callK call 34 [(m9, false)] c2 2 (fun h c3 =>
 (V.ifaceNil (getD h 1 cellD).1).bind fun b13 =>
 bif (!b13) then
 callK call 32 [(V.ptr 55 a 0, false)] c3 0 (fun f3 d5 =>
 (grd (V.fits (getD h 0 cellD).1 false 1)).bind fun _ =>
 callK call 29 [(V.ptr 55 a 0, false)] d5 0 (fun f4 d6 =>
 callK call 35 [(V.ptr 55 a 0, false)] d6 1 (fun c c4 =>
 (grd (V.fits (getD c 0 cellD).1 true 5)).bind fun _ =>
 bif (b == (2 : Int)) then
 callK call 35 [(V.ptr 55 a 0, false)] c4 1 (fun s d7 =>
 (grd (V.fits (getD s 0 cellD).1 true 5)).bind fun _ =>
 callK call 30 [(V.ptr 55 a 0, false), (V.str ⟨#[41]⟩, false)] d7 0 (fun f5 d8 =>
 some (.ret [(V.agg [V.int .i64 b, i, V.slice 1 9 g, V.cell (getD c 0 cellD).1 0, V.cell (getD c 0 cellD).1 1, V.cell (getD c 0 cellD).1 2, V.cell (getD c 0 cellD).1 3, V.cell (getD c 0 cellD).1 4, V.cell (getD s 0 cellD).1 0, V.cell (getD s 0 cellD).1 1, V.cell (getD s 0 cellD).1 2, V.cell (getD s 0 cellD).1 3, V.cell (getD s 0 cellD).1 4, (getD h 0 cellD).1, V.slice 6 71 j], false)], d8)) pnK) pnK
 else
 bif (b == (3 : Int)) then
 L1 a w x y z a0 a1 a2 a3 a4 a5 a6 a7 a8 a9 c0 b i g (V.cell (getD c 0 cellD).1 0) (V.cell (getD c 0 cellD).1 1) (V.cell (getD c 0 cellD).1 2) (V.cell (getD c 0 cellD).1 3) (V.cell (getD c 0 cellD).1 4) k o p q r (getD h 0 cellD).1 j c4
 else
 callK call 30 [(V.ptr 55 a 0, false), (V.str ⟨#[41]⟩, false)] c4 0 (fun f6 d9 =>
 some (.ret [(V.agg [V.int .i64 b, i, V.slice 1 9 g, V.cell (getD c 0 cellD).1 0, V.cell (getD c 0 cellD).1 1, V.cell (getD c 0 cellD).1 2, V.cell (getD c 0 cellD).1 3, V.cell (getD c 0 cellD).1 4, V.int .i64 k, V.int .i64 o, V.str p, V.slice 3 92 q, V.slice 5 44 r, (getD h 0 cellD).1, V.slice 6 71 j], false)], d9)) pnK) pnK) pnK) pnK
 else
 (V.asInt (getD h 0 cellD).1 .i64).bind fun i32 =>
 bif (decide (i32 > (99 : Int))) then
 callK call 32 [(V.ptr 55 a 0, false)] c3 0 (fun f7 e0 =>
 (grd (V.fits (getD h 0 cellD).1 false 1)).bind fun _ =>
 callK call 29 [(V.ptr 55 a 0, false)] e0 0 (fun f8 e1 =>
 callK call 35 [(V.ptr 55 a 0, false)] e1 1 (fun d c5 =>
 (grd (V.fits (getD d 0 cellD).1 true 5)).bind fun _ =>
 bif (b == (2 : Int)) then
 callK call 35 [(V.ptr 55 a 0, false)] c5 1 (fun t e2 =>
 (grd (V.fits (getD t 0 cellD).1 true 5)).bind fun _ =>
 callK call 30 [(V.ptr 55 a 0, false), (V.str ⟨#[41]⟩, false)] e2 0 (fun f9 e3 =>
 some (.ret [(V.agg [V.int .i64 b, i, V.slice 1 9 g, V.cell (getD d 0 cellD).1 0, V.cell (getD d 0 cellD).1 1, V.cell (getD d 0 cellD).1 2, V.cell (getD d 0 cellD).1 3, V.cell (getD d 0 cellD).1 4, V.cell (getD t 0 cellD).1 0, V.cell (getD t 0 cellD).1 1, V.cell (getD t 0 cellD).1 2, V.cell (getD t 0 cellD).1 3, V.cell (getD t 0 cellD).1 4, (getD h 0 cellD).1, V.slice 6 71 j], false)], e3)) pnK) pnK
 else
 bif (b == (3 : Int)) then
 L1 a w x y z a0 a1 a2 a3 a4 a5 a6 a7 a8 a9 c0 b i g (V.cell (getD d 0 cellD).1 0) (V.cell (getD d 0 cellD).1 1) (V.cell (getD d 0 cellD).1 2) (V.cell (getD d 0 cellD).1 3) (V.cell (getD d 0 cellD).1 4) k o p q r (getD h 0 cellD).1 j c5
 else
 callK call 30 [(V.ptr 55 a 0, false), (V.str ⟨#[41]⟩, false)] c5 0 (fun g0 e4 =>
 some (.ret [(V.agg [V.int .i64 b, i, V.slice 1 9 g, V.cell (getD d 0 cellD).1 0, V.cell (getD d 0 cellD).1 1, V.cell (getD d 0 cellD).1 2, V.cell (getD d 0 cellD).1 3, V.cell (getD d 0 cellD).1 4, V.int .i64 k, V.int .i64 o, V.str p, V.slice 3 92 q, V.slice 5 44 r, (getD h 0 cellD).1, V.slice 6 71 j], false)], e4)) pnK) pnK) pnK) pnK
 else
 (grd (V.fits (getD h 0 cellD).1 false 1)).bind fun _ =>
 callK call 29 [(V.ptr 55 a 0, false)] c3 0 (fun g1 e5 =>
 callK call 35 [(V.ptr 55 a 0, false)] e5 1 (fun e c6 =>
 (grd (V.fits (getD e 0 cellD).1 true 5)).bind fun _ =>
 bif (b == (2 : Int)) then
 callK call 35 [(V.ptr 55 a 0, false)] c6 1 (fun u e6 =>
 (grd (V.fits (getD u 0 cellD).1 true 5)).bind fun _ =>
 callK call 30 [(V.ptr 55 a 0, false), (V.str ⟨#[41]⟩, false)] e6 0 (fun g2 e7 =>
 some (.ret [(V.agg [V.int .i64 b, i, V.slice 1 9 g, V.cell (getD e 0 cellD).1 0, V.cell (getD e 0 cellD).1 1, V.cell (getD e 0 cellD).1 2, V.cell (getD e 0 cellD).1 3, V.cell (getD e 0 cellD).1 4, V.cell (getD u 0 cellD).1 0, V.cell (getD u 0 cellD).1 1, V.cell (getD u 0 cellD).1 2, V.cell (getD u 0 cellD).1 3, V.cell (getD u 0 cellD).1 4, (getD h 0 cellD).1, V.slice 6 71 j], false)], e7)) pnK) pnK
 else
 bif (b == (3 : Int)) then
 L1 a w x y z a0 a1 a2 a3 a4 a5 a6 a7 a8 a9 c0 b i g (V.cell (getD e 0 cellD).1 0) (V.cell (getD e 0 cellD).1 1) (V.cell (getD e 0 cellD).1 2) (V.cell (getD e 0 cellD).1 3) (V.cell (getD e 0 cellD).1 4) k o p q r (getD h 0 cellD).1 j c6
 else
 callK call 30 [(V.ptr 55 a 0, false), (V.str ⟨#[41]⟩, false)] c6 0 (fun g3 e8 =>
 some (.ret [(V.agg [V.int .i64 b, i, V.slice 1 9 g, V.cell (getD e 0 cellD).1 0, V.cell (getD e 0 cellD).1 1, V.cell (getD e 0 cellD).1 2, V.cell (getD e 0 cellD).1 3, V.cell (getD e 0 cellD).1 4, V.int .i64 k, V.int .i64 o, V.str p, V.slice 3 92 q, V.slice 5 44 r, (getD h 0 cellD).1, V.slice 6 71 j], false)], e8)) pnK) pnK) pnK) pnK
 else
 callK call 35 [(V.ptr 55 a 0, false)] c2 1 (fun f c7 =>
 (grd (V.fits (getD f 0 cellD).1 true 5)).bind fun _ =>
 bif (b == (2 : Int)) then
 callK call 35 [(V.ptr 55 a 0, false)] c7 1 (fun v e9 =>
 (grd (V.fits (getD v 0 cellD).1 true 5)).bind fun _ =>
 callK call 30 [(V.ptr 55 a 0, false), (V.str ⟨#[41]⟩, false)] e9 0 (fun g4 f0 =>
 some (.ret [(V.agg [V.int .i64 b, i, V.slice 1 9 g, V.cell (getD f 0 cellD).1 0, V.cell (getD f 0 cellD).1 1, V.cell (getD f 0 cellD).1 2, V.cell (getD f 0 cellD).1 3, V.cell (getD f 0 cellD).1 4, V.cell (getD v 0 cellD).1 0, V.cell (getD v 0 cellD).1 1, V.cell (getD v 0 cellD).1 2, V.cell (getD v 0 cellD).1 3, V.cell (getD v 0 cellD).1 4, V.int .i64 c1, V.slice 6 71 j], false)], f0)) pnK) pnK
 else
 bif (b == (3 : Int)) then
 L1 a w x y z a0 a1 a2 a3 a4 a5 a6 a7 a8 a9 c0 b i g (V.cell (getD f 0 cellD).1 0) (V.cell (getD f 0 cellD).1 1) (V.cell (getD f 0 cellD).1 2) (V.cell (getD f 0 cellD).1 3) (V.cell (getD f 0 cellD).1 4) k o p q r (V.int .i64 c1) j c7
 else
 callK call 30 [(V.ptr 55 a 0, false), (V.str ⟨#[41]⟩, false)] c7 0 (fun g5 f1 =>
 some (.ret [(V.agg [V.int .i64 b, i, V.slice 1 9 g, V.cell (getD f 0 cellD).1 0, V.cell (getD f 0 cellD).1 1, V.cell (getD f 0 cellD).1 2, V.cell (getD f 0 cellD).1 3, V.cell (getD f 0 cellD).1 4, V.int .i64 k, V.int .i64 o, V.str p, V.slice 3 92 q, V.slice 5 44 r, V.int .i64 c1, V.slice 6 71 j], false)], f1)) pnK) pnK) pnK
noncomputable def freadl0 (call : CallF) (n : Nat) : Nat → Nat → Int → ByteArray → LL → Int → Int → ByteArray → LL → LL → Int → Int → ByteArray → LL → LL → Int → LL → Int → V → LL → Int → Int → ByteArray → LL → LL → Int → Int → ByteArray → LL → LL → Int → LL → RR
 | 0 => fun _ _ _ _ _ _ _ _ _ _ _ _ _ _ _ _ _ _ _ _ _ _ _ _ _ _ _ _ _ _ _ _ => none
 | m + 1 => freads0 call (freadl1 call n n) (freadl0 call n m)
noncomputable def freadt0 (a : Nat) (b : Int) (c : ByteArray) (d : LL) (e f : Int) (g : ByteArray) (h i : LL) (j k : Int) (o : ByteArray) (p q : LL) (r : Int) (s : LL) (t : Int) (u : V) (v : LL) (w x : Int) (y : ByteArray) (z a0 : LL) (a1 a2 : Int) (a3 : ByteArray) (a4 a5 : LL) (a6 : Int) (a7 : LL) (σ : Sto) : St := ⟨[.val (V.ptr 55 a 0) false, .dead, .lptr 2 0, .lptr 3 0] ++ dd 96 [], [[], [], [(V.int .i64 b, false), (V.str c, false), (V.slice 1 9 d, true), (V.int .i64 e, false), (V.int .i64 f, false), (V.str g, false), (V.slice 3 92 h, true), (V.slice 5 44 i, true), (V.int .i64 j, false), (V.int .i64 k, false), (V.str o, false), (V.slice 3 92 p, true), (V.slice 5 44 q, true), (V.int .i64 r, false), (V.slice 6 71 s, true)], [(V.int .i64 t, false), (u, false), (V.slice 1 9 v, true), (V.int .i64 w, false), (V.int .i64 x, false), (V.str y, false), (V.slice 3 92 z, true), (V.slice 5 44 a0, true), (V.int .i64 a1, false), (V.int .i64 a2, false), (V.str a3, false), (V.slice 3 92 a4, true), (V.slice 5 44 a5, true), (V.int .i64 a6, false), (V.slice 6 71 a7, true)]] ++ nn 96 [], σ⟩
noncomputable def freadF (call : CallF) (L0 : Nat → Int → ByteArray → LL → Int → Int → ByteArray → LL → LL → Int → Int → ByteArray → LL → LL → Int → LL → Int → V → LL → Int → Int → ByteArray → LL → LL → Int → Int → ByteArray → LL → LL → Int → LL → RR) (a : Nat) (σ : Sto) : Option Res :=
 callK call 30 [(V.ptr 55 a 0, false), (V.str ⟨#[40]⟩, false)] σ 0 (fun p b =>
 (pcallR (call 31 [] [])).bind fun c => if List.length c = 1 then
 (memGet b (V.ptr 55 a 2) false 1).bind fun m7 =>
 (V.asMap (getD c 0 cellD).1).bind fun m8 =>
 (V.asStr m7).bind fun s9 =>
 bif ((mapLook m8 s9) == (0 : Int)) then
 callK call 32 [(V.ptr 55 a 0, false)] b 0 (fun q f =>
 callK call 29 [(V.ptr 55 a 0, false)] f 0 (fun r g =>
 callK call 33 [(V.ptr 55 a 0, false)] g 1 (fun d h =>
 (grd (V.fits (getD d 0 cellD).1 false 1)).bind fun _ =>
 callK call 30 [(V.ptr 55 a 0, false), (V.str ⟨#[40]⟩, false)] h 0 (fun s i =>
 L0 a (0 : Int) (ByteArray.mk #[]) [] (0 : Int) (0 : Int) (ByteArray.mk #[]) [] [] (0 : Int) (0 : Int) (ByteArray.mk #[]) [] [] (0 : Int) [] (mapLook m8 s9) (getD d 0 cellD).1 [] (0 : Int) (0 : Int) (ByteArray.mk #[]) [] [] (0 : Int) (0 : Int) (ByteArray.mk #[]) [] [] (0 : Int) [] i) pnK) pnK) pnK) pnK
 else
 callK call 29 [(V.ptr 55 a 0, false)] b 0 (fun t j =>
 callK call 33 [(V.ptr 55 a 0, false)] j 1 (fun e k =>
 (grd (V.fits (getD e 0 cellD).1 false 1)).bind fun _ =>
 callK call 30 [(V.ptr 55 a 0, false), (V.str ⟨#[40]⟩, false)] k 0 (fun u o =>
 L0 a (0 : Int) (ByteArray.mk #[]) [] (0 : Int) (0 : Int) (ByteArray.mk #[]) [] [] (0 : Int) (0 : Int) (ByteArray.mk #[]) [] [] (0 : Int) [] (mapLook m8 s9) (getD e 0 cellD).1 [] (0 : Int) (0 : Int) (ByteArray.mk #[]) [] [] (0 : Int) (0 : Int) (ByteArray.mk #[]) [] [] (0 : Int) [] o) pnK) pnK) pnK
 else none) pnK
noncomputable def fread (call : CallF) (n a : Nat) (σ : Sto) : Option Res := freadF call (freadl0 call n n) a σ
theorem freads1_eq (call : CallF) (n : Nat) (F1 : St → Option Res) (a : Nat) (b : Int) (c : ByteArray) (d : LL) (e f : Int) (g : ByteArray) (h i : LL) (j k : Int) (o : ByteArray) (p q : LL) (r : Int) (s : LL) (t : Int) (u : V) (v : LL) (w x y z a0 : V) (a1 a2 : Int) (a3 : ByteArray) (a4 a5 : LL) (a6 : V) (a7 : LL) (σ : Sto) :
  aexec C freadH call n (cp [0,0,0,1,1,1,0,1,0,1,1,1,1,1,1,1,1,1,1,1] freadC) 0 (freadt1 a b c d e f g h i j k o p q r s t u v w x y z a0 a1 a2 a3 a4 a5 a6 a7 σ) (kloop freadk1 F1 (kblk 3 (kblk 2 (kseq (fun st' => aexec C freadH call n (cp [1,1,1,1,1,1,1,1,1,1,1,1] freadC) 0 st' (kfin C freadD)) (kfin C freadD))))) =
  freads1 call (fun a b c d e f g h i j k o p q r s t u v w x y z a0 a1 a2 a3 a4 a5 a6 a7 σ => F1 (freadt1 a b c d e f g h i j k o p q r s t u v w x y z a0 a1 a2 a3 a4 a5 a6 a7 σ)) a b c d e f g h i j k o p q r s t u v w x y z a0 a1 a2 a3 a4 a5 a6 a7 σ := by kernel_rfl
theorem freadl1_eq (call : CallF) (n : Nat) : ∀ (m a : Nat) (b : Int) (c : ByteArray) (d : LL) (e f : Int) (g : ByteArray) (h i : LL) (j k : Int) (o : ByteArray) (p q : LL) (r : Int) (s : LL) (t : Int) (u : V) (v : LL) (w x y z a0 : V) (a1 a2 : Int) (a3 : ByteArray) (a4 a5 : LL) (a6 : V) (a7 : LL) (σ : Sto),
  aloop (fun st K => aexec C freadH call n (cp [0,0,0,1,1,1,0,1,0,1,1,1,1,1,1,1,1,1,1,1] freadC) 0 st K) freadk1 m (freadt1 a b c d e f g h i j k o p q r s t u v w x y z a0 a1 a2 a3 a4 a5 a6 a7 σ) (kblk 3 (kblk 2 (kseq (fun st' => aexec C freadH call n (cp [1,1,1,1,1,1,1,1,1,1,1,1] freadC) 0 st' (kfin C freadD)) (kfin C freadD)))) = freadl1 call n m a b c d e f g h i j k o p q r s t u v w x y z a0 a1 a2 a3 a4 a5 a6 a7 σ
 | 0, a, b, c, d, e, f, g, h, i, j, k, o, p, q, r, s, t, u, v, w, x, y, z, a0, a1, a2, a3, a4, a5, a6, a7, σ => rfl
 | m + 1, a, b, c, d, e, f, g, h, i, j, k, o, p, q, r, s, t, u, v, w, x, y, z, a0, a1, a2, a3, a4, a5, a6, a7, σ => by
  rw [aloop, freads1_eq]
  simp only [freadl1_eq call n m]
  rfl
theorem freads0_eq (call : CallF) (n : Nat) (F0 : St → Option Res) (a : Nat) (b : Int) (c : ByteArray) (d : LL) (e f : Int) (g : ByteArray) (h i : LL) (j k : Int) (o : ByteArray) (p q : LL) (r : Int) (s : LL) (t : Int) (u : V) (v : LL) (w x : Int) (y : ByteArray) (z a0 : LL) (a1 a2 : Int) (a3 : ByteArray) (a4 a5 : LL) (a6 : Int) (a7 : LL) (σ : Sto) :
  aexec C freadH call n (cp [0,0,0,1,1,1,1,1,1,1] freadC) 0 (freadt0 a b c d e f g h i j k o p q r s t u v w x y z a0 a1 a2 a3 a4 a5 a6 a7 σ) (kloop freadk0 F0 (kblk 0 (kseq (fun st' => aexec C freadH call n (cp [1,1,1,1,1,1,1,1] freadC) 0 st' (kfin C freadD)) (kfin C freadD)))) =
  freads0 call (fun a b c d e f g h i j k o p q r s t u v w x y z a0 a1 a2 a3 a4 a5 a6 a7 σ => aloop (fun st K => aexec C freadH call n (cp [0,0,0,1,1,1,0,1,0,1,1,1,1,1,1,1,1,1,1,1] freadC) 0 st K) freadk1 n (freadt1 a b c d e f g h i j k o p q r s t u v w x y z a0 a1 a2 a3 a4 a5 a6 a7 σ) (kblk 3 (kblk 2 (kseq (fun st' => aexec C freadH call n (cp [1,1,1,1,1,1,1,1,1,1,1,1] freadC) 0 st' (kfin C freadD)) (kfin C freadD))))) (fun a b c d e f g h i j k o p q r s t u v w x y z a0 a1 a2 a3 a4 a5 a6 a7 σ => F0 (freadt0 a b c d e f g h i j k o p q r s t u v w x y z a0 a1 a2 a3 a4 a5 a6 a7 σ)) a b c d e f g h i j k o p q r s t u v w x y z a0 a1 a2 a3 a4 a5 a6 a7 σ := by kernel_rfl
theorem freadl0_eq (call : CallF) (n : Nat) : ∀ (m a : Nat) (b : Int) (c : ByteArray) (d : LL) (e f : Int) (g : ByteArray) (h i : LL) (j k : Int) (o : ByteArray) (p q : LL) (r : Int) (s : LL) (t : Int) (u : V) (v : LL) (w x : Int) (y : ByteArray) (z a0 : LL) (a1 a2 : Int) (a3 : ByteArray) (a4 a5 : LL) (a6 : Int) (a7 : LL) (σ : Sto),
  aloop (fun st K => aexec C freadH call n (cp [0,0,0,1,1,1,1,1,1,1] freadC) 0 st K) freadk0 m (freadt0 a b c d e f g h i j k o p q r s t u v w x y z a0 a1 a2 a3 a4 a5 a6 a7 σ) (kblk 0 (kseq (fun st' => aexec C freadH call n (cp [1,1,1,1,1,1,1,1] freadC) 0 st' (kfin C freadD)) (kfin C freadD))) = freadl0 call n m a b c d e f g h i j k o p q r s t u v w x y z a0 a1 a2 a3 a4 a5 a6 a7 σ
 | 0, a, b, c, d, e, f, g, h, i, j, k, o, p, q, r, s, t, u, v, w, x, y, z, a0, a1, a2, a3, a4, a5, a6, a7, σ => rfl
 | m + 1, a, b, c, d, e, f, g, h, i, j, k, o, p, q, r, s, t, u, v, w, x, y, z, a0, a1, a2, a3, a4, a5, a6, a7, σ => by
  rw [aloop, freads0_eq]
  simp only [freadl0_eq call n m, freadl1_eq]
  rfl
theorem fread_eqF (call : CallF) (n a : Nat) (σ : Sto) : afun C freadD call n [(V.ptr 55 a 0, false)] σ =
  freadF call (fun a b c d e f g h i j k o p q r s t u v w x y z a0 a1 a2 a3 a4 a5 a6 a7 σ => aloop (fun st K => aexec C freadH call n (cp [0,0,0,1,1,1,1,1,1,1] freadC) 0 st K) freadk0 n (freadt0 a b c d e f g h i j k o p q r s t u v w x y z a0 a1 a2 a3 a4 a5 a6 a7 σ) (kblk 0 (kseq (fun st' => aexec C freadH call n (cp [1,1,1,1,1,1,1,1] freadC) 0 st' (kfin C freadD)) (kfin C freadD)))) a σ := by kernel_rfl
theorem fread_eq (call : CallF) (n a : Nat) (σ : Sto) : afun C freadD call n [(V.ptr 55 a 0, false)] σ = fread call n a σ := by
 rw [fread_eqF]
 simp only [freadl0_eq]
 rfl
theorem fread_lim {n : Nat} {a : Nat} {b0 : Bool} {σ : Sto} {r : Res} (h : fread (lim C) n a σ = some r) : lim C 17 [(V.ptr 55 a 0, b0)] σ = some r :=
 lim_of (d := freadD) (by kernel_rfl) (by kernel_rfl) n (show afun C freadD (lim C) n [(V.ptr 55 a 0, false)] σ = some r from (fread_eq (lim C) n a σ).trans h)
noncomputable def parseAnyk0 : List Nat := [3, 4, 5]
noncomputable def parseAnys0 (call : CallF) (rec0 : Nat → LL → Int → Int → RR) (c : Nat) (d : LL) (f g : Int) (σ : Sto) : Option Res :=
 (memGet σ (V.ptr 79 c 2) false 1).bind fun m1 =>
 (V.asInt m1 .i64).bind fun i2 =>
 bif (i2 == (0 : Int)) then
 callK call 36 [(V.ptr 79 c 0, false)] σ 3 (fun h e =>
 (V.asBool (getD h 2 cellD).1).bind fun b6 =>
 bif b6 then
 (V.asStr (getD h 0 cellD).1).bind fun s7 =>
 bif (s7.toList == (ByteArray.mk #[]).toList) then
 some (.ret [(V.slice 15 47 d, false), ((V.agg [(V.int .i64 (0 : Int)), (V.int .i64 (0 : Int))]), false)], e)
 else
 callK call 37 [(V.ptr 79 c 0, false)] e 1 (fun a i =>
 (grd (V.fits (getD a 0 cellD).1 true 15)).bind fun _ =>
 (grd (room (List.length d + 1))).bind fun _ =>
 rec0 c (d ++ [[V.cell (getD a 0 cellD).1 0, V.cell (getD a 0 cellD).1 1, V.cell (getD a 0 cellD).1 2, V.cell (getD a 0 cellD).1 3, V.cell (getD a 0 cellD).1 4, V.cell (getD a 0 cellD).1 5, V.cell (getD a 0 cellD).1 6, V.cell (getD a 0 cellD).1 7, V.cell (getD a 0 cellD).1 8, V.cell (getD a 0 cellD).1 9, V.cell (getD a 0 cellD).1 10, V.cell (getD a 0 cellD).1 11, V.cell (getD a 0 cellD).1 12, V.cell (getD a 0 cellD).1 13, V.cell (getD a 0 cellD).1 14]]) f g i) pnK
 else
 callK call 37 [(V.ptr 79 c 0, false)] e 1 (fun b j =>
 (grd (V.fits (getD b 0 cellD).1 true 15)).bind fun _ =>
 (grd (room (List.length d + 1))).bind fun _ =>
 rec0 c (d ++ [[V.cell (getD b 0 cellD).1 0, V.cell (getD b 0 cellD).1 1, V.cell (getD b 0 cellD).1 2, V.cell (getD b 0 cellD).1 3, V.cell (getD b 0 cellD).1 4, V.cell (getD b 0 cellD).1 5, V.cell (getD b 0 cellD).1 6, V.cell (getD b 0 cellD).1 7, V.cell (getD b 0 cellD).1 8, V.cell (getD b 0 cellD).1 9, V.cell (getD b 0 cellD).1 10, V.cell (getD b 0 cellD).1 11, V.cell (getD b 0 cellD).1 12, V.cell (getD b 0 cellD).1 13, V.cell (getD b 0 cellD).1 14]]) f g j) pnK) pnK
 else
 (memGet σ (V.ptr 79 c 2) true 2).bind fun m14 =>
 (grd (V.fits m14 true 2)).bind fun _ =>
 some (.ret [(V.slice 15 47 [], true), (V.agg [V.cell m14 0, V.cell m14 1], false)], σ)
noncomputable def parseAnyl0 (call : CallF) (n : Nat) : Nat → Nat → LL → Int → Int → RR
 | 0 => fun _ _ _ _ _ => none
 | m + 1 => parseAnys0 call (parseAnyl0 call n m)
noncomputable def parseAnyt0 (a : Nat) (b : LL) (c d : Int) (σ : Sto) : St := ⟨[.dead, .dead, .dead, .lptr 3 0, .val (V.ptr 79 a 0) false, .val (V.slice 15 47 b) true] ++ dd 36 [], [[], [], [], [(V.int .i64 c, false), (V.int .i64 d, false)]] ++ nn 38 [], σ⟩
noncomputable def parseAnyF (call : CallF) (L0 : Nat → LL → Int → Int → RR) (a : ByteArray) (σ : Sto) : Option Res :=
 L0 (List.length σ) [] (0 : Int) (0 : Int) (σ ++ [[(V.str a, false), ((V.int .i64 (0 : Int)), false), ((V.int .i64 (0 : Int)), false), ((V.int .i64 (0 : Int)), false)]])
noncomputable def parseAny (call : CallF) (n : Nat) (a : ByteArray) (σ : Sto) : Option Res := parseAnyF call (parseAnyl0 call n n) a σ
theorem parseAnys0_eq (call : CallF) (n : Nat) (F0 : St → Option Res) (a : Nat) (b : LL) (c d : Int) (σ : Sto) :
  aexec C parseAnyH call n (cp [0,0,0,1,1,1] parseAnyC) 0 (parseAnyt0 a b c d σ) (kloop parseAnyk0 F0 (kblk 0 (kseq (fun st' => aexec C parseAnyH call n (cp [1,1,1,1] parseAnyC) 0 st' (kfin C parseAnyD)) (kfin C parseAnyD)))) =
  parseAnys0 call (fun a b c d σ => F0 (parseAnyt0 a b c d σ)) a b c d σ := by kernel_rfl
theorem parseAnyl0_eq (call : CallF) (n : Nat) : ∀ (m a : Nat) (b : LL) (c d : Int) (σ : Sto),
  aloop (fun st K => aexec C parseAnyH call n (cp [0,0,0,1,1,1] parseAnyC) 0 st K) parseAnyk0 m (parseAnyt0 a b c d σ) (kblk 0 (kseq (fun st' => aexec C parseAnyH call n (cp [1,1,1,1] parseAnyC) 0 st' (kfin C parseAnyD)) (kfin C parseAnyD))) = parseAnyl0 call n m a b c d σ
 | 0, a, b, c, d, σ => rfl
 | m + 1, a, b, c, d, σ => by
  rw [aloop, parseAnys0_eq]
  simp only [parseAnyl0_eq call n m]
  rfl
theorem parseAny_eqF (call : CallF) (n : Nat) (a : ByteArray) (σ : Sto) : afun C parseAnyD call n [(V.str a, false)] σ =
  parseAnyF call (fun b c d e σ => aloop (fun st K => aexec C parseAnyH call n (cp [0,0,0,1,1,1] parseAnyC) 0 st K) parseAnyk0 n (parseAnyt0 b c d e σ) (kblk 0 (kseq (fun st' => aexec C parseAnyH call n (cp [1,1,1,1] parseAnyC) 0 st' (kfin C parseAnyD)) (kfin C parseAnyD)))) a σ := by kernel_rfl
theorem parseAny_eq (call : CallF) (n : Nat) (a : ByteArray) (σ : Sto) : afun C parseAnyD call n [(V.str a, false)] σ = parseAny call n a σ := by
 rw [parseAny_eqF]
 simp only [parseAnyl0_eq]
 rfl
theorem parseAny_lim {n : Nat} {a : ByteArray} {b0 : Bool} {σ : Sto} {r : Res} (h : parseAny (lim C) n a σ = some r) : lim C 18 [(V.str a, b0)] σ = some r :=
 lim_of (d := parseAnyD) (by kernel_rfl) (by kernel_rfl) n (show afun C parseAnyD (lim C) n [(V.str a, false)] σ = some r from (parseAny_eq (lim C) n a σ).trans h)
noncomputable def declFitsk0 : List Nat := [1, 5, 6]
noncomputable def declFitss0 (call : CallF) (rec0 : V → Int → Int → ByteArray → LL → Int → Int → ByteArray → LL → LL → Int → Int → ByteArray → LL → LL → Int → LL → RR) (c : V) (a d : Int) (e : ByteArray) (f : LL) (g h : Int) (i : ByteArray) (j k : LL) (o p : Int) (q : ByteArray) (r s : LL) (t : Int) (b : LL) (σ : Sto) : Option Res :=
 bif (decide (a < (b.length : Int))) then
 (V.asBool c).bind fun b1 =>
 bif b1 then
 (grd (decide (0 ≤ a) && decide (a < b.length))).bind fun _ =>
 callK call 39 [(V.agg [(getD (getD b a.toNat []) 1 V.any), (getD (getD b a.toNat []) 2 V.any), (getD (getD b a.toNat []) 3 V.any), (getD (getD b a.toNat []) 4 V.any), (getD (getD b a.toNat []) 5 V.any)], false)] σ 1 (fun u v =>
 rec0 (getD u 0 cellD).1 (wrap .i64 (a + (1 : Int))) d e f g h i j k o p q r s t b v) pnK
 else
 some (.ret [(c, false)], σ)
 else
 some (.ret [(c, false)], σ)
noncomputable def declFitsl0 (call : CallF) (n : Nat) : Nat → V → Int → Int → ByteArray → LL → Int → Int → ByteArray → LL → LL → Int → Int → ByteArray → LL → LL → Int → LL → RR
 | 0 => fun _ _ _ _ _ _ _ _ _ _ _ _ _ _ _ _ _ _ => none
 | m + 1 => declFitss0 call (declFitsl0 call n m)
noncomputable def declFitst0 (a : V) (b c : Int) (d : ByteArray) (e : LL) (f g : Int) (h : ByteArray) (i j : LL) (k o : Int) (p : ByteArray) (q r : LL) (s : Int) (t : LL) (σ : Sto) : St := ⟨[.dead, .lptr 1 0, .dead, .dead, .dead, .val a false, .val (V.int .i64 b) false] ++ dd 28 [], [[], [(V.int .i64 c, false), (V.str d, false), (V.slice 1 9 e, false), (V.int .i64 f, false), (V.int .i64 g, false), (V.str h, false), (V.slice 3 92 i, false), (V.slice 5 44 j, false), (V.int .i64 k, false), (V.int .i64 o, false), (V.str p, false), (V.slice 3 92 q, false), (V.slice 5 44 r, false), (V.int .i64 s, false), (V.slice 6 71 t, false)]] ++ nn 33 [], σ⟩
noncomputable def declFitsF (call : CallF) (L0 : V → Int → Int → ByteArray → LL → Int → Int → ByteArray → LL → LL → Int → Int → ByteArray → LL → LL → Int → LL → RR) (k : Int) (o : ByteArray) (p : LL) (a b : Int) (c : ByteArray) (d e : LL) (f g : Int) (h : ByteArray) (i j : LL) (q : Int) (r : LL) (σ : Sto) : Option Res :=
 callK call 39 [(V.agg [V.int .i64 a, V.int .i64 b, V.str c, V.slice 3 92 d, V.slice 5 44 e], false)] σ 1 (fun t u =>
 callK call 39 [(V.agg [V.int .i64 f, V.int .i64 g, V.str h, V.slice 3 92 i, V.slice 5 44 j], false)] u 1 (fun v s =>
 (V.asBool (getD t 0 cellD).1).bind fun b7 =>
 bif b7 then
 L0 (getD v 0 cellD).1 (0 : Int) k o p a b c d e f g h i j q r s
 else
 L0 (V.bool false) (0 : Int) k o p a b c d e f g h i j q r s) pnK) pnK
noncomputable def declFits (call : CallF) (n : Nat) (a : Int) (b : ByteArray) (c : LL) (d e : Int) (f : ByteArray) (g h : LL) (i j : Int) (k : ByteArray) (o p : LL) (q : Int) (r : LL) (σ : Sto) : Option Res := declFitsF call (declFitsl0 call n n) a b c d e f g h i j k o p q r σ
theorem declFitss0_eq (call : CallF) (n : Nat) (F0 : St → Option Res) (a : V) (b c : Int) (d : ByteArray) (e : LL) (f g : Int) (h : ByteArray) (i j : LL) (k o : Int) (p : ByteArray) (q r : LL) (s : Int) (t : LL) (σ : Sto) :
  aexec C declFitsH call n (cp [0,0,1,0,1,1,1,1] declFitsC) 0 (declFitst0 a b c d e f g h i j k o p q r s t σ) (kloop declFitsk0 F0 (kblk 0 (kseq (fun st' => aexec C declFitsH call n (cp [1,1,1,1,1] declFitsC) 0 st' (kfin C declFitsD)) (kfin C declFitsD)))) =
  declFitss0 call (fun a b c d e f g h i j k o p q r s t σ => F0 (declFitst0 a b c d e f g h i j k o p q r s t σ)) a b c d e f g h i j k o p q r s t σ := by kernel_rfl
theorem declFitsl0_eq (call : CallF) (n : Nat) : ∀ (m : Nat) (a : V) (b c : Int) (d : ByteArray) (e : LL) (f g : Int) (h : ByteArray) (i j : LL) (k o : Int) (p : ByteArray) (q r : LL) (s : Int) (t : LL) (σ : Sto),
  aloop (fun st K => aexec C declFitsH call n (cp [0,0,1,0,1,1,1,1] declFitsC) 0 st K) declFitsk0 m (declFitst0 a b c d e f g h i j k o p q r s t σ) (kblk 0 (kseq (fun st' => aexec C declFitsH call n (cp [1,1,1,1,1] declFitsC) 0 st' (kfin C declFitsD)) (kfin C declFitsD))) = declFitsl0 call n m a b c d e f g h i j k o p q r s t σ
 | 0, a, b, c, d, e, f, g, h, i, j, k, o, p, q, r, s, t, σ => rfl
 | m + 1, a, b, c, d, e, f, g, h, i, j, k, o, p, q, r, s, t, σ => by
  rw [aloop, declFitss0_eq]
  simp only [declFitsl0_eq call n m]
  rfl
theorem declFits_eqF (call : CallF) (n : Nat) (a : Int) (b : ByteArray) (c : LL) (d e : Int) (f : ByteArray) (g h : LL) (i j : Int) (k : ByteArray) (o p : LL) (q : Int) (r : LL) (σ : Sto) : afun C declFitsD call n [(V.agg [V.int .i64 a, V.str b, V.slice 1 9 c, V.int .i64 d, V.int .i64 e, V.str f, V.slice 3 92 g, V.slice 5 44 h, V.int .i64 i, V.int .i64 j, V.str k, V.slice 3 92 o, V.slice 5 44 p, V.int .i64 q, V.slice 6 71 r], false)] σ =
  declFitsF call (fun s t u v w x y z a0 a1 a2 a3 a4 a5 a6 a7 a8 σ => aloop (fun st K => aexec C declFitsH call n (cp [0,0,1,0,1,1,1,1] declFitsC) 0 st K) declFitsk0 n (declFitst0 s t u v w x y z a0 a1 a2 a3 a4 a5 a6 a7 a8 σ) (kblk 0 (kseq (fun st' => aexec C declFitsH call n (cp [1,1,1,1,1] declFitsC) 0 st' (kfin C declFitsD)) (kfin C declFitsD)))) a b c d e f g h i j k o p q r σ := by kernel_rfl
theorem declFits_eq (call : CallF) (n : Nat) (a : Int) (b : ByteArray) (c : LL) (d e : Int) (f : ByteArray) (g h : LL) (i j : Int) (k : ByteArray) (o p : LL) (q : Int) (r : LL) (σ : Sto) : afun C declFitsD call n [(V.agg [V.int .i64 a, V.str b, V.slice 1 9 c, V.int .i64 d, V.int .i64 e, V.str f, V.slice 3 92 g, V.slice 5 44 h, V.int .i64 i, V.int .i64 j, V.str k, V.slice 3 92 o, V.slice 5 44 p, V.int .i64 q, V.slice 6 71 r], false)] σ = declFits call n a b c d e f g h i j k o p q r σ := by
 rw [declFits_eqF]
 simp only [declFitsl0_eq]
 rfl
theorem declFits_lim {n : Nat} {a : Int} {b : ByteArray} {c : LL} {e : Int} {f : Int} {g : ByteArray} {i : LL} {j : LL} {k : Int} {o : Int} {p : ByteArray} {q : LL} {s : LL} {t : Int} {u : LL} {b0 : Bool} {σ : Sto} {r : Res} (h : declFits (lim C) n a b c e f g i j k o p q s t u σ = some r) : lim C 20 [(V.agg [V.int .i64 a, V.str b, V.slice 1 9 c, V.int .i64 e, V.int .i64 f, V.str g, V.slice 3 92 i, V.slice 5 44 j, V.int .i64 k, V.int .i64 o, V.str p, V.slice 3 92 q, V.slice 5 44 s, V.int .i64 t, V.slice 6 71 u], b0)] σ = some r :=
 lim_of (d := declFitsD) (by kernel_rfl) (by kernel_rfl) n (show afun C declFitsD (lim C) n [(V.agg [V.int .i64 a, V.str b, V.slice 1 9 c, V.int .i64 e, V.int .i64 f, V.str g, V.slice 3 92 i, V.slice 5 44 j, V.int .i64 k, V.int .i64 o, V.str p, V.slice 3 92 q, V.slice 5 44 s, V.int .i64 t, V.slice 6 71 u], false)] σ = some r from (declFits_eq (lim C) n a b c e f g i j k o p q s t u σ).trans h)
noncomputable def wstringF (call : CallF) (a : Nat) (b : ByteArray) (σ : Sto) : Option Res :=
 callK call 40 [(V.ptr 63 a 0, false)] σ 0 (fun d c =>
 (memTake c (V.ptr 63 a 1)).bind fun m4 =>
 (V.asSlice m4.1 1 5).bind fun l5 =>
 (grd (room (List.length l5 + b.size))).bind fun _ =>
 (memSet m4.2 (V.ptr 63 a 1) [(V.slice 1 5 (l5 ++ bytesV b), true)]).bind fun m6 =>
 some (.ret [((V.int .i64 (b.size : Int)), false), (V.nilIface, false)], m6)) pnK
noncomputable def wstring (call : CallF) (n a : Nat) (b : ByteArray) (σ : Sto) : Option Res := wstringF call a b σ
theorem wstring_eqF (call : CallF) (n a : Nat) (b : ByteArray) (σ : Sto) : afun C wstringD call n [(V.ptr 63 a 0, false), (V.str b, false)] σ =
  wstringF call a b σ := by kernel_rfl
theorem wstring_eq (call : CallF) (n a : Nat) (b : ByteArray) (σ : Sto) : afun C wstringD call n [(V.ptr 63 a 0, false), (V.str b, false)] σ = wstring call n a b σ := wstring_eqF call n a b σ
theorem wstring_lim {n : Nat} {a : Nat} {b : ByteArray} {b0 b1 : Bool} {σ : Sto} {r : Res} (h : wstring (lim C) n a b σ = some r) : lim C 21 [(V.ptr 63 a 0, b0), (V.str b, b1)] σ = some r :=
 lim_of (d := wstringD) (by kernel_rfl) (by kernel_rfl) n (show afun C wstringD (lim C) n [(V.ptr 63 a 0, false), (V.str b, false)] σ = some r from (wstring_eq (lim C) n a b σ).trans h)
noncomputable def tprintF (call : CallF) (a b : Int) (c : ByteArray) (d e : LL) (σ : Sto) : Option Res :=
 callK call 43 [(V.ptr 63 (List.length σ) 0, false), (V.agg [V.int .i64 a, V.int .i64 b, V.str c, V.slice 3 92 d, V.slice 5 44 e], false)] (σ ++ [[(V.nilp, false), (V.slice 1 5 [], true)]]) 0 (fun i f =>
 callK call 22 [(V.ptr 63 (List.length σ) 0, false)] f 1 (fun g h =>
 some (.ret [((getD g 0 cellD).1, false)], h)) pnK) pnK
noncomputable def tprint (call : CallF) (n : Nat) (a b : Int) (c : ByteArray) (d e : LL) (σ : Sto) : Option Res := tprintF call a b c d e σ
theorem tprint_eqF (call : CallF) (n : Nat) (a b : Int) (c : ByteArray) (d e : LL) (σ : Sto) : afun C tprintD call n [(V.agg [V.int .i64 a, V.int .i64 b, V.str c, V.slice 3 92 d, V.slice 5 44 e], false)] σ =
  tprintF call a b c d e σ := by kernel_rfl
theorem tprint_eq (call : CallF) (n : Nat) (a b : Int) (c : ByteArray) (d e : LL) (σ : Sto) : afun C tprintD call n [(V.agg [V.int .i64 a, V.int .i64 b, V.str c, V.slice 3 92 d, V.slice 5 44 e], false)] σ = tprint call n a b c d e σ := tprint_eqF call n a b c d e σ
theorem tprint_lim {n : Nat} {a : Int} {b : Int} {c : ByteArray} {e : LL} {f : LL} {b0 : Bool} {σ : Sto} {r : Res} (h : tprint (lim C) n a b c e f σ = some r) : lim C 25 [(V.agg [V.int .i64 a, V.int .i64 b, V.str c, V.slice 3 92 e, V.slice 5 44 f], b0)] σ = some r :=
 lim_of (d := tprintD) (by kernel_rfl) (by kernel_rfl) n (show afun C tprintD (lim C) n [(V.agg [V.int .i64 a, V.int .i64 b, V.str c, V.slice 3 92 e, V.slice 5 44 f], false)] σ = some r from (tprint_eq (lim C) n a b c e f σ).trans h)
end Go.Ab.Mk
end
section
set_option maxRecDepth 100000
namespace Go.Ab.Mk
open Go.Proofs Go.Ab
open List (getD)
open IntKind (wrap)
noncomputable def sameTermF (call : CallF) (a b : Int) (c : ByteArray) (d e : LL) (f g : Int) (h : ByteArray) (i j : LL) (σ : Sto) : Option Res :=
 callK call 44 [(V.agg [V.int .i64 a, V.int .i64 b, V.str c, V.slice 3 92 d, V.slice 5 44 e], false), (V.agg [V.int .i64 f, V.int .i64 g, V.str h, V.slice 3 92 i, V.slice 5 44 j], false), (V.bool false, false)] σ 1 (fun k o =>
 some (.ret [((getD k 0 cellD).1, false)], o)) pnK
noncomputable def sameTerm (call : CallF) (n : Nat) (a b : Int) (c : ByteArray) (d e : LL) (f g : Int) (h : ByteArray) (i j : LL) (σ : Sto) : Option Res := sameTermF call a b c d e f g h i j σ
theorem sameTerm_eqF (call : CallF) (n : Nat) (a b : Int) (c : ByteArray) (d e : LL) (f g : Int) (h : ByteArray) (i j : LL) (σ : Sto) : afun C sameTermD call n [(V.agg [V.int .i64 a, V.int .i64 b, V.str c, V.slice 3 92 d, V.slice 5 44 e], false), (V.agg [V.int .i64 f, V.int .i64 g, V.str h, V.slice 3 92 i, V.slice 5 44 j], false)] σ =
  sameTermF call a b c d e f g h i j σ := by kernel_rfl
theorem sameTerm_eq (call : CallF) (n : Nat) (a b : Int) (c : ByteArray) (d e : LL) (f g : Int) (h : ByteArray) (i j : LL) (σ : Sto) : afun C sameTermD call n [(V.agg [V.int .i64 a, V.int .i64 b, V.str c, V.slice 3 92 d, V.slice 5 44 e], false), (V.agg [V.int .i64 f, V.int .i64 g, V.str h, V.slice 3 92 i, V.slice 5 44 j], false)] σ = sameTerm call n a b c d e f g h i j σ := sameTerm_eqF call n a b c d e f g h i j σ
theorem sameTerm_lim {n : Nat} {a : Int} {b : Int} {c : ByteArray} {e : LL} {f : LL} {g : Int} {i : Int} {j : ByteArray} {k : LL} {o : LL} {b0 b1 : Bool} {σ : Sto} {r : Res} (h : sameTerm (lim C) n a b c e f g i j k o σ = some r) : lim C 26 [(V.agg [V.int .i64 a, V.int .i64 b, V.str c, V.slice 3 92 e, V.slice 5 44 f], b0), (V.agg [V.int .i64 g, V.int .i64 i, V.str j, V.slice 3 92 k, V.slice 5 44 o], b1)] σ = some r :=
 lim_of (d := sameTermD) (by kernel_rfl) (by kernel_rfl) n (show afun C sameTermD (lim C) n [(V.agg [V.int .i64 a, V.int .i64 b, V.str c, V.slice 3 92 e, V.slice 5 44 f], false), (V.agg [V.int .i64 g, V.int .i64 i, V.str j, V.slice 3 92 k, V.slice 5 44 o], false)] σ = some r from (sameTerm_eq (lim C) n a b c e f g i j k o σ).trans h)
noncomputable def rprintTermk0 : List Nat := [1, 3, 4]
noncomputable def rprintTermk1 : List Nat := [1, 3, 5]
noncomputable def rprintTerms1 (call : CallF) (rec1 : ByteArray → Int → Int → Int → ByteArray → LL → LL → RR) (c : ByteArray) (a d e : Int) (f : ByteArray) (g b : LL) (σ : Sto) : Option Res :=
 bif (decide (a < (b.length : Int))) then
 (grd (strRoom c (ByteArray.mk #[32]))).bind fun _ =>
 (grd (decide (0 ≤ a) && decide (a < b.length))).bind fun _ =>
 callK call 28 [(V.agg [(getD (getD b a.toNat []) 0 V.any), (getD (getD b a.toNat []) 1 V.any), (getD (getD b a.toNat []) 2 V.any), (getD (getD b a.toNat []) 3 V.any), (getD (getD b a.toNat []) 4 V.any)], false)] σ 1 (fun h i =>
 (V.asStr (getD h 0 cellD).1).bind fun s4 =>
 (grd (strRoom (c ++ (ByteArray.mk #[32])) s4)).bind fun _ =>
 rec1 ((c ++ (ByteArray.mk #[32])) ++ s4) (wrap .i64 (a + (1 : Int))) d e f g b i) pnK
 else
 (grd (strRoom c (ByteArray.mk #[41]))).bind fun _ =>
 some (.ret [(V.str (c ++ (ByteArray.mk #[41])), false)], σ)
noncomputable def rprintTerml1 (call : CallF) (n : Nat) : Nat → ByteArray → Int → Int → Int → ByteArray → LL → LL → RR
 | 0 => fun _ _ _ _ _ _ _ _ => none
 | m + 1 => rprintTerms1 call (rprintTerml1 call n m)
noncomputable def rprintTermt1 (a : ByteArray) (b c d : Int) (e : ByteArray) (f g : LL) (σ : Sto) : St := ⟨[.dead, .lptr 1 0, .dead, .val (V.str a) false, .dead, .val (V.int .i64 b) false] ++ dd 55 [], [[], [(V.int .i64 c, false), (V.int .i64 d, false), (V.str e, false), (V.slice 3 92 f, false), (V.slice 5 44 g, false)]] ++ nn 59 [], σ⟩
noncomputable def rprintTerms0 (call : CallF) (L1 rec0 : ByteArray → Int → Int → Int → ByteArray → LL → LL → RR) (c : ByteArray) (a d e : Int) (f : ByteArray) (b g : LL) (σ : Sto) : Option Res :=
 bif (decide (a < (b.length : Int))) then
 (grd (strRoom c (ByteArray.mk #[32]))).bind fun _ =>
 (grd (decide (0 ≤ a) && decide (a < b.length))).bind fun _ =>
 callK call 45 [(V.agg [(getD (getD b a.toNat []) 0 V.any), (getD (getD b a.toNat []) 1 V.any), (getD (getD b a.toNat []) 2 V.any)], false)] σ 1 (fun h i =>
 (V.asStr (getD h 0 cellD).1).bind fun s4 =>
 (grd (strRoom (c ++ (ByteArray.mk #[32])) s4)).bind fun _ =>
 rec0 ((c ++ (ByteArray.mk #[32])) ++ s4) (wrap .i64 (a + (1 : Int))) d e f b g i) pnK
 else
 L1 c (0 : Int) d e f b g σ
noncomputable def rprintTerml0 (call : CallF) (n : Nat) : Nat → ByteArray → Int → Int → Int → ByteArray → LL → LL → RR
 | 0 => fun _ _ _ _ _ _ _ _ => none
 | m + 1 => rprintTerms0 call (rprintTerml1 call n n) (rprintTerml0 call n m)
noncomputable def rprintTermt0 (a : ByteArray) (b c d : Int) (e : ByteArray) (f g : LL) (σ : Sto) : St := ⟨[.dead, .lptr 1 0, .dead, .val (V.str a) false, .val (V.int .i64 b) false] ++ dd 56 [], [[], [(V.int .i64 c, false), (V.int .i64 d, false), (V.str e, false), (V.slice 3 92 f, false), (V.slice 5 44 g, false)]] ++ nn 59 [], σ⟩
noncomputable def rprintTermF (call : CallF) (L0 : ByteArray → Int → Int → Int → ByteArray → LL → LL → RR) (a c : Int) (b : ByteArray) (d e : LL) (σ : Sto) : Option Res :=
 bif (a == (0 : Int)) then
 callK call 27 [(V.int .i64 c, false)] σ 1 (fun f g =>
 (V.asStr (getD f 0 cellD).1).bind fun s4 =>
 (grd (strRoom (ByteArray.mk #[35]) s4)).bind fun _ =>
 some (.ret [(V.str ((ByteArray.mk #[35]) ++ s4), false)], g)) pnK
 else
 (V.asSlice (getD [V.slice 1 9 [[V.str ⟨#[]⟩], [V.str ⟨#[115, 111, 114, 116]⟩], [V.str ⟨#[99, 111, 110, 115, 116]⟩], [V.str ⟨#[97, 112, 112]⟩], [V.str ⟨#[108, 97, 109]⟩], [V.str ⟨#[112, 105]⟩], [V.str ⟨#[108, 101, 116]⟩]]] 0 V.any) 1 9).bind fun l5 =>
 (grd (decide (0 ≤ a) && decide (a < l5.length))).bind fun _ =>
 (V.asStr (getD (getD l5 a.toNat []) 0 V.any)).bind fun s6 =>
 (grd (strRoom (ByteArray.mk #[40]) s6)).bind fun _ =>
 bif (a == (2 : Int)) then
 (grd (strRoom ((ByteArray.mk #[40]) ++ s6) (ByteArray.mk #[32]))).bind fun _ =>
 (grd (strRoom (((ByteArray.mk #[40]) ++ s6) ++ (ByteArray.mk #[32])) b)).bind fun _ =>
 L0 ((((ByteArray.mk #[40]) ++ s6) ++ (ByteArray.mk #[32])) ++ b) (0 : Int) a c b d e σ
 else
 L0 ((ByteArray.mk #[40]) ++ s6) (0 : Int) a c b d e σ
noncomputable def rprintTerm (call : CallF) (n : Nat) (a b : Int) (c : ByteArray) (d e : LL) (σ : Sto) : Option Res := rprintTermF call (rprintTerml0 call n n) a b c d e σ
theorem rprintTerms1_eq (call : CallF) (n : Nat) (F1 : St → Option Res) (a : ByteArray) (b c d : Int) (e : ByteArray) (f g : LL) (σ : Sto) :
  aexec C rprintTermH call n (cp [0,0,1,0,1,1,1,1,1] rprintTermC) 0 (rprintTermt1 a b c d e f g σ) (kloop rprintTermk1 F1 (kblk 2 (kseq (fun st' => aexec C rprintTermH call n (cp [1,1,1,1,1,1] rprintTermC) 0 st' (kfin C rprintTermD)) (kfin C rprintTermD)))) =
  rprintTerms1 call (fun a b c d e f g σ => F1 (rprintTermt1 a b c d e f g σ)) a b c d e f g σ := by kernel_rfl
theorem rprintTerml1_eq (call : CallF) (n : Nat) : ∀ (m : Nat) (a : ByteArray) (b c d : Int) (e : ByteArray) (f g : LL) (σ : Sto),
  aloop (fun st K => aexec C rprintTermH call n (cp [0,0,1,0,1,1,1,1,1] rprintTermC) 0 st K) rprintTermk1 m (rprintTermt1 a b c d e f g σ) (kblk 2 (kseq (fun st' => aexec C rprintTermH call n (cp [1,1,1,1,1,1] rprintTermC) 0 st' (kfin C rprintTermD)) (kfin C rprintTermD))) = rprintTerml1 call n m a b c d e f g σ
 | 0, a, b, c, d, e, f, g, σ => rfl
 | m + 1, a, b, c, d, e, f, g, σ => by
  rw [aloop, rprintTerms1_eq]
  simp only [rprintTerml1_eq call n m]
  rfl
theorem rprintTerms0_eq (call : CallF) (n : Nat) (F0 : St → Option Res) (a : ByteArray) (g b c : Int) (d : ByteArray) (e f : LL) (σ : Sto) :
  aexec C rprintTermH call n (cp [0,0,1,0,1,1,1,1] rprintTermC) 0 (rprintTermt0 a g b c d e f σ) (kloop rprintTermk0 F0 (kblk 0 (kseq (fun st' => aexec C rprintTermH call n (cp [1,1,1,1,1] rprintTermC) 0 st' (kfin C rprintTermD)) (kfin C rprintTermD)))) =
  rprintTerms0 call (fun a h b c d e f σ => aloop (fun st K => aexec C rprintTermH call n (cp [0,0,1,0,1,1,1,1,1] rprintTermC) 0 st K) rprintTermk1 n (rprintTermt1 a h b c d e f σ) (kblk 2 (kseq (fun st' => aexec C rprintTermH call n (cp [1,1,1,1,1,1] rprintTermC) 0 st' (kfin C rprintTermD)) (kfin C rprintTermD)))) (fun a g b c d e f σ => F0 (rprintTermt0 a g b c d e f σ)) a g b c d e f σ := by kernel_rfl
theorem rprintTerml0_eq (call : CallF) (n : Nat) : ∀ (m : Nat) (a : ByteArray) (b c d : Int) (e : ByteArray) (f g : LL) (σ : Sto),
  aloop (fun st K => aexec C rprintTermH call n (cp [0,0,1,0,1,1,1,1] rprintTermC) 0 st K) rprintTermk0 m (rprintTermt0 a b c d e f g σ) (kblk 0 (kseq (fun st' => aexec C rprintTermH call n (cp [1,1,1,1,1] rprintTermC) 0 st' (kfin C rprintTermD)) (kfin C rprintTermD))) = rprintTerml0 call n m a b c d e f g σ
 | 0, a, b, c, d, e, f, g, σ => rfl
 | m + 1, a, b, c, d, e, f, g, σ => by
  rw [aloop, rprintTerms0_eq]
  simp only [rprintTerml0_eq call n m, rprintTerml1_eq]
  rfl
theorem rprintTerm_eqF (call : CallF) (n : Nat) (a b : Int) (c : ByteArray) (d e : LL) (σ : Sto) : afun C rprintTermD call n [(V.agg [V.int .i64 a, V.int .i64 b, V.str c, V.slice 3 92 d, V.slice 5 44 e], false)] σ =
  rprintTermF call (fun f g h i j k o σ => aloop (fun st K => aexec C rprintTermH call n (cp [0,0,1,0,1,1,1,1] rprintTermC) 0 st K) rprintTermk0 n (rprintTermt0 f g h i j k o σ) (kblk 0 (kseq (fun st' => aexec C rprintTermH call n (cp [1,1,1,1,1] rprintTermC) 0 st' (kfin C rprintTermD)) (kfin C rprintTermD)))) a b c d e σ := by kernel_rfl
theorem rprintTerm_eq (call : CallF) (n : Nat) (a b : Int) (c : ByteArray) (d e : LL) (σ : Sto) : afun C rprintTermD call n [(V.agg [V.int .i64 a, V.int .i64 b, V.str c, V.slice 3 92 d, V.slice 5 44 e], false)] σ = rprintTerm call n a b c d e σ := by
 rw [rprintTerm_eqF]
 simp only [rprintTerml0_eq]
 rfl
theorem rprintTerm_lim {n : Nat} {a : Int} {b : Int} {c : ByteArray} {e : LL} {f : LL} {b0 : Bool} {σ : Sto} {r : Res} (h : rprintTerm (lim C) n a b c e f σ = some r) : lim C 28 [(V.agg [V.int .i64 a, V.int .i64 b, V.str c, V.slice 3 92 e, V.slice 5 44 f], b0)] σ = some r :=
 lim_of (d := rprintTermD) (by kernel_rfl) (by kernel_rfl) n (show afun C rprintTermD (lim C) n [(V.agg [V.int .i64 a, V.int .i64 b, V.str c, V.slice 3 92 e, V.slice 5 44 f], false)] σ = some r from (rprintTerm_eq (lim C) n a b c e f σ).trans h)
noncomputable def sstepF (call : CallF) (a : Nat) (σ : Sto) : Option Res :=
 (memGet σ (V.ptr 55 a 1) false 1).bind fun m1 =>
 callK call 46 [(V.ptr 55 a 0, false), (m1, false), ((V.func (.func 47) [] []), false)] σ 1 (fun q r =>
 (grd (V.fits (getD q 0 cellD).1 false 1)).bind fun _ =>
 (memSet r (V.ptr 55 a 3) [((getD q 0 cellD).1, false)]).bind fun m5 =>
 (memGet m5 (V.ptr 55 a 3) false 1).bind fun m6 =>
 (memGet m5 (V.ptr 55 a 0) false 1).bind fun m7 =>
 (V.asStr m7).bind fun s8 =>
 (V.asInt m6 .i64).bind fun i9 =>
 bif (i9 == (s8.size : Int)) then
 (memGet m5 (V.ptr 55 a 3) false 1).bind fun m10 =>
 (memSet m5 (V.ptr 55 a 2) [(V.str ⟨#[]⟩, false)]).bind fun m11 =>
 (grd (V.fits m10 false 1)).bind fun _ =>
 (memSet m11 (V.ptr 55 a 1) [(m10, false)]).bind fun m12 =>
 some (.ret [], m12)
 else
 (memGet m5 (V.ptr 55 a 3) false 1).bind fun m13 =>
 (V.asInt m13 .i64).bind fun i14 =>
 (memGet m5 (V.ptr 55 a 0) false 1).bind fun m15 =>
 (memGet m5 (V.ptr 55 a 3) false 1).bind fun m16 =>
 (V.asStr m15).bind fun s17 =>
 (V.asInt m16 .i64).bind fun i18 =>
 (grd (decide (0 ≤ i18) && decide (i18 < s17.size))).bind fun _ =>
 bif ((byteAt s17 i18.toNat) == (40 : Int)) then
 bif (decide ((wrap .i64 (i14 + (1 : Int))) < (0 : Int))) then
 (memSet m5 (V.ptr 55 a 2) [(V.str ⟨#[0]⟩, false)]).bind fun m19 =>
 some (.ret [], m19)
 else
 (memGet m5 (V.ptr 55 a 0) false 1).bind fun m20 =>
 (memGet m5 (V.ptr 55 a 3) false 1).bind fun m21 =>
 (V.asStr m20).bind fun s22 =>
 (V.asInt m21 .i64).bind fun i23 =>
 (grd (decide (0 ≤ i23) && decide (i23 ≤ (wrap .i64 (i14 + (1 : Int)))) && decide ((wrap .i64 (i14 + (1 : Int))) ≤ s22.size))).bind fun _ =>
 (memSet m5 (V.ptr 55 a 2) [((V.str (s22.extract i23.toNat (Int.toNat (wrap .i64 (i14 + (1 : Int)))))), false)]).bind fun m24 =>
 (memSet m24 (V.ptr 55 a 1) [((V.int .i64 (wrap .i64 (i14 + (1 : Int)))), false)]).bind fun m25 =>
 some (.ret [], m25)
 else
 bif ((byteAt s17 i18.toNat) == (41 : Int)) then
 bif (decide ((wrap .i64 (i14 + (1 : Int))) < (0 : Int))) then
 (memSet m5 (V.ptr 55 a 2) [(V.str ⟨#[0]⟩, false)]).bind fun m26 =>
 some (.ret [], m26)
 else
 (memGet m5 (V.ptr 55 a 0) false 1).bind fun m27 =>
 (memGet m5 (V.ptr 55 a 3) false 1).bind fun m28 =>
 (V.asStr m27).bind fun s29 =>
 (V.asInt m28 .i64).bind fun i30 =>
 (grd (decide (0 ≤ i30) && decide (i30 ≤ (wrap .i64 (i14 + (1 : Int)))) && decide ((wrap .i64 (i14 + (1 : Int))) ≤ s29.size))).bind fun _ =>
 (memSet m5 (V.ptr 55 a 2) [((V.str (s29.extract i30.toNat (Int.toNat (wrap .i64 (i14 + (1 : Int)))))), false)]).bind fun m31 =>
 (memSet m31 (V.ptr 55 a 1) [((V.int .i64 (wrap .i64 (i14 + (1 : Int)))), false)]).bind fun m32 =>
 some (.ret [], m32)
 else
 callK call 48 [(V.int .u8 (byteAt s17 i18.toNat), false)] m5 1 (fun s j =>
 (V.asBool (getD s 0 cellD).1).bind fun b36 =>
 bif b36 then
 (memGet j (V.ptr 55 a 3) false 1).bind fun m37 =>
 callK call 46 [(V.ptr 55 a 0, false), (m37, false), ((V.func (.func 49) [] []), false)] j 1 (fun o k =>
 (memGet k (V.ptr 55 a 3) false 1).bind fun m41 =>
 (V.asInt (getD o 0 cellD).1 .i64).bind fun i42 =>
 (V.asInt m41 .i64).bind fun i43 =>
 bif (decide ((wrap .i64 (i42 - i43)) > (40 : Int))) then
 (memSet k (V.ptr 55 a 2) [(V.str ⟨#[0]⟩, false)]).bind fun m44 =>
 some (.ret [], m44)
 else
 (V.asInt (getD o 0 cellD).1 .i64).bind fun i45 =>
 bif (decide (i45 < (0 : Int))) then
 (memSet k (V.ptr 55 a 2) [(V.str ⟨#[0]⟩, false)]).bind fun m46 =>
 some (.ret [], m46)
 else
 (memGet k (V.ptr 55 a 0) false 1).bind fun m47 =>
 (memGet k (V.ptr 55 a 3) false 1).bind fun m48 =>
 (V.asStr m47).bind fun s49 =>
 (V.asInt m48 .i64).bind fun i50 =>
 (V.asInt (getD o 0 cellD).1 .i64).bind fun i51 =>
 (grd (decide (0 ≤ i50) && decide (i50 ≤ i51) && decide (i51 ≤ s49.size))).bind fun _ =>
 (memSet k (V.ptr 55 a 2) [(V.str (s49.extract i50.toNat i51.toNat), false)]).bind fun m52 =>
 (grd (V.fits (getD o 0 cellD).1 false 1)).bind fun _ =>
 (memSet m52 (V.ptr 55 a 1) [((getD o 0 cellD).1, false)]).bind fun m53 =>
 some (.ret [], m53)) pnK
 else
 bif ((byteAt s17 i18.toNat) == (35 : Int)) then
 (memGet j (V.ptr 55 a 3) false 1).bind fun m54 =>
 bif ((byteAt s17 i18.toNat) == (35 : Int)) then
 (V.asInt m54 .i64).bind fun i55 =>
 callK call 46 [(V.ptr 55 a 0, false), ((V.int .i64 (wrap .i64 (i55 + (1 : Int)))), false), ((V.func (.func 50) [] []), false)] j 1 (fun f b =>
 (V.asInt (getD f 0 cellD).1 .i64).bind fun i59 =>
 bif ((wrap .i64 (i59 - (wrap .i64 (i55 + (1 : Int))))) == (0 : Int)) then
 (memSet b (V.ptr 55 a 2) [(V.str ⟨#[0]⟩, false)]).bind fun m60 =>
 some (.ret [], m60)
 else
 bif (decide ((wrap .i64 (i59 - (wrap .i64 (i55 + (1 : Int))))) > (5 : Int))) then
 (memSet b (V.ptr 55 a 2) [(V.str ⟨#[0]⟩, false)]).bind fun m61 =>
 some (.ret [], m61)
 else
 bif (decide ((wrap .i64 (i59 - (wrap .i64 (i55 + (1 : Int))))) > (1 : Int))) then
 (memGet b (V.ptr 55 a 0) false 1).bind fun m62 =>
 (V.asStr m62).bind fun s63 =>
 (grd (decide (0 ≤ (wrap .i64 (i55 + (1 : Int)))) && decide ((wrap .i64 (i55 + (1 : Int))) < s63.size))).bind fun _ =>
 bif ((byteAt s63 (Int.toNat (wrap .i64 (i55 + (1 : Int))))) == (48 : Int)) then
 (memSet b (V.ptr 55 a 2) [(V.str ⟨#[0]⟩, false)]).bind fun m64 =>
 some (.ret [], m64)
 else
 (V.asInt (getD f 0 cellD).1 .i64).bind fun i65 =>
 bif (decide (i65 < (0 : Int))) then
 (memSet b (V.ptr 55 a 2) [(V.str ⟨#[0]⟩, false)]).bind fun m66 =>
 some (.ret [], m66)
 else
 (memGet b (V.ptr 55 a 0) false 1).bind fun m67 =>
 (memGet b (V.ptr 55 a 3) false 1).bind fun m68 =>
 (V.asStr m67).bind fun s69 =>
 (V.asInt m68 .i64).bind fun i70 =>
 (V.asInt (getD f 0 cellD).1 .i64).bind fun i71 =>
 (grd (decide (0 ≤ i70) && decide (i70 ≤ i71) && decide (i71 ≤ s69.size))).bind fun _ =>
 (memSet b (V.ptr 55 a 2) [(V.str (s69.extract i70.toNat i71.toNat), false)]).bind fun m72 =>
 (grd (V.fits (getD f 0 cellD).1 false 1)).bind fun _ =>
 (memSet m72 (V.ptr 55 a 1) [((getD f 0 cellD).1, false)]).bind fun m73 =>
 some (.ret [], m73)
 else
 (V.asInt (getD f 0 cellD).1 .i64).bind fun i74 =>
 bif (decide (i74 < (0 : Int))) then
 (memSet b (V.ptr 55 a 2) [(V.str ⟨#[0]⟩, false)]).bind fun m75 =>
 some (.ret [], m75)
 else
 (memGet b (V.ptr 55 a 0) false 1).bind fun m76 =>
 (memGet b (V.ptr 55 a 3) false 1).bind fun m77 =>
 (V.asStr m76).bind fun s78 =>
 (V.asInt m77 .i64).bind fun i79 =>
 (V.asInt (getD f 0 cellD).1 .i64).bind fun i80 =>
 (grd (decide (0 ≤ i79) && decide (i79 ≤ i80) && decide (i80 ≤ s78.size))).bind fun _ =>
 (memSet b (V.ptr 55 a 2) [(V.str (s78.extract i79.toNat i80.toNat), false)]).bind fun m81 =>
 (grd (V.fits (getD f 0 cellD).1 false 1)).bind fun _ =>
 (memSet m81 (V.ptr 55 a 1) [((getD f 0 cellD).1, false)]).bind fun m82 =>
 some (.ret [], m82)) pnK
 else
 callK call 46 [(V.ptr 55 a 0, false), (m54, false), ((V.func (.func 50) [] []), false)] j 1 (fun g c =>
 (V.asInt (getD g 0 cellD).1 .i64).bind fun i86 =>
 (V.asInt m54 .i64).bind fun i87 =>
 bif ((wrap .i64 (i86 - i87)) == (0 : Int)) then
 (memSet c (V.ptr 55 a 2) [(V.str ⟨#[0]⟩, false)]).bind fun m88 =>
 some (.ret [], m88)
 else
 bif (decide ((wrap .i64 (i86 - i87)) > (5 : Int))) then
 (memSet c (V.ptr 55 a 2) [(V.str ⟨#[0]⟩, false)]).bind fun m89 =>
 some (.ret [], m89)
 else
 bif (decide ((wrap .i64 (i86 - i87)) > (1 : Int))) then
 (memGet c (V.ptr 55 a 0) false 1).bind fun m90 =>
 (V.asStr m90).bind fun s91 =>
 (V.asInt m54 .i64).bind fun i92 =>
 (grd (decide (0 ≤ i92) && decide (i92 < s91.size))).bind fun _ =>
 bif ((byteAt s91 i92.toNat) == (48 : Int)) then
 (memSet c (V.ptr 55 a 2) [(V.str ⟨#[0]⟩, false)]).bind fun m93 =>
 some (.ret [], m93)
 else
 (V.asInt (getD g 0 cellD).1 .i64).bind fun i94 =>
 bif (decide (i94 < (0 : Int))) then
 (memSet c (V.ptr 55 a 2) [(V.str ⟨#[0]⟩, false)]).bind fun m95 =>
 some (.ret [], m95)
 else
 (memGet c (V.ptr 55 a 0) false 1).bind fun m96 =>
 (memGet c (V.ptr 55 a 3) false 1).bind fun m97 =>
 (V.asStr m96).bind fun s98 =>
 (V.asInt m97 .i64).bind fun i99 =>
 (V.asInt (getD g 0 cellD).1 .i64).bind fun i100 =>
 (grd (decide (0 ≤ i99) && decide (i99 ≤ i100) && decide (i100 ≤ s98.size))).bind fun _ =>
 (memSet c (V.ptr 55 a 2) [(V.str (s98.extract i99.toNat i100.toNat), false)]).bind fun m101 =>
 (grd (V.fits (getD g 0 cellD).1 false 1)).bind fun _ =>
 (memSet m101 (V.ptr 55 a 1) [((getD g 0 cellD).1, false)]).bind fun m102 =>
 some (.ret [], m102)
 else
 (V.asInt (getD g 0 cellD).1 .i64).bind fun i103 =>
 bif (decide (i103 < (0 : Int))) then
 (memSet c (V.ptr 55 a 2) [(V.str ⟨#[0]⟩, false)]).bind fun m104 =>
 some (.ret [], m104)
 else
 (memGet c (V.ptr 55 a 0) false 1).bind fun m105 =>
 (memGet c (V.ptr 55 a 3) false 1).bind fun m106 =>
 (V.asStr m105).bind fun s107 =>
 (V.asInt m106 .i64).bind fun i108 =>
 (V.asInt (getD g 0 cellD).1 .i64).bind fun i109 =>
 (grd (decide (0 ≤ i108) && decide (i108 ≤ i109) && decide (i109 ≤ s107.size))).bind fun _ =>
 (memSet c (V.ptr 55 a 2) [(V.str (s107.extract i108.toNat i109.toNat), false)]).bind fun m110 =>
 (grd (V.fits (getD g 0 cellD).1 false 1)).bind fun _ =>
 (memSet m110 (V.ptr 55 a 1) [((getD g 0 cellD).1, false)]).bind fun m111 =>
 some (.ret [], m111)) pnK
 else
 callK call 50 [(V.int .u8 (byteAt s17 i18.toNat), false)] j 1 (fun t p =>
 (V.asBool (getD t 0 cellD).1).bind fun b115 =>
 bif b115 then
 (memGet p (V.ptr 55 a 3) false 1).bind fun m116 =>
 bif ((byteAt s17 i18.toNat) == (35 : Int)) then
 (V.asInt m116 .i64).bind fun i117 =>
 callK call 46 [(V.ptr 55 a 0, false), ((V.int .i64 (wrap .i64 (i117 + (1 : Int)))), false), ((V.func (.func 50) [] []), false)] p 1 (fun h d =>
 (V.asInt (getD h 0 cellD).1 .i64).bind fun i121 =>
 bif ((wrap .i64 (i121 - (wrap .i64 (i117 + (1 : Int))))) == (0 : Int)) then
 (memSet d (V.ptr 55 a 2) [(V.str ⟨#[0]⟩, false)]).bind fun m122 =>
 some (.ret [], m122)
 else
 bif (decide ((wrap .i64 (i121 - (wrap .i64 (i117 + (1 : Int))))) > (5 : Int))) then
 (memSet d (V.ptr 55 a 2) [(V.str ⟨#[0]⟩, false)]).bind fun m123 =>
 some (.ret [], m123)
 else
 bif (decide ((wrap .i64 (i121 - (wrap .i64 (i117 + (1 : Int))))) > (1 : Int))) then
 (memGet d (V.ptr 55 a 0) false 1).bind fun m124 =>
 (V.asStr m124).bind fun s125 =>
 (grd (decide (0 ≤ (wrap .i64 (i117 + (1 : Int)))) && decide ((wrap .i64 (i117 + (1 : Int))) < s125.size))).bind fun _ =>
 bif ((byteAt s125 (Int.toNat (wrap .i64 (i117 + (1 : Int))))) == (48 : Int)) then
 (memSet d (V.ptr 55 a 2) [(V.str ⟨#[0]⟩, false)]).bind fun m126 =>
 some (.ret [], m126)
 else
 (V.asInt (getD h 0 cellD).1 .i64).bind fun i127 =>
 bif (decide (i127 < (0 : Int))) then
 (memSet d (V.ptr 55 a 2) [(V.str ⟨#[0]⟩, false)]).bind fun m128 =>
 some (.ret [], m128)
 else
 (memGet d (V.ptr 55 a 0) false 1).bind fun m129 =>
 (memGet d (V.ptr 55 a 3) false 1).bind fun m130 =>
 (V.asStr m129).bind fun s131 =>
 (V.asInt m130 .i64).bind fun i132 =>
 (V.asInt (getD h 0 cellD).1 .i64).bind fun i133 =>
 (grd (decide (0 ≤ i132) && decide (i132 ≤ i133) && decide (i133 ≤ s131.size))).bind fun _ =>
 (memSet d (V.ptr 55 a 2) [(V.str (s131.extract i132.toNat i133.toNat), false)]).bind fun m134 =>
 (grd (V.fits (getD h 0 cellD).1 false 1)).bind fun _ =>
 (memSet m134 (V.ptr 55 a 1) [((getD h 0 cellD).1, false)]).bind fun m135 =>
 some (.ret [], m135)
 else
 (V.asInt (getD h 0 cellD).1 .i64).bind fun i136 =>
 bif (decide (i136 < (0 : Int))) then
 (memSet d (V.ptr 55 a 2) [(V.str ⟨#[0]⟩, false)]).bind fun m137 =>
 some (.ret [], m137)
 else
 (memGet d (V.ptr 55 a 0) false 1).bind fun m138 =>
 (memGet d (V.ptr 55 a 3) false 1).bind fun m139 =>
 (V.asStr m138).bind fun s140 =>
 (V.asInt m139 .i64).bind fun i141 =>
 (V.asInt (getD h 0 cellD).1 .i64).bind fun i142 =>
 (grd (decide (0 ≤ i141) && decide (i141 ≤ i142) && decide (i142 ≤ s140.size))).bind fun _ =>
 (memSet d (V.ptr 55 a 2) [(V.str (s140.extract i141.toNat i142.toNat), false)]).bind fun m143 =>
 (grd (V.fits (getD h 0 cellD).1 false 1)).bind fun _ =>
 (memSet m143 (V.ptr 55 a 1) [((getD h 0 cellD).1, false)]).bind fun m144 =>
 some (.ret [], m144)) pnK
 else
 callK call 46 [(V.ptr 55 a 0, false), (m116, false), ((V.func (.func 50) [] []), false)] p 1 (fun i e =>
 (V.asInt (getD i 0 cellD).1 .i64).bind fun i148 =>
 (V.asInt m116 .i64).bind fun i149 =>
 bif ((wrap .i64 (i148 - i149)) == (0 : Int)) then
 (memSet e (V.ptr 55 a 2) [(V.str ⟨#[0]⟩, false)]).bind fun m150 =>
 some (.ret [], m150)
 else
 bif (decide ((wrap .i64 (i148 - i149)) > (5 : Int))) then
 (memSet e (V.ptr 55 a 2) [(V.str ⟨#[0]⟩, false)]).bind fun m151 =>
 some (.ret [], m151)
 else
 bif (decide ((wrap .i64 (i148 - i149)) > (1 : Int))) then
 (memGet e (V.ptr 55 a 0) false 1).bind fun m152 =>
 (V.asStr m152).bind fun s153 =>
 (V.asInt m116 .i64).bind fun i154 =>
 (grd (decide (0 ≤ i154) && decide (i154 < s153.size))).bind fun _ =>
 bif ((byteAt s153 i154.toNat) == (48 : Int)) then
 (memSet e (V.ptr 55 a 2) [(V.str ⟨#[0]⟩, false)]).bind fun m155 =>
 some (.ret [], m155)
 else
 (V.asInt (getD i 0 cellD).1 .i64).bind fun i156 =>
 bif (decide (i156 < (0 : Int))) then
 (memSet e (V.ptr 55 a 2) [(V.str ⟨#[0]⟩, false)]).bind fun m157 =>
 some (.ret [], m157)
 else
 (memGet e (V.ptr 55 a 0) false 1).bind fun m158 =>
 (memGet e (V.ptr 55 a 3) false 1).bind fun m159 =>
 (V.asStr m158).bind fun s160 =>
 (V.asInt m159 .i64).bind fun i161 =>
 (V.asInt (getD i 0 cellD).1 .i64).bind fun i162 =>
 (grd (decide (0 ≤ i161) && decide (i161 ≤ i162) && decide (i162 ≤ s160.size))).bind fun _ =>
 (memSet e (V.ptr 55 a 2) [(V.str (s160.extract i161.toNat i162.toNat), false)]).bind fun m163 =>
 (grd (V.fits (getD i 0 cellD).1 false 1)).bind fun _ =>
 (memSet m163 (V.ptr 55 a 1) [((getD i 0 cellD).1, false)]).bind fun m164 =>
 some (.ret [], m164)
 else
 (V.asInt (getD i 0 cellD).1 .i64).bind fun i165 =>
 bif (decide (i165 < (0 : Int))) then
 (memSet e (V.ptr 55 a 2) [(V.str ⟨#[0]⟩, false)]).bind fun m166 =>
 some (.ret [], m166)
 else
 (memGet e (V.ptr 55 a 0) false 1).bind fun m167 =>
 (memGet e (V.ptr 55 a 3) false 1).bind fun m168 =>
 (V.asStr m167).bind fun s169 =>
 (V.asInt m168 .i64).bind fun i170 =>
 (V.asInt (getD i 0 cellD).1 .i64).bind fun i171 =>
 (grd (decide (0 ≤ i170) && decide (i170 ≤ i171) && decide (i171 ≤ s169.size))).bind fun _ =>
 (memSet e (V.ptr 55 a 2) [(V.str (s169.extract i170.toNat i171.toNat), false)]).bind fun m172 =>
 (grd (V.fits (getD i 0 cellD).1 false 1)).bind fun _ =>
 (memSet m172 (V.ptr 55 a 1) [((getD i 0 cellD).1, false)]).bind fun m173 =>
 some (.ret [], m173)) pnK
 else
 (memSet p (V.ptr 55 a 2) [(V.str ⟨#[0]⟩, false)]).bind fun m174 =>
 some (.ret [], m174)) pnK) pnK) pnK
noncomputable def sstep (call : CallF) (n a : Nat) (σ : Sto) : Option Res := sstepF call a σ
theorem sstep_eqF (call : CallF) (n a : Nat) (σ : Sto) : afun C sstepD call n [(V.ptr 55 a 0, false)] σ =
  sstepF call a σ := by kernel_rfl
theorem sstep_eq (call : CallF) (n a : Nat) (σ : Sto) : afun C sstepD call n [(V.ptr 55 a 0, false)] σ = sstep call n a σ := sstep_eqF call n a σ
theorem sstep_lim {n : Nat} {a : Nat} {b0 : Bool} {σ : Sto} {r : Res} (h : sstep (lim C) n a σ = some r) : lim C 29 [(V.ptr 55 a 0, b0)] σ = some r :=
 lim_of (d := sstepD) (by kernel_rfl) (by kernel_rfl) n (show afun C sstepD (lim C) n [(V.ptr 55 a 0, false)] σ = some r from (sstep_eq (lim C) n a σ).trans h)
noncomputable def stakeF (call : CallF) (a : Nat) (b : ByteArray) (σ : Sto) : Option Res :=
 (memGet σ (V.ptr 55 a 2) false 1).bind fun m1 =>
 (V.asStr m1).bind fun s2 =>
 bif (!(s2.toList == b.toList)) then
 callK call 32 [(V.ptr 55 a 0, false)] σ 0 (fun f c =>
 callK call 29 [(V.ptr 55 a 0, false)] c 0 (fun g d =>
 some (.ret [], d)) pnK) pnK
 else
 callK call 29 [(V.ptr 55 a 0, false)] σ 0 (fun h e =>
 some (.ret [], e)) pnK
noncomputable def stake (call : CallF) (n a : Nat) (b : ByteArray) (σ : Sto) : Option Res := stakeF call a b σ
theorem stake_eqF (call : CallF) (n a : Nat) (b : ByteArray) (σ : Sto) : afun C stakeD call n [(V.ptr 55 a 0, false), (V.str b, false)] σ =
  stakeF call a b σ := by kernel_rfl
theorem stake_eq (call : CallF) (n a : Nat) (b : ByteArray) (σ : Sto) : afun C stakeD call n [(V.ptr 55 a 0, false), (V.str b, false)] σ = stake call n a b σ := stake_eqF call n a b σ
theorem stake_lim {n : Nat} {a : Nat} {b : ByteArray} {b0 b1 : Bool} {σ : Sto} {r : Res} (h : stake (lim C) n a b σ = some r) : lim C 30 [(V.ptr 55 a 0, b0), (V.str b, b1)] σ = some r :=
 lim_of (d := stakeD) (by kernel_rfl) (by kernel_rfl) n (show afun C stakeD (lim C) n [(V.ptr 55 a 0, false), (V.str b, false)] σ = some r from (stake_eq (lim C) n a b σ).trans h)
noncomputable def sfailF (call : CallF) (a : Nat) (σ : Sto) : Option Res :=
 (memGet σ (V.ptr 55 a 3) false 1).bind fun m1 =>
 (grd ((V.fits m1 false 1 && true))).bind fun _ =>
 some (.pan (V.iface 49 (V.ptr 33 (List.length σ) 0)), (σ ++ [[((V.int .i64 (1 : Int)), false), (m1, false)]]))
noncomputable def sfail (call : CallF) (n a : Nat) (σ : Sto) : Option Res := sfailF call a σ
theorem sfail_eqF (call : CallF) (n a : Nat) (σ : Sto) : afun C sfailD call n [(V.ptr 55 a 0, false)] σ =
  sfailF call a σ := by kernel_rfl
theorem sfail_eq (call : CallF) (n a : Nat) (σ : Sto) : afun C sfailD call n [(V.ptr 55 a 0, false)] σ = sfail call n a σ := sfail_eqF call n a σ
theorem sfail_lim {n : Nat} {a : Nat} {b0 : Bool} {σ : Sto} {r : Res} (h : sfail (lim C) n a σ = some r) : lim C 32 [(V.ptr 55 a 0, b0)] σ = some r :=
 lim_of (d := sfailD) (by kernel_rfl) (by kernel_rfl) n (show afun C sfailD (lim C) n [(V.ptr 55 a 0, false)] σ = some r from (sfail_eq (lim C) n a σ).trans h)
noncomputable def snameF (call : CallF) (a : Nat) (σ : Sto) : Option Res :=
 (memGet σ (V.ptr 55 a 2) false 1).bind fun m1 =>
 (V.asStr m1).bind fun s2 =>
 bif (s2.toList == (ByteArray.mk #[]).toList) then
 callK call 32 [(V.ptr 55 a 0, false)] σ 0 (fun i c =>
 callK call 29 [(V.ptr 55 a 0, false)] c 0 (fun j d =>
 some (.ret [(m1, false)], d)) pnK) pnK
 else
 (V.asStr m1).bind fun s9 =>
 (grd (decide (0 ≤ (0 : Int)) && decide ((0 : Int) < s9.size))).bind fun _ =>
 callK call 48 [((V.int .u8 (byteAt s9 (Int.toNat (0 : Int)))), false)] σ 1 (fun e b =>
 (V.asBool (getD e 0 cellD).1).bind fun b13 =>
 bif (!b13) then
 callK call 32 [(V.ptr 55 a 0, false)] b 0 (fun k f =>
 callK call 29 [(V.ptr 55 a 0, false)] f 0 (fun o g =>
 some (.ret [(m1, false)], g)) pnK) pnK
 else
 callK call 29 [(V.ptr 55 a 0, false)] b 0 (fun p h =>
 some (.ret [(m1, false)], h)) pnK) pnK
noncomputable def sname (call : CallF) (n a : Nat) (σ : Sto) : Option Res := snameF call a σ
theorem sname_eqF (call : CallF) (n a : Nat) (σ : Sto) : afun C snameD call n [(V.ptr 55 a 0, false)] σ =
  snameF call a σ := by kernel_rfl
theorem sname_eq (call : CallF) (n a : Nat) (σ : Sto) : afun C snameD call n [(V.ptr 55 a 0, false)] σ = sname call n a σ := sname_eqF call n a σ
theorem sname_lim {n : Nat} {a : Nat} {b0 : Bool} {σ : Sto} {r : Res} (h : sname (lim C) n a σ = some r) : lim C 33 [(V.ptr 55 a 0, b0)] σ = some r :=
 lim_of (d := snameD) (by kernel_rfl) (by kernel_rfl) n (show afun C snameD (lim C) n [(V.ptr 55 a 0, false)] σ = some r from (sname_eq (lim C) n a σ).trans h)
noncomputable def readk0 : List Nat := [0, 2, 8, 75, 76]
noncomputable def readk1 : List Nat := [0, 2, 8, 9]
noncomputable def reads0 (call : CallF) (rec0 : Nat → Int → Int → Int → Int → ByteArray → LL → LL → Int → Int → V → LL → LL → RR) (b : Nat) (d e j k : Int) (o : ByteArray) (p q : LL) (f g : Int) (h : V) (i c : LL) (σ : Sto) : Option Res :=
 bif (decide (e < d)) then
 callK call 35 [(V.ptr 55 b 0, false)] σ 1 (fun a r =>
 (grd ((V.fits (getD a 0 cellD).1 true 5 && true))).bind fun _ =>
 (grd (room (List.length c + 1))).bind fun _ =>
 rec0 b d (wrap .i64 (e + (1 : Int))) j k o p q f g h i (c ++ [[V.cell (getD a 0 cellD).1 0, V.cell (getD a 0 cellD).1 1, V.cell (getD a 0 cellD).1 2, V.cell (getD a 0 cellD).1 3, V.cell (getD a 0 cellD).1 4]]) r) pnK
 else
 callK call 30 [(V.ptr 55 b 0, false), (V.str ⟨#[41]⟩, false)] σ 0 (fun t s =>
 some (.ret [(V.agg [V.int .i64 f, V.int .i64 g, h, V.slice 3 92 i, V.slice 5 44 c], false)], s)) pnK
noncomputable def readl0 (call : CallF) (n : Nat) : Nat → Nat → Int → Int → Int → Int → ByteArray → LL → LL → Int → Int → V → LL → LL → RR
 | 0 => fun _ _ _ _ _ _ _ _ _ _ _ _ _ _ => none
 | m + 1 => reads0 call (readl0 call n m)
noncomputable def readt0 (a : Nat) (b c d e : Int) (f : ByteArray) (g h : LL) (i j : Int) (k : V) (o p : LL) (σ : Sto) : St := ⟨[.val (V.ptr 55 a 0) false, .dead, .lptr 2 0] ++ dd 5 ([.lptr 8 0] ++ dd 66 ([.val (V.int .i64 b) false, .val (V.int .i64 c) false] ++ dd 12 [])), [[], [], [(V.int .i64 d, false), (V.int .i64 e, false), (V.str f, false), (V.slice 3 92 g, true), (V.slice 5 44 h, true)]] ++ nn 5 ([[(V.int .i64 i, false), (V.int .i64 j, false), (k, false), (V.slice 3 92 o, true), (V.slice 5 44 p, true)]] ++ nn 80 []), σ⟩
noncomputable def reads1 (call : CallF) (L0 : Nat → Int → Int → Int → Int → ByteArray → LL → LL → Int → Int → V → LL → LL → RR) (rec1 : Nat → Int → Int → Int → ByteArray → LL → LL → Int → Int → V → LL → LL → RR) (a : Nat) (d e f : Int) (g : ByteArray) (h i : LL) (j k : Int) (o : V) (c p : LL) (σ : Sto) : Option Res :=
 (memGet σ (V.ptr 55 a 2) false 1).bind fun m1 =>
 (V.asStr m1).bind fun s2 =>
 bif (!(s2.toList == (ByteArray.mk #[41]).toList)) then
 callK call 55 [(V.ptr 55 a 0, false)] σ 1 (fun b q =>
 (grd ((V.fits (getD b 0 cellD).1 true 3 && true))).bind fun _ =>
 (grd (room (List.length c + 1))).bind fun _ =>
 rec1 a d e f g h i j k o (c ++ [[V.cell (getD b 0 cellD).1 0, V.cell (getD b 0 cellD).1 1, V.cell (getD b 0 cellD).1 2]]) p q) pnK
 else
 L0 a d (0 : Int) e f g h i j k o c p σ
noncomputable def readl1 (call : CallF) (n : Nat) : Nat → Nat → Int → Int → Int → ByteArray → LL → LL → Int → Int → V → LL → LL → RR
 | 0 => fun _ _ _ _ _ _ _ _ _ _ _ _ _ => none
 | m + 1 => reads1 call (readl0 call n n) (readl1 call n m)
noncomputable def readt1 (a : Nat) (b c d : Int) (e : ByteArray) (f g : LL) (h i : Int) (j : V) (k o : LL) (σ : Sto) : St := ⟨[.val (V.ptr 55 a 0) false, .dead, .lptr 2 0] ++ dd 5 ([.lptr 8 0, .val (V.int .i64 b) false] ++ dd 79 []), [[], [], [(V.int .i64 c, false), (V.int .i64 d, false), (V.str e, false), (V.slice 3 92 f, true), (V.slice 5 44 g, true)]] ++ nn 5 ([[(V.int .i64 h, false), (V.int .i64 i, false), (j, false), (V.slice 3 92 k, true), (V.slice 5 44 o, true)]] ++ nn 80 []), σ⟩
noncomputable def readF (call : CallF) (L0 : Nat → Int → Int → Int → Int → ByteArray → LL → LL → Int → Int → V → LL → LL → RR) (L1 : Nat → Int → Int → Int → ByteArray → LL → LL → Int → Int → V → LL → LL → RR) (a : Nat) (σ : Sto) : Option Res :=
 (memGet σ (V.ptr 55 a 2) false 1).bind fun m1 =>
 callK call 53 [(m1, false), (V.str ⟨#[35]⟩, false)] σ 2 (fun g h =>
 (V.asBool (getD g 1 cellD).1).bind fun b5 =>
 bif b5 then
 callK call 34 [((getD g 0 cellD).1, false)] h 2 (fun b i =>
 (V.ifaceNil (getD b 1 cellD).1).bind fun b9 =>
 bif (!b9) then
 callK call 32 [(V.ptr 55 a 0, false)] i 0 (fun a0 q =>
 callK call 29 [(V.ptr 55 a 0, false)] q 0 (fun a1 r =>
 (grd ((V.fits (getD b 0 cellD).1 false 1 && true))).bind fun _ =>
 some (.ret [((V.agg [(V.int .i64 (0 : Int)), (getD b 0 cellD).1, V.str ⟨#[]⟩, V.slice 3 92 [], V.slice 5 44 []]), false)], r)) pnK) pnK
 else
 callK call 29 [(V.ptr 55 a 0, false)] i 0 (fun a2 s =>
 (grd ((V.fits (getD b 0 cellD).1 false 1 && true))).bind fun _ =>
 some (.ret [((V.agg [(V.int .i64 (0 : Int)), (getD b 0 cellD).1, V.str ⟨#[]⟩, V.slice 3 92 [], V.slice 5 44 []]), false)], s)) pnK) pnK
 else
 callK call 30 [(V.ptr 55 a 0, false), (V.str ⟨#[40]⟩, false)] h 0 (fun a3 j =>
 (grd (decide (0 ≤ (1 : Int)) && decide ((1 : Int) ≤ (7 : Int)) && decide ((7 : Int) ≤ (7 : Nat)) && decide ((1 : Int) < (7 : Nat)))).bind fun _ =>
 (memGet j (V.ptr 55 a 2) false 1).bind fun m22 =>
 callK call 54 [((V.slice 1 9 (((List.map (fun v => [v]) [V.str ⟨#[]⟩, V.str ⟨#[115, 111, 114, 116]⟩, V.str ⟨#[99, 111, 110, 115, 116]⟩, V.str ⟨#[97, 112, 112]⟩, V.str ⟨#[108, 97, 109]⟩, V.str ⟨#[112, 105]⟩, V.str ⟨#[108, 101, 116]⟩]).take (Int.toNat (7 : Int))).drop (Int.toNat (1 : Int)))), false), (m22, false)] j 1 (fun t k =>
 (V.asInt (getD t 0 cellD).1 .i64).bind fun i26 =>
 bif ((wrap .i64 (i26 + (1 : Int))) == (0 : Int)) then
 callK call 32 [(V.ptr 55 a 0, false)] k 0 (fun a4 u =>
 callK call 29 [(V.ptr 55 a 0, false)] u 0 (fun a5 c =>
 bif ((wrap .i64 (i26 + (1 : Int))) == (1 : Int)) then
 callK call 55 [(V.ptr 55 a 0, false)] c 1 (fun d w =>
 (grd ((V.fits (getD d 0 cellD).1 true 3 && true))).bind fun _ =>
 L0 a (0 : Int) (0 : Int) (0 : Int) (0 : Int) (ByteArray.mk #[]) [] [] (wrap .i64 (i26 + (1 : Int))) (0 : Int) (V.str ⟨#[]⟩) [[V.cell (getD d 0 cellD).1 0, V.cell (getD d 0 cellD).1 1, V.cell (getD d 0 cellD).1 2]] [] w) pnK
 else
 bif ((wrap .i64 (i26 + (1 : Int))) == (2 : Int)) then
 callK call 33 [(V.ptr 55 a 0, false)] c 1 (fun o x =>
 (grd (V.fits (getD o 0 cellD).1 false 1)).bind fun _ =>
 L1 a (0 : Int) (0 : Int) (0 : Int) (ByteArray.mk #[]) [] [] (wrap .i64 (i26 + (1 : Int))) (0 : Int) (getD o 0 cellD).1 [] [] x) pnK
 else
 bif ((wrap .i64 (i26 + (1 : Int))) == (6 : Int)) then
 L0 a (3 : Int) (0 : Int) (0 : Int) (0 : Int) (ByteArray.mk #[]) [] [] (wrap .i64 (i26 + (1 : Int))) (0 : Int) (V.str ⟨#[]⟩) [] [] c
 else
 L0 a (2 : Int) (0 : Int) (0 : Int) (0 : Int) (ByteArray.mk #[]) [] [] (wrap .i64 (i26 + (1 : Int))) (0 : Int) (V.str ⟨#[]⟩) [] [] c) pnK) pnK
 else
 callK call 29 [(V.ptr 55 a 0, false)] k 0 (fun a6 e =>
 bif ((wrap .i64 (i26 + (1 : Int))) == (1 : Int)) then
 callK call 55 [(V.ptr 55 a 0, false)] e 1 (fun f y =>
 (grd ((V.fits (getD f 0 cellD).1 true 3 && true))).bind fun _ =>
 L0 a (0 : Int) (0 : Int) (0 : Int) (0 : Int) (ByteArray.mk #[]) [] [] (wrap .i64 (i26 + (1 : Int))) (0 : Int) (V.str ⟨#[]⟩) [[V.cell (getD f 0 cellD).1 0, V.cell (getD f 0 cellD).1 1, V.cell (getD f 0 cellD).1 2]] [] y) pnK
 else
 bif ((wrap .i64 (i26 + (1 : Int))) == (2 : Int)) then
 callK call 33 [(V.ptr 55 a 0, false)] e 1 (fun p z =>
 (grd (V.fits (getD p 0 cellD).1 false 1)).bind fun _ =>
 L1 a (0 : Int) (0 : Int) (0 : Int) (ByteArray.mk #[]) [] [] (wrap .i64 (i26 + (1 : Int))) (0 : Int) (getD p 0 cellD).1 [] [] z) pnK
 else
 bif ((wrap .i64 (i26 + (1 : Int))) == (6 : Int)) then
 L0 a (3 : Int) (0 : Int) (0 : Int) (0 : Int) (ByteArray.mk #[]) [] [] (wrap .i64 (i26 + (1 : Int))) (0 : Int) (V.str ⟨#[]⟩) [] [] e
 else
 L0 a (2 : Int) (0 : Int) (0 : Int) (0 : Int) (ByteArray.mk #[]) [] [] (wrap .i64 (i26 + (1 : Int))) (0 : Int) (V.str ⟨#[]⟩) [] [] e) pnK) pnK) pnK) pnK
noncomputable def read (call : CallF) (n a : Nat) (σ : Sto) : Option Res := readF call (readl0 call n n) (readl1 call n n) a σ
theorem reads0_eq (call : CallF) (n : Nat) (F0 : St → Option Res) (a : Nat) (b c d e : Int) (f : ByteArray) (g h : LL) (i j : Int) (k : V) (o p : LL) (σ : Sto) :
  aexec C readH call n (cp [0,0,1,0,1,1,1,1,1,1,1,1,1] readC) 0 (readt0 a b c d e f g h i j k o p σ) (kloop readk0 F0 (kblk 3 (kseq (fun st' => aexec C readH call n (cp [1,1,1,1,1,1,1,1,1,1] readC) 0 st' (kfin C readD)) (kfin C readD)))) =
  reads0 call (fun a b c d e f g h i j k o p σ => F0 (readt0 a b c d e f g h i j k o p σ)) a b c d e f g h i j k o p σ := by kernel_rfl
theorem readl0_eq (call : CallF) (n : Nat) : ∀ (m a : Nat) (b c d e : Int) (f : ByteArray) (g h : LL) (i j : Int) (k : V) (o p : LL) (σ : Sto),
  aloop (fun st K => aexec C readH call n (cp [0,0,1,0,1,1,1,1,1,1,1,1,1] readC) 0 st K) readk0 m (readt0 a b c d e f g h i j k o p σ) (kblk 3 (kseq (fun st' => aexec C readH call n (cp [1,1,1,1,1,1,1,1,1,1] readC) 0 st' (kfin C readD)) (kfin C readD))) = readl0 call n m a b c d e f g h i j k o p σ
 | 0, a, b, c, d, e, f, g, h, i, j, k, o, p, σ => rfl
 | m + 1, a, b, c, d, e, f, g, h, i, j, k, o, p, σ => by
  rw [aloop, reads0_eq]
  simp only [readl0_eq call n m]
  rfl
theorem reads1_eq (call : CallF) (n : Nat) (F1 : St → Option Res) (a : Nat) (o b c : Int) (d : ByteArray) (e f : LL) (g h : Int) (i : V) (j k : LL) (σ : Sto) :
  aexec C readH call n (cp [0,0,1,0,1,1,1,0,1,0,1,1,1,1,1,1,1,1] readC) 0 (readt1 a o b c d e f g h i j k σ) (kloop readk1 F1 (kblk 1 (kblk 0 (kseq (fun st' => aexec C readH call n (cp [1,1,1,1,1,1,1,1,1] readC) 0 st' (kfin C readD)) (kfin C readD))))) =
  reads1 call (fun a p q b c d e f g h i j k σ => aloop (fun st K => aexec C readH call n (cp [0,0,1,0,1,1,1,1,1,1,1,1,1] readC) 0 st K) readk0 n (readt0 a p q b c d e f g h i j k σ) (kblk 3 (kseq (fun st' => aexec C readH call n (cp [1,1,1,1,1,1,1,1,1,1] readC) 0 st' (kfin C readD)) (kfin C readD)))) (fun a o b c d e f g h i j k σ => F1 (readt1 a o b c d e f g h i j k σ)) a o b c d e f g h i j k σ := by kernel_rfl
theorem readl1_eq (call : CallF) (n : Nat) : ∀ (m a : Nat) (b c d : Int) (e : ByteArray) (f g : LL) (h i : Int) (j : V) (k o : LL) (σ : Sto),
  aloop (fun st K => aexec C readH call n (cp [0,0,1,0,1,1,1,0,1,0,1,1,1,1,1,1,1,1] readC) 0 st K) readk1 m (readt1 a b c d e f g h i j k o σ) (kblk 1 (kblk 0 (kseq (fun st' => aexec C readH call n (cp [1,1,1,1,1,1,1,1,1] readC) 0 st' (kfin C readD)) (kfin C readD)))) = readl1 call n m a b c d e f g h i j k o σ
 | 0, a, b, c, d, e, f, g, h, i, j, k, o, σ => rfl
 | m + 1, a, b, c, d, e, f, g, h, i, j, k, o, σ => by
  rw [aloop, reads1_eq]
  simp only [readl1_eq call n m, readl0_eq]
  rfl
theorem read_eqF (call : CallF) (n a : Nat) (σ : Sto) : afun C readD call n [(V.ptr 55 a 0, false)] σ =
  readF call (fun a o p b c d e f g h i j k σ => aloop (fun st K => aexec C readH call n (cp [0,0,1,0,1,1,1,1,1,1,1,1,1] readC) 0 st K) readk0 n (readt0 a o p b c d e f g h i j k σ) (kblk 3 (kseq (fun st' => aexec C readH call n (cp [1,1,1,1,1,1,1,1,1,1] readC) 0 st' (kfin C readD)) (kfin C readD)))) (fun a q b c d e f g h i j k σ => aloop (fun st K => aexec C readH call n (cp [0,0,1,0,1,1,1,0,1,0,1,1,1,1,1,1,1,1] readC) 0 st K) readk1 n (readt1 a q b c d e f g h i j k σ) (kblk 1 (kblk 0 (kseq (fun st' => aexec C readH call n (cp [1,1,1,1,1,1,1,1,1] readC) 0 st' (kfin C readD)) (kfin C readD))))) a σ := by kernel_rfl
theorem read_eq (call : CallF) (n a : Nat) (σ : Sto) : afun C readD call n [(V.ptr 55 a 0, false)] σ = read call n a σ := by
 rw [read_eqF]
 simp only [readl0_eq, readl1_eq]
 rfl
theorem read_lim {n : Nat} {a : Nat} {b0 : Bool} {σ : Sto} {r : Res} (h : read (lim C) n a σ = some r) : lim C 35 [(V.ptr 55 a 0, b0)] σ = some r :=
 lim_of (d := readD) (by kernel_rfl) (by kernel_rfl) n (show afun C readD (lim C) n [(V.ptr 55 a 0, false)] σ = some r from (read_eq (lim C) n a σ).trans h)
end Go.Ab.Mk
end
