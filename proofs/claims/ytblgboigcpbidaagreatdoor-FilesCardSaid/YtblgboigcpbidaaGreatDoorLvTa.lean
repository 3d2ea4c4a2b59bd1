/- Terms as trees, how they are laid, and what the reference reads of a text. -/
import Derived.Test.YtblgboigcpbidaaGreatDoorAbMk1
import Derived.Test.YtblgboigcpbidaaGreatDoorAbMk4
import Derived.Test.YtblgboigcpbidaaGreatDoorAbMk8
import Derived.Test.YtblgboigcpbidaaGreatDoorAbBl
import Derived.Laws.Strings
set_option linter.unusedSimpArgs false
set_option linter.unusedVariables false
set_option linter.deprecated false
section
set_option maxRecDepth 100000
namespace Go.Ab.Mk
open Go.Proofs Go.Ab
open List (getD)
open IntKind (wrap)
noncomputable def rtermk0 : List Nat := [0, 2, 6, 7, 9, 10, 105, 106, 107]
noncomputable def rtermk1 : List Nat := [0, 2, 11, 12, 13]
noncomputable def rtermk2 : List Nat := [0, 2, 11, 12]
noncomputable def rterms1 (call : CallF) (rec1 : Nat → Int → Int → Int → Int → ByteArray → LL → LL → Int → Int → V → LL → LL → RR) (b : Nat) (d e j k : Int) (o : ByteArray) (p q : LL) (f g : Int) (h : V) (i c : LL) (σ : Sto) : Option Res :=
 bif (decide (e < d)) then
 callK call 63 [(V.ptr 79 b 0, false)] σ 1 (fun a r =>
 (grd ((V.fits (getD a 0 cellD).1 true 5 && true))).bind fun _ =>
 (grd (room (List.length c + 1))).bind fun _ =>
 rec1 b d (wrap .i64 (e + (1 : Int))) j k o p q f g h i (c ++ [[V.cell (getD a 0 cellD).1 0, V.cell (getD a 0 cellD).1 1, V.cell (getD a 0 cellD).1 2, V.cell (getD a 0 cellD).1 3, V.cell (getD a 0 cellD).1 4]]) r) pnK
 else
 callK call 57 [(V.ptr 79 b 0, false), (V.str ⟨#[41]⟩, false)] σ 0 (fun t s =>
 some (.ret [(V.agg [V.int .i64 f, V.int .i64 g, h, V.slice 3 92 i, V.slice 5 44 c], false)], s)) pnK
noncomputable def rterml1 (call : CallF) (n : Nat) : Nat → Nat → Int → Int → Int → Int → ByteArray → LL → LL → Int → Int → V → LL → LL → RR
 | 0 => fun _ _ _ _ _ _ _ _ _ _ _ _ _ _ => none
 | m + 1 => rterms1 call (rterml1 call n m)
noncomputable def rtermt1 (a : Nat) (b c d e : Int) (f : ByteArray) (g h : LL) (i j : Int) (k : V) (o p : LL) (σ : Sto) : St := ⟨[.val (V.ptr 79 a 0) false, .dead, .lptr 2 0] ++ dd 8 ([.lptr 11 0, .val (V.int .i64 b) false, .val (V.int .i64 c) false] ++ dd 119 []), [[], [], [(V.int .i64 d, false), (V.int .i64 e, false), (V.str f, false), (V.slice 3 92 g, true), (V.slice 5 44 h, true)]] ++ nn 8 ([[(V.int .i64 i, false), (V.int .i64 j, false), (k, false), (V.slice 3 92 o, true), (V.slice 5 44 p, true)]] ++ nn 121 []), σ⟩
noncomputable def rterms2 (call : CallF) (L1 : Nat → Int → Int → Int → Int → ByteArray → LL → LL → Int → Int → V → LL → LL → RR) (rec2 : Nat → Int → Int → Int → ByteArray → LL → LL → Int → Int → V → LL → LL → RR) (a : Nat) (d e f : Int) (g : ByteArray) (h i : LL) (j k : Int) (o : V) (b p : LL) (σ : Sto) : Option Res :=
 (memGet σ (V.ptr 79 a 2) false 1).bind fun m1 =>
 (V.asInt m1 .i64).bind fun i2 =>
 bif (i2 == (0 : Int)) then
 callK call 61 [(V.ptr 79 a 0, false)] σ 1 (fun r q =>
 (V.asStr (getD r 0 cellD).1).bind fun s6 =>
 bif (!(s6.toList == (ByteArray.mk #[41]).toList)) then
 callK call 83 [(V.ptr 79 a 0, false)] q 1 (fun c s =>
 (grd ((V.fits (getD c 0 cellD).1 true 3 && true))).bind fun _ =>
 (grd (room (List.length b + 1))).bind fun _ =>
 rec2 a d e f g h i j k o (b ++ [[V.cell (getD c 0 cellD).1 0, V.cell (getD c 0 cellD).1 1, V.cell (getD c 0 cellD).1 2]]) p s) pnK
 else
 L1 a d (0 : Int) e f g h i j k o b p q) pnK
 else
 L1 a d (0 : Int) e f g h i j k o b p σ
noncomputable def rterml2 (call : CallF) (n : Nat) : Nat → Nat → Int → Int → Int → ByteArray → LL → LL → Int → Int → V → LL → LL → RR
 | 0 => fun _ _ _ _ _ _ _ _ _ _ _ _ _ => none
 | m + 1 => rterms2 call (rterml1 call n n) (rterml2 call n m)
noncomputable def rtermt2 (a : Nat) (b c d : Int) (e : ByteArray) (f g : LL) (h i : Int) (j : V) (k o : LL) (σ : Sto) : St := ⟨[.val (V.ptr 79 a 0) false, .dead, .lptr 2 0] ++ dd 8 ([.lptr 11 0, .val (V.int .i64 b) false] ++ dd 120 []), [[], [], [(V.int .i64 c, false), (V.int .i64 d, false), (V.str e, false), (V.slice 3 92 f, true), (V.slice 5 44 g, true)]] ++ nn 8 ([[(V.int .i64 h, false), (V.int .i64 i, false), (j, false), (V.slice 3 92 k, true), (V.slice 5 44 o, true)]] ++ nn 121 []), σ⟩
noncomputable def rterms0 (call : CallF) (L1 : Nat → Int → Int → Int → Int → ByteArray → LL → LL → Int → Int → V → LL → LL → RR) (L2 : Nat → Int → Int → Int → ByteArray → LL → LL → Int → Int → V → LL → LL → RR) (rec0 : Nat → V → V → Int → Int → Int → Int → ByteArray → LL → LL → RR) (a : Nat) (k o : V) (b c d e : Int) (f : ByteArray) (g h : LL) (σ : Sto) : Option Res :=
 (V.asSlice (getD [V.slice 1 9 [[V.str ⟨#[]⟩], [V.str ⟨#[115, 111, 114, 116]⟩], [V.str ⟨#[99, 111, 110, 115, 116]⟩], [V.str ⟨#[97, 112, 112]⟩], [V.str ⟨#[108, 97, 109]⟩], [V.str ⟨#[112, 105]⟩], [V.str ⟨#[108, 101, 116]⟩]]] 0 V.any) 1 9).bind fun l1 =>
 bif (decide (c < (l1.length : Int))) then
 (V.asSlice (getD [V.slice 1 9 [[V.str ⟨#[]⟩], [V.str ⟨#[115, 111, 114, 116]⟩], [V.str ⟨#[99, 111, 110, 115, 116]⟩], [V.str ⟨#[97, 112, 112]⟩], [V.str ⟨#[108, 97, 109]⟩], [V.str ⟨#[112, 105]⟩], [V.str ⟨#[108, 101, 116]⟩]]] 0 V.any) 1 9).bind fun l2 =>
 (grd (decide (0 ≤ c) && decide (c < l2.length))).bind fun _ =>
 (V.asStr (getD (getD l2 c.toNat []) 0 V.any)).bind fun s3 =>
 (V.asStr k).bind fun s4 =>
 bif (s3.toList == s4.toList) then
 rec0 a k o c (wrap .i64 (c + (1 : Int))) d e f g h σ
 else
 rec0 a k o b (wrap .i64 (c + (1 : Int))) d e f g h σ
 else
 bif (b == (0 : Int)) then
 callK call 58 [(V.ptr 79 a 0, false), (o, false)] σ 0 (fun t q =>
 some (.ret [((V.agg [(V.int .i64 (0 : Int)), (V.int .i64 (0 : Int)), V.str ⟨#[]⟩, V.slice 3 92 [], V.slice 5 44 []]), false)], q)) pnK
 else
 callK call 59 [(V.ptr 79 a 0, false)] σ 1 (fun u i =>
 bif (b == (1 : Int)) then
 callK call 83 [(V.ptr 79 a 0, false)] i 1 (fun j r =>
 (grd ((V.fits (getD j 0 cellD).1 true 3 && true))).bind fun _ =>
 (grd (room (0 + 1))).bind fun _ =>
 L1 a (0 : Int) (0 : Int) d e f g h b (0 : Int) (V.str ⟨#[]⟩) [[V.cell (getD j 0 cellD).1 0, V.cell (getD j 0 cellD).1 1, V.cell (getD j 0 cellD).1 2]] [] r) pnK
 else
 bif (b == (2 : Int)) then
 callK call 60 [(V.ptr 79 a 0, false)] i 1 (fun p s =>
 (grd (V.fits (getD p 0 cellD).1 false 1)).bind fun _ =>
 L2 a (0 : Int) d e f g h b (0 : Int) (getD p 0 cellD).1 [] [] s) pnK
 else
 bif (b == (6 : Int)) then
 L1 a (3 : Int) (0 : Int) d e f g h b (0 : Int) (V.str ⟨#[]⟩) [] [] i
 else
 L1 a (2 : Int) (0 : Int) d e f g h b (0 : Int) (V.str ⟨#[]⟩) [] [] i) pnK
noncomputable def rterml0 (call : CallF) (n : Nat) : Nat → Nat → V → V → Int → Int → Int → Int → ByteArray → LL → LL → RR
 | 0 => fun _ _ _ _ _ _ _ _ _ _ _ => none
 | m + 1 => rterms0 call (rterml1 call n n) (rterml2 call n n) (rterml0 call n m)
noncomputable def rtermt0 (a : Nat) (b c : V) (d e f g : Int) (h : ByteArray) (i j : LL) (σ : Sto) : St := ⟨[.val (V.ptr 79 a 0) false, .dead, .lptr 2 0, .dead, .dead, .dead, .val b false, .val c false, .dead, .val (V.int .i64 d) false, .val (V.int .i64 e) false] ++ dd 122 [], [[], [], [(V.int .i64 f, false), (V.int .i64 g, false), (V.str h, false), (V.slice 3 92 i, true), (V.slice 5 44 j, true)]] ++ nn 130 [], σ⟩
noncomputable def rtermF (call : CallF) (L0 : Nat → V → V → Int → Int → Int → Int → ByteArray → LL → LL → RR) (a : Nat) (σ : Sto) : Option Res :=
 callK call 36 [(V.ptr 79 a 0, false)] σ 3 (fun b c =>
 (memGet c (V.ptr 79 a 2) false 1).bind fun m4 =>
 (V.asInt m4 .i64).bind fun i5 =>
 bif (i5 != (0 : Int)) then
 some (.ret [((V.agg [(V.int .i64 (0 : Int)), (V.int .i64 (0 : Int)), V.str ⟨#[]⟩, V.slice 3 92 [], V.slice 5 44 []]), false)], c)
 else
 (V.asBool (getD b 2 cellD).1).bind fun b6 =>
 bif (!b6) then
 callK call 58 [(V.ptr 79 a 0, false), ((getD b 1 cellD).1, false)] c 0 (fun t j =>
 some (.ret [((V.agg [(V.int .i64 (0 : Int)), (V.int .i64 (0 : Int)), V.str ⟨#[]⟩, V.slice 3 92 [], V.slice 5 44 []]), false)], j)) pnK
 else
 (V.asStr (getD b 0 cellD).1).bind fun s10 =>
 bif (s10.toList == (ByteArray.mk #[]).toList) then
 callK call 58 [(V.ptr 79 a 0, false), ((getD b 1 cellD).1, false)] c 0 (fun u k =>
 some (.ret [((V.agg [(V.int .i64 (0 : Int)), (V.int .i64 (0 : Int)), V.str ⟨#[]⟩, V.slice 3 92 [], V.slice 5 44 []]), false)], k)) pnK
 else
 (V.asStr (getD b 0 cellD).1).bind fun s14 =>
 (grd (decide (0 ≤ (0 : Int)) && decide ((0 : Int) < s14.size))).bind fun _ =>
 bif ((byteAt s14 (Int.toNat (0 : Int))) != (35 : Int)) then
 (V.asStr (getD b 0 cellD).1).bind fun s15 =>
 bif (!(s15.toList == (ByteArray.mk #[40]).toList)) then
 callK call 58 [(V.ptr 79 a 0, false), ((getD b 1 cellD).1, false)] c 0 (fun v o =>
 some (.ret [((V.agg [(V.int .i64 (0 : Int)), (V.int .i64 (0 : Int)), V.str ⟨#[]⟩, V.slice 3 92 [], V.slice 5 44 []]), false)], o)) pnK
 else
 callK call 59 [(V.ptr 79 a 0, false)] c 1 (fun w d =>
 (V.asStr (getD b 0 cellD).1).bind fun s22 =>
 bif (!(s22.toList == (ByteArray.mk #[40]).toList)) then
 (V.asStr (getD b 0 cellD).1).bind fun s23 =>
 (grd (decide (0 ≤ (1 : Int)) && decide ((1 : Int) ≤ (s23.size : Int)) && decide ((s23.size : Int) ≤ s23.size))).bind fun _ =>
 callK call 62 [((V.str (s23.extract (Int.toNat (1 : Int)) (Int.toNat (s23.size : Int)))), false)] d 1 (fun e p =>
 (grd ((V.fits (getD e 0 cellD).1 false 1 && true))).bind fun _ =>
 some (.ret [((V.agg [(V.int .i64 (0 : Int)), (getD e 0 cellD).1, V.str ⟨#[]⟩, V.slice 3 92 [], V.slice 5 44 []]), false)], p)) pnK
 else
 callK call 36 [(V.ptr 79 a 0, false)] d 3 (fun f q =>
 L0 a (getD f 0 cellD).1 (getD f 1 cellD).1 (0 : Int) (1 : Int) (0 : Int) (0 : Int) (ByteArray.mk #[]) [] [] q) pnK) pnK
 else
 callK call 59 [(V.ptr 79 a 0, false)] c 1 (fun x g =>
 (V.asStr (getD b 0 cellD).1).bind fun s33 =>
 bif (!(s33.toList == (ByteArray.mk #[40]).toList)) then
 (V.asStr (getD b 0 cellD).1).bind fun s34 =>
 (grd (decide (0 ≤ (1 : Int)) && decide ((1 : Int) ≤ (s34.size : Int)) && decide ((s34.size : Int) ≤ s34.size))).bind fun _ =>
 callK call 62 [((V.str (s34.extract (Int.toNat (1 : Int)) (Int.toNat (s34.size : Int)))), false)] g 1 (fun h r =>
 (grd ((V.fits (getD h 0 cellD).1 false 1 && true))).bind fun _ =>
 some (.ret [((V.agg [(V.int .i64 (0 : Int)), (getD h 0 cellD).1, V.str ⟨#[]⟩, V.slice 3 92 [], V.slice 5 44 []]), false)], r)) pnK
 else
 callK call 36 [(V.ptr 79 a 0, false)] g 3 (fun i s =>
 L0 a (getD i 0 cellD).1 (getD i 1 cellD).1 (0 : Int) (1 : Int) (0 : Int) (0 : Int) (ByteArray.mk #[]) [] [] s) pnK) pnK) pnK
noncomputable def rterm (call : CallF) (n a : Nat) (σ : Sto) : Option Res := rtermF call (rterml0 call n n) a σ
theorem rterms1_eq (call : CallF) (n : Nat) (F1 : St → Option Res) (a : Nat) (b c d e : Int) (f : ByteArray) (g h : LL) (i j : Int) (k : V) (o p : LL) (σ : Sto) :
  aexec C rtermH call n (cp [0,0,1,0,1,1,1,1,1,1,1,1,1,1,1,1,1,1] rtermC) 0 (rtermt1 a b c d e f g h i j k o p σ) (kloop rtermk1 F1 (kblk 5 (kseq (fun st' => aexec C rtermH call n (cp [1,1,1,1,1,1,1,1,1,1,1,1,1,1,1] rtermC) 0 st' (kfin C rtermD)) (kfin C rtermD)))) =
  rterms1 call (fun a b c d e f g h i j k o p σ => F1 (rtermt1 a b c d e f g h i j k o p σ)) a b c d e f g h i j k o p σ := by kernel_rfl
theorem rterml1_eq (call : CallF) (n : Nat) : ∀ (m a : Nat) (b c d e : Int) (f : ByteArray) (g h : LL) (i j : Int) (k : V) (o p : LL) (σ : Sto),
  aloop (fun st K => aexec C rtermH call n (cp [0,0,1,0,1,1,1,1,1,1,1,1,1,1,1,1,1,1] rtermC) 0 st K) rtermk1 m (rtermt1 a b c d e f g h i j k o p σ) (kblk 5 (kseq (fun st' => aexec C rtermH call n (cp [1,1,1,1,1,1,1,1,1,1,1,1,1,1,1] rtermC) 0 st' (kfin C rtermD)) (kfin C rtermD))) = rterml1 call n m a b c d e f g h i j k o p σ
 | 0, a, b, c, d, e, f, g, h, i, j, k, o, p, σ => rfl
 | m + 1, a, b, c, d, e, f, g, h, i, j, k, o, p, σ => by
  rw [aloop, rterms1_eq]
  simp only [rterml1_eq call n m]
  rfl
theorem rterms2_eq (call : CallF) (n : Nat) (F2 : St → Option Res) (a : Nat) (b c d : Int) (e : ByteArray) (f g : LL) (h i : Int) (j : V) (k o : LL) (σ : Sto) :
  aexec C rtermH call n (cp [0,0,1,1,0,1,1,1,0,1,0,1,1,1,1,1,1,1,1,1,1,1,1,1] rtermC) 0 (rtermt2 a b c d e f g h i j k o σ) (kloop rtermk2 F2 (kblk 3 (kblk 2 (kseq (fun st' => aexec C rtermH call n (cp [1,1,1,1,1,1,1,1,1,1,1,1,1,1] rtermC) 0 st' (kfin C rtermD)) (kfin C rtermD))))) =
  rterms2 call (fun a b p c d e f g h i j k o σ => aloop (fun st K => aexec C rtermH call n (cp [0,0,1,0,1,1,1,1,1,1,1,1,1,1,1,1,1,1] rtermC) 0 st K) rtermk1 n (rtermt1 a b p c d e f g h i j k o σ) (kblk 5 (kseq (fun st' => aexec C rtermH call n (cp [1,1,1,1,1,1,1,1,1,1,1,1,1,1,1] rtermC) 0 st' (kfin C rtermD)) (kfin C rtermD)))) (fun a b c d e f g h i j k o σ => F2 (rtermt2 a b c d e f g h i j k o σ)) a b c d e f g h i j k o σ := by kernel_rfl
theorem rterml2_eq (call : CallF) (n : Nat) : ∀ (m a : Nat) (b c d : Int) (e : ByteArray) (f g : LL) (h i : Int) (j : V) (k o : LL) (σ : Sto),
  aloop (fun st K => aexec C rtermH call n (cp [0,0,1,1,0,1,1,1,0,1,0,1,1,1,1,1,1,1,1,1,1,1,1,1] rtermC) 0 st K) rtermk2 m (rtermt2 a b c d e f g h i j k o σ) (kblk 3 (kblk 2 (kseq (fun st' => aexec C rtermH call n (cp [1,1,1,1,1,1,1,1,1,1,1,1,1,1] rtermC) 0 st' (kfin C rtermD)) (kfin C rtermD)))) = rterml2 call n m a b c d e f g h i j k o σ
 | 0, a, b, c, d, e, f, g, h, i, j, k, o, σ => rfl
 | m + 1, a, b, c, d, e, f, g, h, i, j, k, o, σ => by
  rw [aloop, rterms2_eq]
  simp only [rterml2_eq call n m, rterml1_eq]
  rfl
theorem rterms0_eq (call : CallF) (n : Nat) (F0 : St → Option Res) (a : Nat) (g h : V) (i j b c : Int) (d : ByteArray) (e f : LL) (σ : Sto) :
  aexec C rtermH call n (cp [0,0,1,0,1,1,1,1,1,1,1,1] rtermC) 0 (rtermt0 a g h i j b c d e f σ) (kloop rtermk0 F0 (kblk 0 (kseq (fun st' => aexec C rtermH call n (cp [1,1,1,1,1,1,1,1,1] rtermC) 0 st' (kfin C rtermD)) (kfin C rtermD)))) =
  rterms0 call (fun a k t b c d e f o p q r s σ => aloop (fun st K => aexec C rtermH call n (cp [0,0,1,0,1,1,1,1,1,1,1,1,1,1,1,1,1,1] rtermC) 0 st K) rtermk1 n (rtermt1 a k t b c d e f o p q r s σ) (kblk 5 (kseq (fun st' => aexec C rtermH call n (cp [1,1,1,1,1,1,1,1,1,1,1,1,1,1,1] rtermC) 0 st' (kfin C rtermD)) (kfin C rtermD)))) (fun a k b c d e f o p q r s σ => aloop (fun st K => aexec C rtermH call n (cp [0,0,1,1,0,1,1,1,0,1,0,1,1,1,1,1,1,1,1,1,1,1,1,1] rtermC) 0 st K) rtermk2 n (rtermt2 a k b c d e f o p q r s σ) (kblk 3 (kblk 2 (kseq (fun st' => aexec C rtermH call n (cp [1,1,1,1,1,1,1,1,1,1,1,1,1,1] rtermC) 0 st' (kfin C rtermD)) (kfin C rtermD))))) (fun a g h i j b c d e f σ => F0 (rtermt0 a g h i j b c d e f σ)) a g h i j b c d e f σ := by kernel_rfl
theorem rterml0_eq (call : CallF) (n : Nat) : ∀ (m a : Nat) (b c : V) (d e f g : Int) (h : ByteArray) (i j : LL) (σ : Sto),
  aloop (fun st K => aexec C rtermH call n (cp [0,0,1,0,1,1,1,1,1,1,1,1] rtermC) 0 st K) rtermk0 m (rtermt0 a b c d e f g h i j σ) (kblk 0 (kseq (fun st' => aexec C rtermH call n (cp [1,1,1,1,1,1,1,1,1] rtermC) 0 st' (kfin C rtermD)) (kfin C rtermD))) = rterml0 call n m a b c d e f g h i j σ
 | 0, a, b, c, d, e, f, g, h, i, j, σ => rfl
 | m + 1, a, b, c, d, e, f, g, h, i, j, σ => by
  rw [aloop, rterms0_eq]
  simp only [rterml0_eq call n m, rterml1_eq, rterml2_eq]
  rfl
theorem rterm_eqF (call : CallF) (n a : Nat) (σ : Sto) : afun C rtermD call n [(V.ptr 79 a 0, false)] σ =
  rtermF call (fun a b c d e f g h i j σ => aloop (fun st K => aexec C rtermH call n (cp [0,0,1,0,1,1,1,1,1,1,1,1] rtermC) 0 st K) rtermk0 n (rtermt0 a b c d e f g h i j σ) (kblk 0 (kseq (fun st' => aexec C rtermH call n (cp [1,1,1,1,1,1,1,1,1] rtermC) 0 st' (kfin C rtermD)) (kfin C rtermD)))) a σ := by kernel_rfl
theorem rterm_eq (call : CallF) (n a : Nat) (σ : Sto) : afun C rtermD call n [(V.ptr 79 a 0, false)] σ = rterm call n a σ := by
 rw [rterm_eqF]
 simp only [rterml0_eq]
 rfl
theorem rterm_lim {n : Nat} {a : Nat} {b0 : Bool} {σ : Sto} {r : Res} (h : rterm (lim C) n a σ = some r) : lim C 63 [(V.ptr 79 a 0, b0)] σ = some r :=
 lim_of (d := rtermD) (by kernel_rfl) (by kernel_rfl) n (show afun C rtermD (lim C) n [(V.ptr 79 a 0, false)] σ = some r from (rterm_eq (lim C) n a σ).trans h)
noncomputable def levelPartsk0 : List Nat := [1, 2, 5, 6]
noncomputable def levelPartss0 (call : CallF) (rec0 : Int → Int → Int → Int → ByteArray → LL → RR) (d c a e : Int) (f : ByteArray) (b : LL) (σ : Sto) : Option Res :=
 bif (decide (a < (b.length : Int))) then
 bif (decide (c ≤ d)) then
 (grd (decide (0 ≤ a) && decide (a < b.length))).bind fun _ =>
 callK call 68 [(V.agg [(getD (getD b a.toNat []) 0 V.any), (getD (getD b a.toNat []) 1 V.any), (getD (getD b a.toNat []) 2 V.any)], false), (V.int .i64 (wrap .i64 (d - c)), false)] σ 1 (fun g h =>
 (V.asInt (getD g 0 cellD).1 .i64).bind fun i4 =>
 rec0 d (wrap .i64 (c + i4)) (wrap .i64 (a + (1 : Int))) e f b h) pnK
 else
 some (.ret [(V.int .i64 c, false)], σ)
 else
 some (.ret [(V.int .i64 c, false)], σ)
noncomputable def levelPartsl0 (call : CallF) (n : Nat) : Nat → Int → Int → Int → Int → ByteArray → LL → RR
 | 0 => fun _ _ _ _ _ _ _ => none
 | m + 1 => levelPartss0 call (levelPartsl0 call n m)
noncomputable def levelPartst0 (a b c d : Int) (e : ByteArray) (f : LL) (σ : Sto) : St := ⟨[.dead, .val (V.int .i64 a) false, .lptr 2 0, .dead, .dead, .val (V.int .i64 b) false, .val (V.int .i64 c) false] ++ dd 26 [], [[], [], [(V.int .i64 d, false), (V.str e, false), (V.slice 3 92 f, false)]] ++ nn 30 [], σ⟩
noncomputable def levelPartsF (call : CallF) (L0 : Int → Int → Int → Int → ByteArray → LL → RR) (a : Int) (b : ByteArray) (c : LL) (d : Int) (σ : Sto) : Option Res :=
 L0 d (1 : Int) (0 : Int) a b c σ
noncomputable def levelParts (call : CallF) (n : Nat) (a : Int) (b : ByteArray) (c : LL) (d : Int) (σ : Sto) : Option Res := levelPartsF call (levelPartsl0 call n n) a b c d σ
theorem levelPartss0_eq (call : CallF) (n : Nat) (F0 : St → Option Res) (a b c d : Int) (e : ByteArray) (f : LL) (σ : Sto) :
  aexec C levelPartsH call n (cp [0,0,1,0,1,1] levelPartsC) 0 (levelPartst0 a b c d e f σ) (kloop levelPartsk0 F0 (kblk 0 (kseq (fun st' => aexec C levelPartsH call n (cp [1,1,1] levelPartsC) 0 st' (kfin C levelPartsD)) (kfin C levelPartsD)))) =
  levelPartss0 call (fun a b c d e f σ => F0 (levelPartst0 a b c d e f σ)) a b c d e f σ := by kernel_rfl
theorem levelPartsl0_eq (call : CallF) (n : Nat) : ∀ (m : Nat) (a b c d : Int) (e : ByteArray) (f : LL) (σ : Sto),
  aloop (fun st K => aexec C levelPartsH call n (cp [0,0,1,0,1,1] levelPartsC) 0 st K) levelPartsk0 m (levelPartst0 a b c d e f σ) (kblk 0 (kseq (fun st' => aexec C levelPartsH call n (cp [1,1,1] levelPartsC) 0 st' (kfin C levelPartsD)) (kfin C levelPartsD))) = levelPartsl0 call n m a b c d e f σ
 | 0, a, b, c, d, e, f, σ => rfl
 | m + 1, a, b, c, d, e, f, σ => by
  rw [aloop, levelPartss0_eq]
  simp only [levelPartsl0_eq call n m]
  rfl
theorem levelParts_eqF (call : CallF) (n : Nat) (b : Int) (c : ByteArray) (d : LL) (a : Int) (σ : Sto) : afun C levelPartsD call n [(V.agg [V.int .i64 b, V.str c, V.slice 3 92 d], false), (V.int .i64 a, false)] σ =
  levelPartsF call (fun a e f g h i σ => aloop (fun st K => aexec C levelPartsH call n (cp [0,0,1,0,1,1] levelPartsC) 0 st K) levelPartsk0 n (levelPartst0 a e f g h i σ) (kblk 0 (kseq (fun st' => aexec C levelPartsH call n (cp [1,1,1] levelPartsC) 0 st' (kfin C levelPartsD)) (kfin C levelPartsD)))) b c d a σ := by kernel_rfl
theorem levelParts_eq (call : CallF) (n : Nat) (a : Int) (b : ByteArray) (c : LL) (d : Int) (σ : Sto) : afun C levelPartsD call n [(V.agg [V.int .i64 a, V.str b, V.slice 3 92 c], false), (V.int .i64 d, false)] σ = levelParts call n a b c d σ := by
 rw [levelParts_eqF]
 simp only [levelPartsl0_eq]
 rfl
theorem levelParts_lim {n : Nat} {a : Int} {b : ByteArray} {c : LL} {e : Int} {b0 b1 : Bool} {σ : Sto} {r : Res} (h : levelParts (lim C) n a b c e σ = some r) : lim C 68 [(V.agg [V.int .i64 a, V.str b, V.slice 3 92 c], b0), (V.int .i64 e, b1)] σ = some r :=
 lim_of (d := levelPartsD) (by kernel_rfl) (by kernel_rfl) n (show afun C levelPartsD (lim C) n [(V.agg [V.int .i64 a, V.str b, V.slice 3 92 c], false), (V.int .i64 e, false)] σ = some r from (levelParts_eq (lim C) n a b c e σ).trans h)
noncomputable def printF (call : CallF) (a : Int) (b : ByteArray) (c : LL) (σ : Sto) : Option Res :=
 callK call 92 [(V.ptr 63 (List.length σ) 0, false), (V.agg [V.int .i64 a, V.str b, V.slice 3 92 c], false)] (σ ++ [[(V.nilp, false), (V.slice 1 5 [], true)]]) 0 (fun g d =>
 callK call 22 [(V.ptr 63 (List.length σ) 0, false)] d 1 (fun e f =>
 some (.ret [((getD e 0 cellD).1, false)], f)) pnK) pnK
noncomputable def print (call : CallF) (n : Nat) (a : Int) (b : ByteArray) (c : LL) (σ : Sto) : Option Res := printF call a b c σ
theorem print_eqF (call : CallF) (n : Nat) (a : Int) (b : ByteArray) (c : LL) (σ : Sto) : afun C printD call n [(V.agg [V.int .i64 a, V.str b, V.slice 3 92 c], false)] σ =
  printF call a b c σ := by kernel_rfl
theorem print_eq (call : CallF) (n : Nat) (a : Int) (b : ByteArray) (c : LL) (σ : Sto) : afun C printD call n [(V.agg [V.int .i64 a, V.str b, V.slice 3 92 c], false)] σ = print call n a b c σ := print_eqF call n a b c σ
theorem print_lim {n : Nat} {a : Int} {b : ByteArray} {c : LL} {b0 : Bool} {σ : Sto} {r : Res} (h : print (lim C) n a b c σ = some r) : lim C 72 [(V.agg [V.int .i64 a, V.str b, V.slice 3 92 c], b0)] σ = some r :=
 lim_of (d := printD) (by kernel_rfl) (by kernel_rfl) n (show afun C printD (lim C) n [(V.agg [V.int .i64 a, V.str b, V.slice 3 92 c], false)] σ = some r from (print_eq (lim C) n a b c σ).trans h)
noncomputable def wbyteF (call : CallF) (a : Nat) (b : Int) (σ : Sto) : Option Res :=
 callK call 40 [(V.ptr 63 a 0, false)] σ 0 (fun d c =>
 (memTake c (V.ptr 63 a 1)).bind fun m4 =>
 (V.asRow m4.1 1 5).bind fun l5 =>
 (grd ((!V.isFull m4.1 || decide (0 < 1)) && room (List.length l5 + 1))).bind fun _ =>
 (memSet m4.2 (V.ptr 63 a 1) [(V.slice 1 5 (l5 ++ [[V.int .u8 b]]), true)]).bind fun m6 =>
 some (.ret [(V.nilIface, false)], m6)) pnK
noncomputable def wbyte (call : CallF) (n a : Nat) (b : Int) (σ : Sto) : Option Res := wbyteF call a b σ
theorem wbyte_eqF (call : CallF) (n a : Nat) (b : Int) (σ : Sto) : afun C wbyteD call n [(V.ptr 63 a 0, false), (V.int .u8 b, false)] σ =
  wbyteF call a b σ := by kernel_rfl
theorem wbyte_eq (call : CallF) (n a : Nat) (b : Int) (σ : Sto) : afun C wbyteD call n [(V.ptr 63 a 0, false), (V.int .u8 b, false)] σ = wbyte call n a b σ := wbyte_eqF call n a b σ
theorem wbyte_lim {n : Nat} {a : Nat} {b : Int} {b0 b1 : Bool} {σ : Sto} {r : Res} (h : wbyte (lim C) n a b σ = some r) : lim C 73 [(V.ptr 63 a 0, b0), (V.int .u8 b, b1)] σ = some r :=
 lim_of (d := wbyteD) (by kernel_rfl) (by kernel_rfl) n (show afun C wbyteD (lim C) n [(V.ptr 63 a 0, false), (V.int .u8 b, false)] σ = some r from (wbyte_eq (lim C) n a b σ).trans h)
noncomputable def sameLevelk0 : List Nat := [2, 3, 5]
noncomputable def sameLevels0 (call : CallF) (rec0 : Int → Int → ByteArray → LL → Int → ByteArray → LL → RR) (a e : Int) (f : ByteArray) (b : LL) (g : Int) (h : ByteArray) (c : LL) (σ : Sto) : Option Res :=
 bif (decide (a < (b.length : Int))) then
 (grd (decide (0 ≤ a) && decide (a < b.length))).bind fun _ =>
 (grd (decide (0 ≤ a) && decide (a < c.length))).bind fun _ =>
 callK call 74 [(V.agg [(getD (getD b a.toNat []) 0 V.any), (getD (getD b a.toNat []) 1 V.any), (getD (getD b a.toNat []) 2 V.any)], false), (V.agg [(getD (getD c a.toNat []) 0 V.any), (getD (getD c a.toNat []) 1 V.any), (getD (getD c a.toNat []) 2 V.any)], false)] σ 1 (fun i d =>
 (V.asBool (getD i 0 cellD).1).bind fun b4 =>
 bif (!b4) then
 some (.ret [(V.bool false, false)], d)
 else
 rec0 (wrap .i64 (a + (1 : Int))) e f b g h c d) pnK
 else
 some (.ret [(V.bool true, false)], σ)
noncomputable def sameLevell0 (call : CallF) (n : Nat) : Nat → Int → Int → ByteArray → LL → Int → ByteArray → LL → RR
 | 0 => fun _ _ _ _ _ _ _ _ => none
 | m + 1 => sameLevels0 call (sameLevell0 call n m)
noncomputable def sameLevelt0 (a b : Int) (c : ByteArray) (d : LL) (e : Int) (f : ByteArray) (g : LL) (σ : Sto) : St := ⟨[.dead, .dead, .lptr 2 0, .lptr 3 0, .dead, .val (V.int .i64 a) false] ++ dd 42 [], [[], [], [(V.int .i64 b, false), (V.str c, false), (V.slice 3 92 d, false)], [(V.int .i64 e, false), (V.str f, false), (V.slice 3 92 g, false)]] ++ nn 44 [], σ⟩
noncomputable def sameLevelF (call : CallF) (L0 : Int → Int → ByteArray → LL → Int → ByteArray → LL → RR) (a : Int) (b : ByteArray) (c : LL) (d : Int) (e : ByteArray) (f : LL) (σ : Sto) : Option Res :=
 bif (a != d) then
 some (.ret [(V.bool false, false)], σ)
 else
 bif (!(b.toList == e.toList)) then
 some (.ret [(V.bool false, false)], σ)
 else
 bif ((c.length : Int) != (f.length : Int)) then
 some (.ret [(V.bool false, false)], σ)
 else
 L0 (0 : Int) a b c d e f σ
noncomputable def sameLevel (call : CallF) (n : Nat) (a : Int) (b : ByteArray) (c : LL) (d : Int) (e : ByteArray) (f : LL) (σ : Sto) : Option Res := sameLevelF call (sameLevell0 call n n) a b c d e f σ
theorem sameLevels0_eq (call : CallF) (n : Nat) (F0 : St → Option Res) (a b : Int) (c : ByteArray) (d : LL) (e : Int) (f : ByteArray) (g : LL) (σ : Sto) :
  aexec C sameLevelH call n (cp [0,0,1,0,1,1] sameLevelC) 0 (sameLevelt0 a b c d e f g σ) (kloop sameLevelk0 F0 (kblk 0 (kseq (fun st' => aexec C sameLevelH call n (cp [1,1,1] sameLevelC) 0 st' (kfin C sameLevelD)) (kfin C sameLevelD)))) =
  sameLevels0 call (fun a b c d e f g σ => F0 (sameLevelt0 a b c d e f g σ)) a b c d e f g σ := by kernel_rfl
theorem sameLevell0_eq (call : CallF) (n : Nat) : ∀ (m : Nat) (a b : Int) (c : ByteArray) (d : LL) (e : Int) (f : ByteArray) (g : LL) (σ : Sto),
  aloop (fun st K => aexec C sameLevelH call n (cp [0,0,1,0,1,1] sameLevelC) 0 st K) sameLevelk0 m (sameLevelt0 a b c d e f g σ) (kblk 0 (kseq (fun st' => aexec C sameLevelH call n (cp [1,1,1] sameLevelC) 0 st' (kfin C sameLevelD)) (kfin C sameLevelD))) = sameLevell0 call n m a b c d e f g σ
 | 0, a, b, c, d, e, f, g, σ => rfl
 | m + 1, a, b, c, d, e, f, g, σ => by
  rw [aloop, sameLevels0_eq]
  simp only [sameLevell0_eq call n m]
  rfl
theorem sameLevel_eqF (call : CallF) (n : Nat) (a : Int) (b : ByteArray) (c : LL) (d : Int) (e : ByteArray) (f : LL) (σ : Sto) : afun C sameLevelD call n [(V.agg [V.int .i64 a, V.str b, V.slice 3 92 c], false), (V.agg [V.int .i64 d, V.str e, V.slice 3 92 f], false)] σ =
  sameLevelF call (fun g h i j k o p σ => aloop (fun st K => aexec C sameLevelH call n (cp [0,0,1,0,1,1] sameLevelC) 0 st K) sameLevelk0 n (sameLevelt0 g h i j k o p σ) (kblk 0 (kseq (fun st' => aexec C sameLevelH call n (cp [1,1,1] sameLevelC) 0 st' (kfin C sameLevelD)) (kfin C sameLevelD)))) a b c d e f σ := by kernel_rfl
theorem sameLevel_eq (call : CallF) (n : Nat) (a : Int) (b : ByteArray) (c : LL) (d : Int) (e : ByteArray) (f : LL) (σ : Sto) : afun C sameLevelD call n [(V.agg [V.int .i64 a, V.str b, V.slice 3 92 c], false), (V.agg [V.int .i64 d, V.str e, V.slice 3 92 f], false)] σ = sameLevel call n a b c d e f σ := by
 rw [sameLevel_eqF]
 simp only [sameLevell0_eq]
 rfl
theorem sameLevel_lim {n : Nat} {a : Int} {b : ByteArray} {c : LL} {e : Int} {f : ByteArray} {g : LL} {b0 b1 : Bool} {σ : Sto} {r : Res} (h : sameLevel (lim C) n a b c e f g σ = some r) : lim C 74 [(V.agg [V.int .i64 a, V.str b, V.slice 3 92 c], b0), (V.agg [V.int .i64 e, V.str f, V.slice 3 92 g], b1)] σ = some r :=
 lim_of (d := sameLevelD) (by kernel_rfl) (by kernel_rfl) n (show afun C sameLevelD (lim C) n [(V.agg [V.int .i64 a, V.str b, V.slice 3 92 c], false), (V.agg [V.int .i64 e, V.str f, V.slice 3 92 g], false)] σ = some r from (sameLevel_eq (lim C) n a b c e f g σ).trans h)
noncomputable def cutPrefix1F (call : CallF) (a b : ByteArray) (σ : Sto) : Option Res :=
 callK call 97 [(V.str a, false), (V.str b, false)] σ 1 (fun d c =>
 (V.asBool (getD d 0 cellD).1).bind fun b4 =>
 bif (!b4) then
 some (.ret [(V.str a, false), (V.bool false, false)], c)
 else
 (grd (decide (0 ≤ (b.size : Int)) && decide ((b.size : Int) ≤ (a.size : Int)) && decide ((a.size : Int) ≤ a.size))).bind fun _ =>
 some (.ret [((V.str (a.extract (Int.toNat (b.size : Int)) (Int.toNat (a.size : Int)))), false), (V.bool true, false)], c)) pnK
noncomputable def cutPrefix1 (call : CallF) (n : Nat) (a b : ByteArray) (σ : Sto) : Option Res := cutPrefix1F call a b σ
theorem cutPrefix1_eqF (call : CallF) (n : Nat) (a b : ByteArray) (σ : Sto) : afun C cutPrefix1D call n [(V.str a, false), (V.str b, false)] σ =
  cutPrefix1F call a b σ := by kernel_rfl
theorem cutPrefix1_eq (call : CallF) (n : Nat) (a b : ByteArray) (σ : Sto) : afun C cutPrefix1D call n [(V.str a, false), (V.str b, false)] σ = cutPrefix1 call n a b σ := cutPrefix1_eqF call n a b σ
theorem cutPrefix1_lim {n : Nat} {a : ByteArray} {b : ByteArray} {b0 b1 : Bool} {σ : Sto} {r : Res} (h : cutPrefix1 (lim C) n a b σ = some r) : lim C 81 [(V.str a, b0), (V.str b, b1)] σ = some r :=
 lim_of (d := cutPrefix1D) (by kernel_rfl) (by kernel_rfl) n (show afun C cutPrefix1D (lim C) n [(V.str a, false), (V.str b, false)] σ = some r from (cutPrefix1_eq (lim C) n a b σ).trans h)
noncomputable def isNameF (call : CallF) (a : ByteArray) (σ : Sto) : Option Res :=
 bif (!(a.toList == (ByteArray.mk #[]).toList)) then
 (grd (decide (0 ≤ (0 : Int)) && decide ((0 : Int) < a.size))).bind fun _ =>
 callK call 56 [((V.int .u8 (byteAt a (Int.toNat (0 : Int)))), false), (V.bool true, false)] σ 1 (fun b c =>
 some (.ret [((getD b 0 cellD).1, false)], c)) pnK
 else
 some (.ret [(V.bool false, false)], σ)
noncomputable def isName (call : CallF) (n : Nat) (a : ByteArray) (σ : Sto) : Option Res := isNameF call a σ
theorem isName_eqF (call : CallF) (n : Nat) (a : ByteArray) (σ : Sto) : afun C isNameD call n [(V.str a, false)] σ =
  isNameF call a σ := by kernel_rfl
theorem isName_eq (call : CallF) (n : Nat) (a : ByteArray) (σ : Sto) : afun C isNameD call n [(V.str a, false)] σ = isName call n a σ := isName_eqF call n a σ
theorem isName_lim {n : Nat} {a : ByteArray} {b0 : Bool} {σ : Sto} {r : Res} (h : isName (lim C) n a σ = some r) : lim C 82 [(V.str a, b0)] σ = some r :=
 lim_of (d := isNameD) (by kernel_rfl) (by kernel_rfl) n (show afun C isNameD (lim C) n [(V.str a, false)] σ = some r from (isName_eq (lim C) n a σ).trans h)
noncomputable def rlevelF (call : CallF) (a : Nat) (σ : Sto) : Option Res :=
 callK call 36 [(V.ptr 79 a 0, false)] σ 3 (fun b k =>
 callK call 82 [((getD b 0 cellD).1, false)] k 1 (fun o c =>
 (memGet c (V.ptr 79 a 2) false 1).bind fun m7 =>
 (V.asInt m7 .i64).bind fun i8 =>
 bif (i8 != (0 : Int)) then
 some (.ret [((V.agg [(V.int .i64 (0 : Int)), V.str ⟨#[]⟩, V.slice 3 92 []]), false)], c)
 else
 (V.asStr (getD b 0 cellD).1).bind fun s9 =>
 bif (s9.toList == (ByteArray.mk #[48]).toList) then
 callK call 59 [(V.ptr 79 a 0, false)] c 1 (fun a5 p =>
 some (.ret [((V.agg [(V.int .i64 (0 : Int)), V.str ⟨#[]⟩, V.slice 3 92 []]), false)], p)) pnK
 else
 (V.asBool (getD o 0 cellD).1).bind fun b13 =>
 bif b13 then
 callK call 59 [(V.ptr 79 a 0, false)] c 1 (fun a6 q =>
 (grd ((V.fits (getD b 0 cellD).1 false 1 && true))).bind fun _ =>
 some (.ret [((V.agg [(V.int .i64 (4 : Int)), (getD b 0 cellD).1, V.slice 3 92 []]), false)], q)) pnK
 else
 (V.asStr (getD b 0 cellD).1).bind fun s17 =>
 bif (s17.toList == (ByteArray.mk #[40]).toList) then
 callK call 59 [(V.ptr 79 a 0, false)] c 1 (fun a7 r =>
 callK call 36 [(V.ptr 79 a 0, false)] r 3 (fun d e =>
 (V.asStr (getD d 0 cellD).1).bind fun s24 =>
 bif (s24.toList == (ByteArray.mk #[115]).toList) then
 callK call 59 [(V.ptr 79 a 0, false)] e 1 (fun a8 s =>
 callK call 83 [(V.ptr 79 a 0, false)] s 1 (fun f t =>
 (grd ((V.fits (getD f 0 cellD).1 true 3 && true))).bind fun _ =>
 (grd (room (0 + 1))).bind fun _ =>
 callK call 57 [(V.ptr 79 a 0, false), (V.str ⟨#[41]⟩, false)] t 0 (fun a9 u =>
 some (.ret [((V.agg [(V.int .i64 (1 : Int)), V.str ⟨#[]⟩, V.slice 3 92 [[V.cell (getD f 0 cellD).1 0, V.cell (getD f 0 cellD).1 1, V.cell (getD f 0 cellD).1 2]]]), false)], u)) pnK) pnK) pnK
 else
 (V.asStr (getD d 0 cellD).1).bind fun s34 =>
 bif (s34.toList == (ByteArray.mk #[109, 97, 120]).toList) then
 callK call 59 [(V.ptr 79 a 0, false)] e 1 (fun c0 v =>
 callK call 83 [(V.ptr 79 a 0, false)] v 1 (fun g w =>
 (grd ((V.fits (getD g 0 cellD).1 true 3 && true))).bind fun _ =>
 (grd (room (0 + 1))).bind fun _ =>
 callK call 83 [(V.ptr 79 a 0, false)] w 1 (fun h x =>
 (grd ((V.fits (getD h 0 cellD).1 true 3 && true))).bind fun _ =>
 (grd (room (1 + 1))).bind fun _ =>
 callK call 57 [(V.ptr 79 a 0, false), (V.str ⟨#[41]⟩, false)] x 0 (fun c1 y =>
 some (.ret [((V.agg [(V.int .i64 (2 : Int)), V.str ⟨#[]⟩, V.slice 3 92 [[V.cell (getD g 0 cellD).1 0, V.cell (getD g 0 cellD).1 1, V.cell (getD g 0 cellD).1 2], [V.cell (getD h 0 cellD).1 0, V.cell (getD h 0 cellD).1 1, V.cell (getD h 0 cellD).1 2]]]), false)], y)) pnK) pnK) pnK) pnK
 else
 (V.asStr (getD d 0 cellD).1).bind fun s47 =>
 bif (s47.toList == (ByteArray.mk #[105, 109, 97, 120]).toList) then
 callK call 59 [(V.ptr 79 a 0, false)] e 1 (fun c2 z =>
 callK call 83 [(V.ptr 79 a 0, false)] z 1 (fun i a0 =>
 (grd ((V.fits (getD i 0 cellD).1 true 3 && true))).bind fun _ =>
 (grd (room (0 + 1))).bind fun _ =>
 callK call 83 [(V.ptr 79 a 0, false)] a0 1 (fun j a1 =>
 (grd ((V.fits (getD j 0 cellD).1 true 3 && true))).bind fun _ =>
 (grd (room (1 + 1))).bind fun _ =>
 callK call 57 [(V.ptr 79 a 0, false), (V.str ⟨#[41]⟩, false)] a1 0 (fun c3 a2 =>
 some (.ret [((V.agg [(V.int .i64 (3 : Int)), V.str ⟨#[]⟩, V.slice 3 92 [[V.cell (getD i 0 cellD).1 0, V.cell (getD i 0 cellD).1 1, V.cell (getD i 0 cellD).1 2], [V.cell (getD j 0 cellD).1 0, V.cell (getD j 0 cellD).1 1, V.cell (getD j 0 cellD).1 2]]]), false)], a2)) pnK) pnK) pnK) pnK
 else
 callK call 58 [(V.ptr 79 a 0, false), ((getD d 1 cellD).1, false)] e 0 (fun c4 a3 =>
 some (.ret [((V.agg [(V.int .i64 (0 : Int)), V.str ⟨#[]⟩, V.slice 3 92 []]), false)], a3)) pnK) pnK) pnK
 else
 callK call 58 [(V.ptr 79 a 0, false), ((getD b 1 cellD).1, false)] c 0 (fun c5 a4 =>
 some (.ret [((V.agg [(V.int .i64 (0 : Int)), V.str ⟨#[]⟩, V.slice 3 92 []]), false)], a4)) pnK) pnK) pnK
noncomputable def rlevel (call : CallF) (n a : Nat) (σ : Sto) : Option Res := rlevelF call a σ
theorem rlevel_eqF (call : CallF) (n a : Nat) (σ : Sto) : afun C rlevelD call n [(V.ptr 79 a 0, false)] σ =
  rlevelF call a σ := by kernel_rfl
theorem rlevel_eq (call : CallF) (n a : Nat) (σ : Sto) : afun C rlevelD call n [(V.ptr 79 a 0, false)] σ = rlevel call n a σ := rlevel_eqF call n a σ
theorem rlevel_lim {n : Nat} {a : Nat} {b0 : Bool} {σ : Sto} {r : Res} (h : rlevel (lim C) n a σ = some r) : lim C 83 [(V.ptr 79 a 0, b0)] σ = some r :=
 lim_of (d := rlevelD) (by kernel_rfl) (by kernel_rfl) n (show afun C rlevelD (lim C) n [(V.ptr 79 a 0, false)] σ = some r from (rlevel_eq (lim C) n a σ).trans h)
end Go.Ab.Mk
end
section
set_option maxRecDepth 100000
namespace Go.Ab.Mk
open Go.Proofs Go.Ab
open List (getD)
open IntKind (wrap)
noncomputable def writek0 : List Nat := [0, 16, 17, 18]
noncomputable def writes0 (call : CallF) (rec0 : Nat → LL → Int → Int → RR) (c : Nat) (b : LL) (d a : Int) (σ : Sto) : Option Res :=
 bif (decide (a < d)) then
 (grd (decide (0 ≤ a) && decide (a < b.length))).bind fun _ =>
 callK call 73 [(V.ptr 63 c 0, false), ((V.int .u8 (32 : Int)), false)] σ 1 (fun h e =>
 callK call 92 [(V.ptr 63 c 0, false), (V.agg [(getD (getD b a.toNat []) 0 V.any), (getD (getD b a.toNat []) 1 V.any), (getD (getD b a.toNat []) 2 V.any)], false)] e 0 (fun i f =>
 rec0 c b d (wrap .i64 (a + (1 : Int))) f) pnK) pnK
 else
 callK call 73 [(V.ptr 63 c 0, false), ((V.int .u8 (41 : Int)), false)] σ 1 (fun j g =>
 some (.ret [], g)) pnK
noncomputable def writel0 (call : CallF) (n : Nat) : Nat → Nat → LL → Int → Int → RR
 | 0 => fun _ _ _ _ _ => none
 | m + 1 => writes0 call (writel0 call n m)
noncomputable def writet0 (a : Nat) (b : LL) (c d : Int) (σ : Sto) : St := ⟨[.val (V.ptr 63 a 0) false] ++ dd 15 ([.val (V.slice 3 92 b) false, .val (V.int .i64 c) false, .val (V.int .i64 d) false] ++ dd 21 []), nn 40 [], σ⟩
noncomputable def writeF (call : CallF) (L0 : Nat → LL → Int → Int → RR) (b : Nat) (a : Int) (d : ByteArray) (c : LL) (σ : Sto) : Option Res :=
 bif (a == (0 : Int)) then
 callK call 21 [(V.ptr 63 b 0, false), (V.str ⟨#[48]⟩, false)] σ 2 (fun h e =>
 some (.ret [], e)) pnK
 else
 bif (a == (4 : Int)) then
 callK call 21 [(V.ptr 63 b 0, false), (V.str d, false)] σ 2 (fun i f =>
 some (.ret [], f)) pnK
 else
 (grd (decide (0 ≤ a) && decide (a < 4))).bind fun _ =>
 (memGet [] (V.eptr 4 [V.str ⟨#[]⟩, V.str ⟨#[115]⟩, V.str ⟨#[109, 97, 120]⟩, V.str ⟨#[105, 109, 97, 120]⟩] (0 + Int.toNat a * 1)) false 1).bind fun m7 =>
 (V.asStr m7).bind fun s8 =>
 (grd (strRoom (ByteArray.mk #[40]) s8)).bind fun _ =>
 callK call 21 [(V.ptr 63 b 0, false), (V.str ((ByteArray.mk #[40]) ++ s8), false)] σ 2 (fun j g =>
 L0 b c (c.length : Int) (0 : Int) g) pnK
noncomputable def write (call : CallF) (n a : Nat) (b : Int) (c : ByteArray) (d : LL) (σ : Sto) : Option Res := writeF call (writel0 call n n) a b c d σ
theorem writes0_eq (call : CallF) (n : Nat) (F0 : St → Option Res) (a : Nat) (b : LL) (c d : Int) (σ : Sto) :
  aexec C writeH call n (cp [0,0,1,0,1,1,1,1,1,0,1,1] writeC) 0 (writet0 a b c d σ) (kloop writek0 F0 (kblk 1 (kseq (fun st' => aexec C writeH call n (cp [1,1,1,1,1,1,0,1,1] writeC) 0 st' (kblk 0 (kfin C writeD))) (kblk 0 (kfin C writeD))))) =
  writes0 call (fun a b c d σ => F0 (writet0 a b c d σ)) a b c d σ := by kernel_rfl
theorem writel0_eq (call : CallF) (n : Nat) : ∀ (m a : Nat) (b : LL) (c d : Int) (σ : Sto),
  aloop (fun st K => aexec C writeH call n (cp [0,0,1,0,1,1,1,1,1,0,1,1] writeC) 0 st K) writek0 m (writet0 a b c d σ) (kblk 1 (kseq (fun st' => aexec C writeH call n (cp [1,1,1,1,1,1,0,1,1] writeC) 0 st' (kblk 0 (kfin C writeD))) (kblk 0 (kfin C writeD)))) = writel0 call n m a b c d σ
 | 0, a, b, c, d, σ => rfl
 | m + 1, a, b, c, d, σ => by
  rw [aloop, writes0_eq]
  simp only [writel0_eq call n m]
  rfl
theorem write_eqF (call : CallF) (n a : Nat) (b : Int) (c : ByteArray) (d : LL) (σ : Sto) : afun C writeD call n [(V.ptr 63 a 0, false), (V.agg [V.int .i64 b, V.str c, V.slice 3 92 d], false)] σ =
  writeF call (fun a e f g σ => aloop (fun st K => aexec C writeH call n (cp [0,0,1,0,1,1,1,1,1,0,1,1] writeC) 0 st K) writek0 n (writet0 a e f g σ) (kblk 1 (kseq (fun st' => aexec C writeH call n (cp [1,1,1,1,1,1,0,1,1] writeC) 0 st' (kblk 0 (kfin C writeD))) (kblk 0 (kfin C writeD))))) a b c d σ := by kernel_rfl
theorem write_eq (call : CallF) (n a : Nat) (b : Int) (c : ByteArray) (d : LL) (σ : Sto) : afun C writeD call n [(V.ptr 63 a 0, false), (V.agg [V.int .i64 b, V.str c, V.slice 3 92 d], false)] σ = write call n a b c d σ := by
 rw [write_eqF]
 simp only [writel0_eq]
 rfl
theorem write_lim {n : Nat} {a : Nat} {b : Int} {c : ByteArray} {e : LL} {b0 b1 : Bool} {σ : Sto} {r : Res} (h : write (lim C) n a b c e σ = some r) : lim C 92 [(V.ptr 63 a 0, b0), (V.agg [V.int .i64 b, V.str c, V.slice 3 92 e], b1)] σ = some r :=
 lim_of (d := writeD) (by kernel_rfl) (by kernel_rfl) n (show afun C writeD (lim C) n [(V.ptr 63 a 0, false), (V.agg [V.int .i64 b, V.str c, V.slice 3 92 e], false)] σ = some r from (write_eq (lim C) n a b c e σ).trans h)
noncomputable def hasPrefixF (call : CallF) (b a : ByteArray) (σ : Sto) : Option Res :=
 bif (decide ((b.size : Int) ≥ (a.size : Int))) then
 (grd (decide (0 ≤ (0 : Int)) && decide ((0 : Int) ≤ (a.size : Int)) && decide ((a.size : Int) ≤ b.size))).bind fun _ =>
 some (.ret [((V.bool ((b.extract (Int.toNat (0 : Int)) (Int.toNat (a.size : Int))).toList == a.toList)), false)], σ)
 else
 some (.ret [(V.bool false, false)], σ)
noncomputable def hasPrefix (call : CallF) (n : Nat) (a b : ByteArray) (σ : Sto) : Option Res := hasPrefixF call a b σ
theorem hasPrefix_eqF (call : CallF) (n : Nat) (a b : ByteArray) (σ : Sto) : afun C hasPrefixD call n [(V.str a, false), (V.str b, false)] σ =
  hasPrefixF call a b σ := by kernel_rfl
theorem hasPrefix_eq (call : CallF) (n : Nat) (a b : ByteArray) (σ : Sto) : afun C hasPrefixD call n [(V.str a, false), (V.str b, false)] σ = hasPrefix call n a b σ := hasPrefix_eqF call n a b σ
theorem hasPrefix_lim {n : Nat} {a : ByteArray} {b : ByteArray} {b0 b1 : Bool} {σ : Sto} {r : Res} (h : hasPrefix (lim C) n a b σ = some r) : lim C 97 [(V.str a, b0), (V.str b, b1)] σ = some r :=
 lim_of (d := hasPrefixD) (by kernel_rfl) (by kernel_rfl) n (show afun C hasPrefixD (lim C) n [(V.str a, false), (V.str b, false)] σ = some r from (hasPrefix_eq (lim C) n a b σ).trans h)
end Go.Ab.Mk
end
section

end
section
namespace Go.Ab.Mk
open Go.Proofs Go.Ab
def idx (v : ByteArray) : List ByteArray → Nat → Int
 | [], _ => -1
 | p :: ps, i => if v.toList == p.toList then i else idx v ps (i + 1)
theorem index_loop (call : CallF) (n : Nat) {ps : List ByteArray} (hb : ps.length < 2 ^ 61) (v : ByteArray) (σ : Sto) :
  ∀ (m i : Nat), i ≤ ps.length → ps.length - i < m → indexl0 call n m (strs ps) v ps.length i σ = some (.ret [(.int .i64 (idx v (ps.drop i) i), false)], σ)
 | 0, i, _, hm => by omega
 | m + 1, i, hi, hm => by
  show indexs0 call (indexl0 call n m) (strs ps) v ps.length i σ = _
  unfold indexs0
  rw [strs_length]
  by_cases hlt : i < ps.length
  ·rw [d0, dlt hlt, Int.toNat_natCast, strs_get hlt, List.drop_eq_getElem_cons hlt]
   simp only [cond_true, Bool.and_self, grd, Option.bind_some, List.getD_cons_zero, V.asStr, idx]
   cases hc : v.toList == ps[i].toList with
   | true => simp
   | false =>
    simp only [cond_false, wrap_succ (show i < 2 ^ 61 by omega), Bool.false_eq_true, if_false]
    exact index_loop call n hb v σ m (i + 1) (by omega) (by omega)
  ·rw [dnlt hlt, List.drop_eq_nil_of_le (by omega)]
   simp [idx]
theorem index_law {ps : List ByteArray} (hb : ps.length < 2 ^ 61) (v : ByteArray) (σ : Sto) :
  lim C 54 [(.slice 1 9 (strs ps), false), (.str v, false)] σ = some (.ret [(.int .i64 (idx v ps 0), false)], σ) :=
 index_lim (n := ps.length + 1) <| by
  have := index_loop (lim C) (ps.length + 1) hb v σ (ps.length + 1) 0 (by omega) (by omega)
  simpa [index, indexF, strs_length] using this
def has (v : ByteArray) (ps : List ByteArray) : Bool := ps.any fun p => p.toList == v.toList
theorem sameLevel_loop (call : CallF) (n : Nat) {L : List Lv} (hb : L.length < 2 ^ 61) (k : Int) (nm : ByteArray) (σ : Sto)
  (h : ∀ c ∈ L, call 74 [(.agg [.int .i64 c.kind, .str c.name, .slice 3 92 c.args], false), (.agg [.int .i64 c.kind, .str c.name, .slice 3 92 c.args], false)] σ = some (.ret [(.bool true, false)], σ)) :
  ∀ (m i : Nat), i ≤ L.length → L.length - i < m → sameLevell0 call n m i k nm (L.map Lv.enc) k nm (L.map Lv.enc) σ = some (.ret [(.bool true, false)], σ)
 | 0, i, _, hm => by omega
 | m + 1, i, hi, hm => by
  show sameLevels0 call (sameLevell0 call n m) i k nm (L.map Lv.enc) k nm (L.map Lv.enc) σ = _
  unfold sameLevels0
  rw [List.length_map]
  by_cases hlt : i < L.length
  ·have hc := List.getElem?_eq_getElem hlt
   rw [d0, dlt hlt, kid_get hc, L[i].cells]
   simp only [cond_true, Bool.and_self, grd, Option.bind_some, callK_ret1 (h _ (List.getElem_mem hlt)), wrap_succ (show i < 2 ^ 61 by omega), List.getD_cons_zero, V.asBool, Bool.not_true, cond_false]
   exact sameLevel_loop call n hb k nm σ h m (i + 1) (by omega) (by omega)
  ·rw [dnlt hlt]; rfl
theorem kids_few (l : Lv) : l.kids.length ≤ 2 := by cases l <;> simp [Lv.kids]
theorem sameLevel_law (σ : Sto) : ∀ (l : Lv),
  lim C 74 [(.agg [.int .i64 l.kind, .str l.name, .slice 3 92 l.args], false), (.agg [.int .i64 l.kind, .str l.name, .slice 3 92 l.args], false)] σ = some (.ret [(.bool true, false)], σ) :=
 Lv.ind fun l ih => sameLevel_lim (n := 4) <| by
  have hf := kids_few l
  have := sameLevel_loop (lim C) 4 (L := l.kids) (by omega) l.kind l.name σ ih 4 0 (by omega) (by omega)
  simpa [sameLevel, sameLevelF, Lv.args] using this
end Go.Ab.Mk
end
section
namespace Go.Ab.Mk
open Go.Proofs Go.Ab
def sizes : List Lv → Nat
 | [] => 0
 | c :: L => c.size + sizes L
end Go.Ab.Mk
end
section
namespace Go.Ab.Mk
open Go.Proofs Go.Ab
def ba (l : List UInt8) : ByteArray := ⟨l.toArray⟩
theorem ba_append (a b : List UInt8) : ba a ++ ba b = ba (a ++ b) := by
 apply ByteArray.ext
 simp [ba]
theorem ba_of (s : ByteArray) : ba s.data.toList = s := by
 apply ByteArray.ext
 simp [ba]
theorem ba_size (l : List UInt8) : (ba l).size = l.length := by simp [ba, ByteArray.size]
theorem bytesV_ba (l : List UInt8) : bytesV (ba l) = bytesL l := by simp [bytesV, ba, bytesL]
theorem strRoom_ok {x y : ByteArray} (h : x.size + y.size < 2 ^ 61) : strRoom x y = true := by
 unfold strRoom
 refine decide_eq_true ?_
 by_cases h0 : x.size + y.size = 0
 ·rw [h0]; simp
 ·have := (Nat.log2_lt (k := 61) h0).2 h
  omega
def printL : Lv → List UInt8
 | .zero => [48]
 | .succ l => [40, 115, 32] ++ printL l ++ [41]
 | .max a b => [40, 109, 97, 120, 32] ++ printL a ++ [32] ++ printL b ++ [41]
 | .imax a b => [40, 105, 109, 97, 120, 32] ++ printL a ++ [32] ++ printL b ++ [41]
 | .param s => s.data.toList
theorem rprint_law (σ : Sto) : ∀ (l : Lv), (printL l).length < 2 ^ 60 →
  lim C 45 [(.agg [.int .i64 l.kind, .str l.name, .slice 3 92 l.args], false)] σ = some (.ret [(.str (ba (printL l)), false)], σ)
 | .zero, _ => rprint_lim (n := 0) rfl
 | .param s, _ => rprint_lim (n := 0) <| by simp [rprint, rprintF, Lv.kind, Lv.name, printL, ba_of]
 | .succ l, hb => rprint_lim (n := 0) <| by
  simp only [printL, List.length_append, List.length_cons, List.length_nil] at hb
  have h1 := rprint_law σ l (by omega)
  simp only [rprint, rprintF, Lv.kind, Lv.args, Lv.kids, List.map_cons, List.map_nil, Int.reduceBEq, cond_false, cond_true]
  have hc : V.agg [List.getD (List.getD [l.enc] (Int.toNat (0 : Int)) []) 0 V.any, List.getD (List.getD [l.enc] (Int.toNat (0 : Int)) []) 1 V.any, List.getD (List.getD [l.enc] (Int.toNat (0 : Int)) []) 2 V.any] = V.agg [.int .i64 l.kind, .str l.name, .slice 3 92 l.args] := l.cells
  rw [hc, callK_ret1 h1]
  have e1 : ByteArray.mk #[40, 115, 32] = ba [40, 115, 32] := rfl
  have e2 : ByteArray.mk #[41] = ba [41] := rfl
  simp only [e1, e2, List.getD_cons_zero, V.asStr, Option.bind_some, ba_append, printL]
  rw [strRoom_ok (by simp [ba_size]; omega), strRoom_ok (by simp [ba_size]; omega)]
  rfl
 | .max a b, hb => rprint_lim (n := 0) <| by
  simp only [printL, List.length_append, List.length_cons, List.length_nil] at hb
  have h1 := rprint_law σ a (by omega)
  have h2 := rprint_law σ b (by omega)
  simp only [rprint, rprintF, Lv.kind, Lv.args, Lv.kids, List.map_cons, List.map_nil, Int.reduceBEq, cond_false, cond_true]
  have hc : V.agg [List.getD (List.getD [a.enc, b.enc] (Int.toNat (0 : Int)) []) 0 V.any, List.getD (List.getD [a.enc, b.enc] (Int.toNat (0 : Int)) []) 1 V.any, List.getD (List.getD [a.enc, b.enc] (Int.toNat (0 : Int)) []) 2 V.any] = V.agg [.int .i64 a.kind, .str a.name, .slice 3 92 a.args] := a.cells
  have hd : V.agg [List.getD (List.getD [a.enc, b.enc] (Int.toNat (1 : Int)) []) 0 V.any, List.getD (List.getD [a.enc, b.enc] (Int.toNat (1 : Int)) []) 1 V.any, List.getD (List.getD [a.enc, b.enc] (Int.toNat (1 : Int)) []) 2 V.any] = V.agg [.int .i64 b.kind, .str b.name, .slice 3 92 b.args] := b.cells
  have e1 : ByteArray.mk #[40] = ba [40] := rfl
  have e2 : ByteArray.mk #[41] = ba [41] := rfl
  have e3 : ByteArray.mk #[32] = ba [32] := rfl
  have e4 : ByteArray.mk #[109, 97, 120] = ba [109, 97, 120] := rfl
  simp only [hc, hd, callK_ret1 h1, callK_ret1 h2, e1, e2, e3, e4, List.getD_cons_zero, V.asStr, Option.bind_some, ba_append, printL]
  repeat rw [strRoom_ok (by simp [ba_size] <;> omega)]
  rfl
 | .imax a b, hb => rprint_lim (n := 0) <| by
  simp only [printL, List.length_append, List.length_cons, List.length_nil] at hb
  have h1 := rprint_law σ a (by omega)
  have h2 := rprint_law σ b (by omega)
  simp only [rprint, rprintF, Lv.kind, Lv.args, Lv.kids, List.map_cons, List.map_nil, Int.reduceBEq, cond_false, cond_true]
  have hc : V.agg [List.getD (List.getD [a.enc, b.enc] (Int.toNat (0 : Int)) []) 0 V.any, List.getD (List.getD [a.enc, b.enc] (Int.toNat (0 : Int)) []) 1 V.any, List.getD (List.getD [a.enc, b.enc] (Int.toNat (0 : Int)) []) 2 V.any] = V.agg [.int .i64 a.kind, .str a.name, .slice 3 92 a.args] := a.cells
  have hd : V.agg [List.getD (List.getD [a.enc, b.enc] (Int.toNat (1 : Int)) []) 0 V.any, List.getD (List.getD [a.enc, b.enc] (Int.toNat (1 : Int)) []) 1 V.any, List.getD (List.getD [a.enc, b.enc] (Int.toNat (1 : Int)) []) 2 V.any] = V.agg [.int .i64 b.kind, .str b.name, .slice 3 92 b.args] := b.cells
  have e1 : ByteArray.mk #[40] = ba [40] := rfl
  have e2 : ByteArray.mk #[41] = ba [41] := rfl
  have e3 : ByteArray.mk #[32] = ba [32] := rfl
  have e4 : ByteArray.mk #[105, 109, 97, 120] = ba [105, 109, 97, 120] := rfl
  simp only [hc, hd, callK_ret1 h1, callK_ret1 h2, e1, e2, e3, e4, List.getD_cons_zero, V.asStr, Option.bind_some, ba_append, printL]
  repeat rw [strRoom_ok (by simp [ba_size] <;> omega)]
  rfl
def bcell (b : Nat) (u : Bool) (L : List UInt8) : List Cell := [(bif u then .ptr 63 b 0 else .nilp, false), (.slice 1 5 (bytesL L), true)]
theorem copyCheck_law {σ : Sto} {b : Nat} {u : Bool} {L : List UInt8} (h : σ[b]? = some (bcell b u L)) : lim C 40 [(.ptr 63 b 0, false)] σ = some (.ret [], σ.set b (bcell b true L)) := by
 refine lim_ext (s := copyCheckS 63) (by kernel_rfl) ?_
 obtain ⟨hlt, hget⟩ := List.getElem?_eq_some_iff.1 h
 cases u with
 | false =>
  simp only [copyCheckS, if_true]
  rw [h]
  rfl
 | true =>
  simp only [copyCheckS, if_true]
  rw [h]
  have : σ.set b (bcell b true L) = σ := by rw [← hget]; simp
  simp only [bcell, cond_true, and_self, if_true]
  exact congrArg (fun x => some (End.ret [], x)) this.symm
theorem memTakeB {σ : Sto} {t : TypeId} {b : Nat} {c : Cell} {v : V} (h : σ[b]? = some [c, (v, true)]) : memTake σ (.ptr t b 1) = some (v, σ.set b [c, (v, false)]) := by
 simp only [memTake, h, Option.bind_some]; rfl
theorem memSetB {σ : Sto} {t : TypeId} {b : Nat} {c c' d : Cell} (h : σ[b]? = some [c, c']) : memSet σ (.ptr t b 1) [d] = some (σ.set b [c, d]) := by
 simp only [memSet, h, Option.bind_some]; rfl
theorem wstring_law {σ : Sto} {b : Nat} {u : Bool} {L : List UInt8} (h : σ[b]? = some (bcell b u L)) (s : List UInt8) (hr : L.length + s.length < 2 ^ 34) :
  lim C 21 [(.ptr 63 b 0, false), (.str (ba s), false)] σ = some (.ret [(.int .i64 s.length, false), (.nilIface, false)], σ.set b (bcell b true (L ++ s))) :=
 wstring_lim (n := 0) <| by
  obtain ⟨hlt, hget⟩ := List.getElem?_eq_some_iff.1 h
  simp only [wstring, wstringF, callK_ret0 (copyCheck_law h)]
  rw [memTakeB (c := (.ptr 63 b 0, false)) (v := .slice 1 5 (bytesL L)) (by simp [hlt, bcell])]
  simp only [Option.bind_some, V.asSlice, and_self, if_true]
  rw [bytesL_length, ba_size, room_ok hr]
  rw [memSetB (c := (.ptr 63 b 0, false)) (c' := (.slice 1 5 (bytesL L), false)) (by simp [hlt])]
  simp only [grd, cond_true, Option.bind_some, List.set_set, bytesV_ba, ← bytesL_append]
  rfl
theorem wbyte_law {σ : Sto} {b : Nat} {u : Bool} {L : List UInt8} (h : σ[b]? = some (bcell b u L)) (c : UInt8) (hr : L.length + 1 < 2 ^ 34) :
  lim C 73 [(.ptr 63 b 0, false), (.int .u8 (c.toNat : Int), false)] σ = some (.ret [(.nilIface, false)], σ.set b (bcell b true (L ++ [c]))) :=
 wbyte_lim (n := 0) <| by
  obtain ⟨hlt, hget⟩ := List.getElem?_eq_some_iff.1 h
  simp only [wbyte, wbyteF, callK_ret0 (copyCheck_law h)]
  rw [memTakeB (c := (.ptr 63 b 0, false)) (v := .slice 1 5 (bytesL L)) (by simp [hlt, bcell])]
  simp only [Option.bind_some, V.asRow, V.isFull, Bool.not_false, Bool.true_or, Bool.true_and, and_self, if_true]
  rw [bytesL_length, room_ok hr]
  rw [memSetB (c := (.ptr 63 b 0, false)) (c' := (.slice 1 5 (bytesL L), false)) (by simp [hlt])]
  simp only [grd, cond_true, Option.bind_some, List.set_set, bcell, bytesL_append]
  rfl
theorem callK_ret2 {call : CallF} {f : FuncId} {args : List Cell} {σ σ' : Sto} {K : List Cell → Sto → Option Res} {KP : V → Sto → Option Res} {c d : Cell} (h : call f args σ = some (.ret [c, d], σ')) :
  callK call f args σ 2 K KP = K [c, d] σ' := callK_ret h rfl
end Go.Ab.Mk
end
section
namespace Go.Ab.Mk
open Go.Proofs Go.Ab
theorem fits_lv (l : Lv) : V.fits (.agg [.int .i64 l.kind, .str l.name, .slice 3 92 l.args]) true 3 = true := rfl
theorem cell_lv (l : Lv) : [V.cell (.agg [.int .i64 l.kind, .str l.name, .slice 3 92 l.args]) 0, V.cell (.agg [.int .i64 l.kind, .str l.name, .slice 3 92 l.args]) 1, V.cell (.agg [.int .i64 l.kind, .str l.name, .slice 3 92 l.args]) 2] = l.enc := by rw [l.enc_eq]; rfl
end Go.Ab.Mk
end
section
namespace Go.Ab.Mk
open Go.Proofs Go.Ab
def isDigit (c : Int) : Bool := decide (48 ≤ c) && decide (c ≤ 57)
def isLetter (c : Int) : Bool := (decide (97 ≤ c) && decide (c ≤ 122)) || (decide (65 ≤ c) && decide (c ≤ 90)) || c == 95
def nmByte (c : Int) (first : Bool) : Bool := isLetter c || (!first && (isDigit c || c == 46 || c == 39))
def isBlank (c : Int) : Bool := c == 32 || c == 9 || c == 10
theorem nameByte_law (c : Int) (f : Bool) (σ : Sto) : lim C 56 [(.int .u8 c, false), (.bool f, false)] σ = some (.ret [(.bool (nmByte c f), false)], σ) :=
 nameByte_lim (n := 0) <| by
  simp only [nameByte, nameByteF, nmByte, isLetter, isDigit, ge_iff_le]
  cases decide (97 ≤ c) <;> cases decide (c ≤ 122) <;> cases decide (65 ≤ c) <;> cases decide (c ≤ 90) <;> cases c == 95 <;> cases f <;> cases decide (48 ≤ c) <;> cases decide (c ≤ 57) <;> cases c == 46 <;> cases c == 39 <;> rfl
def scan (f : Int → Bool) (s : ByteArray) (i : Nat) : Nat :=
 if h : i < s.size then (bif f (byteAt s i) then scan f s (i + 1) else i) else i
termination_by s.size - i
theorem scan_go {f : Int → Bool} {s : ByteArray} {i : Nat} (h : i < s.size) (hf : f (byteAt s i) = true) : scan f s i = scan f s (i + 1) := by
 rw [scan, dif_pos h, hf]; rfl
theorem scan_stop {f : Int → Bool} {s : ByteArray} {i : Nat} (h : ¬ (i < s.size ∧ f (byteAt s i) = true)) : scan f s i = i := by
 rw [scan]
 split
 ·rename_i hi
  cases hf : f (byteAt s i) with
  | true => exact absurd ⟨hi, hf⟩ h
  | false => rfl
 ·rfl
theorem scan_ge (f : Int → Bool) (s : ByteArray) : ∀ (k i : Nat), s.size - i = k → i ≤ scan f s i ∧ (i ≤ s.size → scan f s i ≤ s.size)
 | k, i, hk => by
  by_cases h : i < s.size ∧ f (byteAt s i) = true
  ·rw [scan_go h.1 h.2]
   have := scan_ge f s (k - 1) (i + 1) (by omega)
   omega
  ·rw [scan_stop h]; omega
theorem le_scan (f : Int → Bool) (s : ByteArray) (i : Nat) : i ≤ scan f s i := (scan_ge f s _ i rfl).1
theorem scan_le {f : Int → Bool} {s : ByteArray} {i : Nat} (h : i ≤ s.size) : scan f s i ≤ s.size := (scan_ge f s _ i rfl).2 h
structure Tok where
 t : ByteArray
 at_ : Nat
 ok : Bool
def Tok.no (i : Nat) : Tok := ⟨ByteArray.mk #[], i, false⟩
def Tok.cells (k : Tok) : List Cell := [(.str k.t, false), (.int .i64 k.at_, false), (.bool k.ok, false)]
def numTok (s : ByteArray) (i q : Nat) (c : Int) : Tok :=
 let d := bif c == 35 then i + 1 else i
 bif q == d then .no i else bif decide (q - d > 5) then .no i else bif (decide (q - d > 1) && byteAt s d == 48) then .no i else ⟨s.extract i q, i, true⟩
def nmTok (s : ByteArray) (i q : Nat) : Tok := bif decide (q - i > 40) then .no i else ⟨s.extract i q, i, true⟩
def tokAt (s : ByteArray) (i : Nat) : Tok :=
  bif i == s.size then ⟨ByteArray.mk #[], i, true⟩ else
  bif byteAt s i == 40 then ⟨s.extract i (i + 1), i, true⟩ else bif byteAt s i == 41 then ⟨s.extract i (i + 1), i, true⟩ else
  bif nmByte (byteAt s i) true then nmTok s i (scan (nmByte · false) s (i + 1)) else
  bif byteAt s i == 35 || isDigit (byteAt s i) then numTok s i (scan isDigit s (i + 1)) (byteAt s i) else .no i
def tokV (s : ByteArray) (p : Nat) : Tok := tokAt s (scan isBlank s p)
def rst (s : ByteArray) (p : Nat) (c a : Int) : List Cell := [(.str s, false), (.int .i64 p, false), (.int .i64 c, false), (.int .i64 a, false)]
theorem rd0 {σ : Sto} {r : Nat} {s : ByteArray} {p : Nat} {c a : Int} (h : σ[r]? = some (rst s p c a)) (t : TypeId) : memGet σ (.ptr t r 0) false 1 = some (.str s) := by simp [memGet, h, gather, rst]
theorem rd1 {σ : Sto} {r : Nat} {s : ByteArray} {p : Nat} {c a : Int} (h : σ[r]? = some (rst s p c a)) (t : TypeId) : memGet σ (.ptr t r 1) false 1 = some (.int .i64 p) := by simp [memGet, h, gather, rst]
theorem rd2 {σ : Sto} {r : Nat} {s : ByteArray} {p : Nat} {c a : Int} (h : σ[r]? = some (rst s p c a)) (t : TypeId) : memGet σ (.ptr t r 2) false 1 = some (.int .i64 c) := by simp [memGet, h, gather, rst]
theorem wrap_sub {q i : Nat} (h : i ≤ q) (hq : q < 2 ^ 61) : IntKind.wrap .i64 ((q : Int) - (i : Int)) = ((q - i : Nat) : Int) := by
 rw [← wrap_nat (n := q - i) (by omega)]
 congr 1
 omega
theorem dgt (a b : Nat) : decide ((a : Int) > (b : Int)) = decide (a > b) := by simp
theorem beqN (a b : Nat) : ((a : Int) == (b : Int)) = (a == b) := by
 rw [Bool.eq_iff_iff, beq_iff_eq, beq_iff_eq]; omega
theorem bnd2 {i q n : Nat} (h1 : i ≤ q) (h2 : q ≤ n) : (decide ((i : Int) ≤ (q : Int)) && decide ((q : Int) ≤ (n : Int))) = true := by simp; omega
theorem bnd {i q n : Nat} (h1 : i ≤ q) (h2 : q ≤ n) : (decide (0 ≤ (i : Int)) && decide ((i : Int) ≤ (q : Int)) && decide ((q : Int) ≤ (n : Int))) = true := by simp; omega
theorem tokens1_step (call : CallF) (n m : Nat) {σ : Sto} {r : Nat} {s : ByteArray} {p : Nat} {c a : Int} (h : σ[r]? = some (rst s p c a)) (hs : s.size < 2 ^ 61)
  (hc : ∀ x, call 56 [(.int .u8 x, false), (.bool false, false)] σ = some (.ret [(.bool (nmByte x false), false)], σ)) {i q : Nat} (hi : i ≤ q) (hq : q ≤ s.size) :
  rtokenl1 call n (m + 1) r (.int .i64 i) q σ = bif decide (q < s.size) && nmByte (byteAt s q) false then rtokenl1 call n m r (.int .i64 i) (q + 1 : Nat) σ else some (.ret (nmTok s i q).cells, σ) := by
 show rtokens1 call (rtokenl1 call n m) r (.int .i64 i) q σ = _
 unfold rtokens1
 have h40 : ((40 : Int)) = ((40 : Nat) : Int) := rfl
 simp only [rd0 h, Option.bind_some, V.asStr, V.asInt, if_true, callK_ret1 (hc _), Int.toNat_natCast, List.getD_cons_zero, V.asBool, wrap_sub hi (show q < 2 ^ 61 by omega), h40, dgt, bnd hi hq, grd, cond_true, nmTok, Tok.cells, Tok.no]
 by_cases h1 : q < s.size
 ·simp only [dlt h1, d0, cond_true, Bool.and_self, Option.bind_some, wrap_succ (show q < 2 ^ 61 by omega), decide_eq_true h1, Bool.true_and]
  cases nmByte (byteAt s q) false with
  | true => rfl
  | false => simp only [cond_false]; cases decide (q - i > 40) <;> rfl
 ·simp only [dnlt h1, cond_false, decide_eq_false h1, Bool.false_and]
  cases decide (q - i > 40) <;> rfl
theorem tokens1_loop (call : CallF) (n : Nat) {σ : Sto} {r : Nat} {s : ByteArray} {p : Nat} {c a : Int} (h : σ[r]? = some (rst s p c a)) (hs : s.size < 2 ^ 61)
    (hc : ∀ x, call 56 [(.int .u8 x, false), (.bool false, false)] σ = some (.ret [(.bool (nmByte x false), false)], σ)) {i : Nat} :
    ∀ (m q : Nat), i ≤ q → q ≤ s.size → s.size - q < m → rtokenl1 call n m r (.int .i64 i) q σ = some (.ret (nmTok s i (scan (nmByte · false) s q)).cells, σ)
  | 0, q, _, _, hm => by omega
  | m + 1, q, hi, hq, hm => by
    rw [tokens1_step call n m h hs hc hi hq]
    by_cases h1 : q < s.size ∧ nmByte (byteAt s q) false = true
    · rw [scan_go (f := (nmByte · false)) h1.1 h1.2, decide_eq_true h1.1, h1.2]
      exact tokens1_loop call n h hs hc m (q + 1) (by omega) (by omega) (by omega)
    · rw [scan_stop (f := (nmByte · false)) h1]
      have : (decide (q < s.size) && nmByte (byteAt s q) false) = false := by
        cases hb : nmByte (byteAt s q) false <;> simp_all
      rw [this]; rfl
theorem tokens2_step (call : CallF) (n m : Nat) {σ : Sto} {r : Nat} {s : ByteArray} {p : Nat} {c a : Int} (h : σ[r]? = some (rst s p c a)) (hs : s.size < 2 ^ 61) {i q : Nat} (x : Int) (hi : i < q) (hq : q ≤ s.size) :
  rtokenl2 call n (m + 1) r (.int .i64 i) q x σ = bif decide (q < s.size) && isDigit (byteAt s q) then rtokenl2 call n m r (.int .i64 i) (q + 1 : Nat) x σ else some (.ret (numTok s i q x).cells, σ) := by
 show rtokens2 call (rtokenl2 call n m) r (.int .i64 i) q x σ = _
 unfold rtokens2
 have h5 : ((5 : Int)) = ((5 : Nat) : Int) := rfl
 have h1' : ((1 : Int)) = ((1 : Nat) : Int) := rfl
 have e48 : ∀ z : Int, decide (z ≥ 48) = decide (48 ≤ z) := fun _ => rfl
 have w1 : IntKind.wrap .i64 ((i : Int) + ((1 : Nat) : Int)) = ((i + 1 : Nat) : Int) := wrap_succ (show i < 2 ^ 61 by omega)
 have w2 : IntKind.wrap .i64 ((q : Int) + ((1 : Nat) : Int)) = ((q + 1 : Nat) : Int) := wrap_succ (show q < 2 ^ 61 by omega)
 simp only [rd0 h, Option.bind_some, V.asStr, V.asInt, if_true, Int.toNat_natCast, h5, h1', w1, w2, wrap_sub (show i ≤ q by omega) (show q < 2 ^ 61 by omega), wrap_sub (show i + 1 ≤ q by omega) (show q < 2 ^ 61 by omega), dgt, beqN, bnd2 (show i ≤ q by omega) hq, d0, Bool.true_and, decide_eq_true (show s.size > i by omega), grd, cond_true, e48, numTok, Tok.cells, Tok.no]
 by_cases h1 : q < s.size
 ·simp only [decide_eq_true (show s.size > q from h1), cond_true, Option.bind_some, decide_eq_true h1, Bool.true_and, isDigit]
  by_cases hx : x == 35
  ·by_cases hd : q = i + 1
   ·subst hd
    cases decide (48 ≤ byteAt s (i + 1)) <;> cases decide (byteAt s (i + 1) ≤ 57) <;> simp [hx]
   ·have hlt : i + 1 < s.size := by omega
    have hd' : (q == i + 1) = false := by simpa using hd
    simp only [decide_eq_true (show s.size > i + 1 from hlt), hx, cond_true, hd', cond_false, Option.bind_some]
    cases decide (48 ≤ byteAt s q) <;> cases decide (byteAt s q ≤ 57) <;> cases decide (q - (i + 1) > 5) <;> cases decide (q - (i + 1) > 1) <;> cases byteAt s (i + 1) == 48 <;> rfl
  ·have hd' : (q == i) = false := by simp; omega
   simp only [hx, cond_false, hd', Option.bind_some]
   cases decide (48 ≤ byteAt s q) <;> cases decide (byteAt s q ≤ 57) <;> cases decide (q - i > 5) <;> cases decide (q - i > 1) <;> cases byteAt s i == 48 <;> rfl
 ·simp only [decide_eq_false (show ¬ s.size > q from h1), cond_false, decide_eq_false h1, Bool.false_and]
  by_cases hx : x == 35
  ·by_cases hd : q = i + 1
   ·subst hd
    simp [hx]
   ·have hlt : i + 1 < s.size := by omega
    have hd' : (q == i + 1) = false := by simpa using hd
    simp only [decide_eq_true (show s.size > i + 1 from hlt), hx, cond_true, hd', cond_false, Option.bind_some]
    cases decide (q - (i + 1) > 5) <;> cases decide (q - (i + 1) > 1) <;> cases byteAt s (i + 1) == 48 <;> rfl
  ·have hd' : (q == i) = false := by simp; omega
   simp only [hx, cond_false, hd', Option.bind_some]
   cases decide (q - i > 5) <;> cases decide (q - i > 1) <;> cases byteAt s i == 48 <;> rfl
theorem tokens2_loop (call : CallF) (n : Nat) {σ : Sto} {r : Nat} {s : ByteArray} {p : Nat} {c a : Int} (h : σ[r]? = some (rst s p c a)) (hs : s.size < 2 ^ 61) {i : Nat} (x : Int) :
  ∀ (m q : Nat), i < q → q ≤ s.size → s.size - q < m → rtokenl2 call n m r (.int .i64 i) q x σ = some (.ret (numTok s i (scan isDigit s q) x).cells, σ)
 | 0, q, _, _, hm => by omega
 | m + 1, q, hi, hq, hm => by
  rw [tokens2_step call n m h hs x hi hq]
  by_cases h1 : q < s.size ∧ isDigit (byteAt s q) = true
  ·rw [scan_go (f := isDigit) h1.1 h1.2, decide_eq_true h1.1, h1.2]
   exact tokens2_loop call n h hs x m (q + 1) (by omega) (by omega) (by omega)
  ·rw [scan_stop (f := isDigit) h1]
   have : (decide (q < s.size) && isDigit (byteAt s q)) = false := by
    cases hb : isDigit (byteAt s q) <;> simp_all
   rw [this]; rfl
theorem tokens0_loop (call : CallF) (n : Nat) {σ : Sto} {r : Nat} {s : ByteArray} {p0 : Nat} {c a : Int} (h : σ[r]? = some (rst s p0 c a)) (hs : s.size < 2 ^ 61) (hn : s.size < n)
  (hc : ∀ x f, call 56 [(.int .u8 x, false), (.bool f, false)] σ = some (.ret [(.bool (nmByte x f), false)], σ)) :
  ∀ (m p : Nat), p ≤ s.size → s.size - p < m → rtokenl0 call n m r (.int .i64 p) σ = some (.ret (tokV s p).cells, σ)
 | 0, q, _, hm => by omega
 | m + 1, p, hp, hm => by
  show rtokens0 call (rtokenl1 call n n) (rtokenl2 call n n) (rtokenl0 call n m) r (.int .i64 p) σ = _
  unfold rtokens0
  have e48 : ∀ z : Int, decide (z ≥ 48) = decide (48 ≤ z) := fun _ => rfl
  simp only [rd0 h, Option.bind_some, V.asStr, V.asInt, if_true, Int.toNat_natCast, wrap_succ (show p < 2 ^ 61 by omega), d0, Bool.true_and, callK_ret1 (hc _ _), List.getD_cons_zero, V.asBool, beqN, e48]
  by_cases h1 : p < s.size
  ·have hpe : (p == s.size) = false := by simp; omega
   have hb1 : ((decide ((p : Int) ≤ ((p + 1 : Nat) : Int))) && decide (((p + 1 : Nat) : Int) ≤ (s.size : Int))) = true := by simp; omega
   simp only [dlt h1, cond_true, grd, Option.bind_some, hpe, cond_false, hb1]
   by_cases hb : isBlank (byteAt s p) = true
   ·rw [tokV, scan_go h1 hb, ← tokV]
    have ih := tokens0_loop call n h hs hn hc m (p + 1) (by omega) (by omega)
    simp only [isBlank, Bool.or_eq_true] at hb
    rw [ih]
    rcases hb with (hb | hb) | hb
    ·simp only [hb, cond_true]
    ·cases byteAt s p == 32 <;> simp only [hb, cond_true, cond_false]
    ·cases byteAt s p == 32 <;> cases byteAt s p == 9 <;> simp only [hb, cond_true, cond_false]
   ·rw [tokV, scan_stop (fun hh => hb hh.2)]
    have hb' : isBlank (byteAt s p) = false := by simpa using hb
    simp only [isBlank, Bool.or_eq_false_iff] at hb'
    obtain ⟨⟨b1, b2⟩, b3⟩ := hb'
    have l1 := tokens1_loop call n h hs (fun x => hc x false) (i := p) n (p + 1) (by omega) (by omega) (by omega)
    have l2 := tokens2_loop call n h hs (i := p) (byteAt s p) n (p + 1) (by omega) (by omega) (by omega)
    simp only [b1, b2, b3, cond_false, l1, l2, tokAt, hpe, isDigit]
    cases byteAt s p == 40 <;> cases byteAt s p == 41 <;> cases nmByte (byteAt s p) true <;> cases byteAt s p == 35 <;> cases decide (48 ≤ byteAt s p) <;> cases decide (byteAt s p ≤ 57) <;> rfl
  ·have hpe : p = s.size := by omega
   rw [tokV, scan_stop (fun hh => h1 hh.1)]
   rw [dnlt h1]
   simp only [cond_false, hpe, beq_self_eq_true, cond_true, tokAt, Tok.cells]
theorem token_law {σ : Sto} {r : Nat} {s : ByteArray} {p : Nat} {c a : Int} (h : σ[r]? = some (rst s p c a)) (hs : s.size < 2 ^ 61) (hp : p ≤ s.size) :
  lim C 36 [(.ptr 79 r 0, false)] σ = some (.ret (tokV s p).cells, σ) :=
 rtoken_lim (n := s.size + 1) <| by
  have := tokens0_loop (lim C) (s.size + 1) h hs (by omega) (fun x f => nameByte_law x f σ) (s.size + 1) p hp (by omega)
  simp only [rtoken, rtokenF, rd1 h, Option.bind_some]
  exact this
end Go.Ab.Mk
end
section
namespace Go.Ab.Mk
open Go.Proofs Go.Ab
structure RS where
 p : Nat
 c : Int
 a : Int
def RS.cells (s : ByteArray) (st : RS) : List Cell := rst s st.p st.c st.a
def isNo (t : ByteArray) : Bool := t.toList == (ByteArray.mk #[]).toList
def rfailV (st : RS) (i : Nat) : RS := bif st.c == 0 then ⟨st.p, 1, i⟩ else st
def rnextV (s : ByteArray) (st : RS) : ByteArray × RS :=
 let k := tokV s st.p
 let st1 := bif !k.ok || isNo k.t then rfailV st k.at_ else st
 bif st1.c != 0 then (ByteArray.mk #[], st1) else (k.t, ⟨k.at_ + k.t.size, st1.c, st1.a⟩)
def rtakeV (s : ByteArray) (st : RS) (w : ByteArray) : RS :=
 let k := tokV s st.p
 let st1 := bif !k.ok || !(k.t.toList == w.toList) then rfailV st k.at_ else st
 bif st1.c == 0 then ⟨k.at_ + k.t.size, st1.c, st1.a⟩ else st1
def isNameV (t : ByteArray) : Bool := !isNo t && nmByte (byteAt t 0) true
theorem isNo_size {t : ByteArray} (h : isNo t = false) : 0 < t.size := by
 rcases Nat.eq_zero_or_pos t.size with h0 | h0
 ·have : t = ByteArray.mk #[] := by
   apply ByteArray.ext
   exact Array.eq_empty_of_size_eq_zero h0
  subst this
  simp [isNo] at h
 ·exact h0
structure TokOk (s : ByteArray) (p : Nat) (k : Tok) : Prop where
 ge : p ≤ k.at_
 le : k.at_ + k.t.size ≤ s.size
 no : k.ok = false → isNo k.t = true
theorem ext_size (s : ByteArray) {i q : Nat} (h1 : i ≤ q) (h2 : q ≤ s.size) : i + (s.extract i q).size = q := by
 rw [ByteArray.size_extract]; omega
theorem tokV_ok (s : ByteArray) {p : Nat} (hp : p ≤ s.size) : TokOk s p (tokV s p) := by
  have h1 := le_scan isBlank s p
  have h2 := scan_le (f := isBlank) hp
  unfold tokV
  generalize scan isBlank s p = i at h1 h2
  unfold tokAt
  have e0 : isNo (ByteArray.mk #[]) = true := by simp [isNo]
  have s0 : (ByteArray.mk #[]).size = 0 := rfl
  have no : TokOk s p (Tok.no i) := ⟨h1, by simp [Tok.no]; omega, fun _ => e0⟩
  by_cases hi : i = s.size
  · subst hi
    simp only [beq_self_eq_true, cond_true]
    exact ⟨h1, by simp [s0], fun _ => e0⟩
  · have hib : (i == s.size) = false := by simpa using hi
    simp only [hib, cond_false]
    have one : TokOk s p ⟨s.extract i (i + 1), i, true⟩ := ⟨h1, by simp only; rw [ext_size s (by omega) (by omega)]; omega, by simp⟩
    have nm : ∀ q, i + 1 ≤ q → q ≤ s.size → TokOk s p (nmTok s i q) := by
      intro q hq1 hq2
      unfold nmTok
      cases decide (q - i > 40)
      · exact ⟨h1, by simp only [cond_false]; rw [ext_size s (by omega) hq2]; exact hq2, by simp⟩
      · exact no
    have num : ∀ q x, i + 1 ≤ q → q ≤ s.size → TokOk s p (numTok s i q x) := by
      intro q x hq1 hq2
      simp only [numTok]
      generalize (bif x == 35 then i + 1 else i) = d
      cases q == d
      · cases decide (q - d > 5)
        · cases (decide (q - d > 1) && byteAt s d == 48)
          · exact ⟨h1, by simp only [cond_false]; rw [ext_size s (by omega) hq2]; exact hq2, by simp⟩
          · exact no
        · exact no
      · exact no
    have g1 := le_scan (nmByte · false) s (i + 1)
    have g2 := scan_le (f := (nmByte · false)) (s := s) (i := i + 1) (by omega)
    have g3 := le_scan isDigit s (i + 1)
    have g4 := scan_le (f := isDigit) (s := s) (i := i + 1) (by omega)
    cases byteAt s i == 40
    · cases byteAt s i == 41
      · cases nmByte (byteAt s i) true
        · cases (byteAt s i == 35 || isDigit (byteAt s i))
          · exact no
          · exact num _ _ g3 g4
        · exact nm _ g1 g2
      · exact one
    · exact one
theorem rset_same {σ : Sto} {r : Nat} {s : ByteArray} {st : RS} (h : σ[r]? = some (st.cells s)) : σ.set r (st.cells s) = σ := by
 obtain ⟨_, h⟩ := List.getElem?_eq_some_iff.1 h
 rw [← h]; simp
theorem callK_ret3 {call : CallF} {f : FuncId} {args : List Cell} {σ σ' : Sto} {K : List Cell → Sto → Option Res} {KP : V → Sto → Option Res} {cs : List Cell} (h : call f args σ = some (.ret cs, σ')) (hl : cs.length = 3) :
  callK call f args σ 3 K KP = K cs σ' := callK_ret h hl
theorem tok0 (k : Tok) : (k.cells.getD 0 cellD).1 = .str k.t := rfl
theorem tok1 (k : Tok) : (k.cells.getD 1 cellD).1 = .int .i64 k.at_ := rfl
theorem tok2 (k : Tok) : (k.cells.getD 2 cellD).1 = .bool k.ok := rfl
theorem rset2 {σ : Sto} {r : Nat} {s : ByteArray} {st : RS} (h : σ[r]? = some (st.cells s)) (t : TypeId) (x y : Int) : memSet σ (.ptr t r 2) [(.int .i64 x, false), (.int .i64 y, false)] = some (σ.set r (RS.cells s ⟨st.p, x, y⟩)) := by
 simp only [memSet, h, Option.bind_some]; rfl
theorem rset1 {σ : Sto} {r : Nat} {s : ByteArray} {st : RS} (h : σ[r]? = some (st.cells s)) (t : TypeId) (x : Nat) : memSet σ (.ptr t r 1) [(.int .i64 x, false)] = some (σ.set r (RS.cells s ⟨x, st.c, st.a⟩)) := by
 simp only [memSet, h, Option.bind_some]; rfl
theorem rfail_law {σ : Sto} {r : Nat} {s : ByteArray} {st : RS} (h : σ[r]? = some (st.cells s)) (i : Nat) :
  lim C 58 [(.ptr 79 r 0, false), (.int .i64 i, false)] σ = some (.ret [], σ.set r ((rfailV st i).cells s)) :=
 rfail_lim (n := 0) <| by
  simp only [rfail, rfailF, rd2 h, Option.bind_some, V.asInt, if_true, rset2 h, rfailV]
  cases st.c == 0
  ·simp only [cond_false, rset_same h]
  ·rfl
theorem set_get {σ : Sto} {r : Nat} {x : List Cell} {y : List Cell} (h : σ[r]? = some x) : (σ.set r y)[r]? = some y := by
 obtain ⟨hl, _⟩ := List.getElem?_eq_some_iff.1 h
 simp [hl]
theorem wrap_add {a b : Nat} (h : a + b < 2 ^ 62) : IntKind.wrap .i64 ((a : Int) + (b : Int)) = ((a + b : Nat) : Int) := by
 rw [← wrap_nat h]; simp
theorem rnext_law {σ : Sto} {r : Nat} {s : ByteArray} {st : RS} (h : σ[r]? = some (st.cells s)) (hs : s.size < 2 ^ 61) (hp : st.p ≤ s.size) :
  lim C 59 [(.ptr 79 r 0, false)] σ = some (.ret [(.str (rnextV s st).1, false)], σ.set r ((rnextV s st).2.cells s)) :=
 rnext_lim (n := 0) <| by
  obtain ⟨hk1, hk2, hk3⟩ := tokV_ok s hp
  have ht := token_law h hs hp
  have hw : IntKind.wrap .i64 (((tokV s st.p).at_ : Int) + ((tokV s st.p).t.size : Int)) = (((tokV s st.p).at_ + (tokV s st.p).t.size : Nat) : Int) := wrap_add (by omega)
  have fin : ∀ st1 : RS, ∀ σ1 : Sto, σ1[r]? = some (st1.cells s) → st1.p = st.p → σ1 = σ.set r (st1.cells s) →
    (bif st1.c != 0 then some (End.ret [(V.str (ByteArray.mk #[]), false)], σ1) else
     (memSet σ1 (.ptr 79 r 1) [(.int .i64 (IntKind.wrap .i64 (((tokV s st.p).at_ : Int) + ((tokV s st.p).t.size : Int))), false)]).bind fun m => some (End.ret [(V.str (tokV s st.p).t, false)], m)) =
    some (.ret [(.str (bif st1.c != 0 then (ByteArray.mk #[], st1) else ((tokV s st.p).t, (⟨(tokV s st.p).at_ + (tokV s st.p).t.size, st1.c, st1.a⟩ : RS))).1, false)],
     σ.set r ((bif st1.c != 0 then (ByteArray.mk #[], st1) else ((tokV s st.p).t, (⟨(tokV s st.p).at_ + (tokV s st.p).t.size, st1.c, st1.a⟩ : RS))).2.cells s)) := by
   intro st1 σ1 h1 hp1 hσ
   rw [hw, rset1 h1]
   cases st1.c != 0
   ·simp only [cond_false, Option.bind_some]
    rw [hσ, List.set_set]
   ·simp only [cond_true]
    rw [hσ]
  simp only [rnext, rnextF, callK_ret3 ht rfl, tok0, tok1, tok2, V.asBool, V.asStr, V.asInt, if_true, Option.bind_some, rnextV]
  have hf := rfail_law h (tokV s st.p).at_
  have hg : (σ.set r ((rfailV st (tokV s st.p).at_).cells s))[r]? = some ((rfailV st (tokV s st.p).at_).cells s) := set_get h
  have e0 : ((tokV s st.p).t.toList == (ByteArray.mk #[]).toList) = isNo (tokV s st.p).t := rfl
  have hfp : (rfailV st (tokV s st.p).at_).p = st.p := by unfold rfailV; cases st.c == 0 <;> rfl
  rw [e0]
  cases hok : (tokV s st.p).ok
  ·simp only [Bool.not_false, cond_true, Bool.true_or, callK_ret0 hf, rd2 hg, Option.bind_some, V.asInt, if_true]
   exact fin _ _ hg hfp rfl
  ·simp only [Bool.not_true, cond_false, Bool.false_or]
   cases hno : isNo (tokV s st.p).t
   ·simp only [cond_false, rd2 h, Option.bind_some, V.asInt, if_true]
    exact fin _ _ h rfl (rset_same h).symm
   ·simp only [cond_true, callK_ret0 hf, rd2 hg, Option.bind_some, V.asInt, if_true]
    exact fin _ _ hg hfp rfl
theorem rtake_law {σ : Sto} {r : Nat} {s : ByteArray} {st : RS} (h : σ[r]? = some (st.cells s)) (hs : s.size < 2 ^ 61) (hp : st.p ≤ s.size) (w : ByteArray) :
  lim C 57 [(.ptr 79 r 0, false), (.str w, false)] σ = some (.ret [], σ.set r ((rtakeV s st w).cells s)) :=
 rtake_lim (n := 0) <| by
  obtain ⟨hk1, hk2, hk3⟩ := tokV_ok s hp
  have ht := token_law h hs hp
  have hw : IntKind.wrap .i64 (((tokV s st.p).at_ : Int) + ((tokV s st.p).t.size : Int)) = (((tokV s st.p).at_ + (tokV s st.p).t.size : Nat) : Int) := wrap_add (by omega)
  have fin : ∀ st1 : RS, ∀ σ1 : Sto, σ1[r]? = some (st1.cells s) → σ1 = σ.set r (st1.cells s) →
    (bif st1.c == 0 then
     (memSet σ1 (.ptr 79 r 1) [(.int .i64 (IntKind.wrap .i64 (((tokV s st.p).at_ : Int) + ((tokV s st.p).t.size : Int))), false)]).bind fun m => some (End.ret [], m) else some (End.ret [], σ1)) =
    some (.ret [], σ.set r ((bif st1.c == 0 then (⟨(tokV s st.p).at_ + (tokV s st.p).t.size, st1.c, st1.a⟩ : RS) else st1).cells s)) := by
   intro st1 σ1 h1 hσ
   rw [hw, rset1 h1]
   cases st1.c == 0
   ·simp only [cond_false]
    rw [hσ]
   ·simp only [cond_true, Option.bind_some]
    rw [hσ, List.set_set]
  simp only [rtake, rtakeF, callK_ret3 ht rfl, tok0, tok1, tok2, V.asBool, V.asStr, V.asInt, if_true, Option.bind_some, rtakeV]
  have hf := rfail_law h (tokV s st.p).at_
  have hg : (σ.set r ((rfailV st (tokV s st.p).at_).cells s))[r]? = some ((rfailV st (tokV s st.p).at_).cells s) := set_get h
  cases hok : (tokV s st.p).ok
  ·simp only [Bool.not_false, cond_true, Bool.true_or, callK_ret0 hf, rd2 hg, Option.bind_some, V.asInt, if_true]
   exact fin _ _ hg rfl
  ·simp only [Bool.not_true, cond_false, Bool.false_or]
   cases hno : ((tokV s st.p).t.toList == w.toList)
   ·simp only [Bool.not_false, cond_true, callK_ret0 hf, rd2 hg, Option.bind_some, V.asInt, if_true]
    exact fin _ _ hg rfl
   ·simp only [Bool.not_true, cond_false, rd2 h, Option.bind_some, V.asInt, if_true]
    exact fin _ _ h (rset_same h).symm
theorem isName_law (t : ByteArray) (σ : Sto) : lim C 82 [(.str t, false)] σ = some (.ret [(.bool (isNameV t), false)], σ) :=
 isName_lim (n := 0) <| by
  have e0 : (t.toList == (ByteArray.mk #[]).toList) = isNo t := rfl
  simp only [isName, isNameF, e0, isNameV]
  cases hno : isNo t
  ·have := isNo_size hno
   have hz : decide ((0 : Int) < (t.size : Int)) = true := by simp; omega
   have hn := nameByte_law (byteAt t 0) true σ
   simp only [Bool.not_false, cond_true, hz, Int.toNat_zero, callK_ret1 hn, Bool.true_and]
   rfl
  ·rfl
end Go.Ab.Mk
end
section
namespace Go.Ab.Mk
open Go.Proofs Go.Ab
def strIs (t : ByteArray) (l : List UInt8) : Bool := t.toList == (ba l).toList
def lv1 (rec : RS → Lv × RS) (s : ByteArray) (f : Lv → Lv) (st : RS) : Lv × RS := (f (rec st).1, rtakeV s (rec st).2 (ba [41]))
def lv2 (rec : RS → Lv × RS) (s : ByteArray) (f : Lv → Lv → Lv) (st : RS) : Lv × RS := (f (rec st).1 (rec (rec st).2).1, rtakeV s (rec (rec st).2).2 (ba [41]))
def lvP (rec : RS → Lv × RS) (s : ByteArray) (st : RS) : Lv × RS :=
 bif strIs (tokV s st.p).t [115] then lv1 rec s .succ (rnextV s st).2 else
 bif strIs (tokV s st.p).t [109, 97, 120] then lv2 rec s .max (rnextV s st).2 else
 bif strIs (tokV s st.p).t [105, 109, 97, 120] then lv2 rec s .imax (rnextV s st).2 else (.zero, rfailV st (tokV s st.p).at_)
def rlevelV : Nat → ByteArray → RS → Lv × RS
 | 0, _, st => (.zero, st)
 | n + 1, s, st =>
  bif st.c != 0 then (.zero, st) else
  bif strIs (tokV s st.p).t [48] then (.zero, (rnextV s st).2) else
  bif isNameV (tokV s st.p).t then (.param (tokV s st.p).t, (rnextV s st).2) else
  bif strIs (tokV s st.p).t [40] then lvP (rlevelV n s) s (rnextV s st).2 else (.zero, rfailV st (tokV s st.p).at_)
theorem rfail_p (st : RS) (i : Nat) : (rfailV st i).p = st.p := by unfold rfailV; cases st.c == 0 <;> rfl
theorem rfail_c (st : RS) (i : Nat) : (rfailV st i).c ≠ 0 := by
 unfold rfailV
 cases h : st.c == 0
 ·simpa using h
 ·simp
theorem rnext_stuck {s : ByteArray} {st : RS} (h : st.c ≠ 0) : rnextV s st = (ByteArray.mk #[], st) := by
 have h1 : (st.c == 0) = false := by simpa using h
 have h2 : (st.c != 0) = true := by simpa using h
 unfold rnextV rfailV
 simp only [h1, cond_false]
 cases (!(tokV s st.p).ok || isNo (tokV s st.p).t) <;> simp only [cond_true, cond_false, h2]
theorem rnext_p {s : ByteArray} {st : RS} (hp : st.p ≤ s.size) : (rnextV s st).2.p ≤ s.size ∧ ((rnextV s st).2.c = 0 → st.c = 0 ∧ isNo (tokV s st.p).t = false ∧ (rnextV s st).2.p = (tokV s st.p).at_ + (tokV s st.p).t.size) := by
 obtain ⟨k1, k2, k3⟩ := tokV_ok s hp
 by_cases hc : st.c = 0
 ·unfold rnextV rfailV
  simp only [hc, beq_self_eq_true, cond_true, bne_self_eq_false]
  cases hx : (!(tokV s st.p).ok || isNo (tokV s st.p).t)
  ·simp only [cond_false, hc, bne_self_eq_false]
   simp only [Bool.or_eq_false_iff] at hx
   exact ⟨by omega, fun _ => ⟨trivial, hx.2, by first | rfl | trivial⟩⟩
  ·simp only [cond_true]
   exact ⟨hp, fun h => by simp at h⟩
 ·rw [rnext_stuck hc]
  exact ⟨hp, fun h => absurd h hc⟩
theorem rtake_p {s : ByteArray} {st : RS} {w : ByteArray} (hp : st.p ≤ s.size) : (rtakeV s st w).p ≤ s.size ∧ ((rtakeV s st w).c = 0 → st.c = 0 ∧ (tokV s st.p).t.toList = w.toList ∧ (rtakeV s st w).p = (tokV s st.p).at_ + (tokV s st.p).t.size) := by
 obtain ⟨k1, k2, k3⟩ := tokV_ok s hp
 by_cases hc : st.c = 0
 ·unfold rtakeV rfailV
  simp only [hc, beq_self_eq_true, cond_true]
  cases hx : (!(tokV s st.p).ok || !((tokV s st.p).t.toList == w.toList))
  ·simp only [cond_false, hc, beq_self_eq_true, cond_true]
   simp only [Bool.or_eq_false_iff] at hx
   exact ⟨by omega, fun _ => ⟨trivial, by simpa using hx.2, by first | rfl | trivial⟩⟩
  ·simp only [cond_true]
   exact ⟨hp, fun h => by simp at h⟩
 ·have h1 : (st.c == 0) = false := by simpa using hc
  have : rtakeV s st w = st := by
   unfold rtakeV rfailV
   simp only [h1, cond_false]
   cases (!(tokV s st.p).ok || !((tokV s st.p).t.toList == w.toList)) <;> simp only [cond_true, cond_false, h1]
  rw [this]
  exact ⟨hp, fun h => absurd h hc⟩
theorem rlevel_stuck {n : Nat} {s : ByteArray} {st : RS} (h : st.c ≠ 0) : rlevelV n s st = (.zero, st) := by
 cases n with
 | zero => rfl
 | succ n =>
  have h2 : (st.c != 0) = true := by simpa using h
  rw [rlevelV, h2]; rfl
theorem strIs_size {t : ByteArray} {l : List UInt8} (h : strIs t l = true) : t.size = l.length := by
 rw [strIs, beq_iff_eq, ByteArray.toList_eq, ByteArray.toList_eq] at h
 have := congrArg List.length h
 show t.data.size = l.length
 rw [← Array.length_toList, this]
 simp [ba]
structure Took (s : ByteArray) (st : RS) (x : Lv × RS) : Prop where
 le : x.2.p ≤ s.size
 ok : x.2.c = 0 → st.c = 0 ∧ (printL x.1).length ≤ 2 * (x.2.p - st.p) ∧ x.1.size ≤ x.2.p - st.p ∧ st.p < x.2.p ∧ printL x.1 ≠ []
theorem rlevel_took (s : ByteArray) : ∀ (n : Nat) (st : RS), st.p ≤ s.size → (st.c ≠ 0 ∨ s.size - st.p < n) → Took s st (rlevelV n s st)
 | 0, st, hp, hn => ⟨hp, fun h => by rcases hn with hn | hn; exact absurd h hn; omega⟩
 | n + 1, st, hp, hn => by
  by_cases hc : st.c = 0
  case neg => rw [rlevel_stuck hc]; exact ⟨hp, fun h => absurd h hc⟩
  obtain ⟨k1, k2, k3⟩ := tokV_ok s hp
  obtain ⟨q1, q2⟩ := rnext_p (st := st) hp
  have hc' : (st.c != 0) = false := by simp [hc]
  simp only [rlevelV, hc', cond_false]
  cases h0 : strIs (tokV s st.p).t [48]
  case true =>
   have z := strIs_size h0
   simp only [cond_true, cond_false]
   refine ⟨q1, fun h => ?_⟩
   obtain ⟨_, _, e⟩ := q2 h
   simp only [List.length_cons, List.length_nil] at z
   refine ⟨hc, ?_, ?_, ?_, by simp [printL]⟩ <;> simp only [e, printL, Lv.size, List.length_cons, List.length_nil] <;> omega
  cases h1 : isNameV (tokV s st.p).t
  case true =>
   simp only [cond_true, cond_false]
   refine ⟨q1, fun h => ?_⟩
   obtain ⟨_, e1, e⟩ := q2 h
   have z := isNo_size e1
   have zz : (tokV s st.p).t.data.toList.length = (tokV s st.p).t.size := Array.length_toList
   refine ⟨hc, ?_, ?_, ?_, ?_⟩
   ·simp only [e, printL, zz]; omega
   ·simp only [e, Lv.size]; omega
   ·simp only [e]; omega
   ·simp only [printL]; intro hh; rw [hh] at zz; simp at zz; omega
  cases h2 : strIs (tokV s st.p).t [40]
  case false =>
   simp only [cond_false]
   exact ⟨by rw [rfail_p]; exact hp, fun h => absurd h (rfail_c _ _)⟩
  have z2 := strIs_size h2
  simp only [List.length_cons, List.length_nil] at z2
  simp only [cond_true, cond_false]
  obtain ⟨r1, r2⟩ := rnext_p (s := s) (st := (rnextV s st).2) q1
  have hn2 : (rnextV s (rnextV s st).2).2.c ≠ 0 ∨ s.size - (rnextV s (rnextV s st).2).2.p < n := by
   by_cases hz : (rnextV s (rnextV s st).2).2.c = 0
   ·obtain ⟨e1, e2, e3⟩ := r2 hz
    obtain ⟨_, _, e4⟩ := q2 e1
    obtain ⟨m1, _, _⟩ := tokV_ok s q1
    rcases hn with hn | hn
    ·exact absurd hc hn
    ·have := isNo_size e2; right; omega
   ·exact .inl hz
  have tx := rlevel_took s n _ r1 hn2
  have hn3 : (rlevelV n s (rnextV s (rnextV s st).2).2).2.c ≠ 0 ∨ s.size - (rlevelV n s (rnextV s (rnextV s st).2).2).2.p < n := by
   by_cases hz : (rlevelV n s (rnextV s (rnextV s st).2).2).2.c = 0
   ·obtain ⟨e1, _, _, e2, _⟩ := tx.ok hz
    rcases hn2 with h | h
    ·exact absurd e1 h
    ·right; omega
   ·exact .inl hz
  have ty := rlevel_took s n _ tx.le hn3
  generalize hX : rlevelV n s (rnextV s (rnextV s st).2).2 = X at tx ty hn3
  generalize hY : rlevelV n s X.2 = Y at ty
  have b41 : (ba [41]).toList = [41] := by rw [ByteArray.toList_eq]; rfl
  have one : ∀ (f : Lv → Lv) (w : List UInt8), (∀ l, (printL (f l)).length = (printL l).length + w.length + 3 ∧ (f l).size = l.size + 1 ∧ printL (f l) ≠ []) → strIs (tokV s (rnextV s st).2.p).t w = true → w.length ≥ 1 → Took s st (f X.1, rtakeV s X.2 (ba [41])) := by
   intro f w hf hw hwl
   obtain ⟨t1, t2⟩ := rtake_p (w := ba [41]) tx.le
   refine ⟨t1, fun h => ?_⟩
   obtain ⟨u1, u2, u3⟩ := t2 h
   obtain ⟨v1, v2, v3, v4, v5⟩ := tx.ok u1
   obtain ⟨w1, w2, w3⟩ := r2 v1
   obtain ⟨x1, x2, x3⟩ := q2 w1
   obtain ⟨m1, _, _⟩ := tokV_ok s q1
   obtain ⟨m2, _, _⟩ := tokV_ok s tx.le
   have z4 := strIs_size hw
   have z5 : (tokV s X.2.p).t.size = 1 := by
    have := strIs_size (l := [41]) (t := (tokV s X.2.p).t) (by simp [strIs, u2])
    simpa using this
   obtain ⟨g1, g2, g3⟩ := hf X.1
   simp only
   refine ⟨hc, ?_, ?_, ?_, g3⟩ <;> (try rw [g1]) <;> (try rw [g2]) <;> omega
  have two : ∀ (f : Lv → Lv → Lv) (w : List UInt8), (∀ l m, (printL (f l m)).length = (printL l).length + (printL m).length + w.length + 4 ∧ (f l m).size = l.size + m.size + 1 ∧ printL (f l m) ≠ []) → strIs (tokV s (rnextV s st).2.p).t w = true → w.length ≥ 1 → Took s st (f X.1 Y.1, rtakeV s Y.2 (ba [41])) := by
   intro f w hf hw hwl
   obtain ⟨t1, t2⟩ := rtake_p (w := ba [41]) ty.le
   refine ⟨t1, fun h => ?_⟩
   obtain ⟨u1, u2, u3⟩ := t2 h
   obtain ⟨y1, y2, y3, y4, y5⟩ := ty.ok u1
   obtain ⟨v1, v2, v3, v4, v5⟩ := tx.ok y1
   obtain ⟨w1, w2, w3⟩ := r2 v1
   obtain ⟨x1, x2, x3⟩ := q2 w1
   obtain ⟨m1, _, _⟩ := tokV_ok s q1
   obtain ⟨m2, _, _⟩ := tokV_ok s ty.le
   have z4 := strIs_size hw
   have z5 : (tokV s Y.2.p).t.size = 1 := by
    have := strIs_size (l := [41]) (t := (tokV s Y.2.p).t) (by simp [strIs, u2])
    simpa using this
   obtain ⟨g1, g2, g3⟩ := hf X.1 Y.1
   simp only
   refine ⟨hc, ?_, ?_, ?_, g3⟩ <;> (try rw [g1]) <;> (try rw [g2]) <;> omega
  simp only [lvP, lv1, lv2, hX, hY]
  cases h3 : strIs (tokV s (rnextV s st).2.p).t [115]
  case true => exact one .succ [115] (fun l => ⟨by simp [printL] <;> omega, rfl, by simp [printL]⟩) h3 (by simp)
  cases h4 : strIs (tokV s (rnextV s st).2.p).t [109, 97, 120]
  case true => exact two .max [109, 97, 120] (fun l m => ⟨by simp [printL]; omega, rfl, by simp [printL]⟩) h4 (by simp)
  cases h5 : strIs (tokV s (rnextV s st).2.p).t [105, 109, 97, 120]
  case true => exact two .imax [105, 109, 97, 120] (fun l m => ⟨by simp [printL]; omega, rfl, by simp [printL]⟩) h5 (by simp)
  exact ⟨by simp only [cond_false]; rw [rfail_p]; exact q1, fun h => absurd h (by simp only [cond_false]; exact rfail_c _ _)⟩
theorem rlevel_law {r : Nat} {s : ByteArray} (hs : s.size < 2 ^ 61) : ∀ (n : Nat) (st : RS) (σ : Sto), σ[r]? = some (st.cells s) → st.p ≤ s.size → (st.c ≠ 0 ∨ s.size - st.p < n) → 0 < n →
  lim C 83 [(.ptr 79 r 0, false)] σ = some (.ret [(.agg [.int .i64 (rlevelV n s st).1.kind, .str (rlevelV n s st).1.name, .slice 3 92 (rlevelV n s st).1.args], false)], σ.set r ((rlevelV n s st).2.cells s))
 | 0, st, σ, h, hp, hn, h0 => by omega
 | n + 1, st, σ, h, hp, hn, _ => rlevel_lim (n := 0) <| by
  have ht := token_law h hs hp
  have hi := isName_law (tokV s st.p).t σ
  simp only [rlevel, rlevelF, callK_ret3 ht rfl, tok0, tok1, tok2, callK_ret1 hi, rd2 h, V.asInt, V.asStr, if_true, Option.bind_some, List.getD_cons_zero, V.asBool]
  by_cases hc : st.c = 0
  case neg =>
   have h2 : (st.c != 0) = true := by simpa using hc
   rw [rlevel_stuck hc]
   simp only [h2, cond_true, rset_same h]
   rfl
  obtain ⟨q1, q2⟩ := rnext_p (st := st) hp
  obtain ⟨r1, r2⟩ := rnext_p (s := s) (st := (rnextV s st).2) q1
  have hc' : (st.c != 0) = false := by simp [hc]
  have hnx := rnext_law h hs hp
  have hg1 : (σ.set r ((rnextV s st).2.cells s))[r]? = some ((rnextV s st).2.cells s) := set_get h
  have e48 : ∀ t : ByteArray, (t.toList == (ByteArray.mk #[48]).toList) = strIs t [48] := fun _ => rfl
  have e40 : ∀ t : ByteArray, (t.toList == (ByteArray.mk #[40]).toList) = strIs t [40] := fun _ => rfl
  have e115 : ∀ t : ByteArray, (t.toList == (ByteArray.mk #[115]).toList) = strIs t [115] := fun _ => rfl
  have emax : ∀ t : ByteArray, (t.toList == (ByteArray.mk #[109, 97, 120]).toList) = strIs t [109, 97, 120] := fun _ => rfl
  have eimax : ∀ t : ByteArray, (t.toList == (ByteArray.mk #[105, 109, 97, 120]).toList) = strIs t [105, 109, 97, 120] := fun _ => rfl
  have e41 : ByteArray.mk #[41] = ba [41] := rfl
  have hr1 : room (0 + 1) = true := by decide
  have hr2 : room (1 + 1) = true := by decide
  simp only [hc', cond_false, callK_ret1 hnx, e48, e40, e115, emax, eimax, e41, hr1, hr2]
  have ht2 := token_law hg1 hs q1
  simp only [callK_ret3 ht2 rfl, tok0, tok1, V.asStr, Option.bind_some]
  have hnx2 := rnext_law hg1 hs q1
  rw [List.set_set] at hnx2
  have hg2 : (σ.set r ((rnextV s (rnextV s st).2).2.cells s))[r]? = some ((rnextV s (rnextV s st).2).2.cells s) := set_get h
  have hf1 := rfail_law h (tokV s st.p).at_
  have hf2 := rfail_law hg1 (tokV s (rnextV s st).2.p).at_
  rw [List.set_set] at hf2
  simp only [callK_ret1 hnx2, callK_ret0 hf1, callK_ret0 hf2]
  simp only [rlevelV, hc', cond_false]
  cases h0 : strIs (tokV s st.p).t [48]
  case true => rfl
  cases h1 : isNameV (tokV s st.p).t
  case true => rfl
  cases h2 : strIs (tokV s st.p).t [40]
  case false => rfl
  simp only [cond_true, cond_false]
  have z2 := strIs_size h2
  simp only [List.length_cons, List.length_nil] at z2
  obtain ⟨k1, k2, k3⟩ := tokV_ok s hp
  have hn2 : (rnextV s (rnextV s st).2).2.c ≠ 0 ∨ s.size - (rnextV s (rnextV s st).2).2.p < n := by
   by_cases hz : (rnextV s (rnextV s st).2).2.c = 0
   ·obtain ⟨e1, e2, e3⟩ := r2 hz
    obtain ⟨_, _, e4⟩ := q2 e1
    obtain ⟨m1, _, _⟩ := tokV_ok s q1
    rcases hn with hn | hn
    ·exact absurd hc hn
    ·have := isNo_size e2; right; omega
   ·exact .inl hz
  have hn0 : 0 < n := by
   rcases hn with hn | hn
   ·exact absurd hc hn
   ·omega
  have tx := rlevel_took s n _ r1 hn2
  have hn3 : (rlevelV n s (rnextV s (rnextV s st).2).2).2.c ≠ 0 ∨ s.size - (rlevelV n s (rnextV s (rnextV s st).2).2).2.p < n := by
   by_cases hz : (rlevelV n s (rnextV s (rnextV s st).2).2).2.c = 0
   ·obtain ⟨e1, _, _, e2, _⟩ := tx.ok hz
    rcases hn2 with h | h
    ·exact absurd e1 h
    ·right; omega
   ·exact .inl hz
  have ty := rlevel_took s n _ tx.le hn3
  have hx := rlevel_law hs n _ _ hg2 r1 hn2 hn0
  rw [List.set_set] at hx
  have hg3 : (σ.set r ((rlevelV n s (rnextV s (rnextV s st).2).2).2.cells s))[r]? = some ((rlevelV n s (rnextV s (rnextV s st).2).2).2.cells s) := set_get h
  have hy := rlevel_law hs n _ _ hg3 tx.le hn3 hn0
  rw [List.set_set] at hy
  simp only [lvP, lv1, lv2]
  generalize rlevelV n s (rnextV s (rnextV s st).2).2 = X at tx hx hg3 hn3 hy ty ⊢
  generalize rlevelV n s X.2 = Y at hy ty ⊢
  have hg4 : (σ.set r (Y.2.cells s))[r]? = some (Y.2.cells s) := set_get h
  have htx := rtake_law hg3 hs tx.le (ba [41])
  have hty := rtake_law hg4 hs ty.le (ba [41])
  rw [List.set_set] at htx hty
  simp only [callK_ret1 hx, callK_ret1 hy, callK_ret0 htx, callK_ret0 hty, List.getD_cons_zero, fits_lv, cell_lv, grd, Bool.and_self, cond_true, Option.bind_some]
  cases h3 : strIs (tokV s (rnextV s st).2.p).t [115]
  case true => rfl
  cases h4 : strIs (tokV s (rnextV s st).2.p).t [109, 97, 120]
  case true => rfl
  cases h5 : strIs (tokV s (rnextV s st).2.p).t [105, 109, 97, 120]
  case true => rfl
  rfl
end Go.Ab.Mk
end
section
namespace Go.Ab.Mk
open Go.Proofs Go.Ab
theorem scan_all {f : Int → Bool} {s : ByteArray} : ∀ (k i : Nat), s.size - i = k → ∀ j, i ≤ j → j < scan f s i → f (byteAt s j) = true
 | k, i, hk, j, h1, h2 => by
  by_cases h : i < s.size ∧ f (byteAt s i) = true
  ·rw [scan_go h.1 h.2] at h2
   rcases Nat.eq_or_lt_of_le h1 with rfl | h1
   ·exact h.2
   ·exact scan_all (k - 1) (i + 1) (by omega) j h1 h2
  ·rw [scan_stop h] at h2; omega
theorem byteAt_ext {s : ByteArray} {i q j : Nat} (h : i + j < q) (hq : q ≤ s.size) : byteAt (s.extract i q) j = byteAt s (i + j) := by
 have h1 : (s.extract i q).data.toList.getD j 0 = s.data.toList.getD (i + j) 0 := by
  rw [ByteArray.data_extract]
  simp only [List.getD, Array.getElem?_toList, Array.getElem?_extract]
  have hq' : q ≤ s.data.size := hq
  rw [if_pos (by omega)]
 simp only [byteAt, h1]
end Go.Ab.Mk
end
section
namespace Go.Ab.Mk
open Go.Ab
inductive Tm where
 | var (n : Nat)
 | sort (l : Lv)
 | const (s : ByteArray) (ls : List Lv)
 | app (a b : Tm)
 | lam (a b : Tm)
 | pi (a b : Tm)
 | letin (a b c : Tm)
 deriving Inhabited
def Tm.kind : Tm → Int
 | .var _ => 0 | .sort _ => 1 | .const .. => 2 | .app .. => 3 | .lam .. => 4 | .pi .. => 5 | .letin .. => 6
def Tm.num : Tm → Nat
 | .var n => n
 | _ => 0
def Tm.name : Tm → ByteArray
 | .const s _ => s
 | _ => ByteArray.mk #[]
def Tm.lvs : Tm → List Lv
 | .sort l => [l]
 | .const _ ls => ls
 | _ => []
def Tm.kids : Tm → List Tm
 | .app a b => [a, b]
 | .lam a b => [a, b]
 | .pi a b => [a, b]
 | .letin a b c => [a, b, c]
 | _ => []
def tmCells (k n : Int) (s : ByteArray) (ls : List Lv) (es : List (List V)) : List V := [.int .i64 k, .int .i64 n, .str s, .slice 3 92 (ls.map Lv.enc), .slice 5 44 es]
def Tm.enc : Tm → List V
 | .var n => tmCells 0 n (ByteArray.mk #[]) [] []
 | .sort l => tmCells 1 0 (ByteArray.mk #[]) [l] []
 | .const s ls => tmCells 2 0 s ls []
 | .app a b => tmCells 3 0 (ByteArray.mk #[]) [] [a.enc, b.enc]
 | .lam a b => tmCells 4 0 (ByteArray.mk #[]) [] [a.enc, b.enc]
 | .pi a b => tmCells 5 0 (ByteArray.mk #[]) [] [a.enc, b.enc]
 | .letin a b c => tmCells 6 0 (ByteArray.mk #[]) [] [a.enc, b.enc, c.enc]
def Tm.args (t : Tm) : List (List V) := t.kids.map Tm.enc
def Tm.val (t : Tm) : V := .agg [.int .i64 t.kind, .int .i64 t.num, .str t.name, .slice 3 92 (t.lvs.map Lv.enc), .slice 5 44 t.args]
theorem Tm.enc_eq (t : Tm) : t.enc = [.int .i64 t.kind, .int .i64 t.num, .str t.name, .slice 3 92 (t.lvs.map Lv.enc), .slice 5 44 t.args] := by cases t <;> rfl
theorem Tm.enc_len (t : Tm) : t.enc.length = 5 := by cases t <;> rfl
def Tm.head : Tm → Tm
 | .app a _ => a.head
 | t => t
theorem Tm.ind {P : Tm → Prop} (h : ∀ t, (∀ c ∈ t.kids, P c) → P t) : ∀ t, P t
 | .var _ => h _ (by simp [Tm.kids])
 | .sort _ => h _ (by simp [Tm.kids])
 | .const .. => h _ (by simp [Tm.kids])
 | .app a b => h _ (by simp only [Tm.kids, List.mem_cons, List.not_mem_nil, or_false]; rintro c (rfl | rfl) <;> exact Tm.ind h _)
 | .lam a b => h _ (by simp only [Tm.kids, List.mem_cons, List.not_mem_nil, or_false]; rintro c (rfl | rfl) <;> exact Tm.ind h _)
 | .pi a b => h _ (by simp only [Tm.kids, List.mem_cons, List.not_mem_nil, or_false]; rintro c (rfl | rfl) <;> exact Tm.ind h _)
 | .letin a b d => h _ (by simp only [Tm.kids, List.mem_cons, List.not_mem_nil, or_false]; rintro c (rfl | rfl | rfl) <;> exact Tm.ind h _)
end Go.Ab.Mk
end
section
namespace Go.Ab.Mk
open Go.Proofs Go.Ab
def numFrom (s : ByteArray) (i : Nat) (acc : Nat) : Nat := if i < s.size then numFrom s (i + 1) (10 * acc + ((byteAt s i).toNat - 48)) else acc
termination_by s.size - i
theorem numFrom_go {s : ByteArray} {i acc : Nat} (h : i < s.size) : numFrom s i acc = numFrom s (i + 1) (10 * acc + ((byteAt s i).toNat - 48)) := by rw [numFrom, if_pos h]
theorem numFrom_end {s : ByteArray} {i acc : Nat} (h : ¬ i < s.size) : numFrom s i acc = acc := by rw [numFrom, if_neg h]
def numV (s : ByteArray) : Nat := numFrom s 0 0
structure Digits (s : ByteArray) : Prop where
 pos : 0 < s.size
 few : s.size ≤ 5
 all : ∀ i, i < s.size → isDigit (byteAt s i) = true
theorem Digits.byte {s : ByteArray} (h : Digits s) {i : Nat} (hi : i < s.size) : ∃ n : Nat, byteAt s i = (n : Int) ∧ 48 ≤ n ∧ n ≤ 57 := by
 have := h.all i hi
 simp only [isDigit, Bool.and_eq_true, decide_eq_true_eq] at this
 exact ⟨(byteAt s i).toNat, by omega, by omega, by omega⟩
theorem tok_num {s : ByteArray} {p : Nat} (hp : p ≤ s.size) (hok : (tokV s p).ok = true) (h0 : isNo (tokV s p).t = false) (h35 : byteAt (tokV s p).t 0 = 35) : Digits ((tokV s p).t.extract 1 (tokV s p).t.size) := by
  have h1 := le_scan isBlank s p
  have h2 := scan_le (f := isBlank) hp
  unfold tokV at hok h0 h35 ⊢
  generalize scan isBlank s p = i at h1 h2 hok h0 h35 ⊢
  by_cases hi : i = s.size
  · have : tokAt s i = ⟨ByteArray.mk #[], i, true⟩ := by unfold tokAt; simp [hi]
    rw [this] at h0; simp [isNo] at h0
  · have hlt : i < s.size := by omega
    have hz := isNo_size h0
    -- the token begins where it lies
    have hb : ∀ q, i + 1 ≤ q → q ≤ s.size → byteAt (s.extract i q) 0 = byteAt s i := fun q hq1 hq2 => byteAt_ext (by omega) hq2
    unfold tokAt at hok h0 h35 hz ⊢
    have hib : (i == s.size) = false := by simpa using hi
    simp only [hib, cond_false] at hok h0 h35 hz ⊢
    cases e40 : byteAt s i == 40
    case true =>
      simp only [e40, cond_true] at hok h0 h35 hz ⊢
      rw [hb _ (Nat.le_refl _) (by omega)] at h35
      simp only [beq_iff_eq] at e40; omega
    cases e41 : byteAt s i == 41
    case true =>
      simp only [e40, e41, cond_true, cond_false] at hok h0 h35 hz ⊢
      rw [hb _ (Nat.le_refl _) (by omega)] at h35
      simp only [beq_iff_eq] at e41; omega
    simp only [e40, e41, cond_false] at hok h0 h35 hz ⊢
    cases enm : nmByte (byteAt s i) true
    case true =>
      simp only [enm, cond_true] at hok h0 h35 hz ⊢
      have g1 := le_scan (nmByte · false) s (i + 1)
      have g2 := scan_le (f := (nmByte · false)) (s := s) (i := i + 1) (by omega)
      generalize scan (nmByte · false) s (i + 1) = q at g1 g2 hok h0 h35 hz ⊢
      unfold nmTok at hok h0 h35 hz ⊢
      cases e : decide (q - i > 40)
      · simp only [e, cond_false] at hok h0 h35 hz ⊢
        rw [hb q g1 g2] at h35
        rw [h35] at enm
        exact absurd enm (by decide)
      · simp [e, Tok.no] at hok
    simp only [enm, cond_false] at hok h0 h35 hz ⊢
    cases e35 : (byteAt s i == 35 || isDigit (byteAt s i))
    case false => simp [e35, Tok.no] at hok
    simp only [e35, cond_true] at hok h0 h35 hz ⊢
    have g1 := le_scan isDigit s (i + 1)
    have g2 := scan_le (f := isDigit) (s := s) (i := i + 1) (by omega)
    have g3 := scan_all (f := isDigit) (s := s) _ (i + 1) rfl
    generalize scan isDigit s (i + 1) = q at g1 g2 g3 hok h0 h35 hz ⊢
    have hok' : (numTok s i q (byteAt s i)) = ⟨s.extract i q, i, true⟩ ∧ (byteAt s i = 35 → 1 ≤ q - (i + 1) ∧ q - (i + 1) ≤ 5) := by
      simp only [numTok] at hok ⊢
      generalize hd : (bif byteAt s i == 35 then i + 1 else i) = d at hok ⊢
      cases c1 : q == d
      · cases c2 : decide (q - d > 5)
        · cases c3 : (decide (q - d > 1) && byteAt s d == 48)
          · refine ⟨rfl, fun h => ?_⟩
            simp only [h, beq_self_eq_true, cond_true] at hd
            subst hd
            simp at c1 c2
            omega
          · simp [c1, c2, c3, Tok.no] at hok
        · simp [c1, c2, Tok.no] at hok
      · simp [c1, Tok.no] at hok
    rw [hok'.1] at h35 ⊢
    simp only at h35 ⊢
    rw [hb q g1 g2] at h35
    obtain ⟨f1, f2⟩ := hok'.2 h35
    have hsz : (s.extract i q).size = q - i := by rw [ByteArray.size_extract]; omega
    have hsz2 : ((s.extract i q).extract 1 (s.extract i q).size).size = q - (i + 1) := by rw [ByteArray.size_extract]; omega
    refine ⟨by rw [hsz2]; omega, by rw [hsz2]; omega, fun j hj => ?_⟩
    rw [hsz2] at hj
    rw [byteAt_ext (by rw [hsz]; omega) (Nat.le_refl _), byteAt_ext (by omega) g2]
    exact g3 _ (by omega) (by omega)
theorem num_lt {s : ByteArray} (h : Digits s) : ∀ (k i acc : Nat), s.size - i = k → numFrom s i acc + 1 ≤ (acc + 1) * 10 ^ k
 | 0, i, acc, hk => by rw [numFrom_end (by omega)]; simp
 | k + 1, i, acc, hk => by
  rw [numFrom_go (by omega)]
  have := num_lt h k (i + 1) (10 * acc + ((byteAt s i).toNat - 48)) (by omega)
  obtain ⟨n, h1, h2, h3⟩ := h.byte (i := i) (by omega)
  refine Nat.le_trans this ?_
  rw [h1, Nat.pow_succ, Nat.mul_comm (10 ^ k) 10, ← Nat.mul_assoc]
  refine Nat.mul_le_mul_right _ ?_
  simp; omega
def wordIx (t : ByteArray) : Nat :=
 bif strIs t [115, 111, 114, 116] then 1 else bif strIs t [99, 111, 110, 115, 116] then 2 else bif strIs t [97, 112, 112] then 3 else
 bif strIs t [108, 97, 109] then 4 else bif strIs t [112, 105] then 5 else bif strIs t [108, 101, 116] then 6 else 0
def rnameV (s : ByteArray) (st : RS) : ByteArray × RS :=
 let k := tokV s st.p
 let st1 := bif !k.ok || !isNameV k.t then rfailV st k.at_ else st
 bif st1.c != 0 then (ByteArray.mk #[], st1) else (k.t, ⟨k.at_ + k.t.size, st1.c, st1.a⟩)
def rlvsV : Nat → ByteArray → RS → List Lv × RS
 | 0, _, st => ([], st)
 | n + 1, s, st =>
  bif st.c != 0 then ([], st) else
  bif strIs (tokV s st.p).t [41] then ([], st) else
  let x := rlevelV (s.size + 1) s st
  let y := rlvsV n s x.2
  (x.1 :: y.1, y.2)
def tm2 (rec : RS → Tm × RS) (s : ByteArray) (f : Tm → Tm → Tm) (st : RS) : Tm × RS := (f (rec st).1 (rec (rec st).2).1, rtakeV s (rec (rec st).2).2 (ba [41]))
def tm3 (rec : RS → Tm × RS) (s : ByteArray) (f : Tm → Tm → Tm → Tm) (st : RS) : Tm × RS :=
 (f (rec st).1 (rec (rec st).2).1 (rec (rec (rec st).2).2).1, rtakeV s (rec (rec (rec st).2).2).2 (ba [41]))
def tmB (rec : RS → Tm × RS) (s : ByteArray) (k : Nat) (st : RS) : Tm × RS :=
 match k with
 | 1 => (.sort (rlevelV (s.size + 1) s st).1, rtakeV s (rlevelV (s.size + 1) s st).2 (ba [41]))
 | 2 => (.const (rnameV s st).1 (rlvsV (s.size + 10) s (rnameV s st).2).1, rtakeV s (rlvsV (s.size + 10) s (rnameV s st).2).2 (ba [41]))
 | 3 => tm2 rec s .app st
 | 4 => tm2 rec s .lam st
 | 5 => tm2 rec s .pi st
 | _ => tm3 rec s .letin st
def tmP (rec : RS → Tm × RS) (s : ByteArray) (st : RS) : Tm × RS :=
 bif wordIx (tokV s st.p).t == 0 then (.var 0, rfailV st (tokV s st.p).at_) else tmB rec s (wordIx (tokV s st.p).t) (rnextV s st).2
def badTok (k : Tok) : Bool := !k.ok || (isNo k.t || (!(byteAt k.t 0 == 35) && !strIs k.t [40]))
def rtermV : Nat → ByteArray → RS → Tm × RS
 | 0, _, st => (.var 0, st)
 | n + 1, s, st =>
  bif st.c != 0 then (.var 0, st) else
  bif badTok (tokV s st.p) then (.var 0, rfailV st (tokV s st.p).at_) else
  bif strIs (tokV s st.p).t [40] then tmP (rtermV n s) s (rnextV s st).2 else
  (.var (numV ((tokV s st.p).t.extract 1 (tokV s st.p).t.size)), (rnextV s st).2)
theorem rterm_stuck {n : Nat} {s : ByteArray} {st : RS} (h : st.c ≠ 0) : rtermV n s st = (.var 0, st) := by
 cases n with
 | zero => rfl
 | succ n =>
  have h2 : (st.c != 0) = true := by simpa using h
  rw [rtermV, h2]; rfl
theorem rlvs_stuck {n : Nat} {s : ByteArray} {st : RS} (h : st.c ≠ 0) : rlvsV n s st = ([], st) := by
 cases n with
 | zero => rfl
 | succ n =>
  have h2 : (st.c != 0) = true := by simpa using h
  rw [rlvsV, h2]; rfl
structure Gone (s : ByteArray) (st st' : RS) : Prop where
 le : st'.p ≤ s.size
 ok : st'.c = 0 → st.c = 0 ∧ st.p ≤ st'.p
structure Goes (s : ByteArray) (st st' : RS) : Prop where
 le : st'.p ≤ s.size
 ok : st'.c = 0 → st.c = 0 ∧ st.p < st'.p
theorem Goes.gone {s : ByteArray} {a b : RS} (h : Goes s a b) : Gone s a b := ⟨h.le, fun e => ⟨(h.ok e).1, Nat.le_of_lt (h.ok e).2⟩⟩
theorem Goes.trans {s : ByteArray} {a b c : RS} (h : Goes s a b) (k : Gone s b c) : Goes s a c := ⟨k.le, fun e => ⟨(h.ok (k.ok e).1).1, by have := (h.ok (k.ok e).1).2; have := (k.ok e).2; omega⟩⟩
theorem Gone.trans {s : ByteArray} {a b c : RS} (h : Gone s a b) (k : Gone s b c) : Gone s a c := ⟨k.le, fun e => ⟨(h.ok (k.ok e).1).1, by have := (h.ok (k.ok e).1).2; have := (k.ok e).2; omega⟩⟩
theorem Gone.refl {s : ByteArray} {a : RS} (h : a.p ≤ s.size) : Gone s a a := ⟨h, fun e => ⟨e, Nat.le_refl _⟩⟩
theorem rfail_gone {s : ByteArray} {st : RS} (h : st.p ≤ s.size) (i : Nat) : Goes s st (rfailV st i) := ⟨by rw [rfail_p]; exact h, fun e => absurd e (rfail_c _ _)⟩
theorem rnext_goes {s : ByteArray} {st : RS} (h : st.p ≤ s.size) : Goes s st (rnextV s st).2 := by
 obtain ⟨a, b⟩ := rnext_p h
 refine ⟨a, fun e => ?_⟩
 obtain ⟨c, d, f⟩ := b e
 have := isNo_size d
 have := (tokV_ok s h).ge
 exact ⟨c, by omega⟩
theorem rtake_gone {s : ByteArray} {st : RS} (h : st.p ≤ s.size) (w : ByteArray) : Gone s st (rtakeV s st w) := by
 obtain ⟨k1, k2, k3⟩ := tokV_ok s h
 unfold rtakeV
 by_cases hc : st.c = 0
 ·simp only
  cases hx : (!(tokV s st.p).ok || !((tokV s st.p).t.toList == w.toList))
  ·simp only [cond_false, hc, beq_self_eq_true, cond_true]
   exact ⟨by simpa using k2, fun _ => ⟨hc, by simp only; omega⟩⟩
  ·have hf : ((rfailV st (tokV s st.p).at_).c == 0) = false := by simpa using rfail_c st (tokV s st.p).at_
   simp only [cond_true, hf, cond_false]
   exact (rfail_gone h _).gone
 ·have h1 : (st.c == 0) = false := by simpa using hc
  have : rfailV st (tokV s st.p).at_ = st := by unfold rfailV; rw [h1]; rfl
  simp only [this]
  cases (!(tokV s st.p).ok || !((tokV s st.p).t.toList == w.toList)) <;> simp only [cond_true, cond_false, h1] <;> exact Gone.refl h
theorem rname_goes {s : ByteArray} {st : RS} (h : st.p ≤ s.size) : Goes s st (rnameV s st).2 := by
 obtain ⟨k1, k2, k3⟩ := tokV_ok s h
 unfold rnameV
 by_cases hc : st.c = 0
 ·simp only
  cases hx : (!(tokV s st.p).ok || !isNameV (tokV s st.p).t)
  ·simp only [cond_false, hc, bne_self_eq_false]
   refine ⟨by simpa using k2, fun _ => ⟨hc, ?_⟩⟩
   simp only [Bool.or_eq_false_iff, Bool.not_eq_false', isNameV, Bool.and_eq_true, Bool.not_eq_true'] at hx
   have := isNo_size hx.2.1
   simp only; omega
  ·have hf : ((rfailV st (tokV s st.p).at_).c != 0) = true := by simpa using rfail_c st (tokV s st.p).at_
   simp only [cond_true, hf]
   exact rfail_gone h _
 ·have h1 : (st.c == 0) = false := by simpa using hc
  have h2 : (st.c != 0) = true := by simpa using hc
  have : rfailV st (tokV s st.p).at_ = st := by unfold rfailV; rw [h1]; rfl
  simp only [this]
  cases (!(tokV s st.p).ok || !isNameV (tokV s st.p).t) <;> simp only [cond_true, cond_false, h2] <;> exact ⟨h, fun e => absurd e hc⟩
theorem rlevel_goes {s : ByteArray} {st : RS} (h : st.p ≤ s.size) : Goes s st (rlevelV (s.size + 1) s st).2 := by
 have := rlevel_took s (s.size + 1) st h (.inr (by omega))
 exact ⟨this.le, fun e => ⟨(this.ok e).1, (this.ok e).2.2.2.1⟩⟩
theorem rlvs_gone (s : ByteArray) : ∀ (n : Nat) (st : RS), st.p ≤ s.size → Gone s st (rlvsV n s st).2
 | 0, st, h => Gone.refl h
 | n + 1, st, h => by
  unfold rlvsV
  cases st.c != 0
  ·cases strIs (tokV s st.p).t [41]
   ·exact (rlevel_goes h).gone.trans (rlvs_gone s n _ (rlevel_goes h).le)
   ·exact Gone.refl h
  ·exact Gone.refl h
theorem rterm_goes (s : ByteArray) : ∀ (n : Nat) (st : RS), st.p ≤ s.size → (st.c ≠ 0 ∨ s.size - st.p < n) → Goes s st (rtermV n s st).2
 | 0, st, hp, hn => ⟨hp, fun h => by rcases hn with hn | hn; exact absurd h hn; omega⟩
 | n + 1, st, hp, hn => by
  by_cases hc : st.c = 0
  case neg => rw [rterm_stuck hc]; exact ⟨hp, fun h => absurd h hc⟩
  have hc' : (st.c != 0) = false := by simp [hc]
  have g1 := rnext_goes hp
  simp only [rtermV, hc', cond_false]
  cases badTok (tokV s st.p)
  case true => exact rfail_gone hp _
  cases strIs (tokV s st.p).t [40]
  case false => exact g1
  simp only [cond_true, cond_false, tmP]
  cases wordIx (tokV s (rnextV s st).2.p).t == 0
  case true => exact g1.trans (rfail_gone g1.le _).gone
  have g2 := g1.trans (rnext_goes g1.le).gone
  simp only [cond_false]
  have hn2 : ∀ st', Goes s st st' → st'.c ≠ 0 ∨ s.size - st'.p < n := by
   intro st' h
   by_cases hz : st'.c = 0
   ·have := (h.ok hz).2
    have := h.le
    rcases hn with hn | hn
    ·exact absurd hc hn
    ·right; omega
   ·exact .inl hz
  generalize (rnextV s (rnextV s st).2).2 = st2 at g2
  have k1 : Goes s st (rtermV n s st2).2 := g2.trans (rterm_goes s n st2 g2.le (hn2 _ g2)).gone
  have k2 : Goes s st (rtermV n s (rtermV n s st2).2).2 := k1.trans (rterm_goes s n _ k1.le (hn2 _ k1)).gone
  have k3 : Goes s st (rtermV n s (rtermV n s (rtermV n s st2).2).2).2 := k2.trans (rterm_goes s n _ k2.le (hn2 _ k2)).gone
  unfold tmB
  split
  ·have := g2.trans (rlevel_goes g2.le).gone
   exact this.trans (rtake_gone this.le _)
  ·have := (g2.trans (rname_goes g2.le).gone)
   have := this.trans (rlvs_gone s (s.size + 10) _ this.le)
   exact this.trans (rtake_gone this.le _)
  ·exact k2.trans (rtake_gone k2.le _)
  ·exact k2.trans (rtake_gone k2.le _)
  ·exact k2.trans (rtake_gone k2.le _)
  ·exact k3.trans (rtake_gone k3.le _)
end Go.Ab.Mk
end
