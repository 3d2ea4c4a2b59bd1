/- AbMk3: printed by program: functions of the program, their code told as plain Lean, and the equations. AbMk4: printed by program: functions of the program, their code told as plain Lean, and the equations. The plain laws of the functions over levels: worth, index, contains, among, sameNames, sameLevel. The plain laws: parameters, printing, substitution. The plain laws: printing. The plain laws: substitution; a small number. The plain laws: the reader's tokens. The plain laws: the reader. The plain laws: the reader's levels. Levels are compared: the reference's way, in plain mathematics. -/
import Derived.Test.YtcpdcpgblcapeaaAbMk0
import Derived.Test.YtcpdcpgblcapeaaLvO1
import Derived.Test.YtcpdcpgblcapeaaAbMk2
import Derived.Laws.Strings
set_option linter.unusedSimpArgs false
set_option linter.unusedVariables false
set_option linter.deprecated false
section
set_option maxRecDepth 100000
namespace Go.Ab.Mk
open Go.Proofs Go.Ab
/-! provekernelref.Leq -/
noncomputable def rleqk0 : List Nat := [2, 3, 5, 7, 8, 9]
noncomputable def rleqk1 : List Nat := [2, 3, 5, 7, 8, 10]
noncomputable def rleqk2 : List Nat := [2, 3, 5, 7, 8, 10, 11, 12, 13]
noncomputable def rleqs2 (call : CallF) (rec1 : V → List (List V) → Int → Int → Int → ByteArray → List (List V) → Int → ByteArray → List (List V) → Sto → Option Res) (rec2 : V → List (List V) → Int → Int → List (List V) → Int → Int → Int → ByteArray → List (List V) → Int → ByteArray → List (List V) → Sto → Option Res) (ps_5 : V) (values_7 : List (List V)) (all_8 : Int) (k_10 : Int) (ns_11 : List (List V)) (r_12 : Int) (i_13 : Int) (a_2c0 : Int) (a_2c1 : ByteArray) (a_2c2 : List (List V)) (b_3c0 : Int) (b_3c1 : ByteArray) (b_3c2 : List (List V)) (σ : Sto) : Option Res :=
  (V.asSlice ps_5 1 9).bind fun l1 =>
  bif (decide (i_13 < (l1.length : Int))) then
  (grd (decide (0 ≤ (Int.tmod r_12 (3 : Int))) && decide ((Int.tmod r_12 (3 : Int)) < values_7.length))).bind fun _ =>
  (grd ((V.fits (List.getD (List.getD values_7 (Int.toNat (Int.tmod r_12 (3 : Int))) []) 0 V.any) false 1 && true))).bind fun _ =>
  (grd (room (List.length ns_11 + 1))).bind fun _ =>
  rec2 ps_5 values_7 all_8 k_10 (ns_11 ++ [[(List.getD (List.getD values_7 (Int.toNat (Int.tmod r_12 (3 : Int))) []) 0 V.any)]]) (IntKind.wrap .i64 (Int.tdiv r_12 (3 : Int))) (IntKind.wrap .i64 (i_13 + (1 : Int))) a_2c0 a_2c1 a_2c2 b_3c0 b_3c1 b_3c2 σ
  else
  callK call 16 [((V.agg [(V.int .i64 a_2c0), (V.str a_2c1), (V.slice 3 29 a_2c2)]), false), (ps_5, false), ((V.slice 1 3 ns_11), false)] σ 1 (fun vs2 σ3 =>
  callK call 16 [((V.agg [(V.int .i64 b_3c0), (V.str b_3c1), (V.slice 3 29 b_3c2)]), false), (ps_5, false), ((V.slice 1 3 ns_11), false)] σ3 1 (fun vs5 σ6 =>
  (V.asInt (List.getD vs2 0 cellD).1 .i64).bind fun i8 =>
  (V.asInt (List.getD vs5 0 cellD).1 .i64).bind fun i9 =>
  bif (decide (i8 > i9)) then
  some (.ret [((V.bool false), false)], σ6)
  else
  rec1 ps_5 values_7 all_8 (IntKind.wrap .i64 (k_10 + (1 : Int))) a_2c0 a_2c1 a_2c2 b_3c0 b_3c1 b_3c2 σ6) (fun p7 σ6 => some (.pan p7, σ6))) (fun p4 σ3 => some (.pan p4, σ3))
noncomputable def rleql2 (call : CallF) (n : Nat) (rec1 : V → List (List V) → Int → Int → Int → ByteArray → List (List V) → Int → ByteArray → List (List V) → Sto → Option Res) : Nat → V → List (List V) → Int → Int → List (List V) → Int → Int → Int → ByteArray → List (List V) → Int → ByteArray → List (List V) → Sto → Option Res
  | 0 => fun _ _ _ _ _ _ _ _ _ _ _ _ _ _ => none
  | m + 1 => rleqs2 call rec1 (rleql2 call n rec1 m)
noncomputable def rleqt2 (ps_5 : V) (values_7 : List (List V)) (all_8 : Int) (k_10 : Int) (ns_11 : List (List V)) (r_12 : Int) (i_13 : Int) (a_2c0 : Int) (a_2c1 : ByteArray) (a_2c2 : List (List V)) (b_3c0 : Int) (b_3c1 : ByteArray) (b_3c2 : List (List V)) (σ : Sto) : St := ⟨[.dead, .dead, .lptr 2 0, .lptr 3 0, .dead, .val ps_5 true, .dead, .val (V.slice 1 3 values_7) true, .val (V.int .i64 all_8) false, .dead, .val (V.int .i64 k_10) false, .val (V.slice 1 3 ns_11) true, .val (V.int .i64 r_12) false, .val (V.int .i64 i_13) false, .dead, .dead, .dead, .dead, .dead, .dead, .dead, .dead, .dead, .dead, .dead, .dead, .dead, .dead, .dead, .dead, .dead, .dead, .dead, .dead, .dead, .dead, .dead, .dead, .dead, .dead, .dead, .dead, .dead, .dead, .dead, .dead, .dead, .dead, .dead, .dead, .dead, .dead, .dead, .dead, .dead, .dead, .dead, .dead, .dead, .dead, .dead, .dead, .dead, .dead, .dead], [[], [], [((V.int .i64 a_2c0), false), ((V.str a_2c1), false), ((V.slice 3 29 a_2c2), false)], [((V.int .i64 b_3c0), false), ((V.str b_3c1), false), ((V.slice 3 29 b_3c2), false)], [], [], [], [], [], [], [], [], [], [], [], [], [], [], [], [], [], [], [], [], [], [], [], [], [], [], [], [], [], [], [], [], [], [], [], [], [], [], [], [], [], [], [], [], [], [], [], [], [], [], [], [], [], [], [], [], [], [], [], [], []], σ⟩
noncomputable def rleqs1 (call : CallF) (L2 : V → List (List V) → Int → Int → List (List V) → Int → Int → Int → ByteArray → List (List V) → Int → ByteArray → List (List V) → Sto → Option Res) (rec1 : V → List (List V) → Int → Int → Int → ByteArray → List (List V) → Int → ByteArray → List (List V) → Sto → Option Res) (ps_5 : V) (values_7 : List (List V)) (all_8 : Int) (k_10 : Int) (a_2c0 : Int) (a_2c1 : ByteArray) (a_2c2 : List (List V)) (b_3c0 : Int) (b_3c1 : ByteArray) (b_3c2 : List (List V)) (σ : Sto) : Option Res :=
  bif (decide (k_10 < all_8)) then
  L2 ps_5 values_7 all_8 k_10 [] k_10 (0 : Int) a_2c0 a_2c1 a_2c2 b_3c0 b_3c1 b_3c2 σ
  else
  some (.ret [((V.bool true), false)], σ)
noncomputable def rleql1 (call : CallF) (n : Nat) : Nat → V → List (List V) → Int → Int → Int → ByteArray → List (List V) → Int → ByteArray → List (List V) → Sto → Option Res
  | 0 => fun _ _ _ _ _ _ _ _ _ _ _ => none
  | m + 1 => rleqs1 call (rleql2 call n (rleql1 call n m) n) (rleql1 call n m)
noncomputable def rleqt1 (ps_5 : V) (values_7 : List (List V)) (all_8 : Int) (k_10 : Int) (a_2c0 : Int) (a_2c1 : ByteArray) (a_2c2 : List (List V)) (b_3c0 : Int) (b_3c1 : ByteArray) (b_3c2 : List (List V)) (σ : Sto) : St := ⟨[.dead, .dead, .lptr 2 0, .lptr 3 0, .dead, .val ps_5 true, .dead, .val (V.slice 1 3 values_7) true, .val (V.int .i64 all_8) false, .dead, .val (V.int .i64 k_10) false, .dead, .dead, .dead, .dead, .dead, .dead, .dead, .dead, .dead, .dead, .dead, .dead, .dead, .dead, .dead, .dead, .dead, .dead, .dead, .dead, .dead, .dead, .dead, .dead, .dead, .dead, .dead, .dead, .dead, .dead, .dead, .dead, .dead, .dead, .dead, .dead, .dead, .dead, .dead, .dead, .dead, .dead, .dead, .dead, .dead, .dead, .dead, .dead, .dead, .dead, .dead, .dead, .dead, .dead], [[], [], [((V.int .i64 a_2c0), false), ((V.str a_2c1), false), ((V.slice 3 29 a_2c2), false)], [((V.int .i64 b_3c0), false), ((V.str b_3c1), false), ((V.slice 3 29 b_3c2), false)], [], [], [], [], [], [], [], [], [], [], [], [], [], [], [], [], [], [], [], [], [], [], [], [], [], [], [], [], [], [], [], [], [], [], [], [], [], [], [], [], [], [], [], [], [], [], [], [], [], [], [], [], [], [], [], [], [], [], [], [], []], σ⟩
noncomputable def rleqs0 (call : CallF) (L1 : V → List (List V) → Int → Int → Int → ByteArray → List (List V) → Int → ByteArray → List (List V) → Sto → Option Res) (rec0 : V → List (List V) → Int → Int → Int → ByteArray → List (List V) → Int → ByteArray → List (List V) → Sto → Option Res) (ps_5 : V) (values_7 : List (List V)) (all_8 : Int) (i_9 : Int) (a_2c0 : Int) (a_2c1 : ByteArray) (a_2c2 : List (List V)) (b_3c0 : Int) (b_3c1 : ByteArray) (b_3c2 : List (List V)) (σ : Sto) : Option Res :=
  (V.asSlice ps_5 1 9).bind fun l1 =>
  bif (decide (i_9 < (l1.length : Int))) then
  rec0 ps_5 values_7 (IntKind.wrap .i64 (all_8 * (3 : Int))) (IntKind.wrap .i64 (i_9 + (1 : Int))) a_2c0 a_2c1 a_2c2 b_3c0 b_3c1 b_3c2 σ
  else
  L1 ps_5 values_7 all_8 (0 : Int) a_2c0 a_2c1 a_2c2 b_3c0 b_3c1 b_3c2 σ
noncomputable def rleql0 (call : CallF) (n : Nat) : Nat → V → List (List V) → Int → Int → Int → ByteArray → List (List V) → Int → ByteArray → List (List V) → Sto → Option Res
  | 0 => fun _ _ _ _ _ _ _ _ _ _ _ => none
  | m + 1 => rleqs0 call (rleql1 call n n) (rleql0 call n m)
noncomputable def rleqt0 (ps_5 : V) (values_7 : List (List V)) (all_8 : Int) (i_9 : Int) (a_2c0 : Int) (a_2c1 : ByteArray) (a_2c2 : List (List V)) (b_3c0 : Int) (b_3c1 : ByteArray) (b_3c2 : List (List V)) (σ : Sto) : St := ⟨[.dead, .dead, .lptr 2 0, .lptr 3 0, .dead, .val ps_5 true, .dead, .val (V.slice 1 3 values_7) true, .val (V.int .i64 all_8) false, .val (V.int .i64 i_9) false, .dead, .dead, .dead, .dead, .dead, .dead, .dead, .dead, .dead, .dead, .dead, .dead, .dead, .dead, .dead, .dead, .dead, .dead, .dead, .dead, .dead, .dead, .dead, .dead, .dead, .dead, .dead, .dead, .dead, .dead, .dead, .dead, .dead, .dead, .dead, .dead, .dead, .dead, .dead, .dead, .dead, .dead, .dead, .dead, .dead, .dead, .dead, .dead, .dead, .dead, .dead, .dead, .dead, .dead, .dead], [[], [], [((V.int .i64 a_2c0), false), ((V.str a_2c1), false), ((V.slice 3 29 a_2c2), false)], [((V.int .i64 b_3c0), false), ((V.str b_3c1), false), ((V.slice 3 29 b_3c2), false)], [], [], [], [], [], [], [], [], [], [], [], [], [], [], [], [], [], [], [], [], [], [], [], [], [], [], [], [], [], [], [], [], [], [], [], [], [], [], [], [], [], [], [], [], [], [], [], [], [], [], [], [], [], [], [], [], [], [], [], [], []], σ⟩
noncomputable def rleqF (call : CallF) (L0 : V → List (List V) → Int → Int → Int → ByteArray → List (List V) → Int → ByteArray → List (List V) → Sto → Option Res) (a_0_0 : Int) (a_0_1 : ByteArray) (a_0_2 : List (List V)) (b_1_0 : Int) (b_1_1 : ByteArray) (b_1_2 : List (List V)) (σ : Sto) : Option Res :=
  callK call 6 [((V.agg [(V.int .i64 a_0_0), (V.str a_0_1), (V.slice 3 29 a_0_2)]), false), ((V.slice 1 9 []), true)] σ 1 (fun vs1 σ2 =>
  (grd ((List.getD vs1 0 cellD).2 && true)).bind fun _ =>
  callK call 6 [((V.agg [(V.int .i64 b_1_0), (V.str b_1_1), (V.slice 3 29 b_1_2)]), false), ((List.getD vs1 0 cellD).1, true)] σ2 1 (fun vs4 σ5 =>
  (grd ((List.getD vs4 0 cellD).2 && true)).bind fun _ =>
  callK call 15 [((V.agg [(V.int .i64 a_0_0), (V.str a_0_1), (V.slice 3 29 a_0_2)]), false)] σ5 1 (fun vs7 σ8 =>
  (V.asInt (List.getD vs7 0 cellD).1 .i64).bind fun i10 =>
  callK call 15 [((V.agg [(V.int .i64 b_1_0), (V.str b_1_1), (V.slice 3 29 b_1_2)]), false)] σ8 1 (fun vs11 σ12 =>
  (V.asInt (List.getD vs11 0 cellD).1 .i64).bind fun i14 =>
  L0 (List.getD vs4 0 cellD).1 [[(V.int .i64 (0 : Int))], [(V.int .i64 (1 : Int))], [(V.int .i64 (IntKind.wrap .i64 ((IntKind.wrap .i64 ((2 : Int) + i10)) + i14)))]] (1 : Int) (0 : Int) a_0_0 a_0_1 a_0_2 b_1_0 b_1_1 b_1_2 σ12) (fun p13 σ12 => some (.pan p13, σ12))) (fun p9 σ8 => some (.pan p9, σ8))) (fun p6 σ5 => some (.pan p6, σ5))) (fun p3 σ2 => some (.pan p3, σ2))
noncomputable def rleq (call : CallF) (n : Nat) (a_0_0 : Int) (a_0_1 : ByteArray) (a_0_2 : List (List V)) (b_1_0 : Int) (b_1_1 : ByteArray) (b_1_2 : List (List V)) (σ : Sto) : Option Res := rleqF call (rleql0 call n n) a_0_0 a_0_1 a_0_2 b_1_0 b_1_1 b_1_2 σ
theorem rleqs2_eq (call : CallF) (n : Nat) (F1 : St → Option Res) (F2 : St → Option Res) (ps_5 : V) (values_7 : List (List V)) (all_8 : Int) (k_10 : Int) (ns_11 : List (List V)) (r_12 : Int) (i_13 : Int) (a_2c0 : Int) (a_2c1 : ByteArray) (a_2c2 : List (List V)) (b_3c0 : Int) (b_3c1 : ByteArray) (b_3c2 : List (List V)) (σ : Sto) :
    aexec C rleqH call n (codeL (codeL (codeR (codeL (codeR (codeR (codeL (codeL (codeR (codeL (codeL (codeR (codeL (codeR (codeR (codeR (codeR (codeR (codeR rleqC))))))))))))))))))) 0 (rleqt2 ps_5 values_7 all_8 k_10 ns_11 r_12 i_13 a_2c0 a_2c1 a_2c2 b_3c0 b_3c1 b_3c2 σ) (kloop rleqk2 F2 (kblk 4 (kseq (fun st' => aexec C rleqH call n (codeR (codeR (codeR (codeL (codeL (codeR (codeL (codeL (codeR (codeL (codeR (codeR (codeR (codeR (codeR (codeR rleqC)))))))))))))))) 0 st' (kblk 3 (kseq (fun st' => aexec C rleqH call n (codeR (codeR (codeL (codeL (codeR (codeL (codeR (codeR (codeR (codeR (codeR (codeR rleqC)))))))))))) 0 st' (kloop rleqk1 F1 (kblk 2 (kseq (fun st' => aexec C rleqH call n (codeR (codeR (codeR (codeR (codeR (codeR (codeR rleqC))))))) 0 st' (kfin C rleqD)) (kfin C rleqD))))) (kloop rleqk1 F1 (kblk 2 (kseq (fun st' => aexec C rleqH call n (codeR (codeR (codeR (codeR (codeR (codeR (codeR rleqC))))))) 0 st' (kfin C rleqD)) (kfin C rleqD))))))) (kblk 3 (kseq (fun st' => aexec C rleqH call n (codeR (codeR (codeL (codeL (codeR (codeL (codeR (codeR (codeR (codeR (codeR (codeR rleqC)))))))))))) 0 st' (kloop rleqk1 F1 (kblk 2 (kseq (fun st' => aexec C rleqH call n (codeR (codeR (codeR (codeR (codeR (codeR (codeR rleqC))))))) 0 st' (kfin C rleqD)) (kfin C rleqD))))) (kloop rleqk1 F1 (kblk 2 (kseq (fun st' => aexec C rleqH call n (codeR (codeR (codeR (codeR (codeR (codeR (codeR rleqC))))))) 0 st' (kfin C rleqD)) (kfin C rleqD))))))))) =
    rleqs2 call (fun ps_5 values_7 all_8 k_10 a_2c0 a_2c1 a_2c2 b_3c0 b_3c1 b_3c2 σ => F1 (rleqt1 ps_5 values_7 all_8 k_10 a_2c0 a_2c1 a_2c2 b_3c0 b_3c1 b_3c2 σ)) (fun ps_5 values_7 all_8 k_10 ns_11 r_12 i_13 a_2c0 a_2c1 a_2c2 b_3c0 b_3c1 b_3c2 σ => F2 (rleqt2 ps_5 values_7 all_8 k_10 ns_11 r_12 i_13 a_2c0 a_2c1 a_2c2 b_3c0 b_3c1 b_3c2 σ)) ps_5 values_7 all_8 k_10 ns_11 r_12 i_13 a_2c0 a_2c1 a_2c2 b_3c0 b_3c1 b_3c2 σ := by kernel_rfl
theorem rleql2_eq (call : CallF) (n : Nat) (F1 : St → Option Res) : ∀ (m : Nat) (ps_5 : V) (values_7 : List (List V)) (all_8 : Int) (k_10 : Int) (ns_11 : List (List V)) (r_12 : Int) (i_13 : Int) (a_2c0 : Int) (a_2c1 : ByteArray) (a_2c2 : List (List V)) (b_3c0 : Int) (b_3c1 : ByteArray) (b_3c2 : List (List V)) (σ : Sto),
    aloop (fun st K => aexec C rleqH call n (codeL (codeL (codeR (codeL (codeR (codeR (codeL (codeL (codeR (codeL (codeL (codeR (codeL (codeR (codeR (codeR (codeR (codeR (codeR rleqC))))))))))))))))))) 0 st K) rleqk2 m (rleqt2 ps_5 values_7 all_8 k_10 ns_11 r_12 i_13 a_2c0 a_2c1 a_2c2 b_3c0 b_3c1 b_3c2 σ) (kblk 4 (kseq (fun st' => aexec C rleqH call n (codeR (codeR (codeR (codeL (codeL (codeR (codeL (codeL (codeR (codeL (codeR (codeR (codeR (codeR (codeR (codeR rleqC)))))))))))))))) 0 st' (kblk 3 (kseq (fun st' => aexec C rleqH call n (codeR (codeR (codeL (codeL (codeR (codeL (codeR (codeR (codeR (codeR (codeR (codeR rleqC)))))))))))) 0 st' (kloop rleqk1 F1 (kblk 2 (kseq (fun st' => aexec C rleqH call n (codeR (codeR (codeR (codeR (codeR (codeR (codeR rleqC))))))) 0 st' (kfin C rleqD)) (kfin C rleqD))))) (kloop rleqk1 F1 (kblk 2 (kseq (fun st' => aexec C rleqH call n (codeR (codeR (codeR (codeR (codeR (codeR (codeR rleqC))))))) 0 st' (kfin C rleqD)) (kfin C rleqD))))))) (kblk 3 (kseq (fun st' => aexec C rleqH call n (codeR (codeR (codeL (codeL (codeR (codeL (codeR (codeR (codeR (codeR (codeR (codeR rleqC)))))))))))) 0 st' (kloop rleqk1 F1 (kblk 2 (kseq (fun st' => aexec C rleqH call n (codeR (codeR (codeR (codeR (codeR (codeR (codeR rleqC))))))) 0 st' (kfin C rleqD)) (kfin C rleqD))))) (kloop rleqk1 F1 (kblk 2 (kseq (fun st' => aexec C rleqH call n (codeR (codeR (codeR (codeR (codeR (codeR (codeR rleqC))))))) 0 st' (kfin C rleqD)) (kfin C rleqD)))))))) = rleql2 call n (fun ps_5 values_7 all_8 k_10 a_2c0 a_2c1 a_2c2 b_3c0 b_3c1 b_3c2 σ => F1 (rleqt1 ps_5 values_7 all_8 k_10 a_2c0 a_2c1 a_2c2 b_3c0 b_3c1 b_3c2 σ)) m ps_5 values_7 all_8 k_10 ns_11 r_12 i_13 a_2c0 a_2c1 a_2c2 b_3c0 b_3c1 b_3c2 σ
  | 0, ps_5, values_7, all_8, k_10, ns_11, r_12, i_13, a_2c0, a_2c1, a_2c2, b_3c0, b_3c1, b_3c2, σ => rfl
  | m + 1, ps_5, values_7, all_8, k_10, ns_11, r_12, i_13, a_2c0, a_2c1, a_2c2, b_3c0, b_3c1, b_3c2, σ => by
    rw [aloop, rleqs2_eq]
    simp only [rleql2_eq call n F1 m]
    rfl
theorem rleqs1_eq (call : CallF) (n : Nat) (F1 : St → Option Res) (ps_5 : V) (values_7 : List (List V)) (all_8 : Int) (k_10 : Int) (a_2c0 : Int) (a_2c1 : ByteArray) (a_2c2 : List (List V)) (b_3c0 : Int) (b_3c1 : ByteArray) (b_3c2 : List (List V)) (σ : Sto) :
    aexec C rleqH call n (codeL (codeL (codeR (codeL (codeR (codeR (codeR (codeR (codeR (codeR rleqC)))))))))) 0 (rleqt1 ps_5 values_7 all_8 k_10 a_2c0 a_2c1 a_2c2 b_3c0 b_3c1 b_3c2 σ) (kloop rleqk1 F1 (kblk 2 (kseq (fun st' => aexec C rleqH call n (codeR (codeR (codeR (codeR (codeR (codeR (codeR rleqC))))))) 0 st' (kfin C rleqD)) (kfin C rleqD)))) =
    rleqs1 call (fun ps_5 values_7 all_8 k_10 ns_11 r_12 i_13 a_2c0 a_2c1 a_2c2 b_3c0 b_3c1 b_3c2 σ => aloop (fun st K => aexec C rleqH call n (codeL (codeL (codeR (codeL (codeR (codeR (codeL (codeL (codeR (codeL (codeL (codeR (codeL (codeR (codeR (codeR (codeR (codeR (codeR rleqC))))))))))))))))))) 0 st K) rleqk2 n (rleqt2 ps_5 values_7 all_8 k_10 ns_11 r_12 i_13 a_2c0 a_2c1 a_2c2 b_3c0 b_3c1 b_3c2 σ) (kblk 4 (kseq (fun st' => aexec C rleqH call n (codeR (codeR (codeR (codeL (codeL (codeR (codeL (codeL (codeR (codeL (codeR (codeR (codeR (codeR (codeR (codeR rleqC)))))))))))))))) 0 st' (kblk 3 (kseq (fun st' => aexec C rleqH call n (codeR (codeR (codeL (codeL (codeR (codeL (codeR (codeR (codeR (codeR (codeR (codeR rleqC)))))))))))) 0 st' (kloop rleqk1 F1 (kblk 2 (kseq (fun st' => aexec C rleqH call n (codeR (codeR (codeR (codeR (codeR (codeR (codeR rleqC))))))) 0 st' (kfin C rleqD)) (kfin C rleqD))))) (kloop rleqk1 F1 (kblk 2 (kseq (fun st' => aexec C rleqH call n (codeR (codeR (codeR (codeR (codeR (codeR (codeR rleqC))))))) 0 st' (kfin C rleqD)) (kfin C rleqD))))))) (kblk 3 (kseq (fun st' => aexec C rleqH call n (codeR (codeR (codeL (codeL (codeR (codeL (codeR (codeR (codeR (codeR (codeR (codeR rleqC)))))))))))) 0 st' (kloop rleqk1 F1 (kblk 2 (kseq (fun st' => aexec C rleqH call n (codeR (codeR (codeR (codeR (codeR (codeR (codeR rleqC))))))) 0 st' (kfin C rleqD)) (kfin C rleqD))))) (kloop rleqk1 F1 (kblk 2 (kseq (fun st' => aexec C rleqH call n (codeR (codeR (codeR (codeR (codeR (codeR (codeR rleqC))))))) 0 st' (kfin C rleqD)) (kfin C rleqD))))))))) (fun ps_5 values_7 all_8 k_10 a_2c0 a_2c1 a_2c2 b_3c0 b_3c1 b_3c2 σ => F1 (rleqt1 ps_5 values_7 all_8 k_10 a_2c0 a_2c1 a_2c2 b_3c0 b_3c1 b_3c2 σ)) ps_5 values_7 all_8 k_10 a_2c0 a_2c1 a_2c2 b_3c0 b_3c1 b_3c2 σ := by kernel_rfl
theorem rleql1_eq (call : CallF) (n : Nat) : ∀ (m : Nat) (ps_5 : V) (values_7 : List (List V)) (all_8 : Int) (k_10 : Int) (a_2c0 : Int) (a_2c1 : ByteArray) (a_2c2 : List (List V)) (b_3c0 : Int) (b_3c1 : ByteArray) (b_3c2 : List (List V)) (σ : Sto),
    aloop (fun st K => aexec C rleqH call n (codeL (codeL (codeR (codeL (codeR (codeR (codeR (codeR (codeR (codeR rleqC)))))))))) 0 st K) rleqk1 m (rleqt1 ps_5 values_7 all_8 k_10 a_2c0 a_2c1 a_2c2 b_3c0 b_3c1 b_3c2 σ) (kblk 2 (kseq (fun st' => aexec C rleqH call n (codeR (codeR (codeR (codeR (codeR (codeR (codeR rleqC))))))) 0 st' (kfin C rleqD)) (kfin C rleqD))) = rleql1 call n m ps_5 values_7 all_8 k_10 a_2c0 a_2c1 a_2c2 b_3c0 b_3c1 b_3c2 σ
  | 0, ps_5, values_7, all_8, k_10, a_2c0, a_2c1, a_2c2, b_3c0, b_3c1, b_3c2, σ => rfl
  | m + 1, ps_5, values_7, all_8, k_10, a_2c0, a_2c1, a_2c2, b_3c0, b_3c1, b_3c2, σ => by
    rw [aloop, rleqs1_eq]
    simp only [rleql1_eq call n m, rleql2_eq]
    rfl
theorem rleqs0_eq (call : CallF) (n : Nat) (F0 : St → Option Res) (ps_5 : V) (values_7 : List (List V)) (all_8 : Int) (i_9 : Int) (a_2c0 : Int) (a_2c1 : ByteArray) (a_2c2 : List (List V)) (b_3c0 : Int) (b_3c1 : ByteArray) (b_3c2 : List (List V)) (σ : Sto) :
    aexec C rleqH call n (codeL (codeL (codeR (codeL (codeR (codeR (codeR (codeR (codeR rleqC))))))))) 0 (rleqt0 ps_5 values_7 all_8 i_9 a_2c0 a_2c1 a_2c2 b_3c0 b_3c1 b_3c2 σ) (kloop rleqk0 F0 (kblk 0 (kseq (fun st' => aexec C rleqH call n (codeR (codeR (codeR (codeR (codeR (codeR rleqC)))))) 0 st' (kfin C rleqD)) (kfin C rleqD)))) =
    rleqs0 call (fun ps_5 values_7 all_8 k_10 a_2c0 a_2c1 a_2c2 b_3c0 b_3c1 b_3c2 σ => aloop (fun st K => aexec C rleqH call n (codeL (codeL (codeR (codeL (codeR (codeR (codeR (codeR (codeR (codeR rleqC)))))))))) 0 st K) rleqk1 n (rleqt1 ps_5 values_7 all_8 k_10 a_2c0 a_2c1 a_2c2 b_3c0 b_3c1 b_3c2 σ) (kblk 2 (kseq (fun st' => aexec C rleqH call n (codeR (codeR (codeR (codeR (codeR (codeR (codeR rleqC))))))) 0 st' (kfin C rleqD)) (kfin C rleqD)))) (fun ps_5 values_7 all_8 i_9 a_2c0 a_2c1 a_2c2 b_3c0 b_3c1 b_3c2 σ => F0 (rleqt0 ps_5 values_7 all_8 i_9 a_2c0 a_2c1 a_2c2 b_3c0 b_3c1 b_3c2 σ)) ps_5 values_7 all_8 i_9 a_2c0 a_2c1 a_2c2 b_3c0 b_3c1 b_3c2 σ := by kernel_rfl
theorem rleql0_eq (call : CallF) (n : Nat) : ∀ (m : Nat) (ps_5 : V) (values_7 : List (List V)) (all_8 : Int) (i_9 : Int) (a_2c0 : Int) (a_2c1 : ByteArray) (a_2c2 : List (List V)) (b_3c0 : Int) (b_3c1 : ByteArray) (b_3c2 : List (List V)) (σ : Sto),
    aloop (fun st K => aexec C rleqH call n (codeL (codeL (codeR (codeL (codeR (codeR (codeR (codeR (codeR rleqC))))))))) 0 st K) rleqk0 m (rleqt0 ps_5 values_7 all_8 i_9 a_2c0 a_2c1 a_2c2 b_3c0 b_3c1 b_3c2 σ) (kblk 0 (kseq (fun st' => aexec C rleqH call n (codeR (codeR (codeR (codeR (codeR (codeR rleqC)))))) 0 st' (kfin C rleqD)) (kfin C rleqD))) = rleql0 call n m ps_5 values_7 all_8 i_9 a_2c0 a_2c1 a_2c2 b_3c0 b_3c1 b_3c2 σ
  | 0, ps_5, values_7, all_8, i_9, a_2c0, a_2c1, a_2c2, b_3c0, b_3c1, b_3c2, σ => rfl
  | m + 1, ps_5, values_7, all_8, i_9, a_2c0, a_2c1, a_2c2, b_3c0, b_3c1, b_3c2, σ => by
    rw [aloop, rleqs0_eq]
    simp only [rleql0_eq call n m, rleql1_eq]
    rfl
theorem rleq_eqF (call : CallF) (n : Nat) (a_0_0 : Int) (a_0_1 : ByteArray) (a_0_2 : List (List V)) (b_1_0 : Int) (b_1_1 : ByteArray) (b_1_2 : List (List V)) (σ : Sto) : afun C rleqD call n [((V.agg [(V.int .i64 a_0_0), (V.str a_0_1), (V.slice 3 29 a_0_2)]), false), ((V.agg [(V.int .i64 b_1_0), (V.str b_1_1), (V.slice 3 29 b_1_2)]), false)] σ =
    rleqF call (fun ps_5 values_7 all_8 i_9 a_2c0 a_2c1 a_2c2 b_3c0 b_3c1 b_3c2 σ => aloop (fun st K => aexec C rleqH call n (codeL (codeL (codeR (codeL (codeR (codeR (codeR (codeR (codeR rleqC))))))))) 0 st K) rleqk0 n (rleqt0 ps_5 values_7 all_8 i_9 a_2c0 a_2c1 a_2c2 b_3c0 b_3c1 b_3c2 σ) (kblk 0 (kseq (fun st' => aexec C rleqH call n (codeR (codeR (codeR (codeR (codeR (codeR rleqC)))))) 0 st' (kfin C rleqD)) (kfin C rleqD)))) a_0_0 a_0_1 a_0_2 b_1_0 b_1_1 b_1_2 σ := by kernel_rfl
theorem rleq_eq (call : CallF) (n : Nat) (a_0_0 : Int) (a_0_1 : ByteArray) (a_0_2 : List (List V)) (b_1_0 : Int) (b_1_1 : ByteArray) (b_1_2 : List (List V)) (σ : Sto) : afun C rleqD call n [((V.agg [(V.int .i64 a_0_0), (V.str a_0_1), (V.slice 3 29 a_0_2)]), false), ((V.agg [(V.int .i64 b_1_0), (V.str b_1_1), (V.slice 3 29 b_1_2)]), false)] σ = rleq call n a_0_0 a_0_1 a_0_2 b_1_0 b_1_1 b_1_2 σ := by
  rw [rleq_eqF]
  simp only [rleql0_eq]
  rfl
theorem rleq_call (n : Nat) (a_0_0 : Int) (a_0_1 : ByteArray) (a_0_2 : List (List V)) (b_1_0 : Int) (b_1_1 : ByteArray) (b_1_2 : List (List V)) (σ : Sto) : acall C (n + 1) 9 [((V.agg [(V.int .i64 a_0_0), (V.str a_0_1), (V.slice 3 29 a_0_2)]), false), ((V.agg [(V.int .i64 b_1_0), (V.str b_1_1), (V.slice 3 29 b_1_2)]), false)] σ = rleq (acall C n) n a_0_0 a_0_1 a_0_2 b_1_0 b_1_1 b_1_2 σ :=
  (show acall C (n + 1) 9 [((V.agg [(V.int .i64 a_0_0), (V.str a_0_1), (V.slice 3 29 a_0_2)]), false), ((V.agg [(V.int .i64 b_1_0), (V.str b_1_1), (V.slice 3 29 b_1_2)]), false)] σ = afun C rleqD (acall C n) n [((V.agg [(V.int .i64 a_0_0), (V.str a_0_1), (V.slice 3 29 a_0_2)]), false), ((V.agg [(V.int .i64 b_1_0), (V.str b_1_1), (V.slice 3 29 b_1_2)]), false)] σ by kernel_rfl).trans (rleq_eq _ _ a_0_0 a_0_1 a_0_2 b_1_0 b_1_1 b_1_2 σ)
theorem rleq_lim {n : Nat} {a_0_0 : Int} {a_0_1 : ByteArray} {a_0_2 : List (List V)} {b_1_0 : Int} {b_1_1 : ByteArray} {b_1_2 : List (List V)} {b0 b1 : Bool} {σ : Sto} {r : Res} (h : rleq (lim C) n a_0_0 a_0_1 a_0_2 b_1_0 b_1_1 b_1_2 σ = some r) : lim C 9 [((V.agg [(V.int .i64 a_0_0), (V.str a_0_1), (V.slice 3 29 a_0_2)]), b0), ((V.agg [(V.int .i64 b_1_0), (V.str b_1_1), (V.slice 3 29 b_1_2)]), b1)] σ = some r :=
  lim_of (d := rleqD) (by kernel_rfl) (by kernel_rfl) n (show afun C rleqD (lim C) n [((V.agg [(V.int .i64 a_0_0), (V.str a_0_1), (V.slice 3 29 a_0_2)]), false), ((V.agg [(V.int .i64 b_1_0), (V.str b_1_1), (V.slice 3 29 b_1_2)]), false)] σ = some r from (rleq_eq (lim C) n a_0_0 a_0_1 a_0_2 b_1_0 b_1_1 b_1_2 σ).trans h)
/-! provekernelref.Same -/
noncomputable def rsameF (call : CallF) (a_0_0 : Int) (a_0_1 : ByteArray) (a_0_2 : List (List V)) (b_1_0 : Int) (b_1_1 : ByteArray) (b_1_2 : List (List V)) (σ : Sto) : Option Res :=
  callK call 9 [((V.agg [(V.int .i64 a_0_0), (V.str a_0_1), (V.slice 3 29 a_0_2)]), false), ((V.agg [(V.int .i64 b_1_0), (V.str b_1_1), (V.slice 3 29 b_1_2)]), false)] σ 1 (fun vs1 σ2 =>
  callK call 9 [((V.agg [(V.int .i64 b_1_0), (V.str b_1_1), (V.slice 3 29 b_1_2)]), false), ((V.agg [(V.int .i64 a_0_0), (V.str a_0_1), (V.slice 3 29 a_0_2)]), false)] σ2 1 (fun vs4 σ5 =>
  (V.asBool (List.getD vs1 0 cellD).1).bind fun b7 =>
  bif b7 then
  some (.ret [((List.getD vs4 0 cellD).1, false)], σ5)
  else
  some (.ret [((V.bool false), false)], σ5)) (fun p6 σ5 => some (.pan p6, σ5))) (fun p3 σ2 => some (.pan p3, σ2))
noncomputable def rsame (call : CallF) (n : Nat) (a_0_0 : Int) (a_0_1 : ByteArray) (a_0_2 : List (List V)) (b_1_0 : Int) (b_1_1 : ByteArray) (b_1_2 : List (List V)) (σ : Sto) : Option Res := rsameF call a_0_0 a_0_1 a_0_2 b_1_0 b_1_1 b_1_2 σ
theorem rsame_eqF (call : CallF) (n : Nat) (a_0_0 : Int) (a_0_1 : ByteArray) (a_0_2 : List (List V)) (b_1_0 : Int) (b_1_1 : ByteArray) (b_1_2 : List (List V)) (σ : Sto) : afun C rsameD call n [((V.agg [(V.int .i64 a_0_0), (V.str a_0_1), (V.slice 3 29 a_0_2)]), false), ((V.agg [(V.int .i64 b_1_0), (V.str b_1_1), (V.slice 3 29 b_1_2)]), false)] σ =
    rsameF call a_0_0 a_0_1 a_0_2 b_1_0 b_1_1 b_1_2 σ := by kernel_rfl
theorem rsame_eq (call : CallF) (n : Nat) (a_0_0 : Int) (a_0_1 : ByteArray) (a_0_2 : List (List V)) (b_1_0 : Int) (b_1_1 : ByteArray) (b_1_2 : List (List V)) (σ : Sto) : afun C rsameD call n [((V.agg [(V.int .i64 a_0_0), (V.str a_0_1), (V.slice 3 29 a_0_2)]), false), ((V.agg [(V.int .i64 b_1_0), (V.str b_1_1), (V.slice 3 29 b_1_2)]), false)] σ = rsame call n a_0_0 a_0_1 a_0_2 b_1_0 b_1_1 b_1_2 σ := rsame_eqF call n a_0_0 a_0_1 a_0_2 b_1_0 b_1_1 b_1_2 σ
theorem rsame_call (n : Nat) (a_0_0 : Int) (a_0_1 : ByteArray) (a_0_2 : List (List V)) (b_1_0 : Int) (b_1_1 : ByteArray) (b_1_2 : List (List V)) (σ : Sto) : acall C (n + 1) 10 [((V.agg [(V.int .i64 a_0_0), (V.str a_0_1), (V.slice 3 29 a_0_2)]), false), ((V.agg [(V.int .i64 b_1_0), (V.str b_1_1), (V.slice 3 29 b_1_2)]), false)] σ = rsame (acall C n) n a_0_0 a_0_1 a_0_2 b_1_0 b_1_1 b_1_2 σ :=
  (show acall C (n + 1) 10 [((V.agg [(V.int .i64 a_0_0), (V.str a_0_1), (V.slice 3 29 a_0_2)]), false), ((V.agg [(V.int .i64 b_1_0), (V.str b_1_1), (V.slice 3 29 b_1_2)]), false)] σ = afun C rsameD (acall C n) n [((V.agg [(V.int .i64 a_0_0), (V.str a_0_1), (V.slice 3 29 a_0_2)]), false), ((V.agg [(V.int .i64 b_1_0), (V.str b_1_1), (V.slice 3 29 b_1_2)]), false)] σ by kernel_rfl).trans (rsame_eq _ _ a_0_0 a_0_1 a_0_2 b_1_0 b_1_1 b_1_2 σ)
theorem rsame_lim {n : Nat} {a_0_0 : Int} {a_0_1 : ByteArray} {a_0_2 : List (List V)} {b_1_0 : Int} {b_1_1 : ByteArray} {b_1_2 : List (List V)} {b0 b1 : Bool} {σ : Sto} {r : Res} (h : rsame (lim C) n a_0_0 a_0_1 a_0_2 b_1_0 b_1_1 b_1_2 σ = some r) : lim C 10 [((V.agg [(V.int .i64 a_0_0), (V.str a_0_1), (V.slice 3 29 a_0_2)]), b0), ((V.agg [(V.int .i64 b_1_0), (V.str b_1_1), (V.slice 3 29 b_1_2)]), b1)] σ = some r :=
  lim_of (d := rsameD) (by kernel_rfl) (by kernel_rfl) n (show afun C rsameD (lim C) n [((V.agg [(V.int .i64 a_0_0), (V.str a_0_1), (V.slice 3 29 a_0_2)]), false), ((V.agg [(V.int .i64 b_1_0), (V.str b_1_1), (V.slice 3 29 b_1_2)]), false)] σ = some r from (rsame_eq (lim C) n a_0_0 a_0_1 a_0_2 b_1_0 b_1_1 b_1_2 σ).trans h)
/-! level.Same -/
noncomputable def sameF (call : CallF) (a_0_0 : Int) (a_0_1 : ByteArray) (a_0_2 : List (List V)) (b_1_0 : Int) (b_1_1 : ByteArray) (b_1_2 : List (List V)) (σ : Sto) : Option Res :=
  callK call 7 [((V.agg [(V.int .i64 a_0_0), (V.str a_0_1), (V.slice 3 29 a_0_2)]), false), ((V.agg [(V.int .i64 b_1_0), (V.str b_1_1), (V.slice 3 29 b_1_2)]), false)] σ 1 (fun vs1 σ2 =>
  (V.asBool (List.getD vs1 0 cellD).1).bind fun b4 =>
  bif b4 then
  callK call 7 [((V.agg [(V.int .i64 b_1_0), (V.str b_1_1), (V.slice 3 29 b_1_2)]), false), ((V.agg [(V.int .i64 a_0_0), (V.str a_0_1), (V.slice 3 29 a_0_2)]), false)] σ2 1 (fun vs5 σ6 =>
  some (.ret [((List.getD vs5 0 cellD).1, false)], σ6)) (fun p7 σ6 => some (.pan p7, σ6))
  else
  some (.ret [((V.bool false), false)], σ2)) (fun p3 σ2 => some (.pan p3, σ2))
noncomputable def same (call : CallF) (n : Nat) (a_0_0 : Int) (a_0_1 : ByteArray) (a_0_2 : List (List V)) (b_1_0 : Int) (b_1_1 : ByteArray) (b_1_2 : List (List V)) (σ : Sto) : Option Res := sameF call a_0_0 a_0_1 a_0_2 b_1_0 b_1_1 b_1_2 σ
theorem same_eqF (call : CallF) (n : Nat) (a_0_0 : Int) (a_0_1 : ByteArray) (a_0_2 : List (List V)) (b_1_0 : Int) (b_1_1 : ByteArray) (b_1_2 : List (List V)) (σ : Sto) : afun C sameD call n [((V.agg [(V.int .i64 a_0_0), (V.str a_0_1), (V.slice 3 29 a_0_2)]), false), ((V.agg [(V.int .i64 b_1_0), (V.str b_1_1), (V.slice 3 29 b_1_2)]), false)] σ =
    sameF call a_0_0 a_0_1 a_0_2 b_1_0 b_1_1 b_1_2 σ := by kernel_rfl
theorem same_eq (call : CallF) (n : Nat) (a_0_0 : Int) (a_0_1 : ByteArray) (a_0_2 : List (List V)) (b_1_0 : Int) (b_1_1 : ByteArray) (b_1_2 : List (List V)) (σ : Sto) : afun C sameD call n [((V.agg [(V.int .i64 a_0_0), (V.str a_0_1), (V.slice 3 29 a_0_2)]), false), ((V.agg [(V.int .i64 b_1_0), (V.str b_1_1), (V.slice 3 29 b_1_2)]), false)] σ = same call n a_0_0 a_0_1 a_0_2 b_1_0 b_1_1 b_1_2 σ := same_eqF call n a_0_0 a_0_1 a_0_2 b_1_0 b_1_1 b_1_2 σ
theorem same_call (n : Nat) (a_0_0 : Int) (a_0_1 : ByteArray) (a_0_2 : List (List V)) (b_1_0 : Int) (b_1_1 : ByteArray) (b_1_2 : List (List V)) (σ : Sto) : acall C (n + 1) 8 [((V.agg [(V.int .i64 a_0_0), (V.str a_0_1), (V.slice 3 29 a_0_2)]), false), ((V.agg [(V.int .i64 b_1_0), (V.str b_1_1), (V.slice 3 29 b_1_2)]), false)] σ = same (acall C n) n a_0_0 a_0_1 a_0_2 b_1_0 b_1_1 b_1_2 σ :=
  (show acall C (n + 1) 8 [((V.agg [(V.int .i64 a_0_0), (V.str a_0_1), (V.slice 3 29 a_0_2)]), false), ((V.agg [(V.int .i64 b_1_0), (V.str b_1_1), (V.slice 3 29 b_1_2)]), false)] σ = afun C sameD (acall C n) n [((V.agg [(V.int .i64 a_0_0), (V.str a_0_1), (V.slice 3 29 a_0_2)]), false), ((V.agg [(V.int .i64 b_1_0), (V.str b_1_1), (V.slice 3 29 b_1_2)]), false)] σ by kernel_rfl).trans (same_eq _ _ a_0_0 a_0_1 a_0_2 b_1_0 b_1_1 b_1_2 σ)
theorem same_lim {n : Nat} {a_0_0 : Int} {a_0_1 : ByteArray} {a_0_2 : List (List V)} {b_1_0 : Int} {b_1_1 : ByteArray} {b_1_2 : List (List V)} {b0 b1 : Bool} {σ : Sto} {r : Res} (h : same (lim C) n a_0_0 a_0_1 a_0_2 b_1_0 b_1_1 b_1_2 σ = some r) : lim C 8 [((V.agg [(V.int .i64 a_0_0), (V.str a_0_1), (V.slice 3 29 a_0_2)]), b0), ((V.agg [(V.int .i64 b_1_0), (V.str b_1_1), (V.slice 3 29 b_1_2)]), b1)] σ = some r :=
  lim_of (d := sameD) (by kernel_rfl) (by kernel_rfl) n (show afun C sameD (lim C) n [((V.agg [(V.int .i64 a_0_0), (V.str a_0_1), (V.slice 3 29 a_0_2)]), false), ((V.agg [(V.int .i64 b_1_0), (V.str b_1_1), (V.slice 3 29 b_1_2)]), false)] σ = some r from (same_eq (lim C) n a_0_0 a_0_1 a_0_2 b_1_0 b_1_1 b_1_2 σ).trans h)
/-! provekernellaw.levelsHeld -/
noncomputable def levelsHeldF (call : CallF) (o_0_0 : Int) (o_0_1 : ByteArray) (o_0_2 : ByteArray) (o_0_3 : ByteArray) (o_0_4 : Int) (o_0_5 : Int) (σ : Sto) : Option Res :=
  callK call 5 [((V.str o_0_1), false)] σ 2 (fun vs1 σ2 =>
  (grd (V.fits (List.getD vs1 0 cellD).1 true 3)).bind fun _ =>
  (grd (V.fits (List.getD vs1 1 cellD).1 true 2)).bind fun _ =>
  callK call 5 [((V.str o_0_2), false)] σ2 2 (fun vs4 σ5 =>
  (grd (V.fits (List.getD vs4 0 cellD).1 true 3)).bind fun _ =>
  (grd (V.fits (List.getD vs4 1 cellD).1 true 2)).bind fun _ =>
  (V.asInt (V.cell (List.getD vs1 1 cellD).1 0) .i64).bind fun i7 =>
  bif (i7 != (0 : Int)) then
  some (.ret [((V.bool true), false)], σ5)
  else
  (V.asInt (V.cell (List.getD vs4 1 cellD).1 0) .i64).bind fun i8 =>
  bif (i8 != (0 : Int)) then
  some (.ret [((V.bool true), false)], σ5)
  else
  callK call 6 [((V.agg [(V.cell (List.getD vs4 0 cellD).1 0), (V.cell (List.getD vs4 0 cellD).1 1), (V.cell (List.getD vs4 0 cellD).1 2)]), false), ((V.slice 1 9 []), true)] σ5 1 (fun vs9 σ10 =>
  (grd ((List.getD vs9 0 cellD).2 && true)).bind fun _ =>
  callK call 6 [((V.agg [(V.cell (List.getD vs1 0 cellD).1 0), (V.cell (List.getD vs1 0 cellD).1 1), (V.cell (List.getD vs1 0 cellD).1 2)]), false), ((List.getD vs9 0 cellD).1, true)] σ10 1 (fun vs12 σ13 =>
  (grd ((List.getD vs12 0 cellD).2 && true)).bind fun _ =>
  (V.asSlice (List.getD vs12 0 cellD).1 1 9).bind fun l15 =>
  bif (decide ((l15.length : Int) > (6 : Int))) then
  some (.ret [((V.bool true), false)], σ13)
  else
  bif (decide ((o_0_1.size : Int) > (300 : Int))) then
  some (.ret [((V.bool true), false)], σ13)
  else
  bif (decide ((o_0_2.size : Int) > (300 : Int))) then
  some (.ret [((V.bool true), false)], σ13)
  else
  callK call 7 [((V.agg [(V.cell (List.getD vs1 0 cellD).1 0), (V.cell (List.getD vs1 0 cellD).1 1), (V.cell (List.getD vs1 0 cellD).1 2)]), false), ((V.agg [(V.cell (List.getD vs4 0 cellD).1 0), (V.cell (List.getD vs4 0 cellD).1 1), (V.cell (List.getD vs4 0 cellD).1 2)]), false)] σ13 1 (fun vs16 σ17 =>
  callK call 8 [((V.agg [(V.cell (List.getD vs1 0 cellD).1 0), (V.cell (List.getD vs1 0 cellD).1 1), (V.cell (List.getD vs1 0 cellD).1 2)]), false), ((V.agg [(V.cell (List.getD vs4 0 cellD).1 0), (V.cell (List.getD vs4 0 cellD).1 1), (V.cell (List.getD vs4 0 cellD).1 2)]), false)] σ17 1 (fun vs19 σ20 =>
  callK call 9 [((V.agg [(V.cell (List.getD vs1 0 cellD).1 0), (V.cell (List.getD vs1 0 cellD).1 1), (V.cell (List.getD vs1 0 cellD).1 2)]), false), ((V.agg [(V.cell (List.getD vs4 0 cellD).1 0), (V.cell (List.getD vs4 0 cellD).1 1), (V.cell (List.getD vs4 0 cellD).1 2)]), false)] σ20 1 (fun vs22 σ23 =>
  (V.asBool (List.getD vs16 0 cellD).1).bind fun b25 =>
  (V.asBool (List.getD vs22 0 cellD).1).bind fun b26 =>
  bif (b25 == b26) then
  callK call 10 [((V.agg [(V.cell (List.getD vs1 0 cellD).1 0), (V.cell (List.getD vs1 0 cellD).1 1), (V.cell (List.getD vs1 0 cellD).1 2)]), false), ((V.agg [(V.cell (List.getD vs4 0 cellD).1 0), (V.cell (List.getD vs4 0 cellD).1 1), (V.cell (List.getD vs4 0 cellD).1 2)]), false)] σ23 1 (fun vs27 σ28 =>
  (V.asBool (List.getD vs19 0 cellD).1).bind fun b30 =>
  (V.asBool (List.getD vs27 0 cellD).1).bind fun b31 =>
  some (.ret [((V.bool (b30 == b31)), false)], σ28)) (fun p29 σ28 => some (.pan p29, σ28))
  else
  some (.ret [((V.bool false), false)], σ23)) (fun p24 σ23 => some (.pan p24, σ23))) (fun p21 σ20 => some (.pan p21, σ20))) (fun p18 σ17 => some (.pan p18, σ17))) (fun p14 σ13 => some (.pan p14, σ13))) (fun p11 σ10 => some (.pan p11, σ10))) (fun p6 σ5 => some (.pan p6, σ5))) (fun p3 σ2 => some (.pan p3, σ2))
noncomputable def levelsHeld (call : CallF) (n : Nat) (o_0_0 : Int) (o_0_1 : ByteArray) (o_0_2 : ByteArray) (o_0_3 : ByteArray) (o_0_4 : Int) (o_0_5 : Int) (σ : Sto) : Option Res := levelsHeldF call o_0_0 o_0_1 o_0_2 o_0_3 o_0_4 o_0_5 σ
theorem levelsHeld_eqF (call : CallF) (n : Nat) (o_0_0 : Int) (o_0_1 : ByteArray) (o_0_2 : ByteArray) (o_0_3 : ByteArray) (o_0_4 : Int) (o_0_5 : Int) (σ : Sto) : afun C levelsHeldD call n [((V.agg [(V.int .i64 o_0_0), (V.str o_0_1), (V.str o_0_2), (V.str o_0_3), (V.int .i64 o_0_4), (V.int .i64 o_0_5)]), false)] σ =
    levelsHeldF call o_0_0 o_0_1 o_0_2 o_0_3 o_0_4 o_0_5 σ := by kernel_rfl
theorem levelsHeld_eq (call : CallF) (n : Nat) (o_0_0 : Int) (o_0_1 : ByteArray) (o_0_2 : ByteArray) (o_0_3 : ByteArray) (o_0_4 : Int) (o_0_5 : Int) (σ : Sto) : afun C levelsHeldD call n [((V.agg [(V.int .i64 o_0_0), (V.str o_0_1), (V.str o_0_2), (V.str o_0_3), (V.int .i64 o_0_4), (V.int .i64 o_0_5)]), false)] σ = levelsHeld call n o_0_0 o_0_1 o_0_2 o_0_3 o_0_4 o_0_5 σ := levelsHeld_eqF call n o_0_0 o_0_1 o_0_2 o_0_3 o_0_4 o_0_5 σ
theorem levelsHeld_call (n : Nat) (o_0_0 : Int) (o_0_1 : ByteArray) (o_0_2 : ByteArray) (o_0_3 : ByteArray) (o_0_4 : Int) (o_0_5 : Int) (σ : Sto) : acall C (n + 1) 4 [((V.agg [(V.int .i64 o_0_0), (V.str o_0_1), (V.str o_0_2), (V.str o_0_3), (V.int .i64 o_0_4), (V.int .i64 o_0_5)]), false)] σ = levelsHeld (acall C n) n o_0_0 o_0_1 o_0_2 o_0_3 o_0_4 o_0_5 σ :=
  (show acall C (n + 1) 4 [((V.agg [(V.int .i64 o_0_0), (V.str o_0_1), (V.str o_0_2), (V.str o_0_3), (V.int .i64 o_0_4), (V.int .i64 o_0_5)]), false)] σ = afun C levelsHeldD (acall C n) n [((V.agg [(V.int .i64 o_0_0), (V.str o_0_1), (V.str o_0_2), (V.str o_0_3), (V.int .i64 o_0_4), (V.int .i64 o_0_5)]), false)] σ by kernel_rfl).trans (levelsHeld_eq _ _ o_0_0 o_0_1 o_0_2 o_0_3 o_0_4 o_0_5 σ)
theorem levelsHeld_lim {n : Nat} {o_0_0 : Int} {o_0_1 : ByteArray} {o_0_2 : ByteArray} {o_0_3 : ByteArray} {o_0_4 : Int} {o_0_5 : Int} {b0 : Bool} {σ : Sto} {r : Res} (h : levelsHeld (lim C) n o_0_0 o_0_1 o_0_2 o_0_3 o_0_4 o_0_5 σ = some r) : lim C 4 [((V.agg [(V.int .i64 o_0_0), (V.str o_0_1), (V.str o_0_2), (V.str o_0_3), (V.int .i64 o_0_4), (V.int .i64 o_0_5)]), b0)] σ = some r :=
  lim_of (d := levelsHeldD) (by kernel_rfl) (by kernel_rfl) n (show afun C levelsHeldD (lim C) n [((V.agg [(V.int .i64 o_0_0), (V.str o_0_1), (V.str o_0_2), (V.str o_0_3), (V.int .i64 o_0_4), (V.int .i64 o_0_5)]), false)] σ = some r from (levelsHeld_eq (lim C) n o_0_0 o_0_1 o_0_2 o_0_3 o_0_4 o_0_5 σ).trans h)
/-! provekernellaw.LevelOrders -/
noncomputable def levelOrdersk0 : List Nat := [0, 3]
noncomputable def levelOrderss0 (call : CallF) (rec0 : List (List V) → Int → Sto → Option Res) (script_0 : List (List V)) (i_3 : Int) (σ : Sto) : Option Res :=
  bif (decide (i_3 < (script_0.length : Int))) then
  bif (decide (i_3 < (1152921504606846976 : Int))) then
  (grd (decide (0 ≤ i_3) && decide (i_3 < script_0.length))).bind fun _ =>
  callK call 4 [((V.agg [(List.getD (List.getD script_0 (Int.toNat i_3) []) 0 V.any), (List.getD (List.getD script_0 (Int.toNat i_3) []) 1 V.any), (List.getD (List.getD script_0 (Int.toNat i_3) []) 2 V.any), (List.getD (List.getD script_0 (Int.toNat i_3) []) 3 V.any), (List.getD (List.getD script_0 (Int.toNat i_3) []) 4 V.any), (List.getD (List.getD script_0 (Int.toNat i_3) []) 5 V.any)]), false)] σ 1 (fun vs1 σ2 =>
  (V.asBool (List.getD vs1 0 cellD).1).bind fun b4 =>
  bif (!b4) then
  some (.ret [((V.bool false), false)], σ2)
  else
  rec0 script_0 (IntKind.wrap .i64 (i_3 + (1 : Int))) σ2) (fun p3 σ2 => some (.pan p3, σ2))
  else
  some (.ret [((V.bool true), false)], σ)
  else
  some (.ret [((V.bool true), false)], σ)
noncomputable def levelOrdersl0 (call : CallF) (n : Nat) : Nat → List (List V) → Int → Sto → Option Res
  | 0 => fun _ _ _ => none
  | m + 1 => levelOrderss0 call (levelOrdersl0 call n m)
noncomputable def levelOrderst0 (script_0 : List (List V)) (i_3 : Int) (σ : Sto) : St := ⟨[.val (V.slice 6 25 script_0) false, .dead, .dead, .val (V.int .i64 i_3) false, .dead, .dead, .dead, .dead, .dead, .dead, .dead, .dead, .dead, .dead, .dead, .dead, .dead, .dead, .dead, .dead, .dead, .dead], [[], [], [], [], [], [], [], [], [], [], [], [], [], [], [], [], [], [], [], [], [], []], σ⟩
noncomputable def levelOrdersF (call : CallF) (L0 : List (List V) → Int → Sto → Option Res) (script_0 : List (List V)) (σ : Sto) : Option Res :=
  L0 script_0 (0 : Int) σ
noncomputable def levelOrders (call : CallF) (n : Nat) (script_0 : List (List V)) (σ : Sto) : Option Res := levelOrdersF call (levelOrdersl0 call n n) script_0 σ
theorem levelOrderss0_eq (call : CallF) (n : Nat) (F0 : St → Option Res) (script_0 : List (List V)) (i_3 : Int) (σ : Sto) :
    aexec C levelOrdersH call n (codeL (codeL (codeR (codeL (codeR levelOrdersC))))) 0 (levelOrderst0 script_0 i_3 σ) (kloop levelOrdersk0 F0 (kblk 0 (kseq (fun st' => aexec C levelOrdersH call n (codeR (codeR levelOrdersC)) 0 st' (kfin C levelOrdersD)) (kfin C levelOrdersD)))) =
    levelOrderss0 call (fun script_0 i_3 σ => F0 (levelOrderst0 script_0 i_3 σ)) script_0 i_3 σ := by kernel_rfl
theorem levelOrdersl0_eq (call : CallF) (n : Nat) : ∀ (m : Nat) (script_0 : List (List V)) (i_3 : Int) (σ : Sto),
    aloop (fun st K => aexec C levelOrdersH call n (codeL (codeL (codeR (codeL (codeR levelOrdersC))))) 0 st K) levelOrdersk0 m (levelOrderst0 script_0 i_3 σ) (kblk 0 (kseq (fun st' => aexec C levelOrdersH call n (codeR (codeR levelOrdersC)) 0 st' (kfin C levelOrdersD)) (kfin C levelOrdersD))) = levelOrdersl0 call n m script_0 i_3 σ
  | 0, script_0, i_3, σ => rfl
  | m + 1, script_0, i_3, σ => by
    rw [aloop, levelOrderss0_eq]
    simp only [levelOrdersl0_eq call n m]
    rfl
theorem levelOrders_eqF (call : CallF) (n : Nat) (script_0 : List (List V)) (σ : Sto) : afun C levelOrdersD call n [((V.slice 6 25 script_0), false)] σ =
    levelOrdersF call (fun script_0 i_3 σ => aloop (fun st K => aexec C levelOrdersH call n (codeL (codeL (codeR (codeL (codeR levelOrdersC))))) 0 st K) levelOrdersk0 n (levelOrderst0 script_0 i_3 σ) (kblk 0 (kseq (fun st' => aexec C levelOrdersH call n (codeR (codeR levelOrdersC)) 0 st' (kfin C levelOrdersD)) (kfin C levelOrdersD)))) script_0 σ := by kernel_rfl
theorem levelOrders_eq (call : CallF) (n : Nat) (script_0 : List (List V)) (σ : Sto) : afun C levelOrdersD call n [((V.slice 6 25 script_0), false)] σ = levelOrders call n script_0 σ := by
  rw [levelOrders_eqF]
  simp only [levelOrdersl0_eq]
  rfl
theorem levelOrders_call (n : Nat) (script_0 : List (List V)) (σ : Sto) : acall C (n + 1) 3 [((V.slice 6 25 script_0), false)] σ = levelOrders (acall C n) n script_0 σ :=
  (show acall C (n + 1) 3 [((V.slice 6 25 script_0), false)] σ = afun C levelOrdersD (acall C n) n [((V.slice 6 25 script_0), false)] σ by kernel_rfl).trans (levelOrders_eq _ _ script_0 σ)
theorem levelOrders_lim {n : Nat} {script_0 : List (List V)} {b0 : Bool} {σ : Sto} {r : Res} (h : levelOrders (lim C) n script_0 σ = some r) : lim C 3 [((V.slice 6 25 script_0), b0)] σ = some r :=
  lim_of (d := levelOrdersD) (by kernel_rfl) (by kernel_rfl) n (show afun C levelOrdersD (lim C) n [((V.slice 6 25 script_0), false)] σ = some r from (levelOrders_eq (lim C) n script_0 σ).trans h)
end Go.Ab.Mk
end
section

end
section
namespace Go.Ab.Mk
open Go.Proofs Go.Ab

/-- A parameter's value by the lists: the first that bears the name. -/
def pval (s : ByteArray) : List ByteArray → List Int → Int
  | p :: ps, n :: ns => if p.toList == s.toList then n else pval s ps ns
  | _, _ => 0

def rworthV (ps : List ByteArray) (ns : List Int) : Lv → Int
  | .zero => 0
  | .succ l => IntKind.wrap .i64 (rworthV ps ns l + 1)
  | .max a b => bif decide (rworthV ps ns b > rworthV ps ns a) then rworthV ps ns b else rworthV ps ns a
  | .imax a b => bif rworthV ps ns b == 0 then 0 else bif decide (rworthV ps ns b > rworthV ps ns a) then rworthV ps ns b else rworthV ps ns a
  | .param s => pval s ps ns

theorem rworth_loop (call : CallF) (n : Nat) {ps : List ByteArray} {ns : List Int} (hl : ps.length = ns.length) (hb : ps.length < 2 ^ 61) (k : Int) (nm : ByteArray) (xs : List (List V)) (σ : Sto) :
    ∀ (m i : Nat), i ≤ ps.length → ps.length - i < m → rworthl0 call n m (strs ps) (ints ns) i k nm xs σ = some (.ret [(.int .i64 (pval nm (ps.drop i) (ns.drop i)), false)], σ)
  | 0, i, _, hm => by omega
  | m + 1, i, hi, hm => by
    show rworths0 call (rworthl0 call n m) (strs ps) (ints ns) i k nm xs σ = _
    unfold rworths0
    rw [strs_length, ints_length]
    by_cases hlt : i < ps.length
    · have hlt2 : i < ns.length := by omega
      rw [d0, dlt hlt, dlt hlt2, Int.toNat_natCast, strs_get hlt, ints_get hlt2]
      rw [List.drop_eq_getElem_cons hlt, List.drop_eq_getElem_cons hlt2]
      simp only [cond_true, grd, Option.bind_some, List.getD_cons_zero, V.asStr, pval]
      cases hc : ps[i].toList == nm.toList with
      | true => simp
      | false =>
        simp only [cond_false, wrap_succ (show i < 2 ^ 61 by omega), Bool.false_eq_true, if_false]
        exact rworth_loop call n hl hb k nm xs σ m (i + 1) (by omega) (by omega)
    · rw [dnlt hlt, List.drop_eq_nil_of_le (by omega)]
      simp [pval]
theorem rworth_law {ps : List ByteArray} {ns : List Int} (hl : ps.length = ns.length) (hb : ps.length < 2 ^ 61) (σ : Sto) : ∀ (l : Lv) (b1 b2 : Bool),
    lim C 16 [(.agg [.int .i64 l.kind, .str l.name, .slice 3 29 l.args], false), (.slice 1 9 (strs ps), b1), (.slice 1 3 (ints ns), b2)] σ = some (.ret [(.int .i64 (rworthV ps ns l), false)], σ)
  | .zero, b1, b2 => rworth_lim (n := 0) rfl
  | .param s, b1, b2 => rworth_lim (n := ps.length + 1) <| by
    simp only [rworth, rworthF, Lv.kind]
    have := rworth_loop (lim C) (ps.length + 1) hl hb 4 s [] σ (ps.length + 1) 0 (by omega) (by omega)
    simpa [rworthV, Lv.name, Lv.args, Lv.kids] using this
  | .succ l, b1, b2 => rworth_lim (n := 0) <| by
    have h1 := rworth_law hl hb σ l false false
    simp only [rworth, rworthF, Lv.kind, Lv.args, Lv.kids, List.map_cons, List.map_nil]
    have hc : V.agg [List.getD (List.getD [l.enc] (Int.toNat (0 : Int)) []) 0 V.any, List.getD (List.getD [l.enc] (Int.toNat (0 : Int)) []) 1 V.any, List.getD (List.getD [l.enc] (Int.toNat (0 : Int)) []) 2 V.any] = V.agg [.int .i64 l.kind, .str l.name, .slice 3 29 l.args] := l.cells
    rw [hc, callK_ret1 h1]
    rfl
  | .max a b, b1, b2 => rworth_lim (n := 0) <| by
    have h1 := rworth_law hl hb σ a false false
    have h2 := rworth_law hl hb σ b false false
    simp only [rworth, rworthF, Lv.kind, Lv.args, Lv.kids, List.map_cons, List.map_nil]
    have hc : V.agg [List.getD (List.getD [a.enc, b.enc] (Int.toNat (0 : Int)) []) 0 V.any, List.getD (List.getD [a.enc, b.enc] (Int.toNat (0 : Int)) []) 1 V.any, List.getD (List.getD [a.enc, b.enc] (Int.toNat (0 : Int)) []) 2 V.any] = V.agg [.int .i64 a.kind, .str a.name, .slice 3 29 a.args] := a.cells
    have hd : V.agg [List.getD (List.getD [a.enc, b.enc] (Int.toNat (1 : Int)) []) 0 V.any, List.getD (List.getD [a.enc, b.enc] (Int.toNat (1 : Int)) []) 1 V.any, List.getD (List.getD [a.enc, b.enc] (Int.toNat (1 : Int)) []) 2 V.any] = V.agg [.int .i64 b.kind, .str b.name, .slice 3 29 b.args] := b.cells
    simp only [hc, hd, rworthV, callK_ret1 h1, callK_ret1 h2]
    cases hx : decide (rworthV ps ns b > rworthV ps ns a) <;> simp [grd, V.asInt, hx]
  | .imax a b, b1, b2 => rworth_lim (n := 0) <| by
    have h1 := rworth_law hl hb σ a false false
    have h2 := rworth_law hl hb σ b false false
    simp only [rworth, rworthF, Lv.kind, Lv.args, Lv.kids, List.map_cons, List.map_nil]
    have hc : V.agg [List.getD (List.getD [a.enc, b.enc] (Int.toNat (0 : Int)) []) 0 V.any, List.getD (List.getD [a.enc, b.enc] (Int.toNat (0 : Int)) []) 1 V.any, List.getD (List.getD [a.enc, b.enc] (Int.toNat (0 : Int)) []) 2 V.any] = V.agg [.int .i64 a.kind, .str a.name, .slice 3 29 a.args] := a.cells
    have hd : V.agg [List.getD (List.getD [a.enc, b.enc] (Int.toNat (1 : Int)) []) 0 V.any, List.getD (List.getD [a.enc, b.enc] (Int.toNat (1 : Int)) []) 1 V.any, List.getD (List.getD [a.enc, b.enc] (Int.toNat (1 : Int)) []) 2 V.any] = V.agg [.int .i64 b.kind, .str b.name, .slice 3 29 b.args] := b.cells
    simp only [hc, hd, rworthV, callK_ret1 h1, callK_ret1 h2]
    cases hy : rworthV ps ns b == 0 <;> cases hx : decide (rworthV ps ns b > rworthV ps ns a) <;> simp [grd, V.asInt, hx, hy]

def idx (v : ByteArray) : List ByteArray → Nat → Int
  | [], _ => -1
  | p :: ps, i => if v.toList == p.toList then i else idx v ps (i + 1)

theorem pval_idx (s : ByteArray) : ∀ (ps : List ByteArray) (ns : List Int) (i : Nat), ps.length = ns.length →
    (idx s ps i = -1 ∧ pval s ps ns = 0) ∨ ∃ j, j < ns.length ∧ idx s ps i = ((i + j : Nat) : Int) ∧ ns[j]? = some (pval s ps ns)
  | [], [], _, _ => .inl ⟨rfl, rfl⟩
  | [], _ :: _, _, h => by simp at h
  | _ :: _, [], _, h => by simp at h
  | p :: ps, n :: ns, i, h => by
    by_cases hc : s.toList = p.toList
    · exact .inr ⟨0, by simp, by simp [idx, hc], by simp [pval, hc]⟩
    · have hc' : ¬ p.toList = s.toList := fun e => hc e.symm
      rcases pval_idx s ps ns (i + 1) (by simpa using h) with ⟨h1, h2⟩ | ⟨j, h1, h2, h3⟩
      · exact .inl ⟨by simp [idx, hc, h1], by simp [pval, hc', h2]⟩
      · refine .inr ⟨j + 1, by simp; omega, ?_, ?_⟩
        · simp only [idx, beq_iff_eq, hc, if_false, h2]; congr 1; omega
        · simp only [pval, beq_iff_eq, hc', if_false, List.getElem?_cons_succ]; exact h3

def has (v : ByteArray) (ps : List ByteArray) : Bool := ps.any fun p => p.toList == v.toList
theorem among_loop (call : CallF) (n : Nat) {ps : List ByteArray} (hb : ps.length < 2 ^ 61) (v : ByteArray) (σ : Sto) :
    ∀ (m i : Nat), i ≤ ps.length → ps.length - i < m → amongl0 call n m v (strs ps) i σ = some (.ret [(.bool (has v (ps.drop i)), false)], σ)
  | 0, i, _, hm => by omega
  | m + 1, i, hi, hm => by
    show amongs0 call (amongl0 call n m) v (strs ps) i σ = _
    unfold amongs0
    rw [strs_length]
    by_cases hlt : i < ps.length
    · rw [d0, dlt hlt, Int.toNat_natCast, strs_get hlt, List.drop_eq_getElem_cons hlt]
      simp only [cond_true, Bool.and_self, grd, Option.bind_some, List.getD_cons_zero, V.asStr, has, List.any_cons]
      cases hc : ps[i].toList == v.toList with
      | true => simp
      | false =>
        simp only [cond_false, wrap_succ (show i < 2 ^ 61 by omega), Bool.false_or]
        exact among_loop call n hb v σ m (i + 1) (by omega) (by omega)
    · rw [dnlt hlt, List.drop_eq_nil_of_le (by omega)]
      simp [has]
theorem among_law {ps : List ByteArray} (hb : ps.length < 2 ^ 61) (v : ByteArray) (σ : Sto) :
    lim C 13 [(.str v, false), (.slice 1 9 (strs ps), false)] σ = some (.ret [(.bool (has v ps), false)], σ) :=
  among_lim (n := ps.length + 1) <| by
    have := among_loop (lim C) (ps.length + 1) hb v σ (ps.length + 1) 0 (by omega) (by omega)
    simpa [among, amongF] using this

theorem kids_few (l : Lv) : l.kids.length ≤ 2 := by cases l <;> simp [Lv.kids]
end Go.Ab.Mk
end
section
namespace Go.Ab.Mk
open Go.Proofs Go.Ab

def rparamsV : Lv → List ByteArray → List ByteArray
  | .param s, ps => bif has s ps then ps else ps ++ [s]
  | .zero, ps => ps
  | .succ l, ps => rparamsV l ps
  | .max a b, ps => rparamsV b (rparamsV a ps)
  | .imax a b, ps => rparamsV b (rparamsV a ps)
theorem rparamsV_length : ∀ (l : Lv) (ps : List ByteArray), (rparamsV l ps).length ≤ ps.length + l.size
  | .param s, ps => by simp only [rparamsV]; cases has s ps <;> simp [Lv.size]
  | .zero, ps => by simp [rparamsV]
  | .succ l, ps => by have := rparamsV_length l ps; simp only [rparamsV, Lv.size]; omega
  | .max a b, ps => by have h1 := rparamsV_length a ps; have h2 := rparamsV_length b (rparamsV a ps); simp only [rparamsV, Lv.size]; omega
  | .imax a b, ps => by have h1 := rparamsV_length a ps; have h2 := rparamsV_length b (rparamsV a ps); simp only [rparamsV, Lv.size]; omega
def kidsV : List Lv → List ByteArray → List ByteArray
  | [], ps => ps
  | c :: L, ps => kidsV L (rparamsV c ps)
def sizes : List Lv → Nat
  | [] => 0
  | c :: L => c.size + sizes L
theorem sizes_le : ∀ l : Lv, sizes l.kids < l.size
  | .param s => by simp [Lv.kids, sizes, Lv.size]
  | .zero => by simp [Lv.kids, sizes, Lv.size]
  | .succ l => by simp [Lv.kids, sizes, Lv.size]
  | .max a b => by simp [Lv.kids, sizes, Lv.size] <;> omega
  | .imax a b => by simp [Lv.kids, sizes, Lv.size] <;> omega
theorem rparams_loop (call : CallF) (n : Nat) {L : List Lv} (hb : L.length < 2 ^ 61) (k : Int) (nm : ByteArray) (σ : Sto)
    (h : ∀ c ∈ L, ∀ ps : List ByteArray, c.size + ps.length < 2 ^ 33 → call 6 [(.agg [.int .i64 c.kind, .str c.name, .slice 3 29 c.args], false), (.slice 1 9 (strs ps), true)] σ = some (.ret [(.slice 1 9 (strs (rparamsV c ps)), true)], σ)) :
    ∀ (m i : Nat) (ps : List ByteArray), i ≤ L.length → L.length - i < m → sizes (L.drop i) + ps.length < 2 ^ 33 → rparamsl0 call n m (.slice 1 9 (strs ps)) i k nm (L.map Lv.enc) σ = some (.ret [(.slice 1 9 (strs (kidsV (L.drop i) ps)), true)], σ)
  | 0, i, _, _, hm, _ => by omega
  | m + 1, i, ps, hi, hm, hs => by
    show rparamss0 call (rparamsl0 call n m) (.slice 1 9 (strs ps)) i k nm (L.map Lv.enc) σ = _
    unfold rparamss0
    rw [List.length_map]
    by_cases hlt : i < L.length
    · have hc := List.getElem?_eq_getElem hlt
      rw [drop_cons hc] at hs
      simp only [sizes] at hs
      have h1 := h _ (List.getElem_mem hlt) ps (by omega)
      have hl := rparamsV_length L[i] ps
      rw [d0, dlt hlt, kid_get hc, L[i].cells, drop_cons hc]
      simp only [cond_true, Bool.and_self, grd, Option.bind_some, callK_ret1 h1, wrap_succ (show i < 2 ^ 61 by omega), List.getD_cons_zero, kidsV]
      exact rparams_loop call n hb k nm σ h m (i + 1) _ (by omega) (by omega) (by omega)
    · rw [dnlt hlt, List.drop_eq_nil_of_le (by omega)]; rfl
theorem kidsV_eq : ∀ (l : Lv) (ps : List ByteArray), (∀ s, l ≠ .param s) → kidsV l.kids ps = rparamsV l ps
  | .param s, _, h => absurd rfl (h s)
  | .zero, _, _ => rfl
  | .succ _, _, _ => rfl
  | .max .., _, _ => rfl
  | .imax .., _, _ => rfl
theorem kind_ne {l : Lv} (h : ∀ s, l ≠ .param s) : (l.kind == (4 : Int)) = false := by cases l <;> first | rfl | exact absurd rfl (h _)
theorem rparams_law (σ : Sto) : ∀ (l : Lv) (ps : List ByteArray), l.size + ps.length < 2 ^ 33 →
    lim C 6 [(.agg [.int .i64 l.kind, .str l.name, .slice 3 29 l.args], false), (.slice 1 9 (strs ps), true)] σ = some (.ret [(.slice 1 9 (strs (rparamsV l ps)), true)], σ) :=
  Lv.ind fun l ih ps hb => rparams_lim (n := 4) <| by
    by_cases hp : ∃ s, l = .param s
    · obtain ⟨s, rfl⟩ := hp
      simp only [Lv.size] at hb
      have h1 := among_law (ps := ps) (by omega) s σ
      simp only [rparams, rparamsF, Lv.kind, Lv.name, Lv.args, Lv.kids, rparamsV, callK_ret1 h1]
      cases hx : has s ps with
      | true => simp [V.asBool]
      | false =>
        have hr : room (ps.length + 1) = true := room_ok (by omega)
        simp [V.asBool, grd, hr, strs]
    · have hp : ∀ s, l ≠ .param s := fun s hs => hp ⟨s, hs⟩
      have hf := kids_few l
      have hs := sizes_le l
      have := rparams_loop (lim C) 4 (L := l.kids) (by omega) l.kind l.name σ (fun c hc ps h => ih c hc ps h) 4 0 ps (by omega) (by omega) (by simp only [List.drop_zero]; omega)
      simp only [rparams, rparamsF, kind_ne hp, cond_false]
      rw [List.drop_zero, kidsV_eq l ps hp] at this
      exact this

theorem idx_has (v : ByteArray) : ∀ (ps : List ByteArray) (i : Nat), decide (idx v ps i ≥ 0) = has v ps
  | [], i => rfl
  | p :: ps, i => by
    simp only [idx, has, List.any_cons]
    by_cases h : v.toList = p.toList
    · simp [h]
    · have h' : ¬ p.toList = v.toList := fun e => h e.symm
      have := idx_has v ps (i + 1)
      simp only [has] at this
      simp [h, h', ← this]

theorem memGet1 {σ : Sto} {t : TypeId} {b : Nat} {c : Cell} (h : σ[b]? = some [c]) : memGet σ (.ptr t b 0) false 1 = some c.1 := by simp [memGet, h, gather]
theorem memTake1 {σ : Sto} {t : TypeId} {b : Nat} {v : V} (h : σ[b]? = some [(v, true)]) : memTake σ (.ptr t b 0) = some (v, σ.set b [(v, false)]) := by
  simp only [memTake, h, Option.bind_some]; rfl
theorem memSet1 {σ : Sto} {t : TypeId} {b : Nat} {c d : Cell} (h : σ[b]? = some [c]) : memSet σ (.ptr t b 0) [d] = some (σ.set b [d]) := by
  simp only [memSet, h, Option.bind_some]; rfl
end Go.Ab.Mk
end
section
namespace Go.Ab.Mk
open Go.Proofs Go.Ab

/-- A string of bytes. -/
def ba (l : List UInt8) : ByteArray := ⟨l.toArray⟩
theorem ba_append (a b : List UInt8) : ba a ++ ba b = ba (a ++ b) := by
  apply ByteArray.ext
  simp [ba]
theorem ba_of (s : ByteArray) : ba s.data.toList = s := by
  apply ByteArray.ext
  simp [ba]
theorem ba_size (l : List UInt8) : (ba l).size = l.length := by simp [ba, ByteArray.size]
theorem bytesV_ba (l : List UInt8) : bytesV (ba l) = bytesL l := by simp [bytesV, ba, bytesL]
theorem strRoom_ok {x y : ByteArray} (h : x.size + y.size < 2 ^ 61) : strRoom x y = true := by
  unfold strRoom
  refine decide_eq_true ?_
  by_cases h0 : x.size + y.size = 0
  · rw [h0]; simp
  · have := (Nat.log2_lt (k := 61) h0).2 h
    omega

def printL : Lv → List UInt8
  | .zero => [48]
  | .succ l => [40, 115, 32] ++ printL l ++ [41]
  | .max a b => [40, 109, 97, 120, 32] ++ printL a ++ [32] ++ printL b ++ [41]
  | .imax a b => [40, 105, 109, 97, 120, 32] ++ printL a ++ [32] ++ printL b ++ [41]
  | .param s => s.data.toList

theorem memTakeB {σ : Sto} {t : TypeId} {b : Nat} {c : Cell} {v : V} (h : σ[b]? = some [c, (v, true)]) : memTake σ (.ptr t b 1) = some (v, σ.set b [c, (v, false)]) := by
  simp only [memTake, h, Option.bind_some]; rfl
theorem memSetB {σ : Sto} {t : TypeId} {b : Nat} {c c' d : Cell} (h : σ[b]? = some [c, c']) : memSet σ (.ptr t b 1) [d] = some (σ.set b [c, d]) := by
  simp only [memSet, h, Option.bind_some]; rfl
theorem callK_ret2 {call : CallF} {f : FuncId} {args : List Cell} {σ σ' : Sto} {K : List Cell → Sto → Option Res} {KP : V → Sto → Option Res} {c d : Cell} (h : call f args σ = some (.ret [c, d], σ')) :
    callK call f args σ 2 K KP = K [c, d] σ' := callK_ret h rfl
end Go.Ab.Mk
end
section
namespace Go.Ab.Mk
open Go.Proofs Go.Ab

def plv (s : ByteArray) : List ByteArray → List Lv → Lv
  | p :: ps, l :: ls => if p.toList == s.toList then l else plv s ps ls
  | _, _ => .param s
def substV (ps : List ByteArray) (ls : List Lv) : Lv → Lv
  | .zero => .zero
  | .succ l => .succ (substV ps ls l)
  | .max a b => .max (substV ps ls a) (substV ps ls b)
  | .imax a b => .imax (substV ps ls a) (substV ps ls b)
  | .param s => plv s ps ls
def encs (ls : List Lv) : List (List V) := ls.map Lv.enc
theorem substV_kids (ps : List ByteArray) (ls : List Lv) : ∀ (l : Lv), (∀ s, l ≠ .param s) → (substV ps ls l).kind = l.kind ∧ (substV ps ls l).name = l.name ∧ (substV ps ls l).kids = l.kids.map (substV ps ls)
  | .param s, h => absurd rfl (h s)
  | .zero, _ => ⟨rfl, rfl, rfl⟩
  | .succ _, _ => ⟨rfl, rfl, rfl⟩
  | .max .., _ => ⟨rfl, rfl, rfl⟩
  | .imax .., _ => ⟨rfl, rfl, rfl⟩
theorem plv_idx (s : ByteArray) : ∀ (ps : List ByteArray) (ls : List Lv) (i : Nat), ps.length = ls.length →
    (idx s ps i = -1 ∧ plv s ps ls = .param s) ∨ ∃ j, j < ls.length ∧ idx s ps i = ((i + j : Nat) : Int) ∧ ls[j]? = some (plv s ps ls)
  | [], [], _, _ => .inl ⟨rfl, rfl⟩
  | [], _ :: _, _, h => by simp at h
  | _ :: _, [], _, h => by simp at h
  | p :: ps, n :: ns, i, h => by
    by_cases hc : s.toList = p.toList
    · exact .inr ⟨0, by simp, by simp [idx, hc], by simp [plv, hc]⟩
    · have hc' : ¬ p.toList = s.toList := fun e => hc e.symm
      rcases plv_idx s ps ns (i + 1) (by simpa using h) with ⟨h1, h2⟩ | ⟨j, h1, h2, h3⟩
      · exact .inl ⟨by simp [idx, hc, h1], by simp [plv, hc', h2]⟩
      · refine .inr ⟨j + 1, by simp; omega, ?_, ?_⟩
        · simp only [idx, beq_iff_eq, hc, if_false, h2]; congr 1; omega
        · simp only [plv, beq_iff_eq, hc', if_false, List.getElem?_cons_succ]; exact h3
theorem fits_lv (l : Lv) : V.fits (.agg [.int .i64 l.kind, .str l.name, .slice 3 29 l.args]) true 3 = true := rfl
theorem cell_lv (l : Lv) : [V.cell (.agg [.int .i64 l.kind, .str l.name, .slice 3 29 l.args]) 0, V.cell (.agg [.int .i64 l.kind, .str l.name, .slice 3 29 l.args]) 1, V.cell (.agg [.int .i64 l.kind, .str l.name, .slice 3 29 l.args]) 2] = l.enc := by rw [l.enc_eq]; rfl

def limitV (n : Int) : Int := bif decide (n < 0) then Int.tmod (IntKind.wrap .i64 (0 - IntKind.wrap .i64 (n + 1))) 6 else Int.tmod n 6
end Go.Ab.Mk
end
section
namespace Go.Ab.Mk
open Go.Proofs Go.Ab

def isDigit (c : Int) : Bool := decide (48 ≤ c) && decide (c ≤ 57)
def isLetter (c : Int) : Bool := (decide (97 ≤ c) && decide (c ≤ 122)) || (decide (65 ≤ c) && decide (c ≤ 90)) || c == 95
def nmByte (c : Int) (first : Bool) : Bool := isLetter c || (!first && (isDigit c || c == 46 || c == 39))
def isBlank (c : Int) : Bool := c == 32 || c == 9 || c == 10

theorem nameByte_law (c : Int) (f : Bool) (σ : Sto) : lim C 24 [(.int .u8 c, false), (.bool f, false)] σ = some (.ret [(.bool (nmByte c f), false)], σ) :=
  nameByte_lim (n := 0) <| by
    simp only [nameByte, nameByteF, nmByte, isLetter, isDigit, ge_iff_le]
    cases decide (97 ≤ c) <;> cases decide (c ≤ 122) <;> cases decide (65 ≤ c) <;> cases decide (c ≤ 90) <;> cases c == 95 <;> cases f <;> cases decide (48 ≤ c) <;> cases decide (c ≤ 57) <;> cases c == 46 <;> cases c == 39 <;> rfl

/-- The first place from i on where f is false. -/
def scan (f : Int → Bool) (s : ByteArray) (i : Nat) : Nat :=
  if h : i < s.size then (bif f (byteAt s i) then scan f s (i + 1) else i) else i
termination_by s.size - i
theorem scan_go {f : Int → Bool} {s : ByteArray} {i : Nat} (h : i < s.size) (hf : f (byteAt s i) = true) : scan f s i = scan f s (i + 1) := by
  rw [scan, dif_pos h, hf]; rfl
theorem scan_stop {f : Int → Bool} {s : ByteArray} {i : Nat} (h : ¬ (i < s.size ∧ f (byteAt s i) = true)) : scan f s i = i := by
  rw [scan]
  split
  · rename_i hi
    cases hf : f (byteAt s i) with
    | true => exact absurd ⟨hi, hf⟩ h
    | false => rfl
  · rfl
theorem scan_ge (f : Int → Bool) (s : ByteArray) : ∀ (k i : Nat), s.size - i = k → i ≤ scan f s i ∧ (i ≤ s.size → scan f s i ≤ s.size)
  | k, i, hk => by
    by_cases h : i < s.size ∧ f (byteAt s i) = true
    · rw [scan_go h.1 h.2]
      have := scan_ge f s (k - 1) (i + 1) (by omega)
      omega
    · rw [scan_stop h]; omega
theorem le_scan (f : Int → Bool) (s : ByteArray) (i : Nat) : i ≤ scan f s i := (scan_ge f s _ i rfl).1
theorem scan_le {f : Int → Bool} {s : ByteArray} {i : Nat} (h : i ≤ s.size) : scan f s i ≤ s.size := (scan_ge f s _ i rfl).2 h
theorem scan_end (f : Int → Bool) (s : ByteArray) : ∀ (k i : Nat), s.size - i = k → ¬ (scan f s i < s.size ∧ f (byteAt s (scan f s i)) = true)
  | k, i, hk => by
    by_cases h : i < s.size ∧ f (byteAt s i) = true
    · rw [scan_go h.1 h.2]
      exact scan_end f s (k - 1) (i + 1) (by omega)
    · rw [scan_stop h]; exact h

structure Tok where
  t : ByteArray
  at_ : Nat
  ok : Bool
def Tok.no (i : Nat) : Tok := ⟨ByteArray.mk #[], i, false⟩
def Tok.cells (k : Tok) : List Cell := [(.str k.t, false), (.int .i64 k.at_, false), (.bool k.ok, false)]
/-- A row of digits from i on, that ends ahead of q. -/
def numTok (s : ByteArray) (i q : Nat) (c : Int) : Tok :=
  let d := bif c == 35 then i + 1 else i
  bif q == d then .no i else bif decide (q - d > 5) then .no i else bif (decide (q - d > 1) && byteAt s d == 48) then .no i else ⟨s.extract i q, i, true⟩
def nmTok (s : ByteArray) (i q : Nat) : Tok := bif decide (q - i > 40) then .no i else ⟨s.extract i q, i, true⟩
def tokAt (s : ByteArray) (i : Nat) : Tok :=
  bif i == s.size then ⟨ByteArray.mk #[], i, true⟩ else
  bif byteAt s i == 40 then ⟨s.extract i (i + 1), i, true⟩ else bif byteAt s i == 41 then ⟨s.extract i (i + 1), i, true⟩ else
  bif nmByte (byteAt s i) true then nmTok s i (scan (nmByte · false) s (i + 1)) else
  bif byteAt s i == 35 || isDigit (byteAt s i) then numTok s i (scan isDigit s (i + 1)) (byteAt s i) else .no i
def tokV (s : ByteArray) (p : Nat) : Tok := tokAt s (scan isBlank s p)

/-- The reader's cells. -/
def rst (s : ByteArray) (p : Nat) (c a : Int) : List Cell := [(.str s, false), (.int .i64 p, false), (.int .i64 c, false), (.int .i64 a, false)]
theorem rd0 {σ : Sto} {r : Nat} {s : ByteArray} {p : Nat} {c a : Int} (h : σ[r]? = some (rst s p c a)) (t : TypeId) : memGet σ (.ptr t r 0) false 1 = some (.str s) := by simp [memGet, h, gather, rst]
theorem rd1 {σ : Sto} {r : Nat} {s : ByteArray} {p : Nat} {c a : Int} (h : σ[r]? = some (rst s p c a)) (t : TypeId) : memGet σ (.ptr t r 1) false 1 = some (.int .i64 p) := by simp [memGet, h, gather, rst]
theorem rd2 {σ : Sto} {r : Nat} {s : ByteArray} {p : Nat} {c a : Int} (h : σ[r]? = some (rst s p c a)) (t : TypeId) : memGet σ (.ptr t r 2) false 1 = some (.int .i64 c) := by simp [memGet, h, gather, rst]
theorem wrap_sub {q i : Nat} (h : i ≤ q) (hq : q < 2 ^ 61) : IntKind.wrap .i64 ((q : Int) - (i : Int)) = ((q - i : Nat) : Int) := by
  rw [← wrap_nat (n := q - i) (by omega)]
  congr 1
  omega
theorem dgt (a b : Nat) : decide ((a : Int) > (b : Int)) = decide (a > b) := by simp
theorem beqN (a b : Nat) : ((a : Int) == (b : Int)) = (a == b) := by
  rw [Bool.eq_iff_iff, beq_iff_eq, beq_iff_eq]; omega
theorem bnd2 {i q n : Nat} (h1 : i ≤ q) (h2 : q ≤ n) : (decide ((i : Int) ≤ (q : Int)) && decide ((q : Int) ≤ (n : Int))) = true := by simp; omega
theorem bnd {i q n : Nat} (h1 : i ≤ q) (h2 : q ≤ n) : (decide (0 ≤ (i : Int)) && decide ((i : Int) ≤ (q : Int)) && decide ((q : Int) ≤ (n : Int))) = true := by simp; omega

theorem tokens1_step (call : CallF) (n m : Nat) {σ : Sto} {r : Nat} {s : ByteArray} {p : Nat} {c a : Int} (h : σ[r]? = some (rst s p c a)) (hs : s.size < 2 ^ 61)
    (hc : ∀ x, call 24 [(.int .u8 x, false), (.bool false, false)] σ = some (.ret [(.bool (nmByte x false), false)], σ)) {i q : Nat} (hi : i ≤ q) (hq : q ≤ s.size) :
    rtokenl1 call n (m + 1) r (.int .i64 i) q σ = bif decide (q < s.size) && nmByte (byteAt s q) false then rtokenl1 call n m r (.int .i64 i) (q + 1 : Nat) σ else some (.ret (nmTok s i q).cells, σ) := by
  show rtokens1 call (rtokenl1 call n m) r (.int .i64 i) q σ = _
  unfold rtokens1
  have h40 : ((40 : Int)) = ((40 : Nat) : Int) := rfl
  simp only [rd0 h, Option.bind_some, V.asStr, V.asInt, if_true, callK_ret1 (hc _), Int.toNat_natCast, List.getD_cons_zero, V.asBool, wrap_sub hi (show q < 2 ^ 61 by omega), h40, dgt, bnd hi hq, grd, cond_true, nmTok, Tok.cells, Tok.no]
  by_cases h1 : q < s.size
  · simp only [dlt h1, d0, cond_true, Bool.and_self, Option.bind_some, wrap_succ (show q < 2 ^ 61 by omega), decide_eq_true h1, Bool.true_and]
    cases nmByte (byteAt s q) false with
    | true => rfl
    | false => simp only [cond_false]; cases decide (q - i > 40) <;> rfl
  · simp only [dnlt h1, cond_false, decide_eq_false h1, Bool.false_and]
    cases decide (q - i > 40) <;> rfl
theorem tokens1_loop (call : CallF) (n : Nat) {σ : Sto} {r : Nat} {s : ByteArray} {p : Nat} {c a : Int} (h : σ[r]? = some (rst s p c a)) (hs : s.size < 2 ^ 61)
    (hc : ∀ x, call 24 [(.int .u8 x, false), (.bool false, false)] σ = some (.ret [(.bool (nmByte x false), false)], σ)) {i : Nat} :
    ∀ (m q : Nat), i ≤ q → q ≤ s.size → s.size - q < m → rtokenl1 call n m r (.int .i64 i) q σ = some (.ret (nmTok s i (scan (nmByte · false) s q)).cells, σ)
  | 0, q, _, _, hm => by omega
  | m + 1, q, hi, hq, hm => by
    rw [tokens1_step call n m h hs hc hi hq]
    by_cases h1 : q < s.size ∧ nmByte (byteAt s q) false = true
    · rw [scan_go (f := (nmByte · false)) h1.1 h1.2, decide_eq_true h1.1, h1.2]
      exact tokens1_loop call n h hs hc m (q + 1) (by omega) (by omega) (by omega)
    · rw [scan_stop (f := (nmByte · false)) h1]
      have : (decide (q < s.size) && nmByte (byteAt s q) false) = false := by
        cases hb : nmByte (byteAt s q) false <;> simp_all
      rw [this]; rfl

theorem tokens2_step (call : CallF) (n m : Nat) {σ : Sto} {r : Nat} {s : ByteArray} {p : Nat} {c a : Int} (h : σ[r]? = some (rst s p c a)) (hs : s.size < 2 ^ 61) {i q : Nat} (x : Int) (hi : i < q) (hq : q ≤ s.size) :
    rtokenl2 call n (m + 1) r (.int .i64 i) q x σ = bif decide (q < s.size) && isDigit (byteAt s q) then rtokenl2 call n m r (.int .i64 i) (q + 1 : Nat) x σ else some (.ret (numTok s i q x).cells, σ) := by
  show rtokens2 call (rtokenl2 call n m) r (.int .i64 i) q x σ = _
  unfold rtokens2
  have h5 : ((5 : Int)) = ((5 : Nat) : Int) := rfl
  have h1' : ((1 : Int)) = ((1 : Nat) : Int) := rfl
  have e48 : ∀ z : Int, decide (z ≥ 48) = decide (48 ≤ z) := fun _ => rfl
  have w1 : IntKind.wrap .i64 ((i : Int) + ((1 : Nat) : Int)) = ((i + 1 : Nat) : Int) := wrap_succ (show i < 2 ^ 61 by omega)
  have w2 : IntKind.wrap .i64 ((q : Int) + ((1 : Nat) : Int)) = ((q + 1 : Nat) : Int) := wrap_succ (show q < 2 ^ 61 by omega)
  simp only [rd0 h, Option.bind_some, V.asStr, V.asInt, if_true, Int.toNat_natCast, h5, h1', w1, w2, wrap_sub (show i ≤ q by omega) (show q < 2 ^ 61 by omega), wrap_sub (show i + 1 ≤ q by omega) (show q < 2 ^ 61 by omega), dgt, beqN, bnd2 (show i ≤ q by omega) hq, d0, Bool.true_and, decide_eq_true (show s.size > i by omega), grd, cond_true, e48, numTok, Tok.cells, Tok.no]
  by_cases h1 : q < s.size
  · simp only [decide_eq_true (show s.size > q from h1), cond_true, Option.bind_some, decide_eq_true h1, Bool.true_and, isDigit]
    by_cases hx : x == 35
    · by_cases hd : q = i + 1
      · subst hd
        cases decide (48 ≤ byteAt s (i + 1)) <;> cases decide (byteAt s (i + 1) ≤ 57) <;> simp [hx]
      · have hlt : i + 1 < s.size := by omega
        have hd' : (q == i + 1) = false := by simpa using hd
        simp only [decide_eq_true (show s.size > i + 1 from hlt), hx, cond_true, hd', cond_false, Option.bind_some]
        cases decide (48 ≤ byteAt s q) <;> cases decide (byteAt s q ≤ 57) <;> cases decide (q - (i + 1) > 5) <;> cases decide (q - (i + 1) > 1) <;> cases byteAt s (i + 1) == 48 <;> rfl
    · have hd' : (q == i) = false := by simp; omega
      simp only [hx, cond_false, hd', Option.bind_some]
      cases decide (48 ≤ byteAt s q) <;> cases decide (byteAt s q ≤ 57) <;> cases decide (q - i > 5) <;> cases decide (q - i > 1) <;> cases byteAt s i == 48 <;> rfl
  · simp only [decide_eq_false (show ¬ s.size > q from h1), cond_false, decide_eq_false h1, Bool.false_and]
    by_cases hx : x == 35
    · by_cases hd : q = i + 1
      · subst hd
        simp [hx]
      · have hlt : i + 1 < s.size := by omega
        have hd' : (q == i + 1) = false := by simpa using hd
        simp only [decide_eq_true (show s.size > i + 1 from hlt), hx, cond_true, hd', cond_false, Option.bind_some]
        cases decide (q - (i + 1) > 5) <;> cases decide (q - (i + 1) > 1) <;> cases byteAt s (i + 1) == 48 <;> rfl
    · have hd' : (q == i) = false := by simp; omega
      simp only [hx, cond_false, hd', Option.bind_some]
      cases decide (q - i > 5) <;> cases decide (q - i > 1) <;> cases byteAt s i == 48 <;> rfl
theorem tokens2_loop (call : CallF) (n : Nat) {σ : Sto} {r : Nat} {s : ByteArray} {p : Nat} {c a : Int} (h : σ[r]? = some (rst s p c a)) (hs : s.size < 2 ^ 61) {i : Nat} (x : Int) :
    ∀ (m q : Nat), i < q → q ≤ s.size → s.size - q < m → rtokenl2 call n m r (.int .i64 i) q x σ = some (.ret (numTok s i (scan isDigit s q) x).cells, σ)
  | 0, q, _, _, hm => by omega
  | m + 1, q, hi, hq, hm => by
    rw [tokens2_step call n m h hs x hi hq]
    by_cases h1 : q < s.size ∧ isDigit (byteAt s q) = true
    · rw [scan_go (f := isDigit) h1.1 h1.2, decide_eq_true h1.1, h1.2]
      exact tokens2_loop call n h hs x m (q + 1) (by omega) (by omega) (by omega)
    · rw [scan_stop (f := isDigit) h1]
      have : (decide (q < s.size) && isDigit (byteAt s q)) = false := by
        cases hb : isDigit (byteAt s q) <;> simp_all
      rw [this]; rfl

theorem tokens0_loop (call : CallF) (n : Nat) {σ : Sto} {r : Nat} {s : ByteArray} {p0 : Nat} {c a : Int} (h : σ[r]? = some (rst s p0 c a)) (hs : s.size < 2 ^ 61) (hn : s.size < n)
    (hc : ∀ x f, call 24 [(.int .u8 x, false), (.bool f, false)] σ = some (.ret [(.bool (nmByte x f), false)], σ)) :
    ∀ (m p : Nat), p ≤ s.size → s.size - p < m → rtokenl0 call n m r (.int .i64 p) σ = some (.ret (tokV s p).cells, σ)
  | 0, q, _, hm => by omega
  | m + 1, p, hp, hm => by
    show rtokens0 call (rtokenl1 call n n) (rtokenl2 call n n) (rtokenl0 call n m) r (.int .i64 p) σ = _
    unfold rtokens0
    have e48 : ∀ z : Int, decide (z ≥ 48) = decide (48 ≤ z) := fun _ => rfl
    simp only [rd0 h, Option.bind_some, V.asStr, V.asInt, if_true, Int.toNat_natCast, wrap_succ (show p < 2 ^ 61 by omega), d0, Bool.true_and, callK_ret1 (hc _ _), List.getD_cons_zero, V.asBool, beqN, e48]
    by_cases h1 : p < s.size
    · have hpe : (p == s.size) = false := by simp; omega
      have hb1 : ((decide ((p : Int) ≤ ((p + 1 : Nat) : Int))) && decide (((p + 1 : Nat) : Int) ≤ (s.size : Int))) = true := by simp; omega
      simp only [dlt h1, cond_true, grd, Option.bind_some, hpe, cond_false, hb1]
      by_cases hb : isBlank (byteAt s p) = true
      · rw [tokV, scan_go h1 hb, ← tokV]
        have ih := tokens0_loop call n h hs hn hc m (p + 1) (by omega) (by omega)
        simp only [isBlank, Bool.or_eq_true] at hb
        rw [ih]
        rcases hb with (hb | hb) | hb
        · simp only [hb, cond_true]
        · cases byteAt s p == 32 <;> simp only [hb, cond_true, cond_false]
        · cases byteAt s p == 32 <;> cases byteAt s p == 9 <;> simp only [hb, cond_true, cond_false]
      · rw [tokV, scan_stop (fun hh => hb hh.2)]
        have hb' : isBlank (byteAt s p) = false := by simpa using hb
        simp only [isBlank, Bool.or_eq_false_iff] at hb'
        obtain ⟨⟨b1, b2⟩, b3⟩ := hb'
        have l1 := tokens1_loop call n h hs (fun x => hc x false) (i := p) n (p + 1) (by omega) (by omega) (by omega)
        have l2 := tokens2_loop call n h hs (i := p) (byteAt s p) n (p + 1) (by omega) (by omega) (by omega)
        simp only [b1, b2, b3, cond_false, l1, l2, tokAt, hpe, isDigit]
        cases byteAt s p == 40 <;> cases byteAt s p == 41 <;> cases nmByte (byteAt s p) true <;> cases byteAt s p == 35 <;> cases decide (48 ≤ byteAt s p) <;> cases decide (byteAt s p ≤ 57) <;> rfl
    · have hpe : p = s.size := by omega
      rw [tokV, scan_stop (fun hh => h1 hh.1)]
      rw [dnlt h1]
      simp only [cond_false, hpe, beq_self_eq_true, cond_true, tokAt, Tok.cells]
theorem token_law {σ : Sto} {r : Nat} {s : ByteArray} {p : Nat} {c a : Int} (h : σ[r]? = some (rst s p c a)) (hs : s.size < 2 ^ 61) (hp : p ≤ s.size) :
    lim C 17 [(.ptr 39 r 0, false)] σ = some (.ret (tokV s p).cells, σ) :=
  rtoken_lim (n := s.size + 1) <| by
    have := tokens0_loop (lim C) (s.size + 1) h hs (by omega) (fun x f => nameByte_law x f σ) (s.size + 1) p hp (by omega)
    simp only [rtoken, rtokenF, rd1 h, Option.bind_some]
    exact this
end Go.Ab.Mk
end
section
namespace Go.Ab.Mk
open Go.Proofs Go.Ab

structure RS where
  p : Nat
  c : Int
  a : Int
def RS.cells (s : ByteArray) (st : RS) : List Cell := rst s st.p st.c st.a
def isNo (t : ByteArray) : Bool := t.toList == (ByteArray.mk #[]).toList
def rfailV (st : RS) (i : Nat) : RS := bif st.c == 0 then ⟨st.p, 1, i⟩ else st
def rnextV (s : ByteArray) (st : RS) : ByteArray × RS :=
  let k := tokV s st.p
  let st1 := bif !k.ok || isNo k.t then rfailV st k.at_ else st
  bif st1.c != 0 then (ByteArray.mk #[], st1) else (k.t, ⟨k.at_ + k.t.size, st1.c, st1.a⟩)
def rtakeV (s : ByteArray) (st : RS) (w : ByteArray) : RS :=
  let k := tokV s st.p
  let st1 := bif !k.ok || !(k.t.toList == w.toList) then rfailV st k.at_ else st
  bif st1.c == 0 then ⟨k.at_ + k.t.size, st1.c, st1.a⟩ else st1
def isNameV (t : ByteArray) : Bool := !isNo t && nmByte (byteAt t 0) true
def rdoneV (s : ByteArray) (st : RS) : RS :=
  let k := tokV s st.p
  bif !k.ok || !isNo k.t then rfailV st k.at_ else st

theorem isNo_size {t : ByteArray} (h : isNo t = false) : 0 < t.size := by
  rcases Nat.eq_zero_or_pos t.size with h0 | h0
  · have : t = ByteArray.mk #[] := by
      apply ByteArray.ext
      exact Array.eq_empty_of_size_eq_zero h0
    subst this
    simp [isNo] at h
  · exact h0

/-! Where tokens lie. -/
structure TokOk (s : ByteArray) (p : Nat) (k : Tok) : Prop where
  ge : p ≤ k.at_
  le : k.at_ + k.t.size ≤ s.size
  no : k.ok = false → isNo k.t = true
theorem ext_size (s : ByteArray) {i q : Nat} (h1 : i ≤ q) (h2 : q ≤ s.size) : i + (s.extract i q).size = q := by
  rw [ByteArray.size_extract]; omega
theorem tokV_ok (s : ByteArray) {p : Nat} (hp : p ≤ s.size) : TokOk s p (tokV s p) := by
  have h1 := le_scan isBlank s p
  have h2 := scan_le (f := isBlank) hp
  unfold tokV
  generalize scan isBlank s p = i at h1 h2
  unfold tokAt
  have e0 : isNo (ByteArray.mk #[]) = true := by simp [isNo]
  have s0 : (ByteArray.mk #[]).size = 0 := rfl
  have no : TokOk s p (Tok.no i) := ⟨h1, by simp [Tok.no]; omega, fun _ => e0⟩
  by_cases hi : i = s.size
  · subst hi
    simp only [beq_self_eq_true, cond_true]
    exact ⟨h1, by simp [s0], fun _ => e0⟩
  · have hib : (i == s.size) = false := by simpa using hi
    simp only [hib, cond_false]
    have one : TokOk s p ⟨s.extract i (i + 1), i, true⟩ := ⟨h1, by simp only; rw [ext_size s (by omega) (by omega)]; omega, by simp⟩
    have nm : ∀ q, i + 1 ≤ q → q ≤ s.size → TokOk s p (nmTok s i q) := by
      intro q hq1 hq2
      unfold nmTok
      cases decide (q - i > 40)
      · exact ⟨h1, by simp only [cond_false]; rw [ext_size s (by omega) hq2]; exact hq2, by simp⟩
      · exact no
    have num : ∀ q x, i + 1 ≤ q → q ≤ s.size → TokOk s p (numTok s i q x) := by
      intro q x hq1 hq2
      simp only [numTok]
      generalize (bif x == 35 then i + 1 else i) = d
      cases q == d
      · cases decide (q - d > 5)
        · cases (decide (q - d > 1) && byteAt s d == 48)
          · exact ⟨h1, by simp only [cond_false]; rw [ext_size s (by omega) hq2]; exact hq2, by simp⟩
          · exact no
        · exact no
      · exact no
    have g1 := le_scan (nmByte · false) s (i + 1)
    have g2 := scan_le (f := (nmByte · false)) (s := s) (i := i + 1) (by omega)
    have g3 := le_scan isDigit s (i + 1)
    have g4 := scan_le (f := isDigit) (s := s) (i := i + 1) (by omega)
    cases byteAt s i == 40
    · cases byteAt s i == 41
      · cases nmByte (byteAt s i) true
        · cases (byteAt s i == 35 || isDigit (byteAt s i))
          · exact no
          · exact num _ _ g3 g4
        · exact nm _ g1 g2
      · exact one
    · exact one

theorem rset_same {σ : Sto} {r : Nat} {s : ByteArray} {st : RS} (h : σ[r]? = some (st.cells s)) : σ.set r (st.cells s) = σ := by
  obtain ⟨_, h⟩ := List.getElem?_eq_some_iff.1 h
  rw [← h]; simp
theorem callK_ret3 {call : CallF} {f : FuncId} {args : List Cell} {σ σ' : Sto} {K : List Cell → Sto → Option Res} {KP : V → Sto → Option Res} {cs : List Cell} (h : call f args σ = some (.ret cs, σ')) (hl : cs.length = 3) :
    callK call f args σ 3 K KP = K cs σ' := callK_ret h hl
theorem tok0 (k : Tok) : (k.cells.getD 0 cellD).1 = .str k.t := rfl
theorem tok1 (k : Tok) : (k.cells.getD 1 cellD).1 = .int .i64 k.at_ := rfl
theorem tok2 (k : Tok) : (k.cells.getD 2 cellD).1 = .bool k.ok := rfl
theorem rset2 {σ : Sto} {r : Nat} {s : ByteArray} {st : RS} (h : σ[r]? = some (st.cells s)) (t : TypeId) (x y : Int) : memSet σ (.ptr t r 2) [(.int .i64 x, false), (.int .i64 y, false)] = some (σ.set r (RS.cells s ⟨st.p, x, y⟩)) := by
  simp only [memSet, h, Option.bind_some]; rfl
theorem rset1 {σ : Sto} {r : Nat} {s : ByteArray} {st : RS} (h : σ[r]? = some (st.cells s)) (t : TypeId) (x : Nat) : memSet σ (.ptr t r 1) [(.int .i64 x, false)] = some (σ.set r (RS.cells s ⟨x, st.c, st.a⟩)) := by
  simp only [memSet, h, Option.bind_some]; rfl

theorem rfail_law {σ : Sto} {r : Nat} {s : ByteArray} {st : RS} (h : σ[r]? = some (st.cells s)) (i : Nat) :
    lim C 20 [(.ptr 39 r 0, false), (.int .i64 i, false)] σ = some (.ret [], σ.set r ((rfailV st i).cells s)) :=
  rfail_lim (n := 0) <| by
    simp only [rfail, rfailF, rd2 h, Option.bind_some, V.asInt, if_true, rset2 h, rfailV]
    cases st.c == 0
    · simp only [cond_false, rset_same h]
    · rfl
theorem set_get {σ : Sto} {r : Nat} {x : List Cell} {y : List Cell} (h : σ[r]? = some x) : (σ.set r y)[r]? = some y := by
  obtain ⟨hl, _⟩ := List.getElem?_eq_some_iff.1 h
  simp [hl]
theorem wrap_add {a b : Nat} (h : a + b < 2 ^ 62) : IntKind.wrap .i64 ((a : Int) + (b : Int)) = ((a + b : Nat) : Int) := by
  rw [← wrap_nat h]; simp
theorem rnext_law {σ : Sto} {r : Nat} {s : ByteArray} {st : RS} (h : σ[r]? = some (st.cells s)) (hs : s.size < 2 ^ 61) (hp : st.p ≤ s.size) :
    lim C 19 [(.ptr 39 r 0, false)] σ = some (.ret [(.str (rnextV s st).1, false)], σ.set r ((rnextV s st).2.cells s)) :=
  rnext_lim (n := 0) <| by
    obtain ⟨hk1, hk2, hk3⟩ := tokV_ok s hp
    have ht := token_law h hs hp
    have hw : IntKind.wrap .i64 (((tokV s st.p).at_ : Int) + ((tokV s st.p).t.size : Int)) = (((tokV s st.p).at_ + (tokV s st.p).t.size : Nat) : Int) := wrap_add (by omega)
    have fin : ∀ st1 : RS, ∀ σ1 : Sto, σ1[r]? = some (st1.cells s) → st1.p = st.p → σ1 = σ.set r (st1.cells s) →
        (bif st1.c != 0 then some (End.ret [(V.str (ByteArray.mk #[]), false)], σ1) else
          (memSet σ1 (.ptr 39 r 1) [(.int .i64 (IntKind.wrap .i64 (((tokV s st.p).at_ : Int) + ((tokV s st.p).t.size : Int))), false)]).bind fun m => some (End.ret [(V.str (tokV s st.p).t, false)], m)) =
        some (.ret [(.str (bif st1.c != 0 then (ByteArray.mk #[], st1) else ((tokV s st.p).t, (⟨(tokV s st.p).at_ + (tokV s st.p).t.size, st1.c, st1.a⟩ : RS))).1, false)],
          σ.set r ((bif st1.c != 0 then (ByteArray.mk #[], st1) else ((tokV s st.p).t, (⟨(tokV s st.p).at_ + (tokV s st.p).t.size, st1.c, st1.a⟩ : RS))).2.cells s)) := by
      intro st1 σ1 h1 hp1 hσ
      rw [hw, rset1 h1]
      cases st1.c != 0
      · simp only [cond_false, Option.bind_some]
        rw [hσ, List.set_set]
      · simp only [cond_true]
        rw [hσ]
    simp only [rnext, rnextF, callK_ret3 ht rfl, tok0, tok1, tok2, V.asBool, V.asStr, V.asInt, if_true, Option.bind_some, rnextV]
    have hf := rfail_law h (tokV s st.p).at_
    have hg : (σ.set r ((rfailV st (tokV s st.p).at_).cells s))[r]? = some ((rfailV st (tokV s st.p).at_).cells s) := set_get h
    have e0 : ((tokV s st.p).t.toList == (ByteArray.mk #[]).toList) = isNo (tokV s st.p).t := rfl
    have hfp : (rfailV st (tokV s st.p).at_).p = st.p := by unfold rfailV; cases st.c == 0 <;> rfl
    rw [e0]
    cases hok : (tokV s st.p).ok
    · simp only [Bool.not_false, cond_true, Bool.true_or, callK_ret0 hf, rd2 hg, Option.bind_some, V.asInt, if_true]
      exact fin _ _ hg hfp rfl
    · simp only [Bool.not_true, cond_false, Bool.false_or]
      cases hno : isNo (tokV s st.p).t
      · simp only [cond_false, rd2 h, Option.bind_some, V.asInt, if_true]
        exact fin _ _ h rfl (rset_same h).symm
      · simp only [cond_true, callK_ret0 hf, rd2 hg, Option.bind_some, V.asInt, if_true]
        exact fin _ _ hg hfp rfl
theorem rtake_law {σ : Sto} {r : Nat} {s : ByteArray} {st : RS} (h : σ[r]? = some (st.cells s)) (hs : s.size < 2 ^ 61) (hp : st.p ≤ s.size) (w : ByteArray) :
    lim C 21 [(.ptr 39 r 0, false), (.str w, false)] σ = some (.ret [], σ.set r ((rtakeV s st w).cells s)) :=
  rtake_lim (n := 0) <| by
    obtain ⟨hk1, hk2, hk3⟩ := tokV_ok s hp
    have ht := token_law h hs hp
    have hw : IntKind.wrap .i64 (((tokV s st.p).at_ : Int) + ((tokV s st.p).t.size : Int)) = (((tokV s st.p).at_ + (tokV s st.p).t.size : Nat) : Int) := wrap_add (by omega)
    have fin : ∀ st1 : RS, ∀ σ1 : Sto, σ1[r]? = some (st1.cells s) → σ1 = σ.set r (st1.cells s) →
        (bif st1.c == 0 then
          (memSet σ1 (.ptr 39 r 1) [(.int .i64 (IntKind.wrap .i64 (((tokV s st.p).at_ : Int) + ((tokV s st.p).t.size : Int))), false)]).bind fun m => some (End.ret [], m) else some (End.ret [], σ1)) =
        some (.ret [], σ.set r ((bif st1.c == 0 then (⟨(tokV s st.p).at_ + (tokV s st.p).t.size, st1.c, st1.a⟩ : RS) else st1).cells s)) := by
      intro st1 σ1 h1 hσ
      rw [hw, rset1 h1]
      cases st1.c == 0
      · simp only [cond_false]
        rw [hσ]
      · simp only [cond_true, Option.bind_some]
        rw [hσ, List.set_set]
    simp only [rtake, rtakeF, callK_ret3 ht rfl, tok0, tok1, tok2, V.asBool, V.asStr, V.asInt, if_true, Option.bind_some, rtakeV]
    have hf := rfail_law h (tokV s st.p).at_
    have hg : (σ.set r ((rfailV st (tokV s st.p).at_).cells s))[r]? = some ((rfailV st (tokV s st.p).at_).cells s) := set_get h
    cases hok : (tokV s st.p).ok
    · simp only [Bool.not_false, cond_true, Bool.true_or, callK_ret0 hf, rd2 hg, Option.bind_some, V.asInt, if_true]
      exact fin _ _ hg rfl
    · simp only [Bool.not_true, cond_false, Bool.false_or]
      cases hno : ((tokV s st.p).t.toList == w.toList)
      · simp only [Bool.not_false, cond_true, callK_ret0 hf, rd2 hg, Option.bind_some, V.asInt, if_true]
        exact fin _ _ hg rfl
      · simp only [Bool.not_true, cond_false, rd2 h, Option.bind_some, V.asInt, if_true]
        exact fin _ _ h (rset_same h).symm
theorem isName_law (t : ByteArray) (σ : Sto) : lim C 18 [(.str t, false)] σ = some (.ret [(.bool (isNameV t), false)], σ) :=
  isName_lim (n := 0) <| by
    have e0 : (t.toList == (ByteArray.mk #[]).toList) = isNo t := rfl
    simp only [isName, isNameF, e0, isNameV]
    cases hno : isNo t
    · have := isNo_size hno
      have hz : decide ((0 : Int) < (t.size : Int)) = true := by simp; omega
      have hn := nameByte_law (byteAt t 0) true σ
      simp only [Bool.not_false, cond_true, hz, Int.toNat_zero, callK_ret1 hn, Bool.true_and]
      rfl
    · rfl
theorem rdone_law {σ : Sto} {r : Nat} {s : ByteArray} {st : RS} (h : σ[r]? = some (st.cells s)) (hs : s.size < 2 ^ 61) (hp : st.p ≤ s.size) :
    lim C 12 [(.ptr 39 r 0, false)] σ = some (.ret [(.agg [.int .i64 (rdoneV s st).c, .int .i64 (rdoneV s st).a], false)], σ.set r ((rdoneV s st).cells s)) :=
  rdone_lim (n := 0) <| by
    have ht := token_law h hs hp
    have fin : ∀ st1 : RS, ∀ σ1 : Sto, σ1[r]? = some (st1.cells s) → σ1 = σ.set r (st1.cells s) →
        ((memGet σ1 (V.ptr 39 r 2) true 2).bind fun m => (grd (V.fits m true 2)).bind fun _ => some (End.ret [((V.agg [(V.cell m 0), (V.cell m 1)]), false)], σ1)) =
        some (.ret [(.agg [.int .i64 st1.c, .int .i64 st1.a], false)], σ.set r (st1.cells s)) := by
      intro st1 σ1 h1 hσ
      have : memGet σ1 (V.ptr 39 r 2) true 2 = some (.agg [.int .i64 st1.c, .int .i64 st1.a]) := by simp only [memGet, h1, Option.bind_some]; rfl
      rw [this, hσ]; rfl
    simp only [rdone, rdoneF, callK_ret3 ht rfl, tok0, tok1, tok2, V.asBool, V.asStr, Option.bind_some, rdoneV]
    have hf := rfail_law h (tokV s st.p).at_
    have hg : (σ.set r ((rfailV st (tokV s st.p).at_).cells s))[r]? = some ((rfailV st (tokV s st.p).at_).cells s) := set_get h
    have e0 : ((tokV s st.p).t.toList == (ByteArray.mk #[]).toList) = isNo (tokV s st.p).t := rfl
    rw [e0]
    cases hok : (tokV s st.p).ok
    · simp only [Bool.not_false, cond_true, Bool.true_or, callK_ret0 hf]
      exact fin _ _ hg rfl
    · cases hno : isNo (tokV s st.p).t
      · simp only [Bool.not_true, cond_false, Bool.false_or, Bool.not_false, cond_true, callK_ret0 hf]
        exact fin _ _ hg rfl
      · simp only [Bool.not_true, cond_false, Bool.false_or]
        exact fin _ _ h (rset_same h).symm
end Go.Ab.Mk
end
section
namespace Go.Ab.Mk
open Go.Proofs Go.Ab

def strIs (t : ByteArray) (l : List UInt8) : Bool := t.toList == (ba l).toList
def lv1 (rec : RS → Lv × RS) (s : ByteArray) (f : Lv → Lv) (st : RS) : Lv × RS := (f (rec st).1, rtakeV s (rec st).2 (ba [41]))
def lv2 (rec : RS → Lv × RS) (s : ByteArray) (f : Lv → Lv → Lv) (st : RS) : Lv × RS := (f (rec st).1 (rec (rec st).2).1, rtakeV s (rec (rec st).2).2 (ba [41]))
def lvP (rec : RS → Lv × RS) (s : ByteArray) (st : RS) : Lv × RS :=
  bif strIs (tokV s st.p).t [115] then lv1 rec s .succ (rnextV s st).2 else
  bif strIs (tokV s st.p).t [109, 97, 120] then lv2 rec s .max (rnextV s st).2 else
  bif strIs (tokV s st.p).t [105, 109, 97, 120] then lv2 rec s .imax (rnextV s st).2 else (.zero, rfailV st (tokV s st.p).at_)
/-- The next level, to a depth. -/
def rlevelV : Nat → ByteArray → RS → Lv × RS
  | 0, _, st => (.zero, st)
  | n + 1, s, st =>
    bif st.c != 0 then (.zero, st) else
    bif strIs (tokV s st.p).t [48] then (.zero, (rnextV s st).2) else
    bif isNameV (tokV s st.p).t then (.param (tokV s st.p).t, (rnextV s st).2) else
    bif strIs (tokV s st.p).t [40] then lvP (rlevelV n s) s (rnextV s st).2 else (.zero, rfailV st (tokV s st.p).at_)

theorem rfail_p (st : RS) (i : Nat) : (rfailV st i).p = st.p := by unfold rfailV; cases st.c == 0 <;> rfl
theorem rfail_c (st : RS) (i : Nat) : (rfailV st i).c ≠ 0 := by
  unfold rfailV
  cases h : st.c == 0
  · simpa using h
  · simp
theorem rnext_stuck {s : ByteArray} {st : RS} (h : st.c ≠ 0) : rnextV s st = (ByteArray.mk #[], st) := by
  have h1 : (st.c == 0) = false := by simpa using h
  have h2 : (st.c != 0) = true := by simpa using h
  unfold rnextV rfailV
  simp only [h1, cond_false]
  cases (!(tokV s st.p).ok || isNo (tokV s st.p).t) <;> simp only [cond_true, cond_false, h2]
theorem rnext_p {s : ByteArray} {st : RS} (hp : st.p ≤ s.size) : (rnextV s st).2.p ≤ s.size ∧ ((rnextV s st).2.c = 0 → st.c = 0 ∧ isNo (tokV s st.p).t = false ∧ (rnextV s st).2.p = (tokV s st.p).at_ + (tokV s st.p).t.size) := by
  obtain ⟨k1, k2, k3⟩ := tokV_ok s hp
  by_cases hc : st.c = 0
  · unfold rnextV rfailV
    simp only [hc, beq_self_eq_true, cond_true, bne_self_eq_false]
    cases hx : (!(tokV s st.p).ok || isNo (tokV s st.p).t)
    · simp only [cond_false, hc, bne_self_eq_false]
      simp only [Bool.or_eq_false_iff] at hx
      exact ⟨by omega, fun _ => ⟨trivial, hx.2, by first | rfl | trivial⟩⟩
    · simp only [cond_true]
      exact ⟨hp, fun h => by simp at h⟩
  · rw [rnext_stuck hc]
    exact ⟨hp, fun h => absurd h hc⟩
theorem rtake_p {s : ByteArray} {st : RS} {w : ByteArray} (hp : st.p ≤ s.size) : (rtakeV s st w).p ≤ s.size ∧ ((rtakeV s st w).c = 0 → st.c = 0 ∧ (tokV s st.p).t.toList = w.toList ∧ (rtakeV s st w).p = (tokV s st.p).at_ + (tokV s st.p).t.size) := by
  obtain ⟨k1, k2, k3⟩ := tokV_ok s hp
  by_cases hc : st.c = 0
  · unfold rtakeV rfailV
    simp only [hc, beq_self_eq_true, cond_true]
    cases hx : (!(tokV s st.p).ok || !((tokV s st.p).t.toList == w.toList))
    · simp only [cond_false, hc, beq_self_eq_true, cond_true]
      simp only [Bool.or_eq_false_iff] at hx
      exact ⟨by omega, fun _ => ⟨trivial, by simpa using hx.2, by first | rfl | trivial⟩⟩
    · simp only [cond_true]
      exact ⟨hp, fun h => by simp at h⟩
  · have h1 : (st.c == 0) = false := by simpa using hc
    have : rtakeV s st w = st := by
      unfold rtakeV rfailV
      simp only [h1, cond_false]
      cases (!(tokV s st.p).ok || !((tokV s st.p).t.toList == w.toList)) <;> simp only [cond_true, cond_false, h1]
    rw [this]
    exact ⟨hp, fun h => absurd h hc⟩
theorem rlevel_stuck {n : Nat} {s : ByteArray} {st : RS} (h : st.c ≠ 0) : rlevelV n s st = (.zero, st) := by
  cases n with
  | zero => rfl
  | succ n =>
    have h2 : (st.c != 0) = true := by simpa using h
    rw [rlevelV, h2]; rfl

theorem strIs_size {t : ByteArray} {l : List UInt8} (h : strIs t l = true) : t.size = l.length := by
  rw [strIs, beq_iff_eq, ByteArray.toList_eq, ByteArray.toList_eq] at h
  have := congrArg List.length h
  show t.data.size = l.length
  rw [← Array.length_toList, this]
  simp [ba]
/-- What a level takes of the text; how much it prints. -/
structure Took (s : ByteArray) (st : RS) (x : Lv × RS) : Prop where
  le : x.2.p ≤ s.size
  ok : x.2.c = 0 → st.c = 0 ∧ (printL x.1).length ≤ 2 * (x.2.p - st.p) ∧ x.1.size ≤ x.2.p - st.p ∧ st.p < x.2.p ∧ printL x.1 ≠ []
theorem rlevel_took (s : ByteArray) : ∀ (n : Nat) (st : RS), st.p ≤ s.size → (st.c ≠ 0 ∨ s.size - st.p < n) → Took s st (rlevelV n s st)
  | 0, st, hp, hn => ⟨hp, fun h => by rcases hn with hn | hn; exact absurd h hn; omega⟩
  | n + 1, st, hp, hn => by
    by_cases hc : st.c = 0
    case neg => rw [rlevel_stuck hc]; exact ⟨hp, fun h => absurd h hc⟩
    obtain ⟨k1, k2, k3⟩ := tokV_ok s hp
    obtain ⟨q1, q2⟩ := rnext_p (st := st) hp
    have hc' : (st.c != 0) = false := by simp [hc]
    simp only [rlevelV, hc', cond_false]
    cases h0 : strIs (tokV s st.p).t [48]
    case true =>
      have z := strIs_size h0
      simp only [cond_true, cond_false]
      refine ⟨q1, fun h => ?_⟩
      obtain ⟨_, _, e⟩ := q2 h
      simp only [List.length_cons, List.length_nil] at z
      refine ⟨hc, ?_, ?_, ?_, by simp [printL]⟩ <;> simp only [e, printL, Lv.size, List.length_cons, List.length_nil] <;> omega
    cases h1 : isNameV (tokV s st.p).t
    case true =>
      simp only [cond_true, cond_false]
      refine ⟨q1, fun h => ?_⟩
      obtain ⟨_, e1, e⟩ := q2 h
      have z := isNo_size e1
      have zz : (tokV s st.p).t.data.toList.length = (tokV s st.p).t.size := Array.length_toList
      refine ⟨hc, ?_, ?_, ?_, ?_⟩
      · simp only [e, printL, zz]; omega
      · simp only [e, Lv.size]; omega
      · simp only [e]; omega
      · simp only [printL]; intro hh; rw [hh] at zz; simp at zz; omega
    cases h2 : strIs (tokV s st.p).t [40]
    case false =>
      simp only [cond_false]
      exact ⟨by rw [rfail_p]; exact hp, fun h => absurd h (rfail_c _ _)⟩
    have z2 := strIs_size h2
    simp only [List.length_cons, List.length_nil] at z2
    simp only [cond_true, cond_false]
    obtain ⟨r1, r2⟩ := rnext_p (s := s) (st := (rnextV s st).2) q1
    have hn2 : (rnextV s (rnextV s st).2).2.c ≠ 0 ∨ s.size - (rnextV s (rnextV s st).2).2.p < n := by
      by_cases hz : (rnextV s (rnextV s st).2).2.c = 0
      · obtain ⟨e1, e2, e3⟩ := r2 hz
        obtain ⟨_, _, e4⟩ := q2 e1
        obtain ⟨m1, _, _⟩ := tokV_ok s q1
        rcases hn with hn | hn
        · exact absurd hc hn
        · have := isNo_size e2; right; omega
      · exact .inl hz
    have tx := rlevel_took s n _ r1 hn2
    have hn3 : (rlevelV n s (rnextV s (rnextV s st).2).2).2.c ≠ 0 ∨ s.size - (rlevelV n s (rnextV s (rnextV s st).2).2).2.p < n := by
      by_cases hz : (rlevelV n s (rnextV s (rnextV s st).2).2).2.c = 0
      · obtain ⟨e1, _, _, e2, _⟩ := tx.ok hz
        rcases hn2 with h | h
        · exact absurd e1 h
        · right; omega
      · exact .inl hz
    have ty := rlevel_took s n _ tx.le hn3
    generalize hX : rlevelV n s (rnextV s (rnextV s st).2).2 = X at tx ty hn3
    generalize hY : rlevelV n s X.2 = Y at ty
    have b41 : (ba [41]).toList = [41] := by rw [ByteArray.toList_eq]; rfl
    have one : ∀ (f : Lv → Lv) (w : List UInt8), (∀ l, (printL (f l)).length = (printL l).length + w.length + 3 ∧ (f l).size = l.size + 1 ∧ printL (f l) ≠ []) → strIs (tokV s (rnextV s st).2.p).t w = true → w.length ≥ 1 → Took s st (f X.1, rtakeV s X.2 (ba [41])) := by
      intro f w hf hw hwl
      obtain ⟨t1, t2⟩ := rtake_p (w := ba [41]) tx.le
      refine ⟨t1, fun h => ?_⟩
      obtain ⟨u1, u2, u3⟩ := t2 h
      obtain ⟨v1, v2, v3, v4, v5⟩ := tx.ok u1
      obtain ⟨w1, w2, w3⟩ := r2 v1
      obtain ⟨x1, x2, x3⟩ := q2 w1
      obtain ⟨m1, _, _⟩ := tokV_ok s q1
      obtain ⟨m2, _, _⟩ := tokV_ok s tx.le
      have z4 := strIs_size hw
      have z5 : (tokV s X.2.p).t.size = 1 := by
        have := strIs_size (l := [41]) (t := (tokV s X.2.p).t) (by simp [strIs, u2])
        simpa using this
      obtain ⟨g1, g2, g3⟩ := hf X.1
      simp only
      refine ⟨hc, ?_, ?_, ?_, g3⟩ <;> (try rw [g1]) <;> (try rw [g2]) <;> omega
    have two : ∀ (f : Lv → Lv → Lv) (w : List UInt8), (∀ l m, (printL (f l m)).length = (printL l).length + (printL m).length + w.length + 4 ∧ (f l m).size = l.size + m.size + 1 ∧ printL (f l m) ≠ []) → strIs (tokV s (rnextV s st).2.p).t w = true → w.length ≥ 1 → Took s st (f X.1 Y.1, rtakeV s Y.2 (ba [41])) := by
      intro f w hf hw hwl
      obtain ⟨t1, t2⟩ := rtake_p (w := ba [41]) ty.le
      refine ⟨t1, fun h => ?_⟩
      obtain ⟨u1, u2, u3⟩ := t2 h
      obtain ⟨y1, y2, y3, y4, y5⟩ := ty.ok u1
      obtain ⟨v1, v2, v3, v4, v5⟩ := tx.ok y1
      obtain ⟨w1, w2, w3⟩ := r2 v1
      obtain ⟨x1, x2, x3⟩ := q2 w1
      obtain ⟨m1, _, _⟩ := tokV_ok s q1
      obtain ⟨m2, _, _⟩ := tokV_ok s ty.le
      have z4 := strIs_size hw
      have z5 : (tokV s Y.2.p).t.size = 1 := by
        have := strIs_size (l := [41]) (t := (tokV s Y.2.p).t) (by simp [strIs, u2])
        simpa using this
      obtain ⟨g1, g2, g3⟩ := hf X.1 Y.1
      simp only
      refine ⟨hc, ?_, ?_, ?_, g3⟩ <;> (try rw [g1]) <;> (try rw [g2]) <;> omega
    simp only [lvP, lv1, lv2, hX, hY]
    cases h3 : strIs (tokV s (rnextV s st).2.p).t [115]
    case true => exact one .succ [115] (fun l => ⟨by simp [printL] <;> omega, rfl, by simp [printL]⟩) h3 (by simp)
    cases h4 : strIs (tokV s (rnextV s st).2.p).t [109, 97, 120]
    case true => exact two .max [109, 97, 120] (fun l m => ⟨by simp [printL]; omega, rfl, by simp [printL]⟩) h4 (by simp)
    cases h5 : strIs (tokV s (rnextV s st).2.p).t [105, 109, 97, 120]
    case true => exact two .imax [105, 109, 97, 120] (fun l m => ⟨by simp [printL]; omega, rfl, by simp [printL]⟩) h5 (by simp)
    exact ⟨by simp only [cond_false]; rw [rfail_p]; exact q1, fun h => absurd h (by simp only [cond_false]; exact rfail_c _ _)⟩

theorem lv0 : V.agg [.int .i64 0, .str (ByteArray.mk #[]), .slice 3 29 []] = V.agg [.int .i64 Lv.zero.kind, .str Lv.zero.name, .slice 3 29 Lv.zero.args] := rfl
theorem rlevel_law {r : Nat} {s : ByteArray} (hs : s.size < 2 ^ 61) : ∀ (n : Nat) (st : RS) (σ : Sto), σ[r]? = some (st.cells s) → st.p ≤ s.size → (st.c ≠ 0 ∨ s.size - st.p < n) → 0 < n →
    lim C 11 [(.ptr 39 r 0, false)] σ = some (.ret [(.agg [.int .i64 (rlevelV n s st).1.kind, .str (rlevelV n s st).1.name, .slice 3 29 (rlevelV n s st).1.args], false)], σ.set r ((rlevelV n s st).2.cells s))
  | 0, st, σ, h, hp, hn, h0 => by omega
  | n + 1, st, σ, h, hp, hn, _ => rlevel_lim (n := 0) <| by
    have ht := token_law h hs hp
    have hi := isName_law (tokV s st.p).t σ
    simp only [rlevel, rlevelF, callK_ret3 ht rfl, tok0, tok1, tok2, callK_ret1 hi, rd2 h, V.asInt, V.asStr, if_true, Option.bind_some, List.getD_cons_zero, V.asBool]
    by_cases hc : st.c = 0
    case neg =>
      have h2 : (st.c != 0) = true := by simpa using hc
      rw [rlevel_stuck hc]
      simp only [h2, cond_true, rset_same h]
      rfl
    obtain ⟨q1, q2⟩ := rnext_p (st := st) hp
    obtain ⟨r1, r2⟩ := rnext_p (s := s) (st := (rnextV s st).2) q1
    have hc' : (st.c != 0) = false := by simp [hc]
    have hnx := rnext_law h hs hp
    have hg1 : (σ.set r ((rnextV s st).2.cells s))[r]? = some ((rnextV s st).2.cells s) := set_get h
    have e48 : ∀ t : ByteArray, (t.toList == (ByteArray.mk #[48]).toList) = strIs t [48] := fun _ => rfl
    have e40 : ∀ t : ByteArray, (t.toList == (ByteArray.mk #[40]).toList) = strIs t [40] := fun _ => rfl
    have e115 : ∀ t : ByteArray, (t.toList == (ByteArray.mk #[115]).toList) = strIs t [115] := fun _ => rfl
    have emax : ∀ t : ByteArray, (t.toList == (ByteArray.mk #[109, 97, 120]).toList) = strIs t [109, 97, 120] := fun _ => rfl
    have eimax : ∀ t : ByteArray, (t.toList == (ByteArray.mk #[105, 109, 97, 120]).toList) = strIs t [105, 109, 97, 120] := fun _ => rfl
    have e41 : ByteArray.mk #[41] = ba [41] := rfl
    have hr1 : room (0 + 1) = true := by decide
    have hr2 : room (1 + 1) = true := by decide
    simp only [hc', cond_false, callK_ret1 hnx, e48, e40, e115, emax, eimax, e41, hr1, hr2]
    have ht2 := token_law hg1 hs q1
    simp only [callK_ret3 ht2 rfl, tok0, tok1, V.asStr, Option.bind_some]
    have hnx2 := rnext_law hg1 hs q1
    rw [List.set_set] at hnx2
    have hg2 : (σ.set r ((rnextV s (rnextV s st).2).2.cells s))[r]? = some ((rnextV s (rnextV s st).2).2.cells s) := set_get h
    have hf1 := rfail_law h (tokV s st.p).at_
    have hf2 := rfail_law hg1 (tokV s (rnextV s st).2.p).at_
    rw [List.set_set] at hf2
    simp only [callK_ret1 hnx2, callK_ret0 hf1, callK_ret0 hf2]
    simp only [rlevelV, hc', cond_false]
    cases h0 : strIs (tokV s st.p).t [48]
    case true => rfl
    cases h1 : isNameV (tokV s st.p).t
    case true => rfl
    cases h2 : strIs (tokV s st.p).t [40]
    case false => rfl
    simp only [cond_true, cond_false]
    have z2 := strIs_size h2
    simp only [List.length_cons, List.length_nil] at z2
    obtain ⟨k1, k2, k3⟩ := tokV_ok s hp
    have hn2 : (rnextV s (rnextV s st).2).2.c ≠ 0 ∨ s.size - (rnextV s (rnextV s st).2).2.p < n := by
      by_cases hz : (rnextV s (rnextV s st).2).2.c = 0
      · obtain ⟨e1, e2, e3⟩ := r2 hz
        obtain ⟨_, _, e4⟩ := q2 e1
        obtain ⟨m1, _, _⟩ := tokV_ok s q1
        rcases hn with hn | hn
        · exact absurd hc hn
        · have := isNo_size e2; right; omega
      · exact .inl hz
    have hn0 : 0 < n := by
      rcases hn with hn | hn
      · exact absurd hc hn
      · omega
    have tx := rlevel_took s n _ r1 hn2
    have hn3 : (rlevelV n s (rnextV s (rnextV s st).2).2).2.c ≠ 0 ∨ s.size - (rlevelV n s (rnextV s (rnextV s st).2).2).2.p < n := by
      by_cases hz : (rlevelV n s (rnextV s (rnextV s st).2).2).2.c = 0
      · obtain ⟨e1, _, _, e2, _⟩ := tx.ok hz
        rcases hn2 with h | h
        · exact absurd e1 h
        · right; omega
      · exact .inl hz
    have ty := rlevel_took s n _ tx.le hn3
    have hx := rlevel_law hs n _ _ hg2 r1 hn2 hn0
    rw [List.set_set] at hx
    have hg3 : (σ.set r ((rlevelV n s (rnextV s (rnextV s st).2).2).2.cells s))[r]? = some ((rlevelV n s (rnextV s (rnextV s st).2).2).2.cells s) := set_get h
    have hy := rlevel_law hs n _ _ hg3 tx.le hn3 hn0
    rw [List.set_set] at hy
    simp only [lvP, lv1, lv2]
    generalize rlevelV n s (rnextV s (rnextV s st).2).2 = X at tx hx hg3 hn3 hy ty ⊢
    generalize rlevelV n s X.2 = Y at hy ty ⊢
    have hg4 : (σ.set r (Y.2.cells s))[r]? = some (Y.2.cells s) := set_get h
    have htx := rtake_law hg3 hs tx.le (ba [41])
    have hty := rtake_law hg4 hs ty.le (ba [41])
    rw [List.set_set] at htx hty
    simp only [callK_ret1 hx, callK_ret1 hy, callK_ret0 htx, callK_ret0 hty, List.getD_cons_zero, fits_lv, cell_lv, grd, Bool.and_self, cond_true, Option.bind_some]
    cases h3 : strIs (tokV s (rnextV s st).2.p).t [115]
    case true => rfl
    cases h4 : strIs (tokV s (rnextV s st).2.p).t [109, 97, 120]
    case true => rfl
    cases h5 : strIs (tokV s (rnextV s st).2.p).t [105, 109, 97, 120]
    case true => rfl
    rfl

/-- What is parsed: the level, the fault's code and place. -/
def parseV (s : ByteArray) : Lv × Int × Int :=
  bif decide ((s.size : Int) > 20000) then (.zero, 2, 0) else
  let x := rlevelV (s.size + 1) s ⟨0, 0, 0⟩
  let d := rdoneV s x.2
  bif d.c != 0 then (.zero, d.c, d.a) else (x.1, d.c, d.a)
theorem parseLevel_law (s : ByteArray) (hs : s.size < 2 ^ 61) (σ : Sto) : ∃ σ', lim C 5 [(.str s, false)] σ = some (.ret [(.agg [.int .i64 (parseV s).1.kind, .str (parseV s).1.name, .slice 3 29 (parseV s).1.args], false), (.agg [.int .i64 (parseV s).2.1, .int .i64 (parseV s).2.2], false)], σ ++ σ') := by
  cases hb : decide ((s.size : Int) > 20000)
  · have h : (σ ++ [RS.cells s ⟨0, 0, 0⟩])[σ.length]? = some (RS.cells s ⟨0, 0, 0⟩) := by simp
    have h1 := rlevel_law hs (s.size + 1) ⟨0, 0, 0⟩ _ h (by simp) (.inr (by simp)) (by omega)
    have tk := rlevel_took s (s.size + 1) ⟨0, 0, 0⟩ (by simp) (.inr (by simp))
    have hg : ∀ x : List Cell, (σ ++ [RS.cells s ⟨0, 0, 0⟩]).set σ.length x = σ ++ [x] := fun x => by rw [List.set_append_right _ _ (Nat.le_refl _)]; simp
    rw [hg] at h1
    have h2' : (σ ++ [(rlevelV (s.size + 1) s ⟨0, 0, 0⟩).2.cells s])[σ.length]? = some ((rlevelV (s.size + 1) s ⟨0, 0, 0⟩).2.cells s) := by simp
    have h2 := rdone_law h2' hs tk.le
    have hg2 : ∀ x : List Cell, (σ ++ [(rlevelV (s.size + 1) s ⟨0, 0, 0⟩).2.cells s]).set σ.length x = σ ++ [x] := fun x => by rw [List.set_append_right _ _ (Nat.le_refl _)]; simp
    rw [hg2] at h2
    refine ⟨[(rdoneV s (rlevelV (s.size + 1) s ⟨0, 0, 0⟩).2).cells s], parseLevel_lim (n := 0) ?_⟩
    have e0 : [((V.str s), false), ((V.int .i64 (0 : Int)), false), ((V.int .i64 (0 : Int)), false), ((V.int .i64 (0 : Int)), false)] = RS.cells s ⟨0, 0, 0⟩ := rfl
    simp only [parseLevel, parseLevelF, hb, cond_false, e0, callK_ret1 h1, List.getD_cons_zero, fits_lv, grd, cond_true, Option.bind_some, callK_ret1 h2, parseV]
    cases hd : (rdoneV s (rlevelV (s.size + 1) s ⟨0, 0, 0⟩).2).c != 0
    · simp [V.fits, V.asInt, V.cell, hd]
    · simp [V.fits, V.asInt, V.cell, hd]
      first | rfl | exact ⟨rfl, rfl, rfl⟩
  · refine ⟨[], parseLevel_lim (n := 0) ?_⟩
    simp only [parseLevel, parseLevelF, hb, cond_true, parseV, List.append_nil]
    rfl
theorem parseV_ok {s : ByteArray} (h : (parseV s).2.1 = 0) : (printL (parseV s).1).length ≤ 2 * s.size ∧ (parseV s).1.size ≤ s.size ∧ printL (parseV s).1 ≠ [] ∧ s.size ≤ 20000 := by
  unfold parseV at *
  cases hb : decide ((s.size : Int) > 20000)
  · rw [hb] at h
    have tk := rlevel_took s (s.size + 1) ⟨0, 0, 0⟩ (by simp) (.inr (by simp))
    simp only [cond_false] at h ⊢
    have hb' : s.size ≤ 20000 := by have := of_decide_eq_false hb; omega
    cases hd : (rdoneV s (rlevelV (s.size + 1) s ⟨0, 0, 0⟩).2).c != 0
    · rw [hd] at h
      simp only [cond_false] at h ⊢
      have hc : (rlevelV (s.size + 1) s ⟨0, 0, 0⟩).2.c = 0 := by
        have hd' : (rdoneV s (rlevelV (s.size + 1) s ⟨0, 0, 0⟩).2).c = 0 := h
        simp only [rdoneV] at hd'
        cases hx : (!(tokV s (rlevelV (s.size + 1) s ⟨0, 0, 0⟩).2.p).ok || !isNo (tokV s (rlevelV (s.size + 1) s ⟨0, 0, 0⟩).2.p).t)
        · rw [hx] at hd'; exact hd'
        · rw [hx] at hd'; exact absurd hd' (rfail_c _ _)
      obtain ⟨_, a1, a2, a3, a4⟩ := tk.ok hc
      have := tk.le
      simp only at a1 a2 a3
      exact ⟨by omega, by omega, a4, hb'⟩
    · rw [hd] at h
      simp only [cond_true] at h
      rw [h] at hd; simp at hd
  · rw [hb] at h
    simp at h
end Go.Ab.Mk
end
section
namespace Go.Ab.Mk
open Go.Proofs Go.Ab

theorem tl_inj {s t : ByteArray} (h : s.toList = t.toList) : s = t := by
  rw [ByteArray.toList_eq, ByteArray.toList_eq] at h
  apply ByteArray.ext
  exact Array.toList_inj.1 h
theorem has_iff {s : ByteArray} {ps : List ByteArray} : has s ps = true ↔ s ∈ ps := by
  unfold has
  rw [List.any_eq_true]
  constructor
  · rintro ⟨x, hx, he⟩
    have := tl_inj (beq_iff_eq.1 he)
    rw [← this]; exact hx
  · intro h
    exact ⟨s, h, by simp⟩
theorem rparams_mem {s : ByteArray} : ∀ {l : Lv} {ps : List ByteArray}, s ∈ rparamsV l ps ↔ s ∈ ps ∨ s ∈ l.pars
  | .param t, ps => by
    simp only [rparamsV, Lv.pars]
    cases h : has t ps with
    | true => simp only [cond_true]; exact ⟨fun h => .inl h, fun h' => by rcases h' with h' | h'; exact h'; rw [List.mem_singleton] at h'; subst h'; exact has_iff.1 h⟩
    | false => simp
  | .zero, ps => by simp [rparamsV, Lv.pars]
  | .succ l, ps => by simp only [rparamsV, Lv.pars]; exact rparams_mem
  | .max a b, ps => by simp only [rparamsV, Lv.pars, rparams_mem (l := b), rparams_mem (l := a), List.mem_append, or_assoc]
  | .imax a b, ps => by simp only [rparamsV, Lv.pars, rparams_mem (l := b), rparams_mem (l := a), List.mem_append, or_assoc]
theorem rparams_nodup : ∀ {l : Lv} {ps : List ByteArray}, ps.Nodup → (rparamsV l ps).Nodup
  | .param t, ps, h => by
    simp only [rparamsV]
    cases ht : has t ps with
    | true => exact h
    | false =>
      simp only [cond_false]
      refine List.nodup_append.2 ⟨h, by simp, fun a ha b hb => ?_⟩
      rw [List.mem_singleton] at hb
      subst hb
      rintro rfl
      rw [has_iff.2 ha] at ht
      simp at ht
  | .zero, ps, h => h
  | .succ l, ps, h => rparams_nodup (l := l) h
  | .max a b, ps, h => rparams_nodup (l := b) (rparams_nodup (l := a) h)
  | .imax a b, ps, h => rparams_nodup (l := b) (rparams_nodup (l := a) h)
theorem nodup_len {α : Type} [DecidableEq α] : ∀ {l m : List α}, l.Nodup → (∀ x ∈ l, x ∈ m) → l.length ≤ m.length
  | [], _, _, _ => by simp
  | x :: l, m, h, hs => by
    have hx := hs x (List.mem_cons_self ..)
    rw [List.nodup_cons] at h
    have := nodup_len (l := l) (m := m.erase x) h.2 (fun y hy => by
      have hne : y ≠ x := fun e => h.1 (e ▸ hy)
      exact (List.mem_erase_of_ne hne).2 (hs y (List.mem_cons_of_mem _ hy)))
    rw [List.length_erase_of_mem hx] at this
    have hpos : 0 < m.length := List.length_pos_of_mem hx
    simp only [List.length_cons]
    omega
/-- The list that the reference goes by is as long as that which the statement asks of. -/
theorem params_len (a b : Lv) : (rparamsV b (rparamsV a [])).length ≤ (rparamsV a (rparamsV b [])).length :=
  nodup_len (rparams_nodup (rparams_nodup List.nodup_nil)) fun x hx => by
    rw [rparams_mem, rparams_mem] at hx ⊢
    simp only [List.not_mem_nil, false_or] at hx ⊢
    exact hx.symm

theorem val_le {v : ByteArray → Nat} {M : Nat} : ∀ {l : Lv}, (∀ s ∈ l.pars, v s ≤ M) → l.val v ≤ M + l.sucs
  | .zero, _ => by simp [Lv.val]
  | .succ l, h => by have := val_le (l := l) h; simp only [Lv.val, Lv.sucs]; omega
  | .max a b, h => by
    have h1 := val_le (l := a) fun s hs => h s (List.mem_append_left _ hs)
    have h2 := val_le (l := b) fun s hs => h s (List.mem_append_right _ hs)
    simp only [Lv.val, Lv.sucs]
    exact Nat.max_le.2 ⟨by omega, by omega⟩
  | .imax a b, h => by
    have h1 := val_le (l := a) fun s hs => h s (List.mem_append_left _ hs)
    have h2 := val_le (l := b) fun s hs => h s (List.mem_append_right _ hs)
    simp only [Lv.val, Lv.sucs]
    split
    · omega
    · exact Nat.max_le.2 ⟨by omega, by omega⟩
  | .param s, h => by have := h s (by simp [Lv.pars]); simp only [Lv.val, Lv.sucs]; omega
theorem max_cond (x y : Nat) : (bif decide ((y : Int) > (x : Int)) then (y : Int) else (x : Int)) = ((Nat.max x y : Nat) : Int) := by
  cases h : decide ((y : Int) > (x : Int)) with
  | true =>
    have := of_decide_eq_true h
    rw [show Nat.max x y = y from Nat.max_eq_right (by omega)]; rfl
  | false =>
    have := of_decide_eq_false h
    rw [show Nat.max x y = x from Nat.max_eq_left (by omega)]; rfl
theorem rworth_val {P : List ByteArray} {ns : List Int} {v : ByteArray → Nat} {M : Nat} : ∀ {l : Lv}, (∀ s ∈ l.pars, pval s P ns = (v s : Int)) → (∀ s ∈ l.pars, v s ≤ M) → M + l.sucs < 2 ^ 61 → rworthV P ns l = ((l.val v : Nat) : Int)
  | .zero, _, _, _ => rfl
  | .succ l, h, hb, hm => by
    simp only [Lv.sucs] at hm
    have := val_le (l := l) hb
    rw [rworthV, rworth_val (l := l) h hb (by omega), wrap_succ (by omega)]
    rfl
  | .max a b, h, hb, hm => by
    simp only [Lv.sucs] at hm
    rw [rworthV, rworth_val (l := a) (fun s hs => h s (List.mem_append_left _ hs)) (fun s hs => hb s (List.mem_append_left _ hs)) (by omega), rworth_val (l := b) (fun s hs => h s (List.mem_append_right _ hs)) (fun s hs => hb s (List.mem_append_right _ hs)) (by omega), max_cond]
    rfl
  | .imax a b, h, hb, hm => by
    simp only [Lv.sucs] at hm
    rw [rworthV, rworth_val (l := a) (fun s hs => h s (List.mem_append_left _ hs)) (fun s hs => hb s (List.mem_append_left _ hs)) (by omega), rworth_val (l := b) (fun s hs => h s (List.mem_append_right _ hs)) (fun s hs => hb s (List.mem_append_right _ hs)) (by omega), max_cond]
    simp only [Lv.val]
    by_cases h0 : b.val v = 0
    · simp [h0]
    · have : (((b.val v : Nat) : Int) == 0) = false := by simp; omega
      rw [this, if_neg h0]; rfl
  | .param s, h, _, _ => h s (by simp [Lv.pars])

/-! The tests: digits to the base three. -/
def dig : Nat → Nat → List Nat
  | 0, _ => []
  | n + 1, r => (r % 3) :: dig n (r / 3)
def vd (B d : Nat) : Nat := if d = 0 then 0 else if d = 1 then 1 else B
def nsV (B n k : Nat) : List Int := (dig n k).map fun d => (vd B d : Int)
theorem dig_length : ∀ (n k : Nat), (dig n k).length = n
  | 0, _ => rfl
  | n + 1, k => by simp [dig, dig_length n]
theorem nsV_length (B n k : Nat) : (nsV B n k).length = n := by simp [nsV, dig_length]
theorem dig_all : ∀ (ds : List Nat), (∀ d ∈ ds, d < 3) → ∃ k, k < 3 ^ ds.length ∧ dig ds.length k = ds
  | [], _ => ⟨0, by simp, rfl⟩
  | d :: ds, h => by
    obtain ⟨k, h1, h2⟩ := dig_all ds fun x hx => h x (List.mem_cons_of_mem _ hx)
    have hd := h d (List.mem_cons_self ..)
    refine ⟨3 * k + d, ?_, ?_⟩
    · simp only [List.length_cons, Nat.pow_succ]; omega
    · simp only [List.length_cons, dig]
      have e1 : (3 * k + d) % 3 = d := by omega
      have e2 : (3 * k + d) / 3 = k := by omega
      rw [e1, e2, h2]
theorem pval_map {v : ByteArray → Nat} {s : ByteArray} : ∀ {P : List ByteArray}, s ∈ P → pval s P (P.map fun p => (v p : Int)) = (v s : Int)
  | p :: P, h => by
    simp only [List.map_cons, pval]
    by_cases hp : p.toList = s.toList
    · have : p = s := tl_inj hp
      subst this; simp
    · rcases List.mem_cons.1 h with rfl | h
      · exact absurd rfl hp
      · simp only [beq_iff_eq, hp, if_false]
        exact pval_map h
theorem pval_of {s : ByteArray} {B : Nat} (hB : 1 ≤ B) : ∀ {P : List ByteArray} {ds : List Nat}, ∃ x : Nat, pval s P (ds.map fun d => (vd B d : Int)) = (x : Int) ∧ x ≤ B
  | [], ds => ⟨0, by cases ds <;> rfl, Nat.zero_le _⟩
  | p :: P, [] => ⟨0, rfl, Nat.zero_le _⟩
  | p :: P, d :: ds => by
    simp only [List.map_cons, pval]
    split
    · refine ⟨vd B d, rfl, ?_⟩
      unfold vd
      split
      · omega
      · split <;> omega
    · exact pval_of hB
/-- All tests hold just if the one is at most the other. -/
theorem tests_iff {a b : Lv} {P : List ByteArray} (ha : ∀ s ∈ a.pars, s ∈ P) (hb : ∀ s ∈ b.pars, s ∈ P) (hs : a.sucs + b.sucs < 2 ^ 50) :
    (∀ k, k < 3 ^ P.length → rworthV P (nsV (2 + a.sucs + b.sucs) P.length k) a ≤ rworthV P (nsV (2 + a.sucs + b.sucs) P.length k) b) ↔ a.Leq b := by
  constructor
  · intro h
    refine leq_three (B := 2 + a.sucs + b.sucs) (by omega) fun v hv => ?_
    let d : ByteArray → Nat := fun p => if v p = 0 then 0 else if v p = 1 then 1 else 2
    have hd : ∀ p, vd (2 + a.sucs + b.sucs) (d p) = v p := by
      intro p
      simp only [d, vd]
      rcases hv p with h0 | h0 | h0
      · simp [h0]
      · simp [h0]
      · have e1 : ¬ (v p = 0) := by omega
        have e2 : ¬ (v p = 1) := by omega
        have e3 : ¬ (2 + a.sucs + b.sucs = 1) := by omega
        simp [e1, e2, h0, e3]
    obtain ⟨k, hk, hdig⟩ := dig_all (P.map d) (fun x hx => by
      obtain ⟨p, _, rfl⟩ := List.mem_map.1 hx
      simp only [d]
      split
      · omega
      · split <;> omega)
    rw [List.length_map] at hk hdig
    have hns : nsV (2 + a.sucs + b.sucs) P.length k = P.map fun p => (v p : Int) := by
      simp only [nsV, hdig, List.map_map]
      refine List.map_congr_left fun p _ => ?_
      simp only [Function.comp, hd]
    have hM : ∀ p, v p ≤ 2 + a.sucs + b.sucs := fun p => by rcases hv p with h0 | h0 | h0 <;> omega
    have := h k hk
    rw [hns, rworth_val (v := v) (M := 2 + a.sucs + b.sucs) (fun s hs => pval_map (ha s hs)) (fun s _ => hM s) (by omega), rworth_val (v := v) (M := 2 + a.sucs + b.sucs) (fun s hs => pval_map (hb s hs)) (fun s _ => hM s) (by omega)] at this
    omega
  · intro h k _
    have hx : ∀ s, ∃ x : Nat, pval s P (nsV (2 + a.sucs + b.sucs) P.length k) = (x : Int) ∧ x ≤ 2 + a.sucs + b.sucs := fun s => pval_of (by omega)
    have hv : ∀ s, pval s P (nsV (2 + a.sucs + b.sucs) P.length k) = (((hx s).choose : Nat) : Int) := fun s => (hx s).choose_spec.1
    have hM : ∀ s, (hx s).choose ≤ 2 + a.sucs + b.sucs := fun s => (hx s).choose_spec.2
    rw [rworth_val (v := fun s => (hx s).choose) (M := 2 + a.sucs + b.sucs) (fun s _ => hv s) (fun s _ => hM s) (by omega), rworth_val (v := fun s => (hx s).choose) (M := 2 + a.sucs + b.sucs) (fun s _ => hv s) (fun s _ => hM s) (by omega)]
    have := h (fun s => (hx s).choose)
    omega

/-! The names of what is parsed are names. -/
theorem tok_size (s : ByteArray) (p : Nat) : (tokV s p).t.size ≤ s.size := by
  have h0 : (ByteArray.mk #[]).size = 0 := rfl
  have he : ∀ i q, (s.extract i q).size ≤ s.size := fun i q => by rw [ByteArray.size_extract]; omega
  have he0 : (ByteArray.mk #[]).size ≤ s.size := by rw [h0]; exact Nat.zero_le _
  unfold tokV tokAt
  generalize scan isBlank s p = i
  cases i == s.size
  · simp only [cond_false]
    cases byteAt s i == 40
    · cases byteAt s i == 41
      · cases nmByte (byteAt s i) true
        · cases (byteAt s i == 35 || isDigit (byteAt s i))
          · exact he0
          · simp only [cond_false, cond_true, numTok]
            generalize (bif byteAt s i == 35 then i + 1 else i) = d
            cases scan isDigit s (i + 1) == d
            · cases decide (scan isDigit s (i + 1) - d > 5)
              · cases (decide (scan isDigit s (i + 1) - d > 1) && byteAt s d == 48)
                · exact he _ _
                · exact he0
              · exact he0
            · exact he0
        · simp only [cond_false, cond_true, nmTok]
          cases decide (scan (nmByte · false) s (i + 1) - i > 40)
          · exact he _ _
          · exact he0
      · exact he _ _
    · exact he _ _
  · exact he0
theorem rlevel_names (s : ByteArray) : ∀ (n : Nat) (st : RS), ∀ x ∈ (rlevelV n s st).1.pars, 0 < x.size ∧ x.size ≤ s.size
  | 0, st => by simp [rlevelV, Lv.pars]
  | n + 1, st => by
    have ih := rlevel_names s n
    unfold rlevelV
    cases st.c != 0
    case true => simp [Lv.pars]
    cases strIs (tokV s st.p).t [48]
    case true => simp [Lv.pars]
    cases h1 : isNameV (tokV s st.p).t
    case true =>
      intro x hx
      simp only [cond_false, cond_true, Lv.pars, List.mem_singleton] at hx
      subst hx
      simp only [isNameV, Bool.and_eq_true, Bool.not_eq_true'] at h1
      exact ⟨isNo_size h1.1, tok_size s st.p⟩
    cases strIs (tokV s st.p).t [40]
    case false => simp [Lv.pars]
    simp only [cond_false, cond_true, lvP]
    have two : ∀ (f : Lv → Lv → Lv) (st : RS), (∀ a b, (f a b).pars = a.pars ++ b.pars) → ∀ x ∈ (lv2 (rlevelV n s) s f st).1.pars, 0 < x.size ∧ x.size ≤ s.size := by
      intro f st hf x hx
      simp only [lv2, hf, List.mem_append] at hx
      rcases hx with hx | hx
      · exact ih _ x hx
      · exact ih _ x hx
    cases strIs (tokV s (rnextV s st).2.p).t [115]
    case true => exact ih _
    cases strIs (tokV s (rnextV s st).2.p).t [109, 97, 120]
    case true => exact two .max _ fun _ _ => rfl
    cases strIs (tokV s (rnextV s st).2.p).t [105, 109, 97, 120]
    case true => exact two .imax _ fun _ _ => rfl
    simp [Lv.pars]
theorem parse_names (s : ByteArray) : ∀ x ∈ (parseV s).1.pars, 0 < x.size ∧ x.size ≤ s.size := by
  unfold parseV
  cases decide ((s.size : Int) > 20000)
  · simp only [cond_false]
    cases (rdoneV s (rlevelV (s.size + 1) s ⟨0, 0, 0⟩).2).c != 0
    · exact rlevel_names s _ _
    · simp [Lv.pars]
  · simp [Lv.pars]
theorem sucs_size : ∀ l : Lv, l.sucs ≤ l.size
  | .zero => by simp [Lv.sucs]
  | .param _ => by simp [Lv.sucs]
  | .succ l => by have := sucs_size l; simp only [Lv.sucs, Lv.size]; omega
  | .max a b => by have := sucs_size a; have := sucs_size b; simp only [Lv.sucs, Lv.size]; omega
  | .imax a b => by have := sucs_size a; have := sucs_size b; simp only [Lv.sucs, Lv.size]; omega
end Go.Ab.Mk
end
