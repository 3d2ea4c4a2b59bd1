/- AbMk3: printed by program: functions of the program, their code told as plain Lean, and the equations. -/
import Derived.Test.YtkecplbpffhdnaaGreatDoorAbMk0
set_option linter.unusedSimpArgs false
set_option linter.unusedVariables false
set_option linter.deprecated false
set_option maxRecDepth 100000
namespace Go.Ab.Mk
open Go.Proofs Go.Ab
/-! term.Read -/
noncomputable def readk0 : List Nat := [0, 2, 8, 75, 76]
noncomputable def readk1 : List Nat := [0, 2, 8, 9]
noncomputable def reads0 (call : CallF) (rec0 : Nat → Int → Int → Int → Int → ByteArray → List (List V) → List (List V) → Int → Int → V → List (List V) → List (List V) → Sto → Option Res) (s_0 : Nat) (t_75 : Int) (t_76 : Int) (t_2c0 : Int) (t_2c1 : Int) (t_2c2 : ByteArray) (t_2c3 : List (List V)) (t_2c4 : List (List V)) (t_8c0 : Int) (t_8c1 : Int) (t_8c2 : V) (t_8c3 : List (List V)) (t_8c4 : List (List V)) (σ : Sto) : Option Res :=
  bif (decide (t_76 < t_75)) then
  callK call 22 [((V.ptr 69 s_0 0), false)] σ 1 (fun vs1 σ2 =>
  (grd ((V.fits (List.getD vs1 0 cellD).1 true 5 && true))).bind fun _ =>
  (grd (room (List.length t_8c4 + 1))).bind fun _ =>
  rec0 s_0 t_75 (IntKind.wrap .i64 (t_76 + (1 : Int))) t_2c0 t_2c1 t_2c2 t_2c3 t_2c4 t_8c0 t_8c1 t_8c2 t_8c3 (t_8c4 ++ [[(V.cell (List.getD vs1 0 cellD).1 0), (V.cell (List.getD vs1 0 cellD).1 1), (V.cell (List.getD vs1 0 cellD).1 2), (V.cell (List.getD vs1 0 cellD).1 3), (V.cell (List.getD vs1 0 cellD).1 4)]]) σ2) (fun p3 σ2 => some (.pan p3, σ2))
  else
  callK call 43 [((V.ptr 69 s_0 0), false), ((V.str (ByteArray.mk #[41])), false)] σ 0 (fun vs4 σ5 =>
  some (.ret [((V.agg [(V.int .i64 t_8c0), (V.int .i64 t_8c1), t_8c2, (V.slice 3 90 t_8c3), (V.slice 5 30 t_8c4)]), false)], σ5)) (fun p6 σ5 => some (.pan p6, σ5))
noncomputable def readl0 (call : CallF) (n : Nat) : Nat → Nat → Int → Int → Int → Int → ByteArray → List (List V) → List (List V) → Int → Int → V → List (List V) → List (List V) → Sto → Option Res
  | 0 => fun _ _ _ _ _ _ _ _ _ _ _ _ _ _ => none
  | m + 1 => reads0 call (readl0 call n m)
noncomputable def readt0 (s_0 : Nat) (t_75 : Int) (t_76 : Int) (t_2c0 : Int) (t_2c1 : Int) (t_2c2 : ByteArray) (t_2c3 : List (List V)) (t_2c4 : List (List V)) (t_8c0 : Int) (t_8c1 : Int) (t_8c2 : V) (t_8c3 : List (List V)) (t_8c4 : List (List V)) (σ : Sto) : St := ⟨[.val (V.ptr 69 s_0 0) false, .dead, .lptr 2 0, .dead, .dead, .dead, .dead, .dead, .lptr 8 0, .dead, .dead, .dead, .dead, .dead, .dead, .dead, .dead, .dead, .dead, .dead, .dead, .dead, .dead, .dead, .dead, .dead, .dead, .dead, .dead, .dead, .dead, .dead, .dead, .dead, .dead, .dead, .dead, .dead, .dead, .dead, .dead, .dead, .dead, .dead, .dead, .dead, .dead, .dead, .dead, .dead, .dead, .dead, .dead, .dead, .dead, .dead, .dead, .dead, .dead, .dead, .dead, .dead, .dead, .dead, .dead, .dead, .dead, .dead, .dead, .dead, .dead, .dead, .dead, .dead, .dead, .val (V.int .i64 t_75) false, .val (V.int .i64 t_76) false, .dead, .dead, .dead, .dead, .dead, .dead, .dead, .dead, .dead, .dead, .dead, .dead], [[], [], [((V.int .i64 t_2c0), false), ((V.int .i64 t_2c1), false), ((V.str t_2c2), false), ((V.slice 3 90 t_2c3), true), ((V.slice 5 30 t_2c4), true)], [], [], [], [], [], [((V.int .i64 t_8c0), false), ((V.int .i64 t_8c1), false), (t_8c2, false), ((V.slice 3 90 t_8c3), true), ((V.slice 5 30 t_8c4), true)], [], [], [], [], [], [], [], [], [], [], [], [], [], [], [], [], [], [], [], [], [], [], [], [], [], [], [], [], [], [], [], [], [], [], [], [], [], [], [], [], [], [], [], [], [], [], [], [], [], [], [], [], [], [], [], [], [], [], [], [], [], [], [], [], [], [], [], [], [], [], [], [], [], [], [], [], [], [], [], []], σ⟩
noncomputable def reads1 (call : CallF) (L0 : Nat → Int → Int → Int → Int → ByteArray → List (List V) → List (List V) → Int → Int → V → List (List V) → List (List V) → Sto → Option Res) (rec1 : Nat → Int → Int → Int → ByteArray → List (List V) → List (List V) → Int → Int → V → List (List V) → List (List V) → Sto → Option Res) (s_0 : Nat) (parts_9 : Int) (t_2c0 : Int) (t_2c1 : Int) (t_2c2 : ByteArray) (t_2c3 : List (List V)) (t_2c4 : List (List V)) (t_8c0 : Int) (t_8c1 : Int) (t_8c2 : V) (t_8c3 : List (List V)) (t_8c4 : List (List V)) (σ : Sto) : Option Res :=
  (memGet σ (V.ptr 69 s_0 2) false 1).bind fun m1 =>
  (V.asStr m1).bind fun s2 =>
  bif (!(s2.toList == (ByteArray.mk #[41]).toList)) then
  callK call 45 [((V.ptr 69 s_0 0), false)] σ 1 (fun vs3 σ4 =>
  (grd ((V.fits (List.getD vs3 0 cellD).1 true 3 && true))).bind fun _ =>
  (grd (room (List.length t_8c3 + 1))).bind fun _ =>
  rec1 s_0 parts_9 t_2c0 t_2c1 t_2c2 t_2c3 t_2c4 t_8c0 t_8c1 t_8c2 (t_8c3 ++ [[(V.cell (List.getD vs3 0 cellD).1 0), (V.cell (List.getD vs3 0 cellD).1 1), (V.cell (List.getD vs3 0 cellD).1 2)]]) t_8c4 σ4) (fun p5 σ4 => some (.pan p5, σ4))
  else
  L0 s_0 parts_9 (0 : Int) t_2c0 t_2c1 t_2c2 t_2c3 t_2c4 t_8c0 t_8c1 t_8c2 t_8c3 t_8c4 σ
noncomputable def readl1 (call : CallF) (n : Nat) : Nat → Nat → Int → Int → Int → ByteArray → List (List V) → List (List V) → Int → Int → V → List (List V) → List (List V) → Sto → Option Res
  | 0 => fun _ _ _ _ _ _ _ _ _ _ _ _ _ => none
  | m + 1 => reads1 call (readl0 call n n) (readl1 call n m)
noncomputable def readt1 (s_0 : Nat) (parts_9 : Int) (t_2c0 : Int) (t_2c1 : Int) (t_2c2 : ByteArray) (t_2c3 : List (List V)) (t_2c4 : List (List V)) (t_8c0 : Int) (t_8c1 : Int) (t_8c2 : V) (t_8c3 : List (List V)) (t_8c4 : List (List V)) (σ : Sto) : St := ⟨[.val (V.ptr 69 s_0 0) false, .dead, .lptr 2 0, .dead, .dead, .dead, .dead, .dead, .lptr 8 0, .val (V.int .i64 parts_9) false, .dead, .dead, .dead, .dead, .dead, .dead, .dead, .dead, .dead, .dead, .dead, .dead, .dead, .dead, .dead, .dead, .dead, .dead, .dead, .dead, .dead, .dead, .dead, .dead, .dead, .dead, .dead, .dead, .dead, .dead, .dead, .dead, .dead, .dead, .dead, .dead, .dead, .dead, .dead, .dead, .dead, .dead, .dead, .dead, .dead, .dead, .dead, .dead, .dead, .dead, .dead, .dead, .dead, .dead, .dead, .dead, .dead, .dead, .dead, .dead, .dead, .dead, .dead, .dead, .dead, .dead, .dead, .dead, .dead, .dead, .dead, .dead, .dead, .dead, .dead, .dead, .dead, .dead, .dead], [[], [], [((V.int .i64 t_2c0), false), ((V.int .i64 t_2c1), false), ((V.str t_2c2), false), ((V.slice 3 90 t_2c3), true), ((V.slice 5 30 t_2c4), true)], [], [], [], [], [], [((V.int .i64 t_8c0), false), ((V.int .i64 t_8c1), false), (t_8c2, false), ((V.slice 3 90 t_8c3), true), ((V.slice 5 30 t_8c4), true)], [], [], [], [], [], [], [], [], [], [], [], [], [], [], [], [], [], [], [], [], [], [], [], [], [], [], [], [], [], [], [], [], [], [], [], [], [], [], [], [], [], [], [], [], [], [], [], [], [], [], [], [], [], [], [], [], [], [], [], [], [], [], [], [], [], [], [], [], [], [], [], [], [], [], [], [], [], [], [], []], σ⟩
noncomputable def readF (call : CallF) (L0 : Nat → Int → Int → Int → Int → ByteArray → List (List V) → List (List V) → Int → Int → V → List (List V) → List (List V) → Sto → Option Res) (L1 : Nat → Int → Int → Int → ByteArray → List (List V) → List (List V) → Int → Int → V → List (List V) → List (List V) → Sto → Option Res) (s_0 : Nat) (σ : Sto) : Option Res :=
  (memGet σ (V.ptr 69 s_0 2) false 1).bind fun m1 =>
  callK call 40 [(m1, false), ((V.str (ByteArray.mk #[35])), false)] σ 2 (fun vs2 σ3 =>
  (V.asBool (List.getD vs2 1 cellD).1).bind fun b5 =>
  bif b5 then
  callK call 41 [((List.getD vs2 0 cellD).1, false)] σ3 2 (fun vs6 σ7 =>
  (V.ifaceNil (List.getD vs6 1 cellD).1).bind fun b9 =>
  bif (!b9) then
  callK call 42 [((V.ptr 69 s_0 0), false)] σ7 0 (fun vs10 σ11 =>
  callK call 39 [((V.ptr 69 s_0 0), false)] σ11 0 (fun vs13 σ14 =>
  (grd ((V.fits (List.getD vs6 0 cellD).1 false 1 && true))).bind fun _ =>
  some (.ret [((V.agg [(V.int .i64 (0 : Int)), (List.getD vs6 0 cellD).1, (V.str (ByteArray.mk #[])), (V.slice 3 90 []), (V.slice 5 30 [])]), false)], σ14)) (fun p15 σ14 => some (.pan p15, σ14))) (fun p12 σ11 => some (.pan p12, σ11))
  else
  callK call 39 [((V.ptr 69 s_0 0), false)] σ7 0 (fun vs16 σ17 =>
  (grd ((V.fits (List.getD vs6 0 cellD).1 false 1 && true))).bind fun _ =>
  some (.ret [((V.agg [(V.int .i64 (0 : Int)), (List.getD vs6 0 cellD).1, (V.str (ByteArray.mk #[])), (V.slice 3 90 []), (V.slice 5 30 [])]), false)], σ17)) (fun p18 σ17 => some (.pan p18, σ17))) (fun p8 σ7 => some (.pan p8, σ7))
  else
  callK call 43 [((V.ptr 69 s_0 0), false), ((V.str (ByteArray.mk #[40])), false)] σ3 0 (fun vs19 σ20 =>
  (grd (decide (0 ≤ (1 : Int)) && decide ((1 : Int) ≤ (7 : Int)) && decide ((7 : Int) ≤ (7 : Nat)) && decide ((1 : Int) < (7 : Nat)))).bind fun _ =>
  (memGet σ20 (V.ptr 69 s_0 2) false 1).bind fun m22 =>
  callK call 44 [((V.slice 1 9 (((List.map (fun v => [v]) [(V.str (ByteArray.mk #[])), (V.str (ByteArray.mk #[115, 111, 114, 116])), (V.str (ByteArray.mk #[99, 111, 110, 115, 116])), (V.str (ByteArray.mk #[97, 112, 112])), (V.str (ByteArray.mk #[108, 97, 109])), (V.str (ByteArray.mk #[112, 105])), (V.str (ByteArray.mk #[108, 101, 116]))]).take (Int.toNat (7 : Int))).drop (Int.toNat (1 : Int)))), false), (m22, false)] σ20 1 (fun vs23 σ24 =>
  (V.asInt (List.getD vs23 0 cellD).1 .i64).bind fun i26 =>
  bif ((IntKind.wrap .i64 (i26 + (1 : Int))) == (0 : Int)) then
  callK call 42 [((V.ptr 69 s_0 0), false)] σ24 0 (fun vs27 σ28 =>
  callK call 39 [((V.ptr 69 s_0 0), false)] σ28 0 (fun vs30 σ31 =>
  bif ((IntKind.wrap .i64 (i26 + (1 : Int))) == (1 : Int)) then
  callK call 45 [((V.ptr 69 s_0 0), false)] σ31 1 (fun vs33 σ34 =>
  (grd ((V.fits (List.getD vs33 0 cellD).1 true 3 && true))).bind fun _ =>
  L0 s_0 (0 : Int) (0 : Int) (0 : Int) (0 : Int) (ByteArray.mk #[]) [] [] (IntKind.wrap .i64 (i26 + (1 : Int))) (0 : Int) (V.str (ByteArray.mk #[])) [[(V.cell (List.getD vs33 0 cellD).1 0), (V.cell (List.getD vs33 0 cellD).1 1), (V.cell (List.getD vs33 0 cellD).1 2)]] [] σ34) (fun p35 σ34 => some (.pan p35, σ34))
  else
  bif ((IntKind.wrap .i64 (i26 + (1 : Int))) == (2 : Int)) then
  callK call 46 [((V.ptr 69 s_0 0), false)] σ31 1 (fun vs36 σ37 =>
  (grd (V.fits (List.getD vs36 0 cellD).1 false 1)).bind fun _ =>
  L1 s_0 (0 : Int) (0 : Int) (0 : Int) (ByteArray.mk #[]) [] [] (IntKind.wrap .i64 (i26 + (1 : Int))) (0 : Int) (List.getD vs36 0 cellD).1 [] [] σ37) (fun p38 σ37 => some (.pan p38, σ37))
  else
  bif ((IntKind.wrap .i64 (i26 + (1 : Int))) == (6 : Int)) then
  L0 s_0 (3 : Int) (0 : Int) (0 : Int) (0 : Int) (ByteArray.mk #[]) [] [] (IntKind.wrap .i64 (i26 + (1 : Int))) (0 : Int) (V.str (ByteArray.mk #[])) [] [] σ31
  else
  L0 s_0 (2 : Int) (0 : Int) (0 : Int) (0 : Int) (ByteArray.mk #[]) [] [] (IntKind.wrap .i64 (i26 + (1 : Int))) (0 : Int) (V.str (ByteArray.mk #[])) [] [] σ31) (fun p32 σ31 => some (.pan p32, σ31))) (fun p29 σ28 => some (.pan p29, σ28))
  else
  callK call 39 [((V.ptr 69 s_0 0), false)] σ24 0 (fun vs39 σ40 =>
  bif ((IntKind.wrap .i64 (i26 + (1 : Int))) == (1 : Int)) then
  callK call 45 [((V.ptr 69 s_0 0), false)] σ40 1 (fun vs42 σ43 =>
  (grd ((V.fits (List.getD vs42 0 cellD).1 true 3 && true))).bind fun _ =>
  L0 s_0 (0 : Int) (0 : Int) (0 : Int) (0 : Int) (ByteArray.mk #[]) [] [] (IntKind.wrap .i64 (i26 + (1 : Int))) (0 : Int) (V.str (ByteArray.mk #[])) [[(V.cell (List.getD vs42 0 cellD).1 0), (V.cell (List.getD vs42 0 cellD).1 1), (V.cell (List.getD vs42 0 cellD).1 2)]] [] σ43) (fun p44 σ43 => some (.pan p44, σ43))
  else
  bif ((IntKind.wrap .i64 (i26 + (1 : Int))) == (2 : Int)) then
  callK call 46 [((V.ptr 69 s_0 0), false)] σ40 1 (fun vs45 σ46 =>
  (grd (V.fits (List.getD vs45 0 cellD).1 false 1)).bind fun _ =>
  L1 s_0 (0 : Int) (0 : Int) (0 : Int) (ByteArray.mk #[]) [] [] (IntKind.wrap .i64 (i26 + (1 : Int))) (0 : Int) (List.getD vs45 0 cellD).1 [] [] σ46) (fun p47 σ46 => some (.pan p47, σ46))
  else
  bif ((IntKind.wrap .i64 (i26 + (1 : Int))) == (6 : Int)) then
  L0 s_0 (3 : Int) (0 : Int) (0 : Int) (0 : Int) (ByteArray.mk #[]) [] [] (IntKind.wrap .i64 (i26 + (1 : Int))) (0 : Int) (V.str (ByteArray.mk #[])) [] [] σ40
  else
  L0 s_0 (2 : Int) (0 : Int) (0 : Int) (0 : Int) (ByteArray.mk #[]) [] [] (IntKind.wrap .i64 (i26 + (1 : Int))) (0 : Int) (V.str (ByteArray.mk #[])) [] [] σ40) (fun p41 σ40 => some (.pan p41, σ40))) (fun p25 σ24 => some (.pan p25, σ24))) (fun p21 σ20 => some (.pan p21, σ20))) (fun p4 σ3 => some (.pan p4, σ3))
noncomputable def read (call : CallF) (n : Nat) (s_0 : Nat) (σ : Sto) : Option Res := readF call (readl0 call n n) (readl1 call n n) s_0 σ
theorem reads0_eq (call : CallF) (n : Nat) (F0 : St → Option Res) (s_0 : Nat) (t_75 : Int) (t_76 : Int) (t_2c0 : Int) (t_2c1 : Int) (t_2c2 : ByteArray) (t_2c3 : List (List V)) (t_2c4 : List (List V)) (t_8c0 : Int) (t_8c1 : Int) (t_8c2 : V) (t_8c3 : List (List V)) (t_8c4 : List (List V)) (σ : Sto) :
    aexec C readH call n (codeL (codeL (codeR (codeL (codeR (codeR (codeR (codeR (codeR (codeR (codeR (codeR (codeR readC))))))))))))) 0 (readt0 s_0 t_75 t_76 t_2c0 t_2c1 t_2c2 t_2c3 t_2c4 t_8c0 t_8c1 t_8c2 t_8c3 t_8c4 σ) (kloop readk0 F0 (kblk 3 (kseq (fun st' => aexec C readH call n (codeR (codeR (codeR (codeR (codeR (codeR (codeR (codeR (codeR (codeR readC)))))))))) 0 st' (kfin C readD)) (kfin C readD)))) =
    reads0 call (fun s_0 t_75 t_76 t_2c0 t_2c1 t_2c2 t_2c3 t_2c4 t_8c0 t_8c1 t_8c2 t_8c3 t_8c4 σ => F0 (readt0 s_0 t_75 t_76 t_2c0 t_2c1 t_2c2 t_2c3 t_2c4 t_8c0 t_8c1 t_8c2 t_8c3 t_8c4 σ)) s_0 t_75 t_76 t_2c0 t_2c1 t_2c2 t_2c3 t_2c4 t_8c0 t_8c1 t_8c2 t_8c3 t_8c4 σ := by kernel_rfl
theorem readl0_eq (call : CallF) (n : Nat) : ∀ (m : Nat) (s_0 : Nat) (t_75 : Int) (t_76 : Int) (t_2c0 : Int) (t_2c1 : Int) (t_2c2 : ByteArray) (t_2c3 : List (List V)) (t_2c4 : List (List V)) (t_8c0 : Int) (t_8c1 : Int) (t_8c2 : V) (t_8c3 : List (List V)) (t_8c4 : List (List V)) (σ : Sto),
    aloop (fun st K => aexec C readH call n (codeL (codeL (codeR (codeL (codeR (codeR (codeR (codeR (codeR (codeR (codeR (codeR (codeR readC))))))))))))) 0 st K) readk0 m (readt0 s_0 t_75 t_76 t_2c0 t_2c1 t_2c2 t_2c3 t_2c4 t_8c0 t_8c1 t_8c2 t_8c3 t_8c4 σ) (kblk 3 (kseq (fun st' => aexec C readH call n (codeR (codeR (codeR (codeR (codeR (codeR (codeR (codeR (codeR (codeR readC)))))))))) 0 st' (kfin C readD)) (kfin C readD))) = readl0 call n m s_0 t_75 t_76 t_2c0 t_2c1 t_2c2 t_2c3 t_2c4 t_8c0 t_8c1 t_8c2 t_8c3 t_8c4 σ
  | 0, s_0, t_75, t_76, t_2c0, t_2c1, t_2c2, t_2c3, t_2c4, t_8c0, t_8c1, t_8c2, t_8c3, t_8c4, σ => rfl
  | m + 1, s_0, t_75, t_76, t_2c0, t_2c1, t_2c2, t_2c3, t_2c4, t_8c0, t_8c1, t_8c2, t_8c3, t_8c4, σ => by
    rw [aloop, reads0_eq]
    simp only [readl0_eq call n m]
    rfl
theorem reads1_eq (call : CallF) (n : Nat) (F1 : St → Option Res) (s_0 : Nat) (parts_9 : Int) (t_2c0 : Int) (t_2c1 : Int) (t_2c2 : ByteArray) (t_2c3 : List (List V)) (t_2c4 : List (List V)) (t_8c0 : Int) (t_8c1 : Int) (t_8c2 : V) (t_8c3 : List (List V)) (t_8c4 : List (List V)) (σ : Sto) :
    aexec C readH call n (codeL (codeL (codeR (codeL (codeR (codeR (codeR (codeL (codeR (codeL (codeR (codeR (codeR (codeR (codeR (codeR (codeR (codeR readC)))))))))))))))))) 0 (readt1 s_0 parts_9 t_2c0 t_2c1 t_2c2 t_2c3 t_2c4 t_8c0 t_8c1 t_8c2 t_8c3 t_8c4 σ) (kloop readk1 F1 (kblk 1 (kblk 0 (kseq (fun st' => aexec C readH call n (codeR (codeR (codeR (codeR (codeR (codeR (codeR (codeR (codeR readC))))))))) 0 st' (kfin C readD)) (kfin C readD))))) =
    reads1 call (fun s_0 t_75 t_76 t_2c0 t_2c1 t_2c2 t_2c3 t_2c4 t_8c0 t_8c1 t_8c2 t_8c3 t_8c4 σ => aloop (fun st K => aexec C readH call n (codeL (codeL (codeR (codeL (codeR (codeR (codeR (codeR (codeR (codeR (codeR (codeR (codeR readC))))))))))))) 0 st K) readk0 n (readt0 s_0 t_75 t_76 t_2c0 t_2c1 t_2c2 t_2c3 t_2c4 t_8c0 t_8c1 t_8c2 t_8c3 t_8c4 σ) (kblk 3 (kseq (fun st' => aexec C readH call n (codeR (codeR (codeR (codeR (codeR (codeR (codeR (codeR (codeR (codeR readC)))))))))) 0 st' (kfin C readD)) (kfin C readD)))) (fun s_0 parts_9 t_2c0 t_2c1 t_2c2 t_2c3 t_2c4 t_8c0 t_8c1 t_8c2 t_8c3 t_8c4 σ => F1 (readt1 s_0 parts_9 t_2c0 t_2c1 t_2c2 t_2c3 t_2c4 t_8c0 t_8c1 t_8c2 t_8c3 t_8c4 σ)) s_0 parts_9 t_2c0 t_2c1 t_2c2 t_2c3 t_2c4 t_8c0 t_8c1 t_8c2 t_8c3 t_8c4 σ := by kernel_rfl
theorem readl1_eq (call : CallF) (n : Nat) : ∀ (m : Nat) (s_0 : Nat) (parts_9 : Int) (t_2c0 : Int) (t_2c1 : Int) (t_2c2 : ByteArray) (t_2c3 : List (List V)) (t_2c4 : List (List V)) (t_8c0 : Int) (t_8c1 : Int) (t_8c2 : V) (t_8c3 : List (List V)) (t_8c4 : List (List V)) (σ : Sto),
    aloop (fun st K => aexec C readH call n (codeL (codeL (codeR (codeL (codeR (codeR (codeR (codeL (codeR (codeL (codeR (codeR (codeR (codeR (codeR (codeR (codeR (codeR readC)))))))))))))))))) 0 st K) readk1 m (readt1 s_0 parts_9 t_2c0 t_2c1 t_2c2 t_2c3 t_2c4 t_8c0 t_8c1 t_8c2 t_8c3 t_8c4 σ) (kblk 1 (kblk 0 (kseq (fun st' => aexec C readH call n (codeR (codeR (codeR (codeR (codeR (codeR (codeR (codeR (codeR readC))))))))) 0 st' (kfin C readD)) (kfin C readD)))) = readl1 call n m s_0 parts_9 t_2c0 t_2c1 t_2c2 t_2c3 t_2c4 t_8c0 t_8c1 t_8c2 t_8c3 t_8c4 σ
  | 0, s_0, parts_9, t_2c0, t_2c1, t_2c2, t_2c3, t_2c4, t_8c0, t_8c1, t_8c2, t_8c3, t_8c4, σ => rfl
  | m + 1, s_0, parts_9, t_2c0, t_2c1, t_2c2, t_2c3, t_2c4, t_8c0, t_8c1, t_8c2, t_8c3, t_8c4, σ => by
    rw [aloop, reads1_eq]
    simp only [readl1_eq call n m, readl0_eq]
    rfl
theorem read_eqF (call : CallF) (n : Nat) (s_0 : Nat) (σ : Sto) : afun C readD call n [((V.ptr 69 s_0 0), false)] σ =
    readF call (fun s_0 t_75 t_76 t_2c0 t_2c1 t_2c2 t_2c3 t_2c4 t_8c0 t_8c1 t_8c2 t_8c3 t_8c4 σ => aloop (fun st K => aexec C readH call n (codeL (codeL (codeR (codeL (codeR (codeR (codeR (codeR (codeR (codeR (codeR (codeR (codeR readC))))))))))))) 0 st K) readk0 n (readt0 s_0 t_75 t_76 t_2c0 t_2c1 t_2c2 t_2c3 t_2c4 t_8c0 t_8c1 t_8c2 t_8c3 t_8c4 σ) (kblk 3 (kseq (fun st' => aexec C readH call n (codeR (codeR (codeR (codeR (codeR (codeR (codeR (codeR (codeR (codeR readC)))))))))) 0 st' (kfin C readD)) (kfin C readD)))) (fun s_0 parts_9 t_2c0 t_2c1 t_2c2 t_2c3 t_2c4 t_8c0 t_8c1 t_8c2 t_8c3 t_8c4 σ => aloop (fun st K => aexec C readH call n (codeL (codeL (codeR (codeL (codeR (codeR (codeR (codeL (codeR (codeL (codeR (codeR (codeR (codeR (codeR (codeR (codeR (codeR readC)))))))))))))))))) 0 st K) readk1 n (readt1 s_0 parts_9 t_2c0 t_2c1 t_2c2 t_2c3 t_2c4 t_8c0 t_8c1 t_8c2 t_8c3 t_8c4 σ) (kblk 1 (kblk 0 (kseq (fun st' => aexec C readH call n (codeR (codeR (codeR (codeR (codeR (codeR (codeR (codeR (codeR readC))))))))) 0 st' (kfin C readD)) (kfin C readD))))) s_0 σ := by kernel_rfl
theorem read_eq (call : CallF) (n : Nat) (s_0 : Nat) (σ : Sto) : afun C readD call n [((V.ptr 69 s_0 0), false)] σ = read call n s_0 σ := by
  rw [read_eqF]
  simp only [readl0_eq, readl1_eq]
  rfl
theorem read_call (n : Nat) (s_0 : Nat) (σ : Sto) : acall C (n + 1) 22 [((V.ptr 69 s_0 0), false)] σ = read (acall C n) n s_0 σ :=
  (show acall C (n + 1) 22 [((V.ptr 69 s_0 0), false)] σ = afun C readD (acall C n) n [((V.ptr 69 s_0 0), false)] σ by kernel_rfl).trans (read_eq _ _ s_0 σ)
theorem read_lim {n : Nat} {s_0 : Nat} {b0 : Bool} {σ : Sto} {r : Res} (h : read (lim C) n s_0 σ = some r) : lim C 22 [((V.ptr 69 s_0 0), b0)] σ = some r :=
  lim_of (d := readD) (by kernel_rfl) (by kernel_rfl) n (show afun C readD (lim C) n [((V.ptr 69 s_0 0), false)] σ = some r from (read_eq (lim C) n s_0 σ).trans h)
/-! provekernelref.Reader).term -/
noncomputable def rtermk0 : List Nat := [0, 2, 6, 7, 9, 10, 105, 106, 107]
noncomputable def rtermk1 : List Nat := [0, 2, 11, 12, 13]
noncomputable def rtermk2 : List Nat := [0, 2, 11, 12]
noncomputable def rterms1 (call : CallF) (rec1 : Nat → Int → Int → Int → Int → ByteArray → List (List V) → List (List V) → Int → Int → V → List (List V) → List (List V) → Sto → Option Res) (r_0 : Nat) (vn_12 : Int) (i_13 : Int) (t_2c0 : Int) (t_2c1 : Int) (t_2c2 : ByteArray) (t_2c3 : List (List V)) (t_2c4 : List (List V)) (out_11c0 : Int) (out_11c1 : Int) (out_11c2 : V) (out_11c3 : List (List V)) (out_11c4 : List (List V)) (σ : Sto) : Option Res :=
  bif (decide (i_13 < vn_12)) then
  callK call 24 [((V.ptr 62 r_0 0), false)] σ 1 (fun vs1 σ2 =>
  (grd ((V.fits (List.getD vs1 0 cellD).1 true 5 && true))).bind fun _ =>
  (grd (room (List.length out_11c4 + 1))).bind fun _ =>
  rec1 r_0 vn_12 (IntKind.wrap .i64 (i_13 + (1 : Int))) t_2c0 t_2c1 t_2c2 t_2c3 t_2c4 out_11c0 out_11c1 out_11c2 out_11c3 (out_11c4 ++ [[(V.cell (List.getD vs1 0 cellD).1 0), (V.cell (List.getD vs1 0 cellD).1 1), (V.cell (List.getD vs1 0 cellD).1 2), (V.cell (List.getD vs1 0 cellD).1 3), (V.cell (List.getD vs1 0 cellD).1 4)]]) σ2) (fun p3 σ2 => some (.pan p3, σ2))
  else
  callK call 54 [((V.ptr 62 r_0 0), false), ((V.str (ByteArray.mk #[41])), false)] σ 0 (fun vs4 σ5 =>
  some (.ret [((V.agg [(V.int .i64 out_11c0), (V.int .i64 out_11c1), out_11c2, (V.slice 3 90 out_11c3), (V.slice 5 30 out_11c4)]), false)], σ5)) (fun p6 σ5 => some (.pan p6, σ5))
noncomputable def rterml1 (call : CallF) (n : Nat) : Nat → Nat → Int → Int → Int → Int → ByteArray → List (List V) → List (List V) → Int → Int → V → List (List V) → List (List V) → Sto → Option Res
  | 0 => fun _ _ _ _ _ _ _ _ _ _ _ _ _ _ => none
  | m + 1 => rterms1 call (rterml1 call n m)
noncomputable def rtermt1 (r_0 : Nat) (vn_12 : Int) (i_13 : Int) (t_2c0 : Int) (t_2c1 : Int) (t_2c2 : ByteArray) (t_2c3 : List (List V)) (t_2c4 : List (List V)) (out_11c0 : Int) (out_11c1 : Int) (out_11c2 : V) (out_11c3 : List (List V)) (out_11c4 : List (List V)) (σ : Sto) : St := ⟨[.val (V.ptr 62 r_0 0) false, .dead, .lptr 2 0, .dead, .dead, .dead, .dead, .dead, .dead, .dead, .dead, .lptr 11 0, .val (V.int .i64 vn_12) false, .val (V.int .i64 i_13) false, .dead, .dead, .dead, .dead, .dead, .dead, .dead, .dead, .dead, .dead, .dead, .dead, .dead, .dead, .dead, .dead, .dead, .dead, .dead, .dead, .dead, .dead, .dead, .dead, .dead, .dead, .dead, .dead, .dead, .dead, .dead, .dead, .dead, .dead, .dead, .dead, .dead, .dead, .dead, .dead, .dead, .dead, .dead, .dead, .dead, .dead, .dead, .dead, .dead, .dead, .dead, .dead, .dead, .dead, .dead, .dead, .dead, .dead, .dead, .dead, .dead, .dead, .dead, .dead, .dead, .dead, .dead, .dead, .dead, .dead, .dead, .dead, .dead, .dead, .dead, .dead, .dead, .dead, .dead, .dead, .dead, .dead, .dead, .dead, .dead, .dead, .dead, .dead, .dead, .dead, .dead, .dead, .dead, .dead, .dead, .dead, .dead, .dead, .dead, .dead, .dead, .dead, .dead, .dead, .dead, .dead, .dead, .dead, .dead, .dead, .dead, .dead, .dead, .dead, .dead, .dead, .dead, .dead, .dead], [[], [], [((V.int .i64 t_2c0), false), ((V.int .i64 t_2c1), false), ((V.str t_2c2), false), ((V.slice 3 90 t_2c3), true), ((V.slice 5 30 t_2c4), true)], [], [], [], [], [], [], [], [], [((V.int .i64 out_11c0), false), ((V.int .i64 out_11c1), false), (out_11c2, false), ((V.slice 3 90 out_11c3), true), ((V.slice 5 30 out_11c4), true)], [], [], [], [], [], [], [], [], [], [], [], [], [], [], [], [], [], [], [], [], [], [], [], [], [], [], [], [], [], [], [], [], [], [], [], [], [], [], [], [], [], [], [], [], [], [], [], [], [], [], [], [], [], [], [], [], [], [], [], [], [], [], [], [], [], [], [], [], [], [], [], [], [], [], [], [], [], [], [], [], [], [], [], [], [], [], [], [], [], [], [], [], [], [], [], [], [], [], [], [], [], [], [], [], [], [], [], [], [], [], [], [], [], [], [], [], [], [], [], [], []], σ⟩
noncomputable def rterms2 (call : CallF) (L1 : Nat → Int → Int → Int → Int → ByteArray → List (List V) → List (List V) → Int → Int → V → List (List V) → List (List V) → Sto → Option Res) (rec2 : Nat → Int → Int → Int → ByteArray → List (List V) → List (List V) → Int → Int → V → List (List V) → List (List V) → Sto → Option Res) (r_0 : Nat) (vn_12 : Int) (t_2c0 : Int) (t_2c1 : Int) (t_2c2 : ByteArray) (t_2c3 : List (List V)) (t_2c4 : List (List V)) (out_11c0 : Int) (out_11c1 : Int) (out_11c2 : V) (out_11c3 : List (List V)) (out_11c4 : List (List V)) (σ : Sto) : Option Res :=
  (memGet σ (V.ptr 62 r_0 2) false 1).bind fun m1 =>
  (V.asInt m1 .i64).bind fun i2 =>
  bif (i2 == (0 : Int)) then
  callK call 53 [((V.ptr 62 r_0 0), false)] σ 1 (fun vs3 σ4 =>
  (V.asStr (List.getD vs3 0 cellD).1).bind fun s6 =>
  bif (!(s6.toList == (ByteArray.mk #[41]).toList)) then
  callK call 51 [((V.ptr 62 r_0 0), false)] σ4 1 (fun vs7 σ8 =>
  (grd ((V.fits (List.getD vs7 0 cellD).1 true 3 && true))).bind fun _ =>
  (grd (room (List.length out_11c3 + 1))).bind fun _ =>
  rec2 r_0 vn_12 t_2c0 t_2c1 t_2c2 t_2c3 t_2c4 out_11c0 out_11c1 out_11c2 (out_11c3 ++ [[(V.cell (List.getD vs7 0 cellD).1 0), (V.cell (List.getD vs7 0 cellD).1 1), (V.cell (List.getD vs7 0 cellD).1 2)]]) out_11c4 σ8) (fun p9 σ8 => some (.pan p9, σ8))
  else
  L1 r_0 vn_12 (0 : Int) t_2c0 t_2c1 t_2c2 t_2c3 t_2c4 out_11c0 out_11c1 out_11c2 out_11c3 out_11c4 σ4) (fun p5 σ4 => some (.pan p5, σ4))
  else
  L1 r_0 vn_12 (0 : Int) t_2c0 t_2c1 t_2c2 t_2c3 t_2c4 out_11c0 out_11c1 out_11c2 out_11c3 out_11c4 σ
noncomputable def rterml2 (call : CallF) (n : Nat) : Nat → Nat → Int → Int → Int → ByteArray → List (List V) → List (List V) → Int → Int → V → List (List V) → List (List V) → Sto → Option Res
  | 0 => fun _ _ _ _ _ _ _ _ _ _ _ _ _ => none
  | m + 1 => rterms2 call (rterml1 call n n) (rterml2 call n m)
noncomputable def rtermt2 (r_0 : Nat) (vn_12 : Int) (t_2c0 : Int) (t_2c1 : Int) (t_2c2 : ByteArray) (t_2c3 : List (List V)) (t_2c4 : List (List V)) (out_11c0 : Int) (out_11c1 : Int) (out_11c2 : V) (out_11c3 : List (List V)) (out_11c4 : List (List V)) (σ : Sto) : St := ⟨[.val (V.ptr 62 r_0 0) false, .dead, .lptr 2 0, .dead, .dead, .dead, .dead, .dead, .dead, .dead, .dead, .lptr 11 0, .val (V.int .i64 vn_12) false, .dead, .dead, .dead, .dead, .dead, .dead, .dead, .dead, .dead, .dead, .dead, .dead, .dead, .dead, .dead, .dead, .dead, .dead, .dead, .dead, .dead, .dead, .dead, .dead, .dead, .dead, .dead, .dead, .dead, .dead, .dead, .dead, .dead, .dead, .dead, .dead, .dead, .dead, .dead, .dead, .dead, .dead, .dead, .dead, .dead, .dead, .dead, .dead, .dead, .dead, .dead, .dead, .dead, .dead, .dead, .dead, .dead, .dead, .dead, .dead, .dead, .dead, .dead, .dead, .dead, .dead, .dead, .dead, .dead, .dead, .dead, .dead, .dead, .dead, .dead, .dead, .dead, .dead, .dead, .dead, .dead, .dead, .dead, .dead, .dead, .dead, .dead, .dead, .dead, .dead, .dead, .dead, .dead, .dead, .dead, .dead, .dead, .dead, .dead, .dead, .dead, .dead, .dead, .dead, .dead, .dead, .dead, .dead, .dead, .dead, .dead, .dead, .dead, .dead, .dead, .dead, .dead, .dead, .dead, .dead], [[], [], [((V.int .i64 t_2c0), false), ((V.int .i64 t_2c1), false), ((V.str t_2c2), false), ((V.slice 3 90 t_2c3), true), ((V.slice 5 30 t_2c4), true)], [], [], [], [], [], [], [], [], [((V.int .i64 out_11c0), false), ((V.int .i64 out_11c1), false), (out_11c2, false), ((V.slice 3 90 out_11c3), true), ((V.slice 5 30 out_11c4), true)], [], [], [], [], [], [], [], [], [], [], [], [], [], [], [], [], [], [], [], [], [], [], [], [], [], [], [], [], [], [], [], [], [], [], [], [], [], [], [], [], [], [], [], [], [], [], [], [], [], [], [], [], [], [], [], [], [], [], [], [], [], [], [], [], [], [], [], [], [], [], [], [], [], [], [], [], [], [], [], [], [], [], [], [], [], [], [], [], [], [], [], [], [], [], [], [], [], [], [], [], [], [], [], [], [], [], [], [], [], [], [], [], [], [], [], [], [], [], [], [], []], σ⟩
noncomputable def rterms0 (call : CallF) (L1 : Nat → Int → Int → Int → Int → ByteArray → List (List V) → List (List V) → Int → Int → V → List (List V) → List (List V) → Sto → Option Res) (L2 : Nat → Int → Int → Int → ByteArray → List (List V) → List (List V) → Int → Int → V → List (List V) → List (List V) → Sto → Option Res) (rec0 : Nat → V → V → Int → Int → Int → Int → ByteArray → List (List V) → List (List V) → Sto → Option Res) (r_0 : Nat) (w_6 : V) (wat_7 : V) (k_9 : Int) (i_10 : Int) (t_2c0 : Int) (t_2c1 : Int) (t_2c2 : ByteArray) (t_2c3 : List (List V)) (t_2c4 : List (List V)) (σ : Sto) : Option Res :=
  (V.asSlice (List.getD [(V.slice 1 9 [[V.str (ByteArray.mk #[])], [V.str (ByteArray.mk #[115, 111, 114, 116])], [V.str (ByteArray.mk #[99, 111, 110, 115, 116])], [V.str (ByteArray.mk #[97, 112, 112])], [V.str (ByteArray.mk #[108, 97, 109])], [V.str (ByteArray.mk #[112, 105])], [V.str (ByteArray.mk #[108, 101, 116])]])] 0 V.any) 1 9).bind fun l1 =>
  bif (decide (i_10 < (l1.length : Int))) then
  (V.asSlice (List.getD [(V.slice 1 9 [[V.str (ByteArray.mk #[])], [V.str (ByteArray.mk #[115, 111, 114, 116])], [V.str (ByteArray.mk #[99, 111, 110, 115, 116])], [V.str (ByteArray.mk #[97, 112, 112])], [V.str (ByteArray.mk #[108, 97, 109])], [V.str (ByteArray.mk #[112, 105])], [V.str (ByteArray.mk #[108, 101, 116])]])] 0 V.any) 1 9).bind fun l2 =>
  (grd (decide (0 ≤ i_10) && decide (i_10 < l2.length))).bind fun _ =>
  (V.asStr (List.getD (List.getD l2 (Int.toNat i_10) []) 0 V.any)).bind fun s3 =>
  (V.asStr w_6).bind fun s4 =>
  bif (s3.toList == s4.toList) then
  rec0 r_0 w_6 wat_7 i_10 (IntKind.wrap .i64 (i_10 + (1 : Int))) t_2c0 t_2c1 t_2c2 t_2c3 t_2c4 σ
  else
  rec0 r_0 w_6 wat_7 k_9 (IntKind.wrap .i64 (i_10 + (1 : Int))) t_2c0 t_2c1 t_2c2 t_2c3 t_2c4 σ
  else
  bif (k_9 == (0 : Int)) then
  callK call 48 [((V.ptr 62 r_0 0), false), (wat_7, false)] σ 0 (fun vs5 σ6 =>
  some (.ret [((V.agg [(V.int .i64 (0 : Int)), (V.int .i64 (0 : Int)), (V.str (ByteArray.mk #[])), (V.slice 3 90 []), (V.slice 5 30 [])]), false)], σ6)) (fun p7 σ6 => some (.pan p7, σ6))
  else
  callK call 49 [((V.ptr 62 r_0 0), false)] σ 1 (fun vs8 σ9 =>
  bif (k_9 == (1 : Int)) then
  callK call 51 [((V.ptr 62 r_0 0), false)] σ9 1 (fun vs11 σ12 =>
  (grd ((V.fits (List.getD vs11 0 cellD).1 true 3 && true))).bind fun _ =>
  (grd (room (0 + 1))).bind fun _ =>
  L1 r_0 (0 : Int) (0 : Int) t_2c0 t_2c1 t_2c2 t_2c3 t_2c4 k_9 (0 : Int) (V.str (ByteArray.mk #[])) [[(V.cell (List.getD vs11 0 cellD).1 0), (V.cell (List.getD vs11 0 cellD).1 1), (V.cell (List.getD vs11 0 cellD).1 2)]] [] σ12) (fun p13 σ12 => some (.pan p13, σ12))
  else
  bif (k_9 == (2 : Int)) then
  callK call 52 [((V.ptr 62 r_0 0), false)] σ9 1 (fun vs14 σ15 =>
  (grd (V.fits (List.getD vs14 0 cellD).1 false 1)).bind fun _ =>
  L2 r_0 (0 : Int) t_2c0 t_2c1 t_2c2 t_2c3 t_2c4 k_9 (0 : Int) (List.getD vs14 0 cellD).1 [] [] σ15) (fun p16 σ15 => some (.pan p16, σ15))
  else
  bif (k_9 == (6 : Int)) then
  L1 r_0 (3 : Int) (0 : Int) t_2c0 t_2c1 t_2c2 t_2c3 t_2c4 k_9 (0 : Int) (V.str (ByteArray.mk #[])) [] [] σ9
  else
  L1 r_0 (2 : Int) (0 : Int) t_2c0 t_2c1 t_2c2 t_2c3 t_2c4 k_9 (0 : Int) (V.str (ByteArray.mk #[])) [] [] σ9) (fun p10 σ9 => some (.pan p10, σ9))
noncomputable def rterml0 (call : CallF) (n : Nat) : Nat → Nat → V → V → Int → Int → Int → Int → ByteArray → List (List V) → List (List V) → Sto → Option Res
  | 0 => fun _ _ _ _ _ _ _ _ _ _ _ => none
  | m + 1 => rterms0 call (rterml1 call n n) (rterml2 call n n) (rterml0 call n m)
noncomputable def rtermt0 (r_0 : Nat) (w_6 : V) (wat_7 : V) (k_9 : Int) (i_10 : Int) (t_2c0 : Int) (t_2c1 : Int) (t_2c2 : ByteArray) (t_2c3 : List (List V)) (t_2c4 : List (List V)) (σ : Sto) : St := ⟨[.val (V.ptr 62 r_0 0) false, .dead, .lptr 2 0, .dead, .dead, .dead, .val w_6 false, .val wat_7 false, .dead, .val (V.int .i64 k_9) false, .val (V.int .i64 i_10) false, .dead, .dead, .dead, .dead, .dead, .dead, .dead, .dead, .dead, .dead, .dead, .dead, .dead, .dead, .dead, .dead, .dead, .dead, .dead, .dead, .dead, .dead, .dead, .dead, .dead, .dead, .dead, .dead, .dead, .dead, .dead, .dead, .dead, .dead, .dead, .dead, .dead, .dead, .dead, .dead, .dead, .dead, .dead, .dead, .dead, .dead, .dead, .dead, .dead, .dead, .dead, .dead, .dead, .dead, .dead, .dead, .dead, .dead, .dead, .dead, .dead, .dead, .dead, .dead, .dead, .dead, .dead, .dead, .dead, .dead, .dead, .dead, .dead, .dead, .dead, .dead, .dead, .dead, .dead, .dead, .dead, .dead, .dead, .dead, .dead, .dead, .dead, .dead, .dead, .dead, .dead, .dead, .dead, .dead, .dead, .dead, .dead, .dead, .dead, .dead, .dead, .dead, .dead, .dead, .dead, .dead, .dead, .dead, .dead, .dead, .dead, .dead, .dead, .dead, .dead, .dead, .dead, .dead, .dead, .dead, .dead, .dead], [[], [], [((V.int .i64 t_2c0), false), ((V.int .i64 t_2c1), false), ((V.str t_2c2), false), ((V.slice 3 90 t_2c3), true), ((V.slice 5 30 t_2c4), true)], [], [], [], [], [], [], [], [], [], [], [], [], [], [], [], [], [], [], [], [], [], [], [], [], [], [], [], [], [], [], [], [], [], [], [], [], [], [], [], [], [], [], [], [], [], [], [], [], [], [], [], [], [], [], [], [], [], [], [], [], [], [], [], [], [], [], [], [], [], [], [], [], [], [], [], [], [], [], [], [], [], [], [], [], [], [], [], [], [], [], [], [], [], [], [], [], [], [], [], [], [], [], [], [], [], [], [], [], [], [], [], [], [], [], [], [], [], [], [], [], [], [], [], [], [], [], [], [], [], []], σ⟩
noncomputable def rtermF (call : CallF) (L0 : Nat → V → V → Int → Int → Int → Int → ByteArray → List (List V) → List (List V) → Sto → Option Res) (r_0 : Nat) (σ : Sto) : Option Res :=
  callK call 47 [((V.ptr 62 r_0 0), false)] σ 3 (fun vs1 σ2 =>
  (memGet σ2 (V.ptr 62 r_0 2) false 1).bind fun m4 =>
  (V.asInt m4 .i64).bind fun i5 =>
  bif (i5 != (0 : Int)) then
  some (.ret [((V.agg [(V.int .i64 (0 : Int)), (V.int .i64 (0 : Int)), (V.str (ByteArray.mk #[])), (V.slice 3 90 []), (V.slice 5 30 [])]), false)], σ2)
  else
  (V.asBool (List.getD vs1 2 cellD).1).bind fun b6 =>
  bif (!b6) then
  callK call 48 [((V.ptr 62 r_0 0), false), ((List.getD vs1 1 cellD).1, false)] σ2 0 (fun vs7 σ8 =>
  some (.ret [((V.agg [(V.int .i64 (0 : Int)), (V.int .i64 (0 : Int)), (V.str (ByteArray.mk #[])), (V.slice 3 90 []), (V.slice 5 30 [])]), false)], σ8)) (fun p9 σ8 => some (.pan p9, σ8))
  else
  (V.asStr (List.getD vs1 0 cellD).1).bind fun s10 =>
  bif (s10.toList == (ByteArray.mk #[]).toList) then
  callK call 48 [((V.ptr 62 r_0 0), false), ((List.getD vs1 1 cellD).1, false)] σ2 0 (fun vs11 σ12 =>
  some (.ret [((V.agg [(V.int .i64 (0 : Int)), (V.int .i64 (0 : Int)), (V.str (ByteArray.mk #[])), (V.slice 3 90 []), (V.slice 5 30 [])]), false)], σ12)) (fun p13 σ12 => some (.pan p13, σ12))
  else
  (V.asStr (List.getD vs1 0 cellD).1).bind fun s14 =>
  (grd (decide (0 ≤ (0 : Int)) && decide ((0 : Int) < s14.size))).bind fun _ =>
  bif ((byteAt s14 (Int.toNat (0 : Int))) != (35 : Int)) then
  (V.asStr (List.getD vs1 0 cellD).1).bind fun s15 =>
  bif (!(s15.toList == (ByteArray.mk #[40]).toList)) then
  callK call 48 [((V.ptr 62 r_0 0), false), ((List.getD vs1 1 cellD).1, false)] σ2 0 (fun vs16 σ17 =>
  some (.ret [((V.agg [(V.int .i64 (0 : Int)), (V.int .i64 (0 : Int)), (V.str (ByteArray.mk #[])), (V.slice 3 90 []), (V.slice 5 30 [])]), false)], σ17)) (fun p18 σ17 => some (.pan p18, σ17))
  else
  callK call 49 [((V.ptr 62 r_0 0), false)] σ2 1 (fun vs19 σ20 =>
  (V.asStr (List.getD vs1 0 cellD).1).bind fun s22 =>
  bif (!(s22.toList == (ByteArray.mk #[40]).toList)) then
  (V.asStr (List.getD vs1 0 cellD).1).bind fun s23 =>
  (grd (decide (0 ≤ (1 : Int)) && decide ((1 : Int) ≤ (s23.size : Int)) && decide ((s23.size : Int) ≤ s23.size))).bind fun _ =>
  callK call 50 [((V.str (s23.extract (Int.toNat (1 : Int)) (Int.toNat (s23.size : Int)))), false)] σ20 1 (fun vs24 σ25 =>
  (grd ((V.fits (List.getD vs24 0 cellD).1 false 1 && true))).bind fun _ =>
  some (.ret [((V.agg [(V.int .i64 (0 : Int)), (List.getD vs24 0 cellD).1, (V.str (ByteArray.mk #[])), (V.slice 3 90 []), (V.slice 5 30 [])]), false)], σ25)) (fun p26 σ25 => some (.pan p26, σ25))
  else
  callK call 47 [((V.ptr 62 r_0 0), false)] σ20 3 (fun vs27 σ28 =>
  L0 r_0 (List.getD vs27 0 cellD).1 (List.getD vs27 1 cellD).1 (0 : Int) (1 : Int) (0 : Int) (0 : Int) (ByteArray.mk #[]) [] [] σ28) (fun p29 σ28 => some (.pan p29, σ28))) (fun p21 σ20 => some (.pan p21, σ20))
  else
  callK call 49 [((V.ptr 62 r_0 0), false)] σ2 1 (fun vs30 σ31 =>
  (V.asStr (List.getD vs1 0 cellD).1).bind fun s33 =>
  bif (!(s33.toList == (ByteArray.mk #[40]).toList)) then
  (V.asStr (List.getD vs1 0 cellD).1).bind fun s34 =>
  (grd (decide (0 ≤ (1 : Int)) && decide ((1 : Int) ≤ (s34.size : Int)) && decide ((s34.size : Int) ≤ s34.size))).bind fun _ =>
  callK call 50 [((V.str (s34.extract (Int.toNat (1 : Int)) (Int.toNat (s34.size : Int)))), false)] σ31 1 (fun vs35 σ36 =>
  (grd ((V.fits (List.getD vs35 0 cellD).1 false 1 && true))).bind fun _ =>
  some (.ret [((V.agg [(V.int .i64 (0 : Int)), (List.getD vs35 0 cellD).1, (V.str (ByteArray.mk #[])), (V.slice 3 90 []), (V.slice 5 30 [])]), false)], σ36)) (fun p37 σ36 => some (.pan p37, σ36))
  else
  callK call 47 [((V.ptr 62 r_0 0), false)] σ31 3 (fun vs38 σ39 =>
  L0 r_0 (List.getD vs38 0 cellD).1 (List.getD vs38 1 cellD).1 (0 : Int) (1 : Int) (0 : Int) (0 : Int) (ByteArray.mk #[]) [] [] σ39) (fun p40 σ39 => some (.pan p40, σ39))) (fun p32 σ31 => some (.pan p32, σ31))) (fun p3 σ2 => some (.pan p3, σ2))
noncomputable def rterm (call : CallF) (n : Nat) (r_0 : Nat) (σ : Sto) : Option Res := rtermF call (rterml0 call n n) r_0 σ
theorem rterms1_eq (call : CallF) (n : Nat) (F1 : St → Option Res) (r_0 : Nat) (vn_12 : Int) (i_13 : Int) (t_2c0 : Int) (t_2c1 : Int) (t_2c2 : ByteArray) (t_2c3 : List (List V)) (t_2c4 : List (List V)) (out_11c0 : Int) (out_11c1 : Int) (out_11c2 : V) (out_11c3 : List (List V)) (out_11c4 : List (List V)) (σ : Sto) :
    aexec C rtermH call n (codeL (codeL (codeR (codeL (codeR (codeR (codeR (codeR (codeR (codeR (codeR (codeR (codeR (codeR (codeR (codeR (codeR (codeR rtermC)))))))))))))))))) 0 (rtermt1 r_0 vn_12 i_13 t_2c0 t_2c1 t_2c2 t_2c3 t_2c4 out_11c0 out_11c1 out_11c2 out_11c3 out_11c4 σ) (kloop rtermk1 F1 (kblk 5 (kseq (fun st' => aexec C rtermH call n (codeR (codeR (codeR (codeR (codeR (codeR (codeR (codeR (codeR (codeR (codeR (codeR (codeR (codeR (codeR rtermC))))))))))))))) 0 st' (kfin C rtermD)) (kfin C rtermD)))) =
    rterms1 call (fun r_0 vn_12 i_13 t_2c0 t_2c1 t_2c2 t_2c3 t_2c4 out_11c0 out_11c1 out_11c2 out_11c3 out_11c4 σ => F1 (rtermt1 r_0 vn_12 i_13 t_2c0 t_2c1 t_2c2 t_2c3 t_2c4 out_11c0 out_11c1 out_11c2 out_11c3 out_11c4 σ)) r_0 vn_12 i_13 t_2c0 t_2c1 t_2c2 t_2c3 t_2c4 out_11c0 out_11c1 out_11c2 out_11c3 out_11c4 σ := by kernel_rfl
theorem rterml1_eq (call : CallF) (n : Nat) : ∀ (m : Nat) (r_0 : Nat) (vn_12 : Int) (i_13 : Int) (t_2c0 : Int) (t_2c1 : Int) (t_2c2 : ByteArray) (t_2c3 : List (List V)) (t_2c4 : List (List V)) (out_11c0 : Int) (out_11c1 : Int) (out_11c2 : V) (out_11c3 : List (List V)) (out_11c4 : List (List V)) (σ : Sto),
    aloop (fun st K => aexec C rtermH call n (codeL (codeL (codeR (codeL (codeR (codeR (codeR (codeR (codeR (codeR (codeR (codeR (codeR (codeR (codeR (codeR (codeR (codeR rtermC)))))))))))))))))) 0 st K) rtermk1 m (rtermt1 r_0 vn_12 i_13 t_2c0 t_2c1 t_2c2 t_2c3 t_2c4 out_11c0 out_11c1 out_11c2 out_11c3 out_11c4 σ) (kblk 5 (kseq (fun st' => aexec C rtermH call n (codeR (codeR (codeR (codeR (codeR (codeR (codeR (codeR (codeR (codeR (codeR (codeR (codeR (codeR (codeR rtermC))))))))))))))) 0 st' (kfin C rtermD)) (kfin C rtermD))) = rterml1 call n m r_0 vn_12 i_13 t_2c0 t_2c1 t_2c2 t_2c3 t_2c4 out_11c0 out_11c1 out_11c2 out_11c3 out_11c4 σ
  | 0, r_0, vn_12, i_13, t_2c0, t_2c1, t_2c2, t_2c3, t_2c4, out_11c0, out_11c1, out_11c2, out_11c3, out_11c4, σ => rfl
  | m + 1, r_0, vn_12, i_13, t_2c0, t_2c1, t_2c2, t_2c3, t_2c4, out_11c0, out_11c1, out_11c2, out_11c3, out_11c4, σ => by
    rw [aloop, rterms1_eq]
    simp only [rterml1_eq call n m]
    rfl
theorem rterms2_eq (call : CallF) (n : Nat) (F2 : St → Option Res) (r_0 : Nat) (vn_12 : Int) (t_2c0 : Int) (t_2c1 : Int) (t_2c2 : ByteArray) (t_2c3 : List (List V)) (t_2c4 : List (List V)) (out_11c0 : Int) (out_11c1 : Int) (out_11c2 : V) (out_11c3 : List (List V)) (out_11c4 : List (List V)) (σ : Sto) :
    aexec C rtermH call n (codeL (codeL (codeR (codeR (codeL (codeR (codeR (codeR (codeL (codeR (codeL (codeR (codeR (codeR (codeR (codeR (codeR (codeR (codeR (codeR (codeR (codeR (codeR (codeR rtermC)))))))))))))))))))))))) 0 (rtermt2 r_0 vn_12 t_2c0 t_2c1 t_2c2 t_2c3 t_2c4 out_11c0 out_11c1 out_11c2 out_11c3 out_11c4 σ) (kloop rtermk2 F2 (kblk 3 (kblk 2 (kseq (fun st' => aexec C rtermH call n (codeR (codeR (codeR (codeR (codeR (codeR (codeR (codeR (codeR (codeR (codeR (codeR (codeR (codeR rtermC)))))))))))))) 0 st' (kfin C rtermD)) (kfin C rtermD))))) =
    rterms2 call (fun r_0 vn_12 i_13 t_2c0 t_2c1 t_2c2 t_2c3 t_2c4 out_11c0 out_11c1 out_11c2 out_11c3 out_11c4 σ => aloop (fun st K => aexec C rtermH call n (codeL (codeL (codeR (codeL (codeR (codeR (codeR (codeR (codeR (codeR (codeR (codeR (codeR (codeR (codeR (codeR (codeR (codeR rtermC)))))))))))))))))) 0 st K) rtermk1 n (rtermt1 r_0 vn_12 i_13 t_2c0 t_2c1 t_2c2 t_2c3 t_2c4 out_11c0 out_11c1 out_11c2 out_11c3 out_11c4 σ) (kblk 5 (kseq (fun st' => aexec C rtermH call n (codeR (codeR (codeR (codeR (codeR (codeR (codeR (codeR (codeR (codeR (codeR (codeR (codeR (codeR (codeR rtermC))))))))))))))) 0 st' (kfin C rtermD)) (kfin C rtermD)))) (fun r_0 vn_12 t_2c0 t_2c1 t_2c2 t_2c3 t_2c4 out_11c0 out_11c1 out_11c2 out_11c3 out_11c4 σ => F2 (rtermt2 r_0 vn_12 t_2c0 t_2c1 t_2c2 t_2c3 t_2c4 out_11c0 out_11c1 out_11c2 out_11c3 out_11c4 σ)) r_0 vn_12 t_2c0 t_2c1 t_2c2 t_2c3 t_2c4 out_11c0 out_11c1 out_11c2 out_11c3 out_11c4 σ := by kernel_rfl
theorem rterml2_eq (call : CallF) (n : Nat) : ∀ (m : Nat) (r_0 : Nat) (vn_12 : Int) (t_2c0 : Int) (t_2c1 : Int) (t_2c2 : ByteArray) (t_2c3 : List (List V)) (t_2c4 : List (List V)) (out_11c0 : Int) (out_11c1 : Int) (out_11c2 : V) (out_11c3 : List (List V)) (out_11c4 : List (List V)) (σ : Sto),
    aloop (fun st K => aexec C rtermH call n (codeL (codeL (codeR (codeR (codeL (codeR (codeR (codeR (codeL (codeR (codeL (codeR (codeR (codeR (codeR (codeR (codeR (codeR (codeR (codeR (codeR (codeR (codeR (codeR rtermC)))))))))))))))))))))))) 0 st K) rtermk2 m (rtermt2 r_0 vn_12 t_2c0 t_2c1 t_2c2 t_2c3 t_2c4 out_11c0 out_11c1 out_11c2 out_11c3 out_11c4 σ) (kblk 3 (kblk 2 (kseq (fun st' => aexec C rtermH call n (codeR (codeR (codeR (codeR (codeR (codeR (codeR (codeR (codeR (codeR (codeR (codeR (codeR (codeR rtermC)))))))))))))) 0 st' (kfin C rtermD)) (kfin C rtermD)))) = rterml2 call n m r_0 vn_12 t_2c0 t_2c1 t_2c2 t_2c3 t_2c4 out_11c0 out_11c1 out_11c2 out_11c3 out_11c4 σ
  | 0, r_0, vn_12, t_2c0, t_2c1, t_2c2, t_2c3, t_2c4, out_11c0, out_11c1, out_11c2, out_11c3, out_11c4, σ => rfl
  | m + 1, r_0, vn_12, t_2c0, t_2c1, t_2c2, t_2c3, t_2c4, out_11c0, out_11c1, out_11c2, out_11c3, out_11c4, σ => by
    rw [aloop, rterms2_eq]
    simp only [rterml2_eq call n m, rterml1_eq]
    rfl
theorem rterms0_eq (call : CallF) (n : Nat) (F0 : St → Option Res) (r_0 : Nat) (w_6 : V) (wat_7 : V) (k_9 : Int) (i_10 : Int) (t_2c0 : Int) (t_2c1 : Int) (t_2c2 : ByteArray) (t_2c3 : List (List V)) (t_2c4 : List (List V)) (σ : Sto) :
    aexec C rtermH call n (codeL (codeL (codeR (codeL (codeR (codeR (codeR (codeR (codeR (codeR (codeR (codeR rtermC)))))))))))) 0 (rtermt0 r_0 w_6 wat_7 k_9 i_10 t_2c0 t_2c1 t_2c2 t_2c3 t_2c4 σ) (kloop rtermk0 F0 (kblk 0 (kseq (fun st' => aexec C rtermH call n (codeR (codeR (codeR (codeR (codeR (codeR (codeR (codeR (codeR rtermC))))))))) 0 st' (kfin C rtermD)) (kfin C rtermD)))) =
    rterms0 call (fun r_0 vn_12 i_13 t_2c0 t_2c1 t_2c2 t_2c3 t_2c4 out_11c0 out_11c1 out_11c2 out_11c3 out_11c4 σ => aloop (fun st K => aexec C rtermH call n (codeL (codeL (codeR (codeL (codeR (codeR (codeR (codeR (codeR (codeR (codeR (codeR (codeR (codeR (codeR (codeR (codeR (codeR rtermC)))))))))))))))))) 0 st K) rtermk1 n (rtermt1 r_0 vn_12 i_13 t_2c0 t_2c1 t_2c2 t_2c3 t_2c4 out_11c0 out_11c1 out_11c2 out_11c3 out_11c4 σ) (kblk 5 (kseq (fun st' => aexec C rtermH call n (codeR (codeR (codeR (codeR (codeR (codeR (codeR (codeR (codeR (codeR (codeR (codeR (codeR (codeR (codeR rtermC))))))))))))))) 0 st' (kfin C rtermD)) (kfin C rtermD)))) (fun r_0 vn_12 t_2c0 t_2c1 t_2c2 t_2c3 t_2c4 out_11c0 out_11c1 out_11c2 out_11c3 out_11c4 σ => aloop (fun st K => aexec C rtermH call n (codeL (codeL (codeR (codeR (codeL (codeR (codeR (codeR (codeL (codeR (codeL (codeR (codeR (codeR (codeR (codeR (codeR (codeR (codeR (codeR (codeR (codeR (codeR (codeR rtermC)))))))))))))))))))))))) 0 st K) rtermk2 n (rtermt2 r_0 vn_12 t_2c0 t_2c1 t_2c2 t_2c3 t_2c4 out_11c0 out_11c1 out_11c2 out_11c3 out_11c4 σ) (kblk 3 (kblk 2 (kseq (fun st' => aexec C rtermH call n (codeR (codeR (codeR (codeR (codeR (codeR (codeR (codeR (codeR (codeR (codeR (codeR (codeR (codeR rtermC)))))))))))))) 0 st' (kfin C rtermD)) (kfin C rtermD))))) (fun r_0 w_6 wat_7 k_9 i_10 t_2c0 t_2c1 t_2c2 t_2c3 t_2c4 σ => F0 (rtermt0 r_0 w_6 wat_7 k_9 i_10 t_2c0 t_2c1 t_2c2 t_2c3 t_2c4 σ)) r_0 w_6 wat_7 k_9 i_10 t_2c0 t_2c1 t_2c2 t_2c3 t_2c4 σ := by kernel_rfl
theorem rterml0_eq (call : CallF) (n : Nat) : ∀ (m : Nat) (r_0 : Nat) (w_6 : V) (wat_7 : V) (k_9 : Int) (i_10 : Int) (t_2c0 : Int) (t_2c1 : Int) (t_2c2 : ByteArray) (t_2c3 : List (List V)) (t_2c4 : List (List V)) (σ : Sto),
    aloop (fun st K => aexec C rtermH call n (codeL (codeL (codeR (codeL (codeR (codeR (codeR (codeR (codeR (codeR (codeR (codeR rtermC)))))))))))) 0 st K) rtermk0 m (rtermt0 r_0 w_6 wat_7 k_9 i_10 t_2c0 t_2c1 t_2c2 t_2c3 t_2c4 σ) (kblk 0 (kseq (fun st' => aexec C rtermH call n (codeR (codeR (codeR (codeR (codeR (codeR (codeR (codeR (codeR rtermC))))))))) 0 st' (kfin C rtermD)) (kfin C rtermD))) = rterml0 call n m r_0 w_6 wat_7 k_9 i_10 t_2c0 t_2c1 t_2c2 t_2c3 t_2c4 σ
  | 0, r_0, w_6, wat_7, k_9, i_10, t_2c0, t_2c1, t_2c2, t_2c3, t_2c4, σ => rfl
  | m + 1, r_0, w_6, wat_7, k_9, i_10, t_2c0, t_2c1, t_2c2, t_2c3, t_2c4, σ => by
    rw [aloop, rterms0_eq]
    simp only [rterml0_eq call n m, rterml1_eq, rterml2_eq]
    rfl
theorem rterm_eqF (call : CallF) (n : Nat) (r_0 : Nat) (σ : Sto) : afun C rtermD call n [((V.ptr 62 r_0 0), false)] σ =
    rtermF call (fun r_0 w_6 wat_7 k_9 i_10 t_2c0 t_2c1 t_2c2 t_2c3 t_2c4 σ => aloop (fun st K => aexec C rtermH call n (codeL (codeL (codeR (codeL (codeR (codeR (codeR (codeR (codeR (codeR (codeR (codeR rtermC)))))))))))) 0 st K) rtermk0 n (rtermt0 r_0 w_6 wat_7 k_9 i_10 t_2c0 t_2c1 t_2c2 t_2c3 t_2c4 σ) (kblk 0 (kseq (fun st' => aexec C rtermH call n (codeR (codeR (codeR (codeR (codeR (codeR (codeR (codeR (codeR rtermC))))))))) 0 st' (kfin C rtermD)) (kfin C rtermD)))) r_0 σ := by kernel_rfl
theorem rterm_eq (call : CallF) (n : Nat) (r_0 : Nat) (σ : Sto) : afun C rtermD call n [((V.ptr 62 r_0 0), false)] σ = rterm call n r_0 σ := by
  rw [rterm_eqF]
  simp only [rterml0_eq]
  rfl
theorem rterm_call (n : Nat) (r_0 : Nat) (σ : Sto) : acall C (n + 1) 24 [((V.ptr 62 r_0 0), false)] σ = rterm (acall C n) n r_0 σ :=
  (show acall C (n + 1) 24 [((V.ptr 62 r_0 0), false)] σ = afun C rtermD (acall C n) n [((V.ptr 62 r_0 0), false)] σ by kernel_rfl).trans (rterm_eq _ _ r_0 σ)
theorem rterm_lim {n : Nat} {r_0 : Nat} {b0 : Bool} {σ : Sto} {r : Res} (h : rterm (lim C) n r_0 σ = some r) : lim C 24 [((V.ptr 62 r_0 0), b0)] σ = some r :=
  lim_of (d := rtermD) (by kernel_rfl) (by kernel_rfl) n (show afun C rtermD (lim C) n [((V.ptr 62 r_0 0), false)] σ = some r from (rterm_eq (lim C) n r_0 σ).trans h)
/-! provekernelref.ParseTerm -/
noncomputable def parseTermF (call : CallF) (s_0 : ByteArray) (σ : Sto) : Option Res :=
  bif (decide ((s_0.size : Int) > (20000 : Int))) then
  some (.ret [((V.agg [(V.int .i64 (0 : Int)), (V.int .i64 (0 : Int)), (V.str (ByteArray.mk #[])), (V.slice 3 90 []), (V.slice 5 30 [])]), false), ((V.agg [(V.int .i64 (2 : Int)), (V.int .i64 (0 : Int))]), false)], σ)
  else
  callK call 24 [((V.ptr 62 (List.length σ) 0), false)] (σ ++ [[((V.str s_0), false), ((V.int .i64 (0 : Int)), false), ((V.int .i64 (0 : Int)), false), ((V.int .i64 (0 : Int)), false)]]) 1 (fun vs1 σ2 =>
  (grd (V.fits (List.getD vs1 0 cellD).1 true 5)).bind fun _ =>
  callK call 25 [((V.ptr 62 (List.length σ) 0), false)] σ2 1 (fun vs4 σ5 =>
  (grd (V.fits (List.getD vs4 0 cellD).1 true 2)).bind fun _ =>
  (V.asInt (V.cell (List.getD vs4 0 cellD).1 0) .i64).bind fun i7 =>
  bif (i7 != (0 : Int)) then
  some (.ret [((V.agg [(V.int .i64 (0 : Int)), (V.int .i64 (0 : Int)), (V.str (ByteArray.mk #[])), (V.slice 3 90 []), (V.slice 5 30 [])]), false), ((V.agg [(V.cell (List.getD vs4 0 cellD).1 0), (V.cell (List.getD vs4 0 cellD).1 1)]), false)], σ5)
  else
  some (.ret [((V.agg [(V.cell (List.getD vs1 0 cellD).1 0), (V.cell (List.getD vs1 0 cellD).1 1), (V.cell (List.getD vs1 0 cellD).1 2), (V.cell (List.getD vs1 0 cellD).1 3), (V.cell (List.getD vs1 0 cellD).1 4)]), false), ((V.agg [(V.cell (List.getD vs4 0 cellD).1 0), (V.cell (List.getD vs4 0 cellD).1 1)]), false)], σ5)) (fun p6 σ5 => some (.pan p6, σ5))) (fun p3 σ2 => some (.pan p3, σ2))
noncomputable def parseTerm (call : CallF) (n : Nat) (s_0 : ByteArray) (σ : Sto) : Option Res := parseTermF call s_0 σ
theorem parseTerm_eqF (call : CallF) (n : Nat) (s_0 : ByteArray) (σ : Sto) : afun C parseTermD call n [((V.str s_0), false)] σ =
    parseTermF call s_0 σ := by kernel_rfl
theorem parseTerm_eq (call : CallF) (n : Nat) (s_0 : ByteArray) (σ : Sto) : afun C parseTermD call n [((V.str s_0), false)] σ = parseTerm call n s_0 σ := parseTerm_eqF call n s_0 σ
theorem parseTerm_call (n : Nat) (s_0 : ByteArray) (σ : Sto) : acall C (n + 1) 8 [((V.str s_0), false)] σ = parseTerm (acall C n) n s_0 σ :=
  (show acall C (n + 1) 8 [((V.str s_0), false)] σ = afun C parseTermD (acall C n) n [((V.str s_0), false)] σ by kernel_rfl).trans (parseTerm_eq _ _ s_0 σ)
theorem parseTerm_lim {n : Nat} {s_0 : ByteArray} {b0 : Bool} {σ : Sto} {r : Res} (h : parseTerm (lim C) n s_0 σ = some r) : lim C 8 [((V.str s_0), b0)] σ = some r :=
  lim_of (d := parseTermD) (by kernel_rfl) (by kernel_rfl) n (show afun C parseTermD (lim C) n [((V.str s_0), false)] σ = some r from (parseTerm_eq (lim C) n s_0 σ).trans h)
/-! provekernelref.SameTerm -/
noncomputable def sameTermF (call : CallF) (a_0_0 : Int) (a_0_1 : Int) (a_0_2 : ByteArray) (a_0_3 : List (List V)) (a_0_4 : List (List V)) (b_1_0 : Int) (b_1_1 : Int) (b_1_2 : ByteArray) (b_1_3 : List (List V)) (b_1_4 : List (List V)) (σ : Sto) : Option Res :=
  callK call 27 [((V.agg [(V.int .i64 a_0_0), (V.int .i64 a_0_1), (V.str a_0_2), (V.slice 3 90 a_0_3), (V.slice 5 30 a_0_4)]), false), ((V.agg [(V.int .i64 b_1_0), (V.int .i64 b_1_1), (V.str b_1_2), (V.slice 3 90 b_1_3), (V.slice 5 30 b_1_4)]), false), ((V.bool false), false)] σ 1 (fun vs1 σ2 =>
  some (.ret [((List.getD vs1 0 cellD).1, false)], σ2)) (fun p3 σ2 => some (.pan p3, σ2))
noncomputable def sameTerm (call : CallF) (n : Nat) (a_0_0 : Int) (a_0_1 : Int) (a_0_2 : ByteArray) (a_0_3 : List (List V)) (a_0_4 : List (List V)) (b_1_0 : Int) (b_1_1 : Int) (b_1_2 : ByteArray) (b_1_3 : List (List V)) (b_1_4 : List (List V)) (σ : Sto) : Option Res := sameTermF call a_0_0 a_0_1 a_0_2 a_0_3 a_0_4 b_1_0 b_1_1 b_1_2 b_1_3 b_1_4 σ
theorem sameTerm_eqF (call : CallF) (n : Nat) (a_0_0 : Int) (a_0_1 : Int) (a_0_2 : ByteArray) (a_0_3 : List (List V)) (a_0_4 : List (List V)) (b_1_0 : Int) (b_1_1 : Int) (b_1_2 : ByteArray) (b_1_3 : List (List V)) (b_1_4 : List (List V)) (σ : Sto) : afun C sameTermD call n [((V.agg [(V.int .i64 a_0_0), (V.int .i64 a_0_1), (V.str a_0_2), (V.slice 3 90 a_0_3), (V.slice 5 30 a_0_4)]), false), ((V.agg [(V.int .i64 b_1_0), (V.int .i64 b_1_1), (V.str b_1_2), (V.slice 3 90 b_1_3), (V.slice 5 30 b_1_4)]), false)] σ =
    sameTermF call a_0_0 a_0_1 a_0_2 a_0_3 a_0_4 b_1_0 b_1_1 b_1_2 b_1_3 b_1_4 σ := by kernel_rfl
theorem sameTerm_eq (call : CallF) (n : Nat) (a_0_0 : Int) (a_0_1 : Int) (a_0_2 : ByteArray) (a_0_3 : List (List V)) (a_0_4 : List (List V)) (b_1_0 : Int) (b_1_1 : Int) (b_1_2 : ByteArray) (b_1_3 : List (List V)) (b_1_4 : List (List V)) (σ : Sto) : afun C sameTermD call n [((V.agg [(V.int .i64 a_0_0), (V.int .i64 a_0_1), (V.str a_0_2), (V.slice 3 90 a_0_3), (V.slice 5 30 a_0_4)]), false), ((V.agg [(V.int .i64 b_1_0), (V.int .i64 b_1_1), (V.str b_1_2), (V.slice 3 90 b_1_3), (V.slice 5 30 b_1_4)]), false)] σ = sameTerm call n a_0_0 a_0_1 a_0_2 a_0_3 a_0_4 b_1_0 b_1_1 b_1_2 b_1_3 b_1_4 σ := sameTerm_eqF call n a_0_0 a_0_1 a_0_2 a_0_3 a_0_4 b_1_0 b_1_1 b_1_2 b_1_3 b_1_4 σ
theorem sameTerm_call (n : Nat) (a_0_0 : Int) (a_0_1 : Int) (a_0_2 : ByteArray) (a_0_3 : List (List V)) (a_0_4 : List (List V)) (b_1_0 : Int) (b_1_1 : Int) (b_1_2 : ByteArray) (b_1_3 : List (List V)) (b_1_4 : List (List V)) (σ : Sto) : acall C (n + 1) 10 [((V.agg [(V.int .i64 a_0_0), (V.int .i64 a_0_1), (V.str a_0_2), (V.slice 3 90 a_0_3), (V.slice 5 30 a_0_4)]), false), ((V.agg [(V.int .i64 b_1_0), (V.int .i64 b_1_1), (V.str b_1_2), (V.slice 3 90 b_1_3), (V.slice 5 30 b_1_4)]), false)] σ = sameTerm (acall C n) n a_0_0 a_0_1 a_0_2 a_0_3 a_0_4 b_1_0 b_1_1 b_1_2 b_1_3 b_1_4 σ :=
  (show acall C (n + 1) 10 [((V.agg [(V.int .i64 a_0_0), (V.int .i64 a_0_1), (V.str a_0_2), (V.slice 3 90 a_0_3), (V.slice 5 30 a_0_4)]), false), ((V.agg [(V.int .i64 b_1_0), (V.int .i64 b_1_1), (V.str b_1_2), (V.slice 3 90 b_1_3), (V.slice 5 30 b_1_4)]), false)] σ = afun C sameTermD (acall C n) n [((V.agg [(V.int .i64 a_0_0), (V.int .i64 a_0_1), (V.str a_0_2), (V.slice 3 90 a_0_3), (V.slice 5 30 a_0_4)]), false), ((V.agg [(V.int .i64 b_1_0), (V.int .i64 b_1_1), (V.str b_1_2), (V.slice 3 90 b_1_3), (V.slice 5 30 b_1_4)]), false)] σ by kernel_rfl).trans (sameTerm_eq _ _ a_0_0 a_0_1 a_0_2 a_0_3 a_0_4 b_1_0 b_1_1 b_1_2 b_1_3 b_1_4 σ)
theorem sameTerm_lim {n : Nat} {a_0_0 : Int} {a_0_1 : Int} {a_0_2 : ByteArray} {a_0_3 : List (List V)} {a_0_4 : List (List V)} {b_1_0 : Int} {b_1_1 : Int} {b_1_2 : ByteArray} {b_1_3 : List (List V)} {b_1_4 : List (List V)} {b0 b1 : Bool} {σ : Sto} {r : Res} (h : sameTerm (lim C) n a_0_0 a_0_1 a_0_2 a_0_3 a_0_4 b_1_0 b_1_1 b_1_2 b_1_3 b_1_4 σ = some r) : lim C 10 [((V.agg [(V.int .i64 a_0_0), (V.int .i64 a_0_1), (V.str a_0_2), (V.slice 3 90 a_0_3), (V.slice 5 30 a_0_4)]), b0), ((V.agg [(V.int .i64 b_1_0), (V.int .i64 b_1_1), (V.str b_1_2), (V.slice 3 90 b_1_3), (V.slice 5 30 b_1_4)]), b1)] σ = some r :=
  lim_of (d := sameTermD) (by kernel_rfl) (by kernel_rfl) n (show afun C sameTermD (lim C) n [((V.agg [(V.int .i64 a_0_0), (V.int .i64 a_0_1), (V.str a_0_2), (V.slice 3 90 a_0_3), (V.slice 5 30 a_0_4)]), false), ((V.agg [(V.int .i64 b_1_0), (V.int .i64 b_1_1), (V.str b_1_2), (V.slice 3 90 b_1_3), (V.slice 5 30 b_1_4)]), false)] σ = some r from (sameTerm_eq (lim C) n a_0_0 a_0_1 a_0_2 a_0_3 a_0_4 b_1_0 b_1_1 b_1_2 b_1_3 b_1_4 σ).trans h)
end Go.Ab.Mk
