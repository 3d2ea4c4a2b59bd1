/- AbMk1: printed by program: functions of the program, their code told as plain Lean, and the equations. AbMk2: printed by program: functions of the program, their code told as plain Lean, and the equations. -/
import Derived.Test.YtcpdcpgblcapeaaDoorAbMk0
set_option linter.unusedSimpArgs false
set_option linter.unusedVariables false
set_option linter.deprecated false
section
set_option maxRecDepth 100000
namespace Go.Ab.Mk
open Go.Proofs Go.Ab
/-! provekernelref.ParseLevel -/
noncomputable def parseLevelF (call : CallF) (s_0 : ByteArray) (σ : Sto) : Option Res :=
  bif (decide ((s_0.size : Int) > (20000 : Int))) then
  some (.ret [((V.agg [(V.int .i64 (0 : Int)), (V.str (ByteArray.mk #[])), (V.slice 3 31 [])]), false), ((V.agg [(V.int .i64 (2 : Int)), (V.int .i64 (0 : Int))]), false)], σ)
  else
  callK call 25 [((V.ptr 53 (List.length σ) 0), false)] (σ ++ [[((V.str s_0), false), ((V.int .i64 (0 : Int)), false), ((V.int .i64 (0 : Int)), false), ((V.int .i64 (0 : Int)), false)]]) 1 (fun vs1 σ2 =>
  (grd (V.fits (List.getD vs1 0 cellD).1 true 3)).bind fun _ =>
  callK call 26 [((V.ptr 53 (List.length σ) 0), false)] σ2 1 (fun vs4 σ5 =>
  (grd (V.fits (List.getD vs4 0 cellD).1 true 2)).bind fun _ =>
  (V.asInt (V.cell (List.getD vs4 0 cellD).1 0) .i64).bind fun i7 =>
  bif (i7 != (0 : Int)) then
  some (.ret [((V.agg [(V.int .i64 (0 : Int)), (V.str (ByteArray.mk #[])), (V.slice 3 31 [])]), false), ((V.agg [(V.cell (List.getD vs4 0 cellD).1 0), (V.cell (List.getD vs4 0 cellD).1 1)]), false)], σ5)
  else
  some (.ret [((V.agg [(V.cell (List.getD vs1 0 cellD).1 0), (V.cell (List.getD vs1 0 cellD).1 1), (V.cell (List.getD vs1 0 cellD).1 2)]), false), ((V.agg [(V.cell (List.getD vs4 0 cellD).1 0), (V.cell (List.getD vs4 0 cellD).1 1)]), false)], σ5)) (fun p6 σ5 => some (.pan p6, σ5))) (fun p3 σ2 => some (.pan p3, σ2))
noncomputable def parseLevel (call : CallF) (n : Nat) (s_0 : ByteArray) (σ : Sto) : Option Res := parseLevelF call s_0 σ
theorem parseLevel_eqF (call : CallF) (n : Nat) (s_0 : ByteArray) (σ : Sto) : afun C parseLevelD call n [((V.str s_0), false)] σ =
    parseLevelF call s_0 σ := by kernel_rfl
theorem parseLevel_eq (call : CallF) (n : Nat) (s_0 : ByteArray) (σ : Sto) : afun C parseLevelD call n [((V.str s_0), false)] σ = parseLevel call n s_0 σ := parseLevel_eqF call n s_0 σ
theorem parseLevel_call (n : Nat) (s_0 : ByteArray) (σ : Sto) : acall C (n + 1) 9 [((V.str s_0), false)] σ = parseLevel (acall C n) n s_0 σ :=
  (show acall C (n + 1) 9 [((V.str s_0), false)] σ = afun C parseLevelD (acall C n) n [((V.str s_0), false)] σ by kernel_rfl).trans (parseLevel_eq _ _ s_0 σ)
theorem parseLevel_lim {n : Nat} {s_0 : ByteArray} {b0 : Bool} {σ : Sto} {r : Res} (h : parseLevel (lim C) n s_0 σ = some r) : lim C 9 [((V.str s_0), b0)] σ = some r :=
  lim_of (d := parseLevelD) (by kernel_rfl) (by kernel_rfl) n (show afun C parseLevelD (lim C) n [((V.str s_0), false)] σ = some r from (parseLevel_eq (lim C) n s_0 σ).trans h)
/-! provekernelref.Params -/
noncomputable def rparamsk0 : List Nat := [1, 2, 6]
noncomputable def rparamss0 (call : CallF) (rec0 : V → Int → Int → ByteArray → List (List V) → Sto → Option Res) (ahead_1 : V) (i_6 : Int) (l_2c0 : Int) (l_2c1 : ByteArray) (l_2c2 : List (List V)) (σ : Sto) : Option Res :=
  bif (decide (i_6 < (l_2c2.length : Int))) then
  (grd (decide (0 ≤ i_6) && decide (i_6 < l_2c2.length))).bind fun _ =>
  callK call 10 [((V.agg [(List.getD (List.getD l_2c2 (Int.toNat i_6) []) 0 V.any), (List.getD (List.getD l_2c2 (Int.toNat i_6) []) 1 V.any), (List.getD (List.getD l_2c2 (Int.toNat i_6) []) 2 V.any)]), false), (ahead_1, true)] σ 1 (fun vs1 σ2 =>
  (grd ((List.getD vs1 0 cellD).2 && true)).bind fun _ =>
  rec0 (List.getD vs1 0 cellD).1 (IntKind.wrap .i64 (i_6 + (1 : Int))) l_2c0 l_2c1 l_2c2 σ2) (fun p3 σ2 => some (.pan p3, σ2))
  else
  some (.ret [(ahead_1, true)], σ)
noncomputable def rparamsl0 (call : CallF) (n : Nat) : Nat → V → Int → Int → ByteArray → List (List V) → Sto → Option Res
  | 0 => fun _ _ _ _ _ _ => none
  | m + 1 => rparamss0 call (rparamsl0 call n m)
noncomputable def rparamst0 (ahead_1 : V) (i_6 : Int) (l_2c0 : Int) (l_2c1 : ByteArray) (l_2c2 : List (List V)) (σ : Sto) : St := ⟨[.dead, .val ahead_1 true, .lptr 2 0, .dead, .dead, .dead, .val (V.int .i64 i_6) false, .dead, .dead, .dead, .dead, .dead, .dead, .dead, .dead, .dead, .dead, .dead, .dead, .dead, .dead, .dead, .dead, .dead, .dead, .dead, .dead, .dead, .dead, .dead, .dead, .dead, .dead, .dead, .dead, .dead, .dead], [[], [], [((V.int .i64 l_2c0), false), ((V.str l_2c1), false), ((V.slice 3 31 l_2c2), false)], [], [], [], [], [], [], [], [], [], [], [], [], [], [], [], [], [], [], [], [], [], [], [], [], [], [], [], [], [], [], [], [], [], []], σ⟩
noncomputable def rparamsF (call : CallF) (L0 : V → Int → Int → ByteArray → List (List V) → Sto → Option Res) (l_0_0 : Int) (l_0_1 : ByteArray) (l_0_2 : List (List V)) (ahead_1 : List (List V)) (σ : Sto) : Option Res :=
  bif (l_0_0 == (4 : Int)) then
  callK call 27 [((V.str l_0_1), false), ((V.slice 1 9 ahead_1), false)] σ 1 (fun vs1 σ2 =>
  (V.asBool (List.getD vs1 0 cellD).1).bind fun b4 =>
  bif (!b4) then
  (grd (room (List.length ahead_1 + 1))).bind fun _ =>
  some (.ret [((V.slice 1 9 (ahead_1 ++ [[(V.str l_0_1)]])), true)], σ2)
  else
  some (.ret [((V.slice 1 9 ahead_1), true)], σ2)) (fun p3 σ2 => some (.pan p3, σ2))
  else
  L0 (V.slice 1 9 ahead_1) (0 : Int) l_0_0 l_0_1 l_0_2 σ
noncomputable def rparams (call : CallF) (n : Nat) (l_0_0 : Int) (l_0_1 : ByteArray) (l_0_2 : List (List V)) (ahead_1 : List (List V)) (σ : Sto) : Option Res := rparamsF call (rparamsl0 call n n) l_0_0 l_0_1 l_0_2 ahead_1 σ
theorem rparamss0_eq (call : CallF) (n : Nat) (F0 : St → Option Res) (ahead_1 : V) (i_6 : Int) (l_2c0 : Int) (l_2c1 : ByteArray) (l_2c2 : List (List V)) (σ : Sto) :
    aexec C rparamsH call n (codeL (codeL (codeR (codeL (codeR (codeR rparamsC)))))) 0 (rparamst0 ahead_1 i_6 l_2c0 l_2c1 l_2c2 σ) (kloop rparamsk0 F0 (kblk 0 (kseq (fun st' => aexec C rparamsH call n (codeR (codeR (codeR rparamsC))) 0 st' (kfin C rparamsD)) (kfin C rparamsD)))) =
    rparamss0 call (fun ahead_1 i_6 l_2c0 l_2c1 l_2c2 σ => F0 (rparamst0 ahead_1 i_6 l_2c0 l_2c1 l_2c2 σ)) ahead_1 i_6 l_2c0 l_2c1 l_2c2 σ := by kernel_rfl
theorem rparamsl0_eq (call : CallF) (n : Nat) : ∀ (m : Nat) (ahead_1 : V) (i_6 : Int) (l_2c0 : Int) (l_2c1 : ByteArray) (l_2c2 : List (List V)) (σ : Sto),
    aloop (fun st K => aexec C rparamsH call n (codeL (codeL (codeR (codeL (codeR (codeR rparamsC)))))) 0 st K) rparamsk0 m (rparamst0 ahead_1 i_6 l_2c0 l_2c1 l_2c2 σ) (kblk 0 (kseq (fun st' => aexec C rparamsH call n (codeR (codeR (codeR rparamsC))) 0 st' (kfin C rparamsD)) (kfin C rparamsD))) = rparamsl0 call n m ahead_1 i_6 l_2c0 l_2c1 l_2c2 σ
  | 0, ahead_1, i_6, l_2c0, l_2c1, l_2c2, σ => rfl
  | m + 1, ahead_1, i_6, l_2c0, l_2c1, l_2c2, σ => by
    rw [aloop, rparamss0_eq]
    simp only [rparamsl0_eq call n m]
    rfl
theorem rparams_eqF (call : CallF) (n : Nat) (l_0_0 : Int) (l_0_1 : ByteArray) (l_0_2 : List (List V)) (ahead_1 : List (List V)) (σ : Sto) : afun C rparamsD call n [((V.agg [(V.int .i64 l_0_0), (V.str l_0_1), (V.slice 3 31 l_0_2)]), false), ((V.slice 1 9 ahead_1), true)] σ =
    rparamsF call (fun ahead_1 i_6 l_2c0 l_2c1 l_2c2 σ => aloop (fun st K => aexec C rparamsH call n (codeL (codeL (codeR (codeL (codeR (codeR rparamsC)))))) 0 st K) rparamsk0 n (rparamst0 ahead_1 i_6 l_2c0 l_2c1 l_2c2 σ) (kblk 0 (kseq (fun st' => aexec C rparamsH call n (codeR (codeR (codeR rparamsC))) 0 st' (kfin C rparamsD)) (kfin C rparamsD)))) l_0_0 l_0_1 l_0_2 ahead_1 σ := by kernel_rfl
theorem rparams_eq (call : CallF) (n : Nat) (l_0_0 : Int) (l_0_1 : ByteArray) (l_0_2 : List (List V)) (ahead_1 : List (List V)) (σ : Sto) : afun C rparamsD call n [((V.agg [(V.int .i64 l_0_0), (V.str l_0_1), (V.slice 3 31 l_0_2)]), false), ((V.slice 1 9 ahead_1), true)] σ = rparams call n l_0_0 l_0_1 l_0_2 ahead_1 σ := by
  rw [rparams_eqF]
  simp only [rparamsl0_eq]
  rfl
theorem rparams_call (n : Nat) (l_0_0 : Int) (l_0_1 : ByteArray) (l_0_2 : List (List V)) (ahead_1 : List (List V)) (σ : Sto) : acall C (n + 1) 10 [((V.agg [(V.int .i64 l_0_0), (V.str l_0_1), (V.slice 3 31 l_0_2)]), false), ((V.slice 1 9 ahead_1), true)] σ = rparams (acall C n) n l_0_0 l_0_1 l_0_2 ahead_1 σ :=
  (show acall C (n + 1) 10 [((V.agg [(V.int .i64 l_0_0), (V.str l_0_1), (V.slice 3 31 l_0_2)]), false), ((V.slice 1 9 ahead_1), true)] σ = afun C rparamsD (acall C n) n [((V.agg [(V.int .i64 l_0_0), (V.str l_0_1), (V.slice 3 31 l_0_2)]), false), ((V.slice 1 9 ahead_1), true)] σ by kernel_rfl).trans (rparams_eq _ _ l_0_0 l_0_1 l_0_2 ahead_1 σ)
theorem rparams_lim {n : Nat} {l_0_0 : Int} {l_0_1 : ByteArray} {l_0_2 : List (List V)} {ahead_1 : List (List V)} {b0 : Bool} {σ : Sto} {r : Res} (h : rparams (lim C) n l_0_0 l_0_1 l_0_2 ahead_1 σ = some r) : lim C 10 [((V.agg [(V.int .i64 l_0_0), (V.str l_0_1), (V.slice 3 31 l_0_2)]), b0), ((V.slice 1 9 ahead_1), true)] σ = some r :=
  lim_of (d := rparamsD) (by kernel_rfl) (by kernel_rfl) n (show afun C rparamsD (lim C) n [((V.agg [(V.int .i64 l_0_0), (V.str l_0_1), (V.slice 3 31 l_0_2)]), false), ((V.slice 1 9 ahead_1), true)] σ = some r from (rparams_eq (lim C) n l_0_0 l_0_1 l_0_2 ahead_1 σ).trans h)
/-! provekernellaw.limit -/
noncomputable def limitF (call : CallF) (n_0 : Int) (σ : Sto) : Option Res :=
  bif (decide (n_0 < (0 : Int))) then
  some (.ret [((V.int .i64 (Int.tmod (IntKind.wrap .i64 ((0 : Int) - (IntKind.wrap .i64 (n_0 + (1 : Int))))) (6 : Int))), false)], σ)
  else
  some (.ret [((V.int .i64 (Int.tmod n_0 (6 : Int))), false)], σ)
noncomputable def limit (call : CallF) (n : Nat) (n_0 : Int) (σ : Sto) : Option Res := limitF call n_0 σ
theorem limit_eqF (call : CallF) (n : Nat) (n_0 : Int) (σ : Sto) : afun C limitD call n [((V.int .i64 n_0), false)] σ =
    limitF call n_0 σ := by kernel_rfl
theorem limit_eq (call : CallF) (n : Nat) (n_0 : Int) (σ : Sto) : afun C limitD call n [((V.int .i64 n_0), false)] σ = limit call n n_0 σ := limit_eqF call n n_0 σ
theorem limit_call (n : Nat) (n_0 : Int) (σ : Sto) : acall C (n + 1) 11 [((V.int .i64 n_0), false)] σ = limit (acall C n) n n_0 σ :=
  (show acall C (n + 1) 11 [((V.int .i64 n_0), false)] σ = afun C limitD (acall C n) n [((V.int .i64 n_0), false)] σ by kernel_rfl).trans (limit_eq _ _ n_0 σ)
theorem limit_lim {n : Nat} {n_0 : Int} {b0 : Bool} {σ : Sto} {r : Res} (h : limit (lim C) n n_0 σ = some r) : lim C 11 [((V.int .i64 n_0), b0)] σ = some r :=
  lim_of (d := limitD) (by kernel_rfl) (by kernel_rfl) n (show afun C limitD (lim C) n [((V.int .i64 n_0), false)] σ = some r from (limit_eq (lim C) n n_0 σ).trans h)
/-! level.Worth -/
noncomputable def worthF (call : CallF) (l_0_0 : Int) (l_0_1 : ByteArray) (l_0_2 : List (List V)) (params_1 : List (List V)) (ns_2 : List (List V)) (σ : Sto) : Option Res :=
  bif (l_0_0 == (1 : Int)) then
  (grd (decide (0 ≤ (0 : Int)) && decide ((0 : Int) < l_0_2.length))).bind fun _ =>
  callK call 12 [((V.agg [(List.getD (List.getD l_0_2 (Int.toNat (0 : Int)) []) 0 V.any), (List.getD (List.getD l_0_2 (Int.toNat (0 : Int)) []) 1 V.any), (List.getD (List.getD l_0_2 (Int.toNat (0 : Int)) []) 2 V.any)]), false), ((V.slice 1 9 params_1), false), ((V.slice 1 3 ns_2), false)] σ 1 (fun vs1 σ2 =>
  (V.asInt (List.getD vs1 0 cellD).1 .i64).bind fun i4 =>
  some (.ret [((V.int .i64 (IntKind.wrap .i64 (i4 + (1 : Int)))), false)], σ2)) (fun p3 σ2 => some (.pan p3, σ2))
  else
  bif (l_0_0 == (2 : Int)) then
  (grd (decide (0 ≤ (0 : Int)) && decide ((0 : Int) < l_0_2.length))).bind fun _ =>
  (grd (decide (0 ≤ (1 : Int)) && decide ((1 : Int) < l_0_2.length))).bind fun _ =>
  callK call 12 [((V.agg [(List.getD (List.getD l_0_2 (Int.toNat (0 : Int)) []) 0 V.any), (List.getD (List.getD l_0_2 (Int.toNat (0 : Int)) []) 1 V.any), (List.getD (List.getD l_0_2 (Int.toNat (0 : Int)) []) 2 V.any)]), false), ((V.slice 1 9 params_1), false), ((V.slice 1 3 ns_2), false)] σ 1 (fun vs5 σ6 =>
  callK call 12 [((V.agg [(List.getD (List.getD l_0_2 (Int.toNat (1 : Int)) []) 0 V.any), (List.getD (List.getD l_0_2 (Int.toNat (1 : Int)) []) 1 V.any), (List.getD (List.getD l_0_2 (Int.toNat (1 : Int)) []) 2 V.any)]), false), ((V.slice 1 9 params_1), false), ((V.slice 1 3 ns_2), false)] σ6 1 (fun vs8 σ9 =>
  (V.asInt (List.getD vs5 0 cellD).1 .i64).bind fun i11 =>
  (V.asInt (List.getD vs8 0 cellD).1 .i64).bind fun i12 =>
  some (.ret [((V.int .i64 (if i11 < i12 then i12 else i11)), false)], σ9)) (fun p10 σ9 => some (.pan p10, σ9))) (fun p7 σ6 => some (.pan p7, σ6))
  else
  bif (l_0_0 == (3 : Int)) then
  (grd (decide (0 ≤ (1 : Int)) && decide ((1 : Int) < l_0_2.length))).bind fun _ =>
  callK call 12 [((V.agg [(List.getD (List.getD l_0_2 (Int.toNat (1 : Int)) []) 0 V.any), (List.getD (List.getD l_0_2 (Int.toNat (1 : Int)) []) 1 V.any), (List.getD (List.getD l_0_2 (Int.toNat (1 : Int)) []) 2 V.any)]), false), ((V.slice 1 9 params_1), false), ((V.slice 1 3 ns_2), false)] σ 1 (fun vs13 σ14 =>
  (V.asInt (List.getD vs13 0 cellD).1 .i64).bind fun i16 =>
  bif (i16 == (0 : Int)) then
  some (.ret [((V.int .i64 (0 : Int)), false)], σ14)
  else
  (grd (decide (0 ≤ (0 : Int)) && decide ((0 : Int) < l_0_2.length))).bind fun _ =>
  callK call 12 [((V.agg [(List.getD (List.getD l_0_2 (Int.toNat (0 : Int)) []) 0 V.any), (List.getD (List.getD l_0_2 (Int.toNat (0 : Int)) []) 1 V.any), (List.getD (List.getD l_0_2 (Int.toNat (0 : Int)) []) 2 V.any)]), false), ((V.slice 1 9 params_1), false), ((V.slice 1 3 ns_2), false)] σ14 1 (fun vs17 σ18 =>
  (V.asInt (List.getD vs17 0 cellD).1 .i64).bind fun i20 =>
  (V.asInt (List.getD vs13 0 cellD).1 .i64).bind fun i21 =>
  some (.ret [((V.int .i64 (if i20 < i21 then i21 else i20)), false)], σ18)) (fun p19 σ18 => some (.pan p19, σ18))) (fun p15 σ14 => some (.pan p15, σ14))
  else
  bif (l_0_0 == (4 : Int)) then
  callK call 28 [((V.slice 1 9 params_1), false), ((V.str l_0_1), false)] σ 1 (fun vs22 σ23 =>
  (V.asInt (List.getD vs22 0 cellD).1 .i64).bind fun i25 =>
  bif (decide (i25 ≥ (0 : Int))) then
  (V.asInt (List.getD vs22 0 cellD).1 .i64).bind fun i26 =>
  (grd (decide (0 ≤ i26) && decide (i26 < ns_2.length))).bind fun _ =>
  some (.ret [((List.getD (List.getD ns_2 (Int.toNat i26) []) 0 V.any), false)], σ23)
  else
  some (.ret [((V.int .i64 (0 : Int)), false)], σ23)) (fun p24 σ23 => some (.pan p24, σ23))
  else
  some (.ret [((V.int .i64 (0 : Int)), false)], σ)
noncomputable def worth (call : CallF) (n : Nat) (l_0_0 : Int) (l_0_1 : ByteArray) (l_0_2 : List (List V)) (params_1 : List (List V)) (ns_2 : List (List V)) (σ : Sto) : Option Res := worthF call l_0_0 l_0_1 l_0_2 params_1 ns_2 σ
theorem worth_eqF (call : CallF) (n : Nat) (l_0_0 : Int) (l_0_1 : ByteArray) (l_0_2 : List (List V)) (params_1 : List (List V)) (ns_2 : List (List V)) (σ : Sto) : afun C worthD call n [((V.agg [(V.int .i64 l_0_0), (V.str l_0_1), (V.slice 3 31 l_0_2)]), false), ((V.slice 1 9 params_1), false), ((V.slice 1 3 ns_2), false)] σ =
    worthF call l_0_0 l_0_1 l_0_2 params_1 ns_2 σ := by kernel_rfl
theorem worth_eq (call : CallF) (n : Nat) (l_0_0 : Int) (l_0_1 : ByteArray) (l_0_2 : List (List V)) (params_1 : List (List V)) (ns_2 : List (List V)) (σ : Sto) : afun C worthD call n [((V.agg [(V.int .i64 l_0_0), (V.str l_0_1), (V.slice 3 31 l_0_2)]), false), ((V.slice 1 9 params_1), false), ((V.slice 1 3 ns_2), false)] σ = worth call n l_0_0 l_0_1 l_0_2 params_1 ns_2 σ := worth_eqF call n l_0_0 l_0_1 l_0_2 params_1 ns_2 σ
theorem worth_call (n : Nat) (l_0_0 : Int) (l_0_1 : ByteArray) (l_0_2 : List (List V)) (params_1 : List (List V)) (ns_2 : List (List V)) (σ : Sto) : acall C (n + 1) 12 [((V.agg [(V.int .i64 l_0_0), (V.str l_0_1), (V.slice 3 31 l_0_2)]), false), ((V.slice 1 9 params_1), false), ((V.slice 1 3 ns_2), false)] σ = worth (acall C n) n l_0_0 l_0_1 l_0_2 params_1 ns_2 σ :=
  (show acall C (n + 1) 12 [((V.agg [(V.int .i64 l_0_0), (V.str l_0_1), (V.slice 3 31 l_0_2)]), false), ((V.slice 1 9 params_1), false), ((V.slice 1 3 ns_2), false)] σ = afun C worthD (acall C n) n [((V.agg [(V.int .i64 l_0_0), (V.str l_0_1), (V.slice 3 31 l_0_2)]), false), ((V.slice 1 9 params_1), false), ((V.slice 1 3 ns_2), false)] σ by kernel_rfl).trans (worth_eq _ _ l_0_0 l_0_1 l_0_2 params_1 ns_2 σ)
theorem worth_lim {n : Nat} {l_0_0 : Int} {l_0_1 : ByteArray} {l_0_2 : List (List V)} {params_1 : List (List V)} {ns_2 : List (List V)} {b0 b1 b2 : Bool} {σ : Sto} {r : Res} (h : worth (lim C) n l_0_0 l_0_1 l_0_2 params_1 ns_2 σ = some r) : lim C 12 [((V.agg [(V.int .i64 l_0_0), (V.str l_0_1), (V.slice 3 31 l_0_2)]), b0), ((V.slice 1 9 params_1), b1), ((V.slice 1 3 ns_2), b2)] σ = some r :=
  lim_of (d := worthD) (by kernel_rfl) (by kernel_rfl) n (show afun C worthD (lim C) n [((V.agg [(V.int .i64 l_0_0), (V.str l_0_1), (V.slice 3 31 l_0_2)]), false), ((V.slice 1 9 params_1), false), ((V.slice 1 3 ns_2), false)] σ = some r from (worth_eq (lim C) n l_0_0 l_0_1 l_0_2 params_1 ns_2 σ).trans h)
/-! level.Same -/
noncomputable def sameF (call : CallF) (a_0_0 : Int) (a_0_1 : ByteArray) (a_0_2 : List (List V)) (b_1_0 : Int) (b_1_1 : ByteArray) (b_1_2 : List (List V)) (σ : Sto) : Option Res :=
  callK call 13 [((V.agg [(V.int .i64 a_0_0), (V.str a_0_1), (V.slice 3 31 a_0_2)]), false), ((V.agg [(V.int .i64 b_1_0), (V.str b_1_1), (V.slice 3 31 b_1_2)]), false)] σ 1 (fun vs1 σ2 =>
  (V.asBool (List.getD vs1 0 cellD).1).bind fun b4 =>
  bif b4 then
  callK call 13 [((V.agg [(V.int .i64 b_1_0), (V.str b_1_1), (V.slice 3 31 b_1_2)]), false), ((V.agg [(V.int .i64 a_0_0), (V.str a_0_1), (V.slice 3 31 a_0_2)]), false)] σ2 1 (fun vs5 σ6 =>
  some (.ret [((List.getD vs5 0 cellD).1, false)], σ6)) (fun p7 σ6 => some (.pan p7, σ6))
  else
  some (.ret [((V.bool false), false)], σ2)) (fun p3 σ2 => some (.pan p3, σ2))
noncomputable def same (call : CallF) (n : Nat) (a_0_0 : Int) (a_0_1 : ByteArray) (a_0_2 : List (List V)) (b_1_0 : Int) (b_1_1 : ByteArray) (b_1_2 : List (List V)) (σ : Sto) : Option Res := sameF call a_0_0 a_0_1 a_0_2 b_1_0 b_1_1 b_1_2 σ
theorem same_eqF (call : CallF) (n : Nat) (a_0_0 : Int) (a_0_1 : ByteArray) (a_0_2 : List (List V)) (b_1_0 : Int) (b_1_1 : ByteArray) (b_1_2 : List (List V)) (σ : Sto) : afun C sameD call n [((V.agg [(V.int .i64 a_0_0), (V.str a_0_1), (V.slice 3 31 a_0_2)]), false), ((V.agg [(V.int .i64 b_1_0), (V.str b_1_1), (V.slice 3 31 b_1_2)]), false)] σ =
    sameF call a_0_0 a_0_1 a_0_2 b_1_0 b_1_1 b_1_2 σ := by kernel_rfl
theorem same_eq (call : CallF) (n : Nat) (a_0_0 : Int) (a_0_1 : ByteArray) (a_0_2 : List (List V)) (b_1_0 : Int) (b_1_1 : ByteArray) (b_1_2 : List (List V)) (σ : Sto) : afun C sameD call n [((V.agg [(V.int .i64 a_0_0), (V.str a_0_1), (V.slice 3 31 a_0_2)]), false), ((V.agg [(V.int .i64 b_1_0), (V.str b_1_1), (V.slice 3 31 b_1_2)]), false)] σ = same call n a_0_0 a_0_1 a_0_2 b_1_0 b_1_1 b_1_2 σ := same_eqF call n a_0_0 a_0_1 a_0_2 b_1_0 b_1_1 b_1_2 σ
theorem same_call (n : Nat) (a_0_0 : Int) (a_0_1 : ByteArray) (a_0_2 : List (List V)) (b_1_0 : Int) (b_1_1 : ByteArray) (b_1_2 : List (List V)) (σ : Sto) : acall C (n + 1) 14 [((V.agg [(V.int .i64 a_0_0), (V.str a_0_1), (V.slice 3 31 a_0_2)]), false), ((V.agg [(V.int .i64 b_1_0), (V.str b_1_1), (V.slice 3 31 b_1_2)]), false)] σ = same (acall C n) n a_0_0 a_0_1 a_0_2 b_1_0 b_1_1 b_1_2 σ :=
  (show acall C (n + 1) 14 [((V.agg [(V.int .i64 a_0_0), (V.str a_0_1), (V.slice 3 31 a_0_2)]), false), ((V.agg [(V.int .i64 b_1_0), (V.str b_1_1), (V.slice 3 31 b_1_2)]), false)] σ = afun C sameD (acall C n) n [((V.agg [(V.int .i64 a_0_0), (V.str a_0_1), (V.slice 3 31 a_0_2)]), false), ((V.agg [(V.int .i64 b_1_0), (V.str b_1_1), (V.slice 3 31 b_1_2)]), false)] σ by kernel_rfl).trans (same_eq _ _ a_0_0 a_0_1 a_0_2 b_1_0 b_1_1 b_1_2 σ)
theorem same_lim {n : Nat} {a_0_0 : Int} {a_0_1 : ByteArray} {a_0_2 : List (List V)} {b_1_0 : Int} {b_1_1 : ByteArray} {b_1_2 : List (List V)} {b0 b1 : Bool} {σ : Sto} {r : Res} (h : same (lim C) n a_0_0 a_0_1 a_0_2 b_1_0 b_1_1 b_1_2 σ = some r) : lim C 14 [((V.agg [(V.int .i64 a_0_0), (V.str a_0_1), (V.slice 3 31 a_0_2)]), b0), ((V.agg [(V.int .i64 b_1_0), (V.str b_1_1), (V.slice 3 31 b_1_2)]), b1)] σ = some r :=
  lim_of (d := sameD) (by kernel_rfl) (by kernel_rfl) n (show afun C sameD (lim C) n [((V.agg [(V.int .i64 a_0_0), (V.str a_0_1), (V.slice 3 31 a_0_2)]), false), ((V.agg [(V.int .i64 b_1_0), (V.str b_1_1), (V.slice 3 31 b_1_2)]), false)] σ = some r from (same_eq (lim C) n a_0_0 a_0_1 a_0_2 b_1_0 b_1_1 b_1_2 σ).trans h)
/-! level.Print -/
noncomputable def printF (call : CallF) (l_0_0 : Int) (l_0_1 : ByteArray) (l_0_2 : List (List V)) (σ : Sto) : Option Res :=
  callK call 30 [((V.ptr 63 (List.length σ) 0), false), ((V.agg [(V.int .i64 l_0_0), (V.str l_0_1), (V.slice 3 31 l_0_2)]), false)] (σ ++ [[(V.nilp, false), ((V.slice 1 5 []), true)]]) 0 (fun vs1 σ2 =>
  callK call 31 [((V.ptr 63 (List.length σ) 0), false)] σ2 1 (fun vs4 σ5 =>
  some (.ret [((List.getD vs4 0 cellD).1, false)], σ5)) (fun p6 σ5 => some (.pan p6, σ5))) (fun p3 σ2 => some (.pan p3, σ2))
noncomputable def print (call : CallF) (n : Nat) (l_0_0 : Int) (l_0_1 : ByteArray) (l_0_2 : List (List V)) (σ : Sto) : Option Res := printF call l_0_0 l_0_1 l_0_2 σ
theorem print_eqF (call : CallF) (n : Nat) (l_0_0 : Int) (l_0_1 : ByteArray) (l_0_2 : List (List V)) (σ : Sto) : afun C printD call n [((V.agg [(V.int .i64 l_0_0), (V.str l_0_1), (V.slice 3 31 l_0_2)]), false)] σ =
    printF call l_0_0 l_0_1 l_0_2 σ := by kernel_rfl
theorem print_eq (call : CallF) (n : Nat) (l_0_0 : Int) (l_0_1 : ByteArray) (l_0_2 : List (List V)) (σ : Sto) : afun C printD call n [((V.agg [(V.int .i64 l_0_0), (V.str l_0_1), (V.slice 3 31 l_0_2)]), false)] σ = print call n l_0_0 l_0_1 l_0_2 σ := print_eqF call n l_0_0 l_0_1 l_0_2 σ
theorem print_call (n : Nat) (l_0_0 : Int) (l_0_1 : ByteArray) (l_0_2 : List (List V)) (σ : Sto) : acall C (n + 1) 15 [((V.agg [(V.int .i64 l_0_0), (V.str l_0_1), (V.slice 3 31 l_0_2)]), false)] σ = print (acall C n) n l_0_0 l_0_1 l_0_2 σ :=
  (show acall C (n + 1) 15 [((V.agg [(V.int .i64 l_0_0), (V.str l_0_1), (V.slice 3 31 l_0_2)]), false)] σ = afun C printD (acall C n) n [((V.agg [(V.int .i64 l_0_0), (V.str l_0_1), (V.slice 3 31 l_0_2)]), false)] σ by kernel_rfl).trans (print_eq _ _ l_0_0 l_0_1 l_0_2 σ)
theorem print_lim {n : Nat} {l_0_0 : Int} {l_0_1 : ByteArray} {l_0_2 : List (List V)} {b0 : Bool} {σ : Sto} {r : Res} (h : print (lim C) n l_0_0 l_0_1 l_0_2 σ = some r) : lim C 15 [((V.agg [(V.int .i64 l_0_0), (V.str l_0_1), (V.slice 3 31 l_0_2)]), b0)] σ = some r :=
  lim_of (d := printD) (by kernel_rfl) (by kernel_rfl) n (show afun C printD (lim C) n [((V.agg [(V.int .i64 l_0_0), (V.str l_0_1), (V.slice 3 31 l_0_2)]), false)] σ = some r from (print_eq (lim C) n l_0_0 l_0_1 l_0_2 σ).trans h)
/-! provekernelref.Reader).level -/
noncomputable def rlevelF (call : CallF) (r_0 : Nat) (σ : Sto) : Option Res :=
  callK call 41 [((V.ptr 53 r_0 0), false)] σ 3 (fun vs1 σ2 =>
  callK call 42 [((List.getD vs1 0 cellD).1, false)] σ2 1 (fun vs4 σ5 =>
  (memGet σ5 (V.ptr 53 r_0 2) false 1).bind fun m7 =>
  (V.asInt m7 .i64).bind fun i8 =>
  bif (i8 != (0 : Int)) then
  some (.ret [((V.agg [(V.int .i64 (0 : Int)), (V.str (ByteArray.mk #[])), (V.slice 3 31 [])]), false)], σ5)
  else
  (V.asStr (List.getD vs1 0 cellD).1).bind fun s9 =>
  bif (s9.toList == (ByteArray.mk #[48]).toList) then
  callK call 43 [((V.ptr 53 r_0 0), false)] σ5 1 (fun vs10 σ11 =>
  some (.ret [((V.agg [(V.int .i64 (0 : Int)), (V.str (ByteArray.mk #[])), (V.slice 3 31 [])]), false)], σ11)) (fun p12 σ11 => some (.pan p12, σ11))
  else
  (V.asBool (List.getD vs4 0 cellD).1).bind fun b13 =>
  bif b13 then
  callK call 43 [((V.ptr 53 r_0 0), false)] σ5 1 (fun vs14 σ15 =>
  (grd ((V.fits (List.getD vs1 0 cellD).1 false 1 && true))).bind fun _ =>
  some (.ret [((V.agg [(V.int .i64 (4 : Int)), (List.getD vs1 0 cellD).1, (V.slice 3 31 [])]), false)], σ15)) (fun p16 σ15 => some (.pan p16, σ15))
  else
  (V.asStr (List.getD vs1 0 cellD).1).bind fun s17 =>
  bif (s17.toList == (ByteArray.mk #[40]).toList) then
  callK call 43 [((V.ptr 53 r_0 0), false)] σ5 1 (fun vs18 σ19 =>
  callK call 41 [((V.ptr 53 r_0 0), false)] σ19 3 (fun vs21 σ22 =>
  (V.asStr (List.getD vs21 0 cellD).1).bind fun s24 =>
  bif (s24.toList == (ByteArray.mk #[115]).toList) then
  callK call 43 [((V.ptr 53 r_0 0), false)] σ22 1 (fun vs25 σ26 =>
  callK call 25 [((V.ptr 53 r_0 0), false)] σ26 1 (fun vs28 σ29 =>
  (grd ((V.fits (List.getD vs28 0 cellD).1 true 3 && true))).bind fun _ =>
  (grd (room (0 + 1))).bind fun _ =>
  callK call 45 [((V.ptr 53 r_0 0), false), ((V.str (ByteArray.mk #[41])), false)] σ29 0 (fun vs31 σ32 =>
  some (.ret [((V.agg [(V.int .i64 (1 : Int)), (V.str (ByteArray.mk #[])), (V.slice 3 31 [[(V.cell (List.getD vs28 0 cellD).1 0), (V.cell (List.getD vs28 0 cellD).1 1), (V.cell (List.getD vs28 0 cellD).1 2)]])]), false)], σ32)) (fun p33 σ32 => some (.pan p33, σ32))) (fun p30 σ29 => some (.pan p30, σ29))) (fun p27 σ26 => some (.pan p27, σ26))
  else
  (V.asStr (List.getD vs21 0 cellD).1).bind fun s34 =>
  bif (s34.toList == (ByteArray.mk #[109, 97, 120]).toList) then
  callK call 43 [((V.ptr 53 r_0 0), false)] σ22 1 (fun vs35 σ36 =>
  callK call 25 [((V.ptr 53 r_0 0), false)] σ36 1 (fun vs38 σ39 =>
  (grd ((V.fits (List.getD vs38 0 cellD).1 true 3 && true))).bind fun _ =>
  (grd (room (0 + 1))).bind fun _ =>
  callK call 25 [((V.ptr 53 r_0 0), false)] σ39 1 (fun vs41 σ42 =>
  (grd ((V.fits (List.getD vs41 0 cellD).1 true 3 && true))).bind fun _ =>
  (grd (room (1 + 1))).bind fun _ =>
  callK call 45 [((V.ptr 53 r_0 0), false), ((V.str (ByteArray.mk #[41])), false)] σ42 0 (fun vs44 σ45 =>
  some (.ret [((V.agg [(V.int .i64 (2 : Int)), (V.str (ByteArray.mk #[])), (V.slice 3 31 [[(V.cell (List.getD vs38 0 cellD).1 0), (V.cell (List.getD vs38 0 cellD).1 1), (V.cell (List.getD vs38 0 cellD).1 2)], [(V.cell (List.getD vs41 0 cellD).1 0), (V.cell (List.getD vs41 0 cellD).1 1), (V.cell (List.getD vs41 0 cellD).1 2)]])]), false)], σ45)) (fun p46 σ45 => some (.pan p46, σ45))) (fun p43 σ42 => some (.pan p43, σ42))) (fun p40 σ39 => some (.pan p40, σ39))) (fun p37 σ36 => some (.pan p37, σ36))
  else
  (V.asStr (List.getD vs21 0 cellD).1).bind fun s47 =>
  bif (s47.toList == (ByteArray.mk #[105, 109, 97, 120]).toList) then
  callK call 43 [((V.ptr 53 r_0 0), false)] σ22 1 (fun vs48 σ49 =>
  callK call 25 [((V.ptr 53 r_0 0), false)] σ49 1 (fun vs51 σ52 =>
  (grd ((V.fits (List.getD vs51 0 cellD).1 true 3 && true))).bind fun _ =>
  (grd (room (0 + 1))).bind fun _ =>
  callK call 25 [((V.ptr 53 r_0 0), false)] σ52 1 (fun vs54 σ55 =>
  (grd ((V.fits (List.getD vs54 0 cellD).1 true 3 && true))).bind fun _ =>
  (grd (room (1 + 1))).bind fun _ =>
  callK call 45 [((V.ptr 53 r_0 0), false), ((V.str (ByteArray.mk #[41])), false)] σ55 0 (fun vs57 σ58 =>
  some (.ret [((V.agg [(V.int .i64 (3 : Int)), (V.str (ByteArray.mk #[])), (V.slice 3 31 [[(V.cell (List.getD vs51 0 cellD).1 0), (V.cell (List.getD vs51 0 cellD).1 1), (V.cell (List.getD vs51 0 cellD).1 2)], [(V.cell (List.getD vs54 0 cellD).1 0), (V.cell (List.getD vs54 0 cellD).1 1), (V.cell (List.getD vs54 0 cellD).1 2)]])]), false)], σ58)) (fun p59 σ58 => some (.pan p59, σ58))) (fun p56 σ55 => some (.pan p56, σ55))) (fun p53 σ52 => some (.pan p53, σ52))) (fun p50 σ49 => some (.pan p50, σ49))
  else
  callK call 44 [((V.ptr 53 r_0 0), false), ((List.getD vs21 1 cellD).1, false)] σ22 0 (fun vs60 σ61 =>
  some (.ret [((V.agg [(V.int .i64 (0 : Int)), (V.str (ByteArray.mk #[])), (V.slice 3 31 [])]), false)], σ61)) (fun p62 σ61 => some (.pan p62, σ61))) (fun p23 σ22 => some (.pan p23, σ22))) (fun p20 σ19 => some (.pan p20, σ19))
  else
  callK call 44 [((V.ptr 53 r_0 0), false), ((List.getD vs1 1 cellD).1, false)] σ5 0 (fun vs63 σ64 =>
  some (.ret [((V.agg [(V.int .i64 (0 : Int)), (V.str (ByteArray.mk #[])), (V.slice 3 31 [])]), false)], σ64)) (fun p65 σ64 => some (.pan p65, σ64))) (fun p6 σ5 => some (.pan p6, σ5))) (fun p3 σ2 => some (.pan p3, σ2))
noncomputable def rlevel (call : CallF) (n : Nat) (r_0 : Nat) (σ : Sto) : Option Res := rlevelF call r_0 σ
theorem rlevel_eqF (call : CallF) (n : Nat) (r_0 : Nat) (σ : Sto) : afun C rlevelD call n [((V.ptr 53 r_0 0), false)] σ =
    rlevelF call r_0 σ := by kernel_rfl
theorem rlevel_eq (call : CallF) (n : Nat) (r_0 : Nat) (σ : Sto) : afun C rlevelD call n [((V.ptr 53 r_0 0), false)] σ = rlevel call n r_0 σ := rlevel_eqF call n r_0 σ
theorem rlevel_call (n : Nat) (r_0 : Nat) (σ : Sto) : acall C (n + 1) 25 [((V.ptr 53 r_0 0), false)] σ = rlevel (acall C n) n r_0 σ :=
  (show acall C (n + 1) 25 [((V.ptr 53 r_0 0), false)] σ = afun C rlevelD (acall C n) n [((V.ptr 53 r_0 0), false)] σ by kernel_rfl).trans (rlevel_eq _ _ r_0 σ)
theorem rlevel_lim {n : Nat} {r_0 : Nat} {b0 : Bool} {σ : Sto} {r : Res} (h : rlevel (lim C) n r_0 σ = some r) : lim C 25 [((V.ptr 53 r_0 0), b0)] σ = some r :=
  lim_of (d := rlevelD) (by kernel_rfl) (by kernel_rfl) n (show afun C rlevelD (lim C) n [((V.ptr 53 r_0 0), false)] σ = some r from (rlevel_eq (lim C) n r_0 σ).trans h)
/-! provekernelref.Reader).done -/
noncomputable def rdoneF (call : CallF) (r_0 : Nat) (σ : Sto) : Option Res :=
  callK call 41 [((V.ptr 53 r_0 0), false)] σ 3 (fun vs1 σ2 =>
  (V.asBool (List.getD vs1 2 cellD).1).bind fun b4 =>
  bif (!b4) then
  callK call 44 [((V.ptr 53 r_0 0), false), ((List.getD vs1 1 cellD).1, false)] σ2 0 (fun vs5 σ6 =>
  (memGet σ6 (V.ptr 53 r_0 2) true 2).bind fun m8 =>
  (grd (V.fits m8 true 2)).bind fun _ =>
  some (.ret [((V.agg [(V.cell m8 0), (V.cell m8 1)]), false)], σ6)) (fun p7 σ6 => some (.pan p7, σ6))
  else
  (V.asStr (List.getD vs1 0 cellD).1).bind fun s9 =>
  bif (!(s9.toList == (ByteArray.mk #[]).toList)) then
  callK call 44 [((V.ptr 53 r_0 0), false), ((List.getD vs1 1 cellD).1, false)] σ2 0 (fun vs10 σ11 =>
  (memGet σ11 (V.ptr 53 r_0 2) true 2).bind fun m13 =>
  (grd (V.fits m13 true 2)).bind fun _ =>
  some (.ret [((V.agg [(V.cell m13 0), (V.cell m13 1)]), false)], σ11)) (fun p12 σ11 => some (.pan p12, σ11))
  else
  (memGet σ2 (V.ptr 53 r_0 2) true 2).bind fun m14 =>
  (grd (V.fits m14 true 2)).bind fun _ =>
  some (.ret [((V.agg [(V.cell m14 0), (V.cell m14 1)]), false)], σ2)) (fun p3 σ2 => some (.pan p3, σ2))
noncomputable def rdone (call : CallF) (n : Nat) (r_0 : Nat) (σ : Sto) : Option Res := rdoneF call r_0 σ
theorem rdone_eqF (call : CallF) (n : Nat) (r_0 : Nat) (σ : Sto) : afun C rdoneD call n [((V.ptr 53 r_0 0), false)] σ =
    rdoneF call r_0 σ := by kernel_rfl
theorem rdone_eq (call : CallF) (n : Nat) (r_0 : Nat) (σ : Sto) : afun C rdoneD call n [((V.ptr 53 r_0 0), false)] σ = rdone call n r_0 σ := rdone_eqF call n r_0 σ
theorem rdone_call (n : Nat) (r_0 : Nat) (σ : Sto) : acall C (n + 1) 26 [((V.ptr 53 r_0 0), false)] σ = rdone (acall C n) n r_0 σ :=
  (show acall C (n + 1) 26 [((V.ptr 53 r_0 0), false)] σ = afun C rdoneD (acall C n) n [((V.ptr 53 r_0 0), false)] σ by kernel_rfl).trans (rdone_eq _ _ r_0 σ)
theorem rdone_lim {n : Nat} {r_0 : Nat} {b0 : Bool} {σ : Sto} {r : Res} (h : rdone (lim C) n r_0 σ = some r) : lim C 26 [((V.ptr 53 r_0 0), b0)] σ = some r :=
  lim_of (d := rdoneD) (by kernel_rfl) (by kernel_rfl) n (show afun C rdoneD (lim C) n [((V.ptr 53 r_0 0), false)] σ = some r from (rdone_eq (lim C) n r_0 σ).trans h)
/-! provekernelref.among -/
noncomputable def amongk0 : List Nat := [0, 1, 5]
noncomputable def amongs0 (call : CallF) (rec0 : ByteArray → List (List V) → Int → Sto → Option Res) (name_0 : ByteArray) (l_1 : List (List V)) (i_5 : Int) (σ : Sto) : Option Res :=
  bif (decide (i_5 < (l_1.length : Int))) then
  (grd (decide (0 ≤ i_5) && decide (i_5 < l_1.length))).bind fun _ =>
  (V.asStr (List.getD (List.getD l_1 (Int.toNat i_5) []) 0 V.any)).bind fun s1 =>
  bif (s1.toList == name_0.toList) then
  some (.ret [((V.bool true), false)], σ)
  else
  rec0 name_0 l_1 (IntKind.wrap .i64 (i_5 + (1 : Int))) σ
  else
  some (.ret [((V.bool false), false)], σ)
noncomputable def amongl0 (call : CallF) (n : Nat) : Nat → ByteArray → List (List V) → Int → Sto → Option Res
  | 0 => fun _ _ _ _ => none
  | m + 1 => amongs0 call (amongl0 call n m)
noncomputable def amongt0 (name_0 : ByteArray) (l_1 : List (List V)) (i_5 : Int) (σ : Sto) : St := ⟨[.val (V.str name_0) false, .val (V.slice 1 9 l_1) false, .dead, .dead, .dead, .val (V.int .i64 i_5) false, .dead, .dead, .dead, .dead, .dead, .dead, .dead, .dead, .dead, .dead, .dead, .dead], [[], [], [], [], [], [], [], [], [], [], [], [], [], [], [], [], [], []], σ⟩
noncomputable def amongF (call : CallF) (L0 : ByteArray → List (List V) → Int → Sto → Option Res) (name_0 : ByteArray) (l_1 : List (List V)) (σ : Sto) : Option Res :=
  L0 name_0 l_1 (0 : Int) σ
noncomputable def among (call : CallF) (n : Nat) (name_0 : ByteArray) (l_1 : List (List V)) (σ : Sto) : Option Res := amongF call (amongl0 call n n) name_0 l_1 σ
theorem amongs0_eq (call : CallF) (n : Nat) (F0 : St → Option Res) (name_0 : ByteArray) (l_1 : List (List V)) (i_5 : Int) (σ : Sto) :
    aexec C amongH call n (codeL (codeL (codeR (codeL (codeR amongC))))) 0 (amongt0 name_0 l_1 i_5 σ) (kloop amongk0 F0 (kblk 0 (kseq (fun st' => aexec C amongH call n (codeR (codeR amongC)) 0 st' (kfin C amongD)) (kfin C amongD)))) =
    amongs0 call (fun name_0 l_1 i_5 σ => F0 (amongt0 name_0 l_1 i_5 σ)) name_0 l_1 i_5 σ := by kernel_rfl
theorem amongl0_eq (call : CallF) (n : Nat) : ∀ (m : Nat) (name_0 : ByteArray) (l_1 : List (List V)) (i_5 : Int) (σ : Sto),
    aloop (fun st K => aexec C amongH call n (codeL (codeL (codeR (codeL (codeR amongC))))) 0 st K) amongk0 m (amongt0 name_0 l_1 i_5 σ) (kblk 0 (kseq (fun st' => aexec C amongH call n (codeR (codeR amongC)) 0 st' (kfin C amongD)) (kfin C amongD))) = amongl0 call n m name_0 l_1 i_5 σ
  | 0, name_0, l_1, i_5, σ => rfl
  | m + 1, name_0, l_1, i_5, σ => by
    rw [aloop, amongs0_eq]
    simp only [amongl0_eq call n m]
    rfl
theorem among_eqF (call : CallF) (n : Nat) (name_0 : ByteArray) (l_1 : List (List V)) (σ : Sto) : afun C amongD call n [((V.str name_0), false), ((V.slice 1 9 l_1), false)] σ =
    amongF call (fun name_0 l_1 i_5 σ => aloop (fun st K => aexec C amongH call n (codeL (codeL (codeR (codeL (codeR amongC))))) 0 st K) amongk0 n (amongt0 name_0 l_1 i_5 σ) (kblk 0 (kseq (fun st' => aexec C amongH call n (codeR (codeR amongC)) 0 st' (kfin C amongD)) (kfin C amongD)))) name_0 l_1 σ := by kernel_rfl
theorem among_eq (call : CallF) (n : Nat) (name_0 : ByteArray) (l_1 : List (List V)) (σ : Sto) : afun C amongD call n [((V.str name_0), false), ((V.slice 1 9 l_1), false)] σ = among call n name_0 l_1 σ := by
  rw [among_eqF]
  simp only [amongl0_eq]
  rfl
theorem among_call (n : Nat) (name_0 : ByteArray) (l_1 : List (List V)) (σ : Sto) : acall C (n + 1) 27 [((V.str name_0), false), ((V.slice 1 9 l_1), false)] σ = among (acall C n) n name_0 l_1 σ :=
  (show acall C (n + 1) 27 [((V.str name_0), false), ((V.slice 1 9 l_1), false)] σ = afun C amongD (acall C n) n [((V.str name_0), false), ((V.slice 1 9 l_1), false)] σ by kernel_rfl).trans (among_eq _ _ name_0 l_1 σ)
theorem among_lim {n : Nat} {name_0 : ByteArray} {l_1 : List (List V)} {b0 b1 : Bool} {σ : Sto} {r : Res} (h : among (lim C) n name_0 l_1 σ = some r) : lim C 27 [((V.str name_0), b0), ((V.slice 1 9 l_1), b1)] σ = some r :=
  lim_of (d := amongD) (by kernel_rfl) (by kernel_rfl) n (show afun C amongD (lim C) n [((V.str name_0), false), ((V.slice 1 9 l_1), false)] σ = some r from (among_eq (lim C) n name_0 l_1 σ).trans h)
/-! slices.Index[[]string,string] -/
noncomputable def indexk0 : List Nat := [0, 1, 7, 8]
noncomputable def indexs0 (call : CallF) (rec0 : List (List V) → ByteArray → Int → Int → Sto → Option Res) (s_0 : List (List V)) (v_1 : ByteArray) (t_7 : Int) (t_8 : Int) (σ : Sto) : Option Res :=
  bif (decide (t_8 < t_7)) then
  (grd (decide (0 ≤ t_8) && decide (t_8 < s_0.length))).bind fun _ =>
  (V.asStr (List.getD (List.getD s_0 (Int.toNat t_8) []) 0 V.any)).bind fun s1 =>
  bif (v_1.toList == s1.toList) then
  some (.ret [((V.int .i64 t_8), false)], σ)
  else
  rec0 s_0 v_1 t_7 (IntKind.wrap .i64 (t_8 + (1 : Int))) σ
  else
  some (.ret [((V.int .i64 (-1 : Int)), false)], σ)
noncomputable def indexl0 (call : CallF) (n : Nat) : Nat → List (List V) → ByteArray → Int → Int → Sto → Option Res
  | 0 => fun _ _ _ _ _ => none
  | m + 1 => indexs0 call (indexl0 call n m)
noncomputable def indext0 (s_0 : List (List V)) (v_1 : ByteArray) (t_7 : Int) (t_8 : Int) (σ : Sto) : St := ⟨[.val (V.slice 1 9 s_0) false, .val (V.str v_1) false, .dead, .dead, .dead, .dead, .dead, .val (V.int .i64 t_7) false, .val (V.int .i64 t_8) false, .dead, .dead, .dead, .dead, .dead, .dead, .dead, .dead, .dead, .dead], [[], [], [], [], [], [], [], [], [], [], [], [], [], [], [], [], [], [], []], σ⟩
noncomputable def indexF (call : CallF) (L0 : List (List V) → ByteArray → Int → Int → Sto → Option Res) (s_0 : List (List V)) (v_1 : ByteArray) (σ : Sto) : Option Res :=
  L0 s_0 v_1 (s_0.length : Int) (0 : Int) σ
noncomputable def index (call : CallF) (n : Nat) (s_0 : List (List V)) (v_1 : ByteArray) (σ : Sto) : Option Res := indexF call (indexl0 call n n) s_0 v_1 σ
theorem indexs0_eq (call : CallF) (n : Nat) (F0 : St → Option Res) (s_0 : List (List V)) (v_1 : ByteArray) (t_7 : Int) (t_8 : Int) (σ : Sto) :
    aexec C indexH call n (codeL (codeL (codeR (codeL (codeR indexC))))) 0 (indext0 s_0 v_1 t_7 t_8 σ) (kloop indexk0 F0 (kblk 0 (kseq (fun st' => aexec C indexH call n (codeR (codeR indexC)) 0 st' (kfin C indexD)) (kfin C indexD)))) =
    indexs0 call (fun s_0 v_1 t_7 t_8 σ => F0 (indext0 s_0 v_1 t_7 t_8 σ)) s_0 v_1 t_7 t_8 σ := by kernel_rfl
theorem indexl0_eq (call : CallF) (n : Nat) : ∀ (m : Nat) (s_0 : List (List V)) (v_1 : ByteArray) (t_7 : Int) (t_8 : Int) (σ : Sto),
    aloop (fun st K => aexec C indexH call n (codeL (codeL (codeR (codeL (codeR indexC))))) 0 st K) indexk0 m (indext0 s_0 v_1 t_7 t_8 σ) (kblk 0 (kseq (fun st' => aexec C indexH call n (codeR (codeR indexC)) 0 st' (kfin C indexD)) (kfin C indexD))) = indexl0 call n m s_0 v_1 t_7 t_8 σ
  | 0, s_0, v_1, t_7, t_8, σ => rfl
  | m + 1, s_0, v_1, t_7, t_8, σ => by
    rw [aloop, indexs0_eq]
    simp only [indexl0_eq call n m]
    rfl
theorem index_eqF (call : CallF) (n : Nat) (s_0 : List (List V)) (v_1 : ByteArray) (σ : Sto) : afun C indexD call n [((V.slice 1 9 s_0), false), ((V.str v_1), false)] σ =
    indexF call (fun s_0 v_1 t_7 t_8 σ => aloop (fun st K => aexec C indexH call n (codeL (codeL (codeR (codeL (codeR indexC))))) 0 st K) indexk0 n (indext0 s_0 v_1 t_7 t_8 σ) (kblk 0 (kseq (fun st' => aexec C indexH call n (codeR (codeR indexC)) 0 st' (kfin C indexD)) (kfin C indexD)))) s_0 v_1 σ := by kernel_rfl
theorem index_eq (call : CallF) (n : Nat) (s_0 : List (List V)) (v_1 : ByteArray) (σ : Sto) : afun C indexD call n [((V.slice 1 9 s_0), false), ((V.str v_1), false)] σ = index call n s_0 v_1 σ := by
  rw [index_eqF]
  simp only [indexl0_eq]
  rfl
theorem index_call (n : Nat) (s_0 : List (List V)) (v_1 : ByteArray) (σ : Sto) : acall C (n + 1) 28 [((V.slice 1 9 s_0), false), ((V.str v_1), false)] σ = index (acall C n) n s_0 v_1 σ :=
  (show acall C (n + 1) 28 [((V.slice 1 9 s_0), false), ((V.str v_1), false)] σ = afun C indexD (acall C n) n [((V.slice 1 9 s_0), false), ((V.str v_1), false)] σ by kernel_rfl).trans (index_eq _ _ s_0 v_1 σ)
theorem index_lim {n : Nat} {s_0 : List (List V)} {v_1 : ByteArray} {b0 b1 : Bool} {σ : Sto} {r : Res} (h : index (lim C) n s_0 v_1 σ = some r) : lim C 28 [((V.slice 1 9 s_0), b0), ((V.str v_1), b1)] σ = some r :=
  lim_of (d := indexD) (by kernel_rfl) (by kernel_rfl) n (show afun C indexD (lim C) n [((V.slice 1 9 s_0), false), ((V.str v_1), false)] σ = some r from (index_eq (lim C) n s_0 v_1 σ).trans h)
/-! level.write -/
noncomputable def writek0 : List Nat := [0, 16, 17, 18]
noncomputable def writes0 (call : CallF) (rec0 : Nat → List (List V) → Int → Int → Sto → Option Res) (b_0 : Nat) (t_16 : List (List V)) (t_17 : Int) (t_18 : Int) (σ : Sto) : Option Res :=
  bif (decide (t_18 < t_17)) then
  (grd (decide (0 ≤ t_18) && decide (t_18 < t_16.length))).bind fun _ =>
  callK call 49 [((V.ptr 63 b_0 0), false), ((V.int .u8 (32 : Int)), false)] σ 1 (fun vs1 σ2 =>
  callK call 30 [((V.ptr 63 b_0 0), false), ((V.agg [(List.getD (List.getD t_16 (Int.toNat t_18) []) 0 V.any), (List.getD (List.getD t_16 (Int.toNat t_18) []) 1 V.any), (List.getD (List.getD t_16 (Int.toNat t_18) []) 2 V.any)]), false)] σ2 0 (fun vs4 σ5 =>
  rec0 b_0 t_16 t_17 (IntKind.wrap .i64 (t_18 + (1 : Int))) σ5) (fun p6 σ5 => some (.pan p6, σ5))) (fun p3 σ2 => some (.pan p3, σ2))
  else
  callK call 49 [((V.ptr 63 b_0 0), false), ((V.int .u8 (41 : Int)), false)] σ 1 (fun vs7 σ8 =>
  some (.ret [], σ8)) (fun p9 σ8 => some (.pan p9, σ8))
noncomputable def writel0 (call : CallF) (n : Nat) : Nat → Nat → List (List V) → Int → Int → Sto → Option Res
  | 0 => fun _ _ _ _ _ => none
  | m + 1 => writes0 call (writel0 call n m)
noncomputable def writet0 (b_0 : Nat) (t_16 : List (List V)) (t_17 : Int) (t_18 : Int) (σ : Sto) : St := ⟨[.val (V.ptr 63 b_0 0) false, .dead, .dead, .dead, .dead, .dead, .dead, .dead, .dead, .dead, .dead, .dead, .dead, .dead, .dead, .dead, .val (V.slice 3 31 t_16) false, .val (V.int .i64 t_17) false, .val (V.int .i64 t_18) false, .dead, .dead, .dead, .dead, .dead, .dead, .dead, .dead, .dead, .dead, .dead, .dead, .dead, .dead, .dead, .dead, .dead, .dead, .dead, .dead, .dead], [[], [], [], [], [], [], [], [], [], [], [], [], [], [], [], [], [], [], [], [], [], [], [], [], [], [], [], [], [], [], [], [], [], [], [], [], [], [], [], []], σ⟩
noncomputable def writeF (call : CallF) (L0 : Nat → List (List V) → Int → Int → Sto → Option Res) (b_0 : Nat) (l_1_0 : Int) (l_1_1 : ByteArray) (l_1_2 : List (List V)) (σ : Sto) : Option Res :=
  bif (l_1_0 == (0 : Int)) then
  callK call 48 [((V.ptr 63 b_0 0), false), ((V.str (ByteArray.mk #[48])), false)] σ 2 (fun vs1 σ2 =>
  some (.ret [], σ2)) (fun p3 σ2 => some (.pan p3, σ2))
  else
  bif (l_1_0 == (4 : Int)) then
  callK call 48 [((V.ptr 63 b_0 0), false), ((V.str l_1_1), false)] σ 2 (fun vs4 σ5 =>
  some (.ret [], σ5)) (fun p6 σ5 => some (.pan p6, σ5))
  else
  (grd (decide (0 ≤ l_1_0) && decide (l_1_0 < 4))).bind fun _ =>
  (memGet [] (V.eptr 4 [(V.str (ByteArray.mk #[])), (V.str (ByteArray.mk #[115])), (V.str (ByteArray.mk #[109, 97, 120])), (V.str (ByteArray.mk #[105, 109, 97, 120]))] (0 + Int.toNat l_1_0 * 1)) false 1).bind fun m7 =>
  (V.asStr m7).bind fun s8 =>
  (grd (strRoom (ByteArray.mk #[40]) s8)).bind fun _ =>
  callK call 48 [((V.ptr 63 b_0 0), false), ((V.str ((ByteArray.mk #[40]) ++ s8)), false)] σ 2 (fun vs9 σ10 =>
  L0 b_0 l_1_2 (l_1_2.length : Int) (0 : Int) σ10) (fun p11 σ10 => some (.pan p11, σ10))
noncomputable def write (call : CallF) (n : Nat) (b_0 : Nat) (l_1_0 : Int) (l_1_1 : ByteArray) (l_1_2 : List (List V)) (σ : Sto) : Option Res := writeF call (writel0 call n n) b_0 l_1_0 l_1_1 l_1_2 σ
theorem writes0_eq (call : CallF) (n : Nat) (F0 : St → Option Res) (b_0 : Nat) (t_16 : List (List V)) (t_17 : Int) (t_18 : Int) (σ : Sto) :
    aexec C writeH call n (codeL (codeL (codeR (codeL (codeR (codeR (codeR (codeR (codeR (codeL (codeR (codeR writeC)))))))))))) 0 (writet0 b_0 t_16 t_17 t_18 σ) (kloop writek0 F0 (kblk 1 (kseq (fun st' => aexec C writeH call n (codeR (codeR (codeR (codeR (codeR (codeR (codeL (codeR (codeR writeC))))))))) 0 st' (kblk 0 (kfin C writeD))) (kblk 0 (kfin C writeD))))) =
    writes0 call (fun b_0 t_16 t_17 t_18 σ => F0 (writet0 b_0 t_16 t_17 t_18 σ)) b_0 t_16 t_17 t_18 σ := by kernel_rfl
theorem writel0_eq (call : CallF) (n : Nat) : ∀ (m : Nat) (b_0 : Nat) (t_16 : List (List V)) (t_17 : Int) (t_18 : Int) (σ : Sto),
    aloop (fun st K => aexec C writeH call n (codeL (codeL (codeR (codeL (codeR (codeR (codeR (codeR (codeR (codeL (codeR (codeR writeC)))))))))))) 0 st K) writek0 m (writet0 b_0 t_16 t_17 t_18 σ) (kblk 1 (kseq (fun st' => aexec C writeH call n (codeR (codeR (codeR (codeR (codeR (codeR (codeL (codeR (codeR writeC))))))))) 0 st' (kblk 0 (kfin C writeD))) (kblk 0 (kfin C writeD)))) = writel0 call n m b_0 t_16 t_17 t_18 σ
  | 0, b_0, t_16, t_17, t_18, σ => rfl
  | m + 1, b_0, t_16, t_17, t_18, σ => by
    rw [aloop, writes0_eq]
    simp only [writel0_eq call n m]
    rfl
theorem write_eqF (call : CallF) (n : Nat) (b_0 : Nat) (l_1_0 : Int) (l_1_1 : ByteArray) (l_1_2 : List (List V)) (σ : Sto) : afun C writeD call n [((V.ptr 63 b_0 0), false), ((V.agg [(V.int .i64 l_1_0), (V.str l_1_1), (V.slice 3 31 l_1_2)]), false)] σ =
    writeF call (fun b_0 t_16 t_17 t_18 σ => aloop (fun st K => aexec C writeH call n (codeL (codeL (codeR (codeL (codeR (codeR (codeR (codeR (codeR (codeL (codeR (codeR writeC)))))))))))) 0 st K) writek0 n (writet0 b_0 t_16 t_17 t_18 σ) (kblk 1 (kseq (fun st' => aexec C writeH call n (codeR (codeR (codeR (codeR (codeR (codeR (codeL (codeR (codeR writeC))))))))) 0 st' (kblk 0 (kfin C writeD))) (kblk 0 (kfin C writeD))))) b_0 l_1_0 l_1_1 l_1_2 σ := by kernel_rfl
theorem write_eq (call : CallF) (n : Nat) (b_0 : Nat) (l_1_0 : Int) (l_1_1 : ByteArray) (l_1_2 : List (List V)) (σ : Sto) : afun C writeD call n [((V.ptr 63 b_0 0), false), ((V.agg [(V.int .i64 l_1_0), (V.str l_1_1), (V.slice 3 31 l_1_2)]), false)] σ = write call n b_0 l_1_0 l_1_1 l_1_2 σ := by
  rw [write_eqF]
  simp only [writel0_eq]
  rfl
theorem write_call (n : Nat) (b_0 : Nat) (l_1_0 : Int) (l_1_1 : ByteArray) (l_1_2 : List (List V)) (σ : Sto) : acall C (n + 1) 30 [((V.ptr 63 b_0 0), false), ((V.agg [(V.int .i64 l_1_0), (V.str l_1_1), (V.slice 3 31 l_1_2)]), false)] σ = write (acall C n) n b_0 l_1_0 l_1_1 l_1_2 σ :=
  (show acall C (n + 1) 30 [((V.ptr 63 b_0 0), false), ((V.agg [(V.int .i64 l_1_0), (V.str l_1_1), (V.slice 3 31 l_1_2)]), false)] σ = afun C writeD (acall C n) n [((V.ptr 63 b_0 0), false), ((V.agg [(V.int .i64 l_1_0), (V.str l_1_1), (V.slice 3 31 l_1_2)]), false)] σ by kernel_rfl).trans (write_eq _ _ b_0 l_1_0 l_1_1 l_1_2 σ)
theorem write_lim {n : Nat} {b_0 : Nat} {l_1_0 : Int} {l_1_1 : ByteArray} {l_1_2 : List (List V)} {b0 b1 : Bool} {σ : Sto} {r : Res} (h : write (lim C) n b_0 l_1_0 l_1_1 l_1_2 σ = some r) : lim C 30 [((V.ptr 63 b_0 0), b0), ((V.agg [(V.int .i64 l_1_0), (V.str l_1_1), (V.slice 3 31 l_1_2)]), b1)] σ = some r :=
  lim_of (d := writeD) (by kernel_rfl) (by kernel_rfl) n (show afun C writeD (lim C) n [((V.ptr 63 b_0 0), false), ((V.agg [(V.int .i64 l_1_0), (V.str l_1_1), (V.slice 3 31 l_1_2)]), false)] σ = some r from (write_eq (lim C) n b_0 l_1_0 l_1_1 l_1_2 σ).trans h)
end Go.Ab.Mk
end
section
set_option maxRecDepth 100000
namespace Go.Ab.Mk
open Go.Proofs Go.Ab
/-! provekernelref.Reader).token -/
noncomputable def rtokenk0 : List Nat := [0, 5, 73, 74, 86, 87, 88, 89, 90, 91, 92, 105, 106, 107, 108, 109, 110, 120, 121, 122, 123, 124, 125, 126, 129, 130, 131, 132, 133, 134, 135, 148, 149, 150, 151, 154, 155, 156, 157, 158, 159, 160, 161, 162, 163, 164, 165, 166]
noncomputable def rtokenk1 : List Nat := [0, 5, 6]
noncomputable def rtokenk2 : List Nat := [0, 5, 6, 7, 148, 149, 150, 151, 154, 155, 156, 157, 158, 159, 160, 161, 162, 163, 164, 165, 166]
noncomputable def rtokens1 (call : CallF) (rec1 : Nat → V → Int → Sto → Option Res) (r_0 : Nat) (p_5 : V) (q_6 : Int) (σ : Sto) : Option Res :=
  (memGet σ (V.ptr 53 r_0 0) false 1).bind fun m1 =>
  (V.asStr m1).bind fun s2 =>
  bif (decide (q_6 < (s2.size : Int))) then
  (memGet σ (V.ptr 53 r_0 0) false 1).bind fun m3 =>
  (V.asStr m3).bind fun s4 =>
  (grd (decide (0 ≤ q_6) && decide (q_6 < s4.size))).bind fun _ =>
  callK call 55 [((V.int .u8 (byteAt s4 (Int.toNat q_6))), false), ((V.bool false), false)] σ 1 (fun vs5 σ6 =>
  (V.asBool (List.getD vs5 0 cellD).1).bind fun b8 =>
  bif b8 then
  rec1 r_0 p_5 (IntKind.wrap .i64 (q_6 + (1 : Int))) σ6
  else
  (V.asInt p_5 .i64).bind fun i9 =>
  bif (decide ((IntKind.wrap .i64 (q_6 - i9)) > (40 : Int))) then
  some (.ret [((V.str (ByteArray.mk #[])), false), (p_5, false), ((V.bool false), false)], σ6)
  else
  (memGet σ6 (V.ptr 53 r_0 0) false 1).bind fun m10 =>
  (V.asStr m10).bind fun s11 =>
  (V.asInt p_5 .i64).bind fun i12 =>
  (grd (decide (0 ≤ i12) && decide (i12 ≤ q_6) && decide (q_6 ≤ s11.size))).bind fun _ =>
  some (.ret [((V.str (s11.extract (Int.toNat i12) (Int.toNat q_6))), false), (p_5, false), ((V.bool true), false)], σ6)) (fun p7 σ6 => some (.pan p7, σ6))
  else
  (V.asInt p_5 .i64).bind fun i13 =>
  bif (decide ((IntKind.wrap .i64 (q_6 - i13)) > (40 : Int))) then
  some (.ret [((V.str (ByteArray.mk #[])), false), (p_5, false), ((V.bool false), false)], σ)
  else
  (memGet σ (V.ptr 53 r_0 0) false 1).bind fun m14 =>
  (V.asStr m14).bind fun s15 =>
  (V.asInt p_5 .i64).bind fun i16 =>
  (grd (decide (0 ≤ i16) && decide (i16 ≤ q_6) && decide (q_6 ≤ s15.size))).bind fun _ =>
  some (.ret [((V.str (s15.extract (Int.toNat i16) (Int.toNat q_6))), false), (p_5, false), ((V.bool true), false)], σ)
noncomputable def rtokenl1 (call : CallF) (n : Nat) : Nat → Nat → V → Int → Sto → Option Res
  | 0 => fun _ _ _ _ => none
  | m + 1 => rtokens1 call (rtokenl1 call n m)
noncomputable def rtokent1 (r_0 : Nat) (p_5 : V) (q_6 : Int) (σ : Sto) : St := ⟨[.val (V.ptr 53 r_0 0) false, .dead, .dead, .dead, .dead, .val p_5 false, .val (V.int .i64 q_6) false, .dead, .dead, .dead, .dead, .dead, .dead, .dead, .dead, .dead, .dead, .dead, .dead, .dead, .dead, .dead, .dead, .dead, .dead, .dead, .dead, .dead, .dead, .dead, .dead, .dead, .dead, .dead, .dead, .dead, .dead, .dead, .dead, .dead, .dead, .dead, .dead, .dead, .dead, .dead, .dead, .dead, .dead, .dead, .dead, .dead, .dead, .dead, .dead, .dead, .dead, .dead, .dead, .dead, .dead, .dead, .dead, .dead, .dead, .dead, .dead, .dead, .dead, .dead, .dead, .dead, .dead, .dead, .dead, .dead, .dead, .dead, .dead, .dead, .dead, .dead, .dead, .dead, .dead, .dead, .dead, .dead, .dead, .dead, .dead, .dead, .dead, .dead, .dead, .dead, .dead, .dead, .dead, .dead, .dead, .dead, .dead, .dead, .dead, .dead, .dead, .dead, .dead, .dead, .dead, .dead, .dead, .dead, .dead, .dead, .dead, .dead, .dead, .dead, .dead, .dead, .dead, .dead, .dead, .dead, .dead, .dead, .dead, .dead, .dead, .dead, .dead, .dead, .dead, .dead, .dead, .dead, .dead, .dead, .dead, .dead, .dead, .dead, .dead, .dead, .dead, .dead, .dead, .dead, .dead, .dead, .dead, .dead, .dead, .dead, .dead, .dead, .dead, .dead, .dead, .dead, .dead, .dead, .dead, .dead, .dead, .dead, .dead, .dead, .dead, .dead, .dead, .dead, .dead, .dead, .dead], [[], [], [], [], [], [], [], [], [], [], [], [], [], [], [], [], [], [], [], [], [], [], [], [], [], [], [], [], [], [], [], [], [], [], [], [], [], [], [], [], [], [], [], [], [], [], [], [], [], [], [], [], [], [], [], [], [], [], [], [], [], [], [], [], [], [], [], [], [], [], [], [], [], [], [], [], [], [], [], [], [], [], [], [], [], [], [], [], [], [], [], [], [], [], [], [], [], [], [], [], [], [], [], [], [], [], [], [], [], [], [], [], [], [], [], [], [], [], [], [], [], [], [], [], [], [], [], [], [], [], [], [], [], [], [], [], [], [], [], [], [], [], [], [], [], [], [], [], [], [], [], [], [], [], [], [], [], [], [], [], [], [], [], [], [], [], [], [], [], [], [], [], [], [], [], [], []], σ⟩
noncomputable def rtokens2 (call : CallF) (rec2 : Nat → V → Int → Int → Sto → Option Res) (r_0 : Nat) (p_5 : V) (q_6 : Int) (c_7 : Int) (σ : Sto) : Option Res :=
  (memGet σ (V.ptr 53 r_0 0) false 1).bind fun m1 =>
  (V.asStr m1).bind fun s2 =>
  bif (decide (q_6 < (s2.size : Int))) then
  (memGet σ (V.ptr 53 r_0 0) false 1).bind fun m3 =>
  (V.asStr m3).bind fun s4 =>
  (grd (decide (0 ≤ q_6) && decide (q_6 < s4.size))).bind fun _ =>
  bif (decide ((byteAt s4 (Int.toNat q_6)) ≥ (48 : Int))) then
  (memGet σ (V.ptr 53 r_0 0) false 1).bind fun m5 =>
  (V.asStr m5).bind fun s6 =>
  (grd (decide (0 ≤ q_6) && decide (q_6 < s6.size))).bind fun _ =>
  bif (decide ((byteAt s6 (Int.toNat q_6)) ≤ (57 : Int))) then
  rec2 r_0 p_5 (IntKind.wrap .i64 (q_6 + (1 : Int))) c_7 σ
  else
  bif (c_7 == (35 : Int)) then
  (V.asInt p_5 .i64).bind fun i7 =>
  bif (q_6 == (IntKind.wrap .i64 (i7 + (1 : Int)))) then
  some (.ret [((V.str (ByteArray.mk #[])), false), (p_5, false), ((V.bool false), false)], σ)
  else
  bif (decide ((IntKind.wrap .i64 (q_6 - (IntKind.wrap .i64 (i7 + (1 : Int))))) > (5 : Int))) then
  some (.ret [((V.str (ByteArray.mk #[])), false), (p_5, false), ((V.bool false), false)], σ)
  else
  bif (decide ((IntKind.wrap .i64 (q_6 - (IntKind.wrap .i64 (i7 + (1 : Int))))) > (1 : Int))) then
  (memGet σ (V.ptr 53 r_0 0) false 1).bind fun m8 =>
  (V.asStr m8).bind fun s9 =>
  (grd (decide (0 ≤ (IntKind.wrap .i64 (i7 + (1 : Int)))) && decide ((IntKind.wrap .i64 (i7 + (1 : Int))) < s9.size))).bind fun _ =>
  bif ((byteAt s9 (Int.toNat (IntKind.wrap .i64 (i7 + (1 : Int))))) == (48 : Int)) then
  some (.ret [((V.str (ByteArray.mk #[])), false), (p_5, false), ((V.bool false), false)], σ)
  else
  (memGet σ (V.ptr 53 r_0 0) false 1).bind fun m10 =>
  (V.asStr m10).bind fun s11 =>
  (V.asInt p_5 .i64).bind fun i12 =>
  (grd (decide (0 ≤ i12) && decide (i12 ≤ q_6) && decide (q_6 ≤ s11.size))).bind fun _ =>
  some (.ret [((V.str (s11.extract (Int.toNat i12) (Int.toNat q_6))), false), (p_5, false), ((V.bool true), false)], σ)
  else
  (memGet σ (V.ptr 53 r_0 0) false 1).bind fun m13 =>
  (V.asStr m13).bind fun s14 =>
  (V.asInt p_5 .i64).bind fun i15 =>
  (grd (decide (0 ≤ i15) && decide (i15 ≤ q_6) && decide (q_6 ≤ s14.size))).bind fun _ =>
  some (.ret [((V.str (s14.extract (Int.toNat i15) (Int.toNat q_6))), false), (p_5, false), ((V.bool true), false)], σ)
  else
  (V.asInt p_5 .i64).bind fun i16 =>
  bif (q_6 == i16) then
  some (.ret [((V.str (ByteArray.mk #[])), false), (p_5, false), ((V.bool false), false)], σ)
  else
  (V.asInt p_5 .i64).bind fun i17 =>
  bif (decide ((IntKind.wrap .i64 (q_6 - i17)) > (5 : Int))) then
  some (.ret [((V.str (ByteArray.mk #[])), false), (p_5, false), ((V.bool false), false)], σ)
  else
  (V.asInt p_5 .i64).bind fun i18 =>
  bif (decide ((IntKind.wrap .i64 (q_6 - i18)) > (1 : Int))) then
  (memGet σ (V.ptr 53 r_0 0) false 1).bind fun m19 =>
  (V.asStr m19).bind fun s20 =>
  (V.asInt p_5 .i64).bind fun i21 =>
  (grd (decide (0 ≤ i21) && decide (i21 < s20.size))).bind fun _ =>
  bif ((byteAt s20 (Int.toNat i21)) == (48 : Int)) then
  some (.ret [((V.str (ByteArray.mk #[])), false), (p_5, false), ((V.bool false), false)], σ)
  else
  (memGet σ (V.ptr 53 r_0 0) false 1).bind fun m22 =>
  (V.asStr m22).bind fun s23 =>
  (V.asInt p_5 .i64).bind fun i24 =>
  (grd (decide (0 ≤ i24) && decide (i24 ≤ q_6) && decide (q_6 ≤ s23.size))).bind fun _ =>
  some (.ret [((V.str (s23.extract (Int.toNat i24) (Int.toNat q_6))), false), (p_5, false), ((V.bool true), false)], σ)
  else
  (memGet σ (V.ptr 53 r_0 0) false 1).bind fun m25 =>
  (V.asStr m25).bind fun s26 =>
  (V.asInt p_5 .i64).bind fun i27 =>
  (grd (decide (0 ≤ i27) && decide (i27 ≤ q_6) && decide (q_6 ≤ s26.size))).bind fun _ =>
  some (.ret [((V.str (s26.extract (Int.toNat i27) (Int.toNat q_6))), false), (p_5, false), ((V.bool true), false)], σ)
  else
  bif (c_7 == (35 : Int)) then
  (V.asInt p_5 .i64).bind fun i28 =>
  bif (q_6 == (IntKind.wrap .i64 (i28 + (1 : Int)))) then
  some (.ret [((V.str (ByteArray.mk #[])), false), (p_5, false), ((V.bool false), false)], σ)
  else
  bif (decide ((IntKind.wrap .i64 (q_6 - (IntKind.wrap .i64 (i28 + (1 : Int))))) > (5 : Int))) then
  some (.ret [((V.str (ByteArray.mk #[])), false), (p_5, false), ((V.bool false), false)], σ)
  else
  bif (decide ((IntKind.wrap .i64 (q_6 - (IntKind.wrap .i64 (i28 + (1 : Int))))) > (1 : Int))) then
  (memGet σ (V.ptr 53 r_0 0) false 1).bind fun m29 =>
  (V.asStr m29).bind fun s30 =>
  (grd (decide (0 ≤ (IntKind.wrap .i64 (i28 + (1 : Int)))) && decide ((IntKind.wrap .i64 (i28 + (1 : Int))) < s30.size))).bind fun _ =>
  bif ((byteAt s30 (Int.toNat (IntKind.wrap .i64 (i28 + (1 : Int))))) == (48 : Int)) then
  some (.ret [((V.str (ByteArray.mk #[])), false), (p_5, false), ((V.bool false), false)], σ)
  else
  (memGet σ (V.ptr 53 r_0 0) false 1).bind fun m31 =>
  (V.asStr m31).bind fun s32 =>
  (V.asInt p_5 .i64).bind fun i33 =>
  (grd (decide (0 ≤ i33) && decide (i33 ≤ q_6) && decide (q_6 ≤ s32.size))).bind fun _ =>
  some (.ret [((V.str (s32.extract (Int.toNat i33) (Int.toNat q_6))), false), (p_5, false), ((V.bool true), false)], σ)
  else
  (memGet σ (V.ptr 53 r_0 0) false 1).bind fun m34 =>
  (V.asStr m34).bind fun s35 =>
  (V.asInt p_5 .i64).bind fun i36 =>
  (grd (decide (0 ≤ i36) && decide (i36 ≤ q_6) && decide (q_6 ≤ s35.size))).bind fun _ =>
  some (.ret [((V.str (s35.extract (Int.toNat i36) (Int.toNat q_6))), false), (p_5, false), ((V.bool true), false)], σ)
  else
  (V.asInt p_5 .i64).bind fun i37 =>
  bif (q_6 == i37) then
  some (.ret [((V.str (ByteArray.mk #[])), false), (p_5, false), ((V.bool false), false)], σ)
  else
  (V.asInt p_5 .i64).bind fun i38 =>
  bif (decide ((IntKind.wrap .i64 (q_6 - i38)) > (5 : Int))) then
  some (.ret [((V.str (ByteArray.mk #[])), false), (p_5, false), ((V.bool false), false)], σ)
  else
  (V.asInt p_5 .i64).bind fun i39 =>
  bif (decide ((IntKind.wrap .i64 (q_6 - i39)) > (1 : Int))) then
  (memGet σ (V.ptr 53 r_0 0) false 1).bind fun m40 =>
  (V.asStr m40).bind fun s41 =>
  (V.asInt p_5 .i64).bind fun i42 =>
  (grd (decide (0 ≤ i42) && decide (i42 < s41.size))).bind fun _ =>
  bif ((byteAt s41 (Int.toNat i42)) == (48 : Int)) then
  some (.ret [((V.str (ByteArray.mk #[])), false), (p_5, false), ((V.bool false), false)], σ)
  else
  (memGet σ (V.ptr 53 r_0 0) false 1).bind fun m43 =>
  (V.asStr m43).bind fun s44 =>
  (V.asInt p_5 .i64).bind fun i45 =>
  (grd (decide (0 ≤ i45) && decide (i45 ≤ q_6) && decide (q_6 ≤ s44.size))).bind fun _ =>
  some (.ret [((V.str (s44.extract (Int.toNat i45) (Int.toNat q_6))), false), (p_5, false), ((V.bool true), false)], σ)
  else
  (memGet σ (V.ptr 53 r_0 0) false 1).bind fun m46 =>
  (V.asStr m46).bind fun s47 =>
  (V.asInt p_5 .i64).bind fun i48 =>
  (grd (decide (0 ≤ i48) && decide (i48 ≤ q_6) && decide (q_6 ≤ s47.size))).bind fun _ =>
  some (.ret [((V.str (s47.extract (Int.toNat i48) (Int.toNat q_6))), false), (p_5, false), ((V.bool true), false)], σ)
  else
  bif (c_7 == (35 : Int)) then
  (V.asInt p_5 .i64).bind fun i49 =>
  bif (q_6 == (IntKind.wrap .i64 (i49 + (1 : Int)))) then
  some (.ret [((V.str (ByteArray.mk #[])), false), (p_5, false), ((V.bool false), false)], σ)
  else
  bif (decide ((IntKind.wrap .i64 (q_6 - (IntKind.wrap .i64 (i49 + (1 : Int))))) > (5 : Int))) then
  some (.ret [((V.str (ByteArray.mk #[])), false), (p_5, false), ((V.bool false), false)], σ)
  else
  bif (decide ((IntKind.wrap .i64 (q_6 - (IntKind.wrap .i64 (i49 + (1 : Int))))) > (1 : Int))) then
  (memGet σ (V.ptr 53 r_0 0) false 1).bind fun m50 =>
  (V.asStr m50).bind fun s51 =>
  (grd (decide (0 ≤ (IntKind.wrap .i64 (i49 + (1 : Int)))) && decide ((IntKind.wrap .i64 (i49 + (1 : Int))) < s51.size))).bind fun _ =>
  bif ((byteAt s51 (Int.toNat (IntKind.wrap .i64 (i49 + (1 : Int))))) == (48 : Int)) then
  some (.ret [((V.str (ByteArray.mk #[])), false), (p_5, false), ((V.bool false), false)], σ)
  else
  (memGet σ (V.ptr 53 r_0 0) false 1).bind fun m52 =>
  (V.asStr m52).bind fun s53 =>
  (V.asInt p_5 .i64).bind fun i54 =>
  (grd (decide (0 ≤ i54) && decide (i54 ≤ q_6) && decide (q_6 ≤ s53.size))).bind fun _ =>
  some (.ret [((V.str (s53.extract (Int.toNat i54) (Int.toNat q_6))), false), (p_5, false), ((V.bool true), false)], σ)
  else
  (memGet σ (V.ptr 53 r_0 0) false 1).bind fun m55 =>
  (V.asStr m55).bind fun s56 =>
  (V.asInt p_5 .i64).bind fun i57 =>
  (grd (decide (0 ≤ i57) && decide (i57 ≤ q_6) && decide (q_6 ≤ s56.size))).bind fun _ =>
  some (.ret [((V.str (s56.extract (Int.toNat i57) (Int.toNat q_6))), false), (p_5, false), ((V.bool true), false)], σ)
  else
  (V.asInt p_5 .i64).bind fun i58 =>
  bif (q_6 == i58) then
  some (.ret [((V.str (ByteArray.mk #[])), false), (p_5, false), ((V.bool false), false)], σ)
  else
  (V.asInt p_5 .i64).bind fun i59 =>
  bif (decide ((IntKind.wrap .i64 (q_6 - i59)) > (5 : Int))) then
  some (.ret [((V.str (ByteArray.mk #[])), false), (p_5, false), ((V.bool false), false)], σ)
  else
  (V.asInt p_5 .i64).bind fun i60 =>
  bif (decide ((IntKind.wrap .i64 (q_6 - i60)) > (1 : Int))) then
  (memGet σ (V.ptr 53 r_0 0) false 1).bind fun m61 =>
  (V.asStr m61).bind fun s62 =>
  (V.asInt p_5 .i64).bind fun i63 =>
  (grd (decide (0 ≤ i63) && decide (i63 < s62.size))).bind fun _ =>
  bif ((byteAt s62 (Int.toNat i63)) == (48 : Int)) then
  some (.ret [((V.str (ByteArray.mk #[])), false), (p_5, false), ((V.bool false), false)], σ)
  else
  (memGet σ (V.ptr 53 r_0 0) false 1).bind fun m64 =>
  (V.asStr m64).bind fun s65 =>
  (V.asInt p_5 .i64).bind fun i66 =>
  (grd (decide (0 ≤ i66) && decide (i66 ≤ q_6) && decide (q_6 ≤ s65.size))).bind fun _ =>
  some (.ret [((V.str (s65.extract (Int.toNat i66) (Int.toNat q_6))), false), (p_5, false), ((V.bool true), false)], σ)
  else
  (memGet σ (V.ptr 53 r_0 0) false 1).bind fun m67 =>
  (V.asStr m67).bind fun s68 =>
  (V.asInt p_5 .i64).bind fun i69 =>
  (grd (decide (0 ≤ i69) && decide (i69 ≤ q_6) && decide (q_6 ≤ s68.size))).bind fun _ =>
  some (.ret [((V.str (s68.extract (Int.toNat i69) (Int.toNat q_6))), false), (p_5, false), ((V.bool true), false)], σ)
noncomputable def rtokenl2 (call : CallF) (n : Nat) : Nat → Nat → V → Int → Int → Sto → Option Res
  | 0 => fun _ _ _ _ _ => none
  | m + 1 => rtokens2 call (rtokenl2 call n m)
noncomputable def rtokent2 (r_0 : Nat) (p_5 : V) (q_6 : Int) (c_7 : Int) (σ : Sto) : St := ⟨[.val (V.ptr 53 r_0 0) false, .dead, .dead, .dead, .dead, .val p_5 false, .val (V.int .i64 q_6) false, .val (V.int .u8 c_7) false, .dead, .dead, .dead, .dead, .dead, .dead, .dead, .dead, .dead, .dead, .dead, .dead, .dead, .dead, .dead, .dead, .dead, .dead, .dead, .dead, .dead, .dead, .dead, .dead, .dead, .dead, .dead, .dead, .dead, .dead, .dead, .dead, .dead, .dead, .dead, .dead, .dead, .dead, .dead, .dead, .dead, .dead, .dead, .dead, .dead, .dead, .dead, .dead, .dead, .dead, .dead, .dead, .dead, .dead, .dead, .dead, .dead, .dead, .dead, .dead, .dead, .dead, .dead, .dead, .dead, .dead, .dead, .dead, .dead, .dead, .dead, .dead, .dead, .dead, .dead, .dead, .dead, .dead, .dead, .dead, .dead, .dead, .dead, .dead, .dead, .dead, .dead, .dead, .dead, .dead, .dead, .dead, .dead, .dead, .dead, .dead, .dead, .dead, .dead, .dead, .dead, .dead, .dead, .dead, .dead, .dead, .dead, .dead, .dead, .dead, .dead, .dead, .dead, .dead, .dead, .dead, .dead, .dead, .dead, .dead, .dead, .dead, .dead, .dead, .dead, .dead, .dead, .dead, .dead, .dead, .dead, .dead, .dead, .dead, .dead, .dead, .dead, .dead, .dead, .dead, .dead, .dead, .dead, .dead, .dead, .dead, .dead, .dead, .dead, .dead, .dead, .dead, .dead, .dead, .dead, .dead, .dead, .dead, .dead, .dead, .dead, .dead, .dead, .dead, .dead, .dead, .dead, .dead, .dead], [[], [], [], [], [], [], [], [], [], [], [], [], [], [], [], [], [], [], [], [], [], [], [], [], [], [], [], [], [], [], [], [], [], [], [], [], [], [], [], [], [], [], [], [], [], [], [], [], [], [], [], [], [], [], [], [], [], [], [], [], [], [], [], [], [], [], [], [], [], [], [], [], [], [], [], [], [], [], [], [], [], [], [], [], [], [], [], [], [], [], [], [], [], [], [], [], [], [], [], [], [], [], [], [], [], [], [], [], [], [], [], [], [], [], [], [], [], [], [], [], [], [], [], [], [], [], [], [], [], [], [], [], [], [], [], [], [], [], [], [], [], [], [], [], [], [], [], [], [], [], [], [], [], [], [], [], [], [], [], [], [], [], [], [], [], [], [], [], [], [], [], [], [], [], [], [], []], σ⟩
noncomputable def rtokens0 (call : CallF) (L1 : Nat → V → Int → Sto → Option Res) (L2 : Nat → V → Int → Int → Sto → Option Res) (rec0 : Nat → V → Sto → Option Res) (r_0 : Nat) (p_5 : V) (σ : Sto) : Option Res :=
  (memGet σ (V.ptr 53 r_0 0) false 1).bind fun m1 =>
  (V.asStr m1).bind fun s2 =>
  (V.asInt p_5 .i64).bind fun i3 =>
  bif (decide (i3 < (s2.size : Int))) then
  (memGet σ (V.ptr 53 r_0 0) false 1).bind fun m4 =>
  (V.asStr m4).bind fun s5 =>
  (V.asInt p_5 .i64).bind fun i6 =>
  (grd (decide (0 ≤ i6) && decide (i6 < s5.size))).bind fun _ =>
  bif ((byteAt s5 (Int.toNat i6)) == (32 : Int)) then
  (V.asInt p_5 .i64).bind fun i7 =>
  rec0 r_0 (V.int .i64 (IntKind.wrap .i64 (i7 + (1 : Int)))) σ
  else
  (memGet σ (V.ptr 53 r_0 0) false 1).bind fun m8 =>
  (V.asStr m8).bind fun s9 =>
  (V.asInt p_5 .i64).bind fun i10 =>
  (grd (decide (0 ≤ i10) && decide (i10 < s9.size))).bind fun _ =>
  bif ((byteAt s9 (Int.toNat i10)) == (9 : Int)) then
  (V.asInt p_5 .i64).bind fun i11 =>
  rec0 r_0 (V.int .i64 (IntKind.wrap .i64 (i11 + (1 : Int)))) σ
  else
  (memGet σ (V.ptr 53 r_0 0) false 1).bind fun m12 =>
  (V.asStr m12).bind fun s13 =>
  (V.asInt p_5 .i64).bind fun i14 =>
  (grd (decide (0 ≤ i14) && decide (i14 < s13.size))).bind fun _ =>
  bif ((byteAt s13 (Int.toNat i14)) == (10 : Int)) then
  (V.asInt p_5 .i64).bind fun i15 =>
  rec0 r_0 (V.int .i64 (IntKind.wrap .i64 (i15 + (1 : Int)))) σ
  else
  (memGet σ (V.ptr 53 r_0 0) false 1).bind fun m16 =>
  (V.asStr m16).bind fun s17 =>
  (V.asInt p_5 .i64).bind fun i18 =>
  bif (i18 == (s17.size : Int)) then
  some (.ret [((V.str (ByteArray.mk #[])), false), (p_5, false), ((V.bool true), false)], σ)
  else
  (V.asInt p_5 .i64).bind fun i19 =>
  (memGet σ (V.ptr 53 r_0 0) false 1).bind fun m20 =>
  (V.asStr m20).bind fun s21 =>
  (V.asInt p_5 .i64).bind fun i22 =>
  (grd (decide (0 ≤ i22) && decide (i22 < s21.size))).bind fun _ =>
  callK call 55 [((V.int .u8 (byteAt s21 (Int.toNat i22))), false), ((V.bool true), false)] σ 1 (fun vs23 σ24 =>
  bif ((byteAt s21 (Int.toNat i22)) == (40 : Int)) then
  (memGet σ24 (V.ptr 53 r_0 0) false 1).bind fun m26 =>
  (V.asStr m26).bind fun s27 =>
  (V.asInt p_5 .i64).bind fun i28 =>
  (grd (decide (0 ≤ i28) && decide (i28 ≤ (IntKind.wrap .i64 (i19 + (1 : Int)))) && decide ((IntKind.wrap .i64 (i19 + (1 : Int))) ≤ s27.size))).bind fun _ =>
  some (.ret [((V.str (s27.extract (Int.toNat i28) (Int.toNat (IntKind.wrap .i64 (i19 + (1 : Int)))))), false), (p_5, false), ((V.bool true), false)], σ24)
  else
  bif ((byteAt s21 (Int.toNat i22)) == (41 : Int)) then
  (memGet σ24 (V.ptr 53 r_0 0) false 1).bind fun m29 =>
  (V.asStr m29).bind fun s30 =>
  (V.asInt p_5 .i64).bind fun i31 =>
  (grd (decide (0 ≤ i31) && decide (i31 ≤ (IntKind.wrap .i64 (i19 + (1 : Int)))) && decide ((IntKind.wrap .i64 (i19 + (1 : Int))) ≤ s30.size))).bind fun _ =>
  some (.ret [((V.str (s30.extract (Int.toNat i31) (Int.toNat (IntKind.wrap .i64 (i19 + (1 : Int)))))), false), (p_5, false), ((V.bool true), false)], σ24)
  else
  (V.asBool (List.getD vs23 0 cellD).1).bind fun b32 =>
  bif b32 then
  L1 r_0 p_5 (IntKind.wrap .i64 (i19 + (1 : Int))) σ24
  else
  bif ((byteAt s21 (Int.toNat i22)) == (35 : Int)) then
  L2 r_0 p_5 (IntKind.wrap .i64 (i19 + (1 : Int))) (byteAt s21 (Int.toNat i22)) σ24
  else
  bif (decide ((byteAt s21 (Int.toNat i22)) ≥ (48 : Int))) then
  bif (decide ((byteAt s21 (Int.toNat i22)) ≤ (57 : Int))) then
  L2 r_0 p_5 (IntKind.wrap .i64 (i19 + (1 : Int))) (byteAt s21 (Int.toNat i22)) σ24
  else
  some (.ret [((V.str (ByteArray.mk #[])), false), (p_5, false), ((V.bool false), false)], σ24)
  else
  some (.ret [((V.str (ByteArray.mk #[])), false), (p_5, false), ((V.bool false), false)], σ24)) (fun p25 σ24 => some (.pan p25, σ24))
  else
  (memGet σ (V.ptr 53 r_0 0) false 1).bind fun m33 =>
  (V.asStr m33).bind fun s34 =>
  (V.asInt p_5 .i64).bind fun i35 =>
  bif (i35 == (s34.size : Int)) then
  some (.ret [((V.str (ByteArray.mk #[])), false), (p_5, false), ((V.bool true), false)], σ)
  else
  (V.asInt p_5 .i64).bind fun i36 =>
  (memGet σ (V.ptr 53 r_0 0) false 1).bind fun m37 =>
  (V.asStr m37).bind fun s38 =>
  (V.asInt p_5 .i64).bind fun i39 =>
  (grd (decide (0 ≤ i39) && decide (i39 < s38.size))).bind fun _ =>
  callK call 55 [((V.int .u8 (byteAt s38 (Int.toNat i39))), false), ((V.bool true), false)] σ 1 (fun vs40 σ41 =>
  bif ((byteAt s38 (Int.toNat i39)) == (40 : Int)) then
  (memGet σ41 (V.ptr 53 r_0 0) false 1).bind fun m43 =>
  (V.asStr m43).bind fun s44 =>
  (V.asInt p_5 .i64).bind fun i45 =>
  (grd (decide (0 ≤ i45) && decide (i45 ≤ (IntKind.wrap .i64 (i36 + (1 : Int)))) && decide ((IntKind.wrap .i64 (i36 + (1 : Int))) ≤ s44.size))).bind fun _ =>
  some (.ret [((V.str (s44.extract (Int.toNat i45) (Int.toNat (IntKind.wrap .i64 (i36 + (1 : Int)))))), false), (p_5, false), ((V.bool true), false)], σ41)
  else
  bif ((byteAt s38 (Int.toNat i39)) == (41 : Int)) then
  (memGet σ41 (V.ptr 53 r_0 0) false 1).bind fun m46 =>
  (V.asStr m46).bind fun s47 =>
  (V.asInt p_5 .i64).bind fun i48 =>
  (grd (decide (0 ≤ i48) && decide (i48 ≤ (IntKind.wrap .i64 (i36 + (1 : Int)))) && decide ((IntKind.wrap .i64 (i36 + (1 : Int))) ≤ s47.size))).bind fun _ =>
  some (.ret [((V.str (s47.extract (Int.toNat i48) (Int.toNat (IntKind.wrap .i64 (i36 + (1 : Int)))))), false), (p_5, false), ((V.bool true), false)], σ41)
  else
  (V.asBool (List.getD vs40 0 cellD).1).bind fun b49 =>
  bif b49 then
  L1 r_0 p_5 (IntKind.wrap .i64 (i36 + (1 : Int))) σ41
  else
  bif ((byteAt s38 (Int.toNat i39)) == (35 : Int)) then
  L2 r_0 p_5 (IntKind.wrap .i64 (i36 + (1 : Int))) (byteAt s38 (Int.toNat i39)) σ41
  else
  bif (decide ((byteAt s38 (Int.toNat i39)) ≥ (48 : Int))) then
  bif (decide ((byteAt s38 (Int.toNat i39)) ≤ (57 : Int))) then
  L2 r_0 p_5 (IntKind.wrap .i64 (i36 + (1 : Int))) (byteAt s38 (Int.toNat i39)) σ41
  else
  some (.ret [((V.str (ByteArray.mk #[])), false), (p_5, false), ((V.bool false), false)], σ41)
  else
  some (.ret [((V.str (ByteArray.mk #[])), false), (p_5, false), ((V.bool false), false)], σ41)) (fun p42 σ41 => some (.pan p42, σ41))
noncomputable def rtokenl0 (call : CallF) (n : Nat) : Nat → Nat → V → Sto → Option Res
  | 0 => fun _ _ _ => none
  | m + 1 => rtokens0 call (rtokenl1 call n n) (rtokenl2 call n n) (rtokenl0 call n m)
noncomputable def rtokent0 (r_0 : Nat) (p_5 : V) (σ : Sto) : St := ⟨[.val (V.ptr 53 r_0 0) false, .dead, .dead, .dead, .dead, .val p_5 false, .dead, .dead, .dead, .dead, .dead, .dead, .dead, .dead, .dead, .dead, .dead, .dead, .dead, .dead, .dead, .dead, .dead, .dead, .dead, .dead, .dead, .dead, .dead, .dead, .dead, .dead, .dead, .dead, .dead, .dead, .dead, .dead, .dead, .dead, .dead, .dead, .dead, .dead, .dead, .dead, .dead, .dead, .dead, .dead, .dead, .dead, .dead, .dead, .dead, .dead, .dead, .dead, .dead, .dead, .dead, .dead, .dead, .dead, .dead, .dead, .dead, .dead, .dead, .dead, .dead, .dead, .dead, .dead, .dead, .dead, .dead, .dead, .dead, .dead, .dead, .dead, .dead, .dead, .dead, .dead, .dead, .dead, .dead, .dead, .dead, .dead, .dead, .dead, .dead, .dead, .dead, .dead, .dead, .dead, .dead, .dead, .dead, .dead, .dead, .dead, .dead, .dead, .dead, .dead, .dead, .dead, .dead, .dead, .dead, .dead, .dead, .dead, .dead, .dead, .dead, .dead, .dead, .dead, .dead, .dead, .dead, .dead, .dead, .dead, .dead, .dead, .dead, .dead, .dead, .dead, .dead, .dead, .dead, .dead, .dead, .dead, .dead, .dead, .dead, .dead, .dead, .dead, .dead, .dead, .dead, .dead, .dead, .dead, .dead, .dead, .dead, .dead, .dead, .dead, .dead, .dead, .dead, .dead, .dead, .dead, .dead, .dead, .dead, .dead, .dead, .dead, .dead, .dead, .dead, .dead, .dead], [[], [], [], [], [], [], [], [], [], [], [], [], [], [], [], [], [], [], [], [], [], [], [], [], [], [], [], [], [], [], [], [], [], [], [], [], [], [], [], [], [], [], [], [], [], [], [], [], [], [], [], [], [], [], [], [], [], [], [], [], [], [], [], [], [], [], [], [], [], [], [], [], [], [], [], [], [], [], [], [], [], [], [], [], [], [], [], [], [], [], [], [], [], [], [], [], [], [], [], [], [], [], [], [], [], [], [], [], [], [], [], [], [], [], [], [], [], [], [], [], [], [], [], [], [], [], [], [], [], [], [], [], [], [], [], [], [], [], [], [], [], [], [], [], [], [], [], [], [], [], [], [], [], [], [], [], [], [], [], [], [], [], [], [], [], [], [], [], [], [], [], [], [], [], [], [], []], σ⟩
noncomputable def rtokenF (call : CallF) (L0 : Nat → V → Sto → Option Res) (r_0 : Nat) (σ : Sto) : Option Res :=
  (memGet σ (V.ptr 53 r_0 1) false 1).bind fun m1 =>
  L0 r_0 m1 σ
noncomputable def rtoken (call : CallF) (n : Nat) (r_0 : Nat) (σ : Sto) : Option Res := rtokenF call (rtokenl0 call n n) r_0 σ
theorem rtokens1_eq (call : CallF) (n : Nat) (F1 : St → Option Res) (r_0 : Nat) (p_5 : V) (q_6 : Int) (σ : Sto) :
    aexec C rtokenH call n (codeL (codeL (codeL (codeL (codeR (codeR (codeR (codeL (codeL (codeR (codeR (codeR (codeR (codeR (codeR (codeR rtokenC)))))))))))))))) 0 (rtokent1 r_0 p_5 q_6 σ) (kloop rtokenk1 F1 (kblk 3 (kseq (fun st' => aexec C rtokenH call n (codeR (codeL (codeR (codeR (codeR (codeL (codeL (codeR (codeR (codeR (codeR (codeR (codeR (codeR rtokenC)))))))))))))) 0 st' (kblk 2 (kseq (fun st' => aexec C rtokenH call n (codeR (codeR (codeR (codeR (codeR (codeR (codeR (codeR rtokenC)))))))) 0 st' (kfin C rtokenD)) (kfin C rtokenD)))) (kblk 2 (kseq (fun st' => aexec C rtokenH call n (codeR (codeR (codeR (codeR (codeR (codeR (codeR (codeR rtokenC)))))))) 0 st' (kfin C rtokenD)) (kfin C rtokenD)))))) =
    rtokens1 call (fun r_0 p_5 q_6 σ => F1 (rtokent1 r_0 p_5 q_6 σ)) r_0 p_5 q_6 σ := by kernel_rfl
theorem rtokenl1_eq (call : CallF) (n : Nat) : ∀ (m : Nat) (r_0 : Nat) (p_5 : V) (q_6 : Int) (σ : Sto),
    aloop (fun st K => aexec C rtokenH call n (codeL (codeL (codeL (codeL (codeR (codeR (codeR (codeL (codeL (codeR (codeR (codeR (codeR (codeR (codeR (codeR rtokenC)))))))))))))))) 0 st K) rtokenk1 m (rtokent1 r_0 p_5 q_6 σ) (kblk 3 (kseq (fun st' => aexec C rtokenH call n (codeR (codeL (codeR (codeR (codeR (codeL (codeL (codeR (codeR (codeR (codeR (codeR (codeR (codeR rtokenC)))))))))))))) 0 st' (kblk 2 (kseq (fun st' => aexec C rtokenH call n (codeR (codeR (codeR (codeR (codeR (codeR (codeR (codeR rtokenC)))))))) 0 st' (kfin C rtokenD)) (kfin C rtokenD)))) (kblk 2 (kseq (fun st' => aexec C rtokenH call n (codeR (codeR (codeR (codeR (codeR (codeR (codeR (codeR rtokenC)))))))) 0 st' (kfin C rtokenD)) (kfin C rtokenD))))) = rtokenl1 call n m r_0 p_5 q_6 σ
  | 0, r_0, p_5, q_6, σ => rfl
  | m + 1, r_0, p_5, q_6, σ => by
    rw [aloop, rtokens1_eq]
    simp only [rtokenl1_eq call n m]
    rfl
theorem rtokens2_eq (call : CallF) (n : Nat) (F2 : St → Option Res) (r_0 : Nat) (p_5 : V) (q_6 : Int) (c_7 : Int) (σ : Sto) :
    aexec C rtokenH call n (codeL (codeL (codeL (codeL (codeR (codeR (codeR (codeR (codeR (codeL (codeL (codeR (codeR (codeR (codeR (codeR (codeR (codeR rtokenC)))))))))))))))))) 0 (rtokent2 r_0 p_5 q_6 c_7 σ) (kloop rtokenk2 F2 (kblk 5 (kseq (fun st' => aexec C rtokenH call n (codeR (codeL (codeR (codeR (codeR (codeR (codeR (codeL (codeL (codeR (codeR (codeR (codeR (codeR (codeR (codeR rtokenC)))))))))))))))) 0 st' (kblk 2 (kseq (fun st' => aexec C rtokenH call n (codeR (codeR (codeR (codeR (codeR (codeR (codeR (codeR rtokenC)))))))) 0 st' (kfin C rtokenD)) (kfin C rtokenD)))) (kblk 2 (kseq (fun st' => aexec C rtokenH call n (codeR (codeR (codeR (codeR (codeR (codeR (codeR (codeR rtokenC)))))))) 0 st' (kfin C rtokenD)) (kfin C rtokenD)))))) =
    rtokens2 call (fun r_0 p_5 q_6 c_7 σ => F2 (rtokent2 r_0 p_5 q_6 c_7 σ)) r_0 p_5 q_6 c_7 σ := by kernel_rfl
theorem rtokenl2_eq (call : CallF) (n : Nat) : ∀ (m : Nat) (r_0 : Nat) (p_5 : V) (q_6 : Int) (c_7 : Int) (σ : Sto),
    aloop (fun st K => aexec C rtokenH call n (codeL (codeL (codeL (codeL (codeR (codeR (codeR (codeR (codeR (codeL (codeL (codeR (codeR (codeR (codeR (codeR (codeR (codeR rtokenC)))))))))))))))))) 0 st K) rtokenk2 m (rtokent2 r_0 p_5 q_6 c_7 σ) (kblk 5 (kseq (fun st' => aexec C rtokenH call n (codeR (codeL (codeR (codeR (codeR (codeR (codeR (codeL (codeL (codeR (codeR (codeR (codeR (codeR (codeR (codeR rtokenC)))))))))))))))) 0 st' (kblk 2 (kseq (fun st' => aexec C rtokenH call n (codeR (codeR (codeR (codeR (codeR (codeR (codeR (codeR rtokenC)))))))) 0 st' (kfin C rtokenD)) (kfin C rtokenD)))) (kblk 2 (kseq (fun st' => aexec C rtokenH call n (codeR (codeR (codeR (codeR (codeR (codeR (codeR (codeR rtokenC)))))))) 0 st' (kfin C rtokenD)) (kfin C rtokenD))))) = rtokenl2 call n m r_0 p_5 q_6 c_7 σ
  | 0, r_0, p_5, q_6, c_7, σ => rfl
  | m + 1, r_0, p_5, q_6, c_7, σ => by
    rw [aloop, rtokens2_eq]
    simp only [rtokenl2_eq call n m]
    rfl
theorem rtokens0_eq (call : CallF) (n : Nat) (F0 : St → Option Res) (r_0 : Nat) (p_5 : V) (σ : Sto) :
    aexec C rtokenH call n (codeL (codeL (codeL (codeR (codeR rtokenC))))) 0 (rtokent0 r_0 p_5 σ) (kloop rtokenk0 F0 (kblk 0 (kseq (fun st' => aexec C rtokenH call n (codeR (codeR (codeR rtokenC))) 0 st' (kfin C rtokenD)) (kfin C rtokenD)))) =
    rtokens0 call (fun r_0 p_5 q_6 σ => aloop (fun st K => aexec C rtokenH call n (codeL (codeL (codeL (codeL (codeR (codeR (codeR (codeL (codeL (codeR (codeR (codeR (codeR (codeR (codeR (codeR rtokenC)))))))))))))))) 0 st K) rtokenk1 n (rtokent1 r_0 p_5 q_6 σ) (kblk 3 (kseq (fun st' => aexec C rtokenH call n (codeR (codeL (codeR (codeR (codeR (codeL (codeL (codeR (codeR (codeR (codeR (codeR (codeR (codeR rtokenC)))))))))))))) 0 st' (kblk 2 (kseq (fun st' => aexec C rtokenH call n (codeR (codeR (codeR (codeR (codeR (codeR (codeR (codeR rtokenC)))))))) 0 st' (kfin C rtokenD)) (kfin C rtokenD)))) (kblk 2 (kseq (fun st' => aexec C rtokenH call n (codeR (codeR (codeR (codeR (codeR (codeR (codeR (codeR rtokenC)))))))) 0 st' (kfin C rtokenD)) (kfin C rtokenD)))))) (fun r_0 p_5 q_6 c_7 σ => aloop (fun st K => aexec C rtokenH call n (codeL (codeL (codeL (codeL (codeR (codeR (codeR (codeR (codeR (codeL (codeL (codeR (codeR (codeR (codeR (codeR (codeR (codeR rtokenC)))))))))))))))))) 0 st K) rtokenk2 n (rtokent2 r_0 p_5 q_6 c_7 σ) (kblk 5 (kseq (fun st' => aexec C rtokenH call n (codeR (codeL (codeR (codeR (codeR (codeR (codeR (codeL (codeL (codeR (codeR (codeR (codeR (codeR (codeR (codeR rtokenC)))))))))))))))) 0 st' (kblk 2 (kseq (fun st' => aexec C rtokenH call n (codeR (codeR (codeR (codeR (codeR (codeR (codeR (codeR rtokenC)))))))) 0 st' (kfin C rtokenD)) (kfin C rtokenD)))) (kblk 2 (kseq (fun st' => aexec C rtokenH call n (codeR (codeR (codeR (codeR (codeR (codeR (codeR (codeR rtokenC)))))))) 0 st' (kfin C rtokenD)) (kfin C rtokenD)))))) (fun r_0 p_5 σ => F0 (rtokent0 r_0 p_5 σ)) r_0 p_5 σ := by kernel_rfl
theorem rtokenl0_eq (call : CallF) (n : Nat) : ∀ (m : Nat) (r_0 : Nat) (p_5 : V) (σ : Sto),
    aloop (fun st K => aexec C rtokenH call n (codeL (codeL (codeL (codeR (codeR rtokenC))))) 0 st K) rtokenk0 m (rtokent0 r_0 p_5 σ) (kblk 0 (kseq (fun st' => aexec C rtokenH call n (codeR (codeR (codeR rtokenC))) 0 st' (kfin C rtokenD)) (kfin C rtokenD))) = rtokenl0 call n m r_0 p_5 σ
  | 0, r_0, p_5, σ => rfl
  | m + 1, r_0, p_5, σ => by
    rw [aloop, rtokens0_eq]
    simp only [rtokenl0_eq call n m, rtokenl1_eq, rtokenl2_eq]
    rfl
theorem rtoken_eqF (call : CallF) (n : Nat) (r_0 : Nat) (σ : Sto) : afun C rtokenD call n [((V.ptr 53 r_0 0), false)] σ =
    rtokenF call (fun r_0 p_5 σ => aloop (fun st K => aexec C rtokenH call n (codeL (codeL (codeL (codeR (codeR rtokenC))))) 0 st K) rtokenk0 n (rtokent0 r_0 p_5 σ) (kblk 0 (kseq (fun st' => aexec C rtokenH call n (codeR (codeR (codeR rtokenC))) 0 st' (kfin C rtokenD)) (kfin C rtokenD)))) r_0 σ := by kernel_rfl
theorem rtoken_eq (call : CallF) (n : Nat) (r_0 : Nat) (σ : Sto) : afun C rtokenD call n [((V.ptr 53 r_0 0), false)] σ = rtoken call n r_0 σ := by
  rw [rtoken_eqF]
  simp only [rtokenl0_eq]
  rfl
theorem rtoken_call (n : Nat) (r_0 : Nat) (σ : Sto) : acall C (n + 1) 41 [((V.ptr 53 r_0 0), false)] σ = rtoken (acall C n) n r_0 σ :=
  (show acall C (n + 1) 41 [((V.ptr 53 r_0 0), false)] σ = afun C rtokenD (acall C n) n [((V.ptr 53 r_0 0), false)] σ by kernel_rfl).trans (rtoken_eq _ _ r_0 σ)
theorem rtoken_lim {n : Nat} {r_0 : Nat} {b0 : Bool} {σ : Sto} {r : Res} (h : rtoken (lim C) n r_0 σ = some r) : lim C 41 [((V.ptr 53 r_0 0), b0)] σ = some r :=
  lim_of (d := rtokenD) (by kernel_rfl) (by kernel_rfl) n (show afun C rtokenD (lim C) n [((V.ptr 53 r_0 0), false)] σ = some r from (rtoken_eq (lim C) n r_0 σ).trans h)
/-! provekernelref.isName -/
noncomputable def isNameF (call : CallF) (t_0 : ByteArray) (σ : Sto) : Option Res :=
  bif (!(t_0.toList == (ByteArray.mk #[]).toList)) then
  (grd (decide (0 ≤ (0 : Int)) && decide ((0 : Int) < t_0.size))).bind fun _ =>
  callK call 55 [((V.int .u8 (byteAt t_0 (Int.toNat (0 : Int)))), false), ((V.bool true), false)] σ 1 (fun vs1 σ2 =>
  some (.ret [((List.getD vs1 0 cellD).1, false)], σ2)) (fun p3 σ2 => some (.pan p3, σ2))
  else
  some (.ret [((V.bool false), false)], σ)
noncomputable def isName (call : CallF) (n : Nat) (t_0 : ByteArray) (σ : Sto) : Option Res := isNameF call t_0 σ
theorem isName_eqF (call : CallF) (n : Nat) (t_0 : ByteArray) (σ : Sto) : afun C isNameD call n [((V.str t_0), false)] σ =
    isNameF call t_0 σ := by kernel_rfl
theorem isName_eq (call : CallF) (n : Nat) (t_0 : ByteArray) (σ : Sto) : afun C isNameD call n [((V.str t_0), false)] σ = isName call n t_0 σ := isName_eqF call n t_0 σ
theorem isName_call (n : Nat) (t_0 : ByteArray) (σ : Sto) : acall C (n + 1) 42 [((V.str t_0), false)] σ = isName (acall C n) n t_0 σ :=
  (show acall C (n + 1) 42 [((V.str t_0), false)] σ = afun C isNameD (acall C n) n [((V.str t_0), false)] σ by kernel_rfl).trans (isName_eq _ _ t_0 σ)
theorem isName_lim {n : Nat} {t_0 : ByteArray} {b0 : Bool} {σ : Sto} {r : Res} (h : isName (lim C) n t_0 σ = some r) : lim C 42 [((V.str t_0), b0)] σ = some r :=
  lim_of (d := isNameD) (by kernel_rfl) (by kernel_rfl) n (show afun C isNameD (lim C) n [((V.str t_0), false)] σ = some r from (isName_eq (lim C) n t_0 σ).trans h)
/-! provekernelref.Reader).next -/
noncomputable def rnextF (call : CallF) (r_0 : Nat) (σ : Sto) : Option Res :=
  callK call 41 [((V.ptr 53 r_0 0), false)] σ 3 (fun vs1 σ2 =>
  (V.asBool (List.getD vs1 2 cellD).1).bind fun b4 =>
  bif (!b4) then
  callK call 44 [((V.ptr 53 r_0 0), false), ((List.getD vs1 1 cellD).1, false)] σ2 0 (fun vs5 σ6 =>
  (memGet σ6 (V.ptr 53 r_0 2) false 1).bind fun m8 =>
  (V.asInt m8 .i64).bind fun i9 =>
  bif (i9 != (0 : Int)) then
  some (.ret [((V.str (ByteArray.mk #[])), false)], σ6)
  else
  (V.asStr (List.getD vs1 0 cellD).1).bind fun s10 =>
  (V.asInt (List.getD vs1 1 cellD).1 .i64).bind fun i11 =>
  (memSet σ6 (V.ptr 53 r_0 1) [((V.int .i64 (IntKind.wrap .i64 (i11 + (s10.size : Int)))), false)]).bind fun m12 =>
  some (.ret [((List.getD vs1 0 cellD).1, false)], m12)) (fun p7 σ6 => some (.pan p7, σ6))
  else
  (V.asStr (List.getD vs1 0 cellD).1).bind fun s13 =>
  bif (s13.toList == (ByteArray.mk #[]).toList) then
  callK call 44 [((V.ptr 53 r_0 0), false), ((List.getD vs1 1 cellD).1, false)] σ2 0 (fun vs14 σ15 =>
  (memGet σ15 (V.ptr 53 r_0 2) false 1).bind fun m17 =>
  (V.asInt m17 .i64).bind fun i18 =>
  bif (i18 != (0 : Int)) then
  some (.ret [((V.str (ByteArray.mk #[])), false)], σ15)
  else
  (V.asStr (List.getD vs1 0 cellD).1).bind fun s19 =>
  (V.asInt (List.getD vs1 1 cellD).1 .i64).bind fun i20 =>
  (memSet σ15 (V.ptr 53 r_0 1) [((V.int .i64 (IntKind.wrap .i64 (i20 + (s19.size : Int)))), false)]).bind fun m21 =>
  some (.ret [((List.getD vs1 0 cellD).1, false)], m21)) (fun p16 σ15 => some (.pan p16, σ15))
  else
  (memGet σ2 (V.ptr 53 r_0 2) false 1).bind fun m22 =>
  (V.asInt m22 .i64).bind fun i23 =>
  bif (i23 != (0 : Int)) then
  some (.ret [((V.str (ByteArray.mk #[])), false)], σ2)
  else
  (V.asStr (List.getD vs1 0 cellD).1).bind fun s24 =>
  (V.asInt (List.getD vs1 1 cellD).1 .i64).bind fun i25 =>
  (memSet σ2 (V.ptr 53 r_0 1) [((V.int .i64 (IntKind.wrap .i64 (i25 + (s24.size : Int)))), false)]).bind fun m26 =>
  some (.ret [((List.getD vs1 0 cellD).1, false)], m26)) (fun p3 σ2 => some (.pan p3, σ2))
noncomputable def rnext (call : CallF) (n : Nat) (r_0 : Nat) (σ : Sto) : Option Res := rnextF call r_0 σ
theorem rnext_eqF (call : CallF) (n : Nat) (r_0 : Nat) (σ : Sto) : afun C rnextD call n [((V.ptr 53 r_0 0), false)] σ =
    rnextF call r_0 σ := by kernel_rfl
theorem rnext_eq (call : CallF) (n : Nat) (r_0 : Nat) (σ : Sto) : afun C rnextD call n [((V.ptr 53 r_0 0), false)] σ = rnext call n r_0 σ := rnext_eqF call n r_0 σ
theorem rnext_call (n : Nat) (r_0 : Nat) (σ : Sto) : acall C (n + 1) 43 [((V.ptr 53 r_0 0), false)] σ = rnext (acall C n) n r_0 σ :=
  (show acall C (n + 1) 43 [((V.ptr 53 r_0 0), false)] σ = afun C rnextD (acall C n) n [((V.ptr 53 r_0 0), false)] σ by kernel_rfl).trans (rnext_eq _ _ r_0 σ)
theorem rnext_lim {n : Nat} {r_0 : Nat} {b0 : Bool} {σ : Sto} {r : Res} (h : rnext (lim C) n r_0 σ = some r) : lim C 43 [((V.ptr 53 r_0 0), b0)] σ = some r :=
  lim_of (d := rnextD) (by kernel_rfl) (by kernel_rfl) n (show afun C rnextD (lim C) n [((V.ptr 53 r_0 0), false)] σ = some r from (rnext_eq (lim C) n r_0 σ).trans h)
/-! provekernelref.Reader).fail -/
noncomputable def rfailF (call : CallF) (r_0 : Nat) (at_1 : Int) (σ : Sto) : Option Res :=
  (memGet σ (V.ptr 53 r_0 2) false 1).bind fun m1 =>
  (V.asInt m1 .i64).bind fun i2 =>
  bif (i2 == (0 : Int)) then
  (memSet σ (V.ptr 53 r_0 2) [((V.int .i64 (1 : Int)), false), ((V.int .i64 at_1), false)]).bind fun m3 =>
  some (.ret [], m3)
  else
  some (.ret [], σ)
noncomputable def rfail (call : CallF) (n : Nat) (r_0 : Nat) (at_1 : Int) (σ : Sto) : Option Res := rfailF call r_0 at_1 σ
theorem rfail_eqF (call : CallF) (n : Nat) (r_0 : Nat) (at_1 : Int) (σ : Sto) : afun C rfailD call n [((V.ptr 53 r_0 0), false), ((V.int .i64 at_1), false)] σ =
    rfailF call r_0 at_1 σ := by kernel_rfl
theorem rfail_eq (call : CallF) (n : Nat) (r_0 : Nat) (at_1 : Int) (σ : Sto) : afun C rfailD call n [((V.ptr 53 r_0 0), false), ((V.int .i64 at_1), false)] σ = rfail call n r_0 at_1 σ := rfail_eqF call n r_0 at_1 σ
theorem rfail_call (n : Nat) (r_0 : Nat) (at_1 : Int) (σ : Sto) : acall C (n + 1) 44 [((V.ptr 53 r_0 0), false), ((V.int .i64 at_1), false)] σ = rfail (acall C n) n r_0 at_1 σ :=
  (show acall C (n + 1) 44 [((V.ptr 53 r_0 0), false), ((V.int .i64 at_1), false)] σ = afun C rfailD (acall C n) n [((V.ptr 53 r_0 0), false), ((V.int .i64 at_1), false)] σ by kernel_rfl).trans (rfail_eq _ _ r_0 at_1 σ)
theorem rfail_lim {n : Nat} {r_0 : Nat} {at_1 : Int} {b0 b1 : Bool} {σ : Sto} {r : Res} (h : rfail (lim C) n r_0 at_1 σ = some r) : lim C 44 [((V.ptr 53 r_0 0), b0), ((V.int .i64 at_1), b1)] σ = some r :=
  lim_of (d := rfailD) (by kernel_rfl) (by kernel_rfl) n (show afun C rfailD (lim C) n [((V.ptr 53 r_0 0), false), ((V.int .i64 at_1), false)] σ = some r from (rfail_eq (lim C) n r_0 at_1 σ).trans h)
/-! provekernelref.Reader).take -/
noncomputable def rtakeF (call : CallF) (r_0 : Nat) (w_1 : ByteArray) (σ : Sto) : Option Res :=
  callK call 41 [((V.ptr 53 r_0 0), false)] σ 3 (fun vs1 σ2 =>
  (V.asBool (List.getD vs1 2 cellD).1).bind fun b4 =>
  bif (!b4) then
  callK call 44 [((V.ptr 53 r_0 0), false), ((List.getD vs1 1 cellD).1, false)] σ2 0 (fun vs5 σ6 =>
  (memGet σ6 (V.ptr 53 r_0 2) false 1).bind fun m8 =>
  (V.asInt m8 .i64).bind fun i9 =>
  bif (i9 == (0 : Int)) then
  (V.asStr (List.getD vs1 0 cellD).1).bind fun s10 =>
  (V.asInt (List.getD vs1 1 cellD).1 .i64).bind fun i11 =>
  (memSet σ6 (V.ptr 53 r_0 1) [((V.int .i64 (IntKind.wrap .i64 (i11 + (s10.size : Int)))), false)]).bind fun m12 =>
  some (.ret [], m12)
  else
  some (.ret [], σ6)) (fun p7 σ6 => some (.pan p7, σ6))
  else
  (V.asStr (List.getD vs1 0 cellD).1).bind fun s13 =>
  bif (!(s13.toList == w_1.toList)) then
  callK call 44 [((V.ptr 53 r_0 0), false), ((List.getD vs1 1 cellD).1, false)] σ2 0 (fun vs14 σ15 =>
  (memGet σ15 (V.ptr 53 r_0 2) false 1).bind fun m17 =>
  (V.asInt m17 .i64).bind fun i18 =>
  bif (i18 == (0 : Int)) then
  (V.asStr (List.getD vs1 0 cellD).1).bind fun s19 =>
  (V.asInt (List.getD vs1 1 cellD).1 .i64).bind fun i20 =>
  (memSet σ15 (V.ptr 53 r_0 1) [((V.int .i64 (IntKind.wrap .i64 (i20 + (s19.size : Int)))), false)]).bind fun m21 =>
  some (.ret [], m21)
  else
  some (.ret [], σ15)) (fun p16 σ15 => some (.pan p16, σ15))
  else
  (memGet σ2 (V.ptr 53 r_0 2) false 1).bind fun m22 =>
  (V.asInt m22 .i64).bind fun i23 =>
  bif (i23 == (0 : Int)) then
  (V.asStr (List.getD vs1 0 cellD).1).bind fun s24 =>
  (V.asInt (List.getD vs1 1 cellD).1 .i64).bind fun i25 =>
  (memSet σ2 (V.ptr 53 r_0 1) [((V.int .i64 (IntKind.wrap .i64 (i25 + (s24.size : Int)))), false)]).bind fun m26 =>
  some (.ret [], m26)
  else
  some (.ret [], σ2)) (fun p3 σ2 => some (.pan p3, σ2))
noncomputable def rtake (call : CallF) (n : Nat) (r_0 : Nat) (w_1 : ByteArray) (σ : Sto) : Option Res := rtakeF call r_0 w_1 σ
theorem rtake_eqF (call : CallF) (n : Nat) (r_0 : Nat) (w_1 : ByteArray) (σ : Sto) : afun C rtakeD call n [((V.ptr 53 r_0 0), false), ((V.str w_1), false)] σ =
    rtakeF call r_0 w_1 σ := by kernel_rfl
theorem rtake_eq (call : CallF) (n : Nat) (r_0 : Nat) (w_1 : ByteArray) (σ : Sto) : afun C rtakeD call n [((V.ptr 53 r_0 0), false), ((V.str w_1), false)] σ = rtake call n r_0 w_1 σ := rtake_eqF call n r_0 w_1 σ
theorem rtake_call (n : Nat) (r_0 : Nat) (w_1 : ByteArray) (σ : Sto) : acall C (n + 1) 45 [((V.ptr 53 r_0 0), false), ((V.str w_1), false)] σ = rtake (acall C n) n r_0 w_1 σ :=
  (show acall C (n + 1) 45 [((V.ptr 53 r_0 0), false), ((V.str w_1), false)] σ = afun C rtakeD (acall C n) n [((V.ptr 53 r_0 0), false), ((V.str w_1), false)] σ by kernel_rfl).trans (rtake_eq _ _ r_0 w_1 σ)
theorem rtake_lim {n : Nat} {r_0 : Nat} {w_1 : ByteArray} {b0 b1 : Bool} {σ : Sto} {r : Res} (h : rtake (lim C) n r_0 w_1 σ = some r) : lim C 45 [((V.ptr 53 r_0 0), b0), ((V.str w_1), b1)] σ = some r :=
  lim_of (d := rtakeD) (by kernel_rfl) (by kernel_rfl) n (show afun C rtakeD (lim C) n [((V.ptr 53 r_0 0), false), ((V.str w_1), false)] σ = some r from (rtake_eq (lim C) n r_0 w_1 σ).trans h)
/-! (*strings.Builder).WriteString -/
noncomputable def wstringF (call : CallF) (b_0 : Nat) (s_1 : ByteArray) (σ : Sto) : Option Res :=
  callK call 57 [((V.ptr 63 b_0 0), false)] σ 0 (fun vs1 σ2 =>
  (memTake σ2 (V.ptr 63 b_0 1)).bind fun m4 =>
  (V.asSlice m4.1 1 5).bind fun l5 =>
  (grd (room (List.length l5 + s_1.size))).bind fun _ =>
  (memSet m4.2 (V.ptr 63 b_0 1) [((V.slice 1 5 (l5 ++ bytesV s_1)), true)]).bind fun m6 =>
  some (.ret [((V.int .i64 (s_1.size : Int)), false), (V.nilIface, false)], m6)) (fun p3 σ2 => some (.pan p3, σ2))
noncomputable def wstring (call : CallF) (n : Nat) (b_0 : Nat) (s_1 : ByteArray) (σ : Sto) : Option Res := wstringF call b_0 s_1 σ
theorem wstring_eqF (call : CallF) (n : Nat) (b_0 : Nat) (s_1 : ByteArray) (σ : Sto) : afun C wstringD call n [((V.ptr 63 b_0 0), false), ((V.str s_1), false)] σ =
    wstringF call b_0 s_1 σ := by kernel_rfl
theorem wstring_eq (call : CallF) (n : Nat) (b_0 : Nat) (s_1 : ByteArray) (σ : Sto) : afun C wstringD call n [((V.ptr 63 b_0 0), false), ((V.str s_1), false)] σ = wstring call n b_0 s_1 σ := wstring_eqF call n b_0 s_1 σ
theorem wstring_call (n : Nat) (b_0 : Nat) (s_1 : ByteArray) (σ : Sto) : acall C (n + 1) 48 [((V.ptr 63 b_0 0), false), ((V.str s_1), false)] σ = wstring (acall C n) n b_0 s_1 σ :=
  (show acall C (n + 1) 48 [((V.ptr 63 b_0 0), false), ((V.str s_1), false)] σ = afun C wstringD (acall C n) n [((V.ptr 63 b_0 0), false), ((V.str s_1), false)] σ by kernel_rfl).trans (wstring_eq _ _ b_0 s_1 σ)
theorem wstring_lim {n : Nat} {b_0 : Nat} {s_1 : ByteArray} {b0 b1 : Bool} {σ : Sto} {r : Res} (h : wstring (lim C) n b_0 s_1 σ = some r) : lim C 48 [((V.ptr 63 b_0 0), b0), ((V.str s_1), b1)] σ = some r :=
  lim_of (d := wstringD) (by kernel_rfl) (by kernel_rfl) n (show afun C wstringD (lim C) n [((V.ptr 63 b_0 0), false), ((V.str s_1), false)] σ = some r from (wstring_eq (lim C) n b_0 s_1 σ).trans h)
/-! (*strings.Builder).WriteByte -/
noncomputable def wbyteF (call : CallF) (b_0 : Nat) (c_1 : Int) (σ : Sto) : Option Res :=
  callK call 57 [((V.ptr 63 b_0 0), false)] σ 0 (fun vs1 σ2 =>
  (memTake σ2 (V.ptr 63 b_0 1)).bind fun m4 =>
  (V.asSlice m4.1 1 5).bind fun l5 =>
  (grd (room (List.length l5 + 1))).bind fun _ =>
  (memSet m4.2 (V.ptr 63 b_0 1) [((V.slice 1 5 (l5 ++ [[(V.int .u8 c_1)]])), true)]).bind fun m6 =>
  some (.ret [(V.nilIface, false)], m6)) (fun p3 σ2 => some (.pan p3, σ2))
noncomputable def wbyte (call : CallF) (n : Nat) (b_0 : Nat) (c_1 : Int) (σ : Sto) : Option Res := wbyteF call b_0 c_1 σ
theorem wbyte_eqF (call : CallF) (n : Nat) (b_0 : Nat) (c_1 : Int) (σ : Sto) : afun C wbyteD call n [((V.ptr 63 b_0 0), false), ((V.int .u8 c_1), false)] σ =
    wbyteF call b_0 c_1 σ := by kernel_rfl
theorem wbyte_eq (call : CallF) (n : Nat) (b_0 : Nat) (c_1 : Int) (σ : Sto) : afun C wbyteD call n [((V.ptr 63 b_0 0), false), ((V.int .u8 c_1), false)] σ = wbyte call n b_0 c_1 σ := wbyte_eqF call n b_0 c_1 σ
theorem wbyte_call (n : Nat) (b_0 : Nat) (c_1 : Int) (σ : Sto) : acall C (n + 1) 49 [((V.ptr 63 b_0 0), false), ((V.int .u8 c_1), false)] σ = wbyte (acall C n) n b_0 c_1 σ :=
  (show acall C (n + 1) 49 [((V.ptr 63 b_0 0), false), ((V.int .u8 c_1), false)] σ = afun C wbyteD (acall C n) n [((V.ptr 63 b_0 0), false), ((V.int .u8 c_1), false)] σ by kernel_rfl).trans (wbyte_eq _ _ b_0 c_1 σ)
theorem wbyte_lim {n : Nat} {b_0 : Nat} {c_1 : Int} {b0 b1 : Bool} {σ : Sto} {r : Res} (h : wbyte (lim C) n b_0 c_1 σ = some r) : lim C 49 [((V.ptr 63 b_0 0), b0), ((V.int .u8 c_1), b1)] σ = some r :=
  lim_of (d := wbyteD) (by kernel_rfl) (by kernel_rfl) n (show afun C wbyteD (lim C) n [((V.ptr 63 b_0 0), false), ((V.int .u8 c_1), false)] σ = some r from (wbyte_eq (lim C) n b_0 c_1 σ).trans h)
/-! provekernelref.nameByte -/
noncomputable def nameByteF (call : CallF) (c_0 : Int) (first_1 : Bool) (σ : Sto) : Option Res :=
  bif (decide (c_0 ≥ (97 : Int))) then
  bif (decide (c_0 ≤ (122 : Int))) then
  some (.ret [((V.bool true), false)], σ)
  else
  bif (decide (c_0 ≥ (65 : Int))) then
  bif (decide (c_0 ≤ (90 : Int))) then
  some (.ret [((V.bool true), false)], σ)
  else
  bif (c_0 == (95 : Int)) then
  some (.ret [((V.bool true), false)], σ)
  else
  bif (!first_1) then
  bif (decide (c_0 ≥ (48 : Int))) then
  bif (decide (c_0 ≤ (57 : Int))) then
  some (.ret [((V.bool true), false)], σ)
  else
  bif (c_0 == (46 : Int)) then
  some (.ret [((V.bool true), false)], σ)
  else
  some (.ret [((V.bool (c_0 == (39 : Int))), false)], σ)
  else
  bif (c_0 == (46 : Int)) then
  some (.ret [((V.bool true), false)], σ)
  else
  some (.ret [((V.bool (c_0 == (39 : Int))), false)], σ)
  else
  some (.ret [((V.bool false), false)], σ)
  else
  bif (c_0 == (95 : Int)) then
  some (.ret [((V.bool true), false)], σ)
  else
  bif (!first_1) then
  bif (decide (c_0 ≥ (48 : Int))) then
  bif (decide (c_0 ≤ (57 : Int))) then
  some (.ret [((V.bool true), false)], σ)
  else
  bif (c_0 == (46 : Int)) then
  some (.ret [((V.bool true), false)], σ)
  else
  some (.ret [((V.bool (c_0 == (39 : Int))), false)], σ)
  else
  bif (c_0 == (46 : Int)) then
  some (.ret [((V.bool true), false)], σ)
  else
  some (.ret [((V.bool (c_0 == (39 : Int))), false)], σ)
  else
  some (.ret [((V.bool false), false)], σ)
  else
  bif (decide (c_0 ≥ (65 : Int))) then
  bif (decide (c_0 ≤ (90 : Int))) then
  some (.ret [((V.bool true), false)], σ)
  else
  bif (c_0 == (95 : Int)) then
  some (.ret [((V.bool true), false)], σ)
  else
  bif (!first_1) then
  bif (decide (c_0 ≥ (48 : Int))) then
  bif (decide (c_0 ≤ (57 : Int))) then
  some (.ret [((V.bool true), false)], σ)
  else
  bif (c_0 == (46 : Int)) then
  some (.ret [((V.bool true), false)], σ)
  else
  some (.ret [((V.bool (c_0 == (39 : Int))), false)], σ)
  else
  bif (c_0 == (46 : Int)) then
  some (.ret [((V.bool true), false)], σ)
  else
  some (.ret [((V.bool (c_0 == (39 : Int))), false)], σ)
  else
  some (.ret [((V.bool false), false)], σ)
  else
  bif (c_0 == (95 : Int)) then
  some (.ret [((V.bool true), false)], σ)
  else
  bif (!first_1) then
  bif (decide (c_0 ≥ (48 : Int))) then
  bif (decide (c_0 ≤ (57 : Int))) then
  some (.ret [((V.bool true), false)], σ)
  else
  bif (c_0 == (46 : Int)) then
  some (.ret [((V.bool true), false)], σ)
  else
  some (.ret [((V.bool (c_0 == (39 : Int))), false)], σ)
  else
  bif (c_0 == (46 : Int)) then
  some (.ret [((V.bool true), false)], σ)
  else
  some (.ret [((V.bool (c_0 == (39 : Int))), false)], σ)
  else
  some (.ret [((V.bool false), false)], σ)
noncomputable def nameByte (call : CallF) (n : Nat) (c_0 : Int) (first_1 : Bool) (σ : Sto) : Option Res := nameByteF call c_0 first_1 σ
theorem nameByte_eqF (call : CallF) (n : Nat) (c_0 : Int) (first_1 : Bool) (σ : Sto) : afun C nameByteD call n [((V.int .u8 c_0), false), ((V.bool first_1), false)] σ =
    nameByteF call c_0 first_1 σ := by kernel_rfl
theorem nameByte_eq (call : CallF) (n : Nat) (c_0 : Int) (first_1 : Bool) (σ : Sto) : afun C nameByteD call n [((V.int .u8 c_0), false), ((V.bool first_1), false)] σ = nameByte call n c_0 first_1 σ := nameByte_eqF call n c_0 first_1 σ
theorem nameByte_call (n : Nat) (c_0 : Int) (first_1 : Bool) (σ : Sto) : acall C (n + 1) 55 [((V.int .u8 c_0), false), ((V.bool first_1), false)] σ = nameByte (acall C n) n c_0 first_1 σ :=
  (show acall C (n + 1) 55 [((V.int .u8 c_0), false), ((V.bool first_1), false)] σ = afun C nameByteD (acall C n) n [((V.int .u8 c_0), false), ((V.bool first_1), false)] σ by kernel_rfl).trans (nameByte_eq _ _ c_0 first_1 σ)
theorem nameByte_lim {n : Nat} {c_0 : Int} {first_1 : Bool} {b0 b1 : Bool} {σ : Sto} {r : Res} (h : nameByte (lim C) n c_0 first_1 σ = some r) : lim C 55 [((V.int .u8 c_0), b0), ((V.bool first_1), b1)] σ = some r :=
  lim_of (d := nameByteD) (by kernel_rfl) (by kernel_rfl) n (show afun C nameByteD (lim C) n [((V.int .u8 c_0), false), ((V.bool first_1), false)] σ = some r from (nameByte_eq (lim C) n c_0 first_1 σ).trans h)
/-! level.NewScanner -/
noncomputable def newScannerF (call : CallF) (text_0 : ByteArray) (σ : Sto) : Option Res :=
  callK call 50 [((V.ptr 90 (List.length σ) 0), false)] (σ ++ [[((V.str text_0), false), ((V.int .i64 (0 : Int)), false), ((V.str (ByteArray.mk #[])), false), ((V.int .i64 (0 : Int)), false)]]) 0 (fun vs1 σ2 =>
  some (.ret [((V.ptr 90 (List.length σ) 0), false)], σ2)) (fun p3 σ2 => some (.pan p3, σ2))
noncomputable def newScanner (call : CallF) (n : Nat) (text_0 : ByteArray) (σ : Sto) : Option Res := newScannerF call text_0 σ
theorem newScanner_eqF (call : CallF) (n : Nat) (text_0 : ByteArray) (σ : Sto) : afun C newScannerD call n [((V.str text_0), false)] σ =
    newScannerF call text_0 σ := by kernel_rfl
theorem newScanner_eq (call : CallF) (n : Nat) (text_0 : ByteArray) (σ : Sto) : afun C newScannerD call n [((V.str text_0), false)] σ = newScanner call n text_0 σ := newScanner_eqF call n text_0 σ
theorem newScanner_call (n : Nat) (text_0 : ByteArray) (σ : Sto) : acall C (n + 1) 34 [((V.str text_0), false)] σ = newScanner (acall C n) n text_0 σ :=
  (show acall C (n + 1) 34 [((V.str text_0), false)] σ = afun C newScannerD (acall C n) n [((V.str text_0), false)] σ by kernel_rfl).trans (newScanner_eq _ _ text_0 σ)
theorem newScanner_lim {n : Nat} {text_0 : ByteArray} {b0 : Bool} {σ : Sto} {r : Res} (h : newScanner (lim C) n text_0 σ = some r) : lim C 34 [((V.str text_0), b0)] σ = some r :=
  lim_of (d := newScannerD) (by kernel_rfl) (by kernel_rfl) n (show afun C newScannerD (lim C) n [((V.str text_0), false)] σ = some r from (newScanner_eq (lim C) n text_0 σ).trans h)
/-! level.Scanner).Level -/
noncomputable def slevelF (call : CallF) (s_0 : Nat) (σ : Sto) : Option Res :=
  (memGet σ (V.ptr 90 s_0 2) false 1).bind fun m1 =>
  (V.asStr m1).bind fun s2 =>
  bif (s2.toList == (ByteArray.mk #[48]).toList) then
  callK call 50 [((V.ptr 90 s_0 0), false)] σ 0 (fun vs3 σ4 =>
  some (.ret [((V.agg [(V.int .i64 (0 : Int)), (V.str (ByteArray.mk #[])), (V.slice 3 31 [])]), false)], σ4)) (fun p5 σ4 => some (.pan p5, σ4))
  else
  (V.asStr m1).bind fun s6 =>
  bif (s6.toList == (ByteArray.mk #[40]).toList) then
  callK call 50 [((V.ptr 90 s_0 0), false)] σ 0 (fun vs7 σ8 =>
  (memGet σ8 (V.ptr 90 s_0 2) false 1).bind fun m10 =>
  (V.asStr m10).bind fun s11 =>
  bif (s11.toList == (ByteArray.mk #[115]).toList) then
  callK call 50 [((V.ptr 90 s_0 0), false)] σ8 0 (fun vs12 σ13 =>
  callK call 35 [((V.ptr 90 s_0 0), false)] σ13 1 (fun vs15 σ16 =>
  (grd ((V.fits (List.getD vs15 0 cellD).1 true 3 && true))).bind fun _ =>
  (grd (room (0 + 1))).bind fun _ =>
  callK call 52 [((V.ptr 90 s_0 0), false), ((V.str (ByteArray.mk #[41])), false)] σ16 0 (fun vs18 σ19 =>
  some (.ret [((V.agg [(V.int .i64 (1 : Int)), (V.str (ByteArray.mk #[])), (V.slice 3 31 [[(V.cell (List.getD vs15 0 cellD).1 0), (V.cell (List.getD vs15 0 cellD).1 1), (V.cell (List.getD vs15 0 cellD).1 2)]])]), false)], σ19)) (fun p20 σ19 => some (.pan p20, σ19))) (fun p17 σ16 => some (.pan p17, σ16))) (fun p14 σ13 => some (.pan p14, σ13))
  else
  (V.asStr m10).bind fun s21 =>
  bif (s21.toList == (ByteArray.mk #[109, 97, 120]).toList) then
  callK call 50 [((V.ptr 90 s_0 0), false)] σ8 0 (fun vs22 σ23 =>
  callK call 35 [((V.ptr 90 s_0 0), false)] σ23 1 (fun vs25 σ26 =>
  (grd ((V.fits (List.getD vs25 0 cellD).1 true 3 && true))).bind fun _ =>
  (grd (room (0 + 1))).bind fun _ =>
  callK call 35 [((V.ptr 90 s_0 0), false)] σ26 1 (fun vs28 σ29 =>
  (grd ((V.fits (List.getD vs28 0 cellD).1 true 3 && true))).bind fun _ =>
  (grd (room (1 + 1))).bind fun _ =>
  callK call 52 [((V.ptr 90 s_0 0), false), ((V.str (ByteArray.mk #[41])), false)] σ29 0 (fun vs31 σ32 =>
  some (.ret [((V.agg [(V.int .i64 (2 : Int)), (V.str (ByteArray.mk #[])), (V.slice 3 31 [[(V.cell (List.getD vs25 0 cellD).1 0), (V.cell (List.getD vs25 0 cellD).1 1), (V.cell (List.getD vs25 0 cellD).1 2)], [(V.cell (List.getD vs28 0 cellD).1 0), (V.cell (List.getD vs28 0 cellD).1 1), (V.cell (List.getD vs28 0 cellD).1 2)]])]), false)], σ32)) (fun p33 σ32 => some (.pan p33, σ32))) (fun p30 σ29 => some (.pan p30, σ29))) (fun p27 σ26 => some (.pan p27, σ26))) (fun p24 σ23 => some (.pan p24, σ23))
  else
  (V.asStr m10).bind fun s34 =>
  bif (s34.toList == (ByteArray.mk #[105, 109, 97, 120]).toList) then
  callK call 50 [((V.ptr 90 s_0 0), false)] σ8 0 (fun vs35 σ36 =>
  callK call 35 [((V.ptr 90 s_0 0), false)] σ36 1 (fun vs38 σ39 =>
  (grd ((V.fits (List.getD vs38 0 cellD).1 true 3 && true))).bind fun _ =>
  (grd (room (0 + 1))).bind fun _ =>
  callK call 35 [((V.ptr 90 s_0 0), false)] σ39 1 (fun vs41 σ42 =>
  (grd ((V.fits (List.getD vs41 0 cellD).1 true 3 && true))).bind fun _ =>
  (grd (room (1 + 1))).bind fun _ =>
  callK call 52 [((V.ptr 90 s_0 0), false), ((V.str (ByteArray.mk #[41])), false)] σ42 0 (fun vs44 σ45 =>
  some (.ret [((V.agg [(V.int .i64 (3 : Int)), (V.str (ByteArray.mk #[])), (V.slice 3 31 [[(V.cell (List.getD vs38 0 cellD).1 0), (V.cell (List.getD vs38 0 cellD).1 1), (V.cell (List.getD vs38 0 cellD).1 2)], [(V.cell (List.getD vs41 0 cellD).1 0), (V.cell (List.getD vs41 0 cellD).1 1), (V.cell (List.getD vs41 0 cellD).1 2)]])]), false)], σ45)) (fun p46 σ45 => some (.pan p46, σ45))) (fun p43 σ42 => some (.pan p43, σ42))) (fun p40 σ39 => some (.pan p40, σ39))) (fun p37 σ36 => some (.pan p37, σ36))
  else
  callK call 51 [((V.ptr 90 s_0 0), false)] σ8 0 (fun vs47 σ48 =>
  callK call 50 [((V.ptr 90 s_0 0), false)] σ48 0 (fun vs50 σ51 =>
  callK call 35 [((V.ptr 90 s_0 0), false)] σ51 1 (fun vs53 σ54 =>
  (grd ((V.fits (List.getD vs53 0 cellD).1 true 3 && true))).bind fun _ =>
  (grd (room (0 + 1))).bind fun _ =>
  callK call 35 [((V.ptr 90 s_0 0), false)] σ54 1 (fun vs56 σ57 =>
  (grd ((V.fits (List.getD vs56 0 cellD).1 true 3 && true))).bind fun _ =>
  (grd (room (1 + 1))).bind fun _ =>
  callK call 52 [((V.ptr 90 s_0 0), false), ((V.str (ByteArray.mk #[41])), false)] σ57 0 (fun vs59 σ60 =>
  some (.ret [((V.agg [(V.int .i64 (0 : Int)), (V.str (ByteArray.mk #[])), (V.slice 3 31 [[(V.cell (List.getD vs53 0 cellD).1 0), (V.cell (List.getD vs53 0 cellD).1 1), (V.cell (List.getD vs53 0 cellD).1 2)], [(V.cell (List.getD vs56 0 cellD).1 0), (V.cell (List.getD vs56 0 cellD).1 1), (V.cell (List.getD vs56 0 cellD).1 2)]])]), false)], σ60)) (fun p61 σ60 => some (.pan p61, σ60))) (fun p58 σ57 => some (.pan p58, σ57))) (fun p55 σ54 => some (.pan p55, σ54))) (fun p52 σ51 => some (.pan p52, σ51))) (fun p49 σ48 => some (.pan p49, σ48))) (fun p9 σ8 => some (.pan p9, σ8))
  else
  callK call 53 [((V.ptr 90 s_0 0), false)] σ 1 (fun vs62 σ63 =>
  (grd ((V.fits (List.getD vs62 0 cellD).1 false 1 && true))).bind fun _ =>
  some (.ret [((V.agg [(V.int .i64 (4 : Int)), (List.getD vs62 0 cellD).1, (V.slice 3 31 [])]), false)], σ63)) (fun p64 σ63 => some (.pan p64, σ63))
noncomputable def slevel (call : CallF) (n : Nat) (s_0 : Nat) (σ : Sto) : Option Res := slevelF call s_0 σ
theorem slevel_eqF (call : CallF) (n : Nat) (s_0 : Nat) (σ : Sto) : afun C slevelD call n [((V.ptr 90 s_0 0), false)] σ =
    slevelF call s_0 σ := by kernel_rfl
theorem slevel_eq (call : CallF) (n : Nat) (s_0 : Nat) (σ : Sto) : afun C slevelD call n [((V.ptr 90 s_0 0), false)] σ = slevel call n s_0 σ := slevel_eqF call n s_0 σ
theorem slevel_call (n : Nat) (s_0 : Nat) (σ : Sto) : acall C (n + 1) 35 [((V.ptr 90 s_0 0), false)] σ = slevel (acall C n) n s_0 σ :=
  (show acall C (n + 1) 35 [((V.ptr 90 s_0 0), false)] σ = afun C slevelD (acall C n) n [((V.ptr 90 s_0 0), false)] σ by kernel_rfl).trans (slevel_eq _ _ s_0 σ)
theorem slevel_lim {n : Nat} {s_0 : Nat} {b0 : Bool} {σ : Sto} {r : Res} (h : slevel (lim C) n s_0 σ = some r) : lim C 35 [((V.ptr 90 s_0 0), b0)] σ = some r :=
  lim_of (d := slevelD) (by kernel_rfl) (by kernel_rfl) n (show afun C slevelD (lim C) n [((V.ptr 90 s_0 0), false)] σ = some r from (slevel_eq (lim C) n s_0 σ).trans h)
end Go.Ab.Mk
end
