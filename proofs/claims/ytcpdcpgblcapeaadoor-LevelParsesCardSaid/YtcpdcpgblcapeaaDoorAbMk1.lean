/- AbMk1: printed by program: functions of the program, their code told as plain Lean, and the equations. -/
import Derived.Test.YtcpdcpgblcapeaaDoorAbMk0
set_option linter.unusedSimpArgs false
set_option linter.unusedVariables false
set_option linter.deprecated false
set_option maxRecDepth 100000
namespace Go.Ab.Mk
open Go.Proofs Go.Ab
/-! provekernelref.ParseLevel -/
noncomputable def parseLevelF (call : CallF) (s_0 : ByteArray) (σ : Sto) : Option Res :=
  bif (decide ((s_0.size : Int) > (20000 : Int))) then
  some (.ret [((V.agg [(V.int .i64 (0 : Int)), (V.str (ByteArray.mk #[])), (V.slice 3 31 [])]), false), ((V.agg [(V.int .i64 (2 : Int)), (V.int .i64 (0 : Int))]), false)], σ)
  else
  callK call 25 [((V.ptr 53 (List.length σ) 0), false)] (σ ++ [[((V.str s_0), false), ((V.int .i64 (0 : Int)), false), ((V.int .i64 (0 : Int)), false), ((V.int .i64 (0 : Int)), false)]]) 1 (fun vs1 σ2 =>
  (grd (V.fits (List.getD vs1 0 cellD).1 true 3)).bind fun _ =>
  callK call 26 [((V.ptr 53 (List.length σ) 0), false)] σ2 1 (fun vs4 σ5 =>
  (grd (V.fits (List.getD vs4 0 cellD).1 true 2)).bind fun _ =>
  (V.asInt (V.cell (List.getD vs4 0 cellD).1 0) .i64).bind fun i7 =>
  bif (i7 != (0 : Int)) then
  some (.ret [((V.agg [(V.int .i64 (0 : Int)), (V.str (ByteArray.mk #[])), (V.slice 3 31 [])]), false), ((V.agg [(V.cell (List.getD vs4 0 cellD).1 0), (V.cell (List.getD vs4 0 cellD).1 1)]), false)], σ5)
  else
  some (.ret [((V.agg [(V.cell (List.getD vs1 0 cellD).1 0), (V.cell (List.getD vs1 0 cellD).1 1), (V.cell (List.getD vs1 0 cellD).1 2)]), false), ((V.agg [(V.cell (List.getD vs4 0 cellD).1 0), (V.cell (List.getD vs4 0 cellD).1 1)]), false)], σ5)) (fun p6 σ5 => some (.pan p6, σ5))) (fun p3 σ2 => some (.pan p3, σ2))
noncomputable def parseLevel (call : CallF) (n : Nat) (s_0 : ByteArray) (σ : Sto) : Option Res := parseLevelF call s_0 σ
theorem parseLevel_eqF (call : CallF) (n : Nat) (s_0 : ByteArray) (σ : Sto) : afun C parseLevelD call n [((V.str s_0), false)] σ =
    parseLevelF call s_0 σ := by kernel_rfl
theorem parseLevel_eq (call : CallF) (n : Nat) (s_0 : ByteArray) (σ : Sto) : afun C parseLevelD call n [((V.str s_0), false)] σ = parseLevel call n s_0 σ := parseLevel_eqF call n s_0 σ
theorem parseLevel_call (n : Nat) (s_0 : ByteArray) (σ : Sto) : acall C (n + 1) 9 [((V.str s_0), false)] σ = parseLevel (acall C n) n s_0 σ :=
  (show acall C (n + 1) 9 [((V.str s_0), false)] σ = afun C parseLevelD (acall C n) n [((V.str s_0), false)] σ by kernel_rfl).trans (parseLevel_eq _ _ s_0 σ)
theorem parseLevel_lim {n : Nat} {s_0 : ByteArray} {b0 : Bool} {σ : Sto} {r : Res} (h : parseLevel (lim C) n s_0 σ = some r) : lim C 9 [((V.str s_0), b0)] σ = some r :=
  lim_of (d := parseLevelD) (by kernel_rfl) (by kernel_rfl) n (show afun C parseLevelD (lim C) n [((V.str s_0), false)] σ = some r from (parseLevel_eq (lim C) n s_0 σ).trans h)
/-! provekernelref.Params -/
noncomputable def rparamsk0 : List Nat := [1, 2, 6]
noncomputable def rparamss0 (call : CallF) (rec0 : V → Int → Int → ByteArray → List (List V) → Sto → Option Res) (ahead_1 : V) (i_6 : Int) (l_2c0 : Int) (l_2c1 : ByteArray) (l_2c2 : List (List V)) (σ : Sto) : Option Res :=
  bif (decide (i_6 < (l_2c2.length : Int))) then
  (grd (decide (0 ≤ i_6) && decide (i_6 < l_2c2.length))).bind fun _ =>
  callK call 10 [((V.agg [(List.getD (List.getD l_2c2 (Int.toNat i_6) []) 0 V.any), (List.getD (List.getD l_2c2 (Int.toNat i_6) []) 1 V.any), (List.getD (List.getD l_2c2 (Int.toNat i_6) []) 2 V.any)]), false), (ahead_1, true)] σ 1 (fun vs1 σ2 =>
  (grd ((List.getD vs1 0 cellD).2 && true)).bind fun _ =>
  rec0 (List.getD vs1 0 cellD).1 (IntKind.wrap .i64 (i_6 + (1 : Int))) l_2c0 l_2c1 l_2c2 σ2) (fun p3 σ2 => some (.pan p3, σ2))
  else
  some (.ret [(ahead_1, true)], σ)
noncomputable def rparamsl0 (call : CallF) (n : Nat) : Nat → V → Int → Int → ByteArray → List (List V) → Sto → Option Res
  | 0 => fun _ _ _ _ _ _ => none
  | m + 1 => rparamss0 call (rparamsl0 call n m)
noncomputable def rparamst0 (ahead_1 : V) (i_6 : Int) (l_2c0 : Int) (l_2c1 : ByteArray) (l_2c2 : List (List V)) (σ : Sto) : St := ⟨[.dead, .val ahead_1 true, .lptr 2 0, .dead, .dead, .dead, .val (V.int .i64 i_6) false, .dead, .dead, .dead, .dead, .dead, .dead, .dead, .dead, .dead, .dead, .dead, .dead, .dead, .dead, .dead, .dead, .dead, .dead, .dead, .dead, .dead, .dead, .dead, .dead, .dead, .dead, .dead, .dead, .dead, .dead], [[], [], [((V.int .i64 l_2c0), false), ((V.str l_2c1), false), ((V.slice 3 31 l_2c2), false)], [], [], [], [], [], [], [], [], [], [], [], [], [], [], [], [], [], [], [], [], [], [], [], [], [], [], [], [], [], [], [], [], [], []], σ⟩
noncomputable def rparamsF (call : CallF) (L0 : V → Int → Int → ByteArray → List (List V) → Sto → Option Res) (l_0_0 : Int) (l_0_1 : ByteArray) (l_0_2 : List (List V)) (ahead_1 : List (List V)) (σ : Sto) : Option Res :=
  bif (l_0_0 == (4 : Int)) then
  callK call 27 [((V.str l_0_1), false), ((V.slice 1 9 ahead_1), false)] σ 1 (fun vs1 σ2 =>
  (V.asBool (List.getD vs1 0 cellD).1).bind fun b4 =>
  bif (!b4) then
  (grd (room (List.length ahead_1 + 1))).bind fun _ =>
  some (.ret [((V.slice 1 9 (ahead_1 ++ [[(V.str l_0_1)]])), true)], σ2)
  else
  some (.ret [((V.slice 1 9 ahead_1), true)], σ2)) (fun p3 σ2 => some (.pan p3, σ2))
  else
  L0 (V.slice 1 9 ahead_1) (0 : Int) l_0_0 l_0_1 l_0_2 σ
noncomputable def rparams (call : CallF) (n : Nat) (l_0_0 : Int) (l_0_1 : ByteArray) (l_0_2 : List (List V)) (ahead_1 : List (List V)) (σ : Sto) : Option Res := rparamsF call (rparamsl0 call n n) l_0_0 l_0_1 l_0_2 ahead_1 σ
theorem rparamss0_eq (call : CallF) (n : Nat) (F0 : St → Option Res) (ahead_1 : V) (i_6 : Int) (l_2c0 : Int) (l_2c1 : ByteArray) (l_2c2 : List (List V)) (σ : Sto) :
    aexec C rparamsH call n (codeL (codeL (codeR (codeL (codeR (codeR rparamsC)))))) 0 (rparamst0 ahead_1 i_6 l_2c0 l_2c1 l_2c2 σ) (kloop rparamsk0 F0 (kblk 0 (kseq (fun st' => aexec C rparamsH call n (codeR (codeR (codeR rparamsC))) 0 st' (kfin C rparamsD)) (kfin C rparamsD)))) =
    rparamss0 call (fun ahead_1 i_6 l_2c0 l_2c1 l_2c2 σ => F0 (rparamst0 ahead_1 i_6 l_2c0 l_2c1 l_2c2 σ)) ahead_1 i_6 l_2c0 l_2c1 l_2c2 σ := by kernel_rfl
theorem rparamsl0_eq (call : CallF) (n : Nat) : ∀ (m : Nat) (ahead_1 : V) (i_6 : Int) (l_2c0 : Int) (l_2c1 : ByteArray) (l_2c2 : List (List V)) (σ : Sto),
    aloop (fun st K => aexec C rparamsH call n (codeL (codeL (codeR (codeL (codeR (codeR rparamsC)))))) 0 st K) rparamsk0 m (rparamst0 ahead_1 i_6 l_2c0 l_2c1 l_2c2 σ) (kblk 0 (kseq (fun st' => aexec C rparamsH call n (codeR (codeR (codeR rparamsC))) 0 st' (kfin C rparamsD)) (kfin C rparamsD))) = rparamsl0 call n m ahead_1 i_6 l_2c0 l_2c1 l_2c2 σ
  | 0, ahead_1, i_6, l_2c0, l_2c1, l_2c2, σ => rfl
  | m + 1, ahead_1, i_6, l_2c0, l_2c1, l_2c2, σ => by
    rw [aloop, rparamss0_eq]
    simp only [rparamsl0_eq call n m]
    rfl
theorem rparams_eqF (call : CallF) (n : Nat) (l_0_0 : Int) (l_0_1 : ByteArray) (l_0_2 : List (List V)) (ahead_1 : List (List V)) (σ : Sto) : afun C rparamsD call n [((V.agg [(V.int .i64 l_0_0), (V.str l_0_1), (V.slice 3 31 l_0_2)]), false), ((V.slice 1 9 ahead_1), true)] σ =
    rparamsF call (fun ahead_1 i_6 l_2c0 l_2c1 l_2c2 σ => aloop (fun st K => aexec C rparamsH call n (codeL (codeL (codeR (codeL (codeR (codeR rparamsC)))))) 0 st K) rparamsk0 n (rparamst0 ahead_1 i_6 l_2c0 l_2c1 l_2c2 σ) (kblk 0 (kseq (fun st' => aexec C rparamsH call n (codeR (codeR (codeR rparamsC))) 0 st' (kfin C rparamsD)) (kfin C rparamsD)))) l_0_0 l_0_1 l_0_2 ahead_1 σ := by kernel_rfl
theorem rparams_eq (call : CallF) (n : Nat) (l_0_0 : Int) (l_0_1 : ByteArray) (l_0_2 : List (List V)) (ahead_1 : List (List V)) (σ : Sto) : afun C rparamsD call n [((V.agg [(V.int .i64 l_0_0), (V.str l_0_1), (V.slice 3 31 l_0_2)]), false), ((V.slice 1 9 ahead_1), true)] σ = rparams call n l_0_0 l_0_1 l_0_2 ahead_1 σ := by
  rw [rparams_eqF]
  simp only [rparamsl0_eq]
  rfl
theorem rparams_call (n : Nat) (l_0_0 : Int) (l_0_1 : ByteArray) (l_0_2 : List (List V)) (ahead_1 : List (List V)) (σ : Sto) : acall C (n + 1) 10 [((V.agg [(V.int .i64 l_0_0), (V.str l_0_1), (V.slice 3 31 l_0_2)]), false), ((V.slice 1 9 ahead_1), true)] σ = rparams (acall C n) n l_0_0 l_0_1 l_0_2 ahead_1 σ :=
  (show acall C (n + 1) 10 [((V.agg [(V.int .i64 l_0_0), (V.str l_0_1), (V.slice 3 31 l_0_2)]), false), ((V.slice 1 9 ahead_1), true)] σ = afun C rparamsD (acall C n) n [((V.agg [(V.int .i64 l_0_0), (V.str l_0_1), (V.slice 3 31 l_0_2)]), false), ((V.slice 1 9 ahead_1), true)] σ by kernel_rfl).trans (rparams_eq _ _ l_0_0 l_0_1 l_0_2 ahead_1 σ)
theorem rparams_lim {n : Nat} {l_0_0 : Int} {l_0_1 : ByteArray} {l_0_2 : List (List V)} {ahead_1 : List (List V)} {b0 : Bool} {σ : Sto} {r : Res} (h : rparams (lim C) n l_0_0 l_0_1 l_0_2 ahead_1 σ = some r) : lim C 10 [((V.agg [(V.int .i64 l_0_0), (V.str l_0_1), (V.slice 3 31 l_0_2)]), b0), ((V.slice 1 9 ahead_1), true)] σ = some r :=
  lim_of (d := rparamsD) (by kernel_rfl) (by kernel_rfl) n (show afun C rparamsD (lim C) n [((V.agg [(V.int .i64 l_0_0), (V.str l_0_1), (V.slice 3 31 l_0_2)]), false), ((V.slice 1 9 ahead_1), true)] σ = some r from (rparams_eq (lim C) n l_0_0 l_0_1 l_0_2 ahead_1 σ).trans h)
/-! provekernellaw.limit -/
noncomputable def limitF (call : CallF) (n_0 : Int) (σ : Sto) : Option Res :=
  bif (decide (n_0 < (0 : Int))) then
  some (.ret [((V.int .i64 (Int.tmod (IntKind.wrap .i64 ((0 : Int) - (IntKind.wrap .i64 (n_0 + (1 : Int))))) (6 : Int))), false)], σ)
  else
  some (.ret [((V.int .i64 (Int.tmod n_0 (6 : Int))), false)], σ)
noncomputable def limit (call : CallF) (n : Nat) (n_0 : Int) (σ : Sto) : Option Res := limitF call n_0 σ
theorem limit_eqF (call : CallF) (n : Nat) (n_0 : Int) (σ : Sto) : afun C limitD call n [((V.int .i64 n_0), false)] σ =
    limitF call n_0 σ := by kernel_rfl
theorem limit_eq (call : CallF) (n : Nat) (n_0 : Int) (σ : Sto) : afun C limitD call n [((V.int .i64 n_0), false)] σ = limit call n n_0 σ := limit_eqF call n n_0 σ
theorem limit_call (n : Nat) (n_0 : Int) (σ : Sto) : acall C (n + 1) 11 [((V.int .i64 n_0), false)] σ = limit (acall C n) n n_0 σ :=
  (show acall C (n + 1) 11 [((V.int .i64 n_0), false)] σ = afun C limitD (acall C n) n [((V.int .i64 n_0), false)] σ by kernel_rfl).trans (limit_eq _ _ n_0 σ)
theorem limit_lim {n : Nat} {n_0 : Int} {b0 : Bool} {σ : Sto} {r : Res} (h : limit (lim C) n n_0 σ = some r) : lim C 11 [((V.int .i64 n_0), b0)] σ = some r :=
  lim_of (d := limitD) (by kernel_rfl) (by kernel_rfl) n (show afun C limitD (lim C) n [((V.int .i64 n_0), false)] σ = some r from (limit_eq (lim C) n n_0 σ).trans h)
/-! level.Worth -/
noncomputable def worthF (call : CallF) (l_0_0 : Int) (l_0_1 : ByteArray) (l_0_2 : List (List V)) (params_1 : List (List V)) (ns_2 : List (List V)) (σ : Sto) : Option Res :=
  bif (l_0_0 == (1 : Int)) then
  (grd (decide (0 ≤ (0 : Int)) && decide ((0 : Int) < l_0_2.length))).bind fun _ =>
  callK call 12 [((V.agg [(List.getD (List.getD l_0_2 (Int.toNat (0 : Int)) []) 0 V.any), (List.getD (List.getD l_0_2 (Int.toNat (0 : Int)) []) 1 V.any), (List.getD (List.getD l_0_2 (Int.toNat (0 : Int)) []) 2 V.any)]), false), ((V.slice 1 9 params_1), false), ((V.slice 1 3 ns_2), false)] σ 1 (fun vs1 σ2 =>
  (V.asInt (List.getD vs1 0 cellD).1 .i64).bind fun i4 =>
  some (.ret [((V.int .i64 (IntKind.wrap .i64 (i4 + (1 : Int)))), false)], σ2)) (fun p3 σ2 => some (.pan p3, σ2))
  else
  bif (l_0_0 == (2 : Int)) then
  (grd (decide (0 ≤ (0 : Int)) && decide ((0 : Int) < l_0_2.length))).bind fun _ =>
  (grd (decide (0 ≤ (1 : Int)) && decide ((1 : Int) < l_0_2.length))).bind fun _ =>
  callK call 12 [((V.agg [(List.getD (List.getD l_0_2 (Int.toNat (0 : Int)) []) 0 V.any), (List.getD (List.getD l_0_2 (Int.toNat (0 : Int)) []) 1 V.any), (List.getD (List.getD l_0_2 (Int.toNat (0 : Int)) []) 2 V.any)]), false), ((V.slice 1 9 params_1), false), ((V.slice 1 3 ns_2), false)] σ 1 (fun vs5 σ6 =>
  callK call 12 [((V.agg [(List.getD (List.getD l_0_2 (Int.toNat (1 : Int)) []) 0 V.any), (List.getD (List.getD l_0_2 (Int.toNat (1 : Int)) []) 1 V.any), (List.getD (List.getD l_0_2 (Int.toNat (1 : Int)) []) 2 V.any)]), false), ((V.slice 1 9 params_1), false), ((V.slice 1 3 ns_2), false)] σ6 1 (fun vs8 σ9 =>
  (V.asInt (List.getD vs5 0 cellD).1 .i64).bind fun i11 =>
  (V.asInt (List.getD vs8 0 cellD).1 .i64).bind fun i12 =>
  some (.ret [((V.int .i64 (if i11 < i12 then i12 else i11)), false)], σ9)) (fun p10 σ9 => some (.pan p10, σ9))) (fun p7 σ6 => some (.pan p7, σ6))
  else
  bif (l_0_0 == (3 : Int)) then
  (grd (decide (0 ≤ (1 : Int)) && decide ((1 : Int) < l_0_2.length))).bind fun _ =>
  callK call 12 [((V.agg [(List.getD (List.getD l_0_2 (Int.toNat (1 : Int)) []) 0 V.any), (List.getD (List.getD l_0_2 (Int.toNat (1 : Int)) []) 1 V.any), (List.getD (List.getD l_0_2 (Int.toNat (1 : Int)) []) 2 V.any)]), false), ((V.slice 1 9 params_1), false), ((V.slice 1 3 ns_2), false)] σ 1 (fun vs13 σ14 =>
  (V.asInt (List.getD vs13 0 cellD).1 .i64).bind fun i16 =>
  bif (i16 == (0 : Int)) then
  some (.ret [((V.int .i64 (0 : Int)), false)], σ14)
  else
  (grd (decide (0 ≤ (0 : Int)) && decide ((0 : Int) < l_0_2.length))).bind fun _ =>
  callK call 12 [((V.agg [(List.getD (List.getD l_0_2 (Int.toNat (0 : Int)) []) 0 V.any), (List.getD (List.getD l_0_2 (Int.toNat (0 : Int)) []) 1 V.any), (List.getD (List.getD l_0_2 (Int.toNat (0 : Int)) []) 2 V.any)]), false), ((V.slice 1 9 params_1), false), ((V.slice 1 3 ns_2), false)] σ14 1 (fun vs17 σ18 =>
  (V.asInt (List.getD vs17 0 cellD).1 .i64).bind fun i20 =>
  (V.asInt (List.getD vs13 0 cellD).1 .i64).bind fun i21 =>
  some (.ret [((V.int .i64 (if i20 < i21 then i21 else i20)), false)], σ18)) (fun p19 σ18 => some (.pan p19, σ18))) (fun p15 σ14 => some (.pan p15, σ14))
  else
  bif (l_0_0 == (4 : Int)) then
  callK call 28 [((V.slice 1 9 params_1), false), ((V.str l_0_1), false)] σ 1 (fun vs22 σ23 =>
  (V.asInt (List.getD vs22 0 cellD).1 .i64).bind fun i25 =>
  bif (decide (i25 ≥ (0 : Int))) then
  (V.asInt (List.getD vs22 0 cellD).1 .i64).bind fun i26 =>
  (grd (decide (0 ≤ i26) && decide (i26 < ns_2.length))).bind fun _ =>
  some (.ret [((List.getD (List.getD ns_2 (Int.toNat i26) []) 0 V.any), false)], σ23)
  else
  some (.ret [((V.int .i64 (0 : Int)), false)], σ23)) (fun p24 σ23 => some (.pan p24, σ23))
  else
  some (.ret [((V.int .i64 (0 : Int)), false)], σ)
noncomputable def worth (call : CallF) (n : Nat) (l_0_0 : Int) (l_0_1 : ByteArray) (l_0_2 : List (List V)) (params_1 : List (List V)) (ns_2 : List (List V)) (σ : Sto) : Option Res := worthF call l_0_0 l_0_1 l_0_2 params_1 ns_2 σ
theorem worth_eqF (call : CallF) (n : Nat) (l_0_0 : Int) (l_0_1 : ByteArray) (l_0_2 : List (List V)) (params_1 : List (List V)) (ns_2 : List (List V)) (σ : Sto) : afun C worthD call n [((V.agg [(V.int .i64 l_0_0), (V.str l_0_1), (V.slice 3 31 l_0_2)]), false), ((V.slice 1 9 params_1), false), ((V.slice 1 3 ns_2), false)] σ =
    worthF call l_0_0 l_0_1 l_0_2 params_1 ns_2 σ := by kernel_rfl
theorem worth_eq (call : CallF) (n : Nat) (l_0_0 : Int) (l_0_1 : ByteArray) (l_0_2 : List (List V)) (params_1 : List (List V)) (ns_2 : List (List V)) (σ : Sto) : afun C worthD call n [((V.agg [(V.int .i64 l_0_0), (V.str l_0_1), (V.slice 3 31 l_0_2)]), false), ((V.slice 1 9 params_1), false), ((V.slice 1 3 ns_2), false)] σ = worth call n l_0_0 l_0_1 l_0_2 params_1 ns_2 σ := worth_eqF call n l_0_0 l_0_1 l_0_2 params_1 ns_2 σ
theorem worth_call (n : Nat) (l_0_0 : Int) (l_0_1 : ByteArray) (l_0_2 : List (List V)) (params_1 : List (List V)) (ns_2 : List (List V)) (σ : Sto) : acall C (n + 1) 12 [((V.agg [(V.int .i64 l_0_0), (V.str l_0_1), (V.slice 3 31 l_0_2)]), false), ((V.slice 1 9 params_1), false), ((V.slice 1 3 ns_2), false)] σ = worth (acall C n) n l_0_0 l_0_1 l_0_2 params_1 ns_2 σ :=
  (show acall C (n + 1) 12 [((V.agg [(V.int .i64 l_0_0), (V.str l_0_1), (V.slice 3 31 l_0_2)]), false), ((V.slice 1 9 params_1), false), ((V.slice 1 3 ns_2), false)] σ = afun C worthD (acall C n) n [((V.agg [(V.int .i64 l_0_0), (V.str l_0_1), (V.slice 3 31 l_0_2)]), false), ((V.slice 1 9 params_1), false), ((V.slice 1 3 ns_2), false)] σ by kernel_rfl).trans (worth_eq _ _ l_0_0 l_0_1 l_0_2 params_1 ns_2 σ)
theorem worth_lim {n : Nat} {l_0_0 : Int} {l_0_1 : ByteArray} {l_0_2 : List (List V)} {params_1 : List (List V)} {ns_2 : List (List V)} {b0 b1 b2 : Bool} {σ : Sto} {r : Res} (h : worth (lim C) n l_0_0 l_0_1 l_0_2 params_1 ns_2 σ = some r) : lim C 12 [((V.agg [(V.int .i64 l_0_0), (V.str l_0_1), (V.slice 3 31 l_0_2)]), b0), ((V.slice 1 9 params_1), b1), ((V.slice 1 3 ns_2), b2)] σ = some r :=
  lim_of (d := worthD) (by kernel_rfl) (by kernel_rfl) n (show afun C worthD (lim C) n [((V.agg [(V.int .i64 l_0_0), (V.str l_0_1), (V.slice 3 31 l_0_2)]), false), ((V.slice 1 9 params_1), false), ((V.slice 1 3 ns_2), false)] σ = some r from (worth_eq (lim C) n l_0_0 l_0_1 l_0_2 params_1 ns_2 σ).trans h)
/-! level.Print -/
noncomputable def printF (call : CallF) (l_0_0 : Int) (l_0_1 : ByteArray) (l_0_2 : List (List V)) (σ : Sto) : Option Res :=
  callK call 30 [((V.ptr 63 (List.length σ) 0), false), ((V.agg [(V.int .i64 l_0_0), (V.str l_0_1), (V.slice 3 31 l_0_2)]), false)] (σ ++ [[(V.nilp, false), ((V.slice 1 5 []), true)]]) 0 (fun vs1 σ2 =>
  callK call 31 [((V.ptr 63 (List.length σ) 0), false)] σ2 1 (fun vs4 σ5 =>
  some (.ret [((List.getD vs4 0 cellD).1, false)], σ5)) (fun p6 σ5 => some (.pan p6, σ5))) (fun p3 σ2 => some (.pan p3, σ2))
noncomputable def print (call : CallF) (n : Nat) (l_0_0 : Int) (l_0_1 : ByteArray) (l_0_2 : List (List V)) (σ : Sto) : Option Res := printF call l_0_0 l_0_1 l_0_2 σ
theorem print_eqF (call : CallF) (n : Nat) (l_0_0 : Int) (l_0_1 : ByteArray) (l_0_2 : List (List V)) (σ : Sto) : afun C printD call n [((V.agg [(V.int .i64 l_0_0), (V.str l_0_1), (V.slice 3 31 l_0_2)]), false)] σ =
    printF call l_0_0 l_0_1 l_0_2 σ := by kernel_rfl
theorem print_eq (call : CallF) (n : Nat) (l_0_0 : Int) (l_0_1 : ByteArray) (l_0_2 : List (List V)) (σ : Sto) : afun C printD call n [((V.agg [(V.int .i64 l_0_0), (V.str l_0_1), (V.slice 3 31 l_0_2)]), false)] σ = print call n l_0_0 l_0_1 l_0_2 σ := print_eqF call n l_0_0 l_0_1 l_0_2 σ
theorem print_call (n : Nat) (l_0_0 : Int) (l_0_1 : ByteArray) (l_0_2 : List (List V)) (σ : Sto) : acall C (n + 1) 15 [((V.agg [(V.int .i64 l_0_0), (V.str l_0_1), (V.slice 3 31 l_0_2)]), false)] σ = print (acall C n) n l_0_0 l_0_1 l_0_2 σ :=
  (show acall C (n + 1) 15 [((V.agg [(V.int .i64 l_0_0), (V.str l_0_1), (V.slice 3 31 l_0_2)]), false)] σ = afun C printD (acall C n) n [((V.agg [(V.int .i64 l_0_0), (V.str l_0_1), (V.slice 3 31 l_0_2)]), false)] σ by kernel_rfl).trans (print_eq _ _ l_0_0 l_0_1 l_0_2 σ)
theorem print_lim {n : Nat} {l_0_0 : Int} {l_0_1 : ByteArray} {l_0_2 : List (List V)} {b0 : Bool} {σ : Sto} {r : Res} (h : print (lim C) n l_0_0 l_0_1 l_0_2 σ = some r) : lim C 15 [((V.agg [(V.int .i64 l_0_0), (V.str l_0_1), (V.slice 3 31 l_0_2)]), b0)] σ = some r :=
  lim_of (d := printD) (by kernel_rfl) (by kernel_rfl) n (show afun C printD (lim C) n [((V.agg [(V.int .i64 l_0_0), (V.str l_0_1), (V.slice 3 31 l_0_2)]), false)] σ = some r from (print_eq (lim C) n l_0_0 l_0_1 l_0_2 σ).trans h)
/-! level.Params -/
noncomputable def paramsF (call : CallF) (l_0_0 : Int) (l_0_1 : ByteArray) (l_0_2 : List (List V)) (σ : Sto) : Option Res :=
  callK call 37 [((V.agg [(V.int .i64 l_0_0), (V.str l_0_1), (V.slice 3 31 l_0_2)]), false), ((V.func (.func 38) [] [(V.ptr 36 (List.length σ) 0)]), false)] (σ ++ [[((V.slice 1 9 []), true)]]) 0 (fun vs1 σ2 =>
  (memGet σ2 (V.ptr 36 (List.length σ) 0) false 1).bind fun m4 =>
  some (.ret [(m4, false)], σ2)) (fun p3 σ2 => some (.pan p3, σ2))
noncomputable def params (call : CallF) (n : Nat) (l_0_0 : Int) (l_0_1 : ByteArray) (l_0_2 : List (List V)) (σ : Sto) : Option Res := paramsF call l_0_0 l_0_1 l_0_2 σ
theorem params_eqF (call : CallF) (n : Nat) (l_0_0 : Int) (l_0_1 : ByteArray) (l_0_2 : List (List V)) (σ : Sto) : afun C paramsD call n [((V.agg [(V.int .i64 l_0_0), (V.str l_0_1), (V.slice 3 31 l_0_2)]), false)] σ =
    paramsF call l_0_0 l_0_1 l_0_2 σ := by kernel_rfl
theorem params_eq (call : CallF) (n : Nat) (l_0_0 : Int) (l_0_1 : ByteArray) (l_0_2 : List (List V)) (σ : Sto) : afun C paramsD call n [((V.agg [(V.int .i64 l_0_0), (V.str l_0_1), (V.slice 3 31 l_0_2)]), false)] σ = params call n l_0_0 l_0_1 l_0_2 σ := params_eqF call n l_0_0 l_0_1 l_0_2 σ
theorem params_call (n : Nat) (l_0_0 : Int) (l_0_1 : ByteArray) (l_0_2 : List (List V)) (σ : Sto) : acall C (n + 1) 17 [((V.agg [(V.int .i64 l_0_0), (V.str l_0_1), (V.slice 3 31 l_0_2)]), false)] σ = params (acall C n) n l_0_0 l_0_1 l_0_2 σ :=
  (show acall C (n + 1) 17 [((V.agg [(V.int .i64 l_0_0), (V.str l_0_1), (V.slice 3 31 l_0_2)]), false)] σ = afun C paramsD (acall C n) n [((V.agg [(V.int .i64 l_0_0), (V.str l_0_1), (V.slice 3 31 l_0_2)]), false)] σ by kernel_rfl).trans (params_eq _ _ l_0_0 l_0_1 l_0_2 σ)
theorem params_lim {n : Nat} {l_0_0 : Int} {l_0_1 : ByteArray} {l_0_2 : List (List V)} {b0 : Bool} {σ : Sto} {r : Res} (h : params (lim C) n l_0_0 l_0_1 l_0_2 σ = some r) : lim C 17 [((V.agg [(V.int .i64 l_0_0), (V.str l_0_1), (V.slice 3 31 l_0_2)]), b0)] σ = some r :=
  lim_of (d := paramsD) (by kernel_rfl) (by kernel_rfl) n (show afun C paramsD (lim C) n [((V.agg [(V.int .i64 l_0_0), (V.str l_0_1), (V.slice 3 31 l_0_2)]), false)] σ = some r from (params_eq (lim C) n l_0_0 l_0_1 l_0_2 σ).trans h)
/-! provekernellaw.sameNames -/
noncomputable def sameNamesk0 : List Nat := [0, 1, 5]
noncomputable def sameNamess0 (call : CallF) (rec0 : List (List V) → List (List V) → Int → Sto → Option Res) (a_0 : List (List V)) (b_1 : List (List V)) (i_5 : Int) (σ : Sto) : Option Res :=
  bif (decide (i_5 < (a_0.length : Int))) then
  (grd (decide (0 ≤ i_5) && decide (i_5 < a_0.length))).bind fun _ =>
  (grd (decide (0 ≤ i_5) && decide (i_5 < b_1.length))).bind fun _ =>
  (V.asStr (List.getD (List.getD a_0 (Int.toNat i_5) []) 0 V.any)).bind fun s1 =>
  (V.asStr (List.getD (List.getD b_1 (Int.toNat i_5) []) 0 V.any)).bind fun s2 =>
  bif (!(s1.toList == s2.toList)) then
  some (.ret [((V.bool false), false)], σ)
  else
  rec0 a_0 b_1 (IntKind.wrap .i64 (i_5 + (1 : Int))) σ
  else
  some (.ret [((V.bool true), false)], σ)
noncomputable def sameNamesl0 (call : CallF) (n : Nat) : Nat → List (List V) → List (List V) → Int → Sto → Option Res
  | 0 => fun _ _ _ _ => none
  | m + 1 => sameNamess0 call (sameNamesl0 call n m)
noncomputable def sameNamest0 (a_0 : List (List V)) (b_1 : List (List V)) (i_5 : Int) (σ : Sto) : St := ⟨[.val (V.slice 1 9 a_0) false, .val (V.slice 1 9 b_1) false, .dead, .dead, .dead, .val (V.int .i64 i_5) false, .dead, .dead, .dead, .dead, .dead, .dead, .dead, .dead, .dead, .dead, .dead, .dead, .dead, .dead, .dead, .dead, .dead, .dead, .dead, .dead], [[], [], [], [], [], [], [], [], [], [], [], [], [], [], [], [], [], [], [], [], [], [], [], [], [], []], σ⟩
noncomputable def sameNamesF (call : CallF) (L0 : List (List V) → List (List V) → Int → Sto → Option Res) (a_0 : List (List V)) (b_1 : List (List V)) (σ : Sto) : Option Res :=
  bif ((a_0.length : Int) != (b_1.length : Int)) then
  some (.ret [((V.bool false), false)], σ)
  else
  L0 a_0 b_1 (0 : Int) σ
noncomputable def sameNames (call : CallF) (n : Nat) (a_0 : List (List V)) (b_1 : List (List V)) (σ : Sto) : Option Res := sameNamesF call (sameNamesl0 call n n) a_0 b_1 σ
theorem sameNamess0_eq (call : CallF) (n : Nat) (F0 : St → Option Res) (a_0 : List (List V)) (b_1 : List (List V)) (i_5 : Int) (σ : Sto) :
    aexec C sameNamesH call n (codeL (codeL (codeR (codeL (codeR (codeR sameNamesC)))))) 0 (sameNamest0 a_0 b_1 i_5 σ) (kloop sameNamesk0 F0 (kblk 0 (kseq (fun st' => aexec C sameNamesH call n (codeR (codeR (codeR sameNamesC))) 0 st' (kfin C sameNamesD)) (kfin C sameNamesD)))) =
    sameNamess0 call (fun a_0 b_1 i_5 σ => F0 (sameNamest0 a_0 b_1 i_5 σ)) a_0 b_1 i_5 σ := by kernel_rfl
theorem sameNamesl0_eq (call : CallF) (n : Nat) : ∀ (m : Nat) (a_0 : List (List V)) (b_1 : List (List V)) (i_5 : Int) (σ : Sto),
    aloop (fun st K => aexec C sameNamesH call n (codeL (codeL (codeR (codeL (codeR (codeR sameNamesC)))))) 0 st K) sameNamesk0 m (sameNamest0 a_0 b_1 i_5 σ) (kblk 0 (kseq (fun st' => aexec C sameNamesH call n (codeR (codeR (codeR sameNamesC))) 0 st' (kfin C sameNamesD)) (kfin C sameNamesD))) = sameNamesl0 call n m a_0 b_1 i_5 σ
  | 0, a_0, b_1, i_5, σ => rfl
  | m + 1, a_0, b_1, i_5, σ => by
    rw [aloop, sameNamess0_eq]
    simp only [sameNamesl0_eq call n m]
    rfl
theorem sameNames_eqF (call : CallF) (n : Nat) (a_0 : List (List V)) (b_1 : List (List V)) (σ : Sto) : afun C sameNamesD call n [((V.slice 1 9 a_0), false), ((V.slice 1 9 b_1), false)] σ =
    sameNamesF call (fun a_0 b_1 i_5 σ => aloop (fun st K => aexec C sameNamesH call n (codeL (codeL (codeR (codeL (codeR (codeR sameNamesC)))))) 0 st K) sameNamesk0 n (sameNamest0 a_0 b_1 i_5 σ) (kblk 0 (kseq (fun st' => aexec C sameNamesH call n (codeR (codeR (codeR sameNamesC))) 0 st' (kfin C sameNamesD)) (kfin C sameNamesD)))) a_0 b_1 σ := by kernel_rfl
theorem sameNames_eq (call : CallF) (n : Nat) (a_0 : List (List V)) (b_1 : List (List V)) (σ : Sto) : afun C sameNamesD call n [((V.slice 1 9 a_0), false), ((V.slice 1 9 b_1), false)] σ = sameNames call n a_0 b_1 σ := by
  rw [sameNames_eqF]
  simp only [sameNamesl0_eq]
  rfl
theorem sameNames_call (n : Nat) (a_0 : List (List V)) (b_1 : List (List V)) (σ : Sto) : acall C (n + 1) 18 [((V.slice 1 9 a_0), false), ((V.slice 1 9 b_1), false)] σ = sameNames (acall C n) n a_0 b_1 σ :=
  (show acall C (n + 1) 18 [((V.slice 1 9 a_0), false), ((V.slice 1 9 b_1), false)] σ = afun C sameNamesD (acall C n) n [((V.slice 1 9 a_0), false), ((V.slice 1 9 b_1), false)] σ by kernel_rfl).trans (sameNames_eq _ _ a_0 b_1 σ)
theorem sameNames_lim {n : Nat} {a_0 : List (List V)} {b_1 : List (List V)} {b0 b1 : Bool} {σ : Sto} {r : Res} (h : sameNames (lim C) n a_0 b_1 σ = some r) : lim C 18 [((V.slice 1 9 a_0), b0), ((V.slice 1 9 b_1), b1)] σ = some r :=
  lim_of (d := sameNamesD) (by kernel_rfl) (by kernel_rfl) n (show afun C sameNamesD (lim C) n [((V.slice 1 9 a_0), false), ((V.slice 1 9 b_1), false)] σ = some r from (sameNames_eq (lim C) n a_0 b_1 σ).trans h)
/-! provekernelref.PrintLevel -/
noncomputable def rprintF (call : CallF) (l_0_0 : Int) (l_0_1 : ByteArray) (l_0_2 : List (List V)) (σ : Sto) : Option Res :=
  bif (l_0_0 == (0 : Int)) then
  some (.ret [((V.str (ByteArray.mk #[48])), false)], σ)
  else
  bif (l_0_0 == (1 : Int)) then
  (grd (decide (0 ≤ (0 : Int)) && decide ((0 : Int) < l_0_2.length))).bind fun _ =>
  callK call 19 [((V.agg [(List.getD (List.getD l_0_2 (Int.toNat (0 : Int)) []) 0 V.any), (List.getD (List.getD l_0_2 (Int.toNat (0 : Int)) []) 1 V.any), (List.getD (List.getD l_0_2 (Int.toNat (0 : Int)) []) 2 V.any)]), false)] σ 1 (fun vs1 σ2 =>
  (V.asStr (List.getD vs1 0 cellD).1).bind fun s4 =>
  (grd (strRoom (ByteArray.mk #[40, 115, 32]) s4)).bind fun _ =>
  (grd (strRoom ((ByteArray.mk #[40, 115, 32]) ++ s4) (ByteArray.mk #[41]))).bind fun _ =>
  some (.ret [((V.str (((ByteArray.mk #[40, 115, 32]) ++ s4) ++ (ByteArray.mk #[41]))), false)], σ2)) (fun p3 σ2 => some (.pan p3, σ2))
  else
  bif (l_0_0 == (4 : Int)) then
  some (.ret [((V.str l_0_1), false)], σ)
  else
  bif (l_0_0 == (3 : Int)) then
  (grd (strRoom (ByteArray.mk #[40]) (ByteArray.mk #[105, 109, 97, 120]))).bind fun _ =>
  (grd (strRoom ((ByteArray.mk #[40]) ++ (ByteArray.mk #[105, 109, 97, 120])) (ByteArray.mk #[32]))).bind fun _ =>
  (grd (decide (0 ≤ (0 : Int)) && decide ((0 : Int) < l_0_2.length))).bind fun _ =>
  (grd (decide (0 ≤ (1 : Int)) && decide ((1 : Int) < l_0_2.length))).bind fun _ =>
  callK call 19 [((V.agg [(List.getD (List.getD l_0_2 (Int.toNat (0 : Int)) []) 0 V.any), (List.getD (List.getD l_0_2 (Int.toNat (0 : Int)) []) 1 V.any), (List.getD (List.getD l_0_2 (Int.toNat (0 : Int)) []) 2 V.any)]), false)] σ 1 (fun vs5 σ6 =>
  (V.asStr (List.getD vs5 0 cellD).1).bind fun s8 =>
  (grd (strRoom (((ByteArray.mk #[40]) ++ (ByteArray.mk #[105, 109, 97, 120])) ++ (ByteArray.mk #[32])) s8)).bind fun _ =>
  (grd (strRoom ((((ByteArray.mk #[40]) ++ (ByteArray.mk #[105, 109, 97, 120])) ++ (ByteArray.mk #[32])) ++ s8) (ByteArray.mk #[32]))).bind fun _ =>
  callK call 19 [((V.agg [(List.getD (List.getD l_0_2 (Int.toNat (1 : Int)) []) 0 V.any), (List.getD (List.getD l_0_2 (Int.toNat (1 : Int)) []) 1 V.any), (List.getD (List.getD l_0_2 (Int.toNat (1 : Int)) []) 2 V.any)]), false)] σ6 1 (fun vs9 σ10 =>
  (V.asStr (List.getD vs9 0 cellD).1).bind fun s12 =>
  (grd (strRoom (((((ByteArray.mk #[40]) ++ (ByteArray.mk #[105, 109, 97, 120])) ++ (ByteArray.mk #[32])) ++ s8) ++ (ByteArray.mk #[32])) s12)).bind fun _ =>
  (grd (strRoom ((((((ByteArray.mk #[40]) ++ (ByteArray.mk #[105, 109, 97, 120])) ++ (ByteArray.mk #[32])) ++ s8) ++ (ByteArray.mk #[32])) ++ s12) (ByteArray.mk #[41]))).bind fun _ =>
  some (.ret [((V.str (((((((ByteArray.mk #[40]) ++ (ByteArray.mk #[105, 109, 97, 120])) ++ (ByteArray.mk #[32])) ++ s8) ++ (ByteArray.mk #[32])) ++ s12) ++ (ByteArray.mk #[41]))), false)], σ10)) (fun p11 σ10 => some (.pan p11, σ10))) (fun p7 σ6 => some (.pan p7, σ6))
  else
  (grd (strRoom (ByteArray.mk #[40]) (ByteArray.mk #[109, 97, 120]))).bind fun _ =>
  (grd (strRoom ((ByteArray.mk #[40]) ++ (ByteArray.mk #[109, 97, 120])) (ByteArray.mk #[32]))).bind fun _ =>
  (grd (decide (0 ≤ (0 : Int)) && decide ((0 : Int) < l_0_2.length))).bind fun _ =>
  (grd (decide (0 ≤ (1 : Int)) && decide ((1 : Int) < l_0_2.length))).bind fun _ =>
  callK call 19 [((V.agg [(List.getD (List.getD l_0_2 (Int.toNat (0 : Int)) []) 0 V.any), (List.getD (List.getD l_0_2 (Int.toNat (0 : Int)) []) 1 V.any), (List.getD (List.getD l_0_2 (Int.toNat (0 : Int)) []) 2 V.any)]), false)] σ 1 (fun vs13 σ14 =>
  (V.asStr (List.getD vs13 0 cellD).1).bind fun s16 =>
  (grd (strRoom (((ByteArray.mk #[40]) ++ (ByteArray.mk #[109, 97, 120])) ++ (ByteArray.mk #[32])) s16)).bind fun _ =>
  (grd (strRoom ((((ByteArray.mk #[40]) ++ (ByteArray.mk #[109, 97, 120])) ++ (ByteArray.mk #[32])) ++ s16) (ByteArray.mk #[32]))).bind fun _ =>
  callK call 19 [((V.agg [(List.getD (List.getD l_0_2 (Int.toNat (1 : Int)) []) 0 V.any), (List.getD (List.getD l_0_2 (Int.toNat (1 : Int)) []) 1 V.any), (List.getD (List.getD l_0_2 (Int.toNat (1 : Int)) []) 2 V.any)]), false)] σ14 1 (fun vs17 σ18 =>
  (V.asStr (List.getD vs17 0 cellD).1).bind fun s20 =>
  (grd (strRoom (((((ByteArray.mk #[40]) ++ (ByteArray.mk #[109, 97, 120])) ++ (ByteArray.mk #[32])) ++ s16) ++ (ByteArray.mk #[32])) s20)).bind fun _ =>
  (grd (strRoom ((((((ByteArray.mk #[40]) ++ (ByteArray.mk #[109, 97, 120])) ++ (ByteArray.mk #[32])) ++ s16) ++ (ByteArray.mk #[32])) ++ s20) (ByteArray.mk #[41]))).bind fun _ =>
  some (.ret [((V.str (((((((ByteArray.mk #[40]) ++ (ByteArray.mk #[109, 97, 120])) ++ (ByteArray.mk #[32])) ++ s16) ++ (ByteArray.mk #[32])) ++ s20) ++ (ByteArray.mk #[41]))), false)], σ18)) (fun p19 σ18 => some (.pan p19, σ18))) (fun p15 σ14 => some (.pan p15, σ14))
noncomputable def rprint (call : CallF) (n : Nat) (l_0_0 : Int) (l_0_1 : ByteArray) (l_0_2 : List (List V)) (σ : Sto) : Option Res := rprintF call l_0_0 l_0_1 l_0_2 σ
theorem rprint_eqF (call : CallF) (n : Nat) (l_0_0 : Int) (l_0_1 : ByteArray) (l_0_2 : List (List V)) (σ : Sto) : afun C rprintD call n [((V.agg [(V.int .i64 l_0_0), (V.str l_0_1), (V.slice 3 31 l_0_2)]), false)] σ =
    rprintF call l_0_0 l_0_1 l_0_2 σ := by kernel_rfl
theorem rprint_eq (call : CallF) (n : Nat) (l_0_0 : Int) (l_0_1 : ByteArray) (l_0_2 : List (List V)) (σ : Sto) : afun C rprintD call n [((V.agg [(V.int .i64 l_0_0), (V.str l_0_1), (V.slice 3 31 l_0_2)]), false)] σ = rprint call n l_0_0 l_0_1 l_0_2 σ := rprint_eqF call n l_0_0 l_0_1 l_0_2 σ
theorem rprint_call (n : Nat) (l_0_0 : Int) (l_0_1 : ByteArray) (l_0_2 : List (List V)) (σ : Sto) : acall C (n + 1) 19 [((V.agg [(V.int .i64 l_0_0), (V.str l_0_1), (V.slice 3 31 l_0_2)]), false)] σ = rprint (acall C n) n l_0_0 l_0_1 l_0_2 σ :=
  (show acall C (n + 1) 19 [((V.agg [(V.int .i64 l_0_0), (V.str l_0_1), (V.slice 3 31 l_0_2)]), false)] σ = afun C rprintD (acall C n) n [((V.agg [(V.int .i64 l_0_0), (V.str l_0_1), (V.slice 3 31 l_0_2)]), false)] σ by kernel_rfl).trans (rprint_eq _ _ l_0_0 l_0_1 l_0_2 σ)
theorem rprint_lim {n : Nat} {l_0_0 : Int} {l_0_1 : ByteArray} {l_0_2 : List (List V)} {b0 : Bool} {σ : Sto} {r : Res} (h : rprint (lim C) n l_0_0 l_0_1 l_0_2 σ = some r) : lim C 19 [((V.agg [(V.int .i64 l_0_0), (V.str l_0_1), (V.slice 3 31 l_0_2)]), b0)] σ = some r :=
  lim_of (d := rprintD) (by kernel_rfl) (by kernel_rfl) n (show afun C rprintD (lim C) n [((V.agg [(V.int .i64 l_0_0), (V.str l_0_1), (V.slice 3 31 l_0_2)]), false)] σ = some r from (rprint_eq (lim C) n l_0_0 l_0_1 l_0_2 σ).trans h)
/-! level.Subst -/
noncomputable def substk0 : List Nat := [1, 2, 6, 8, 28, 29, 30]
noncomputable def substs0 (call : CallF) (rec0 : List (List V) → List (List V) → List (List V) → Int → Int → Int → ByteArray → List (List V) → Int → ByteArray → List (List V) → Sto → Option Res) (params_1 : List (List V)) (ls_2 : List (List V)) (t_28 : List (List V)) (t_29 : Int) (t_30 : Int) (t_6c0 : Int) (t_6c1 : ByteArray) (t_6c2 : List (List V)) (out_8c0 : Int) (out_8c1 : ByteArray) (out_8c2 : List (List V)) (σ : Sto) : Option Res :=
  bif (decide (t_30 < t_29)) then
  (grd (decide (0 ≤ t_30) && decide (t_30 < t_28.length))).bind fun _ =>
  callK call 20 [((V.agg [(List.getD (List.getD t_28 (Int.toNat t_30) []) 0 V.any), (List.getD (List.getD t_28 (Int.toNat t_30) []) 1 V.any), (List.getD (List.getD t_28 (Int.toNat t_30) []) 2 V.any)]), false), ((V.slice 1 9 params_1), false), ((V.slice 3 31 ls_2), false)] σ 1 (fun vs1 σ2 =>
  (grd ((V.fits (List.getD vs1 0 cellD).1 true 3 && true))).bind fun _ =>
  (grd (room (List.length out_8c2 + 1))).bind fun _ =>
  rec0 params_1 ls_2 t_28 t_29 (IntKind.wrap .i64 (t_30 + (1 : Int))) t_6c0 t_6c1 t_6c2 out_8c0 out_8c1 (out_8c2 ++ [[(V.cell (List.getD vs1 0 cellD).1 0), (V.cell (List.getD vs1 0 cellD).1 1), (V.cell (List.getD vs1 0 cellD).1 2)]]) σ2) (fun p3 σ2 => some (.pan p3, σ2))
  else
  some (.ret [((V.agg [(V.int .i64 out_8c0), (V.str out_8c1), (V.slice 3 31 out_8c2)]), false)], σ)
noncomputable def substl0 (call : CallF) (n : Nat) : Nat → List (List V) → List (List V) → List (List V) → Int → Int → Int → ByteArray → List (List V) → Int → ByteArray → List (List V) → Sto → Option Res
  | 0 => fun _ _ _ _ _ _ _ _ _ _ _ _ => none
  | m + 1 => substs0 call (substl0 call n m)
noncomputable def substt0 (params_1 : List (List V)) (ls_2 : List (List V)) (t_28 : List (List V)) (t_29 : Int) (t_30 : Int) (t_6c0 : Int) (t_6c1 : ByteArray) (t_6c2 : List (List V)) (out_8c0 : Int) (out_8c1 : ByteArray) (out_8c2 : List (List V)) (σ : Sto) : St := ⟨[.dead, .val (V.slice 1 9 params_1) false, .val (V.slice 3 31 ls_2) false, .dead, .dead, .dead, .lptr 6 0, .dead, .lptr 8 0, .dead, .dead, .dead, .dead, .dead, .dead, .dead, .dead, .dead, .dead, .dead, .dead, .dead, .dead, .dead, .dead, .dead, .dead, .dead, .val (V.slice 3 31 t_28) false, .val (V.int .i64 t_29) false, .val (V.int .i64 t_30) false, .dead, .dead, .dead, .dead, .dead, .dead, .dead, .dead, .dead, .dead, .dead, .dead, .dead, .dead], [[], [], [], [], [], [], [((V.int .i64 t_6c0), false), ((V.str t_6c1), false), ((V.slice 3 31 t_6c2), true)], [], [((V.int .i64 out_8c0), false), ((V.str out_8c1), false), ((V.slice 3 31 out_8c2), true)], [], [], [], [], [], [], [], [], [], [], [], [], [], [], [], [], [], [], [], [], [], [], [], [], [], [], [], [], [], [], [], [], [], [], [], []], σ⟩
noncomputable def substF (call : CallF) (L0 : List (List V) → List (List V) → List (List V) → Int → Int → Int → ByteArray → List (List V) → Int → ByteArray → List (List V) → Sto → Option Res) (l_0_0 : Int) (l_0_1 : ByteArray) (l_0_2 : List (List V)) (params_1 : List (List V)) (ls_2 : List (List V)) (σ : Sto) : Option Res :=
  bif (l_0_0 == (4 : Int)) then
  callK call 28 [((V.slice 1 9 params_1), false), ((V.str l_0_1), false)] σ 1 (fun vs1 σ2 =>
  (V.asInt (List.getD vs1 0 cellD).1 .i64).bind fun i4 =>
  bif (decide (i4 ≥ (0 : Int))) then
  (V.asInt (List.getD vs1 0 cellD).1 .i64).bind fun i5 =>
  (grd (decide (0 ≤ i5) && decide (i5 < ls_2.length))).bind fun _ =>
  some (.ret [((V.agg [(List.getD (List.getD ls_2 (Int.toNat i5) []) 0 V.any), (List.getD (List.getD ls_2 (Int.toNat i5) []) 1 V.any), (List.getD (List.getD ls_2 (Int.toNat i5) []) 2 V.any)]), false)], σ2)
  else
  some (.ret [((V.agg [(V.int .i64 l_0_0), (V.str l_0_1), (V.slice 3 31 l_0_2)]), false)], σ2)) (fun p3 σ2 => some (.pan p3, σ2))
  else
  L0 params_1 ls_2 l_0_2 (l_0_2.length : Int) (0 : Int) (0 : Int) (ByteArray.mk #[]) [] l_0_0 l_0_1 [] σ
noncomputable def subst (call : CallF) (n : Nat) (l_0_0 : Int) (l_0_1 : ByteArray) (l_0_2 : List (List V)) (params_1 : List (List V)) (ls_2 : List (List V)) (σ : Sto) : Option Res := substF call (substl0 call n n) l_0_0 l_0_1 l_0_2 params_1 ls_2 σ
theorem substs0_eq (call : CallF) (n : Nat) (F0 : St → Option Res) (params_1 : List (List V)) (ls_2 : List (List V)) (t_28 : List (List V)) (t_29 : Int) (t_30 : Int) (t_6c0 : Int) (t_6c1 : ByteArray) (t_6c2 : List (List V)) (out_8c0 : Int) (out_8c1 : ByteArray) (out_8c2 : List (List V)) (σ : Sto) :
    aexec C substH call n (codeL (codeL (codeR (codeL (codeR (codeR (codeR (codeR substC)))))))) 0 (substt0 params_1 ls_2 t_28 t_29 t_30 t_6c0 t_6c1 t_6c2 out_8c0 out_8c1 out_8c2 σ) (kloop substk0 F0 (kblk 0 (kseq (fun st' => aexec C substH call n (codeR (codeR (codeR (codeR (codeR substC))))) 0 st' (kfin C substD)) (kfin C substD)))) =
    substs0 call (fun params_1 ls_2 t_28 t_29 t_30 t_6c0 t_6c1 t_6c2 out_8c0 out_8c1 out_8c2 σ => F0 (substt0 params_1 ls_2 t_28 t_29 t_30 t_6c0 t_6c1 t_6c2 out_8c0 out_8c1 out_8c2 σ)) params_1 ls_2 t_28 t_29 t_30 t_6c0 t_6c1 t_6c2 out_8c0 out_8c1 out_8c2 σ := by kernel_rfl
theorem substl0_eq (call : CallF) (n : Nat) : ∀ (m : Nat) (params_1 : List (List V)) (ls_2 : List (List V)) (t_28 : List (List V)) (t_29 : Int) (t_30 : Int) (t_6c0 : Int) (t_6c1 : ByteArray) (t_6c2 : List (List V)) (out_8c0 : Int) (out_8c1 : ByteArray) (out_8c2 : List (List V)) (σ : Sto),
    aloop (fun st K => aexec C substH call n (codeL (codeL (codeR (codeL (codeR (codeR (codeR (codeR substC)))))))) 0 st K) substk0 m (substt0 params_1 ls_2 t_28 t_29 t_30 t_6c0 t_6c1 t_6c2 out_8c0 out_8c1 out_8c2 σ) (kblk 0 (kseq (fun st' => aexec C substH call n (codeR (codeR (codeR (codeR (codeR substC))))) 0 st' (kfin C substD)) (kfin C substD))) = substl0 call n m params_1 ls_2 t_28 t_29 t_30 t_6c0 t_6c1 t_6c2 out_8c0 out_8c1 out_8c2 σ
  | 0, params_1, ls_2, t_28, t_29, t_30, t_6c0, t_6c1, t_6c2, out_8c0, out_8c1, out_8c2, σ => rfl
  | m + 1, params_1, ls_2, t_28, t_29, t_30, t_6c0, t_6c1, t_6c2, out_8c0, out_8c1, out_8c2, σ => by
    rw [aloop, substs0_eq]
    simp only [substl0_eq call n m]
    rfl
theorem subst_eqF (call : CallF) (n : Nat) (l_0_0 : Int) (l_0_1 : ByteArray) (l_0_2 : List (List V)) (params_1 : List (List V)) (ls_2 : List (List V)) (σ : Sto) : afun C substD call n [((V.agg [(V.int .i64 l_0_0), (V.str l_0_1), (V.slice 3 31 l_0_2)]), false), ((V.slice 1 9 params_1), false), ((V.slice 3 31 ls_2), false)] σ =
    substF call (fun params_1 ls_2 t_28 t_29 t_30 t_6c0 t_6c1 t_6c2 out_8c0 out_8c1 out_8c2 σ => aloop (fun st K => aexec C substH call n (codeL (codeL (codeR (codeL (codeR (codeR (codeR (codeR substC)))))))) 0 st K) substk0 n (substt0 params_1 ls_2 t_28 t_29 t_30 t_6c0 t_6c1 t_6c2 out_8c0 out_8c1 out_8c2 σ) (kblk 0 (kseq (fun st' => aexec C substH call n (codeR (codeR (codeR (codeR (codeR substC))))) 0 st' (kfin C substD)) (kfin C substD)))) l_0_0 l_0_1 l_0_2 params_1 ls_2 σ := by kernel_rfl
theorem subst_eq (call : CallF) (n : Nat) (l_0_0 : Int) (l_0_1 : ByteArray) (l_0_2 : List (List V)) (params_1 : List (List V)) (ls_2 : List (List V)) (σ : Sto) : afun C substD call n [((V.agg [(V.int .i64 l_0_0), (V.str l_0_1), (V.slice 3 31 l_0_2)]), false), ((V.slice 1 9 params_1), false), ((V.slice 3 31 ls_2), false)] σ = subst call n l_0_0 l_0_1 l_0_2 params_1 ls_2 σ := by
  rw [subst_eqF]
  simp only [substl0_eq]
  rfl
theorem subst_call (n : Nat) (l_0_0 : Int) (l_0_1 : ByteArray) (l_0_2 : List (List V)) (params_1 : List (List V)) (ls_2 : List (List V)) (σ : Sto) : acall C (n + 1) 20 [((V.agg [(V.int .i64 l_0_0), (V.str l_0_1), (V.slice 3 31 l_0_2)]), false), ((V.slice 1 9 params_1), false), ((V.slice 3 31 ls_2), false)] σ = subst (acall C n) n l_0_0 l_0_1 l_0_2 params_1 ls_2 σ :=
  (show acall C (n + 1) 20 [((V.agg [(V.int .i64 l_0_0), (V.str l_0_1), (V.slice 3 31 l_0_2)]), false), ((V.slice 1 9 params_1), false), ((V.slice 3 31 ls_2), false)] σ = afun C substD (acall C n) n [((V.agg [(V.int .i64 l_0_0), (V.str l_0_1), (V.slice 3 31 l_0_2)]), false), ((V.slice 1 9 params_1), false), ((V.slice 3 31 ls_2), false)] σ by kernel_rfl).trans (subst_eq _ _ l_0_0 l_0_1 l_0_2 params_1 ls_2 σ)
theorem subst_lim {n : Nat} {l_0_0 : Int} {l_0_1 : ByteArray} {l_0_2 : List (List V)} {params_1 : List (List V)} {ls_2 : List (List V)} {b0 b1 b2 : Bool} {σ : Sto} {r : Res} (h : subst (lim C) n l_0_0 l_0_1 l_0_2 params_1 ls_2 σ = some r) : lim C 20 [((V.agg [(V.int .i64 l_0_0), (V.str l_0_1), (V.slice 3 31 l_0_2)]), b0), ((V.slice 1 9 params_1), b1), ((V.slice 3 31 ls_2), b2)] σ = some r :=
  lim_of (d := substD) (by kernel_rfl) (by kernel_rfl) n (show afun C substD (lim C) n [((V.agg [(V.int .i64 l_0_0), (V.str l_0_1), (V.slice 3 31 l_0_2)]), false), ((V.slice 1 9 params_1), false), ((V.slice 3 31 ls_2), false)] σ = some r from (subst_eq (lim C) n l_0_0 l_0_1 l_0_2 params_1 ls_2 σ).trans h)
/-! provekernelref.SubstLevel -/
noncomputable def rsubstk0 : List Nat := [1, 2, 3, 6, 7]
noncomputable def rsubstk1 : List Nat := [1, 2, 3, 6, 8, 9]
noncomputable def rsubsts0 (call : CallF) (rec0 : List (List V) → List (List V) → Int → Int → ByteArray → List (List V) → Int → ByteArray → List (List V) → Sto → Option Res) (params_1 : List (List V)) (ls_2 : List (List V)) (i_7 : Int) (l_3c0 : Int) (l_3c1 : ByteArray) (l_3c2 : List (List V)) (t_6c0 : Int) (t_6c1 : ByteArray) (t_6c2 : List (List V)) (σ : Sto) : Option Res :=
  bif (decide (i_7 < (params_1.length : Int))) then
  (grd (decide (0 ≤ i_7) && decide (i_7 < params_1.length))).bind fun _ =>
  (V.asStr (List.getD (List.getD params_1 (Int.toNat i_7) []) 0 V.any)).bind fun s1 =>
  bif (s1.toList == l_3c1.toList) then
  (grd (decide (0 ≤ i_7) && decide (i_7 < ls_2.length))).bind fun _ =>
  some (.ret [((V.agg [(List.getD (List.getD ls_2 (Int.toNat i_7) []) 0 V.any), (List.getD (List.getD ls_2 (Int.toNat i_7) []) 1 V.any), (List.getD (List.getD ls_2 (Int.toNat i_7) []) 2 V.any)]), false)], σ)
  else
  rec0 params_1 ls_2 (IntKind.wrap .i64 (i_7 + (1 : Int))) l_3c0 l_3c1 l_3c2 t_6c0 t_6c1 t_6c2 σ
  else
  some (.ret [((V.agg [(V.int .i64 l_3c0), (V.str l_3c1), (V.slice 3 31 l_3c2)]), false)], σ)
noncomputable def rsubstl0 (call : CallF) (n : Nat) : Nat → List (List V) → List (List V) → Int → Int → ByteArray → List (List V) → Int → ByteArray → List (List V) → Sto → Option Res
  | 0 => fun _ _ _ _ _ _ _ _ _ _ => none
  | m + 1 => rsubsts0 call (rsubstl0 call n m)
noncomputable def rsubstt0 (params_1 : List (List V)) (ls_2 : List (List V)) (i_7 : Int) (l_3c0 : Int) (l_3c1 : ByteArray) (l_3c2 : List (List V)) (t_6c0 : Int) (t_6c1 : ByteArray) (t_6c2 : List (List V)) (σ : Sto) : St := ⟨[.dead, .val (V.slice 1 9 params_1) false, .val (V.slice 3 31 ls_2) false, .lptr 3 0, .dead, .dead, .lptr 6 0, .val (V.int .i64 i_7) false, .dead, .dead, .dead, .dead, .dead, .dead, .dead, .dead, .dead, .dead, .dead, .dead, .dead, .dead, .dead, .dead, .dead, .dead, .dead, .dead, .dead, .dead, .dead, .dead, .dead, .dead, .dead, .dead, .dead, .dead, .dead, .dead, .dead, .dead, .dead, .dead, .dead, .dead, .dead, .dead, .dead, .dead, .dead, .dead, .dead, .dead, .dead, .dead, .dead], [[], [], [], [((V.int .i64 l_3c0), false), ((V.str l_3c1), false), ((V.slice 3 31 l_3c2), false)], [], [], [((V.int .i64 t_6c0), false), ((V.str t_6c1), false), ((V.slice 3 31 t_6c2), true)], [], [], [], [], [], [], [], [], [], [], [], [], [], [], [], [], [], [], [], [], [], [], [], [], [], [], [], [], [], [], [], [], [], [], [], [], [], [], [], [], [], [], [], [], [], [], [], [], [], []], σ⟩
noncomputable def rsubsts1 (call : CallF) (rec1 : List (List V) → List (List V) → Int → Int → ByteArray → List (List V) → Int → ByteArray → List (List V) → Int → ByteArray → List (List V) → Sto → Option Res) (params_1 : List (List V)) (ls_2 : List (List V)) (i_9 : Int) (l_3c0 : Int) (l_3c1 : ByteArray) (l_3c2 : List (List V)) (t_6c0 : Int) (t_6c1 : ByteArray) (t_6c2 : List (List V)) (out_8c0 : Int) (out_8c1 : ByteArray) (out_8c2 : List (List V)) (σ : Sto) : Option Res :=
  bif (decide (i_9 < (l_3c2.length : Int))) then
  (grd (decide (0 ≤ i_9) && decide (i_9 < l_3c2.length))).bind fun _ =>
  callK call 21 [((V.agg [(List.getD (List.getD l_3c2 (Int.toNat i_9) []) 0 V.any), (List.getD (List.getD l_3c2 (Int.toNat i_9) []) 1 V.any), (List.getD (List.getD l_3c2 (Int.toNat i_9) []) 2 V.any)]), false), ((V.slice 1 9 params_1), false), ((V.slice 3 31 ls_2), false)] σ 1 (fun vs1 σ2 =>
  (grd ((V.fits (List.getD vs1 0 cellD).1 true 3 && true))).bind fun _ =>
  (grd (room (List.length out_8c2 + 1))).bind fun _ =>
  rec1 params_1 ls_2 (IntKind.wrap .i64 (i_9 + (1 : Int))) l_3c0 l_3c1 l_3c2 t_6c0 t_6c1 t_6c2 out_8c0 out_8c1 (out_8c2 ++ [[(V.cell (List.getD vs1 0 cellD).1 0), (V.cell (List.getD vs1 0 cellD).1 1), (V.cell (List.getD vs1 0 cellD).1 2)]]) σ2) (fun p3 σ2 => some (.pan p3, σ2))
  else
  some (.ret [((V.agg [(V.int .i64 out_8c0), (V.str out_8c1), (V.slice 3 31 out_8c2)]), false)], σ)
noncomputable def rsubstl1 (call : CallF) (n : Nat) : Nat → List (List V) → List (List V) → Int → Int → ByteArray → List (List V) → Int → ByteArray → List (List V) → Int → ByteArray → List (List V) → Sto → Option Res
  | 0 => fun _ _ _ _ _ _ _ _ _ _ _ _ _ => none
  | m + 1 => rsubsts1 call (rsubstl1 call n m)
noncomputable def rsubstt1 (params_1 : List (List V)) (ls_2 : List (List V)) (i_9 : Int) (l_3c0 : Int) (l_3c1 : ByteArray) (l_3c2 : List (List V)) (t_6c0 : Int) (t_6c1 : ByteArray) (t_6c2 : List (List V)) (out_8c0 : Int) (out_8c1 : ByteArray) (out_8c2 : List (List V)) (σ : Sto) : St := ⟨[.dead, .val (V.slice 1 9 params_1) false, .val (V.slice 3 31 ls_2) false, .lptr 3 0, .dead, .dead, .lptr 6 0, .dead, .lptr 8 0, .val (V.int .i64 i_9) false, .dead, .dead, .dead, .dead, .dead, .dead, .dead, .dead, .dead, .dead, .dead, .dead, .dead, .dead, .dead, .dead, .dead, .dead, .dead, .dead, .dead, .dead, .dead, .dead, .dead, .dead, .dead, .dead, .dead, .dead, .dead, .dead, .dead, .dead, .dead, .dead, .dead, .dead, .dead, .dead, .dead, .dead, .dead, .dead, .dead, .dead, .dead], [[], [], [], [((V.int .i64 l_3c0), false), ((V.str l_3c1), false), ((V.slice 3 31 l_3c2), false)], [], [], [((V.int .i64 t_6c0), false), ((V.str t_6c1), false), ((V.slice 3 31 t_6c2), true)], [], [((V.int .i64 out_8c0), false), ((V.str out_8c1), false), ((V.slice 3 31 out_8c2), true)], [], [], [], [], [], [], [], [], [], [], [], [], [], [], [], [], [], [], [], [], [], [], [], [], [], [], [], [], [], [], [], [], [], [], [], [], [], [], [], [], [], [], [], [], [], [], [], []], σ⟩
noncomputable def rsubstF (call : CallF) (L0 : List (List V) → List (List V) → Int → Int → ByteArray → List (List V) → Int → ByteArray → List (List V) → Sto → Option Res) (L1 : List (List V) → List (List V) → Int → Int → ByteArray → List (List V) → Int → ByteArray → List (List V) → Int → ByteArray → List (List V) → Sto → Option Res) (l_0_0 : Int) (l_0_1 : ByteArray) (l_0_2 : List (List V)) (params_1 : List (List V)) (ls_2 : List (List V)) (σ : Sto) : Option Res :=
  bif (l_0_0 == (4 : Int)) then
  L0 params_1 ls_2 (0 : Int) l_0_0 l_0_1 l_0_2 (0 : Int) (ByteArray.mk #[]) [] σ
  else
  L1 params_1 ls_2 (0 : Int) l_0_0 l_0_1 l_0_2 (0 : Int) (ByteArray.mk #[]) [] l_0_0 l_0_1 [] σ
noncomputable def rsubst (call : CallF) (n : Nat) (l_0_0 : Int) (l_0_1 : ByteArray) (l_0_2 : List (List V)) (params_1 : List (List V)) (ls_2 : List (List V)) (σ : Sto) : Option Res := rsubstF call (rsubstl0 call n n) (rsubstl1 call n n) l_0_0 l_0_1 l_0_2 params_1 ls_2 σ
theorem rsubsts0_eq (call : CallF) (n : Nat) (F0 : St → Option Res) (params_1 : List (List V)) (ls_2 : List (List V)) (i_7 : Int) (l_3c0 : Int) (l_3c1 : ByteArray) (l_3c2 : List (List V)) (t_6c0 : Int) (t_6c1 : ByteArray) (t_6c2 : List (List V)) (σ : Sto) :
    aexec C rsubstH call n (codeL (codeL (codeR (codeL (codeL (codeR (codeL (codeR rsubstC)))))))) 0 (rsubstt0 params_1 ls_2 i_7 l_3c0 l_3c1 l_3c2 t_6c0 t_6c1 t_6c2 σ) (kloop rsubstk0 F0 (kblk 0 (kseq (fun st' => aexec C rsubstH call n (codeR (codeL (codeR (codeL (codeR rsubstC))))) 0 st' (kseq (fun st' => aexec C rsubstH call n (codeR (codeR rsubstC)) 0 st' (kfin C rsubstD)) (kfin C rsubstD))) (kseq (fun st' => aexec C rsubstH call n (codeR (codeR rsubstC)) 0 st' (kfin C rsubstD)) (kfin C rsubstD))))) =
    rsubsts0 call (fun params_1 ls_2 i_7 l_3c0 l_3c1 l_3c2 t_6c0 t_6c1 t_6c2 σ => F0 (rsubstt0 params_1 ls_2 i_7 l_3c0 l_3c1 l_3c2 t_6c0 t_6c1 t_6c2 σ)) params_1 ls_2 i_7 l_3c0 l_3c1 l_3c2 t_6c0 t_6c1 t_6c2 σ := by kernel_rfl
theorem rsubstl0_eq (call : CallF) (n : Nat) : ∀ (m : Nat) (params_1 : List (List V)) (ls_2 : List (List V)) (i_7 : Int) (l_3c0 : Int) (l_3c1 : ByteArray) (l_3c2 : List (List V)) (t_6c0 : Int) (t_6c1 : ByteArray) (t_6c2 : List (List V)) (σ : Sto),
    aloop (fun st K => aexec C rsubstH call n (codeL (codeL (codeR (codeL (codeL (codeR (codeL (codeR rsubstC)))))))) 0 st K) rsubstk0 m (rsubstt0 params_1 ls_2 i_7 l_3c0 l_3c1 l_3c2 t_6c0 t_6c1 t_6c2 σ) (kblk 0 (kseq (fun st' => aexec C rsubstH call n (codeR (codeL (codeR (codeL (codeR rsubstC))))) 0 st' (kseq (fun st' => aexec C rsubstH call n (codeR (codeR rsubstC)) 0 st' (kfin C rsubstD)) (kfin C rsubstD))) (kseq (fun st' => aexec C rsubstH call n (codeR (codeR rsubstC)) 0 st' (kfin C rsubstD)) (kfin C rsubstD)))) = rsubstl0 call n m params_1 ls_2 i_7 l_3c0 l_3c1 l_3c2 t_6c0 t_6c1 t_6c2 σ
  | 0, params_1, ls_2, i_7, l_3c0, l_3c1, l_3c2, t_6c0, t_6c1, t_6c2, σ => rfl
  | m + 1, params_1, ls_2, i_7, l_3c0, l_3c1, l_3c2, t_6c0, t_6c1, t_6c2, σ => by
    rw [aloop, rsubsts0_eq]
    simp only [rsubstl0_eq call n m]
    rfl
theorem rsubsts1_eq (call : CallF) (n : Nat) (F1 : St → Option Res) (params_1 : List (List V)) (ls_2 : List (List V)) (i_9 : Int) (l_3c0 : Int) (l_3c1 : ByteArray) (l_3c2 : List (List V)) (t_6c0 : Int) (t_6c1 : ByteArray) (t_6c2 : List (List V)) (out_8c0 : Int) (out_8c1 : ByteArray) (out_8c2 : List (List V)) (σ : Sto) :
    aexec C rsubstH call n (codeL (codeL (codeR (codeL (codeR (codeR (codeR rsubstC))))))) 0 (rsubstt1 params_1 ls_2 i_9 l_3c0 l_3c1 l_3c2 t_6c0 t_6c1 t_6c2 out_8c0 out_8c1 out_8c2 σ) (kloop rsubstk1 F1 (kblk 2 (kseq (fun st' => aexec C rsubstH call n (codeR (codeR (codeR (codeR rsubstC)))) 0 st' (kfin C rsubstD)) (kfin C rsubstD)))) =
    rsubsts1 call (fun params_1 ls_2 i_9 l_3c0 l_3c1 l_3c2 t_6c0 t_6c1 t_6c2 out_8c0 out_8c1 out_8c2 σ => F1 (rsubstt1 params_1 ls_2 i_9 l_3c0 l_3c1 l_3c2 t_6c0 t_6c1 t_6c2 out_8c0 out_8c1 out_8c2 σ)) params_1 ls_2 i_9 l_3c0 l_3c1 l_3c2 t_6c0 t_6c1 t_6c2 out_8c0 out_8c1 out_8c2 σ := by kernel_rfl
theorem rsubstl1_eq (call : CallF) (n : Nat) : ∀ (m : Nat) (params_1 : List (List V)) (ls_2 : List (List V)) (i_9 : Int) (l_3c0 : Int) (l_3c1 : ByteArray) (l_3c2 : List (List V)) (t_6c0 : Int) (t_6c1 : ByteArray) (t_6c2 : List (List V)) (out_8c0 : Int) (out_8c1 : ByteArray) (out_8c2 : List (List V)) (σ : Sto),
    aloop (fun st K => aexec C rsubstH call n (codeL (codeL (codeR (codeL (codeR (codeR (codeR rsubstC))))))) 0 st K) rsubstk1 m (rsubstt1 params_1 ls_2 i_9 l_3c0 l_3c1 l_3c2 t_6c0 t_6c1 t_6c2 out_8c0 out_8c1 out_8c2 σ) (kblk 2 (kseq (fun st' => aexec C rsubstH call n (codeR (codeR (codeR (codeR rsubstC)))) 0 st' (kfin C rsubstD)) (kfin C rsubstD))) = rsubstl1 call n m params_1 ls_2 i_9 l_3c0 l_3c1 l_3c2 t_6c0 t_6c1 t_6c2 out_8c0 out_8c1 out_8c2 σ
  | 0, params_1, ls_2, i_9, l_3c0, l_3c1, l_3c2, t_6c0, t_6c1, t_6c2, out_8c0, out_8c1, out_8c2, σ => rfl
  | m + 1, params_1, ls_2, i_9, l_3c0, l_3c1, l_3c2, t_6c0, t_6c1, t_6c2, out_8c0, out_8c1, out_8c2, σ => by
    rw [aloop, rsubsts1_eq]
    simp only [rsubstl1_eq call n m]
    rfl
theorem rsubst_eqF (call : CallF) (n : Nat) (l_0_0 : Int) (l_0_1 : ByteArray) (l_0_2 : List (List V)) (params_1 : List (List V)) (ls_2 : List (List V)) (σ : Sto) : afun C rsubstD call n [((V.agg [(V.int .i64 l_0_0), (V.str l_0_1), (V.slice 3 31 l_0_2)]), false), ((V.slice 1 9 params_1), false), ((V.slice 3 31 ls_2), false)] σ =
    rsubstF call (fun params_1 ls_2 i_7 l_3c0 l_3c1 l_3c2 t_6c0 t_6c1 t_6c2 σ => aloop (fun st K => aexec C rsubstH call n (codeL (codeL (codeR (codeL (codeL (codeR (codeL (codeR rsubstC)))))))) 0 st K) rsubstk0 n (rsubstt0 params_1 ls_2 i_7 l_3c0 l_3c1 l_3c2 t_6c0 t_6c1 t_6c2 σ) (kblk 0 (kseq (fun st' => aexec C rsubstH call n (codeR (codeL (codeR (codeL (codeR rsubstC))))) 0 st' (kseq (fun st' => aexec C rsubstH call n (codeR (codeR rsubstC)) 0 st' (kfin C rsubstD)) (kfin C rsubstD))) (kseq (fun st' => aexec C rsubstH call n (codeR (codeR rsubstC)) 0 st' (kfin C rsubstD)) (kfin C rsubstD))))) (fun params_1 ls_2 i_9 l_3c0 l_3c1 l_3c2 t_6c0 t_6c1 t_6c2 out_8c0 out_8c1 out_8c2 σ => aloop (fun st K => aexec C rsubstH call n (codeL (codeL (codeR (codeL (codeR (codeR (codeR rsubstC))))))) 0 st K) rsubstk1 n (rsubstt1 params_1 ls_2 i_9 l_3c0 l_3c1 l_3c2 t_6c0 t_6c1 t_6c2 out_8c0 out_8c1 out_8c2 σ) (kblk 2 (kseq (fun st' => aexec C rsubstH call n (codeR (codeR (codeR (codeR rsubstC)))) 0 st' (kfin C rsubstD)) (kfin C rsubstD)))) l_0_0 l_0_1 l_0_2 params_1 ls_2 σ := by kernel_rfl
theorem rsubst_eq (call : CallF) (n : Nat) (l_0_0 : Int) (l_0_1 : ByteArray) (l_0_2 : List (List V)) (params_1 : List (List V)) (ls_2 : List (List V)) (σ : Sto) : afun C rsubstD call n [((V.agg [(V.int .i64 l_0_0), (V.str l_0_1), (V.slice 3 31 l_0_2)]), false), ((V.slice 1 9 params_1), false), ((V.slice 3 31 ls_2), false)] σ = rsubst call n l_0_0 l_0_1 l_0_2 params_1 ls_2 σ := by
  rw [rsubst_eqF]
  simp only [rsubstl0_eq, rsubstl1_eq]
  rfl
theorem rsubst_call (n : Nat) (l_0_0 : Int) (l_0_1 : ByteArray) (l_0_2 : List (List V)) (params_1 : List (List V)) (ls_2 : List (List V)) (σ : Sto) : acall C (n + 1) 21 [((V.agg [(V.int .i64 l_0_0), (V.str l_0_1), (V.slice 3 31 l_0_2)]), false), ((V.slice 1 9 params_1), false), ((V.slice 3 31 ls_2), false)] σ = rsubst (acall C n) n l_0_0 l_0_1 l_0_2 params_1 ls_2 σ :=
  (show acall C (n + 1) 21 [((V.agg [(V.int .i64 l_0_0), (V.str l_0_1), (V.slice 3 31 l_0_2)]), false), ((V.slice 1 9 params_1), false), ((V.slice 3 31 ls_2), false)] σ = afun C rsubstD (acall C n) n [((V.agg [(V.int .i64 l_0_0), (V.str l_0_1), (V.slice 3 31 l_0_2)]), false), ((V.slice 1 9 params_1), false), ((V.slice 3 31 ls_2), false)] σ by kernel_rfl).trans (rsubst_eq _ _ l_0_0 l_0_1 l_0_2 params_1 ls_2 σ)
theorem rsubst_lim {n : Nat} {l_0_0 : Int} {l_0_1 : ByteArray} {l_0_2 : List (List V)} {params_1 : List (List V)} {ls_2 : List (List V)} {b0 b1 b2 : Bool} {σ : Sto} {r : Res} (h : rsubst (lim C) n l_0_0 l_0_1 l_0_2 params_1 ls_2 σ = some r) : lim C 21 [((V.agg [(V.int .i64 l_0_0), (V.str l_0_1), (V.slice 3 31 l_0_2)]), b0), ((V.slice 1 9 params_1), b1), ((V.slice 3 31 ls_2), b2)] σ = some r :=
  lim_of (d := rsubstD) (by kernel_rfl) (by kernel_rfl) n (show afun C rsubstD (lim C) n [((V.agg [(V.int .i64 l_0_0), (V.str l_0_1), (V.slice 3 31 l_0_2)]), false), ((V.slice 1 9 params_1), false), ((V.slice 3 31 ls_2), false)] σ = some r from (rsubst_eq (lim C) n l_0_0 l_0_1 l_0_2 params_1 ls_2 σ).trans h)
end Go.Ab.Mk
