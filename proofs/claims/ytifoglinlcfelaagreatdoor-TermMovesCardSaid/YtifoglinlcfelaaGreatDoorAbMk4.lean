/- AbMk4: printed by program: functions of the program as plain Lean, and the equations. -/
import Derived.Test.YtifoglinlcfelaaGreatDoorAbMk1
set_option linter.unusedSimpArgs false
set_option linter.unusedVariables false
set_option linter.deprecated false
section
set_option maxRecDepth 100000
namespace Go.Ab.Mk
open Go.Proofs Go.Ab
open List (getD)
open IntKind (wrap)
noncomputable def equalTermF (call : CallF) (a b : Int) (c : ByteArray) (d e : LL) (f g : Int) (h : ByteArray) (i j : LL) (σ : Sto) : Option Res :=
 callK call 42 [(V.agg [V.int .i64 a, V.int .i64 b, V.str c, V.slice 3 44 d, V.slice 5 30 e], false), (V.agg [V.int .i64 f, V.int .i64 g, V.str h, V.slice 3 44 i, V.slice 5 30 j], false), (V.bool true, false)] σ 1 (fun k o =>
 some (.ret [((getD k 0 cellD).1, false)], o)) pnK
noncomputable def equalTerm (call : CallF) (n : Nat) (a b : Int) (c : ByteArray) (d e : LL) (f g : Int) (h : ByteArray) (i j : LL) (σ : Sto) : Option Res := equalTermF call a b c d e f g h i j σ
theorem equalTerm_eqF (call : CallF) (n : Nat) (a b : Int) (c : ByteArray) (d e : LL) (f g : Int) (h : ByteArray) (i j : LL) (σ : Sto) : afun C equalTermD call n [(V.agg [V.int .i64 a, V.int .i64 b, V.str c, V.slice 3 44 d, V.slice 5 30 e], false), (V.agg [V.int .i64 f, V.int .i64 g, V.str h, V.slice 3 44 i, V.slice 5 30 j], false)] σ =
  equalTermF call a b c d e f g h i j σ := by kernel_rfl
theorem equalTerm_eq (call : CallF) (n : Nat) (a b : Int) (c : ByteArray) (d e : LL) (f g : Int) (h : ByteArray) (i j : LL) (σ : Sto) : afun C equalTermD call n [(V.agg [V.int .i64 a, V.int .i64 b, V.str c, V.slice 3 44 d, V.slice 5 30 e], false), (V.agg [V.int .i64 f, V.int .i64 g, V.str h, V.slice 3 44 i, V.slice 5 30 j], false)] σ = equalTerm call n a b c d e f g h i j σ := equalTerm_eqF call n a b c d e f g h i j σ
theorem equalTerm_lim {n : Nat} {a : Int} {b : Int} {c : ByteArray} {e : LL} {f : LL} {g : Int} {i : Int} {j : ByteArray} {k : LL} {o : LL} {b0 b1 : Bool} {σ : Sto} {r : Res} (h : equalTerm (lim C) n a b c e f g i j k o σ = some r) : lim C 19 [(V.agg [V.int .i64 a, V.int .i64 b, V.str c, V.slice 3 44 e, V.slice 5 30 f], b0), (V.agg [V.int .i64 g, V.int .i64 i, V.str j, V.slice 3 44 k, V.slice 5 30 o], b1)] σ = some r :=
 lim_of (d := equalTermD) (by kernel_rfl) (by kernel_rfl) n (show afun C equalTermD (lim C) n [(V.agg [V.int .i64 a, V.int .i64 b, V.str c, V.slice 3 44 e, V.slice 5 30 f], false), (V.agg [V.int .i64 g, V.int .i64 i, V.str j, V.slice 3 44 k, V.slice 5 30 o], false)] σ = some r from (equalTerm_eq (lim C) n a b c e f g i j k o σ).trans h)
noncomputable def parseLevelF (call : CallF) (c : ByteArray) (σ : Sto) : Option Res :=
 bif (decide ((c.size : Int) > (20000 : Int))) then
 some (.ret [((V.agg [(V.int .i64 (0 : Int)), V.str ⟨#[]⟩, V.slice 3 44 []]), false), ((V.agg [(V.int .i64 (2 : Int)), (V.int .i64 (0 : Int))]), false)], σ)
 else
 callK call 47 [(V.ptr 65 (List.length σ) 0, false)] (σ ++ [[(V.str c, false), ((V.int .i64 (0 : Int)), false), ((V.int .i64 (0 : Int)), false), ((V.int .i64 (0 : Int)), false)]]) 1 (fun b e =>
 (grd (V.fits (getD b 0 cellD).1 true 3)).bind fun _ =>
 callK call 48 [(V.ptr 65 (List.length σ) 0, false)] e 1 (fun a d =>
 (grd (V.fits (getD a 0 cellD).1 true 2)).bind fun _ =>
 (V.asInt (V.cell (getD a 0 cellD).1 0) .i64).bind fun i7 =>
 bif (i7 != (0 : Int)) then
 some (.ret [((V.agg [(V.int .i64 (0 : Int)), V.str ⟨#[]⟩, V.slice 3 44 []]), false), (V.agg [V.cell (getD a 0 cellD).1 0, V.cell (getD a 0 cellD).1 1], false)], d)
 else
 some (.ret [(V.agg [V.cell (getD b 0 cellD).1 0, V.cell (getD b 0 cellD).1 1, V.cell (getD b 0 cellD).1 2], false), (V.agg [V.cell (getD a 0 cellD).1 0, V.cell (getD a 0 cellD).1 1], false)], d)) pnK) pnK
noncomputable def parseLevel (call : CallF) (n : Nat) (a : ByteArray) (σ : Sto) : Option Res := parseLevelF call a σ
theorem parseLevel_eqF (call : CallF) (n : Nat) (a : ByteArray) (σ : Sto) : afun C parseLevelD call n [(V.str a, false)] σ =
  parseLevelF call a σ := by kernel_rfl
theorem parseLevel_eq (call : CallF) (n : Nat) (a : ByteArray) (σ : Sto) : afun C parseLevelD call n [(V.str a, false)] σ = parseLevel call n a σ := parseLevel_eqF call n a σ
theorem parseLevel_lim {n : Nat} {a : ByteArray} {b0 : Bool} {σ : Sto} {r : Res} (h : parseLevel (lim C) n a σ = some r) : lim C 20 [(V.str a, b0)] σ = some r :=
 lim_of (d := parseLevelD) (by kernel_rfl) (by kernel_rfl) n (show afun C parseLevelD (lim C) n [(V.str a, false)] σ = some r from (parseLevel_eq (lim C) n a σ).trans h)
noncomputable def levelsFitk0 : List Nat := [1, 3]
noncomputable def levelsFitk1 : List Nat := [1, 5]
noncomputable def levelsFits1 (call : CallF) (rec1 : Int → Int → Int → ByteArray → LL → LL → RR) (a d e : Int) (f : ByteArray) (g b : LL) (σ : Sto) : Option Res :=
 bif (decide (a < (b.length : Int))) then
 (grd (decide (0 ≤ a) && decide (a < b.length))).bind fun _ =>
 callK call 21 [(V.agg [(getD (getD b a.toNat []) 0 V.any), (getD (getD b a.toNat []) 1 V.any), (getD (getD b a.toNat []) 2 V.any), (getD (getD b a.toNat []) 3 V.any), (getD (getD b a.toNat []) 4 V.any)], false)] σ 1 (fun h c =>
 (V.asBool (getD h 0 cellD).1).bind fun b4 =>
 bif (!b4) then
 some (.ret [(V.bool false, false)], c)
 else
 rec1 (wrap .i64 (a + (1 : Int))) d e f g b c) pnK
 else
 some (.ret [(V.bool true, false)], σ)
noncomputable def levelsFitl1 (call : CallF) (n : Nat) : Nat → Int → Int → Int → ByteArray → LL → LL → RR
 | 0 => fun _ _ _ _ _ _ _ => none
 | m + 1 => levelsFits1 call (levelsFitl1 call n m)
noncomputable def levelsFitt1 (a b c : Int) (d : ByteArray) (e f : LL) (σ : Sto) : St := ⟨[.dead, .lptr 1 0, .dead, .dead, .dead, .val (V.int .i64 a) false] ++ dd 31 [], [[], [(V.int .i64 b, false), (V.int .i64 c, false), (V.str d, false), (V.slice 3 44 e, false), (V.slice 5 30 f, false)]] ++ nn 35 [], σ⟩
noncomputable def levelsFits0 (call : CallF) (L1 rec0 : Int → Int → Int → ByteArray → LL → LL → RR) (a c d : Int) (e : ByteArray) (b f : LL) (σ : Sto) : Option Res :=
 bif (decide (a < (b.length : Int))) then
 (grd (decide (0 ≤ a) && decide (a < b.length))).bind fun _ =>
 callK call 49 [(V.agg [(getD (getD b a.toNat []) 0 V.any), (getD (getD b a.toNat []) 1 V.any), (getD (getD b a.toNat []) 2 V.any)], false), ((V.int .i64 (300 : Int)), false)] σ 1 (fun h g =>
 (V.asInt (getD h 0 cellD).1 .i64).bind fun i4 =>
 bif (decide (i4 > (300 : Int))) then
 some (.ret [(V.bool false, false)], g)
 else
 rec0 (wrap .i64 (a + (1 : Int))) c d e b f g) pnK
 else
 L1 (0 : Int) c d e b f σ
noncomputable def levelsFitl0 (call : CallF) (n : Nat) : Nat → Int → Int → Int → ByteArray → LL → LL → RR
 | 0 => fun _ _ _ _ _ _ _ => none
 | m + 1 => levelsFits0 call (levelsFitl1 call n n) (levelsFitl0 call n m)
noncomputable def levelsFitt0 (a b c : Int) (d : ByteArray) (e f : LL) (σ : Sto) : St := ⟨[.dead, .lptr 1 0, .dead, .val (V.int .i64 a) false] ++ dd 33 [], [[], [(V.int .i64 b, false), (V.int .i64 c, false), (V.str d, false), (V.slice 3 44 e, false), (V.slice 5 30 f, false)]] ++ nn 35 [], σ⟩
noncomputable def levelsFitF (call : CallF) (L0 : Int → Int → Int → ByteArray → LL → LL → RR) (a b : Int) (c : ByteArray) (d e : LL) (σ : Sto) : Option Res :=
 L0 (0 : Int) a b c d e σ
noncomputable def levelsFit (call : CallF) (n : Nat) (a b : Int) (c : ByteArray) (d e : LL) (σ : Sto) : Option Res := levelsFitF call (levelsFitl0 call n n) a b c d e σ
theorem levelsFits1_eq (call : CallF) (n : Nat) (F1 : St → Option Res) (a b c : Int) (d : ByteArray) (e f : LL) (σ : Sto) :
  aexec C levelsFitH call n (cp [0,0,1,0,1,1] levelsFitC) 0 (levelsFitt1 a b c d e f σ) (kloop levelsFitk1 F1 (kblk 2 (kseq (fun st' => aexec C levelsFitH call n (cp [1,1,1] levelsFitC) 0 st' (kfin C levelsFitD)) (kfin C levelsFitD)))) =
  levelsFits1 call (fun a b c d e f σ => F1 (levelsFitt1 a b c d e f σ)) a b c d e f σ := by kernel_rfl
theorem levelsFitl1_eq (call : CallF) (n : Nat) : ∀ (m : Nat) (a b c : Int) (d : ByteArray) (e f : LL) (σ : Sto),
  aloop (fun st K => aexec C levelsFitH call n (cp [0,0,1,0,1,1] levelsFitC) 0 st K) levelsFitk1 m (levelsFitt1 a b c d e f σ) (kblk 2 (kseq (fun st' => aexec C levelsFitH call n (cp [1,1,1] levelsFitC) 0 st' (kfin C levelsFitD)) (kfin C levelsFitD))) = levelsFitl1 call n m a b c d e f σ
 | 0, a, b, c, d, e, f, σ => rfl
 | m + 1, a, b, c, d, e, f, σ => by
  rw [aloop, levelsFits1_eq]
  simp only [levelsFitl1_eq call n m]
  rfl
theorem levelsFits0_eq (call : CallF) (n : Nat) (F0 : St → Option Res) (f a b : Int) (c : ByteArray) (d e : LL) (σ : Sto) :
  aexec C levelsFitH call n (cp [0,0,1,0,1] levelsFitC) 0 (levelsFitt0 f a b c d e σ) (kloop levelsFitk0 F0 (kblk 0 (kseq (fun st' => aexec C levelsFitH call n (codeR (codeR levelsFitC)) 0 st' (kfin C levelsFitD)) (kfin C levelsFitD)))) =
  levelsFits0 call (fun g a b c d e σ => aloop (fun st K => aexec C levelsFitH call n (cp [0,0,1,0,1,1] levelsFitC) 0 st K) levelsFitk1 n (levelsFitt1 g a b c d e σ) (kblk 2 (kseq (fun st' => aexec C levelsFitH call n (cp [1,1,1] levelsFitC) 0 st' (kfin C levelsFitD)) (kfin C levelsFitD)))) (fun f a b c d e σ => F0 (levelsFitt0 f a b c d e σ)) f a b c d e σ := by kernel_rfl
theorem levelsFitl0_eq (call : CallF) (n : Nat) : ∀ (m : Nat) (a b c : Int) (d : ByteArray) (e f : LL) (σ : Sto),
  aloop (fun st K => aexec C levelsFitH call n (cp [0,0,1,0,1] levelsFitC) 0 st K) levelsFitk0 m (levelsFitt0 a b c d e f σ) (kblk 0 (kseq (fun st' => aexec C levelsFitH call n (codeR (codeR levelsFitC)) 0 st' (kfin C levelsFitD)) (kfin C levelsFitD))) = levelsFitl0 call n m a b c d e f σ
 | 0, a, b, c, d, e, f, σ => rfl
 | m + 1, a, b, c, d, e, f, σ => by
  rw [aloop, levelsFits0_eq]
  simp only [levelsFitl0_eq call n m, levelsFitl1_eq]
  rfl
theorem levelsFit_eqF (call : CallF) (n : Nat) (a b : Int) (c : ByteArray) (d e : LL) (σ : Sto) : afun C levelsFitD call n [(V.agg [V.int .i64 a, V.int .i64 b, V.str c, V.slice 3 44 d, V.slice 5 30 e], false)] σ =
  levelsFitF call (fun f g h i j k σ => aloop (fun st K => aexec C levelsFitH call n (cp [0,0,1,0,1] levelsFitC) 0 st K) levelsFitk0 n (levelsFitt0 f g h i j k σ) (kblk 0 (kseq (fun st' => aexec C levelsFitH call n (codeR (codeR levelsFitC)) 0 st' (kfin C levelsFitD)) (kfin C levelsFitD)))) a b c d e σ := by kernel_rfl
theorem levelsFit_eq (call : CallF) (n : Nat) (a b : Int) (c : ByteArray) (d e : LL) (σ : Sto) : afun C levelsFitD call n [(V.agg [V.int .i64 a, V.int .i64 b, V.str c, V.slice 3 44 d, V.slice 5 30 e], false)] σ = levelsFit call n a b c d e σ := by
 rw [levelsFit_eqF]
 simp only [levelsFitl0_eq]
 rfl
theorem levelsFit_lim {n : Nat} {a : Int} {b : Int} {c : ByteArray} {e : LL} {f : LL} {b0 : Bool} {σ : Sto} {r : Res} (h : levelsFit (lim C) n a b c e f σ = some r) : lim C 21 [(V.agg [V.int .i64 a, V.int .i64 b, V.str c, V.slice 3 44 e, V.slice 5 30 f], b0)] σ = some r :=
 lim_of (d := levelsFitD) (by kernel_rfl) (by kernel_rfl) n (show afun C levelsFitD (lim C) n [(V.agg [V.int .i64 a, V.int .i64 b, V.str c, V.slice 3 44 e, V.slice 5 30 f], false)] σ = some r from (levelsFit_eq (lim C) n a b c e f σ).trans h)
noncomputable def tlevelsk0 : List Nat := [1, 2, 3, 6, 7, 20, 21, 22]
noncomputable def tlevelsk1 : List Nat := [1, 2, 6, 7, 37, 38, 39]
noncomputable def tlevelss1 (call : CallF) (rec1 : LL → LL → LL → Int → Int → Int → Int → ByteArray → LL → LL → Int → Int → ByteArray → LL → LL → RR) (e f b : LL) (g a o p : Int) (q : ByteArray) (r s : LL) (h i : Int) (j : ByteArray) (k d : LL) (σ : Sto) : Option Res :=
 bif (decide (a < g)) then
 (grd (decide (0 ≤ a) && decide (a < b.length))).bind fun _ =>
 callK call 22 [(V.agg [(getD (getD b a.toNat []) 0 V.any), (getD (getD b a.toNat []) 1 V.any), (getD (getD b a.toNat []) 2 V.any), (getD (getD b a.toNat []) 3 V.any), (getD (getD b a.toNat []) 4 V.any)], false), (V.slice 1 9 e, false), (V.slice 3 44 f, false)] σ 1 (fun c t =>
 (grd ((V.fits (getD c 0 cellD).1 true 5 && true))).bind fun _ =>
 (grd (room (List.length d + 1))).bind fun _ =>
 rec1 e f b g (wrap .i64 (a + (1 : Int))) o p q r s h i j k (d ++ [[V.cell (getD c 0 cellD).1 0, V.cell (getD c 0 cellD).1 1, V.cell (getD c 0 cellD).1 2, V.cell (getD c 0 cellD).1 3, V.cell (getD c 0 cellD).1 4]]) t) pnK
 else
 some (.ret [(V.agg [V.int .i64 h, V.int .i64 i, V.str j, V.slice 3 44 k, V.slice 5 30 d], false)], σ)
noncomputable def tlevelsl1 (call : CallF) (n : Nat) : Nat → LL → LL → LL → Int → Int → Int → Int → ByteArray → LL → LL → Int → Int → ByteArray → LL → LL → RR
 | 0 => fun _ _ _ _ _ _ _ _ _ _ _ _ _ _ _ _ => none
 | m + 1 => tlevelss1 call (tlevelsl1 call n m)
noncomputable def tlevelst1 (a b c : LL) (d e f g : Int) (h : ByteArray) (i j : LL) (k o : Int) (p : ByteArray) (q r : LL) (σ : Sto) : St := ⟨[.dead, .val (V.slice 1 9 a) false, .val (V.slice 3 44 b) false, .dead, .dead, .dead, .lptr 6 0, .lptr 7 0] ++ dd 29 ([.val (V.slice 5 30 c) false, .val (V.int .i64 d) false, .val (V.int .i64 e) false] ++ dd 14 []), nn 6 ([[(V.int .i64 f, false), (V.int .i64 g, false), (V.str h, false), (V.slice 3 44 i, true), (V.slice 5 30 j, true)], [(V.int .i64 k, false), (V.int .i64 o, false), (V.str p, false), (V.slice 3 44 q, true), (V.slice 5 30 r, true)]] ++ nn 46 []), σ⟩
noncomputable def tlevelss0 (call : CallF) (L1 : LL → LL → LL → Int → Int → Int → Int → ByteArray → LL → LL → Int → Int → ByteArray → LL → LL → RR) (rec0 : LL → LL → LL → Int → Int → Int → Int → ByteArray → LL → LL → Int → Int → ByteArray → LL → LL → Int → Int → ByteArray → LL → LL → RR) (d e b : LL) (h a u v : Int) (w : ByteArray) (x f : LL) (i j : Int) (k : ByteArray) (o p : LL) (q r : Int) (s : ByteArray) (g t : LL) (σ : Sto) : Option Res :=
 bif (decide (a < h)) then
 (grd (decide (0 ≤ a) && decide (a < b.length))).bind fun _ =>
 callK call 50 [(V.agg [(getD (getD b a.toNat []) 0 V.any), (getD (getD b a.toNat []) 1 V.any), (getD (getD b a.toNat []) 2 V.any)], false), (V.slice 1 9 d, false), (V.slice 3 44 e, false)] σ 1 (fun c y =>
 (grd ((V.fits (getD c 0 cellD).1 true 3 && true))).bind fun _ =>
 (grd (room (List.length g + 1))).bind fun _ =>
 rec0 d e b h (wrap .i64 (a + (1 : Int))) u v w x f i j k o p q r s (g ++ [[V.cell (getD c 0 cellD).1 0, V.cell (getD c 0 cellD).1 1, V.cell (getD c 0 cellD).1 2]]) t y) pnK
 else
 L1 d e f (f.length : Int) (0 : Int) i j k o p q r s g t σ
noncomputable def tlevelsl0 (call : CallF) (n : Nat) : Nat → LL → LL → LL → Int → Int → Int → Int → ByteArray → LL → LL → Int → Int → ByteArray → LL → LL → Int → Int → ByteArray → LL → LL → RR
 | 0 => fun _ _ _ _ _ _ _ _ _ _ _ _ _ _ _ _ _ _ _ _ _ => none
 | m + 1 => tlevelss0 call (tlevelsl1 call n n) (tlevelsl0 call n m)
noncomputable def tlevelst0 (a b c : LL) (d e f g : Int) (h : ByteArray) (i j : LL) (k o : Int) (p : ByteArray) (q r : LL) (s t : Int) (u : ByteArray) (v w : LL) (σ : Sto) : St := ⟨[.dead, .val (V.slice 1 9 a) false, .val (V.slice 3 44 b) false, .lptr 3 0, .dead, .dead, .lptr 6 0, .lptr 7 0] ++ dd 12 ([.val (V.slice 3 44 c) false, .val (V.int .i64 d) false, .val (V.int .i64 e) false] ++ dd 31 []), [[], [], [], [(V.int .i64 f, false), (V.int .i64 g, false), (V.str h, false), (V.slice 3 44 i, false), (V.slice 5 30 j, false)], [], [], [(V.int .i64 k, false), (V.int .i64 o, false), (V.str p, false), (V.slice 3 44 q, true), (V.slice 5 30 r, true)], [(V.int .i64 s, false), (V.int .i64 t, false), (V.str u, false), (V.slice 3 44 v, true), (V.slice 5 30 w, true)]] ++ nn 46 [], σ⟩
noncomputable def tlevelsF (call : CallF) (L0 : LL → LL → LL → Int → Int → Int → Int → ByteArray → LL → LL → Int → Int → ByteArray → LL → LL → Int → Int → ByteArray → LL → LL → RR) (b c : Int) (d : ByteArray) (a e f g : LL) (σ : Sto) : Option Res :=
 bif ((f.length : Int) == (0 : Int)) then
 some (.ret [(V.agg [V.int .i64 b, V.int .i64 c, V.str d, V.slice 3 44 a, V.slice 5 30 e], false)], σ)
 else
 L0 f g a (a.length : Int) (0 : Int) b c d a e (0 : Int) (0 : Int) (ByteArray.mk #[]) [] [] b c d [] [] σ
noncomputable def tlevels (call : CallF) (n : Nat) (a b : Int) (c : ByteArray) (d e f g : LL) (σ : Sto) : Option Res := tlevelsF call (tlevelsl0 call n n) a b c d e f g σ
theorem tlevelss1_eq (call : CallF) (n : Nat) (F1 : St → Option Res) (a b c : LL) (d e f g : Int) (h : ByteArray) (i j : LL) (k o : Int) (p : ByteArray) (q r : LL) (σ : Sto) :
  aexec C tlevelsH call n (cp [0,0,1,0,1,1,1,1,1] tlevelsC) 0 (tlevelst1 a b c d e f g h i j k o p q r σ) (kloop tlevelsk1 F1 (kblk 2 (kseq (fun st' => aexec C tlevelsH call n (cp [1,1,1,1,1,1] tlevelsC) 0 st' (kfin C tlevelsD)) (kfin C tlevelsD)))) =
  tlevelss1 call (fun a b c d e f g h i j k o p q r σ => F1 (tlevelst1 a b c d e f g h i j k o p q r σ)) a b c d e f g h i j k o p q r σ := by kernel_rfl
theorem tlevelsl1_eq (call : CallF) (n : Nat) : ∀ (m : Nat) (a b c : LL) (d e f g : Int) (h : ByteArray) (i j : LL) (k o : Int) (p : ByteArray) (q r : LL) (σ : Sto),
  aloop (fun st K => aexec C tlevelsH call n (cp [0,0,1,0,1,1,1,1,1] tlevelsC) 0 st K) tlevelsk1 m (tlevelst1 a b c d e f g h i j k o p q r σ) (kblk 2 (kseq (fun st' => aexec C tlevelsH call n (cp [1,1,1,1,1,1] tlevelsC) 0 st' (kfin C tlevelsD)) (kfin C tlevelsD))) = tlevelsl1 call n m a b c d e f g h i j k o p q r σ
 | 0, a, b, c, d, e, f, g, h, i, j, k, o, p, q, r, σ => rfl
 | m + 1, a, b, c, d, e, f, g, h, i, j, k, o, p, q, r, σ => by
  rw [aloop, tlevelss1_eq]
  simp only [tlevelsl1_eq call n m]
  rfl
theorem tlevelss0_eq (call : CallF) (n : Nat) (F0 : St → Option Res) (a b p : LL) (q r s t : Int) (u : ByteArray) (v w : LL) (c d : Int) (e : ByteArray) (f g : LL) (h i : Int) (j : ByteArray) (k o : LL) (σ : Sto) :
  aexec C tlevelsH call n (cp [0,0,1,0,1,1,1,1] tlevelsC) 0 (tlevelst0 a b p q r s t u v w c d e f g h i j k o σ) (kloop tlevelsk0 F0 (kblk 0 (kseq (fun st' => aexec C tlevelsH call n (cp [1,1,1,1,1] tlevelsC) 0 st' (kfin C tlevelsD)) (kfin C tlevelsD)))) =
  tlevelss0 call (fun a b x y z c d e f g h i j k o σ => aloop (fun st K => aexec C tlevelsH call n (cp [0,0,1,0,1,1,1,1,1] tlevelsC) 0 st K) tlevelsk1 n (tlevelst1 a b x y z c d e f g h i j k o σ) (kblk 2 (kseq (fun st' => aexec C tlevelsH call n (cp [1,1,1,1,1,1] tlevelsC) 0 st' (kfin C tlevelsD)) (kfin C tlevelsD)))) (fun a b p q r s t u v w c d e f g h i j k o σ => F0 (tlevelst0 a b p q r s t u v w c d e f g h i j k o σ)) a b p q r s t u v w c d e f g h i j k o σ := by kernel_rfl
theorem tlevelsl0_eq (call : CallF) (n : Nat) : ∀ (m : Nat) (a b c : LL) (d e f g : Int) (h : ByteArray) (i j : LL) (k o : Int) (p : ByteArray) (q r : LL) (s t : Int) (u : ByteArray) (v w : LL) (σ : Sto),
  aloop (fun st K => aexec C tlevelsH call n (cp [0,0,1,0,1,1,1,1] tlevelsC) 0 st K) tlevelsk0 m (tlevelst0 a b c d e f g h i j k o p q r s t u v w σ) (kblk 0 (kseq (fun st' => aexec C tlevelsH call n (cp [1,1,1,1,1] tlevelsC) 0 st' (kfin C tlevelsD)) (kfin C tlevelsD))) = tlevelsl0 call n m a b c d e f g h i j k o p q r s t u v w σ
 | 0, a, b, c, d, e, f, g, h, i, j, k, o, p, q, r, s, t, u, v, w, σ => rfl
 | m + 1, a, b, c, d, e, f, g, h, i, j, k, o, p, q, r, s, t, u, v, w, σ => by
  rw [aloop, tlevelss0_eq]
  simp only [tlevelsl0_eq call n m, tlevelsl1_eq]
  rfl
theorem tlevels_eqF (call : CallF) (n : Nat) (c d : Int) (e : ByteArray) (f g a b : LL) (σ : Sto) : afun C tlevelsD call n [(V.agg [V.int .i64 c, V.int .i64 d, V.str e, V.slice 3 44 f, V.slice 5 30 g], false), (V.slice 1 9 a, false), (V.slice 3 44 b, false)] σ =
  tlevelsF call (fun a b h i j k o p q r s t u v w x y z a0 a1 σ => aloop (fun st K => aexec C tlevelsH call n (cp [0,0,1,0,1,1,1,1] tlevelsC) 0 st K) tlevelsk0 n (tlevelst0 a b h i j k o p q r s t u v w x y z a0 a1 σ) (kblk 0 (kseq (fun st' => aexec C tlevelsH call n (cp [1,1,1,1,1] tlevelsC) 0 st' (kfin C tlevelsD)) (kfin C tlevelsD)))) c d e f g a b σ := by kernel_rfl
theorem tlevels_eq (call : CallF) (n : Nat) (a b : Int) (c : ByteArray) (d e f g : LL) (σ : Sto) : afun C tlevelsD call n [(V.agg [V.int .i64 a, V.int .i64 b, V.str c, V.slice 3 44 d, V.slice 5 30 e], false), (V.slice 1 9 f, false), (V.slice 3 44 g, false)] σ = tlevels call n a b c d e f g σ := by
 rw [tlevels_eqF]
 simp only [tlevelsl0_eq]
 rfl
theorem tlevels_lim {n : Nat} {a : Int} {b : Int} {c : ByteArray} {e : LL} {f : LL} {g : LL} {i : LL} {b0 b1 b2 : Bool} {σ : Sto} {r : Res} (h : tlevels (lim C) n a b c e f g i σ = some r) : lim C 22 [(V.agg [V.int .i64 a, V.int .i64 b, V.str c, V.slice 3 44 e, V.slice 5 30 f], b0), (V.slice 1 9 g, b1), (V.slice 3 44 i, b2)] σ = some r :=
 lim_of (d := tlevelsD) (by kernel_rfl) (by kernel_rfl) n (show afun C tlevelsD (lim C) n [(V.agg [V.int .i64 a, V.int .i64 b, V.str c, V.slice 3 44 e, V.slice 5 30 f], false), (V.slice 1 9 g, false), (V.slice 3 44 i, false)] σ = some r from (tlevels_eq (lim C) n a b c e f g i σ).trans h)
noncomputable def rlevelsk0 : List Nat := [1, 2, 3, 6, 7, 8]
noncomputable def rlevelsk1 : List Nat := [1, 2, 3, 6, 7, 9]
noncomputable def rlevelss1 (call : CallF) (rec1 : LL → LL → Int → Int → Int → ByteArray → LL → LL → Int → Int → ByteArray → LL → LL → Int → Int → ByteArray → LL → LL → RR) (e f : LL) (a k o : Int) (p : ByteArray) (q b : LL) (r s : Int) (t : ByteArray) (u v : LL) (g h : Int) (i : ByteArray) (j d : LL) (σ : Sto) : Option Res :=
 bif (decide (a < (b.length : Int))) then
 (grd (decide (0 ≤ a) && decide (a < b.length))).bind fun _ =>
 callK call 23 [(V.agg [(getD (getD b a.toNat []) 0 V.any), (getD (getD b a.toNat []) 1 V.any), (getD (getD b a.toNat []) 2 V.any), (getD (getD b a.toNat []) 3 V.any), (getD (getD b a.toNat []) 4 V.any)], false), (V.slice 1 9 e, false), (V.slice 3 44 f, false)] σ 1 (fun c w =>
 (grd ((V.fits (getD c 0 cellD).1 true 5 && true))).bind fun _ =>
 (grd (room (List.length d + 1))).bind fun _ =>
 rec1 e f (wrap .i64 (a + (1 : Int))) k o p q b r s t u v g h i j (d ++ [[V.cell (getD c 0 cellD).1 0, V.cell (getD c 0 cellD).1 1, V.cell (getD c 0 cellD).1 2, V.cell (getD c 0 cellD).1 3, V.cell (getD c 0 cellD).1 4]]) w) pnK
 else
 some (.ret [(V.agg [V.int .i64 g, V.int .i64 h, V.str i, V.slice 3 44 j, V.slice 5 30 d], false)], σ)
noncomputable def rlevelsl1 (call : CallF) (n : Nat) : Nat → LL → LL → Int → Int → Int → ByteArray → LL → LL → Int → Int → ByteArray → LL → LL → Int → Int → ByteArray → LL → LL → RR
 | 0 => fun _ _ _ _ _ _ _ _ _ _ _ _ _ _ _ _ _ _ _ => none
 | m + 1 => rlevelss1 call (rlevelsl1 call n m)
noncomputable def rlevelst1 (a b : LL) (c d e : Int) (f : ByteArray) (g h : LL) (i j : Int) (k : ByteArray) (o p : LL) (q r : Int) (s : ByteArray) (t u : LL) (σ : Sto) : St := ⟨[.dead, .val (V.slice 1 9 a) false, .val (V.slice 3 44 b) false, .lptr 3 0, .dead, .dead, .lptr 6 0, .lptr 7 0, .dead, .val (V.int .i64 c) false] ++ dd 48 [], [[], [], [], [(V.int .i64 d, false), (V.int .i64 e, false), (V.str f, false), (V.slice 3 44 g, false), (V.slice 5 30 h, false)], [], [], [(V.int .i64 i, false), (V.int .i64 j, false), (V.str k, false), (V.slice 3 44 o, true), (V.slice 5 30 p, true)], [(V.int .i64 q, false), (V.int .i64 r, false), (V.str s, false), (V.slice 3 44 t, true), (V.slice 5 30 u, true)]] ++ nn 50 [], σ⟩
noncomputable def rlevelss0 (call : CallF) (L1 rec0 : LL → LL → Int → Int → Int → ByteArray → LL → LL → Int → Int → ByteArray → LL → LL → Int → Int → ByteArray → LL → LL → RR) (d e : LL) (a g h : Int) (i : ByteArray) (b j : LL) (k o : Int) (p : ByteArray) (q r : LL) (s t : Int) (u : ByteArray) (f v : LL) (σ : Sto) : Option Res :=
 bif (decide (a < (b.length : Int))) then
 (grd (decide (0 ≤ a) && decide (a < b.length))).bind fun _ =>
 callK call 51 [(V.agg [(getD (getD b a.toNat []) 0 V.any), (getD (getD b a.toNat []) 1 V.any), (getD (getD b a.toNat []) 2 V.any)], false), (V.slice 1 9 d, false), (V.slice 3 44 e, false)] σ 1 (fun c w =>
 (grd ((V.fits (getD c 0 cellD).1 true 3 && true))).bind fun _ =>
 (grd (room (List.length f + 1))).bind fun _ =>
 rec0 d e (wrap .i64 (a + (1 : Int))) g h i b j k o p q r s t u (f ++ [[V.cell (getD c 0 cellD).1 0, V.cell (getD c 0 cellD).1 1, V.cell (getD c 0 cellD).1 2]]) v w) pnK
 else
 L1 d e (0 : Int) g h i b j k o p q r s t u f v σ
noncomputable def rlevelsl0 (call : CallF) (n : Nat) : Nat → LL → LL → Int → Int → Int → ByteArray → LL → LL → Int → Int → ByteArray → LL → LL → Int → Int → ByteArray → LL → LL → RR
 | 0 => fun _ _ _ _ _ _ _ _ _ _ _ _ _ _ _ _ _ _ _ => none
 | m + 1 => rlevelss0 call (rlevelsl1 call n n) (rlevelsl0 call n m)
noncomputable def rlevelst0 (a b : LL) (c d e : Int) (f : ByteArray) (g h : LL) (i j : Int) (k : ByteArray) (o p : LL) (q r : Int) (s : ByteArray) (t u : LL) (σ : Sto) : St := ⟨[.dead, .val (V.slice 1 9 a) false, .val (V.slice 3 44 b) false, .lptr 3 0, .dead, .dead, .lptr 6 0, .lptr 7 0, .val (V.int .i64 c) false] ++ dd 49 [], [[], [], [], [(V.int .i64 d, false), (V.int .i64 e, false), (V.str f, false), (V.slice 3 44 g, false), (V.slice 5 30 h, false)], [], [], [(V.int .i64 i, false), (V.int .i64 j, false), (V.str k, false), (V.slice 3 44 o, true), (V.slice 5 30 p, true)], [(V.int .i64 q, false), (V.int .i64 r, false), (V.str s, false), (V.slice 3 44 t, true), (V.slice 5 30 u, true)]] ++ nn 50 [], σ⟩
noncomputable def rlevelsF (call : CallF) (L0 : LL → LL → Int → Int → Int → ByteArray → LL → LL → Int → Int → ByteArray → LL → LL → Int → Int → ByteArray → LL → LL → RR) (a b : Int) (c : ByteArray) (d e f g : LL) (σ : Sto) : Option Res :=
 L0 f g (0 : Int) a b c d e (0 : Int) (0 : Int) (ByteArray.mk #[]) [] [] a b c [] [] σ
noncomputable def rlevels (call : CallF) (n : Nat) (a b : Int) (c : ByteArray) (d e f g : LL) (σ : Sto) : Option Res := rlevelsF call (rlevelsl0 call n n) a b c d e f g σ
theorem rlevelss1_eq (call : CallF) (n : Nat) (F1 : St → Option Res) (a b : LL) (c d e : Int) (f : ByteArray) (g h : LL) (i j : Int) (k : ByteArray) (o p : LL) (q r : Int) (s : ByteArray) (t u : LL) (σ : Sto) :
  aexec C rlevelsH call n (cp [0,0,1,0,1,1,1] rlevelsC) 0 (rlevelst1 a b c d e f g h i j k o p q r s t u σ) (kloop rlevelsk1 F1 (kblk 2 (kseq (fun st' => aexec C rlevelsH call n (cp [1,1,1,1] rlevelsC) 0 st' (kfin C rlevelsD)) (kfin C rlevelsD)))) =
  rlevelss1 call (fun a b c d e f g h i j k o p q r s t u σ => F1 (rlevelst1 a b c d e f g h i j k o p q r s t u σ)) a b c d e f g h i j k o p q r s t u σ := by kernel_rfl
theorem rlevelsl1_eq (call : CallF) (n : Nat) : ∀ (m : Nat) (a b : LL) (c d e : Int) (f : ByteArray) (g h : LL) (i j : Int) (k : ByteArray) (o p : LL) (q r : Int) (s : ByteArray) (t u : LL) (σ : Sto),
  aloop (fun st K => aexec C rlevelsH call n (cp [0,0,1,0,1,1,1] rlevelsC) 0 st K) rlevelsk1 m (rlevelst1 a b c d e f g h i j k o p q r s t u σ) (kblk 2 (kseq (fun st' => aexec C rlevelsH call n (cp [1,1,1,1] rlevelsC) 0 st' (kfin C rlevelsD)) (kfin C rlevelsD))) = rlevelsl1 call n m a b c d e f g h i j k o p q r s t u σ
 | 0, a, b, c, d, e, f, g, h, i, j, k, o, p, q, r, s, t, u, σ => rfl
 | m + 1, a, b, c, d, e, f, g, h, i, j, k, o, p, q, r, s, t, u, σ => by
  rw [aloop, rlevelss1_eq]
  simp only [rlevelsl1_eq call n m]
  rfl
theorem rlevelss0_eq (call : CallF) (n : Nat) (F0 : St → Option Res) (a b : LL) (u c d : Int) (e : ByteArray) (f g : LL) (h i : Int) (j : ByteArray) (k o : LL) (p q : Int) (r : ByteArray) (s t : LL) (σ : Sto) :
  aexec C rlevelsH call n (cp [0,0,1,0,1,1] rlevelsC) 0 (rlevelst0 a b u c d e f g h i j k o p q r s t σ) (kloop rlevelsk0 F0 (kblk 0 (kseq (fun st' => aexec C rlevelsH call n (cp [1,1,1] rlevelsC) 0 st' (kfin C rlevelsD)) (kfin C rlevelsD)))) =
  rlevelss0 call (fun a b v c d e f g h i j k o p q r s t σ => aloop (fun st K => aexec C rlevelsH call n (cp [0,0,1,0,1,1,1] rlevelsC) 0 st K) rlevelsk1 n (rlevelst1 a b v c d e f g h i j k o p q r s t σ) (kblk 2 (kseq (fun st' => aexec C rlevelsH call n (cp [1,1,1,1] rlevelsC) 0 st' (kfin C rlevelsD)) (kfin C rlevelsD)))) (fun a b u c d e f g h i j k o p q r s t σ => F0 (rlevelst0 a b u c d e f g h i j k o p q r s t σ)) a b u c d e f g h i j k o p q r s t σ := by kernel_rfl
theorem rlevelsl0_eq (call : CallF) (n : Nat) : ∀ (m : Nat) (a b : LL) (c d e : Int) (f : ByteArray) (g h : LL) (i j : Int) (k : ByteArray) (o p : LL) (q r : Int) (s : ByteArray) (t u : LL) (σ : Sto),
  aloop (fun st K => aexec C rlevelsH call n (cp [0,0,1,0,1,1] rlevelsC) 0 st K) rlevelsk0 m (rlevelst0 a b c d e f g h i j k o p q r s t u σ) (kblk 0 (kseq (fun st' => aexec C rlevelsH call n (cp [1,1,1] rlevelsC) 0 st' (kfin C rlevelsD)) (kfin C rlevelsD))) = rlevelsl0 call n m a b c d e f g h i j k o p q r s t u σ
 | 0, a, b, c, d, e, f, g, h, i, j, k, o, p, q, r, s, t, u, σ => rfl
 | m + 1, a, b, c, d, e, f, g, h, i, j, k, o, p, q, r, s, t, u, σ => by
  rw [aloop, rlevelss0_eq]
  simp only [rlevelsl0_eq call n m, rlevelsl1_eq]
  rfl
theorem rlevels_eqF (call : CallF) (n : Nat) (c d : Int) (e : ByteArray) (f g a b : LL) (σ : Sto) : afun C rlevelsD call n [(V.agg [V.int .i64 c, V.int .i64 d, V.str e, V.slice 3 44 f, V.slice 5 30 g], false), (V.slice 1 9 a, false), (V.slice 3 44 b, false)] σ =
  rlevelsF call (fun a b h i j k o p q r s t u v w x y z σ => aloop (fun st K => aexec C rlevelsH call n (cp [0,0,1,0,1,1] rlevelsC) 0 st K) rlevelsk0 n (rlevelst0 a b h i j k o p q r s t u v w x y z σ) (kblk 0 (kseq (fun st' => aexec C rlevelsH call n (cp [1,1,1] rlevelsC) 0 st' (kfin C rlevelsD)) (kfin C rlevelsD)))) c d e f g a b σ := by kernel_rfl
theorem rlevels_eq (call : CallF) (n : Nat) (a b : Int) (c : ByteArray) (d e f g : LL) (σ : Sto) : afun C rlevelsD call n [(V.agg [V.int .i64 a, V.int .i64 b, V.str c, V.slice 3 44 d, V.slice 5 30 e], false), (V.slice 1 9 f, false), (V.slice 3 44 g, false)] σ = rlevels call n a b c d e f g σ := by
 rw [rlevels_eqF]
 simp only [rlevelsl0_eq]
 rfl
theorem rlevels_lim {n : Nat} {a : Int} {b : Int} {c : ByteArray} {e : LL} {f : LL} {g : LL} {i : LL} {b0 b1 b2 : Bool} {σ : Sto} {r : Res} (h : rlevels (lim C) n a b c e f g i σ = some r) : lim C 23 [(V.agg [V.int .i64 a, V.int .i64 b, V.str c, V.slice 3 44 e, V.slice 5 30 f], b0), (V.slice 1 9 g, b1), (V.slice 3 44 i, b2)] σ = some r :=
 lim_of (d := rlevelsD) (by kernel_rfl) (by kernel_rfl) n (show afun C rlevelsD (lim C) n [(V.agg [V.int .i64 a, V.int .i64 b, V.str c, V.slice 3 44 e, V.slice 5 30 f], false), (V.slice 1 9 g, false), (V.slice 3 44 i, false)] σ = some r from (rlevels_eq (lim C) n a b c e f g i σ).trans h)
end Go.Ab.Mk
end
section
set_option maxRecDepth 100000
namespace Go.Ab.Mk
open Go.Proofs Go.Ab
open List (getD)
open IntKind (wrap)
noncomputable def rspinek0 : List Nat := [1, 2, 4]
noncomputable def rspinek1 : List Nat := [1, 2, 4, 5, 6]
noncomputable def rspines1 (call : CallF) (rec1 : LL → LL → Int → V → V → V → V → V → Int → Int → ByteArray → LL → LL → RR) (b c : LL) (a : Int) (d e f g h : V) (i j : Int) (k : ByteArray) (o p : LL) (σ : Sto) : Option Res :=
 bif (decide (a ≥ (0 : Int))) then
 (grd (decide (0 ≤ a) && decide (a < b.length))).bind fun _ =>
 (grd (room (List.length c + 1))).bind fun _ =>
 rec1 b (c ++ [[(getD (getD b a.toNat []) 0 V.any), (getD (getD b a.toNat []) 1 V.any), (getD (getD b a.toNat []) 2 V.any), (getD (getD b a.toNat []) 3 V.any), (getD (getD b a.toNat []) 4 V.any)]]) (wrap .i64 (a - (1 : Int))) d e f g h i j k o p σ
 else
 some (.ret [(V.agg [d, e, f, g, h], false), (V.slice 5 30 c, false)], σ)
noncomputable def rspinel1 (call : CallF) (n : Nat) : Nat → LL → LL → Int → V → V → V → V → V → Int → Int → ByteArray → LL → LL → RR
 | 0 => fun _ _ _ _ _ _ _ _ _ _ _ _ _ _ => none
 | m + 1 => rspines1 call (rspinel1 call n m)
noncomputable def rspinet1 (a b : LL) (c : Int) (d e f g h : V) (i j : Int) (k : ByteArray) (o p : LL) (σ : Sto) : St := ⟨[.dead, .lptr 1 0, .lptr 2 0, .dead, .val (V.slice 5 30 a) true, .val (V.slice 5 30 b) true, .val (V.int .i64 c) false] ++ dd 30 [], [[], [(d, false), (e, false), (f, false), (g, false), (h, false)], [(V.int .i64 i, false), (V.int .i64 j, false), (V.str k, false), (V.slice 3 44 o, true), (V.slice 5 30 p, true)]] ++ nn 34 [], σ⟩
noncomputable def rspines0 (call : CallF) (L1 : LL → LL → Int → V → V → V → V → V → Int → Int → ByteArray → LL → LL → RR) (rec0 : LL → V → V → V → V → V → Int → Int → ByteArray → LL → LL → RR) (a : LL) (c i j k b : V) (d e : Int) (f : ByteArray) (g h : LL) (σ : Sto) : Option Res :=
 (V.asInt c .i64).bind fun i1 =>
 bif (i1 == (3 : Int)) then
 (V.asSlice b 5 30).bind fun l2 =>
 (grd (decide (0 ≤ (1 : Int)) && decide ((1 : Int) < l2.length))).bind fun _ =>
 (grd (room (List.length a + 1))).bind fun _ =>
 (V.asSlice b 5 30).bind fun l3 =>
 (grd (decide (0 ≤ (0 : Int)) && decide ((0 : Int) < l3.length))).bind fun _ =>
 rec0 (a ++ [[(getD (getD l2 (Int.toNat (1 : Int)) []) 0 V.any), (getD (getD l2 (Int.toNat (1 : Int)) []) 1 V.any), (getD (getD l2 (Int.toNat (1 : Int)) []) 2 V.any), (getD (getD l2 (Int.toNat (1 : Int)) []) 3 V.any), (getD (getD l2 (Int.toNat (1 : Int)) []) 4 V.any)]]) (getD (getD l3 (Int.toNat (0 : Int)) []) 0 V.any) (getD (getD l3 (Int.toNat (0 : Int)) []) 1 V.any) (getD (getD l3 (Int.toNat (0 : Int)) []) 2 V.any) (getD (getD l3 (Int.toNat (0 : Int)) []) 3 V.any) (getD (getD l3 (Int.toNat (0 : Int)) []) 4 V.any) d e f g h σ
 else
 L1 a [] (wrap .i64 ((a.length : Int) - (1 : Int))) c i j k b d e f g h σ
noncomputable def rspinel0 (call : CallF) (n : Nat) : Nat → LL → V → V → V → V → V → Int → Int → ByteArray → LL → LL → RR
 | 0 => fun _ _ _ _ _ _ _ _ _ _ _ _ => none
 | m + 1 => rspines0 call (rspinel1 call n n) (rspinel0 call n m)
noncomputable def rspinet0 (a : LL) (b c d e f : V) (g h : Int) (i : ByteArray) (j k : LL) (σ : Sto) : St := ⟨[.dead, .lptr 1 0, .lptr 2 0, .dead, .val (V.slice 5 30 a) true] ++ dd 32 [], [[], [(b, false), (c, false), (d, false), (e, false), (f, false)], [(V.int .i64 g, false), (V.int .i64 h, false), (V.str i, false), (V.slice 3 44 j, true), (V.slice 5 30 k, true)]] ++ nn 34 [], σ⟩
noncomputable def rspineF (call : CallF) (L0 : LL → V → V → V → V → V → Int → Int → ByteArray → LL → LL → RR) (a b : Int) (c : ByteArray) (d e : LL) (σ : Sto) : Option Res :=
 L0 [] (V.int .i64 a) (V.int .i64 b) (V.str c) (V.slice 3 44 d) (V.slice 5 30 e) (0 : Int) (0 : Int) (ByteArray.mk #[]) [] [] σ
noncomputable def rspine (call : CallF) (n : Nat) (a b : Int) (c : ByteArray) (d e : LL) (σ : Sto) : Option Res := rspineF call (rspinel0 call n n) a b c d e σ
theorem rspines1_eq (call : CallF) (n : Nat) (F1 : St → Option Res) (a b : LL) (c : Int) (d e f g h : V) (i j : Int) (k : ByteArray) (o p : LL) (σ : Sto) :
  aexec C rspineH call n (cp [0,0,1,0,1,1,1,1] rspineC) 0 (rspinet1 a b c d e f g h i j k o p σ) (kloop rspinek1 F1 (kblk 2 (kseq (fun st' => aexec C rspineH call n (cp [1,1,1,1,1] rspineC) 0 st' (kfin C rspineD)) (kfin C rspineD)))) =
  rspines1 call (fun a b c d e f g h i j k o p σ => F1 (rspinet1 a b c d e f g h i j k o p σ)) a b c d e f g h i j k o p σ := by kernel_rfl
theorem rspinel1_eq (call : CallF) (n : Nat) : ∀ (m : Nat) (a b : LL) (c : Int) (d e f g h : V) (i j : Int) (k : ByteArray) (o p : LL) (σ : Sto),
  aloop (fun st K => aexec C rspineH call n (cp [0,0,1,0,1,1,1,1] rspineC) 0 st K) rspinek1 m (rspinet1 a b c d e f g h i j k o p σ) (kblk 2 (kseq (fun st' => aexec C rspineH call n (cp [1,1,1,1,1] rspineC) 0 st' (kfin C rspineD)) (kfin C rspineD))) = rspinel1 call n m a b c d e f g h i j k o p σ
 | 0, a, b, c, d, e, f, g, h, i, j, k, o, p, σ => rfl
 | m + 1, a, b, c, d, e, f, g, h, i, j, k, o, p, σ => by
  rw [aloop, rspines1_eq]
  simp only [rspinel1_eq call n m]
  rfl
theorem rspines0_eq (call : CallF) (n : Nat) (F0 : St → Option Res) (a : LL) (b c d e f : V) (g h : Int) (i : ByteArray) (j k : LL) (σ : Sto) :
  aexec C rspineH call n (cp [0,0,0,1,1] rspineC) 0 (rspinet0 a b c d e f g h i j k σ) (kloop rspinek0 F0 (kblk 0 (kseq (fun st' => aexec C rspineH call n (cp [1,1,1] rspineC) 0 st' (kfin C rspineD)) (kfin C rspineD)))) =
  rspines0 call (fun a o p b c d e f g h i j k σ => aloop (fun st K => aexec C rspineH call n (cp [0,0,1,0,1,1,1,1] rspineC) 0 st K) rspinek1 n (rspinet1 a o p b c d e f g h i j k σ) (kblk 2 (kseq (fun st' => aexec C rspineH call n (cp [1,1,1,1,1] rspineC) 0 st' (kfin C rspineD)) (kfin C rspineD)))) (fun a b c d e f g h i j k σ => F0 (rspinet0 a b c d e f g h i j k σ)) a b c d e f g h i j k σ := by kernel_rfl
theorem rspinel0_eq (call : CallF) (n : Nat) : ∀ (m : Nat) (a : LL) (b c d e f : V) (g h : Int) (i : ByteArray) (j k : LL) (σ : Sto),
  aloop (fun st K => aexec C rspineH call n (cp [0,0,0,1,1] rspineC) 0 st K) rspinek0 m (rspinet0 a b c d e f g h i j k σ) (kblk 0 (kseq (fun st' => aexec C rspineH call n (cp [1,1,1] rspineC) 0 st' (kfin C rspineD)) (kfin C rspineD))) = rspinel0 call n m a b c d e f g h i j k σ
 | 0, a, b, c, d, e, f, g, h, i, j, k, σ => rfl
 | m + 1, a, b, c, d, e, f, g, h, i, j, k, σ => by
  rw [aloop, rspines0_eq]
  simp only [rspinel0_eq call n m, rspinel1_eq]
  rfl
theorem rspine_eqF (call : CallF) (n : Nat) (a b : Int) (c : ByteArray) (d e : LL) (σ : Sto) : afun C rspineD call n [(V.agg [V.int .i64 a, V.int .i64 b, V.str c, V.slice 3 44 d, V.slice 5 30 e], false)] σ =
  rspineF call (fun f g h i j k o p q r s σ => aloop (fun st K => aexec C rspineH call n (cp [0,0,0,1,1] rspineC) 0 st K) rspinek0 n (rspinet0 f g h i j k o p q r s σ) (kblk 0 (kseq (fun st' => aexec C rspineH call n (cp [1,1,1] rspineC) 0 st' (kfin C rspineD)) (kfin C rspineD)))) a b c d e σ := by kernel_rfl
theorem rspine_eq (call : CallF) (n : Nat) (a b : Int) (c : ByteArray) (d e : LL) (σ : Sto) : afun C rspineD call n [(V.agg [V.int .i64 a, V.int .i64 b, V.str c, V.slice 3 44 d, V.slice 5 30 e], false)] σ = rspine call n a b c d e σ := by
 rw [rspine_eqF]
 simp only [rspinel0_eq]
 rfl
theorem rspine_lim {n : Nat} {a : Int} {b : Int} {c : ByteArray} {e : LL} {f : LL} {b0 : Bool} {σ : Sto} {r : Res} (h : rspine (lim C) n a b c e f σ = some r) : lim C 25 [(V.agg [V.int .i64 a, V.int .i64 b, V.str c, V.slice 3 44 e, V.slice 5 30 f], b0)] σ = some r :=
 lim_of (d := rspineD) (by kernel_rfl) (by kernel_rfl) n (show afun C rspineD (lim C) n [(V.agg [V.int .i64 a, V.int .i64 b, V.str c, V.slice 3 44 e, V.slice 5 30 f], false)] σ = some r from (rspine_eq (lim C) n a b c e f σ).trans h)
noncomputable def tapplyk0 : List Nat := [2, 4, 7, 8, 9]
noncomputable def tapplys0 (call : CallF) (rec0 : LL → Int → Int → V → V → V → V → V → Int → Int → ByteArray → LL → LL → RR) (b : LL) (d a : Int) (e f g h i : V) (j k : Int) (o : ByteArray) (p q : LL) (σ : Sto) : Option Res :=
 bif (decide (a < d)) then
 (grd (decide (0 ≤ a) && decide (a < b.length))).bind fun _ =>
 callK call 53 [((V.int .i64 (3 : Int)), false), (V.slice 5 30 [[e, f, g, h, i], [(getD (getD b a.toNat []) 0 V.any), (getD (getD b a.toNat []) 1 V.any), (getD (getD b a.toNat []) 2 V.any), (getD (getD b a.toNat []) 3 V.any), (getD (getD b a.toNat []) 4 V.any)]], true)] σ 1 (fun c r =>
 (grd (V.fits (getD c 0 cellD).1 true 5)).bind fun _ =>
 rec0 b d (wrap .i64 (a + (1 : Int))) (V.cell (getD c 0 cellD).1 0) (V.cell (getD c 0 cellD).1 1) (V.cell (getD c 0 cellD).1 2) (V.cell (getD c 0 cellD).1 3) (V.cell (getD c 0 cellD).1 4) j k o p q r) pnK
 else
 some (.ret [(V.agg [e, f, g, h, i], false)], σ)
noncomputable def tapplyl0 (call : CallF) (n : Nat) : Nat → LL → Int → Int → V → V → V → V → V → Int → Int → ByteArray → LL → LL → RR
 | 0 => fun _ _ _ _ _ _ _ _ _ _ _ _ _ _ => none
 | m + 1 => tapplys0 call (tapplyl0 call n m)
noncomputable def tapplyt0 (a : LL) (b c : Int) (d e f g h : V) (i j : Int) (k : ByteArray) (o p : LL) (σ : Sto) : St := ⟨[.dead, .dead, .lptr 2 0, .dead, .lptr 4 0, .dead, .dead, .val (V.slice 5 30 a) false, .val (V.int .i64 b) false, .val (V.int .i64 c) false] ++ dd 9 [], [[], [], [(d, false), (e, false), (f, false), (g, false), (h, false)], [], [(V.int .i64 i, false), (V.int .i64 j, false), (V.str k, false), (V.slice 3 44 o, true), (V.slice 5 30 p, true)]] ++ nn 14 [], σ⟩
noncomputable def tapplyF (call : CallF) (L0 : LL → Int → Int → V → V → V → V → V → Int → Int → ByteArray → LL → LL → RR) (b c : Int) (d : ByteArray) (e f a : LL) (σ : Sto) : Option Res :=
 L0 a (a.length : Int) (0 : Int) (V.int .i64 b) (V.int .i64 c) (V.str d) (V.slice 3 44 e) (V.slice 5 30 f) (0 : Int) (0 : Int) (ByteArray.mk #[]) [] [] σ
noncomputable def tapply (call : CallF) (n : Nat) (a b : Int) (c : ByteArray) (d e f : LL) (σ : Sto) : Option Res := tapplyF call (tapplyl0 call n n) a b c d e f σ
theorem tapplys0_eq (call : CallF) (n : Nat) (F0 : St → Option Res) (a : LL) (b c : Int) (d e f g h : V) (i j : Int) (k : ByteArray) (o p : LL) (σ : Sto) :
  aexec C tapplyH call n (cp [0,0,1,0,1] tapplyC) 0 (tapplyt0 a b c d e f g h i j k o p σ) (kloop tapplyk0 F0 (kblk 0 (kseq (fun st' => aexec C tapplyH call n (codeR (codeR tapplyC)) 0 st' (kfin C tapplyD)) (kfin C tapplyD)))) =
  tapplys0 call (fun a b c d e f g h i j k o p σ => F0 (tapplyt0 a b c d e f g h i j k o p σ)) a b c d e f g h i j k o p σ := by kernel_rfl
theorem tapplyl0_eq (call : CallF) (n : Nat) : ∀ (m : Nat) (a : LL) (b c : Int) (d e f g h : V) (i j : Int) (k : ByteArray) (o p : LL) (σ : Sto),
  aloop (fun st K => aexec C tapplyH call n (cp [0,0,1,0,1] tapplyC) 0 st K) tapplyk0 m (tapplyt0 a b c d e f g h i j k o p σ) (kblk 0 (kseq (fun st' => aexec C tapplyH call n (codeR (codeR tapplyC)) 0 st' (kfin C tapplyD)) (kfin C tapplyD))) = tapplyl0 call n m a b c d e f g h i j k o p σ
 | 0, a, b, c, d, e, f, g, h, i, j, k, o, p, σ => rfl
 | m + 1, a, b, c, d, e, f, g, h, i, j, k, o, p, σ => by
  rw [aloop, tapplys0_eq]
  simp only [tapplyl0_eq call n m]
  rfl
theorem tapply_eqF (call : CallF) (n : Nat) (a b : Int) (c : ByteArray) (d e f : LL) (σ : Sto) : afun C tapplyD call n [(V.agg [V.int .i64 a, V.int .i64 b, V.str c, V.slice 3 44 d, V.slice 5 30 e], false), (V.slice 5 30 f, false)] σ =
  tapplyF call (fun g h i j k o p q r s t u v σ => aloop (fun st K => aexec C tapplyH call n (cp [0,0,1,0,1] tapplyC) 0 st K) tapplyk0 n (tapplyt0 g h i j k o p q r s t u v σ) (kblk 0 (kseq (fun st' => aexec C tapplyH call n (codeR (codeR tapplyC)) 0 st' (kfin C tapplyD)) (kfin C tapplyD)))) a b c d e f σ := by kernel_rfl
theorem tapply_eq (call : CallF) (n : Nat) (a b : Int) (c : ByteArray) (d e f : LL) (σ : Sto) : afun C tapplyD call n [(V.agg [V.int .i64 a, V.int .i64 b, V.str c, V.slice 3 44 d, V.slice 5 30 e], false), (V.slice 5 30 f, false)] σ = tapply call n a b c d e f σ := by
 rw [tapply_eqF]
 simp only [tapplyl0_eq]
 rfl
theorem tapply_lim {n : Nat} {a : Int} {b : Int} {c : ByteArray} {e : LL} {f : LL} {g : LL} {b0 b1 : Bool} {σ : Sto} {r : Res} (h : tapply (lim C) n a b c e f g σ = some r) : lim C 26 [(V.agg [V.int .i64 a, V.int .i64 b, V.str c, V.slice 3 44 e, V.slice 5 30 f], b0), (V.slice 5 30 g, b1)] σ = some r :=
 lim_of (d := tapplyD) (by kernel_rfl) (by kernel_rfl) n (show afun C tapplyD (lim C) n [(V.agg [V.int .i64 a, V.int .i64 b, V.str c, V.slice 3 44 e, V.slice 5 30 f], false), (V.slice 5 30 g, false)] σ = some r from (tapply_eq (lim C) n a b c e f g σ).trans h)
noncomputable def rapplyk0 : List Nat := [1, 2, 4, 5]
noncomputable def rapplys0 (call : CallF) (rec0 : LL → Int → V → V → V → V → V → Int → Int → ByteArray → LL → LL → RR) (b : LL) (a : Int) (d e f g h : V) (i j : Int) (k : ByteArray) (o p : LL) (σ : Sto) : Option Res :=
 bif (decide (a < (b.length : Int))) then
 (grd (decide (0 ≤ a) && decide (a < b.length))).bind fun _ =>
 callK call 54 [(V.agg [d, e, f, g, h], false), (V.agg [(getD (getD b a.toNat []) 0 V.any), (getD (getD b a.toNat []) 1 V.any), (getD (getD b a.toNat []) 2 V.any), (getD (getD b a.toNat []) 3 V.any), (getD (getD b a.toNat []) 4 V.any)], false)] σ 1 (fun c q =>
 (grd (V.fits (getD c 0 cellD).1 true 5)).bind fun _ =>
 rec0 b (wrap .i64 (a + (1 : Int))) (V.cell (getD c 0 cellD).1 0) (V.cell (getD c 0 cellD).1 1) (V.cell (getD c 0 cellD).1 2) (V.cell (getD c 0 cellD).1 3) (V.cell (getD c 0 cellD).1 4) i j k o p q) pnK
 else
 some (.ret [(V.agg [d, e, f, g, h], false)], σ)
noncomputable def rapplyl0 (call : CallF) (n : Nat) : Nat → LL → Int → V → V → V → V → V → Int → Int → ByteArray → LL → LL → RR
 | 0 => fun _ _ _ _ _ _ _ _ _ _ _ _ _ => none
 | m + 1 => rapplys0 call (rapplyl0 call n m)
noncomputable def rapplyt0 (a : LL) (b : Int) (c d e f g : V) (h i : Int) (j : ByteArray) (k o : LL) (σ : Sto) : St := ⟨[.dead, .val (V.slice 5 30 a) false, .lptr 2 0, .dead, .lptr 4 0, .val (V.int .i64 b) false] ++ dd 13 [], [[], [], [(c, false), (d, false), (e, false), (f, false), (g, false)], [], [(V.int .i64 h, false), (V.int .i64 i, false), (V.str j, false), (V.slice 3 44 k, true), (V.slice 5 30 o, true)]] ++ nn 14 [], σ⟩
noncomputable def rapplyF (call : CallF) (L0 : LL → Int → V → V → V → V → V → Int → Int → ByteArray → LL → LL → RR) (a b : Int) (c : ByteArray) (d e f : LL) (σ : Sto) : Option Res :=
 L0 f (0 : Int) (V.int .i64 a) (V.int .i64 b) (V.str c) (V.slice 3 44 d) (V.slice 5 30 e) (0 : Int) (0 : Int) (ByteArray.mk #[]) [] [] σ
noncomputable def rapply (call : CallF) (n : Nat) (a b : Int) (c : ByteArray) (d e f : LL) (σ : Sto) : Option Res := rapplyF call (rapplyl0 call n n) a b c d e f σ
theorem rapplys0_eq (call : CallF) (n : Nat) (F0 : St → Option Res) (a : LL) (b : Int) (c d e f g : V) (h i : Int) (j : ByteArray) (k o : LL) (σ : Sto) :
  aexec C rapplyH call n (cp [0,0,1,0,1] rapplyC) 0 (rapplyt0 a b c d e f g h i j k o σ) (kloop rapplyk0 F0 (kblk 0 (kseq (fun st' => aexec C rapplyH call n (codeR (codeR rapplyC)) 0 st' (kfin C rapplyD)) (kfin C rapplyD)))) =
  rapplys0 call (fun a b c d e f g h i j k o σ => F0 (rapplyt0 a b c d e f g h i j k o σ)) a b c d e f g h i j k o σ := by kernel_rfl
theorem rapplyl0_eq (call : CallF) (n : Nat) : ∀ (m : Nat) (a : LL) (b : Int) (c d e f g : V) (h i : Int) (j : ByteArray) (k o : LL) (σ : Sto),
  aloop (fun st K => aexec C rapplyH call n (cp [0,0,1,0,1] rapplyC) 0 st K) rapplyk0 m (rapplyt0 a b c d e f g h i j k o σ) (kblk 0 (kseq (fun st' => aexec C rapplyH call n (codeR (codeR rapplyC)) 0 st' (kfin C rapplyD)) (kfin C rapplyD))) = rapplyl0 call n m a b c d e f g h i j k o σ
 | 0, a, b, c, d, e, f, g, h, i, j, k, o, σ => rfl
 | m + 1, a, b, c, d, e, f, g, h, i, j, k, o, σ => by
  rw [aloop, rapplys0_eq]
  simp only [rapplyl0_eq call n m]
  rfl
theorem rapply_eqF (call : CallF) (n : Nat) (b c : Int) (d : ByteArray) (e f a : LL) (σ : Sto) : afun C rapplyD call n [(V.agg [V.int .i64 b, V.int .i64 c, V.str d, V.slice 3 44 e, V.slice 5 30 f], false), (V.slice 5 30 a, false)] σ =
  rapplyF call (fun a g h i j k o p q r s t σ => aloop (fun st K => aexec C rapplyH call n (cp [0,0,1,0,1] rapplyC) 0 st K) rapplyk0 n (rapplyt0 a g h i j k o p q r s t σ) (kblk 0 (kseq (fun st' => aexec C rapplyH call n (codeR (codeR rapplyC)) 0 st' (kfin C rapplyD)) (kfin C rapplyD)))) b c d e f a σ := by kernel_rfl
theorem rapply_eq (call : CallF) (n : Nat) (a b : Int) (c : ByteArray) (d e f : LL) (σ : Sto) : afun C rapplyD call n [(V.agg [V.int .i64 a, V.int .i64 b, V.str c, V.slice 3 44 d, V.slice 5 30 e], false), (V.slice 5 30 f, false)] σ = rapply call n a b c d e f σ := by
 rw [rapply_eqF]
 simp only [rapplyl0_eq]
 rfl
theorem rapply_lim {n : Nat} {a : Int} {b : Int} {c : ByteArray} {e : LL} {f : LL} {g : LL} {b0 b1 : Bool} {σ : Sto} {r : Res} (h : rapply (lim C) n a b c e f g σ = some r) : lim C 27 [(V.agg [V.int .i64 a, V.int .i64 b, V.str c, V.slice 3 44 e, V.slice 5 30 f], b0), (V.slice 5 30 g, b1)] σ = some r :=
 lim_of (d := rapplyD) (by kernel_rfl) (by kernel_rfl) n (show afun C rapplyD (lim C) n [(V.agg [V.int .i64 a, V.int .i64 b, V.str c, V.slice 3 44 e, V.slice 5 30 f], false), (V.slice 5 30 g, false)] σ = some r from (rapply_eq (lim C) n a b c e f g σ).trans h)
noncomputable def tprintF (call : CallF) (a b : Int) (c : ByteArray) (d e : LL) (σ : Sto) : Option Res :=
 callK call 55 [(V.ptr 75 (List.length σ) 0, false), (V.agg [V.int .i64 a, V.int .i64 b, V.str c, V.slice 3 44 d, V.slice 5 30 e], false)] (σ ++ [[(V.nilp, false), (V.slice 1 5 [], true)]]) 0 (fun i f =>
 callK call 56 [(V.ptr 75 (List.length σ) 0, false)] f 1 (fun g h =>
 some (.ret [((getD g 0 cellD).1, false)], h)) pnK) pnK
noncomputable def tprint (call : CallF) (n : Nat) (a b : Int) (c : ByteArray) (d e : LL) (σ : Sto) : Option Res := tprintF call a b c d e σ
theorem tprint_eqF (call : CallF) (n : Nat) (a b : Int) (c : ByteArray) (d e : LL) (σ : Sto) : afun C tprintD call n [(V.agg [V.int .i64 a, V.int .i64 b, V.str c, V.slice 3 44 d, V.slice 5 30 e], false)] σ =
  tprintF call a b c d e σ := by kernel_rfl
theorem tprint_eq (call : CallF) (n : Nat) (a b : Int) (c : ByteArray) (d e : LL) (σ : Sto) : afun C tprintD call n [(V.agg [V.int .i64 a, V.int .i64 b, V.str c, V.slice 3 44 d, V.slice 5 30 e], false)] σ = tprint call n a b c d e σ := tprint_eqF call n a b c d e σ
theorem tprint_lim {n : Nat} {a : Int} {b : Int} {c : ByteArray} {e : LL} {f : LL} {b0 : Bool} {σ : Sto} {r : Res} (h : tprint (lim C) n a b c e f σ = some r) : lim C 28 [(V.agg [V.int .i64 a, V.int .i64 b, V.str c, V.slice 3 44 e, V.slice 5 30 f], b0)] σ = some r :=
 lim_of (d := tprintD) (by kernel_rfl) (by kernel_rfl) n (show afun C tprintD (lim C) n [(V.agg [V.int .i64 a, V.int .i64 b, V.str c, V.slice 3 44 e, V.slice 5 30 f], false)] σ = some r from (tprint_eq (lim C) n a b c e f σ).trans h)
noncomputable def rprintTermk0 : List Nat := [1, 3, 4]
noncomputable def rprintTermk1 : List Nat := [1, 3, 5]
noncomputable def rprintTerms1 (call : CallF) (rec1 : ByteArray → Int → Int → Int → ByteArray → LL → LL → RR) (c : ByteArray) (a d e : Int) (f : ByteArray) (g b : LL) (σ : Sto) : Option Res :=
 bif (decide (a < (b.length : Int))) then
 (grd (strRoom c (ByteArray.mk #[32]))).bind fun _ =>
 (grd (decide (0 ≤ a) && decide (a < b.length))).bind fun _ =>
 callK call 29 [(V.agg [(getD (getD b a.toNat []) 0 V.any), (getD (getD b a.toNat []) 1 V.any), (getD (getD b a.toNat []) 2 V.any), (getD (getD b a.toNat []) 3 V.any), (getD (getD b a.toNat []) 4 V.any)], false)] σ 1 (fun h i =>
 (V.asStr (getD h 0 cellD).1).bind fun s4 =>
 (grd (strRoom (c ++ (ByteArray.mk #[32])) s4)).bind fun _ =>
 rec1 ((c ++ (ByteArray.mk #[32])) ++ s4) (wrap .i64 (a + (1 : Int))) d e f g b i) pnK
 else
 (grd (strRoom c (ByteArray.mk #[41]))).bind fun _ =>
 some (.ret [(V.str (c ++ (ByteArray.mk #[41])), false)], σ)
noncomputable def rprintTerml1 (call : CallF) (n : Nat) : Nat → ByteArray → Int → Int → Int → ByteArray → LL → LL → RR
 | 0 => fun _ _ _ _ _ _ _ _ => none
 | m + 1 => rprintTerms1 call (rprintTerml1 call n m)
noncomputable def rprintTermt1 (a : ByteArray) (b c d : Int) (e : ByteArray) (f g : LL) (σ : Sto) : St := ⟨[.dead, .lptr 1 0, .dead, .val (V.str a) false, .dead, .val (V.int .i64 b) false] ++ dd 55 [], [[], [(V.int .i64 c, false), (V.int .i64 d, false), (V.str e, false), (V.slice 3 44 f, false), (V.slice 5 30 g, false)]] ++ nn 59 [], σ⟩
noncomputable def rprintTerms0 (call : CallF) (L1 rec0 : ByteArray → Int → Int → Int → ByteArray → LL → LL → RR) (c : ByteArray) (a d e : Int) (f : ByteArray) (b g : LL) (σ : Sto) : Option Res :=
 bif (decide (a < (b.length : Int))) then
 (grd (strRoom c (ByteArray.mk #[32]))).bind fun _ =>
 (grd (decide (0 ≤ a) && decide (a < b.length))).bind fun _ =>
 callK call 58 [(V.agg [(getD (getD b a.toNat []) 0 V.any), (getD (getD b a.toNat []) 1 V.any), (getD (getD b a.toNat []) 2 V.any)], false)] σ 1 (fun h i =>
 (V.asStr (getD h 0 cellD).1).bind fun s4 =>
 (grd (strRoom (c ++ (ByteArray.mk #[32])) s4)).bind fun _ =>
 rec0 ((c ++ (ByteArray.mk #[32])) ++ s4) (wrap .i64 (a + (1 : Int))) d e f b g i) pnK
 else
 L1 c (0 : Int) d e f b g σ
noncomputable def rprintTerml0 (call : CallF) (n : Nat) : Nat → ByteArray → Int → Int → Int → ByteArray → LL → LL → RR
 | 0 => fun _ _ _ _ _ _ _ _ => none
 | m + 1 => rprintTerms0 call (rprintTerml1 call n n) (rprintTerml0 call n m)
noncomputable def rprintTermt0 (a : ByteArray) (b c d : Int) (e : ByteArray) (f g : LL) (σ : Sto) : St := ⟨[.dead, .lptr 1 0, .dead, .val (V.str a) false, .val (V.int .i64 b) false] ++ dd 56 [], [[], [(V.int .i64 c, false), (V.int .i64 d, false), (V.str e, false), (V.slice 3 44 f, false), (V.slice 5 30 g, false)]] ++ nn 59 [], σ⟩
noncomputable def rprintTermF (call : CallF) (L0 : ByteArray → Int → Int → Int → ByteArray → LL → LL → RR) (a c : Int) (b : ByteArray) (d e : LL) (σ : Sto) : Option Res :=
 bif (a == (0 : Int)) then
 callK call 57 [(V.int .i64 c, false)] σ 1 (fun f g =>
 (V.asStr (getD f 0 cellD).1).bind fun s4 =>
 (grd (strRoom (ByteArray.mk #[35]) s4)).bind fun _ =>
 some (.ret [(V.str ((ByteArray.mk #[35]) ++ s4), false)], g)) pnK
 else
 (V.asSlice (getD [V.slice 1 9 [[V.str ⟨#[]⟩], [V.str ⟨#[115, 111, 114, 116]⟩], [V.str ⟨#[99, 111, 110, 115, 116]⟩], [V.str ⟨#[97, 112, 112]⟩], [V.str ⟨#[108, 97, 109]⟩], [V.str ⟨#[112, 105]⟩], [V.str ⟨#[108, 101, 116]⟩]]] 0 V.any) 1 9).bind fun l5 =>
 (grd (decide (0 ≤ a) && decide (a < l5.length))).bind fun _ =>
 (V.asStr (getD (getD l5 a.toNat []) 0 V.any)).bind fun s6 =>
 (grd (strRoom (ByteArray.mk #[40]) s6)).bind fun _ =>
 bif (a == (2 : Int)) then
 (grd (strRoom ((ByteArray.mk #[40]) ++ s6) (ByteArray.mk #[32]))).bind fun _ =>
 (grd (strRoom (((ByteArray.mk #[40]) ++ s6) ++ (ByteArray.mk #[32])) b)).bind fun _ =>
 L0 ((((ByteArray.mk #[40]) ++ s6) ++ (ByteArray.mk #[32])) ++ b) (0 : Int) a c b d e σ
 else
 L0 ((ByteArray.mk #[40]) ++ s6) (0 : Int) a c b d e σ
noncomputable def rprintTerm (call : CallF) (n : Nat) (a b : Int) (c : ByteArray) (d e : LL) (σ : Sto) : Option Res := rprintTermF call (rprintTerml0 call n n) a b c d e σ
theorem rprintTerms1_eq (call : CallF) (n : Nat) (F1 : St → Option Res) (a : ByteArray) (b c d : Int) (e : ByteArray) (f g : LL) (σ : Sto) :
  aexec C rprintTermH call n (cp [0,0,1,0,1,1,1,1,1] rprintTermC) 0 (rprintTermt1 a b c d e f g σ) (kloop rprintTermk1 F1 (kblk 2 (kseq (fun st' => aexec C rprintTermH call n (cp [1,1,1,1,1,1] rprintTermC) 0 st' (kfin C rprintTermD)) (kfin C rprintTermD)))) =
  rprintTerms1 call (fun a b c d e f g σ => F1 (rprintTermt1 a b c d e f g σ)) a b c d e f g σ := by kernel_rfl
theorem rprintTerml1_eq (call : CallF) (n : Nat) : ∀ (m : Nat) (a : ByteArray) (b c d : Int) (e : ByteArray) (f g : LL) (σ : Sto),
  aloop (fun st K => aexec C rprintTermH call n (cp [0,0,1,0,1,1,1,1,1] rprintTermC) 0 st K) rprintTermk1 m (rprintTermt1 a b c d e f g σ) (kblk 2 (kseq (fun st' => aexec C rprintTermH call n (cp [1,1,1,1,1,1] rprintTermC) 0 st' (kfin C rprintTermD)) (kfin C rprintTermD))) = rprintTerml1 call n m a b c d e f g σ
 | 0, a, b, c, d, e, f, g, σ => rfl
 | m + 1, a, b, c, d, e, f, g, σ => by
  rw [aloop, rprintTerms1_eq]
  simp only [rprintTerml1_eq call n m]
  rfl
theorem rprintTerms0_eq (call : CallF) (n : Nat) (F0 : St → Option Res) (a : ByteArray) (g b c : Int) (d : ByteArray) (e f : LL) (σ : Sto) :
  aexec C rprintTermH call n (cp [0,0,1,0,1,1,1,1] rprintTermC) 0 (rprintTermt0 a g b c d e f σ) (kloop rprintTermk0 F0 (kblk 0 (kseq (fun st' => aexec C rprintTermH call n (cp [1,1,1,1,1] rprintTermC) 0 st' (kfin C rprintTermD)) (kfin C rprintTermD)))) =
  rprintTerms0 call (fun a h b c d e f σ => aloop (fun st K => aexec C rprintTermH call n (cp [0,0,1,0,1,1,1,1,1] rprintTermC) 0 st K) rprintTermk1 n (rprintTermt1 a h b c d e f σ) (kblk 2 (kseq (fun st' => aexec C rprintTermH call n (cp [1,1,1,1,1,1] rprintTermC) 0 st' (kfin C rprintTermD)) (kfin C rprintTermD)))) (fun a g b c d e f σ => F0 (rprintTermt0 a g b c d e f σ)) a g b c d e f σ := by kernel_rfl
theorem rprintTerml0_eq (call : CallF) (n : Nat) : ∀ (m : Nat) (a : ByteArray) (b c d : Int) (e : ByteArray) (f g : LL) (σ : Sto),
  aloop (fun st K => aexec C rprintTermH call n (cp [0,0,1,0,1,1,1,1] rprintTermC) 0 st K) rprintTermk0 m (rprintTermt0 a b c d e f g σ) (kblk 0 (kseq (fun st' => aexec C rprintTermH call n (cp [1,1,1,1,1] rprintTermC) 0 st' (kfin C rprintTermD)) (kfin C rprintTermD))) = rprintTerml0 call n m a b c d e f g σ
 | 0, a, b, c, d, e, f, g, σ => rfl
 | m + 1, a, b, c, d, e, f, g, σ => by
  rw [aloop, rprintTerms0_eq]
  simp only [rprintTerml0_eq call n m, rprintTerml1_eq]
  rfl
theorem rprintTerm_eqF (call : CallF) (n : Nat) (a b : Int) (c : ByteArray) (d e : LL) (σ : Sto) : afun C rprintTermD call n [(V.agg [V.int .i64 a, V.int .i64 b, V.str c, V.slice 3 44 d, V.slice 5 30 e], false)] σ =
  rprintTermF call (fun f g h i j k o σ => aloop (fun st K => aexec C rprintTermH call n (cp [0,0,1,0,1,1,1,1] rprintTermC) 0 st K) rprintTermk0 n (rprintTermt0 f g h i j k o σ) (kblk 0 (kseq (fun st' => aexec C rprintTermH call n (cp [1,1,1,1,1] rprintTermC) 0 st' (kfin C rprintTermD)) (kfin C rprintTermD)))) a b c d e σ := by kernel_rfl
theorem rprintTerm_eq (call : CallF) (n : Nat) (a b : Int) (c : ByteArray) (d e : LL) (σ : Sto) : afun C rprintTermD call n [(V.agg [V.int .i64 a, V.int .i64 b, V.str c, V.slice 3 44 d, V.slice 5 30 e], false)] σ = rprintTerm call n a b c d e σ := by
 rw [rprintTerm_eqF]
 simp only [rprintTerml0_eq]
 rfl
theorem rprintTerm_lim {n : Nat} {a : Int} {b : Int} {c : ByteArray} {e : LL} {f : LL} {b0 : Bool} {σ : Sto} {r : Res} (h : rprintTerm (lim C) n a b c e f σ = some r) : lim C 29 [(V.agg [V.int .i64 a, V.int .i64 b, V.str c, V.slice 3 44 e, V.slice 5 30 f], b0)] σ = some r :=
 lim_of (d := rprintTermD) (by kernel_rfl) (by kernel_rfl) n (show afun C rprintTermD (lim C) n [(V.agg [V.int .i64 a, V.int .i64 b, V.str c, V.slice 3 44 e, V.slice 5 30 f], false)] σ = some r from (rprintTerm_eq (lim C) n a b c e f σ).trans h)
noncomputable def parseTermF (call : CallF) (c : ByteArray) (σ : Sto) : Option Res :=
 bif (decide ((c.size : Int) > (20000 : Int))) then
 some (.ret [((V.agg [(V.int .i64 (0 : Int)), (V.int .i64 (0 : Int)), V.str ⟨#[]⟩, V.slice 3 44 [], V.slice 5 30 []]), false), ((V.agg [(V.int .i64 (2 : Int)), (V.int .i64 (0 : Int))]), false)], σ)
 else
 callK call 59 [(V.ptr 65 (List.length σ) 0, false)] (σ ++ [[(V.str c, false), ((V.int .i64 (0 : Int)), false), ((V.int .i64 (0 : Int)), false), ((V.int .i64 (0 : Int)), false)]]) 1 (fun a e =>
 (grd (V.fits (getD a 0 cellD).1 true 5)).bind fun _ =>
 callK call 48 [(V.ptr 65 (List.length σ) 0, false)] e 1 (fun b d =>
 (grd (V.fits (getD b 0 cellD).1 true 2)).bind fun _ =>
 (V.asInt (V.cell (getD b 0 cellD).1 0) .i64).bind fun i7 =>
 bif (i7 != (0 : Int)) then
 some (.ret [((V.agg [(V.int .i64 (0 : Int)), (V.int .i64 (0 : Int)), V.str ⟨#[]⟩, V.slice 3 44 [], V.slice 5 30 []]), false), (V.agg [V.cell (getD b 0 cellD).1 0, V.cell (getD b 0 cellD).1 1], false)], d)
 else
 some (.ret [(V.agg [V.cell (getD a 0 cellD).1 0, V.cell (getD a 0 cellD).1 1, V.cell (getD a 0 cellD).1 2, V.cell (getD a 0 cellD).1 3, V.cell (getD a 0 cellD).1 4], false), (V.agg [V.cell (getD b 0 cellD).1 0, V.cell (getD b 0 cellD).1 1], false)], d)) pnK) pnK
noncomputable def parseTerm (call : CallF) (n : Nat) (a : ByteArray) (σ : Sto) : Option Res := parseTermF call a σ
theorem parseTerm_eqF (call : CallF) (n : Nat) (a : ByteArray) (σ : Sto) : afun C parseTermD call n [(V.str a, false)] σ =
  parseTermF call a σ := by kernel_rfl
theorem parseTerm_eq (call : CallF) (n : Nat) (a : ByteArray) (σ : Sto) : afun C parseTermD call n [(V.str a, false)] σ = parseTerm call n a σ := parseTerm_eqF call n a σ
theorem parseTerm_lim {n : Nat} {a : ByteArray} {b0 : Bool} {σ : Sto} {r : Res} (h : parseTerm (lim C) n a σ = some r) : lim C 30 [(V.str a, b0)] σ = some r :=
 lim_of (d := parseTermD) (by kernel_rfl) (by kernel_rfl) n (show afun C parseTermD (lim C) n [(V.str a, false)] σ = some r from (parseTerm_eq (lim C) n a σ).trans h)
noncomputable def rpartsk0 : List Nat := [1, 2, 5, 6, 40, 41, 42]
noncomputable def rpartsk1 : List Nat := [1, 2, 5, 8]
noncomputable def rpartss1 (call : CallF) (rec1 : Int → Int → Int → Int → Int → ByteArray → LL → LL → RR) (d c a e f : Int) (g : ByteArray) (h b : LL) (σ : Sto) : Option Res :=
 bif (decide (a < (b.length : Int))) then
 bif (decide (c ≤ d)) then
 (grd (decide (0 ≤ a) && decide (a < b.length))).bind fun _ =>
 callK call 31 [(V.agg [(getD (getD b a.toNat []) 0 V.any), (getD (getD b a.toNat []) 1 V.any), (getD (getD b a.toNat []) 2 V.any), (getD (getD b a.toNat []) 3 V.any), (getD (getD b a.toNat []) 4 V.any)], false), (V.int .i64 (wrap .i64 (d - c)), false)] σ 1 (fun i j =>
 (V.asInt (getD i 0 cellD).1 .i64).bind fun i4 =>
 rec1 d (wrap .i64 (c + i4)) (wrap .i64 (a + (1 : Int))) e f g h b j) pnK
 else
 some (.ret [(V.int .i64 c, false)], σ)
 else
 some (.ret [(V.int .i64 c, false)], σ)
noncomputable def rpartsl1 (call : CallF) (n : Nat) : Nat → Int → Int → Int → Int → Int → ByteArray → LL → LL → RR
 | 0 => fun _ _ _ _ _ _ _ _ _ => none
 | m + 1 => rpartss1 call (rpartsl1 call n m)
noncomputable def rpartst1 (a b c d e : Int) (f : ByteArray) (g h : LL) (σ : Sto) : St := ⟨[.dead, .val (V.int .i64 a) false, .lptr 2 0, .dead, .dead, .val (V.int .i64 b) false, .dead, .dead, .val (V.int .i64 c) false] ++ dd 50 [], [[], [], [(V.int .i64 d, false), (V.int .i64 e, false), (V.str f, false), (V.slice 3 44 g, false), (V.slice 5 30 h, false)]] ++ nn 56 [], σ⟩
noncomputable def rpartss0 (call : CallF) (L1 rec0 : Int → Int → Int → Int → Int → ByteArray → LL → LL → RR) (c d b e f : Int) (g : ByteArray) (a h : LL) (σ : Sto) : Option Res :=
 bif (decide (b < (a.length : Int))) then
 bif (decide (d ≤ c)) then
 (grd (decide (0 ≤ b) && decide (b < a.length))).bind fun _ =>
 callK call 49 [(V.agg [(getD (getD a b.toNat []) 0 V.any), (getD (getD a b.toNat []) 1 V.any), (getD (getD a b.toNat []) 2 V.any)], false), (V.int .i64 (wrap .i64 (c - d)), false)] σ 1 (fun i j =>
 (V.asInt (getD i 0 cellD).1 .i64).bind fun i4 =>
 rec0 c (wrap .i64 (d + i4)) (wrap .i64 (b + (1 : Int))) e f g a h j) pnK
 else
 L1 c d (0 : Int) e f g a h σ
 else
 L1 c d (0 : Int) e f g a h σ
noncomputable def rpartsl0 (call : CallF) (n : Nat) : Nat → Int → Int → Int → Int → Int → ByteArray → LL → LL → RR
 | 0 => fun _ _ _ _ _ _ _ _ _ => none
 | m + 1 => rpartss0 call (rpartsl1 call n n) (rpartsl0 call n m)
noncomputable def rpartst0 (a b c d e : Int) (f : ByteArray) (g h : LL) (σ : Sto) : St := ⟨[.dead, .val (V.int .i64 a) false, .lptr 2 0, .dead, .dead, .val (V.int .i64 b) false, .val (V.int .i64 c) false] ++ dd 52 [], [[], [], [(V.int .i64 d, false), (V.int .i64 e, false), (V.str f, false), (V.slice 3 44 g, false), (V.slice 5 30 h, false)]] ++ nn 56 [], σ⟩
noncomputable def rpartsF (call : CallF) (L0 : Int → Int → Int → Int → Int → ByteArray → LL → LL → RR) (a b : Int) (c : ByteArray) (d e : LL) (f : Int) (σ : Sto) : Option Res :=
 L0 f (1 : Int) (0 : Int) a b c d e σ
noncomputable def rparts (call : CallF) (n : Nat) (a b : Int) (c : ByteArray) (d e : LL) (f : Int) (σ : Sto) : Option Res := rpartsF call (rpartsl0 call n n) a b c d e f σ
theorem rpartss1_eq (call : CallF) (n : Nat) (F1 : St → Option Res) (a b c d e : Int) (f : ByteArray) (g h : LL) (σ : Sto) :
  aexec C rpartsH call n (cp [0,0,1,0,1,1,1] rpartsC) 0 (rpartst1 a b c d e f g h σ) (kloop rpartsk1 F1 (kblk 2 (kseq (fun st' => aexec C rpartsH call n (cp [1,1,1,1] rpartsC) 0 st' (kfin C rpartsD)) (kfin C rpartsD)))) =
  rpartss1 call (fun a b c d e f g h σ => F1 (rpartst1 a b c d e f g h σ)) a b c d e f g h σ := by kernel_rfl
theorem rpartsl1_eq (call : CallF) (n : Nat) : ∀ (m : Nat) (a b c d e : Int) (f : ByteArray) (g h : LL) (σ : Sto),
  aloop (fun st K => aexec C rpartsH call n (cp [0,0,1,0,1,1,1] rpartsC) 0 st K) rpartsk1 m (rpartst1 a b c d e f g h σ) (kblk 2 (kseq (fun st' => aexec C rpartsH call n (cp [1,1,1,1] rpartsC) 0 st' (kfin C rpartsD)) (kfin C rpartsD))) = rpartsl1 call n m a b c d e f g h σ
 | 0, a, b, c, d, e, f, g, h, σ => rfl
 | m + 1, a, b, c, d, e, f, g, h, σ => by
  rw [aloop, rpartss1_eq]
  simp only [rpartsl1_eq call n m]
  rfl
theorem rpartss0_eq (call : CallF) (n : Nat) (F0 : St → Option Res) (a b h c d : Int) (e : ByteArray) (f g : LL) (σ : Sto) :
  aexec C rpartsH call n (cp [0,0,1,0,1,1] rpartsC) 0 (rpartst0 a b h c d e f g σ) (kloop rpartsk0 F0 (kblk 0 (kseq (fun st' => aexec C rpartsH call n (cp [1,1,1] rpartsC) 0 st' (kfin C rpartsD)) (kfin C rpartsD)))) =
  rpartss0 call (fun a b i c d e f g σ => aloop (fun st K => aexec C rpartsH call n (cp [0,0,1,0,1,1,1] rpartsC) 0 st K) rpartsk1 n (rpartst1 a b i c d e f g σ) (kblk 2 (kseq (fun st' => aexec C rpartsH call n (cp [1,1,1,1] rpartsC) 0 st' (kfin C rpartsD)) (kfin C rpartsD)))) (fun a b h c d e f g σ => F0 (rpartst0 a b h c d e f g σ)) a b h c d e f g σ := by kernel_rfl
theorem rpartsl0_eq (call : CallF) (n : Nat) : ∀ (m : Nat) (a b c d e : Int) (f : ByteArray) (g h : LL) (σ : Sto),
  aloop (fun st K => aexec C rpartsH call n (cp [0,0,1,0,1,1] rpartsC) 0 st K) rpartsk0 m (rpartst0 a b c d e f g h σ) (kblk 0 (kseq (fun st' => aexec C rpartsH call n (cp [1,1,1] rpartsC) 0 st' (kfin C rpartsD)) (kfin C rpartsD))) = rpartsl0 call n m a b c d e f g h σ
 | 0, a, b, c, d, e, f, g, h, σ => rfl
 | m + 1, a, b, c, d, e, f, g, h, σ => by
  rw [aloop, rpartss0_eq]
  simp only [rpartsl0_eq call n m, rpartsl1_eq]
  rfl
theorem rparts_eqF (call : CallF) (n : Nat) (b c : Int) (d : ByteArray) (e f : LL) (a : Int) (σ : Sto) : afun C rpartsD call n [(V.agg [V.int .i64 b, V.int .i64 c, V.str d, V.slice 3 44 e, V.slice 5 30 f], false), (V.int .i64 a, false)] σ =
  rpartsF call (fun a g h i j k o p σ => aloop (fun st K => aexec C rpartsH call n (cp [0,0,1,0,1,1] rpartsC) 0 st K) rpartsk0 n (rpartst0 a g h i j k o p σ) (kblk 0 (kseq (fun st' => aexec C rpartsH call n (cp [1,1,1] rpartsC) 0 st' (kfin C rpartsD)) (kfin C rpartsD)))) b c d e f a σ := by kernel_rfl
theorem rparts_eq (call : CallF) (n : Nat) (a b : Int) (c : ByteArray) (d e : LL) (f : Int) (σ : Sto) : afun C rpartsD call n [(V.agg [V.int .i64 a, V.int .i64 b, V.str c, V.slice 3 44 d, V.slice 5 30 e], false), (V.int .i64 f, false)] σ = rparts call n a b c d e f σ := by
 rw [rparts_eqF]
 simp only [rpartsl0_eq]
 rfl
theorem rparts_lim {n : Nat} {a : Int} {b : Int} {c : ByteArray} {e : LL} {f : LL} {g : Int} {b0 b1 : Bool} {σ : Sto} {r : Res} (h : rparts (lim C) n a b c e f g σ = some r) : lim C 31 [(V.agg [V.int .i64 a, V.int .i64 b, V.str c, V.slice 3 44 e, V.slice 5 30 f], b0), (V.int .i64 g, b1)] σ = some r :=
 lim_of (d := rpartsD) (by kernel_rfl) (by kernel_rfl) n (show afun C rpartsD (lim C) n [(V.agg [V.int .i64 a, V.int .i64 b, V.str c, V.slice 3 44 e, V.slice 5 30 f], false), (V.int .i64 g, false)] σ = some r from (rparts_eq (lim C) n a b c e f g σ).trans h)
end Go.Ab.Mk
end
section
set_option maxRecDepth 100000
namespace Go.Ab.Mk
open Go.Proofs Go.Ab
open List (getD)
open IntKind (wrap)
noncomputable def rusesk0 : List Nat := [1, 2, 5, 6]
noncomputable def rusess0 (call : CallF) (rec0 : Int → Int → Int → Int → Int → ByteArray → LL → LL → RR) (c d a e f : Int) (g : ByteArray) (h b : LL) (σ : Sto) : Option Res :=
 bif (decide (a < (b.length : Int))) then
 callK call 43 [(V.agg [V.int .i64 e, V.int .i64 f, V.str g, V.slice 3 44 h, V.slice 5 30 b], false), (V.int .i64 a, false)] σ 1 (fun j i =>
 (V.asBool (getD j 0 cellD).1).bind fun b4 =>
 bif b4 then
 (grd (decide (0 ≤ a) && decide (a < b.length))).bind fun _ =>
 callK call 32 [(V.agg [(getD (getD b a.toNat []) 0 V.any), (getD (getD b a.toNat []) 1 V.any), (getD (getD b a.toNat []) 2 V.any), (getD (getD b a.toNat []) 3 V.any), (getD (getD b a.toNat []) 4 V.any)], false), ((V.int .i64 (wrap .i64 (c + (1 : Int)))), false)] i 1 (fun k o =>
 (V.asInt (getD k 0 cellD).1 .i64).bind fun i8 =>
 rec0 c (wrap .i64 (d + i8)) (wrap .i64 (a + (1 : Int))) e f g h b o) pnK
 else
 (grd (decide (0 ≤ a) && decide (a < b.length))).bind fun _ =>
 callK call 32 [(V.agg [(getD (getD b a.toNat []) 0 V.any), (getD (getD b a.toNat []) 1 V.any), (getD (getD b a.toNat []) 2 V.any), (getD (getD b a.toNat []) 3 V.any), (getD (getD b a.toNat []) 4 V.any)], false), (V.int .i64 c, false)] i 1 (fun p q =>
 (V.asInt (getD p 0 cellD).1 .i64).bind fun i12 =>
 rec0 c (wrap .i64 (d + i12)) (wrap .i64 (a + (1 : Int))) e f g h b q) pnK) pnK
 else
 some (.ret [(V.int .i64 d, false)], σ)
noncomputable def rusesl0 (call : CallF) (n : Nat) : Nat → Int → Int → Int → Int → Int → ByteArray → LL → LL → RR
 | 0 => fun _ _ _ _ _ _ _ _ _ => none
 | m + 1 => rusess0 call (rusesl0 call n m)
noncomputable def rusest0 (a b c d e : Int) (f : ByteArray) (g h : LL) (σ : Sto) : St := ⟨[.dead, .val (V.int .i64 a) false, .lptr 2 0, .dead, .dead, .val (V.int .i64 b) false, .val (V.int .i64 c) false] ++ dd 35 [], [[], [], [(V.int .i64 d, false), (V.int .i64 e, false), (V.str f, false), (V.slice 3 44 g, false), (V.slice 5 30 h, false)]] ++ nn 39 [], σ⟩
noncomputable def rusesF (call : CallF) (L0 : Int → Int → Int → Int → Int → ByteArray → LL → LL → RR) (a b : Int) (d : ByteArray) (e f : LL) (c : Int) (σ : Sto) : Option Res :=
 bif (a == (0 : Int)) then
 bif (b == c) then
 some (.ret [((V.int .i64 (1 : Int)), false)], σ)
 else
 L0 c (0 : Int) (0 : Int) a b d e f σ
 else
 L0 c (0 : Int) (0 : Int) a b d e f σ
noncomputable def ruses (call : CallF) (n : Nat) (a b : Int) (c : ByteArray) (d e : LL) (f : Int) (σ : Sto) : Option Res := rusesF call (rusesl0 call n n) a b c d e f σ
theorem rusess0_eq (call : CallF) (n : Nat) (F0 : St → Option Res) (a b c d e : Int) (f : ByteArray) (g h : LL) (σ : Sto) :
  aexec C rusesH call n (cp [0,0,1,0,1,1,1] rusesC) 0 (rusest0 a b c d e f g h σ) (kloop rusesk0 F0 (kblk 0 (kseq (fun st' => aexec C rusesH call n (cp [1,1,1,1] rusesC) 0 st' (kfin C rusesD)) (kfin C rusesD)))) =
  rusess0 call (fun a b c d e f g h σ => F0 (rusest0 a b c d e f g h σ)) a b c d e f g h σ := by kernel_rfl
theorem rusesl0_eq (call : CallF) (n : Nat) : ∀ (m : Nat) (a b c d e : Int) (f : ByteArray) (g h : LL) (σ : Sto),
  aloop (fun st K => aexec C rusesH call n (cp [0,0,1,0,1,1,1] rusesC) 0 st K) rusesk0 m (rusest0 a b c d e f g h σ) (kblk 0 (kseq (fun st' => aexec C rusesH call n (cp [1,1,1,1] rusesC) 0 st' (kfin C rusesD)) (kfin C rusesD))) = rusesl0 call n m a b c d e f g h σ
 | 0, a, b, c, d, e, f, g, h, σ => rfl
 | m + 1, a, b, c, d, e, f, g, h, σ => by
  rw [aloop, rusess0_eq]
  simp only [rusesl0_eq call n m]
  rfl
theorem ruses_eqF (call : CallF) (n : Nat) (a b : Int) (c : ByteArray) (d e : LL) (f : Int) (σ : Sto) : afun C rusesD call n [(V.agg [V.int .i64 a, V.int .i64 b, V.str c, V.slice 3 44 d, V.slice 5 30 e], false), (V.int .i64 f, false)] σ =
  rusesF call (fun g h i j k o p q σ => aloop (fun st K => aexec C rusesH call n (cp [0,0,1,0,1,1,1] rusesC) 0 st K) rusesk0 n (rusest0 g h i j k o p q σ) (kblk 0 (kseq (fun st' => aexec C rusesH call n (cp [1,1,1,1] rusesC) 0 st' (kfin C rusesD)) (kfin C rusesD)))) a b c d e f σ := by kernel_rfl
theorem ruses_eq (call : CallF) (n : Nat) (a b : Int) (c : ByteArray) (d e : LL) (f : Int) (σ : Sto) : afun C rusesD call n [(V.agg [V.int .i64 a, V.int .i64 b, V.str c, V.slice 3 44 d, V.slice 5 30 e], false), (V.int .i64 f, false)] σ = ruses call n a b c d e f σ := by
 rw [ruses_eqF]
 simp only [rusesl0_eq]
 rfl
theorem ruses_lim {n : Nat} {a : Int} {b : Int} {c : ByteArray} {e : LL} {f : LL} {g : Int} {b0 b1 : Bool} {σ : Sto} {r : Res} (h : ruses (lim C) n a b c e f g σ = some r) : lim C 32 [(V.agg [V.int .i64 a, V.int .i64 b, V.str c, V.slice 3 44 e, V.slice 5 30 f], b0), (V.int .i64 g, b1)] σ = some r :=
 lim_of (d := rusesD) (by kernel_rfl) (by kernel_rfl) n (show afun C rusesD (lim C) n [(V.agg [V.int .i64 a, V.int .i64 b, V.str c, V.slice 3 44 e, V.slice 5 30 f], false), (V.int .i64 g, false)] σ = some r from (ruses_eq (lim C) n a b c e f g σ).trans h)
noncomputable def muchF (call : CallF) (a b : Int) (c : ByteArray) (d e : LL) (h i : Int) (j : ByteArray) (k o : LL) (σ : Sto) : Option Res :=
 callK call 31 [(V.agg [V.int .i64 a, V.int .i64 b, V.str c, V.slice 3 44 d, V.slice 5 30 e], false), ((V.int .i64 (20000 : Int)), false)] σ 1 (fun f g =>
 (V.asInt (getD f 0 cellD).1 .i64).bind fun i4 =>
 bif (decide (i4 > (20000 : Int))) then
 some (.ret [(V.bool true, false)], g)
 else
 callK call 32 [(V.agg [V.int .i64 a, V.int .i64 b, V.str c, V.slice 3 44 d, V.slice 5 30 e], false), ((V.int .i64 (0 : Int)), false)] g 1 (fun p q =>
 callK call 31 [(V.agg [V.int .i64 h, V.int .i64 i, V.str j, V.slice 3 44 k, V.slice 5 30 o], false), ((V.int .i64 (20000 : Int)), false)] q 1 (fun r s =>
 (V.asInt (getD p 0 cellD).1 .i64).bind fun i11 =>
 (V.asInt (getD r 0 cellD).1 .i64).bind fun i12 =>
 (V.asInt (getD f 0 cellD).1 .i64).bind fun i13 =>
 some (.ret [((V.bool (decide ((wrap .i64 (i13 + (wrap .i64 (i11 * i12)))) > (20000 : Int)))), false)], s)) pnK) pnK) pnK
noncomputable def much (call : CallF) (n : Nat) (a b : Int) (c : ByteArray) (d e : LL) (f g : Int) (h : ByteArray) (i j : LL) (σ : Sto) : Option Res := muchF call a b c d e f g h i j σ
theorem much_eqF (call : CallF) (n : Nat) (a b : Int) (c : ByteArray) (d e : LL) (f g : Int) (h : ByteArray) (i j : LL) (σ : Sto) : afun C muchD call n [(V.agg [V.int .i64 a, V.int .i64 b, V.str c, V.slice 3 44 d, V.slice 5 30 e], false), (V.agg [V.int .i64 f, V.int .i64 g, V.str h, V.slice 3 44 i, V.slice 5 30 j], false)] σ =
  muchF call a b c d e f g h i j σ := by kernel_rfl
theorem much_eq (call : CallF) (n : Nat) (a b : Int) (c : ByteArray) (d e : LL) (f g : Int) (h : ByteArray) (i j : LL) (σ : Sto) : afun C muchD call n [(V.agg [V.int .i64 a, V.int .i64 b, V.str c, V.slice 3 44 d, V.slice 5 30 e], false), (V.agg [V.int .i64 f, V.int .i64 g, V.str h, V.slice 3 44 i, V.slice 5 30 j], false)] σ = much call n a b c d e f g h i j σ := much_eqF call n a b c d e f g h i j σ
theorem much_lim {n : Nat} {a : Int} {b : Int} {c : ByteArray} {e : LL} {f : LL} {g : Int} {i : Int} {j : ByteArray} {k : LL} {o : LL} {b0 b1 : Bool} {σ : Sto} {r : Res} (h : much (lim C) n a b c e f g i j k o σ = some r) : lim C 6 [(V.agg [V.int .i64 a, V.int .i64 b, V.str c, V.slice 3 44 e, V.slice 5 30 f], b0), (V.agg [V.int .i64 g, V.int .i64 i, V.str j, V.slice 3 44 k, V.slice 5 30 o], b1)] σ = some r :=
 lim_of (d := muchD) (by kernel_rfl) (by kernel_rfl) n (show afun C muchD (lim C) n [(V.agg [V.int .i64 a, V.int .i64 b, V.str c, V.slice 3 44 e, V.slice 5 30 f], false), (V.agg [V.int .i64 g, V.int .i64 i, V.str j, V.slice 3 44 k, V.slice 5 30 o], false)] σ = some r from (much_eq (lim C) n a b c e f g i j k o σ).trans h)
noncomputable def tsomek0 : List Nat := [1, 2, 3, 15, 16, 17]
noncomputable def tsomes0 (call : CallF) (rec0 : Int → V → LL → Int → Int → Int → Int → ByteArray → LL → LL → RR) (c : Int) (d : V) (b : LL) (e a f h : Int) (i : ByteArray) (j g : LL) (σ : Sto) : Option Res :=
 bif (decide (a < e)) then
 (grd (decide (0 ≤ a) && decide (a < b.length))).bind fun _ =>
 bif (decide (f ≥ (4 : Int))) then
 bif (a == (wrap .i64 ((g.length : Int) - (1 : Int)))) then
 callK call 36 [(V.agg [(getD (getD b a.toNat []) 0 V.any), (getD (getD b a.toNat []) 1 V.any), (getD (getD b a.toNat []) 2 V.any), (getD (getD b a.toNat []) 3 V.any), (getD (getD b a.toNat []) 4 V.any)], false), ((V.int .i64 (wrap .i64 (c + (1 : Int)))), false), (d, false)] σ 1 (fun q k =>
 (V.asBool (getD q 0 cellD).1).bind fun b4 =>
 bif b4 then
 some (.ret [(V.bool true, false)], k)
 else
 rec0 c d b e (wrap .i64 (a + (1 : Int))) f h i j g k) pnK
 else
 callK call 36 [(V.agg [(getD (getD b a.toNat []) 0 V.any), (getD (getD b a.toNat []) 1 V.any), (getD (getD b a.toNat []) 2 V.any), (getD (getD b a.toNat []) 3 V.any), (getD (getD b a.toNat []) 4 V.any)], false), (V.int .i64 c, false), (d, false)] σ 1 (fun r o =>
 (V.asBool (getD r 0 cellD).1).bind fun b8 =>
 bif b8 then
 some (.ret [(V.bool true, false)], o)
 else
 rec0 c d b e (wrap .i64 (a + (1 : Int))) f h i j g o) pnK
 else
 callK call 36 [(V.agg [(getD (getD b a.toNat []) 0 V.any), (getD (getD b a.toNat []) 1 V.any), (getD (getD b a.toNat []) 2 V.any), (getD (getD b a.toNat []) 3 V.any), (getD (getD b a.toNat []) 4 V.any)], false), (V.int .i64 c, false), (d, false)] σ 1 (fun s p =>
 (V.asBool (getD s 0 cellD).1).bind fun b12 =>
 bif b12 then
 some (.ret [(V.bool true, false)], p)
 else
 rec0 c d b e (wrap .i64 (a + (1 : Int))) f h i j g p) pnK
 else
 some (.ret [(V.bool false, false)], σ)
noncomputable def tsomel0 (call : CallF) (n : Nat) : Nat → Int → V → LL → Int → Int → Int → Int → ByteArray → LL → LL → RR
 | 0 => fun _ _ _ _ _ _ _ _ _ _ _ => none
 | m + 1 => tsomes0 call (tsomel0 call n m)
noncomputable def tsomet0 (a : Int) (b : V) (c : LL) (d e f g : Int) (h : ByteArray) (i j : LL) (σ : Sto) : St := ⟨[.dead, .val (V.int .i64 a) false, .val b false, .lptr 3 0] ++ dd 11 ([.val (V.slice 5 30 c) false, .val (V.int .i64 d) false, .val (V.int .i64 e) false] ++ dd 23 []), [[], [], [], [(V.int .i64 f, false), (V.int .i64 g, false), (V.str h, false), (V.slice 3 44 i, false), (V.slice 5 30 j, false)]] ++ nn 37 [], σ⟩
noncomputable def tsomeF (call : CallF) (L0 : Int → V → LL → Int → Int → Int → Int → ByteArray → LL → LL → RR) (b c : Int) (d : ByteArray) (e a : LL) (f : Int) (g : V) (σ : Sto) : Option Res :=
 (V.asFunc g).bind fun fn1 =>
 callK call fn1.1 (fn1.2.1.map (fun v => (v, false)) ++ [(V.agg [V.int .i64 b, V.int .i64 c, V.str d, V.slice 3 44 e, V.slice 5 30 a], false), (V.int .i64 f, false)] ++ fn1.2.2.map fun v => (v, false)) σ 1 (fun i h =>
 (V.asBool (getD i 0 cellD).1).bind fun b5 =>
 bif b5 then
 some (.ret [(V.bool true, false)], h)
 else
 L0 f g a (a.length : Int) (0 : Int) b c d e a h) pnK
noncomputable def tsome (call : CallF) (n : Nat) (a b : Int) (c : ByteArray) (d e : LL) (f : Int) (g : V) (σ : Sto) : Option Res := tsomeF call (tsomel0 call n n) a b c d e f g σ
theorem tsomes0_eq (call : CallF) (n : Nat) (F0 : St → Option Res) (a : Int) (b : V) (c : LL) (d e f g : Int) (h : ByteArray) (i j : LL) (σ : Sto) :
  aexec C tsomeH call n (cp [0,0,1,0,1,1] tsomeC) 0 (tsomet0 a b c d e f g h i j σ) (kloop tsomek0 F0 (kblk 0 (kseq (fun st' => aexec C tsomeH call n (cp [1,1,1] tsomeC) 0 st' (kfin C tsomeD)) (kfin C tsomeD)))) =
  tsomes0 call (fun a b c d e f g h i j σ => F0 (tsomet0 a b c d e f g h i j σ)) a b c d e f g h i j σ := by kernel_rfl
theorem tsomel0_eq (call : CallF) (n : Nat) : ∀ (m : Nat) (a : Int) (b : V) (c : LL) (d e f g : Int) (h : ByteArray) (i j : LL) (σ : Sto),
  aloop (fun st K => aexec C tsomeH call n (cp [0,0,1,0,1,1] tsomeC) 0 st K) tsomek0 m (tsomet0 a b c d e f g h i j σ) (kblk 0 (kseq (fun st' => aexec C tsomeH call n (cp [1,1,1] tsomeC) 0 st' (kfin C tsomeD)) (kfin C tsomeD))) = tsomel0 call n m a b c d e f g h i j σ
 | 0, a, b, c, d, e, f, g, h, i, j, σ => rfl
 | m + 1, a, b, c, d, e, f, g, h, i, j, σ => by
  rw [aloop, tsomes0_eq]
  simp only [tsomel0_eq call n m]
  rfl
theorem tsome_eqF (call : CallF) (n : Nat) (c d : Int) (e : ByteArray) (f g : LL) (a : Int) (b : V) (σ : Sto) : afun C tsomeD call n [(V.agg [V.int .i64 c, V.int .i64 d, V.str e, V.slice 3 44 f, V.slice 5 30 g], false), (V.int .i64 a, false), (b, false)] σ =
  tsomeF call (fun a b h i j k o p q r σ => aloop (fun st K => aexec C tsomeH call n (cp [0,0,1,0,1,1] tsomeC) 0 st K) tsomek0 n (tsomet0 a b h i j k o p q r σ) (kblk 0 (kseq (fun st' => aexec C tsomeH call n (cp [1,1,1] tsomeC) 0 st' (kfin C tsomeD)) (kfin C tsomeD)))) c d e f g a b σ := by kernel_rfl
theorem tsome_eq (call : CallF) (n : Nat) (a b : Int) (c : ByteArray) (d e : LL) (f : Int) (g : V) (σ : Sto) : afun C tsomeD call n [(V.agg [V.int .i64 a, V.int .i64 b, V.str c, V.slice 3 44 d, V.slice 5 30 e], false), (V.int .i64 f, false), (g, false)] σ = tsome call n a b c d e f g σ := by
 rw [tsome_eqF]
 simp only [tsomel0_eq]
 rfl
theorem tsome_lim {n : Nat} {a : Int} {b : Int} {c : ByteArray} {e : LL} {f : LL} {g : Int} {i : V} {b0 b1 b2 : Bool} {σ : Sto} {r : Res} (h : tsome (lim C) n a b c e f g i σ = some r) : lim C 36 [(V.agg [V.int .i64 a, V.int .i64 b, V.str c, V.slice 3 44 e, V.slice 5 30 f], b0), (V.int .i64 g, b1), (i, b2)] σ = some r :=
 lim_of (d := tsomeD) (by kernel_rfl) (by kernel_rfl) n (show afun C tsomeD (lim C) n [(V.agg [V.int .i64 a, V.int .i64 b, V.str c, V.slice 3 44 e, V.slice 5 30 f], false), (V.int .i64 g, false), (i, false)] σ = some r from (tsome_eq (lim C) n a b c e f g i σ).trans h)
noncomputable def closed1F (call : CallF) (a b : Int) (e : ByteArray) (f g : LL) (c : Int) (d : Nat) (σ : Sto) : Option Res :=
 bif (a == (0 : Int)) then
 (memGet σ (V.ptr 3 d 0) false 1).bind fun m1 =>
 (V.asInt m1 .i64).bind fun i2 =>
 some (.ret [(V.bool (decide (b ≥ (wrap .i64 (i2 + c)))), false)], σ)
 else
 some (.ret [(V.bool false, false)], σ)
noncomputable def closed1 (call : CallF) (n : Nat) (a b : Int) (c : ByteArray) (d e : LL) (f : Int) (g : Nat) (σ : Sto) : Option Res := closed1F call a b c d e f g σ
theorem closed1_eqF (call : CallF) (n : Nat) (a b : Int) (c : ByteArray) (d e : LL) (f : Int) (g : Nat) (σ : Sto) : afun C closed1D call n [(V.agg [V.int .i64 a, V.int .i64 b, V.str c, V.slice 3 44 d, V.slice 5 30 e], false), (V.int .i64 f, false), (V.ptr 3 g 0, false)] σ =
  closed1F call a b c d e f g σ := by kernel_rfl
theorem closed1_eq (call : CallF) (n : Nat) (a b : Int) (c : ByteArray) (d e : LL) (f : Int) (g : Nat) (σ : Sto) : afun C closed1D call n [(V.agg [V.int .i64 a, V.int .i64 b, V.str c, V.slice 3 44 d, V.slice 5 30 e], false), (V.int .i64 f, false), (V.ptr 3 g 0, false)] σ = closed1 call n a b c d e f g σ := closed1_eqF call n a b c d e f g σ
theorem closed1_lim {n : Nat} {a : Int} {b : Int} {c : ByteArray} {e : LL} {f : LL} {g : Int} {i : Nat} {b0 b1 b2 : Bool} {σ : Sto} {r : Res} (h : closed1 (lim C) n a b c e f g i σ = some r) : lim C 37 [(V.agg [V.int .i64 a, V.int .i64 b, V.str c, V.slice 3 44 e, V.slice 5 30 f], b0), (V.int .i64 g, b1), (V.ptr 3 i 0, b2)] σ = some r :=
 lim_of (d := closed1D) (by kernel_rfl) (by kernel_rfl) n (show afun C closed1D (lim C) n [(V.agg [V.int .i64 a, V.int .i64 b, V.str c, V.slice 3 44 e, V.slice 5 30 f], false), (V.int .i64 g, false), (V.ptr 3 i 0, false)] σ = some r from (closed1_eq (lim C) n a b c e f g i σ).trans h)
noncomputable def has1F (call : CallF) (a d : Int) (b : ByteArray) (e f : LL) (__1 : Int) (c : Nat) (σ : Sto) : Option Res :=
 bif (a == (2 : Int)) then
 (memGet σ (V.ptr 9 c 0) false 1).bind fun m1 =>
 (V.asStr m1).bind fun s2 =>
 some (.ret [(V.bool (b.toList == s2.toList), false)], σ)
 else
 some (.ret [(V.bool false, false)], σ)
noncomputable def has1 (call : CallF) (n : Nat) (a b : Int) (c : ByteArray) (d e : LL) (__1 : Int) (f : Nat) (σ : Sto) : Option Res := has1F call a b c d e __1 f σ
theorem has1_eqF (call : CallF) (n : Nat) (a b : Int) (c : ByteArray) (d e : LL) (__1 : Int) (f : Nat) (σ : Sto) : afun C has1D call n [(V.agg [V.int .i64 a, V.int .i64 b, V.str c, V.slice 3 44 d, V.slice 5 30 e], false), (V.int .i64 __1, false), (V.ptr 9 f 0, false)] σ =
  has1F call a b c d e __1 f σ := by kernel_rfl
theorem has1_eq (call : CallF) (n : Nat) (a b : Int) (c : ByteArray) (d e : LL) (__1 : Int) (f : Nat) (σ : Sto) : afun C has1D call n [(V.agg [V.int .i64 a, V.int .i64 b, V.str c, V.slice 3 44 d, V.slice 5 30 e], false), (V.int .i64 __1, false), (V.ptr 9 f 0, false)] σ = has1 call n a b c d e __1 f σ := has1_eqF call n a b c d e __1 f σ
theorem has1_lim {n : Nat} {a : Int} {b : Int} {c : ByteArray} {e : LL} {f : LL} {__1 : Int} {g : Nat} {b0 b1 b2 : Bool} {σ : Sto} {r : Res} (h : has1 (lim C) n a b c e f __1 g σ = some r) : lim C 38 [(V.agg [V.int .i64 a, V.int .i64 b, V.str c, V.slice 3 44 e, V.slice 5 30 f], b0), (V.int .i64 __1, b1), (V.ptr 9 g 0, b2)] σ = some r :=
 lim_of (d := has1D) (by kernel_rfl) (by kernel_rfl) n (show afun C has1D (lim C) n [(V.agg [V.int .i64 a, V.int .i64 b, V.str c, V.slice 3 44 e, V.slice 5 30 f], false), (V.int .i64 __1, false), (V.ptr 9 g 0, false)] σ = some r from (has1_eq (lim C) n a b c e f __1 g σ).trans h)
noncomputable def eqLevelsk0 : List Nat := [1, 2, 15, 16, 17]
noncomputable def eqLevelss0 (call : CallF) (rec0 : LL → V → LL → Int → Int → RR) (b : LL) (d : V) (c : LL) (e a : Int) (σ : Sto) : Option Res :=
 bif (decide (a < e)) then
 (grd (decide (0 ≤ a) && decide (a < c.length))).bind fun _ =>
 (grd (decide (0 ≤ a) && decide (a < b.length))).bind fun _ =>
 (V.asFunc d).bind fun fn1 =>
 callK call fn1.1 (fn1.2.1.map (fun v => (v, false)) ++ [(V.agg [(getD (getD c a.toNat []) 0 V.any), (getD (getD c a.toNat []) 1 V.any), (getD (getD c a.toNat []) 2 V.any)], false), (V.agg [(getD (getD b a.toNat []) 0 V.any), (getD (getD b a.toNat []) 1 V.any), (getD (getD b a.toNat []) 2 V.any)], false)] ++ fn1.2.2.map fun v => (v, false)) σ 1 (fun g f =>
 (V.asBool (getD g 0 cellD).1).bind fun b5 =>
 bif (!b5) then
 some (.ret [(V.bool false, false)], f)
 else
 rec0 b d c e (wrap .i64 (a + (1 : Int))) f) pnK
 else
 some (.ret [(V.bool true, false)], σ)
noncomputable def eqLevelsl0 (call : CallF) (n : Nat) : Nat → LL → V → LL → Int → Int → RR
 | 0 => fun _ _ _ _ _ _ => none
 | m + 1 => eqLevelss0 call (eqLevelsl0 call n m)
noncomputable def eqLevelst0 (a : LL) (b : V) (c : LL) (d e : Int) (σ : Sto) : St := ⟨[.dead, .val (V.slice 3 44 a) false, .val b false] ++ dd 12 ([.val (V.slice 3 44 c) false, .val (V.int .i64 d) false, .val (V.int .i64 e) false] ++ dd 14 []), nn 32 [], σ⟩
noncomputable def eqLevelsF (call : CallF) (L0 : LL → V → LL → Int → Int → RR) (a b : LL) (c : V) (σ : Sto) : Option Res :=
 bif ((a.length : Int) != (b.length : Int)) then
 some (.ret [(V.bool false, false)], σ)
 else
 L0 b c a (a.length : Int) (0 : Int) σ
noncomputable def eqLevels (call : CallF) (n : Nat) (a b : LL) (c : V) (σ : Sto) : Option Res := eqLevelsF call (eqLevelsl0 call n n) a b c σ
theorem eqLevelss0_eq (call : CallF) (n : Nat) (F0 : St → Option Res) (a : LL) (b : V) (c : LL) (d e : Int) (σ : Sto) :
  aexec C eqLevelsH call n (cp [0,0,1,0,1,1] eqLevelsC) 0 (eqLevelst0 a b c d e σ) (kloop eqLevelsk0 F0 (kblk 0 (kseq (fun st' => aexec C eqLevelsH call n (cp [1,1,1] eqLevelsC) 0 st' (kfin C eqLevelsD)) (kfin C eqLevelsD)))) =
  eqLevelss0 call (fun a b c d e σ => F0 (eqLevelst0 a b c d e σ)) a b c d e σ := by kernel_rfl
theorem eqLevelsl0_eq (call : CallF) (n : Nat) : ∀ (m : Nat) (a : LL) (b : V) (c : LL) (d e : Int) (σ : Sto),
  aloop (fun st K => aexec C eqLevelsH call n (cp [0,0,1,0,1,1] eqLevelsC) 0 st K) eqLevelsk0 m (eqLevelst0 a b c d e σ) (kblk 0 (kseq (fun st' => aexec C eqLevelsH call n (cp [1,1,1] eqLevelsC) 0 st' (kfin C eqLevelsD)) (kfin C eqLevelsD))) = eqLevelsl0 call n m a b c d e σ
 | 0, a, b, c, d, e, σ => rfl
 | m + 1, a, b, c, d, e, σ => by
  rw [aloop, eqLevelss0_eq]
  simp only [eqLevelsl0_eq call n m]
  rfl
theorem eqLevels_eqF (call : CallF) (n : Nat) (c a : LL) (b : V) (σ : Sto) : afun C eqLevelsD call n [(V.slice 3 44 c, false), (V.slice 3 44 a, false), (b, false)] σ =
  eqLevelsF call (fun a b d e f σ => aloop (fun st K => aexec C eqLevelsH call n (cp [0,0,1,0,1,1] eqLevelsC) 0 st K) eqLevelsk0 n (eqLevelst0 a b d e f σ) (kblk 0 (kseq (fun st' => aexec C eqLevelsH call n (cp [1,1,1] eqLevelsC) 0 st' (kfin C eqLevelsD)) (kfin C eqLevelsD)))) c a b σ := by kernel_rfl
theorem eqLevels_eq (call : CallF) (n : Nat) (a b : LL) (c : V) (σ : Sto) : afun C eqLevelsD call n [(V.slice 3 44 a, false), (V.slice 3 44 b, false), (c, false)] σ = eqLevels call n a b c σ := by
 rw [eqLevels_eqF]
 simp only [eqLevelsl0_eq]
 rfl
theorem eqLevels_lim {n : Nat} {a : LL} {b : LL} {c : V} {b0 b1 b2 : Bool} {σ : Sto} {r : Res} (h : eqLevels (lim C) n a b c σ = some r) : lim C 39 [(V.slice 3 44 a, b0), (V.slice 3 44 b, b1), (c, b2)] σ = some r :=
 lim_of (d := eqLevelsD) (by kernel_rfl) (by kernel_rfl) n (show afun C eqLevelsD (lim C) n [(V.slice 3 44 a, false), (V.slice 3 44 b, false), (c, false)] σ = some r from (eqLevels_eq (lim C) n a b c σ).trans h)
noncomputable def tsameLevelF (call : CallF) (a : Int) (b : ByteArray) (c : LL) (d : Int) (e : ByteArray) (f : LL) (σ : Sto) : Option Res :=
 callK call 62 [(V.agg [V.int .i64 a, V.str b, V.slice 3 44 c], false), (V.agg [V.int .i64 d, V.str e, V.slice 3 44 f], false)] σ 1 (fun h g =>
 (V.asBool (getD h 0 cellD).1).bind fun b4 =>
 bif b4 then
 some (.ret [(V.bool true, false)], g)
 else
 callK call 63 [(V.agg [V.int .i64 a, V.str b, V.slice 3 44 c], false), (V.agg [V.int .i64 d, V.str e, V.slice 3 44 f], false)] g 1 (fun i j =>
 some (.ret [((getD i 0 cellD).1, false)], j)) pnK) pnK
noncomputable def tsameLevel (call : CallF) (n : Nat) (a : Int) (b : ByteArray) (c : LL) (d : Int) (e : ByteArray) (f : LL) (σ : Sto) : Option Res := tsameLevelF call a b c d e f σ
theorem tsameLevel_eqF (call : CallF) (n : Nat) (a : Int) (b : ByteArray) (c : LL) (d : Int) (e : ByteArray) (f : LL) (σ : Sto) : afun C tsameLevelD call n [(V.agg [V.int .i64 a, V.str b, V.slice 3 44 c], false), (V.agg [V.int .i64 d, V.str e, V.slice 3 44 f], false)] σ =
  tsameLevelF call a b c d e f σ := by kernel_rfl
theorem tsameLevel_eq (call : CallF) (n : Nat) (a : Int) (b : ByteArray) (c : LL) (d : Int) (e : ByteArray) (f : LL) (σ : Sto) : afun C tsameLevelD call n [(V.agg [V.int .i64 a, V.str b, V.slice 3 44 c], false), (V.agg [V.int .i64 d, V.str e, V.slice 3 44 f], false)] σ = tsameLevel call n a b c d e f σ := tsameLevel_eqF call n a b c d e f σ
theorem tsameLevel_lim {n : Nat} {a : Int} {b : ByteArray} {c : LL} {e : Int} {f : ByteArray} {g : LL} {b0 b1 : Bool} {σ : Sto} {r : Res} (h : tsameLevel (lim C) n a b c e f g σ = some r) : lim C 40 [(V.agg [V.int .i64 a, V.str b, V.slice 3 44 c], b0), (V.agg [V.int .i64 e, V.str f, V.slice 3 44 g], b1)] σ = some r :=
 lim_of (d := tsameLevelD) (by kernel_rfl) (by kernel_rfl) n (show afun C tsameLevelD (lim C) n [(V.agg [V.int .i64 a, V.str b, V.slice 3 44 c], false), (V.agg [V.int .i64 e, V.str f, V.slice 3 44 g], false)] σ = some r from (tsameLevel_eq (lim C) n a b c e f g σ).trans h)
noncomputable def eqTermsk0 : List Nat := [1, 2, 15, 16, 17]
noncomputable def eqTermss0 (call : CallF) (rec0 : LL → V → LL → Int → Int → RR) (b : LL) (d : V) (c : LL) (e a : Int) (σ : Sto) : Option Res :=
 bif (decide (a < e)) then
 (grd (decide (0 ≤ a) && decide (a < c.length))).bind fun _ =>
 (grd (decide (0 ≤ a) && decide (a < b.length))).bind fun _ =>
 (V.asFunc d).bind fun fn1 =>
 callK call fn1.1 (fn1.2.1.map (fun v => (v, false)) ++ [(V.agg [(getD (getD c a.toNat []) 0 V.any), (getD (getD c a.toNat []) 1 V.any), (getD (getD c a.toNat []) 2 V.any), (getD (getD c a.toNat []) 3 V.any), (getD (getD c a.toNat []) 4 V.any)], false), (V.agg [(getD (getD b a.toNat []) 0 V.any), (getD (getD b a.toNat []) 1 V.any), (getD (getD b a.toNat []) 2 V.any), (getD (getD b a.toNat []) 3 V.any), (getD (getD b a.toNat []) 4 V.any)], false)] ++ fn1.2.2.map fun v => (v, false)) σ 1 (fun g f =>
 (V.asBool (getD g 0 cellD).1).bind fun b5 =>
 bif (!b5) then
 some (.ret [(V.bool false, false)], f)
 else
 rec0 b d c e (wrap .i64 (a + (1 : Int))) f) pnK
 else
 some (.ret [(V.bool true, false)], σ)
noncomputable def eqTermsl0 (call : CallF) (n : Nat) : Nat → LL → V → LL → Int → Int → RR
 | 0 => fun _ _ _ _ _ _ => none
 | m + 1 => eqTermss0 call (eqTermsl0 call n m)
noncomputable def eqTermst0 (a : LL) (b : V) (c : LL) (d e : Int) (σ : Sto) : St := ⟨[.dead, .val (V.slice 5 30 a) false, .val b false] ++ dd 12 ([.val (V.slice 5 30 c) false, .val (V.int .i64 d) false, .val (V.int .i64 e) false] ++ dd 14 []), nn 32 [], σ⟩
noncomputable def eqTermsF (call : CallF) (L0 : LL → V → LL → Int → Int → RR) (a b : LL) (c : V) (σ : Sto) : Option Res :=
 bif ((a.length : Int) != (b.length : Int)) then
 some (.ret [(V.bool false, false)], σ)
 else
 L0 b c a (a.length : Int) (0 : Int) σ
noncomputable def eqTerms (call : CallF) (n : Nat) (a b : LL) (c : V) (σ : Sto) : Option Res := eqTermsF call (eqTermsl0 call n n) a b c σ
theorem eqTermss0_eq (call : CallF) (n : Nat) (F0 : St → Option Res) (a : LL) (b : V) (c : LL) (d e : Int) (σ : Sto) :
  aexec C eqTermsH call n (cp [0,0,1,0,1,1] eqTermsC) 0 (eqTermst0 a b c d e σ) (kloop eqTermsk0 F0 (kblk 0 (kseq (fun st' => aexec C eqTermsH call n (cp [1,1,1] eqTermsC) 0 st' (kfin C eqTermsD)) (kfin C eqTermsD)))) =
  eqTermss0 call (fun a b c d e σ => F0 (eqTermst0 a b c d e σ)) a b c d e σ := by kernel_rfl
theorem eqTermsl0_eq (call : CallF) (n : Nat) : ∀ (m : Nat) (a : LL) (b : V) (c : LL) (d e : Int) (σ : Sto),
  aloop (fun st K => aexec C eqTermsH call n (cp [0,0,1,0,1,1] eqTermsC) 0 st K) eqTermsk0 m (eqTermst0 a b c d e σ) (kblk 0 (kseq (fun st' => aexec C eqTermsH call n (cp [1,1,1] eqTermsC) 0 st' (kfin C eqTermsD)) (kfin C eqTermsD))) = eqTermsl0 call n m a b c d e σ
 | 0, a, b, c, d, e, σ => rfl
 | m + 1, a, b, c, d, e, σ => by
  rw [aloop, eqTermss0_eq]
  simp only [eqTermsl0_eq call n m]
  rfl
theorem eqTerms_eqF (call : CallF) (n : Nat) (c a : LL) (b : V) (σ : Sto) : afun C eqTermsD call n [(V.slice 5 30 c, false), (V.slice 5 30 a, false), (b, false)] σ =
  eqTermsF call (fun a b d e f σ => aloop (fun st K => aexec C eqTermsH call n (cp [0,0,1,0,1,1] eqTermsC) 0 st K) eqTermsk0 n (eqTermst0 a b d e f σ) (kblk 0 (kseq (fun st' => aexec C eqTermsH call n (cp [1,1,1] eqTermsC) 0 st' (kfin C eqTermsD)) (kfin C eqTermsD)))) c a b σ := by kernel_rfl
theorem eqTerms_eq (call : CallF) (n : Nat) (a b : LL) (c : V) (σ : Sto) : afun C eqTermsD call n [(V.slice 5 30 a, false), (V.slice 5 30 b, false), (c, false)] σ = eqTerms call n a b c σ := by
 rw [eqTerms_eqF]
 simp only [eqTermsl0_eq]
 rfl
theorem eqTerms_lim {n : Nat} {a : LL} {b : LL} {c : V} {b0 b1 b2 : Bool} {σ : Sto} {r : Res} (h : eqTerms (lim C) n a b c σ = some r) : lim C 41 [(V.slice 5 30 a, b0), (V.slice 5 30 b, b1), (c, b2)] σ = some r :=
 lim_of (d := eqTermsD) (by kernel_rfl) (by kernel_rfl) n (show afun C eqTermsD (lim C) n [(V.slice 5 30 a, false), (V.slice 5 30 b, false), (c, false)] σ = some r from (eqTerms_eq (lim C) n a b c σ).trans h)
end Go.Ab.Mk
end
