/- The plain laws: the reader's levels. -/
import Derived.Test.YtifoglinlcfelaaDoorAbMk2
import Derived.Test.YtifoglinlcfelaaDoorAbMk5
import Derived.Test.YtifoglinlcfelaaDoorAbMp
import Derived.Laws.Strings
set_option linter.unusedSimpArgs false
set_option linter.unusedVariables false
set_option linter.deprecated false
section
set_option maxRecDepth 100000
namespace Go.Ab.Mk
open Go.Proofs Go.Ab
open List (getD)
open IntKind (wrap)
noncomputable def writek0 : List Nat := [0, 16, 17, 18]
noncomputable def writes0 (call : CallF) (rec0 : Nat → LL → Int → Int → RR) (c : Nat) (b : LL) (d a : Int) (σ : Sto) : Option Res :=
 bif (decide (a < d)) then
 (grd (decide (0 ≤ a) && decide (a < b.length))).bind fun _ =>
 callK call 40 [(V.ptr 53 c 0, false), ((V.int .u8 (32 : Int)), false)] σ 1 (fun h e =>
 callK call 61 [(V.ptr 53 c 0, false), (V.agg [(getD (getD b a.toNat []) 0 V.any), (getD (getD b a.toNat []) 1 V.any), (getD (getD b a.toNat []) 2 V.any)], false)] e 0 (fun i f =>
 rec0 c b d (wrap .i64 (a + (1 : Int))) f) pnK) pnK
 else
 callK call 40 [(V.ptr 53 c 0, false), ((V.int .u8 (41 : Int)), false)] σ 1 (fun j g =>
 some (.ret [], g)) pnK
noncomputable def writel0 (call : CallF) (n : Nat) : Nat → Nat → LL → Int → Int → RR
 | 0 => fun _ _ _ _ _ => none
 | m + 1 => writes0 call (writel0 call n m)
noncomputable def writet0 (a : Nat) (b : LL) (c d : Int) (σ : Sto) : St := ⟨[.val (V.ptr 53 a 0) false] ++ dd 15 ([.val (V.slice 3 74 b) false, .val (V.int .i64 c) false, .val (V.int .i64 d) false] ++ dd 21 []), nn 40 [], σ⟩
noncomputable def writeF (call : CallF) (L0 : Nat → LL → Int → Int → RR) (b : Nat) (a : Int) (d : ByteArray) (c : LL) (σ : Sto) : Option Res :=
 bif (a == (0 : Int)) then
 callK call 37 [(V.ptr 53 b 0, false), (V.str ⟨#[48]⟩, false)] σ 2 (fun h e =>
 some (.ret [], e)) pnK
 else
 bif (a == (4 : Int)) then
 callK call 37 [(V.ptr 53 b 0, false), (V.str d, false)] σ 2 (fun i f =>
 some (.ret [], f)) pnK
 else
 (grd (decide (0 ≤ a) && decide (a < 4))).bind fun _ =>
 (memGet [] (V.eptr 4 [V.str ⟨#[]⟩, V.str ⟨#[115]⟩, V.str ⟨#[109, 97, 120]⟩, V.str ⟨#[105, 109, 97, 120]⟩] (0 + Int.toNat a * 1)) false 1).bind fun m7 =>
 (V.asStr m7).bind fun s8 =>
 (grd (strRoom (ByteArray.mk #[40]) s8)).bind fun _ =>
 callK call 37 [(V.ptr 53 b 0, false), (V.str ((ByteArray.mk #[40]) ++ s8), false)] σ 2 (fun j g =>
 L0 b c (c.length : Int) (0 : Int) g) pnK
noncomputable def write (call : CallF) (n a : Nat) (b : Int) (c : ByteArray) (d : LL) (σ : Sto) : Option Res := writeF call (writel0 call n n) a b c d σ
theorem writes0_eq (call : CallF) (n : Nat) (F0 : St → Option Res) (a : Nat) (b : LL) (c d : Int) (σ : Sto) :
  aexec C writeH call n (cp [0,0,1,0,1,1,1,1,1,0,1,1] writeC) 0 (writet0 a b c d σ) (kloop writek0 F0 (kblk 1 (kseq (fun st' => aexec C writeH call n (cp [1,1,1,1,1,1,0,1,1] writeC) 0 st' (kblk 0 (kfin C writeD))) (kblk 0 (kfin C writeD))))) =
  writes0 call (fun a b c d σ => F0 (writet0 a b c d σ)) a b c d σ := by kernel_rfl
theorem writel0_eq (call : CallF) (n : Nat) : ∀ (m a : Nat) (b : LL) (c d : Int) (σ : Sto),
  aloop (fun st K => aexec C writeH call n (cp [0,0,1,0,1,1,1,1,1,0,1,1] writeC) 0 st K) writek0 m (writet0 a b c d σ) (kblk 1 (kseq (fun st' => aexec C writeH call n (cp [1,1,1,1,1,1,0,1,1] writeC) 0 st' (kblk 0 (kfin C writeD))) (kblk 0 (kfin C writeD)))) = writel0 call n m a b c d σ
 | 0, a, b, c, d, σ => rfl
 | m + 1, a, b, c, d, σ => by
  rw [aloop, writes0_eq]
  simp only [writel0_eq call n m]
  rfl
theorem write_eqF (call : CallF) (n a : Nat) (b : Int) (c : ByteArray) (d : LL) (σ : Sto) : afun C writeD call n [(V.ptr 53 a 0, false), (V.agg [V.int .i64 b, V.str c, V.slice 3 74 d], false)] σ =
  writeF call (fun a e f g σ => aloop (fun st K => aexec C writeH call n (cp [0,0,1,0,1,1,1,1,1,0,1,1] writeC) 0 st K) writek0 n (writet0 a e f g σ) (kblk 1 (kseq (fun st' => aexec C writeH call n (cp [1,1,1,1,1,1,0,1,1] writeC) 0 st' (kblk 0 (kfin C writeD))) (kblk 0 (kfin C writeD))))) a b c d σ := by kernel_rfl
theorem write_eq (call : CallF) (n a : Nat) (b : Int) (c : ByteArray) (d : LL) (σ : Sto) : afun C writeD call n [(V.ptr 53 a 0, false), (V.agg [V.int .i64 b, V.str c, V.slice 3 74 d], false)] σ = write call n a b c d σ := by
 rw [write_eqF]
 simp only [writel0_eq]
 rfl
theorem write_lim {n : Nat} {a : Nat} {b : Int} {c : ByteArray} {e : LL} {b0 b1 : Bool} {σ : Sto} {r : Res} (h : write (lim C) n a b c e σ = some r) : lim C 61 [(V.ptr 53 a 0, b0), (V.agg [V.int .i64 b, V.str c, V.slice 3 74 e], b1)] σ = some r :=
 lim_of (d := writeD) (by kernel_rfl) (by kernel_rfl) n (show afun C writeD (lim C) n [(V.ptr 53 a 0, false), (V.agg [V.int .i64 b, V.str c, V.slice 3 74 e], false)] σ = some r from (write_eq (lim C) n a b c e σ).trans h)
noncomputable def srunk0 : List Nat := [0, 1, 2]
noncomputable def sruns0 (call : CallF) (rec0 : Nat → Int → V → RR) (b : Nat) (a : Int) (c : V) (σ : Sto) : Option Res :=
 (memGet σ (V.ptr 84 b 0) false 1).bind fun m1 =>
 (V.asStr m1).bind fun s2 =>
 bif (decide (a < (s2.size : Int))) then
 (memGet σ (V.ptr 84 b 0) false 1).bind fun m3 =>
 (V.asStr m3).bind fun s4 =>
 (grd (decide (0 ≤ a) && decide (a < s4.size))).bind fun _ =>
 (V.asFunc c).bind fun fn5 =>
 callK call fn5.1 (fn5.2.1.map (fun v => (v, false)) ++ [(V.int .u8 (byteAt s4 a.toNat), false)] ++ fn5.2.2.map fun v => (v, false)) σ 1 (fun e d =>
 (V.asBool (getD e 0 cellD).1).bind fun b9 =>
 bif b9 then
 rec0 b (wrap .i64 (a + (1 : Int))) c d
 else
 some (.ret [(V.int .i64 a, false)], d)) pnK
 else
 some (.ret [(V.int .i64 a, false)], σ)
noncomputable def srunl0 (call : CallF) (n : Nat) : Nat → Nat → Int → V → RR
 | 0 => fun _ _ _ _ => none
 | m + 1 => sruns0 call (srunl0 call n m)
noncomputable def srunt0 (a : Nat) (b : Int) (c : V) (σ : Sto) : St := ⟨[.val (V.ptr 84 a 0) false, .val (V.int .i64 b) false, .val c false] ++ dd 24 [], nn 27 [], σ⟩
noncomputable def srunF (call : CallF) (L0 : Nat → Int → V → RR) (a : Nat) (b : Int) (c : V) (σ : Sto) : Option Res :=
 L0 a b c σ
noncomputable def srun (call : CallF) (n a : Nat) (b : Int) (c : V) (σ : Sto) : Option Res := srunF call (srunl0 call n n) a b c σ
theorem sruns0_eq (call : CallF) (n : Nat) (F0 : St → Option Res) (a : Nat) (b : Int) (c : V) (σ : Sto) :
  aexec C srunH call n (cp [0,0,0,1] srunC) 0 (srunt0 a b c σ) (kloop srunk0 F0 (kblk 0 (kseq (fun st' => aexec C srunH call n (codeR (codeR srunC)) 0 st' (kfin C srunD)) (kfin C srunD)))) =
  sruns0 call (fun a b c σ => F0 (srunt0 a b c σ)) a b c σ := by kernel_rfl
theorem srunl0_eq (call : CallF) (n : Nat) : ∀ (m a : Nat) (b : Int) (c : V) (σ : Sto),
  aloop (fun st K => aexec C srunH call n (cp [0,0,0,1] srunC) 0 st K) srunk0 m (srunt0 a b c σ) (kblk 0 (kseq (fun st' => aexec C srunH call n (codeR (codeR srunC)) 0 st' (kfin C srunD)) (kfin C srunD))) = srunl0 call n m a b c σ
 | 0, a, b, c, σ => rfl
 | m + 1, a, b, c, σ => by
  rw [aloop, sruns0_eq]
  simp only [srunl0_eq call n m]
  rfl
theorem srun_eqF (call : CallF) (n a : Nat) (c : Int) (b : V) (σ : Sto) : afun C srunD call n [(V.ptr 84 a 0, false), (V.int .i64 c, false), (b, false)] σ =
  srunF call (fun a d b σ => aloop (fun st K => aexec C srunH call n (cp [0,0,0,1] srunC) 0 st K) srunk0 n (srunt0 a d b σ) (kblk 0 (kseq (fun st' => aexec C srunH call n (codeR (codeR srunC)) 0 st' (kfin C srunD)) (kfin C srunD)))) a c b σ := by kernel_rfl
theorem srun_eq (call : CallF) (n a : Nat) (b : Int) (c : V) (σ : Sto) : afun C srunD call n [(V.ptr 84 a 0, false), (V.int .i64 b, false), (c, false)] σ = srun call n a b c σ := by
 rw [srun_eqF]
 simp only [srunl0_eq]
 rfl
theorem srun_lim {n : Nat} {a : Nat} {b : Int} {c : V} {b0 b1 b2 : Bool} {σ : Sto} {r : Res} (h : srun (lim C) n a b c σ = some r) : lim C 62 [(V.ptr 84 a 0, b0), (V.int .i64 b, b1), (c, b2)] σ = some r :=
 lim_of (d := srunD) (by kernel_rfl) (by kernel_rfl) n (show afun C srunD (lim C) n [(V.ptr 84 a 0, false), (V.int .i64 b, false), (c, false)] σ = some r from (srun_eq (lim C) n a b c σ).trans h)
noncomputable def sblankF (call : CallF) (a : Int) (σ : Sto) : Option Res :=
 bif (a == (32 : Int)) then
 some (.ret [(V.bool true, false)], σ)
 else
 bif (a == (9 : Int)) then
 some (.ret [(V.bool true, false)], σ)
 else
 some (.ret [((V.bool (a == (10 : Int))), false)], σ)
noncomputable def sblank (call : CallF) (n : Nat) (a : Int) (σ : Sto) : Option Res := sblankF call a σ
theorem sblank_eqF (call : CallF) (n : Nat) (a : Int) (σ : Sto) : afun C sblankD call n [(V.int .u8 a, false)] σ =
  sblankF call a σ := by kernel_rfl
theorem sblank_eq (call : CallF) (n : Nat) (a : Int) (σ : Sto) : afun C sblankD call n [(V.int .u8 a, false)] σ = sblank call n a σ := sblank_eqF call n a σ
theorem sblank_lim {n : Nat} {a : Int} {b0 : Bool} {σ : Sto} {r : Res} (h : sblank (lim C) n a σ = some r) : lim C 63 [(V.int .u8 a, b0)] σ = some r :=
 lim_of (d := sblankD) (by kernel_rfl) (by kernel_rfl) n (show afun C sblankD (lim C) n [(V.int .u8 a, false)] σ = some r from (sblank_eq (lim C) n a σ).trans h)
noncomputable def letterF (call : CallF) (a : Int) (σ : Sto) : Option Res :=
 bif (decide ((IntKind.wrap .u8 ((BitVec.ofInt (IntKind.bits .u8) a ||| BitVec.ofInt (IntKind.bits .u8) (32 : Int)).toNat : Int)) ≥ (97 : Int))) then
 bif (decide ((IntKind.wrap .u8 ((BitVec.ofInt (IntKind.bits .u8) a ||| BitVec.ofInt (IntKind.bits .u8) (32 : Int)).toNat : Int)) ≤ (122 : Int))) then
 some (.ret [(V.bool true, false)], σ)
 else
 some (.ret [((V.bool (a == (95 : Int))), false)], σ)
 else
 some (.ret [((V.bool (a == (95 : Int))), false)], σ)
noncomputable def letter (call : CallF) (n : Nat) (a : Int) (σ : Sto) : Option Res := letterF call a σ
theorem letter_eqF (call : CallF) (n : Nat) (a : Int) (σ : Sto) : afun C letterD call n [(V.int .u8 a, false)] σ =
  letterF call a σ := by kernel_rfl
theorem letter_eq (call : CallF) (n : Nat) (a : Int) (σ : Sto) : afun C letterD call n [(V.int .u8 a, false)] σ = letter call n a σ := letter_eqF call n a σ
theorem letter_lim {n : Nat} {a : Int} {b0 : Bool} {σ : Sto} {r : Res} (h : letter (lim C) n a σ = some r) : lim C 64 [(V.int .u8 a, b0)] σ = some r :=
 lim_of (d := letterD) (by kernel_rfl) (by kernel_rfl) n (show afun C letterD (lim C) n [(V.int .u8 a, false)] σ = some r from (letter_eq (lim C) n a σ).trans h)
noncomputable def snmbF (call : CallF) (a : Int) (σ : Sto) : Option Res :=
 callK call 64 [(V.int .u8 a, false)] σ 1 (fun d c =>
 (V.asBool (getD d 0 cellD).1).bind fun b4 =>
 bif b4 then
 some (.ret [(V.bool true, false)], c)
 else
 callK call 66 [(V.int .u8 a, false)] c 1 (fun e b =>
 (V.asBool (getD e 0 cellD).1).bind fun b8 =>
 bif b8 then
 some (.ret [(V.bool true, false)], b)
 else
 bif (a == (46 : Int)) then
 some (.ret [(V.bool true, false)], b)
 else
 some (.ret [((V.bool (a == (39 : Int))), false)], b)) pnK) pnK
noncomputable def snmb (call : CallF) (n : Nat) (a : Int) (σ : Sto) : Option Res := snmbF call a σ
theorem snmb_eqF (call : CallF) (n : Nat) (a : Int) (σ : Sto) : afun C snmbD call n [(V.int .u8 a, false)] σ =
  snmbF call a σ := by kernel_rfl
theorem snmb_eq (call : CallF) (n : Nat) (a : Int) (σ : Sto) : afun C snmbD call n [(V.int .u8 a, false)] σ = snmb call n a σ := snmb_eqF call n a σ
theorem snmb_lim {n : Nat} {a : Int} {b0 : Bool} {σ : Sto} {r : Res} (h : snmb (lim C) n a σ = some r) : lim C 65 [(V.int .u8 a, b0)] σ = some r :=
 lim_of (d := snmbD) (by kernel_rfl) (by kernel_rfl) n (show afun C snmbD (lim C) n [(V.int .u8 a, false)] σ = some r from (snmb_eq (lim C) n a σ).trans h)
noncomputable def digitF (call : CallF) (a : Int) (σ : Sto) : Option Res :=
 bif (decide (a ≥ (48 : Int))) then
 some (.ret [((V.bool (decide (a ≤ (57 : Int)))), false)], σ)
 else
 some (.ret [(V.bool false, false)], σ)
noncomputable def digit (call : CallF) (n : Nat) (a : Int) (σ : Sto) : Option Res := digitF call a σ
theorem digit_eqF (call : CallF) (n : Nat) (a : Int) (σ : Sto) : afun C digitD call n [(V.int .u8 a, false)] σ =
  digitF call a σ := by kernel_rfl
theorem digit_eq (call : CallF) (n : Nat) (a : Int) (σ : Sto) : afun C digitD call n [(V.int .u8 a, false)] σ = digit call n a σ := digit_eqF call n a σ
theorem digit_lim {n : Nat} {a : Int} {b0 : Bool} {σ : Sto} {r : Res} (h : digit (lim C) n a σ = some r) : lim C 66 [(V.int .u8 a, b0)] σ = some r :=
 lim_of (d := digitD) (by kernel_rfl) (by kernel_rfl) n (show afun C digitD (lim C) n [(V.int .u8 a, false)] σ = some r from (digit_eq (lim C) n a σ).trans h)
noncomputable def cutPrefix1F (call : CallF) (a b : ByteArray) (σ : Sto) : Option Res :=
 callK call 74 [(V.str a, false), (V.str b, false)] σ 1 (fun d c =>
 (V.asBool (getD d 0 cellD).1).bind fun b4 =>
 bif (!b4) then
 some (.ret [(V.str a, false), (V.bool false, false)], c)
 else
 (grd (decide (0 ≤ (b.size : Int)) && decide ((b.size : Int) ≤ (a.size : Int)) && decide ((a.size : Int) ≤ a.size))).bind fun _ =>
 some (.ret [((V.str (a.extract (Int.toNat (b.size : Int)) (Int.toNat (a.size : Int)))), false), (V.bool true, false)], c)) pnK
noncomputable def cutPrefix1 (call : CallF) (n : Nat) (a b : ByteArray) (σ : Sto) : Option Res := cutPrefix1F call a b σ
theorem cutPrefix1_eqF (call : CallF) (n : Nat) (a b : ByteArray) (σ : Sto) : afun C cutPrefix1D call n [(V.str a, false), (V.str b, false)] σ =
  cutPrefix1F call a b σ := by kernel_rfl
theorem cutPrefix1_eq (call : CallF) (n : Nat) (a b : ByteArray) (σ : Sto) : afun C cutPrefix1D call n [(V.str a, false), (V.str b, false)] σ = cutPrefix1 call n a b σ := cutPrefix1_eqF call n a b σ
theorem cutPrefix1_lim {n : Nat} {a : ByteArray} {b : ByteArray} {b0 b1 : Bool} {σ : Sto} {r : Res} (h : cutPrefix1 (lim C) n a b σ = some r) : lim C 67 [(V.str a, b0), (V.str b, b1)] σ = some r :=
 lim_of (d := cutPrefix1D) (by kernel_rfl) (by kernel_rfl) n (show afun C cutPrefix1D (lim C) n [(V.str a, false), (V.str b, false)] σ = some r from (cutPrefix1_eq (lim C) n a b σ).trans h)
noncomputable def iatoik0 : List Nat := [5, 6, 47, 48, 49]
noncomputable def iatois0 (call : CallF) (rec0 : ByteArray → Int → LL → Int → Int → RR) (b : ByteArray) (c : Int) (d : LL) (e a : Int) (σ : Sto) : Option Res :=
 bif (decide (a < e)) then
 (grd (decide (0 ≤ a) && decide (a < d.length))).bind fun _ =>
 (V.asInt (getD (getD d a.toNat []) 0 V.any) .u8).bind fun i1 =>
 bif (decide ((IntKind.wrap .u8 (i1 - (48 : Int))) > (9 : Int))) then
 some (.ret [((V.int .i64 (0 : Int)), false), ((V.iface 106 (V.int .i64 (2 : Int))), false)], σ)
 else
 rec0 b (wrap .i64 ((wrap .i64 (c * (10 : Int))) + (wrap .i64 ((IntKind.wrap .u8 (i1 - (48 : Int))))))) d e (wrap .i64 (a + (1 : Int))) σ
 else
 (grd (decide (0 ≤ (0 : Int)) && decide ((0 : Int) < b.size))).bind fun _ =>
 bif ((byteAt b (Int.toNat (0 : Int))) == (45 : Int)) then
 some (.ret [((V.int .i64 (wrap .i64 ((0 : Int) - c))), false), (V.nilIface, false)], σ)
 else
 some (.ret [(V.int .i64 c, false), (V.nilIface, false)], σ)
noncomputable def iatoil0 (call : CallF) (n : Nat) : Nat → ByteArray → Int → LL → Int → Int → RR
 | 0 => fun _ _ _ _ _ _ => none
 | m + 1 => iatois0 call (iatoil0 call n m)
noncomputable def iatoit0 (a : ByteArray) (b : Int) (c : LL) (d e : Int) (σ : Sto) : St := ⟨dd 5 ([.val (V.str a) false, .val (V.int .i64 b) false] ++ dd 40 ([.val (V.slice 1 5 c) false, .val (V.int .i64 d) false, .val (V.int .i64 e) false] ++ dd 27 [])), nn 77 [], σ⟩
noncomputable def iatoiF (call : CallF) (L0 : ByteArray → Int → LL → Int → Int → RR) (a : ByteArray) (σ : Sto) : Option Res :=
 bif (decide ((0 : Int) < (a.size : Int))) then
 bif (decide ((a.size : Int) < (19 : Int))) then
 (grd (decide (0 ≤ (0 : Int)) && decide ((0 : Int) < a.size))).bind fun _ =>
 bif ((byteAt a (Int.toNat (0 : Int))) == (45 : Int)) then
 (grd (decide (0 ≤ (1 : Int)) && decide ((1 : Int) ≤ (a.size : Int)) && decide ((a.size : Int) ≤ a.size))).bind fun _ =>
 bif (decide (((a.extract (Int.toNat (1 : Int)) (Int.toNat (a.size : Int))).size : Int) < (1 : Int))) then
 some (.ret [((V.int .i64 (0 : Int)), false), ((V.iface 106 (V.int .i64 (2 : Int))), false)], σ)
 else
 L0 a (0 : Int) (bytesV (a.extract (Int.toNat (1 : Int)) (Int.toNat (a.size : Int)))) ((bytesV (a.extract (Int.toNat (1 : Int)) (Int.toNat (a.size : Int)))).length : Int) (0 : Int) σ
 else
 (grd (decide (0 ≤ (0 : Int)) && decide ((0 : Int) < a.size))).bind fun _ =>
 bif ((byteAt a (Int.toNat (0 : Int))) == (43 : Int)) then
 (grd (decide (0 ≤ (1 : Int)) && decide ((1 : Int) ≤ (a.size : Int)) && decide ((a.size : Int) ≤ a.size))).bind fun _ =>
 bif (decide (((a.extract (Int.toNat (1 : Int)) (Int.toNat (a.size : Int))).size : Int) < (1 : Int))) then
 some (.ret [((V.int .i64 (0 : Int)), false), ((V.iface 106 (V.int .i64 (2 : Int))), false)], σ)
 else
 L0 a (0 : Int) (bytesV (a.extract (Int.toNat (1 : Int)) (Int.toNat (a.size : Int)))) ((bytesV (a.extract (Int.toNat (1 : Int)) (Int.toNat (a.size : Int)))).length : Int) (0 : Int) σ
 else
 L0 a (0 : Int) (bytesV a) ((bytesV a).length : Int) (0 : Int) σ
 else
 callK call 75 [(V.str a, false), ((V.int .i64 (10 : Int)), false), ((V.int .i64 (0 : Int)), false)] σ 2 (fun b d =>
 some (.ret [((getD b 0 cellD).1, false), ((getD b 1 cellD).1, false)], d)) pnK
 else
 callK call 75 [(V.str a, false), ((V.int .i64 (10 : Int)), false), ((V.int .i64 (0 : Int)), false)] σ 2 (fun c e =>
 some (.ret [((getD c 0 cellD).1, false), ((getD c 1 cellD).1, false)], e)) pnK
noncomputable def iatoi (call : CallF) (n : Nat) (a : ByteArray) (σ : Sto) : Option Res := iatoiF call (iatoil0 call n n) a σ
theorem iatois0_eq (call : CallF) (n : Nat) (F0 : St → Option Res) (a : ByteArray) (b : Int) (c : LL) (d e : Int) (σ : Sto) :
  aexec C iatoiH call n (cp [0,0,1,0,1,1,1,0,1,0,1,1] iatoiC) 0 (iatoit0 a b c d e σ) (kloop iatoik0 F0 (kblk 0 (kseq (fun st' => aexec C iatoiH call n (cp [1,1,1,1,0,1,0,1,1] iatoiC) 0 st' (kseq (fun st' => aexec C iatoiH call n (cp [1,1,1] iatoiC) 0 st' (kfin C iatoiD)) (kfin C iatoiD))) (kseq (fun st' => aexec C iatoiH call n (cp [1,1,1] iatoiC) 0 st' (kfin C iatoiD)) (kfin C iatoiD))))) =
  iatois0 call (fun a b c d e σ => F0 (iatoit0 a b c d e σ)) a b c d e σ := by kernel_rfl
theorem iatoil0_eq (call : CallF) (n : Nat) : ∀ (m : Nat) (a : ByteArray) (b : Int) (c : LL) (d e : Int) (σ : Sto),
  aloop (fun st K => aexec C iatoiH call n (cp [0,0,1,0,1,1,1,0,1,0,1,1] iatoiC) 0 st K) iatoik0 m (iatoit0 a b c d e σ) (kblk 0 (kseq (fun st' => aexec C iatoiH call n (cp [1,1,1,1,0,1,0,1,1] iatoiC) 0 st' (kseq (fun st' => aexec C iatoiH call n (cp [1,1,1] iatoiC) 0 st' (kfin C iatoiD)) (kfin C iatoiD))) (kseq (fun st' => aexec C iatoiH call n (cp [1,1,1] iatoiC) 0 st' (kfin C iatoiD)) (kfin C iatoiD)))) = iatoil0 call n m a b c d e σ
 | 0, a, b, c, d, e, σ => rfl
 | m + 1, a, b, c, d, e, σ => by
  rw [aloop, iatois0_eq]
  simp only [iatoil0_eq call n m]
  rfl
theorem iatoi_eqF (call : CallF) (n : Nat) (a : ByteArray) (σ : Sto) : afun C iatoiD call n [(V.str a, false)] σ =
  iatoiF call (fun b c d e f σ => aloop (fun st K => aexec C iatoiH call n (cp [0,0,1,0,1,1,1,0,1,0,1,1] iatoiC) 0 st K) iatoik0 n (iatoit0 b c d e f σ) (kblk 0 (kseq (fun st' => aexec C iatoiH call n (cp [1,1,1,1,0,1,0,1,1] iatoiC) 0 st' (kseq (fun st' => aexec C iatoiH call n (cp [1,1,1] iatoiC) 0 st' (kfin C iatoiD)) (kfin C iatoiD))) (kseq (fun st' => aexec C iatoiH call n (cp [1,1,1] iatoiC) 0 st' (kfin C iatoiD)) (kfin C iatoiD))))) a σ := by kernel_rfl
theorem iatoi_eq (call : CallF) (n : Nat) (a : ByteArray) (σ : Sto) : afun C iatoiD call n [(V.str a, false)] σ = iatoi call n a σ := by
 rw [iatoi_eqF]
 simp only [iatoil0_eq]
 rfl
theorem iatoi_lim {n : Nat} {a : ByteArray} {b0 : Bool} {σ : Sto} {r : Res} (h : iatoi (lim C) n a σ = some r) : lim C 68 [(V.str a, b0)] σ = some r :=
 lim_of (d := iatoiD) (by kernel_rfl) (by kernel_rfl) n (show afun C iatoiD (lim C) n [(V.str a, false)] σ = some r from (iatoi_eq (lim C) n a σ).trans h)
noncomputable def nameByteF (call : CallF) (a : Int) (b : Bool) (σ : Sto) : Option Res :=
 bif (decide (a ≥ (97 : Int))) then
 bif (decide (a ≤ (122 : Int))) then
 some (.ret [(V.bool true, false)], σ)
 else
 bif (decide (a ≥ (65 : Int))) then
 bif (decide (a ≤ (90 : Int))) then
 some (.ret [(V.bool true, false)], σ)
 else
 bif (a == (95 : Int)) then
 some (.ret [(V.bool true, false)], σ)
 else
 bif (!b) then
 bif (decide (a ≥ (48 : Int))) then
 bif (decide (a ≤ (57 : Int))) then
 some (.ret [(V.bool true, false)], σ)
 else
 bif (a == (46 : Int)) then
 some (.ret [(V.bool true, false)], σ)
 else
 some (.ret [((V.bool (a == (39 : Int))), false)], σ)
 else
 bif (a == (46 : Int)) then
 some (.ret [(V.bool true, false)], σ)
 else
 some (.ret [((V.bool (a == (39 : Int))), false)], σ)
 else
 some (.ret [(V.bool false, false)], σ)
 else
 bif (a == (95 : Int)) then
 some (.ret [(V.bool true, false)], σ)
 else
 bif (!b) then
 bif (decide (a ≥ (48 : Int))) then
 bif (decide (a ≤ (57 : Int))) then
 some (.ret [(V.bool true, false)], σ)
 else
 bif (a == (46 : Int)) then
 some (.ret [(V.bool true, false)], σ)
 else
 some (.ret [((V.bool (a == (39 : Int))), false)], σ)
 else
 bif (a == (46 : Int)) then
 some (.ret [(V.bool true, false)], σ)
 else
 some (.ret [((V.bool (a == (39 : Int))), false)], σ)
 else
 some (.ret [(V.bool false, false)], σ)
 else
 bif (decide (a ≥ (65 : Int))) then
 bif (decide (a ≤ (90 : Int))) then
 some (.ret [(V.bool true, false)], σ)
 else
 bif (a == (95 : Int)) then
 some (.ret [(V.bool true, false)], σ)
 else
 bif (!b) then
 bif (decide (a ≥ (48 : Int))) then
 bif (decide (a ≤ (57 : Int))) then
 some (.ret [(V.bool true, false)], σ)
 else
 bif (a == (46 : Int)) then
 some (.ret [(V.bool true, false)], σ)
 else
 some (.ret [((V.bool (a == (39 : Int))), false)], σ)
 else
 bif (a == (46 : Int)) then
 some (.ret [(V.bool true, false)], σ)
 else
 some (.ret [((V.bool (a == (39 : Int))), false)], σ)
 else
 some (.ret [(V.bool false, false)], σ)
 else
 bif (a == (95 : Int)) then
 some (.ret [(V.bool true, false)], σ)
 else
 bif (!b) then
 bif (decide (a ≥ (48 : Int))) then
 bif (decide (a ≤ (57 : Int))) then
 some (.ret [(V.bool true, false)], σ)
 else
 bif (a == (46 : Int)) then
 some (.ret [(V.bool true, false)], σ)
 else
 some (.ret [((V.bool (a == (39 : Int))), false)], σ)
 else
 bif (a == (46 : Int)) then
 some (.ret [(V.bool true, false)], σ)
 else
 some (.ret [((V.bool (a == (39 : Int))), false)], σ)
 else
 some (.ret [(V.bool false, false)], σ)
noncomputable def nameByte (call : CallF) (n : Nat) (a : Int) (b : Bool) (σ : Sto) : Option Res := nameByteF call a b σ
theorem nameByte_eqF (call : CallF) (n : Nat) (a : Int) (b : Bool) (σ : Sto) : afun C nameByteD call n [(V.int .u8 a, false), (V.bool b, false)] σ =
  nameByteF call a b σ := by kernel_rfl
theorem nameByte_eq (call : CallF) (n : Nat) (a : Int) (b : Bool) (σ : Sto) : afun C nameByteD call n [(V.int .u8 a, false), (V.bool b, false)] σ = nameByte call n a b σ := nameByte_eqF call n a b σ
theorem nameByte_lim {n : Nat} {a : Int} {b : Bool} {b0 b1 : Bool} {σ : Sto} {r : Res} (h : nameByte (lim C) n a b σ = some r) : lim C 70 [(V.int .u8 a, b0), (V.bool b, b1)] σ = some r :=
 lim_of (d := nameByteD) (by kernel_rfl) (by kernel_rfl) n (show afun C nameByteD (lim C) n [(V.int .u8 a, false), (V.bool b, false)] σ = some r from (nameByte_eq (lim C) n a b σ).trans h)
noncomputable def isNameF (call : CallF) (a : ByteArray) (σ : Sto) : Option Res :=
 bif (!(a.toList == (ByteArray.mk #[]).toList)) then
 (grd (decide (0 ≤ (0 : Int)) && decide ((0 : Int) < a.size))).bind fun _ =>
 callK call 70 [((V.int .u8 (byteAt a (Int.toNat (0 : Int)))), false), (V.bool true, false)] σ 1 (fun b c =>
 some (.ret [((getD b 0 cellD).1, false)], c)) pnK
 else
 some (.ret [(V.bool false, false)], σ)
noncomputable def isName (call : CallF) (n : Nat) (a : ByteArray) (σ : Sto) : Option Res := isNameF call a σ
theorem isName_eqF (call : CallF) (n : Nat) (a : ByteArray) (σ : Sto) : afun C isNameD call n [(V.str a, false)] σ =
  isNameF call a σ := by kernel_rfl
theorem isName_eq (call : CallF) (n : Nat) (a : ByteArray) (σ : Sto) : afun C isNameD call n [(V.str a, false)] σ = isName call n a σ := isName_eqF call n a σ
theorem isName_lim {n : Nat} {a : ByteArray} {b0 : Bool} {σ : Sto} {r : Res} (h : isName (lim C) n a σ = some r) : lim C 71 [(V.str a, b0)] σ = some r :=
 lim_of (d := isNameD) (by kernel_rfl) (by kernel_rfl) n (show afun C isNameD (lim C) n [(V.str a, false)] σ = some r from (isName_eq (lim C) n a σ).trans h)
noncomputable def hasPrefixF (call : CallF) (b a : ByteArray) (σ : Sto) : Option Res :=
 bif (decide ((b.size : Int) ≥ (a.size : Int))) then
 (grd (decide (0 ≤ (0 : Int)) && decide ((0 : Int) ≤ (a.size : Int)) && decide ((a.size : Int) ≤ b.size))).bind fun _ =>
 some (.ret [((V.bool ((b.extract (Int.toNat (0 : Int)) (Int.toNat (a.size : Int))).toList == a.toList)), false)], σ)
 else
 some (.ret [(V.bool false, false)], σ)
noncomputable def hasPrefix (call : CallF) (n : Nat) (a b : ByteArray) (σ : Sto) : Option Res := hasPrefixF call a b σ
theorem hasPrefix_eqF (call : CallF) (n : Nat) (a b : ByteArray) (σ : Sto) : afun C hasPrefixD call n [(V.str a, false), (V.str b, false)] σ =
  hasPrefixF call a b σ := by kernel_rfl
theorem hasPrefix_eq (call : CallF) (n : Nat) (a b : ByteArray) (σ : Sto) : afun C hasPrefixD call n [(V.str a, false), (V.str b, false)] σ = hasPrefix call n a b σ := hasPrefix_eqF call n a b σ
theorem hasPrefix_lim {n : Nat} {a : ByteArray} {b : ByteArray} {b0 b1 : Bool} {σ : Sto} {r : Res} (h : hasPrefix (lim C) n a b σ = some r) : lim C 74 [(V.str a, b0), (V.str b, b1)] σ = some r :=
 lim_of (d := hasPrefixD) (by kernel_rfl) (by kernel_rfl) n (show afun C hasPrefixD (lim C) n [(V.str a, false), (V.str b, false)] σ = some r from (hasPrefix_eq (lim C) n a b σ).trans h)
end Go.Ab.Mk
end
section

end
section
namespace Go.Ab.Mk
open Go.Proofs Go.Ab
def idx (v : ByteArray) : List ByteArray → Nat → Int
 | [], _ => -1
 | p :: ps, i => if v.toList == p.toList then i else idx v ps (i + 1)
theorem index_loop (call : CallF) (n : Nat) {ps : List ByteArray} (hb : ps.length < 2 ^ 61) (v : ByteArray) (σ : Sto) :
  ∀ (m i : Nat), i ≤ ps.length → ps.length - i < m → indexl0 call n m (strs ps) v ps.length i σ = some (.ret [(.int .i64 (idx v (ps.drop i) i), false)], σ)
 | 0, i, _, hm => by omega
 | m + 1, i, hi, hm => by
  show indexs0 call (indexl0 call n m) (strs ps) v ps.length i σ = _
  unfold indexs0
  rw [strs_length]
  by_cases hlt : i < ps.length
  ·rw [d0, dlt hlt, Int.toNat_natCast, strs_get hlt, List.drop_eq_getElem_cons hlt]
   simp only [cond_true, Bool.and_self, grd, Option.bind_some, List.getD_cons_zero, V.asStr, idx]
   cases hc : v.toList == ps[i].toList with
   | true => simp
   | false =>
    simp only [cond_false, wrap_succ (show i < 2 ^ 61 by omega), Bool.false_eq_true, if_false]
    exact index_loop call n hb v σ m (i + 1) (by omega) (by omega)
  ·rw [dnlt hlt, List.drop_eq_nil_of_le (by omega)]
   simp [idx]
theorem index_law {ps : List ByteArray} (hb : ps.length < 2 ^ 61) (v : ByteArray) (σ : Sto) :
  lim C 48 [(.slice 1 9 (strs ps), false), (.str v, false)] σ = some (.ret [(.int .i64 (idx v ps 0), false)], σ) :=
 index_lim (n := ps.length + 1) <| by
  have := index_loop (lim C) (ps.length + 1) hb v σ (ps.length + 1) 0 (by omega) (by omega)
  simpa [index, indexF, strs_length] using this
def has (v : ByteArray) (ps : List ByteArray) : Bool := ps.any fun p => p.toList == v.toList
theorem kids_few (l : Lv) : l.kids.length ≤ 2 := by cases l <;> simp [Lv.kids]
end Go.Ab.Mk
end
section
namespace Go.Ab.Mk
open Go.Proofs Go.Ab
def sizes : List Lv → Nat
 | [] => 0
 | c :: L => c.size + sizes L
end Go.Ab.Mk
end
section
namespace Go.Ab.Mk
open Go.Proofs Go.Ab
def ba (l : List UInt8) : ByteArray := ⟨l.toArray⟩
theorem ba_append (a b : List UInt8) : ba a ++ ba b = ba (a ++ b) := by
 apply ByteArray.ext
 simp [ba]
theorem ba_of (s : ByteArray) : ba s.data.toList = s := by
 apply ByteArray.ext
 simp [ba]
theorem ba_size (l : List UInt8) : (ba l).size = l.length := by simp [ba, ByteArray.size]
theorem bytesV_ba (l : List UInt8) : bytesV (ba l) = bytesL l := by simp [bytesV, ba, bytesL]
theorem strRoom_ok {x y : ByteArray} (h : x.size + y.size < 2 ^ 61) : strRoom x y = true := by
 unfold strRoom
 refine decide_eq_true ?_
 by_cases h0 : x.size + y.size = 0
 ·rw [h0]; simp
 ·have := (Nat.log2_lt (k := 61) h0).2 h
  omega
def printL : Lv → List UInt8
 | .zero => [48]
 | .succ l => [40, 115, 32] ++ printL l ++ [41]
 | .max a b => [40, 109, 97, 120, 32] ++ printL a ++ [32] ++ printL b ++ [41]
 | .imax a b => [40, 105, 109, 97, 120, 32] ++ printL a ++ [32] ++ printL b ++ [41]
 | .param s => s.data.toList
def bcell (b : Nat) (u : Bool) (L : List UInt8) : List Cell := [(bif u then .ptr 53 b 0 else .nilp, false), (.slice 1 5 (bytesL L), true)]
theorem copyCheck_law {σ : Sto} {b : Nat} {u : Bool} {L : List UInt8} (h : σ[b]? = some (bcell b u L)) : lim C 59 [(.ptr 53 b 0, false)] σ = some (.ret [], σ.set b (bcell b true L)) := by
 refine lim_ext (s := copyCheckS 53) (by kernel_rfl) ?_
 obtain ⟨hlt, hget⟩ := List.getElem?_eq_some_iff.1 h
 cases u with
 | false =>
  simp only [copyCheckS, if_true]
  rw [h]
  rfl
 | true =>
  simp only [copyCheckS, if_true]
  rw [h]
  have : σ.set b (bcell b true L) = σ := by rw [← hget]; simp
  simp only [bcell, cond_true, and_self, if_true]
  exact congrArg (fun x => some (End.ret [], x)) this.symm
theorem memTakeB {σ : Sto} {t : TypeId} {b : Nat} {c : Cell} {v : V} (h : σ[b]? = some [c, (v, true)]) : memTake σ (.ptr t b 1) = some (v, σ.set b [c, (v, false)]) := by
 simp only [memTake, h, Option.bind_some]; rfl
theorem memSetB {σ : Sto} {t : TypeId} {b : Nat} {c c' d : Cell} (h : σ[b]? = some [c, c']) : memSet σ (.ptr t b 1) [d] = some (σ.set b [c, d]) := by
 simp only [memSet, h, Option.bind_some]; rfl
theorem wstring_law {σ : Sto} {b : Nat} {u : Bool} {L : List UInt8} (h : σ[b]? = some (bcell b u L)) (s : List UInt8) (hr : L.length + s.length < 2 ^ 34) :
  lim C 37 [(.ptr 53 b 0, false), (.str (ba s), false)] σ = some (.ret [(.int .i64 s.length, false), (.nilIface, false)], σ.set b (bcell b true (L ++ s))) :=
 wstring_lim (n := 0) <| by
  obtain ⟨hlt, hget⟩ := List.getElem?_eq_some_iff.1 h
  simp only [wstring, wstringF, callK_ret0 (copyCheck_law h)]
  rw [memTakeB (c := (.ptr 53 b 0, false)) (v := .slice 1 5 (bytesL L)) (by simp [hlt, bcell])]
  simp only [Option.bind_some, V.asSlice, and_self, if_true]
  rw [bytesL_length, ba_size, room_ok hr]
  rw [memSetB (c := (.ptr 53 b 0, false)) (c' := (.slice 1 5 (bytesL L), false)) (by simp [hlt])]
  simp only [grd, cond_true, Option.bind_some, List.set_set, bytesV_ba, ← bytesL_append]
  rfl
theorem wbyte_law {σ : Sto} {b : Nat} {u : Bool} {L : List UInt8} (h : σ[b]? = some (bcell b u L)) (c : UInt8) (hr : L.length + 1 < 2 ^ 34) :
  lim C 40 [(.ptr 53 b 0, false), (.int .u8 (c.toNat : Int), false)] σ = some (.ret [(.nilIface, false)], σ.set b (bcell b true (L ++ [c]))) :=
 wbyte_lim (n := 0) <| by
  obtain ⟨hlt, hget⟩ := List.getElem?_eq_some_iff.1 h
  simp only [wbyte, wbyteF, callK_ret0 (copyCheck_law h)]
  rw [memTakeB (c := (.ptr 53 b 0, false)) (v := .slice 1 5 (bytesL L)) (by simp [hlt, bcell])]
  simp only [Option.bind_some, V.asSlice, and_self, if_true]
  rw [bytesL_length, room_ok hr]
  rw [memSetB (c := (.ptr 53 b 0, false)) (c' := (.slice 1 5 (bytesL L), false)) (by simp [hlt])]
  simp only [grd, cond_true, Option.bind_some, List.set_set, bcell, bytesL_append]
  rfl
theorem callK_ret2 {call : CallF} {f : FuncId} {args : List Cell} {σ σ' : Sto} {K : List Cell → Sto → Option Res} {KP : V → Sto → Option Res} {c d : Cell} (h : call f args σ = some (.ret [c, d], σ')) :
  callK call f args σ 2 K KP = K [c, d] σ' := callK_ret h rfl
end Go.Ab.Mk
end
section
namespace Go.Ab.Mk
open Go.Proofs Go.Ab
theorem fits_lv (l : Lv) : V.fits (.agg [.int .i64 l.kind, .str l.name, .slice 3 74 l.args]) true 3 = true := rfl
theorem cell_lv (l : Lv) : [V.cell (.agg [.int .i64 l.kind, .str l.name, .slice 3 74 l.args]) 0, V.cell (.agg [.int .i64 l.kind, .str l.name, .slice 3 74 l.args]) 1, V.cell (.agg [.int .i64 l.kind, .str l.name, .slice 3 74 l.args]) 2] = l.enc := by rw [l.enc_eq]; rfl
def limitV (n : Int) : Int := bif decide (n < 0) then Int.tmod (IntKind.wrap .i64 (0 - IntKind.wrap .i64 (n + 1))) 6 else Int.tmod n 6
theorem limit_law (n : Int) (σ : Sto) : lim C 7 [(.int .i64 n, false)] σ = some (.ret [(.int .i64 (limitV n), false)], σ) :=
 limit_lim (n := 0) <| by
  simp only [limit, limitF, limitV]
  cases decide (n < 0) <;> rfl
end Go.Ab.Mk
end
section
namespace Go.Ab.Mk
open Go.Proofs Go.Ab
def isDigit (c : Int) : Bool := decide (48 ≤ c) && decide (c ≤ 57)
def isLetter (c : Int) : Bool := (decide (97 ≤ c) && decide (c ≤ 122)) || (decide (65 ≤ c) && decide (c ≤ 90)) || c == 95
def nmByte (c : Int) (first : Bool) : Bool := isLetter c || (!first && (isDigit c || c == 46 || c == 39))
def isBlank (c : Int) : Bool := c == 32 || c == 9 || c == 10
theorem nameByte_law (c : Int) (f : Bool) (σ : Sto) : lim C 70 [(.int .u8 c, false), (.bool f, false)] σ = some (.ret [(.bool (nmByte c f), false)], σ) :=
 nameByte_lim (n := 0) <| by
  simp only [nameByte, nameByteF, nmByte, isLetter, isDigit, ge_iff_le]
  cases decide (97 ≤ c) <;> cases decide (c ≤ 122) <;> cases decide (65 ≤ c) <;> cases decide (c ≤ 90) <;> cases c == 95 <;> cases f <;> cases decide (48 ≤ c) <;> cases decide (c ≤ 57) <;> cases c == 46 <;> cases c == 39 <;> rfl
def scan (f : Int → Bool) (s : ByteArray) (i : Nat) : Nat :=
 if h : i < s.size then (bif f (byteAt s i) then scan f s (i + 1) else i) else i
termination_by s.size - i
theorem scan_go {f : Int → Bool} {s : ByteArray} {i : Nat} (h : i < s.size) (hf : f (byteAt s i) = true) : scan f s i = scan f s (i + 1) := by
 rw [scan, dif_pos h, hf]; rfl
theorem scan_stop {f : Int → Bool} {s : ByteArray} {i : Nat} (h : ¬ (i < s.size ∧ f (byteAt s i) = true)) : scan f s i = i := by
 rw [scan]
 split
 ·rename_i hi
  cases hf : f (byteAt s i) with
  | true => exact absurd ⟨hi, hf⟩ h
  | false => rfl
 ·rfl
theorem scan_ge (f : Int → Bool) (s : ByteArray) : ∀ (k i : Nat), s.size - i = k → i ≤ scan f s i ∧ (i ≤ s.size → scan f s i ≤ s.size)
 | k, i, hk => by
  by_cases h : i < s.size ∧ f (byteAt s i) = true
  ·rw [scan_go h.1 h.2]
   have := scan_ge f s (k - 1) (i + 1) (by omega)
   omega
  ·rw [scan_stop h]; omega
theorem le_scan (f : Int → Bool) (s : ByteArray) (i : Nat) : i ≤ scan f s i := (scan_ge f s _ i rfl).1
theorem scan_le {f : Int → Bool} {s : ByteArray} {i : Nat} (h : i ≤ s.size) : scan f s i ≤ s.size := (scan_ge f s _ i rfl).2 h
structure Tok where
 t : ByteArray
 at_ : Nat
 ok : Bool
def Tok.no (i : Nat) : Tok := ⟨ByteArray.mk #[], i, false⟩
def Tok.cells (k : Tok) : List Cell := [(.str k.t, false), (.int .i64 k.at_, false), (.bool k.ok, false)]
def numTok (s : ByteArray) (i q : Nat) (c : Int) : Tok :=
 let d := bif c == 35 then i + 1 else i
 bif q == d then .no i else bif decide (q - d > 5) then .no i else bif (decide (q - d > 1) && byteAt s d == 48) then .no i else ⟨s.extract i q, i, true⟩
def nmTok (s : ByteArray) (i q : Nat) : Tok := bif decide (q - i > 40) then .no i else ⟨s.extract i q, i, true⟩
def tokAt (s : ByteArray) (i : Nat) : Tok :=
  bif i == s.size then ⟨ByteArray.mk #[], i, true⟩ else
  bif byteAt s i == 40 then ⟨s.extract i (i + 1), i, true⟩ else bif byteAt s i == 41 then ⟨s.extract i (i + 1), i, true⟩ else
  bif nmByte (byteAt s i) true then nmTok s i (scan (nmByte · false) s (i + 1)) else
  bif byteAt s i == 35 || isDigit (byteAt s i) then numTok s i (scan isDigit s (i + 1)) (byteAt s i) else .no i
def tokV (s : ByteArray) (p : Nat) : Tok := tokAt s (scan isBlank s p)
def rst (s : ByteArray) (p : Nat) (c a : Int) : List Cell := [(.str s, false), (.int .i64 p, false), (.int .i64 c, false), (.int .i64 a, false)]
theorem rd0 {σ : Sto} {r : Nat} {s : ByteArray} {p : Nat} {c a : Int} (h : σ[r]? = some (rst s p c a)) (t : TypeId) : memGet σ (.ptr t r 0) false 1 = some (.str s) := by simp [memGet, h, gather, rst]
theorem rd1 {σ : Sto} {r : Nat} {s : ByteArray} {p : Nat} {c a : Int} (h : σ[r]? = some (rst s p c a)) (t : TypeId) : memGet σ (.ptr t r 1) false 1 = some (.int .i64 p) := by simp [memGet, h, gather, rst]
theorem rd2 {σ : Sto} {r : Nat} {s : ByteArray} {p : Nat} {c a : Int} (h : σ[r]? = some (rst s p c a)) (t : TypeId) : memGet σ (.ptr t r 2) false 1 = some (.int .i64 c) := by simp [memGet, h, gather, rst]
theorem wrap_sub {q i : Nat} (h : i ≤ q) (hq : q < 2 ^ 61) : IntKind.wrap .i64 ((q : Int) - (i : Int)) = ((q - i : Nat) : Int) := by
 rw [← wrap_nat (n := q - i) (by omega)]
 congr 1
 omega
theorem dgt (a b : Nat) : decide ((a : Int) > (b : Int)) = decide (a > b) := by simp
theorem beqN (a b : Nat) : ((a : Int) == (b : Int)) = (a == b) := by
 rw [Bool.eq_iff_iff, beq_iff_eq, beq_iff_eq]; omega
theorem bnd2 {i q n : Nat} (h1 : i ≤ q) (h2 : q ≤ n) : (decide ((i : Int) ≤ (q : Int)) && decide ((q : Int) ≤ (n : Int))) = true := by simp; omega
theorem bnd {i q n : Nat} (h1 : i ≤ q) (h2 : q ≤ n) : (decide (0 ≤ (i : Int)) && decide ((i : Int) ≤ (q : Int)) && decide ((q : Int) ≤ (n : Int))) = true := by simp; omega
theorem tokens1_step (call : CallF) (n m : Nat) {σ : Sto} {r : Nat} {s : ByteArray} {p : Nat} {c a : Int} (h : σ[r]? = some (rst s p c a)) (hs : s.size < 2 ^ 61)
  (hc : ∀ x, call 70 [(.int .u8 x, false), (.bool false, false)] σ = some (.ret [(.bool (nmByte x false), false)], σ)) {i q : Nat} (hi : i ≤ q) (hq : q ≤ s.size) :
  rtokenl1 call n (m + 1) r (.int .i64 i) q σ = bif decide (q < s.size) && nmByte (byteAt s q) false then rtokenl1 call n m r (.int .i64 i) (q + 1 : Nat) σ else some (.ret (nmTok s i q).cells, σ) := by
 show rtokens1 call (rtokenl1 call n m) r (.int .i64 i) q σ = _
 unfold rtokens1
 have h40 : ((40 : Int)) = ((40 : Nat) : Int) := rfl
 simp only [rd0 h, Option.bind_some, V.asStr, V.asInt, if_true, callK_ret1 (hc _), Int.toNat_natCast, List.getD_cons_zero, V.asBool, wrap_sub hi (show q < 2 ^ 61 by omega), h40, dgt, bnd hi hq, grd, cond_true, nmTok, Tok.cells, Tok.no]
 by_cases h1 : q < s.size
 ·simp only [dlt h1, d0, cond_true, Bool.and_self, Option.bind_some, wrap_succ (show q < 2 ^ 61 by omega), decide_eq_true h1, Bool.true_and]
  cases nmByte (byteAt s q) false with
  | true => rfl
  | false => simp only [cond_false]; cases decide (q - i > 40) <;> rfl
 ·simp only [dnlt h1, cond_false, decide_eq_false h1, Bool.false_and]
  cases decide (q - i > 40) <;> rfl
theorem tokens1_loop (call : CallF) (n : Nat) {σ : Sto} {r : Nat} {s : ByteArray} {p : Nat} {c a : Int} (h : σ[r]? = some (rst s p c a)) (hs : s.size < 2 ^ 61)
    (hc : ∀ x, call 70 [(.int .u8 x, false), (.bool false, false)] σ = some (.ret [(.bool (nmByte x false), false)], σ)) {i : Nat} :
    ∀ (m q : Nat), i ≤ q → q ≤ s.size → s.size - q < m → rtokenl1 call n m r (.int .i64 i) q σ = some (.ret (nmTok s i (scan (nmByte · false) s q)).cells, σ)
  | 0, q, _, _, hm => by omega
  | m + 1, q, hi, hq, hm => by
    rw [tokens1_step call n m h hs hc hi hq]
    by_cases h1 : q < s.size ∧ nmByte (byteAt s q) false = true
    · rw [scan_go (f := (nmByte · false)) h1.1 h1.2, decide_eq_true h1.1, h1.2]
      exact tokens1_loop call n h hs hc m (q + 1) (by omega) (by omega) (by omega)
    · rw [scan_stop (f := (nmByte · false)) h1]
      have : (decide (q < s.size) && nmByte (byteAt s q) false) = false := by
        cases hb : nmByte (byteAt s q) false <;> simp_all
      rw [this]; rfl
theorem tokens2_step (call : CallF) (n m : Nat) {σ : Sto} {r : Nat} {s : ByteArray} {p : Nat} {c a : Int} (h : σ[r]? = some (rst s p c a)) (hs : s.size < 2 ^ 61) {i q : Nat} (x : Int) (hi : i < q) (hq : q ≤ s.size) :
  rtokenl2 call n (m + 1) r (.int .i64 i) q x σ = bif decide (q < s.size) && isDigit (byteAt s q) then rtokenl2 call n m r (.int .i64 i) (q + 1 : Nat) x σ else some (.ret (numTok s i q x).cells, σ) := by
 show rtokens2 call (rtokenl2 call n m) r (.int .i64 i) q x σ = _
 unfold rtokens2
 have h5 : ((5 : Int)) = ((5 : Nat) : Int) := rfl
 have h1' : ((1 : Int)) = ((1 : Nat) : Int) := rfl
 have e48 : ∀ z : Int, decide (z ≥ 48) = decide (48 ≤ z) := fun _ => rfl
 have w1 : IntKind.wrap .i64 ((i : Int) + ((1 : Nat) : Int)) = ((i + 1 : Nat) : Int) := wrap_succ (show i < 2 ^ 61 by omega)
 have w2 : IntKind.wrap .i64 ((q : Int) + ((1 : Nat) : Int)) = ((q + 1 : Nat) : Int) := wrap_succ (show q < 2 ^ 61 by omega)
 simp only [rd0 h, Option.bind_some, V.asStr, V.asInt, if_true, Int.toNat_natCast, h5, h1', w1, w2, wrap_sub (show i ≤ q by omega) (show q < 2 ^ 61 by omega), wrap_sub (show i + 1 ≤ q by omega) (show q < 2 ^ 61 by omega), dgt, beqN, bnd2 (show i ≤ q by omega) hq, d0, Bool.true_and, decide_eq_true (show s.size > i by omega), grd, cond_true, e48, numTok, Tok.cells, Tok.no]
 by_cases h1 : q < s.size
 ·simp only [decide_eq_true (show s.size > q from h1), cond_true, Option.bind_some, decide_eq_true h1, Bool.true_and, isDigit]
  by_cases hx : x == 35
  ·by_cases hd : q = i + 1
   ·subst hd
    cases decide (48 ≤ byteAt s (i + 1)) <;> cases decide (byteAt s (i + 1) ≤ 57) <;> simp [hx]
   ·have hlt : i + 1 < s.size := by omega
    have hd' : (q == i + 1) = false := by simpa using hd
    simp only [decide_eq_true (show s.size > i + 1 from hlt), hx, cond_true, hd', cond_false, Option.bind_some]
    cases decide (48 ≤ byteAt s q) <;> cases decide (byteAt s q ≤ 57) <;> cases decide (q - (i + 1) > 5) <;> cases decide (q - (i + 1) > 1) <;> cases byteAt s (i + 1) == 48 <;> rfl
  ·have hd' : (q == i) = false := by simp; omega
   simp only [hx, cond_false, hd', Option.bind_some]
   cases decide (48 ≤ byteAt s q) <;> cases decide (byteAt s q ≤ 57) <;> cases decide (q - i > 5) <;> cases decide (q - i > 1) <;> cases byteAt s i == 48 <;> rfl
 ·simp only [decide_eq_false (show ¬ s.size > q from h1), cond_false, decide_eq_false h1, Bool.false_and]
  by_cases hx : x == 35
  ·by_cases hd : q = i + 1
   ·subst hd
    simp [hx]
   ·have hlt : i + 1 < s.size := by omega
    have hd' : (q == i + 1) = false := by simpa using hd
    simp only [decide_eq_true (show s.size > i + 1 from hlt), hx, cond_true, hd', cond_false, Option.bind_some]
    cases decide (q - (i + 1) > 5) <;> cases decide (q - (i + 1) > 1) <;> cases byteAt s (i + 1) == 48 <;> rfl
  ·have hd' : (q == i) = false := by simp; omega
   simp only [hx, cond_false, hd', Option.bind_some]
   cases decide (q - i > 5) <;> cases decide (q - i > 1) <;> cases byteAt s i == 48 <;> rfl
theorem tokens2_loop (call : CallF) (n : Nat) {σ : Sto} {r : Nat} {s : ByteArray} {p : Nat} {c a : Int} (h : σ[r]? = some (rst s p c a)) (hs : s.size < 2 ^ 61) {i : Nat} (x : Int) :
  ∀ (m q : Nat), i < q → q ≤ s.size → s.size - q < m → rtokenl2 call n m r (.int .i64 i) q x σ = some (.ret (numTok s i (scan isDigit s q) x).cells, σ)
 | 0, q, _, _, hm => by omega
 | m + 1, q, hi, hq, hm => by
  rw [tokens2_step call n m h hs x hi hq]
  by_cases h1 : q < s.size ∧ isDigit (byteAt s q) = true
  ·rw [scan_go (f := isDigit) h1.1 h1.2, decide_eq_true h1.1, h1.2]
   exact tokens2_loop call n h hs x m (q + 1) (by omega) (by omega) (by omega)
  ·rw [scan_stop (f := isDigit) h1]
   have : (decide (q < s.size) && isDigit (byteAt s q)) = false := by
    cases hb : isDigit (byteAt s q) <;> simp_all
   rw [this]; rfl
theorem tokens0_loop (call : CallF) (n : Nat) {σ : Sto} {r : Nat} {s : ByteArray} {p0 : Nat} {c a : Int} (h : σ[r]? = some (rst s p0 c a)) (hs : s.size < 2 ^ 61) (hn : s.size < n)
  (hc : ∀ x f, call 70 [(.int .u8 x, false), (.bool f, false)] σ = some (.ret [(.bool (nmByte x f), false)], σ)) :
  ∀ (m p : Nat), p ≤ s.size → s.size - p < m → rtokenl0 call n m r (.int .i64 p) σ = some (.ret (tokV s p).cells, σ)
 | 0, q, _, hm => by omega
 | m + 1, p, hp, hm => by
  show rtokens0 call (rtokenl1 call n n) (rtokenl2 call n n) (rtokenl0 call n m) r (.int .i64 p) σ = _
  unfold rtokens0
  have e48 : ∀ z : Int, decide (z ≥ 48) = decide (48 ≤ z) := fun _ => rfl
  simp only [rd0 h, Option.bind_some, V.asStr, V.asInt, if_true, Int.toNat_natCast, wrap_succ (show p < 2 ^ 61 by omega), d0, Bool.true_and, callK_ret1 (hc _ _), List.getD_cons_zero, V.asBool, beqN, e48]
  by_cases h1 : p < s.size
  ·have hpe : (p == s.size) = false := by simp; omega
   have hb1 : ((decide ((p : Int) ≤ ((p + 1 : Nat) : Int))) && decide (((p + 1 : Nat) : Int) ≤ (s.size : Int))) = true := by simp; omega
   simp only [dlt h1, cond_true, grd, Option.bind_some, hpe, cond_false, hb1]
   by_cases hb : isBlank (byteAt s p) = true
   ·rw [tokV, scan_go h1 hb, ← tokV]
    have ih := tokens0_loop call n h hs hn hc m (p + 1) (by omega) (by omega)
    simp only [isBlank, Bool.or_eq_true] at hb
    rw [ih]
    rcases hb with (hb | hb) | hb
    ·simp only [hb, cond_true]
    ·cases byteAt s p == 32 <;> simp only [hb, cond_true, cond_false]
    ·cases byteAt s p == 32 <;> cases byteAt s p == 9 <;> simp only [hb, cond_true, cond_false]
   ·rw [tokV, scan_stop (fun hh => hb hh.2)]
    have hb' : isBlank (byteAt s p) = false := by simpa using hb
    simp only [isBlank, Bool.or_eq_false_iff] at hb'
    obtain ⟨⟨b1, b2⟩, b3⟩ := hb'
    have l1 := tokens1_loop call n h hs (fun x => hc x false) (i := p) n (p + 1) (by omega) (by omega) (by omega)
    have l2 := tokens2_loop call n h hs (i := p) (byteAt s p) n (p + 1) (by omega) (by omega) (by omega)
    simp only [b1, b2, b3, cond_false, l1, l2, tokAt, hpe, isDigit]
    cases byteAt s p == 40 <;> cases byteAt s p == 41 <;> cases nmByte (byteAt s p) true <;> cases byteAt s p == 35 <;> cases decide (48 ≤ byteAt s p) <;> cases decide (byteAt s p ≤ 57) <;> rfl
  ·have hpe : p = s.size := by omega
   rw [tokV, scan_stop (fun hh => h1 hh.1)]
   rw [dnlt h1]
   simp only [cond_false, hpe, beq_self_eq_true, cond_true, tokAt, Tok.cells]
theorem token_law {σ : Sto} {r : Nat} {s : ByteArray} {p : Nat} {c a : Int} (h : σ[r]? = some (rst s p c a)) (hs : s.size < 2 ^ 61) (hp : p ≤ s.size) :
  lim C 51 [(.ptr 69 r 0, false)] σ = some (.ret (tokV s p).cells, σ) :=
 rtoken_lim (n := s.size + 1) <| by
  have := tokens0_loop (lim C) (s.size + 1) h hs (by omega) (fun x f => nameByte_law x f σ) (s.size + 1) p hp (by omega)
  simp only [rtoken, rtokenF, rd1 h, Option.bind_some]
  exact this
end Go.Ab.Mk
end
section
namespace Go.Ab.Mk
open Go.Proofs Go.Ab
structure RS where
 p : Nat
 c : Int
 a : Int
def RS.cells (s : ByteArray) (st : RS) : List Cell := rst s st.p st.c st.a
def isNo (t : ByteArray) : Bool := t.toList == (ByteArray.mk #[]).toList
def rfailV (st : RS) (i : Nat) : RS := bif st.c == 0 then ⟨st.p, 1, i⟩ else st
def rnextV (s : ByteArray) (st : RS) : ByteArray × RS :=
 let k := tokV s st.p
 let st1 := bif !k.ok || isNo k.t then rfailV st k.at_ else st
 bif st1.c != 0 then (ByteArray.mk #[], st1) else (k.t, ⟨k.at_ + k.t.size, st1.c, st1.a⟩)
def rtakeV (s : ByteArray) (st : RS) (w : ByteArray) : RS :=
 let k := tokV s st.p
 let st1 := bif !k.ok || !(k.t.toList == w.toList) then rfailV st k.at_ else st
 bif st1.c == 0 then ⟨k.at_ + k.t.size, st1.c, st1.a⟩ else st1
def isNameV (t : ByteArray) : Bool := !isNo t && nmByte (byteAt t 0) true
def rdoneV (s : ByteArray) (st : RS) : RS :=
 let k := tokV s st.p
 bif !k.ok || !isNo k.t then rfailV st k.at_ else st
theorem isNo_size {t : ByteArray} (h : isNo t = false) : 0 < t.size := by
 rcases Nat.eq_zero_or_pos t.size with h0 | h0
 ·have : t = ByteArray.mk #[] := by
   apply ByteArray.ext
   exact Array.eq_empty_of_size_eq_zero h0
  subst this
  simp [isNo] at h
 ·exact h0
structure TokOk (s : ByteArray) (p : Nat) (k : Tok) : Prop where
 ge : p ≤ k.at_
 le : k.at_ + k.t.size ≤ s.size
 no : k.ok = false → isNo k.t = true
theorem ext_size (s : ByteArray) {i q : Nat} (h1 : i ≤ q) (h2 : q ≤ s.size) : i + (s.extract i q).size = q := by
 rw [ByteArray.size_extract]; omega
theorem tokV_ok (s : ByteArray) {p : Nat} (hp : p ≤ s.size) : TokOk s p (tokV s p) := by
  have h1 := le_scan isBlank s p
  have h2 := scan_le (f := isBlank) hp
  unfold tokV
  generalize scan isBlank s p = i at h1 h2
  unfold tokAt
  have e0 : isNo (ByteArray.mk #[]) = true := by simp [isNo]
  have s0 : (ByteArray.mk #[]).size = 0 := rfl
  have no : TokOk s p (Tok.no i) := ⟨h1, by simp [Tok.no]; omega, fun _ => e0⟩
  by_cases hi : i = s.size
  · subst hi
    simp only [beq_self_eq_true, cond_true]
    exact ⟨h1, by simp [s0], fun _ => e0⟩
  · have hib : (i == s.size) = false := by simpa using hi
    simp only [hib, cond_false]
    have one : TokOk s p ⟨s.extract i (i + 1), i, true⟩ := ⟨h1, by simp only; rw [ext_size s (by omega) (by omega)]; omega, by simp⟩
    have nm : ∀ q, i + 1 ≤ q → q ≤ s.size → TokOk s p (nmTok s i q) := by
      intro q hq1 hq2
      unfold nmTok
      cases decide (q - i > 40)
      · exact ⟨h1, by simp only [cond_false]; rw [ext_size s (by omega) hq2]; exact hq2, by simp⟩
      · exact no
    have num : ∀ q x, i + 1 ≤ q → q ≤ s.size → TokOk s p (numTok s i q x) := by
      intro q x hq1 hq2
      simp only [numTok]
      generalize (bif x == 35 then i + 1 else i) = d
      cases q == d
      · cases decide (q - d > 5)
        · cases (decide (q - d > 1) && byteAt s d == 48)
          · exact ⟨h1, by simp only [cond_false]; rw [ext_size s (by omega) hq2]; exact hq2, by simp⟩
          · exact no
        · exact no
      · exact no
    have g1 := le_scan (nmByte · false) s (i + 1)
    have g2 := scan_le (f := (nmByte · false)) (s := s) (i := i + 1) (by omega)
    have g3 := le_scan isDigit s (i + 1)
    have g4 := scan_le (f := isDigit) (s := s) (i := i + 1) (by omega)
    cases byteAt s i == 40
    · cases byteAt s i == 41
      · cases nmByte (byteAt s i) true
        · cases (byteAt s i == 35 || isDigit (byteAt s i))
          · exact no
          · exact num _ _ g3 g4
        · exact nm _ g1 g2
      · exact one
    · exact one
theorem rset_same {σ : Sto} {r : Nat} {s : ByteArray} {st : RS} (h : σ[r]? = some (st.cells s)) : σ.set r (st.cells s) = σ := by
 obtain ⟨_, h⟩ := List.getElem?_eq_some_iff.1 h
 rw [← h]; simp
theorem callK_ret3 {call : CallF} {f : FuncId} {args : List Cell} {σ σ' : Sto} {K : List Cell → Sto → Option Res} {KP : V → Sto → Option Res} {cs : List Cell} (h : call f args σ = some (.ret cs, σ')) (hl : cs.length = 3) :
  callK call f args σ 3 K KP = K cs σ' := callK_ret h hl
theorem tok0 (k : Tok) : (k.cells.getD 0 cellD).1 = .str k.t := rfl
theorem tok1 (k : Tok) : (k.cells.getD 1 cellD).1 = .int .i64 k.at_ := rfl
theorem tok2 (k : Tok) : (k.cells.getD 2 cellD).1 = .bool k.ok := rfl
theorem rset2 {σ : Sto} {r : Nat} {s : ByteArray} {st : RS} (h : σ[r]? = some (st.cells s)) (t : TypeId) (x y : Int) : memSet σ (.ptr t r 2) [(.int .i64 x, false), (.int .i64 y, false)] = some (σ.set r (RS.cells s ⟨st.p, x, y⟩)) := by
 simp only [memSet, h, Option.bind_some]; rfl
theorem rset1 {σ : Sto} {r : Nat} {s : ByteArray} {st : RS} (h : σ[r]? = some (st.cells s)) (t : TypeId) (x : Nat) : memSet σ (.ptr t r 1) [(.int .i64 x, false)] = some (σ.set r (RS.cells s ⟨x, st.c, st.a⟩)) := by
 simp only [memSet, h, Option.bind_some]; rfl
theorem rfail_law {σ : Sto} {r : Nat} {s : ByteArray} {st : RS} (h : σ[r]? = some (st.cells s)) (i : Nat) :
  lim C 52 [(.ptr 69 r 0, false), (.int .i64 i, false)] σ = some (.ret [], σ.set r ((rfailV st i).cells s)) :=
 rfail_lim (n := 0) <| by
  simp only [rfail, rfailF, rd2 h, Option.bind_some, V.asInt, if_true, rset2 h, rfailV]
  cases st.c == 0
  ·simp only [cond_false, rset_same h]
  ·rfl
theorem set_get {σ : Sto} {r : Nat} {x : List Cell} {y : List Cell} (h : σ[r]? = some x) : (σ.set r y)[r]? = some y := by
 obtain ⟨hl, _⟩ := List.getElem?_eq_some_iff.1 h
 simp [hl]
theorem wrap_add {a b : Nat} (h : a + b < 2 ^ 62) : IntKind.wrap .i64 ((a : Int) + (b : Int)) = ((a + b : Nat) : Int) := by
 rw [← wrap_nat h]; simp
theorem rnext_law {σ : Sto} {r : Nat} {s : ByteArray} {st : RS} (h : σ[r]? = some (st.cells s)) (hs : s.size < 2 ^ 61) (hp : st.p ≤ s.size) :
  lim C 53 [(.ptr 69 r 0, false)] σ = some (.ret [(.str (rnextV s st).1, false)], σ.set r ((rnextV s st).2.cells s)) :=
 rnext_lim (n := 0) <| by
  obtain ⟨hk1, hk2, hk3⟩ := tokV_ok s hp
  have ht := token_law h hs hp
  have hw : IntKind.wrap .i64 (((tokV s st.p).at_ : Int) + ((tokV s st.p).t.size : Int)) = (((tokV s st.p).at_ + (tokV s st.p).t.size : Nat) : Int) := wrap_add (by omega)
  have fin : ∀ st1 : RS, ∀ σ1 : Sto, σ1[r]? = some (st1.cells s) → st1.p = st.p → σ1 = σ.set r (st1.cells s) →
    (bif st1.c != 0 then some (End.ret [(V.str (ByteArray.mk #[]), false)], σ1) else
     (memSet σ1 (.ptr 69 r 1) [(.int .i64 (IntKind.wrap .i64 (((tokV s st.p).at_ : Int) + ((tokV s st.p).t.size : Int))), false)]).bind fun m => some (End.ret [(V.str (tokV s st.p).t, false)], m)) =
    some (.ret [(.str (bif st1.c != 0 then (ByteArray.mk #[], st1) else ((tokV s st.p).t, (⟨(tokV s st.p).at_ + (tokV s st.p).t.size, st1.c, st1.a⟩ : RS))).1, false)],
     σ.set r ((bif st1.c != 0 then (ByteArray.mk #[], st1) else ((tokV s st.p).t, (⟨(tokV s st.p).at_ + (tokV s st.p).t.size, st1.c, st1.a⟩ : RS))).2.cells s)) := by
   intro st1 σ1 h1 hp1 hσ
   rw [hw, rset1 h1]
   cases st1.c != 0
   ·simp only [cond_false, Option.bind_some]
    rw [hσ, List.set_set]
   ·simp only [cond_true]
    rw [hσ]
  simp only [rnext, rnextF, callK_ret3 ht rfl, tok0, tok1, tok2, V.asBool, V.asStr, V.asInt, if_true, Option.bind_some, rnextV]
  have hf := rfail_law h (tokV s st.p).at_
  have hg : (σ.set r ((rfailV st (tokV s st.p).at_).cells s))[r]? = some ((rfailV st (tokV s st.p).at_).cells s) := set_get h
  have e0 : ((tokV s st.p).t.toList == (ByteArray.mk #[]).toList) = isNo (tokV s st.p).t := rfl
  have hfp : (rfailV st (tokV s st.p).at_).p = st.p := by unfold rfailV; cases st.c == 0 <;> rfl
  rw [e0]
  cases hok : (tokV s st.p).ok
  ·simp only [Bool.not_false, cond_true, Bool.true_or, callK_ret0 hf, rd2 hg, Option.bind_some, V.asInt, if_true]
   exact fin _ _ hg hfp rfl
  ·simp only [Bool.not_true, cond_false, Bool.false_or]
   cases hno : isNo (tokV s st.p).t
   ·simp only [cond_false, rd2 h, Option.bind_some, V.asInt, if_true]
    exact fin _ _ h rfl (rset_same h).symm
   ·simp only [cond_true, callK_ret0 hf, rd2 hg, Option.bind_some, V.asInt, if_true]
    exact fin _ _ hg hfp rfl
theorem rtake_law {σ : Sto} {r : Nat} {s : ByteArray} {st : RS} (h : σ[r]? = some (st.cells s)) (hs : s.size < 2 ^ 61) (hp : st.p ≤ s.size) (w : ByteArray) :
  lim C 58 [(.ptr 69 r 0, false), (.str w, false)] σ = some (.ret [], σ.set r ((rtakeV s st w).cells s)) :=
 rtake_lim (n := 0) <| by
  obtain ⟨hk1, hk2, hk3⟩ := tokV_ok s hp
  have ht := token_law h hs hp
  have hw : IntKind.wrap .i64 (((tokV s st.p).at_ : Int) + ((tokV s st.p).t.size : Int)) = (((tokV s st.p).at_ + (tokV s st.p).t.size : Nat) : Int) := wrap_add (by omega)
  have fin : ∀ st1 : RS, ∀ σ1 : Sto, σ1[r]? = some (st1.cells s) → σ1 = σ.set r (st1.cells s) →
    (bif st1.c == 0 then
     (memSet σ1 (.ptr 69 r 1) [(.int .i64 (IntKind.wrap .i64 (((tokV s st.p).at_ : Int) + ((tokV s st.p).t.size : Int))), false)]).bind fun m => some (End.ret [], m) else some (End.ret [], σ1)) =
    some (.ret [], σ.set r ((bif st1.c == 0 then (⟨(tokV s st.p).at_ + (tokV s st.p).t.size, st1.c, st1.a⟩ : RS) else st1).cells s)) := by
   intro st1 σ1 h1 hσ
   rw [hw, rset1 h1]
   cases st1.c == 0
   ·simp only [cond_false]
    rw [hσ]
   ·simp only [cond_true, Option.bind_some]
    rw [hσ, List.set_set]
  simp only [rtake, rtakeF, callK_ret3 ht rfl, tok0, tok1, tok2, V.asBool, V.asStr, V.asInt, if_true, Option.bind_some, rtakeV]
  have hf := rfail_law h (tokV s st.p).at_
  have hg : (σ.set r ((rfailV st (tokV s st.p).at_).cells s))[r]? = some ((rfailV st (tokV s st.p).at_).cells s) := set_get h
  cases hok : (tokV s st.p).ok
  ·simp only [Bool.not_false, cond_true, Bool.true_or, callK_ret0 hf, rd2 hg, Option.bind_some, V.asInt, if_true]
   exact fin _ _ hg rfl
  ·simp only [Bool.not_true, cond_false, Bool.false_or]
   cases hno : ((tokV s st.p).t.toList == w.toList)
   ·simp only [Bool.not_false, cond_true, callK_ret0 hf, rd2 hg, Option.bind_some, V.asInt, if_true]
    exact fin _ _ hg rfl
   ·simp only [Bool.not_true, cond_false, rd2 h, Option.bind_some, V.asInt, if_true]
    exact fin _ _ h (rset_same h).symm
theorem isName_law (t : ByteArray) (σ : Sto) : lim C 71 [(.str t, false)] σ = some (.ret [(.bool (isNameV t), false)], σ) :=
 isName_lim (n := 0) <| by
  have e0 : (t.toList == (ByteArray.mk #[]).toList) = isNo t := rfl
  simp only [isName, isNameF, e0, isNameV]
  cases hno : isNo t
  ·have := isNo_size hno
   have hz : decide ((0 : Int) < (t.size : Int)) = true := by simp; omega
   have hn := nameByte_law (byteAt t 0) true σ
   simp only [Bool.not_false, cond_true, hz, Int.toNat_zero, callK_ret1 hn, Bool.true_and]
   rfl
  ·rfl
theorem rdone_law {σ : Sto} {r : Nat} {s : ByteArray} {st : RS} (h : σ[r]? = some (st.cells s)) (hs : s.size < 2 ^ 61) (hp : st.p ≤ s.size) :
  lim C 34 [(.ptr 69 r 0, false)] σ = some (.ret [(.agg [.int .i64 (rdoneV s st).c, .int .i64 (rdoneV s st).a], false)], σ.set r ((rdoneV s st).cells s)) :=
 rdone_lim (n := 0) <| by
  have ht := token_law h hs hp
  have fin : ∀ st1 : RS, ∀ σ1 : Sto, σ1[r]? = some (st1.cells s) → σ1 = σ.set r (st1.cells s) →
    ((memGet σ1 (V.ptr 69 r 2) true 2).bind fun m => (grd (V.fits m true 2)).bind fun _ => some (End.ret [((V.agg [(V.cell m 0), (V.cell m 1)]), false)], σ1)) =
    some (.ret [(.agg [.int .i64 st1.c, .int .i64 st1.a], false)], σ.set r (st1.cells s)) := by
   intro st1 σ1 h1 hσ
   have : memGet σ1 (V.ptr 69 r 2) true 2 = some (.agg [.int .i64 st1.c, .int .i64 st1.a]) := by simp only [memGet, h1, Option.bind_some]; rfl
   rw [this, hσ]; rfl
  simp only [rdone, rdoneF, callK_ret3 ht rfl, tok0, tok1, tok2, V.asBool, V.asStr, Option.bind_some, rdoneV]
  have hf := rfail_law h (tokV s st.p).at_
  have hg : (σ.set r ((rfailV st (tokV s st.p).at_).cells s))[r]? = some ((rfailV st (tokV s st.p).at_).cells s) := set_get h
  have e0 : ((tokV s st.p).t.toList == (ByteArray.mk #[]).toList) = isNo (tokV s st.p).t := rfl
  rw [e0]
  cases hok : (tokV s st.p).ok
  ·simp only [Bool.not_false, cond_true, Bool.true_or, callK_ret0 hf]
   exact fin _ _ hg rfl
  ·cases hno : isNo (tokV s st.p).t
   ·simp only [Bool.not_true, cond_false, Bool.false_or, Bool.not_false, cond_true, callK_ret0 hf]
    exact fin _ _ hg rfl
   ·simp only [Bool.not_true, cond_false, Bool.false_or]
    exact fin _ _ h (rset_same h).symm
end Go.Ab.Mk
end
section
namespace Go.Ab.Mk
open Go.Proofs Go.Ab
def strIs (t : ByteArray) (l : List UInt8) : Bool := t.toList == (ba l).toList
def lv1 (rec : RS → Lv × RS) (s : ByteArray) (f : Lv → Lv) (st : RS) : Lv × RS := (f (rec st).1, rtakeV s (rec st).2 (ba [41]))
def lv2 (rec : RS → Lv × RS) (s : ByteArray) (f : Lv → Lv → Lv) (st : RS) : Lv × RS := (f (rec st).1 (rec (rec st).2).1, rtakeV s (rec (rec st).2).2 (ba [41]))
def lvP (rec : RS → Lv × RS) (s : ByteArray) (st : RS) : Lv × RS :=
 bif strIs (tokV s st.p).t [115] then lv1 rec s .succ (rnextV s st).2 else
 bif strIs (tokV s st.p).t [109, 97, 120] then lv2 rec s .max (rnextV s st).2 else
 bif strIs (tokV s st.p).t [105, 109, 97, 120] then lv2 rec s .imax (rnextV s st).2 else (.zero, rfailV st (tokV s st.p).at_)
def rlevelV : Nat → ByteArray → RS → Lv × RS
 | 0, _, st => (.zero, st)
 | n + 1, s, st =>
  bif st.c != 0 then (.zero, st) else
  bif strIs (tokV s st.p).t [48] then (.zero, (rnextV s st).2) else
  bif isNameV (tokV s st.p).t then (.param (tokV s st.p).t, (rnextV s st).2) else
  bif strIs (tokV s st.p).t [40] then lvP (rlevelV n s) s (rnextV s st).2 else (.zero, rfailV st (tokV s st.p).at_)
theorem rfail_p (st : RS) (i : Nat) : (rfailV st i).p = st.p := by unfold rfailV; cases st.c == 0 <;> rfl
theorem rfail_c (st : RS) (i : Nat) : (rfailV st i).c ≠ 0 := by
 unfold rfailV
 cases h : st.c == 0
 ·simpa using h
 ·simp
theorem rnext_stuck {s : ByteArray} {st : RS} (h : st.c ≠ 0) : rnextV s st = (ByteArray.mk #[], st) := by
 have h1 : (st.c == 0) = false := by simpa using h
 have h2 : (st.c != 0) = true := by simpa using h
 unfold rnextV rfailV
 simp only [h1, cond_false]
 cases (!(tokV s st.p).ok || isNo (tokV s st.p).t) <;> simp only [cond_true, cond_false, h2]
theorem rnext_p {s : ByteArray} {st : RS} (hp : st.p ≤ s.size) : (rnextV s st).2.p ≤ s.size ∧ ((rnextV s st).2.c = 0 → st.c = 0 ∧ isNo (tokV s st.p).t = false ∧ (rnextV s st).2.p = (tokV s st.p).at_ + (tokV s st.p).t.size) := by
 obtain ⟨k1, k2, k3⟩ := tokV_ok s hp
 by_cases hc : st.c = 0
 ·unfold rnextV rfailV
  simp only [hc, beq_self_eq_true, cond_true, bne_self_eq_false]
  cases hx : (!(tokV s st.p).ok || isNo (tokV s st.p).t)
  ·simp only [cond_false, hc, bne_self_eq_false]
   simp only [Bool.or_eq_false_iff] at hx
   exact ⟨by omega, fun _ => ⟨trivial, hx.2, by first | rfl | trivial⟩⟩
  ·simp only [cond_true]
   exact ⟨hp, fun h => by simp at h⟩
 ·rw [rnext_stuck hc]
  exact ⟨hp, fun h => absurd h hc⟩
theorem rtake_p {s : ByteArray} {st : RS} {w : ByteArray} (hp : st.p ≤ s.size) : (rtakeV s st w).p ≤ s.size ∧ ((rtakeV s st w).c = 0 → st.c = 0 ∧ (tokV s st.p).t.toList = w.toList ∧ (rtakeV s st w).p = (tokV s st.p).at_ + (tokV s st.p).t.size) := by
 obtain ⟨k1, k2, k3⟩ := tokV_ok s hp
 by_cases hc : st.c = 0
 ·unfold rtakeV rfailV
  simp only [hc, beq_self_eq_true, cond_true]
  cases hx : (!(tokV s st.p).ok || !((tokV s st.p).t.toList == w.toList))
  ·simp only [cond_false, hc, beq_self_eq_true, cond_true]
   simp only [Bool.or_eq_false_iff] at hx
   exact ⟨by omega, fun _ => ⟨trivial, by simpa using hx.2, by first | rfl | trivial⟩⟩
  ·simp only [cond_true]
   exact ⟨hp, fun h => by simp at h⟩
 ·have h1 : (st.c == 0) = false := by simpa using hc
  have : rtakeV s st w = st := by
   unfold rtakeV rfailV
   simp only [h1, cond_false]
   cases (!(tokV s st.p).ok || !((tokV s st.p).t.toList == w.toList)) <;> simp only [cond_true, cond_false, h1]
  rw [this]
  exact ⟨hp, fun h => absurd h hc⟩
theorem rlevel_stuck {n : Nat} {s : ByteArray} {st : RS} (h : st.c ≠ 0) : rlevelV n s st = (.zero, st) := by
 cases n with
 | zero => rfl
 | succ n =>
  have h2 : (st.c != 0) = true := by simpa using h
  rw [rlevelV, h2]; rfl
theorem strIs_size {t : ByteArray} {l : List UInt8} (h : strIs t l = true) : t.size = l.length := by
 rw [strIs, beq_iff_eq, ByteArray.toList_eq, ByteArray.toList_eq] at h
 have := congrArg List.length h
 show t.data.size = l.length
 rw [← Array.length_toList, this]
 simp [ba]
structure Took (s : ByteArray) (st : RS) (x : Lv × RS) : Prop where
 le : x.2.p ≤ s.size
 ok : x.2.c = 0 → st.c = 0 ∧ (printL x.1).length ≤ 2 * (x.2.p - st.p) ∧ x.1.size ≤ x.2.p - st.p ∧ st.p < x.2.p ∧ printL x.1 ≠ []
theorem rlevel_took (s : ByteArray) : ∀ (n : Nat) (st : RS), st.p ≤ s.size → (st.c ≠ 0 ∨ s.size - st.p < n) → Took s st (rlevelV n s st)
 | 0, st, hp, hn => ⟨hp, fun h => by rcases hn with hn | hn; exact absurd h hn; omega⟩
 | n + 1, st, hp, hn => by
  by_cases hc : st.c = 0
  case neg => rw [rlevel_stuck hc]; exact ⟨hp, fun h => absurd h hc⟩
  obtain ⟨k1, k2, k3⟩ := tokV_ok s hp
  obtain ⟨q1, q2⟩ := rnext_p (st := st) hp
  have hc' : (st.c != 0) = false := by simp [hc]
  simp only [rlevelV, hc', cond_false]
  cases h0 : strIs (tokV s st.p).t [48]
  case true =>
   have z := strIs_size h0
   simp only [cond_true, cond_false]
   refine ⟨q1, fun h => ?_⟩
   obtain ⟨_, _, e⟩ := q2 h
   simp only [List.length_cons, List.length_nil] at z
   refine ⟨hc, ?_, ?_, ?_, by simp [printL]⟩ <;> simp only [e, printL, Lv.size, List.length_cons, List.length_nil] <;> omega
  cases h1 : isNameV (tokV s st.p).t
  case true =>
   simp only [cond_true, cond_false]
   refine ⟨q1, fun h => ?_⟩
   obtain ⟨_, e1, e⟩ := q2 h
   have z := isNo_size e1
   have zz : (tokV s st.p).t.data.toList.length = (tokV s st.p).t.size := Array.length_toList
   refine ⟨hc, ?_, ?_, ?_, ?_⟩
   ·simp only [e, printL, zz]; omega
   ·simp only [e, Lv.size]; omega
   ·simp only [e]; omega
   ·simp only [printL]; intro hh; rw [hh] at zz; simp at zz; omega
  cases h2 : strIs (tokV s st.p).t [40]
  case false =>
   simp only [cond_false]
   exact ⟨by rw [rfail_p]; exact hp, fun h => absurd h (rfail_c _ _)⟩
  have z2 := strIs_size h2
  simp only [List.length_cons, List.length_nil] at z2
  simp only [cond_true, cond_false]
  obtain ⟨r1, r2⟩ := rnext_p (s := s) (st := (rnextV s st).2) q1
  have hn2 : (rnextV s (rnextV s st).2).2.c ≠ 0 ∨ s.size - (rnextV s (rnextV s st).2).2.p < n := by
   by_cases hz : (rnextV s (rnextV s st).2).2.c = 0
   ·obtain ⟨e1, e2, e3⟩ := r2 hz
    obtain ⟨_, _, e4⟩ := q2 e1
    obtain ⟨m1, _, _⟩ := tokV_ok s q1
    rcases hn with hn | hn
    ·exact absurd hc hn
    ·have := isNo_size e2; right; omega
   ·exact .inl hz
  have tx := rlevel_took s n _ r1 hn2
  have hn3 : (rlevelV n s (rnextV s (rnextV s st).2).2).2.c ≠ 0 ∨ s.size - (rlevelV n s (rnextV s (rnextV s st).2).2).2.p < n := by
   by_cases hz : (rlevelV n s (rnextV s (rnextV s st).2).2).2.c = 0
   ·obtain ⟨e1, _, _, e2, _⟩ := tx.ok hz
    rcases hn2 with h | h
    ·exact absurd e1 h
    ·right; omega
   ·exact .inl hz
  have ty := rlevel_took s n _ tx.le hn3
  generalize hX : rlevelV n s (rnextV s (rnextV s st).2).2 = X at tx ty hn3
  generalize hY : rlevelV n s X.2 = Y at ty
  have b41 : (ba [41]).toList = [41] := by rw [ByteArray.toList_eq]; rfl
  have one : ∀ (f : Lv → Lv) (w : List UInt8), (∀ l, (printL (f l)).length = (printL l).length + w.length + 3 ∧ (f l).size = l.size + 1 ∧ printL (f l) ≠ []) → strIs (tokV s (rnextV s st).2.p).t w = true → w.length ≥ 1 → Took s st (f X.1, rtakeV s X.2 (ba [41])) := by
   intro f w hf hw hwl
   obtain ⟨t1, t2⟩ := rtake_p (w := ba [41]) tx.le
   refine ⟨t1, fun h => ?_⟩
   obtain ⟨u1, u2, u3⟩ := t2 h
   obtain ⟨v1, v2, v3, v4, v5⟩ := tx.ok u1
   obtain ⟨w1, w2, w3⟩ := r2 v1
   obtain ⟨x1, x2, x3⟩ := q2 w1
   obtain ⟨m1, _, _⟩ := tokV_ok s q1
   obtain ⟨m2, _, _⟩ := tokV_ok s tx.le
   have z4 := strIs_size hw
   have z5 : (tokV s X.2.p).t.size = 1 := by
    have := strIs_size (l := [41]) (t := (tokV s X.2.p).t) (by simp [strIs, u2])
    simpa using this
   obtain ⟨g1, g2, g3⟩ := hf X.1
   simp only
   refine ⟨hc, ?_, ?_, ?_, g3⟩ <;> (try rw [g1]) <;> (try rw [g2]) <;> omega
  have two : ∀ (f : Lv → Lv → Lv) (w : List UInt8), (∀ l m, (printL (f l m)).length = (printL l).length + (printL m).length + w.length + 4 ∧ (f l m).size = l.size + m.size + 1 ∧ printL (f l m) ≠ []) → strIs (tokV s (rnextV s st).2.p).t w = true → w.length ≥ 1 → Took s st (f X.1 Y.1, rtakeV s Y.2 (ba [41])) := by
   intro f w hf hw hwl
   obtain ⟨t1, t2⟩ := rtake_p (w := ba [41]) ty.le
   refine ⟨t1, fun h => ?_⟩
   obtain ⟨u1, u2, u3⟩ := t2 h
   obtain ⟨y1, y2, y3, y4, y5⟩ := ty.ok u1
   obtain ⟨v1, v2, v3, v4, v5⟩ := tx.ok y1
   obtain ⟨w1, w2, w3⟩ := r2 v1
   obtain ⟨x1, x2, x3⟩ := q2 w1
   obtain ⟨m1, _, _⟩ := tokV_ok s q1
   obtain ⟨m2, _, _⟩ := tokV_ok s ty.le
   have z4 := strIs_size hw
   have z5 : (tokV s Y.2.p).t.size = 1 := by
    have := strIs_size (l := [41]) (t := (tokV s Y.2.p).t) (by simp [strIs, u2])
    simpa using this
   obtain ⟨g1, g2, g3⟩ := hf X.1 Y.1
   simp only
   refine ⟨hc, ?_, ?_, ?_, g3⟩ <;> (try rw [g1]) <;> (try rw [g2]) <;> omega
  simp only [lvP, lv1, lv2, hX, hY]
  cases h3 : strIs (tokV s (rnextV s st).2.p).t [115]
  case true => exact one .succ [115] (fun l => ⟨by simp [printL] <;> omega, rfl, by simp [printL]⟩) h3 (by simp)
  cases h4 : strIs (tokV s (rnextV s st).2.p).t [109, 97, 120]
  case true => exact two .max [109, 97, 120] (fun l m => ⟨by simp [printL]; omega, rfl, by simp [printL]⟩) h4 (by simp)
  cases h5 : strIs (tokV s (rnextV s st).2.p).t [105, 109, 97, 120]
  case true => exact two .imax [105, 109, 97, 120] (fun l m => ⟨by simp [printL]; omega, rfl, by simp [printL]⟩) h5 (by simp)
  exact ⟨by simp only [cond_false]; rw [rfail_p]; exact q1, fun h => absurd h (by simp only [cond_false]; exact rfail_c _ _)⟩
theorem rlevel_law {r : Nat} {s : ByteArray} (hs : s.size < 2 ^ 61) : ∀ (n : Nat) (st : RS) (σ : Sto), σ[r]? = some (st.cells s) → st.p ≤ s.size → (st.c ≠ 0 ∨ s.size - st.p < n) → 0 < n →
  lim C 55 [(.ptr 69 r 0, false)] σ = some (.ret [(.agg [.int .i64 (rlevelV n s st).1.kind, .str (rlevelV n s st).1.name, .slice 3 74 (rlevelV n s st).1.args], false)], σ.set r ((rlevelV n s st).2.cells s))
 | 0, st, σ, h, hp, hn, h0 => by omega
 | n + 1, st, σ, h, hp, hn, _ => rlevel_lim (n := 0) <| by
  have ht := token_law h hs hp
  have hi := isName_law (tokV s st.p).t σ
  simp only [rlevel, rlevelF, callK_ret3 ht rfl, tok0, tok1, tok2, callK_ret1 hi, rd2 h, V.asInt, V.asStr, if_true, Option.bind_some, List.getD_cons_zero, V.asBool]
  by_cases hc : st.c = 0
  case neg =>
   have h2 : (st.c != 0) = true := by simpa using hc
   rw [rlevel_stuck hc]
   simp only [h2, cond_true, rset_same h]
   rfl
  obtain ⟨q1, q2⟩ := rnext_p (st := st) hp
  obtain ⟨r1, r2⟩ := rnext_p (s := s) (st := (rnextV s st).2) q1
  have hc' : (st.c != 0) = false := by simp [hc]
  have hnx := rnext_law h hs hp
  have hg1 : (σ.set r ((rnextV s st).2.cells s))[r]? = some ((rnextV s st).2.cells s) := set_get h
  have e48 : ∀ t : ByteArray, (t.toList == (ByteArray.mk #[48]).toList) = strIs t [48] := fun _ => rfl
  have e40 : ∀ t : ByteArray, (t.toList == (ByteArray.mk #[40]).toList) = strIs t [40] := fun _ => rfl
  have e115 : ∀ t : ByteArray, (t.toList == (ByteArray.mk #[115]).toList) = strIs t [115] := fun _ => rfl
  have emax : ∀ t : ByteArray, (t.toList == (ByteArray.mk #[109, 97, 120]).toList) = strIs t [109, 97, 120] := fun _ => rfl
  have eimax : ∀ t : ByteArray, (t.toList == (ByteArray.mk #[105, 109, 97, 120]).toList) = strIs t [105, 109, 97, 120] := fun _ => rfl
  have e41 : ByteArray.mk #[41] = ba [41] := rfl
  have hr1 : room (0 + 1) = true := by decide
  have hr2 : room (1 + 1) = true := by decide
  simp only [hc', cond_false, callK_ret1 hnx, e48, e40, e115, emax, eimax, e41, hr1, hr2]
  have ht2 := token_law hg1 hs q1
  simp only [callK_ret3 ht2 rfl, tok0, tok1, V.asStr, Option.bind_some]
  have hnx2 := rnext_law hg1 hs q1
  rw [List.set_set] at hnx2
  have hg2 : (σ.set r ((rnextV s (rnextV s st).2).2.cells s))[r]? = some ((rnextV s (rnextV s st).2).2.cells s) := set_get h
  have hf1 := rfail_law h (tokV s st.p).at_
  have hf2 := rfail_law hg1 (tokV s (rnextV s st).2.p).at_
  rw [List.set_set] at hf2
  simp only [callK_ret1 hnx2, callK_ret0 hf1, callK_ret0 hf2]
  simp only [rlevelV, hc', cond_false]
  cases h0 : strIs (tokV s st.p).t [48]
  case true => rfl
  cases h1 : isNameV (tokV s st.p).t
  case true => rfl
  cases h2 : strIs (tokV s st.p).t [40]
  case false => rfl
  simp only [cond_true, cond_false]
  have z2 := strIs_size h2
  simp only [List.length_cons, List.length_nil] at z2
  obtain ⟨k1, k2, k3⟩ := tokV_ok s hp
  have hn2 : (rnextV s (rnextV s st).2).2.c ≠ 0 ∨ s.size - (rnextV s (rnextV s st).2).2.p < n := by
   by_cases hz : (rnextV s (rnextV s st).2).2.c = 0
   ·obtain ⟨e1, e2, e3⟩ := r2 hz
    obtain ⟨_, _, e4⟩ := q2 e1
    obtain ⟨m1, _, _⟩ := tokV_ok s q1
    rcases hn with hn | hn
    ·exact absurd hc hn
    ·have := isNo_size e2; right; omega
   ·exact .inl hz
  have hn0 : 0 < n := by
   rcases hn with hn | hn
   ·exact absurd hc hn
   ·omega
  have tx := rlevel_took s n _ r1 hn2
  have hn3 : (rlevelV n s (rnextV s (rnextV s st).2).2).2.c ≠ 0 ∨ s.size - (rlevelV n s (rnextV s (rnextV s st).2).2).2.p < n := by
   by_cases hz : (rlevelV n s (rnextV s (rnextV s st).2).2).2.c = 0
   ·obtain ⟨e1, _, _, e2, _⟩ := tx.ok hz
    rcases hn2 with h | h
    ·exact absurd e1 h
    ·right; omega
   ·exact .inl hz
  have ty := rlevel_took s n _ tx.le hn3
  have hx := rlevel_law hs n _ _ hg2 r1 hn2 hn0
  rw [List.set_set] at hx
  have hg3 : (σ.set r ((rlevelV n s (rnextV s (rnextV s st).2).2).2.cells s))[r]? = some ((rlevelV n s (rnextV s (rnextV s st).2).2).2.cells s) := set_get h
  have hy := rlevel_law hs n _ _ hg3 tx.le hn3 hn0
  rw [List.set_set] at hy
  simp only [lvP, lv1, lv2]
  generalize rlevelV n s (rnextV s (rnextV s st).2).2 = X at tx hx hg3 hn3 hy ty ⊢
  generalize rlevelV n s X.2 = Y at hy ty ⊢
  have hg4 : (σ.set r (Y.2.cells s))[r]? = some (Y.2.cells s) := set_get h
  have htx := rtake_law hg3 hs tx.le (ba [41])
  have hty := rtake_law hg4 hs ty.le (ba [41])
  rw [List.set_set] at htx hty
  simp only [callK_ret1 hx, callK_ret1 hy, callK_ret0 htx, callK_ret0 hty, List.getD_cons_zero, fits_lv, cell_lv, grd, Bool.and_self, cond_true, Option.bind_some]
  cases h3 : strIs (tokV s (rnextV s st).2.p).t [115]
  case true => rfl
  cases h4 : strIs (tokV s (rnextV s st).2.p).t [109, 97, 120]
  case true => rfl
  cases h5 : strIs (tokV s (rnextV s st).2.p).t [105, 109, 97, 120]
  case true => rfl
  rfl
end Go.Ab.Mk
end
