/- Levels are compared: Leq, and what it comes to over abstract values. -/
import Derived.Test.YtifoglinlcfelaaGreatDoorProg
import Derived.Test.YtifoglinlcfelaaGreatDoorAbMp
import Derived.Test.YtifoglinlcfelaaGreatDoorLvO1
import Derived.WalkKit
import Derived.RegionTactic
import Derived.LoopTactic
import Derived.Test.YtifoglinlcfelaaGreatDoorAbLim
set_option linter.unusedSimpArgs false
set_option linter.unusedVariables false
set_option linter.deprecated false
section
namespace Go.Proofs
open Go.RowKit Go.Ab Go.Maps
set_option maxRecDepth 100000
set_option maxHeartbeats 1000000
theorem Mk.zeroI (w : World) : (zeroValue 3).run Tryz.prog w = .ok (.int .i64 0) w := by kernel_rfl
abbrev Mk.MapI := MapAt Tryz.prog 9 3
abbrev Mk.RangeI := RangeAt Tryz.prog 9 3
theorem Mk.fleq_ok {w : World} {bf bg nf ng mf mg : Nat} {F G : ByteArray → Option Nat} (hf : Mk.MapI w bf mf F) (hg : Mk.MapI w bg mg G) (hF : ∀ s k, F s = some k → k < 2 ^ 60) (hG : ∀ s k, G s = some k → k < 2 ^ 60) :
  Calls Tryz.prog 92 #[.agg #[.int .i64 (nf : Int), .map (some bf)], .agg #[.int .i64 (ng : Int), .map (some bg)]] w fun e w' =>
   ∃ x : Bool, e = .returned (.bool x) ∧ (x = true ↔ Fm.leq ⟨nf, F⟩ ⟨ng, G⟩) ∧ Below w.heap.size w w' := by
 have hbf := hf.lt
 have hbg := hg.lt
 go_enter Tryz.func92, Tryz.ntmps92
 go_wp2_with (first
  | (at_range; refine wpl_range _ rfl _ 100 rfl 9 3 Tryz.underlying9 Tryz.underlying100 bf mf F rfl ((hf.alloc _).alloc _) ?_; intro w0 cnt0 hcn0 hrg0 hg0 hs0)
  | go_in)
 go_frame
 have hA : OffB (fun _ => False) w w0 := (((OffB.refl _ w).alloc _).alloc _).grown hg0 (fun b hb => by cases hb)
 have hA2 : OffB (fun _ => False) ((w.alloc (.cells #[.int .i64 (nf : Int), .map (some bf)] 109)).alloc (.cells #[.int .i64 (ng : Int), .map (some bg)] 109)) w0 := (OffB.refl _ _).grown hg0 (fun b hb => by cases hb)
 have c20 : w0.cell? ⟨w.heap.size, 0, none⟩ = some (.int .i64 (nf : Int)) := hA2.cell ((cell_old (by simp)).trans (cell_new rfl)) id
 have c30 : w0.cell? ⟨w.heap.size + 1, 0, none⟩ = some (.int .i64 (ng : Int)) := hA2.cell (cell_new (by simp)) id
 have c31 : w0.cell? ⟨w.heap.size + 1, 1, none⟩ = some (.map (some bg)) := hA2.cell (cell_new (by simp)) id
 have hg1 : Mk.MapI w0 bg mg G := hA.map hg id
 have hr : ((w.alloc (.cells #[.int .i64 (nf : Int), .map (some bf)] 109)).alloc (.cells #[.int .i64 (ng : Int), .map (some bg)] 109)).heap.size = w.heap.size + 2 := by simp
 rw [hr] at hrg0 hs0 ⊢
 clear hA2 hg0 hg
 go_loopw [5] (fun _ wr => ∃ (left : ByteArray → Bool) (cnt : Nat), Mk.RangeI wr bf (w.heap.size + 2) mf F left cnt ∧ (∀ s k, F s = some k → left s = false → ∃ m, G s = some m ∧ k ≤ m) ∧ OffB (fun i => i = w.heap.size + 2) w0 wr)
  (fun _ wr => wr.rangeLeft bf (w.heap.size + 2))
 case atStart => exact ⟨_, _, hrg0, fun s k h1 h2 => by rw [h1] at h2; simp at h2, OffB.refl _ _⟩
 case round =>
  obtain ⟨left, cnt, hrg, hseen, hoff⟩ := hrel
  have d20 := hoff.cell c20 (by simp)
  have d30 := hoff.cell c30 (by simp)
  have d31 := hoff.cell c31 (by simp)
  have dg := hoff.map hg1 (fun e => by have := hbg; omega)
  go_wp2_with (first
   | (at_next; refine wpl_next _ rfl _ rfl 9 3 Tryz.underlying9 Tryz.underlying3 bf (w.heap.size + 2) mf F left cnt rfl hrg ?_ ?_)
   | go_in)
  ·intro hc0 hl0
   go_wp2
   go_ret
   have hb1 : Below w.heap.size w wr := (hA.trans hoff (fun i hi hs => by omega)).below (Nat.le_refl _) (fun _ _ h => h)
   refine ⟨decide (nf ≤ ng), rfl, ?_, hb1⟩
   simp only [decide_eq_true_eq]
   exact ⟨fun h => ⟨fun p k hp => hseen p k hp (hl0 p), h⟩, fun h => h.2⟩
  ·intro s c w1 cnt1 hsm hls hFs hrg1 hlt hgr hsz hen
   have e31 : w1.cell? ⟨w.heap.size + 1, 1, none⟩ = some (.map (some bg)) := by
    rw [World.cell?_of_block (w := wr) (hgr.block _ (World.block_lt_of_cell? _ _ d31) (by simp))]; exact d31
   have eg : Mk.MapI w1 bg mg G := dg.kept (hgr.block _ dg.lt (fun e => by have := Option.some.inj e; omega))
   go_wp2_with (first
    | (at_lookup; refine wpl_look_ok _ rfl _ _ 100 rfl 9 3 Tryz.underlying9 Tryz.underlying3 Tryz.underlying100 (Mk.zeroI _) bg mg G rfl eg s rfl hsm ?_)
    | go_in)
   ·have ho : (G s).isSome = true := by assumption
    have ht : (G s).isNone = true ∨ (G s).getD 0 < c := by assumption
    go_ret
    have hb1 : Below w.heap.size w w1 := ((hA.trans hoff (fun i hi hs => by omega)).grown hgr (fun b hb hlt => by have := Option.some.inj hb; omega)).below (Nat.le_refl _) (fun _ _ h => h)
    refine ⟨false, rfl, ?_, hb1⟩
    obtain ⟨m, hm⟩ := Option.isSome_iff_exists.1 ho
    rw [hm] at ht
    simp only [Option.isNone_some, Bool.false_eq_true, false_or, Option.getD_some] at ht
    refine ⟨fun h => by simp at h, fun h => ?_⟩
    obtain ⟨m', h1, h2⟩ := h.1 s c hFs
    have h1' : G s = some m' := h1
    rw [hm] at h1'
    have := Option.some.inj h1'
    omega
   ·have ho : (G s).isSome = true := by assumption
    have ht : (G s).isNone = false ∧ ¬(G s).getD 0 < c := by assumption
    obtain ⟨m, hm⟩ := Option.isSome_iff_exists.1 ho
    rw [hm] at ht
    simp only [Option.getD_some] at ht
    refine ⟨⟨_, cnt1, hrg1, fun q k hq hl => ?_, hoff.grown hgr (fun b hb _ => (Option.some.inj hb).symm)⟩, by rw [hrg1.left_eq, hrg.left_eq]; exact hlt⟩
    by_cases hqs : q = s
    ·subst hqs
     rw [hFs] at hq
     have := Option.some.inj hq
     exact ⟨m, hm, by omega⟩
    ·refine hseen q k hq ?_
     simpa [hqs] using hl
   ·have hm : G s = none := by assumption
    go_ret
    have hb1 : Below w.heap.size w w1 := ((hA.trans hoff (fun i hi hs => by omega)).grown hgr (fun b hb hlt => by have := Option.some.inj hb; omega)).below (Nat.le_refl _) (fun _ _ h => h)
    refine ⟨false, rfl, ⟨fun h => by simp at h, fun h => ?_⟩, hb1⟩
    obtain ⟨m', h1, h2⟩ := h.1 s c hFs
    have h1' : G s = some m' := h1
    rw [hm] at h1'
    simp at h1'
   ·have h1 : ¬(G s).isSome = true := by assumption
    have h2 : ¬G s = none := by assumption
    exact absurd (by cases hx : G s with | none => rfl | some m => rw [hx] at h1; simp at h1) h2
theorem Mk.join_ok {w : World} {pf bf bg nf ng mf mg up : Nat} {F G : ByteArray → Option Nat} (c0 : w.cell? ⟨pf, 0, none⟩ = some (.int .i64 (nf : Int))) (c1 : w.cell? ⟨pf, 1, none⟩ = some (.map (some bf))) (fz : w.frozen? ⟨pf, 0, none⟩ = false)
  (hf : Mk.MapI w bf mf F) (hg : Mk.MapI w bg mg G) (hne : bf ≠ bg) (hm : mf + mg < 2 ^ 60) (hu : up ≤ 1) (hnf : nf < 2 ^ 60) (hng : ng < 2 ^ 60) (hF : ∀ s k, F s = some k → k < 2 ^ 60) (hG : ∀ s k, G s = some k → k < 2 ^ 60) :
  Calls Tryz.prog 97 #[.pointer (some ⟨pf, 0, none⟩), .agg #[.int .i64 (ng : Int), .map (some bg)], .int .i64 (up : Int)] w fun e w' =>
   e = .returned (.tuple #[]) ∧ w'.cell? ⟨pf, 0, none⟩ = some (.int .i64 ((Nat.max nf (ng + up) : Nat) : Int)) ∧ w'.cell? ⟨pf, 1, none⟩ = some (.map (some bf)) ∧ w'.frozen? ⟨pf, 0, none⟩ = false ∧
   Mk.MapI w' bf (mf + mg) (fun s => joinO up (F s) (G s)) ∧ OffB (fun i => i = pf ∨ i = bf) w w' := by
 have hpf := World.block_lt_of_cell? _ _ c0
 have hbf := hf.lt
 have hbg := hg.lt
 simp only at hpf
 go_enter Tryz.func97, Tryz.ntmps97
 go_wp2
 have hpg : bg ≠ pf := fun e => by subst e; rw [hg.notCell] at c0; simp at c0
 have hpf' : bf ≠ pf := fun e => by subst e; rw [hf.notCell] at c0; simp at c0
 have hmx : (if (nf : Int) < (ng : Int) + (up : Int) then (ng : Int) + (up : Int) else (nf : Int)) = ((Nat.max nf (ng + up) : Nat) : Int) := by
  rw [show Nat.max nf (ng + up) = if nf < ng + up then ng + up else nf by split; exact Nat.max_eq_right (by omega); exact Nat.max_eq_left (by omega)]
  split <;> split <;> omega
 go_region
 go_wp2_with (first
  | (at_range; refine wpl_range _ rfl _ 100 rfl 9 3 Tryz.underlying9 Tryz.underlying100 bg mg G rfl (((hg.setCell ⟨pf, 0, none⟩ hpg _).alloc _).drew) ?_; intro w0 cnt0 hcn0 hrg0 hg0 hs0)
  | go_in)
 try go_frame
 have hA : OffB (fun i => i = pf) w w0 := ((((OffB.refl (fun i => i = pf) w).setCell ⟨pf, 0, none⟩ (fun _ => rfl) _).alloc _).drew).grown hg0 (fun b hb => by cases hb)
 have hA2 := (OffB.refl (fun _ => False) _).grown hg0 (fun b hb => by cases hb)
 have k0 : w0.cell? ⟨pf, 0, none⟩ = some (.int .i64 ((Nat.max nf (ng + up) : Nat) : Int)) := by
  exact hA2.cell ((cell_old (by simpa using hpf)).trans (World.cell?_setCell_same' _ _ _ (by rw [c0]; rfl))) id
 have k1 : w0.cell? ⟨pf, 1, none⟩ = some (.map (some bf)) := hA2.cell ((cell_old (by simpa using hpf)).trans ((World.cell?_setCell_other _ _ _ _ (by simp)).trans c1)) id
 have kz : w0.frozen? ⟨pf, 0, none⟩ = false := by
  rw [hA2.frozen (by simp; omega) id]
  exact (frozen_old (by simpa using hpf)).trans ((World.frozen?_setCell _ _ _ _).trans fz)
 have hr : ((w.setCell ⟨pf, 0, none⟩ (.int .i64 ((Nat.max nf (ng + up) : Nat) : Int))).alloc (.cells #[.int .i64 (ng : Int), .map (some bg)] 109)).drew.heap.size = w.heap.size + 1 := by simp
 have hf0 : Mk.MapI w0 bf mf F := hA.map hf hpf'
 rw [hr] at hrg0 hs0 ⊢
 clear hA2 hg0 hg hmx
 go_loopw [6] (fun _ wr => ∃ (left : ByteArray → Bool) (cnt : Nat) (Fc : ByteArray → Option Nat), Mk.RangeI wr bg (w.heap.size + 1) mg G left cnt ∧ cnt ≤ mg ∧ Mk.MapI wr bf (mf + (mg - cnt)) Fc ∧
   (∀ s, Fc s = if left s then F s else joinO up (F s) (G s)) ∧ OffB (fun i => i = w.heap.size + 1 ∨ i = bf) w0 wr)
  (fun _ wr => wr.rangeLeft bg (w.heap.size + 1))
 case atStart =>
  refine ⟨_, _, F, hrg0, hcn0, hf0.mono (by omega), fun s => ?_, OffB.refl _ _⟩
  cases hGs : G s with
  | none => simp only [Option.isSome_none, Bool.false_eq_true, if_false]; cases F s <;> rfl
  | some x => simp
 case round =>
  obtain ⟨left, cnt, Fc, hrg, hcm, hfc, hFc, hoff⟩ := hrel
  have d1 := hoff.cell k1 (by simp only; omega)
  have hmax : mf + (mg - cnt) < maxLen := by unfold maxLen; omega
  go_wp2_with (first
   | (at_next; refine wpl_next _ rfl _ rfl 9 3 Tryz.underlying9 Tryz.underlying3 bg (w.heap.size + 1) mg G left cnt rfl hrg ?_ ?_)
   | go_in)
  ·intro hc0 hl0
   go_wp2
   go_end0
   have hfin : (fun s => joinO up (F s) (G s)) = Fc := by
    funext s
    rw [hFc, hl0 s]
    rfl
   refine ⟨rfl, hoff.cell k0 (by simp only; omega), d1, ?_, by rw [hfin]; exact hfc.mono (by omega), ?_⟩
   ·rw [hoff.frozen (World.block_lt_of_cell? _ _ k0) (by simp only; omega)]; exact kz
   ·exact (hA.mono (fun i _ h => .inl h)).trans hoff (fun i hi hs => by rcases hs with h | h; omega; exact .inr h)
  ·intro s c w1 cnt1 hsm hls hGs hrg1 hlt hgr hsz hen
   have e1 : w1.cell? ⟨pf, 1, none⟩ = some (.map (some bf)) := by
    rw [World.cell?_of_block (w := wr) (hgr.block _ (World.block_lt_of_cell? _ _ d1) (fun e => by have := Option.some.inj e; simp only at this; omega))]; exact d1
   have ef : Mk.MapI w1 bf (mf + (mg - cnt)) Fc := hfc.kept (hgr.block _ hfc.lt (fun e => by have := Option.some.inj e; omega))
   have hFs : Fc s = F s := by rw [hFc, hls]; rfl
   have hc60 := hG s c hGs
   go_wp2_with (first
    | (at_lookup; refine wpl_look_ok _ rfl _ _ 100 rfl 9 3 Tryz.underlying9 Tryz.underlying3 Tryz.underlying100 (Mk.zeroI _) bf (mf + (mg - cnt)) Fc rfl ef s rfl hsm ?_; rw [hFs])
    | (at_mapUpdate; refine wpl_update _ rfl _ _ _ 100 rfl 9 3 Tryz.underlying9 Tryz.underlying3 Tryz.underlying100 bf (mf + (mg - cnt)) Fc rfl ef hmax s rfl hsm (c + up) rfl (by omega) ?_; intro w2 hf2 hg2; try go_frame)
    | go_in)
   ·have ho : (F s).isSome = true := by assumption
    have ht : (F s).isNone = true ∨ (((F s).getD 0 : Nat) : Int) < (c : Int) + (up : Int) := by assumption
    have hval : joinO up (F s) (some c) = some (c + up) := by
     obtain ⟨m, hm⟩ := Option.isSome_iff_exists.1 ho
     rw [hm] at ht ⊢
     simp only [Option.isNone_some, Bool.false_eq_true, false_or, Option.getD_some] at ht
     show some (Nat.max m (c + up)) = _
     rw [show Nat.max m (c + up) = c + up from Nat.max_eq_right (by omega)]
    refine ⟨⟨_, cnt1, _, hrg1.kept hg2 (fun e => hne (Option.some.inj e).symm) (fun e => by have := Option.some.inj e; omega), by omega, hf2.mono (by omega), fun q => ?_, (hoff.grown hgr (fun b hb _ => .inl (Option.some.inj hb).symm)).grown hg2 (fun b hb _ => .inr (Option.some.inj hb).symm)⟩,
     by rw [(hrg1.kept hg2 (fun e => hne (Option.some.inj e).symm) (fun e => by have := Option.some.inj e; omega)).left_eq, hrg.left_eq]; exact hlt⟩
    unfold upd1
    by_cases hqs : q = s
    ·subst hqs
     simp only [if_true, decide_true, Bool.not_true, Bool.and_false, Bool.false_eq_true, if_false, hGs]
     exact hval.symm
    ·simp only [if_neg hqs, decide_eq_false hqs, Bool.not_false, Bool.and_true]
     exact hFc q
   ·have ho : (F s).isSome = true := by assumption
    have ht : (F s).isNone = false ∧ (c : Int) + (up : Int) ≤ (((F s).getD 0 : Nat) : Int) := by assumption
    refine ⟨⟨_, cnt1, Fc, hrg1, by omega, ef.mono (by omega), fun q => ?_, hoff.grown hgr (fun b hb _ => .inl (Option.some.inj hb).symm)⟩, by rw [hrg1.left_eq, hrg.left_eq]; exact hlt⟩
    by_cases hqs : q = s
    ·subst hqs
     simp only [decide_true, Bool.not_true, Bool.and_false, Bool.false_eq_true, if_false, hGs]
     obtain ⟨m, hm⟩ := Option.isSome_iff_exists.1 ho
     rw [hm] at ht
     simp only [Option.getD_some] at ht
     rw [hFs, hm]
     show some m = some (Nat.max m (c + up))
     rw [show Nat.max m (c + up) = m from Nat.max_eq_left (by omega)]
    ·simp only [decide_eq_false hqs, Bool.not_false, Bool.and_true]
     exact hFc q
   ·have hm : F s = none := by assumption
    have hval : joinO up (F s) (some c) = some (c + up) := by rw [hm]; rfl
    refine ⟨⟨_, cnt1, _, hrg1.kept hg2 (fun e => hne (Option.some.inj e).symm) (fun e => by have := Option.some.inj e; omega), by omega, hf2.mono (by omega), fun q => ?_, (hoff.grown hgr (fun b hb _ => .inl (Option.some.inj hb).symm)).grown hg2 (fun b hb _ => .inr (Option.some.inj hb).symm)⟩,
     by rw [(hrg1.kept hg2 (fun e => hne (Option.some.inj e).symm) (fun e => by have := Option.some.inj e; omega)).left_eq, hrg.left_eq]; exact hlt⟩
    unfold upd1
    by_cases hqs : q = s
    ·subst hqs
     simp only [if_true, decide_true, Bool.not_true, Bool.and_false, Bool.false_eq_true, if_false, hGs]
     exact hval.symm
    ·simp only [if_neg hqs, decide_eq_false hqs, Bool.not_false, Bool.and_true]
     exact hFc q
   ·have h1 : ¬(F s).isSome = true := by assumption
    have h2 : ¬F s = none := by assumption
    exact absurd (by cases hx : F s with | none => rfl | some m => rw [hx] at h1; simp at h1) h2
end Go.Proofs
end
section
namespace Go.Ab
open Go.RowKit
def LvAt (w : World) : Lv → Value → Prop
 | .zero, c => ∃ p k, c = .agg #[.int .i64 0, .string ⟨#[]⟩, .slice p 0 k]
 | .param s, c => ∃ p k, c = .agg #[.int .i64 4, .string s, .slice p 0 k]
 | .succ l, c => ∃ b off k y0 y1 y2, c = .agg #[.int .i64 1, .string ⟨#[]⟩, .slice (some ⟨b, off, none⟩) 1 k] ∧ w.cell? ⟨b, off, none⟩ = some y0 ∧ w.cell? ⟨b, off + 1, none⟩ = some y1 ∧ w.cell? ⟨b, off + 2, none⟩ = some y2 ∧ LvAt w l (.agg #[y0, y1, y2])
 | .max l m, c => ∃ b off k y0 y1 y2 z0 z1 z2, c = .agg #[.int .i64 2, .string ⟨#[]⟩, .slice (some ⟨b, off, none⟩) 2 k] ∧ w.cell? ⟨b, off, none⟩ = some y0 ∧ w.cell? ⟨b, off + 1, none⟩ = some y1 ∧ w.cell? ⟨b, off + 2, none⟩ = some y2 ∧ LvAt w l (.agg #[y0, y1, y2]) ∧
   w.cell? ⟨b, off + 3, none⟩ = some z0 ∧ w.cell? ⟨b, off + 4, none⟩ = some z1 ∧ w.cell? ⟨b, off + 5, none⟩ = some z2 ∧ LvAt w m (.agg #[z0, z1, z2])
 | .imax l m, c => ∃ b off k y0 y1 y2 z0 z1 z2, c = .agg #[.int .i64 3, .string ⟨#[]⟩, .slice (some ⟨b, off, none⟩) 2 k] ∧ w.cell? ⟨b, off, none⟩ = some y0 ∧ w.cell? ⟨b, off + 1, none⟩ = some y1 ∧ w.cell? ⟨b, off + 2, none⟩ = some y2 ∧ LvAt w l (.agg #[y0, y1, y2]) ∧
   w.cell? ⟨b, off + 3, none⟩ = some z0 ∧ w.cell? ⟨b, off + 4, none⟩ = some z1 ∧ w.cell? ⟨b, off + 5, none⟩ = some z2 ∧ LvAt w m (.agg #[z0, z1, z2])
theorem keep_cell {w w' : World} (hB : Below w.heap.size w w') {p : Addr} {x : Value} (h : w.cell? p = some x) : w'.cell? p = some x := (hB.cell (World.block_lt_of_cell? _ _ h)).trans h
theorem LvAt.below {w w' : World} (hB : Below w.heap.size w w') : ∀ {l : Lv} {c : Value}, LvAt w l c → LvAt w' l c
 | .zero, _, h => h
 | .param _, _, h => h
 | .succ _, _, ⟨b, off, k, y0, y1, y2, h0, h1, h2, h3, h4⟩ => ⟨b, off, k, y0, y1, y2, h0, keep_cell hB h1, keep_cell hB h2, keep_cell hB h3, LvAt.below hB h4⟩
 | .max _ _, _, ⟨b, off, k, y0, y1, y2, z0, z1, z2, h0, h1, h2, h3, h4, h5, h6, h7, h8⟩ => ⟨b, off, k, y0, y1, y2, z0, z1, z2, h0, keep_cell hB h1, keep_cell hB h2, keep_cell hB h3, LvAt.below hB h4, keep_cell hB h5, keep_cell hB h6, keep_cell hB h7, LvAt.below hB h8⟩
 | .imax _ _, _, ⟨b, off, k, y0, y1, y2, z0, z1, z2, h0, h1, h2, h3, h4, h5, h6, h7, h8⟩ => ⟨b, off, k, y0, y1, y2, z0, z1, z2, h0, keep_cell hB h1, keep_cell hB h2, keep_cell hB h3, LvAt.below hB h4, keep_cell hB h5, keep_cell hB h6, keep_cell hB h7, LvAt.below hB h8⟩
theorem LvAt.shape {w : World} {l : Lv} {y0 y1 y2 : Value} (h : LvAt w l (.agg #[y0, y1, y2])) : ∃ k s p n m, y0 = .int .i64 k ∧ y1 = .string s ∧ y2 = .slice p n m := by
 cases l with
 | zero => obtain ⟨p, k, e⟩ := h; injection e with e; injection e with e; simp at e; exact ⟨_, _, _, _, _, e.1, e.2.1, e.2.2⟩
 | param s => obtain ⟨p, k, e⟩ := h; injection e with e; injection e with e; simp at e; exact ⟨_, _, _, _, _, e.1, e.2.1, e.2.2⟩
 | succ l => obtain ⟨_, _, _, _, _, _, e, _⟩ := h; injection e with e; injection e with e; simp at e; exact ⟨_, _, _, _, _, e.1, e.2.1, e.2.2⟩
 | max l m => obtain ⟨_, _, _, _, _, _, _, _, _, e, _⟩ := h; injection e with e; injection e with e; simp at e; exact ⟨_, _, _, _, _, e.1, e.2.1, e.2.2⟩
 | imax l m => obtain ⟨_, _, _, _, _, _, _, _, _, e, _⟩ := h; injection e with e; injection e with e; simp at e; exact ⟨_, _, _, _, _, e.1, e.2.1, e.2.2⟩
end Go.Ab
namespace Go.Proofs
open Go.RowKit Go.Ab Go.Maps
set_option maxRecDepth 100000
set_option maxHeartbeats 1000000
def isK (f : ByteArray → Option Nat) : ByteArray → Bool := fun s => (f s).isSome
def Mk.ShapeIs (l : Lv) (Z O : ByteArray → Option Nat) (w : World) (e : Ending) (w' : World) : Prop :=
 ∃ (F : Fm) (b m : Nat) (q : ByteArray), e = .returned (.tuple #[.agg #[.int .i64 (F.n : Int), .map (some b)], .string q]) ∧ Below w.heap.size w w' ∧ w.heap.size ≤ b ∧ Mk.MapI w' b m F.f ∧ m ≤ l.size ∧ F.n ≤ l.size ∧ (∀ p k, F.f p = some k → k ≤ F.n) ∧
  ((q.size = 0 ∧ FmOk l (isK Z) (isK O) F) ∨ (q ∈ l.pars ∧ 0 < q.size ∧ Z q = none ∧ O q = none))
structure Mk.Sh (w W : World) (y0 y1 y2 : Value) (F : Fm) (m : Nat) : Prop where
 c30 : W.cell? ⟨w.heap.size, 0, none⟩ = some y0
 c31 : W.cell? ⟨w.heap.size, 1, none⟩ = some y1
 c32 : W.cell? ⟨w.heap.size, 2, none⟩ = some y2
 c60 : W.cell? ⟨w.heap.size + 1, 0, none⟩ = some (.int .i64 0)
 c61 : W.cell? ⟨w.heap.size + 1, 1, none⟩ = some (.map none)
 z60 : W.frozen? ⟨w.heap.size + 1, 0, none⟩ = false
 z61 : W.frozen? ⟨w.heap.size + 1, 1, none⟩ = false
 c80 : W.cell? ⟨w.heap.size + 3, 0, none⟩ = some (.int .i64 (F.n : Int))
 c81 : W.cell? ⟨w.heap.size + 3, 1, none⟩ = some (.map (some (w.heap.size + 1 + 1)))
 z80 : W.frozen? ⟨w.heap.size + 3, 0, none⟩ = false
 map : Mk.MapI W (w.heap.size + 1 + 1) m F.f
 below : Below w.heap.size w W
 sz : w.heap.size + 4 ≤ W.heap.size
theorem Mk.Sh.start (w : World) (y0 y1 y2 : Value) (ta tb td : TypeId) : Mk.Sh w ((((w.alloc (.cells #[y0, y1, y2] ta)).alloc (.cells #[.int .i64 0, .map none] tb)).alloc (.map #[] 0)).alloc (.cells #[.int .i64 0, .map (some (w.heap.size + 1 + 1))] td)) y0 y1 y2 Fm.nil 0 where
 c30 := (four_cells w _ _ _ ta tb td 0).1
 c31 := (four_cells w _ _ _ ta tb td 1).1
 c32 := (four_cells w _ _ _ ta tb td 2).1
 c60 := (four_cells w _ _ _ ta tb td 0).2.1
 c61 := (four_cells w _ _ _ ta tb td 1).2.1
 z60 := (four_frozen w _ _ _ ta tb td 0).1
 z61 := (four_frozen w _ _ _ ta tb td 1).1
 c80 := (four_cells w _ _ _ ta tb td 0).2.2
 c81 := (four_cells w _ _ _ ta tb td 1).2.2
 z80 := (four_frozen w _ _ _ ta tb td 0).2
 map := by
  have h := (MapAt.made (P := Tryz.prog) (k := 9) (e := 3) ((w.alloc (.cells #[y0, y1, y2] ta)).alloc (.cells #[.int .i64 0, .map none] tb))).alloc (.cells #[.int .i64 0, .map (some (w.heap.size + 1 + 1))] td)
  rw [show ((w.alloc (.cells #[y0, y1, y2] ta)).alloc (.cells #[.int .i64 0, .map none] tb)).heap.size = w.heap.size + 1 + 1 by simp] at h
  exact h
 below := ((((OffB.refl (fun _ => False) w).alloc _).alloc _).alloc _).alloc _ |>.below (Nat.le_refl _) (fun _ _ h => h)
 sz := by simp
theorem Mk.fin0 {w W' : World} {F : Fm} {m : Nat} (k0 : W'.cell? ⟨w.heap.size + 1, 0, none⟩ = some (.int .i64 (F.n : Int))) (k1 : W'.cell? ⟨w.heap.size + 1, 1, none⟩ = some (.map (some (w.heap.size + 1 + 1)))) (hb : Below w.heap.size w W') (hmp : Mk.MapI W' (w.heap.size + 1 + 1) m F.f)
  {l : Lv} {Z O : ByteArray → Option Nat} {q : ByteArray} (hm : m ≤ l.size) (hn : F.n ≤ l.size) (hk : ∀ p k, F.f p = some k → k ≤ F.n)
  (hq : (q.size = 0 ∧ FmOk l (isK Z) (isK O) F) ∨ (q ∈ l.pars ∧ 0 < q.size ∧ Z q = none ∧ O q = none)) {tmps : Array Value} (h6 : tmps[6]? = some (.pointer (some ⟨w.heap.size + 1, 0, none⟩))) (h7 : tmps[7]? = some (.string q)) :
  bodyPost Tryz.prog Tryz.f91 (Mk.ShapeIs l Z O w) .ret { tmps := tmps, defers := [] } W' := by
 refine bodyPost_ret (v := .tuple #[.agg #[.int .i64 (F.n : Int), .map (some (w.heap.size + 1 + 1))], .string q]) ?_ rfl ?_
 ·simp [results, Tryz.results91, h6, h7, k0, k1, go_sem]
 ·exact ⟨F, _, m, q, rfl, hb, by omega, hmp, hm, hn, hk, hq⟩
theorem Mk.fin4 (w : World) (y0 y1 y2 : Value) (ta tb td : TypeId) {l : Lv} {Z O : ByteArray → Option Nat} (hq : FmOk l (isK Z) (isK O) Fm.nil) {tmps : Array Value} (h6 : tmps[6]? = some (.pointer (some ⟨w.heap.size + 1, 0, none⟩))) (h7 : tmps[7]? = some (.string ⟨#[]⟩)) :
  bodyPost Tryz.prog Tryz.f91 (Mk.ShapeIs l Z O w) .ret { tmps := tmps, defers := [] }
   ((((w.alloc (.cells #[y0, y1, y2] ta)).alloc (.cells #[.int .i64 0, .map (some (w.heap.size + 1 + 1))] tb)).alloc (.map #[] 0)).alloc (.cells #[.int .i64 0, .map (some (w.heap.size + 1 + 1))] td)) := by
 have h := (MapAt.made (P := Tryz.prog) (k := 9) (e := 3) ((w.alloc (.cells #[y0, y1, y2] ta)).alloc (.cells #[.int .i64 0, .map (some (w.heap.size + 1 + 1))] tb))).alloc (.cells #[.int .i64 0, .map (some (w.heap.size + 1 + 1))] td)
 rw [show ((w.alloc (.cells #[y0, y1, y2] ta)).alloc (.cells #[.int .i64 0, .map (some (w.heap.size + 1 + 1))] tb)).heap.size = w.heap.size + 1 + 1 by simp] at h
 exact Mk.fin0 (F := Fm.nil) (m := 0) (four_cells w _ _ _ ta tb td 0).2.1 (four_cells w _ _ _ ta tb td 1).2.1 (((((OffB.refl (fun _ => False) w).alloc _).alloc _).alloc _).alloc _ |>.below (Nat.le_refl _) (fun _ _ h => h)) h (Nat.zero_le _) (Nat.zero_le _) (fun _ _ h => by simp [Fm.nil] at h) (.inl ⟨rfl, hq⟩) h6 h7
theorem Mk.Sh.later {w W W' : World} {y0 y1 y2 : Value} {F : Fm} {m : Nat} (h : Mk.Sh w W y0 y1 y2 F m) (hB : Below W.heap.size W W') : Mk.Sh w W' y0 y1 y2 F m where
 c30 := keep_cell hB h.c30
 c31 := keep_cell hB h.c31
 c32 := keep_cell hB h.c32
 c60 := keep_cell hB h.c60
 c61 := keep_cell hB h.c61
 z60 := (hB.frozen (World.block_lt_of_cell? _ _ h.c60)).trans h.z60
 z61 := (hB.frozen (World.block_lt_of_cell? _ _ h.c61)).trans h.z61
 c80 := keep_cell hB h.c80
 c81 := keep_cell hB h.c81
 z80 := (hB.frozen (World.block_lt_of_cell? _ _ h.c80)).trans h.z80
 map := h.map.kept (hB.block _ h.map.lt)
 below := h.below.trans (hB.mono (by have := h.sz; omega))
 sz := Nat.le_trans h.sz hB.size
theorem Mk.Sh.joined {w W W' : World} {y0 y1 y2 : Value} {F F' : Fm} {m m' : Nat} (h : Mk.Sh w W y0 y1 y2 F m) (k0 : W'.cell? ⟨w.heap.size + 3, 0, none⟩ = some (.int .i64 (F'.n : Int))) (k1 : W'.cell? ⟨w.heap.size + 3, 1, none⟩ = some (.map (some (w.heap.size + 1 + 1))))
  (kz : W'.frozen? ⟨w.heap.size + 3, 0, none⟩ = false) (hm : Mk.MapI W' (w.heap.size + 1 + 1) m' F'.f) (ho : OffB (fun i => i = w.heap.size + 3 ∨ i = w.heap.size + 1 + 1) W W') : Mk.Sh w W' y0 y1 y2 F' m' where
 c30 := ho.cell h.c30 (by simp only; omega)
 c31 := ho.cell h.c31 (by simp only; omega)
 c32 := ho.cell h.c32 (by simp only; omega)
 c60 := ho.cell h.c60 (by simp only; omega)
 c61 := ho.cell h.c61 (by simp only; omega)
 z60 := (ho.frozen (World.block_lt_of_cell? _ _ h.c60) (by simp only; omega)).trans h.z60
 z61 := (ho.frozen (World.block_lt_of_cell? _ _ h.c61) (by simp only; omega)).trans h.z61
 c80 := k0
 c81 := k1
 z80 := kz
 map := hm
 below := h.below.trans (ho.below (by have := h.sz; omega) (fun i hi hs => by omega))
 sz := Nat.le_trans h.sz ho.size
theorem Mk.Sh.fin {w W : World} {y0 y1 y2 : Value} {F : Fm} {m : Nat} (h : Mk.Sh w W y0 y1 y2 F m) {l : Lv} {Z O : ByteArray → Option Nat} {q : ByteArray} (hm : m ≤ l.size) (hn : F.n ≤ l.size) (hk : ∀ p k, F.f p = some k → k ≤ F.n)
  (hq : (q.size = 0 ∧ FmOk l (isK Z) (isK O) F) ∨ (q ∈ l.pars ∧ 0 < q.size ∧ Z q = none ∧ O q = none)) {tmps : Array Value} (h6 : tmps[6]? = some (.pointer (some ⟨w.heap.size + 1, 0, none⟩))) (h7 : tmps[7]? = some (.string q)) :
  bodyPost Tryz.prog Tryz.f91 (Mk.ShapeIs l Z O w) .ret { tmps := tmps, defers := [] } ((W.setCell ⟨w.heap.size + 1, 0, none⟩ (.int .i64 (F.n : Int))).setCell ⟨w.heap.size + 1, 1, none⟩ (.map (some (w.heap.size + 1 + 1)))) := by
 have k0 : ((W.setCell ⟨w.heap.size + 1, 0, none⟩ (.int .i64 (F.n : Int))).setCell ⟨w.heap.size + 1, 1, none⟩ (.map (some (w.heap.size + 1 + 1)))).cell? ⟨w.heap.size + 1, 0, none⟩ = some (.int .i64 (F.n : Int)) := by
  rw [World.cell?_setCell_other _ _ _ _ (by simp)]
  exact World.cell?_setCell_same' _ _ _ (by rw [h.c60]; rfl)
 have k1 : ((W.setCell ⟨w.heap.size + 1, 0, none⟩ (.int .i64 (F.n : Int))).setCell ⟨w.heap.size + 1, 1, none⟩ (.map (some (w.heap.size + 1 + 1)))).cell? ⟨w.heap.size + 1, 1, none⟩ = some (.map (some (w.heap.size + 1 + 1))) :=
  World.cell?_setCell_same' _ _ _ (by rw [World.cell?_setCell_other _ _ _ _ (by simp), h.c61]; rfl)
 have hb := ((OffB.of_below h.below (S := fun _ => False) (fun i hi hb => absurd hi (by omega))).setCell ⟨w.heap.size + 1, 0, none⟩ (fun hlt => by simp only at hlt; omega) (.int .i64 (F.n : Int))).setCell ⟨w.heap.size + 1, 1, none⟩ (fun hlt => by simp only at hlt; omega) (.map (some (w.heap.size + 1 + 1)))
 have hmp := (h.map.setCell ⟨w.heap.size + 1, 0, none⟩ (by simp) (.int .i64 (F.n : Int))).setCell ⟨w.heap.size + 1, 1, none⟩ (by simp) (.map (some (w.heap.size + 1 + 1)))
 generalize (W.setCell ⟨w.heap.size + 1, 0, none⟩ (.int .i64 (F.n : Int))).setCell ⟨w.heap.size + 1, 1, none⟩ (.map (some (w.heap.size + 1 + 1))) = W' at k0 k1 hb hmp
 exact Mk.fin0 k0 k1 (hb.below (Nat.le_refl _) (fun _ _ h => h)) hmp hm hn hk hq h6 h7
end Go.Proofs
end
section
namespace Go.Proofs
open Go.RowKit Go.Ab Go.Maps
set_option maxRecDepth 100000
set_option maxHeartbeats 1000000
theorem Mk.shape_zero {w : World} {c : Value} (h : LvAt w .zero c) {bz bo : Nat} {Z O : ByteArray → Option Nat} :
  Calls Tryz.prog 91 #[c, .map (some bz), .map (some bo)] w (Mk.ShapeIs .zero Z O w) := by
 obtain ⟨p, k, rfl⟩ := h
 have hmm := @run_makeMap Tryz.prog
 go_enter Tryz.func91, Tryz.ntmps91
 go_wp2_with fail
 refine wp_loop_rounds 1 ?_
 rw [rounds_succ]
 go_wp2_with fail
 refine Mk.fin4 w _ _ _ _ _ _ (zero_form _ _) ?_ ?_ <;> rfl
theorem Mk.shape_param {s : ByteArray} {w : World} {c : Value} (h : LvAt w (.param s) c) (hs : 0 < s.size ∧ s.size ≤ maxLen) {bz bo nz no : Nat} {Z O : ByteArray → Option Nat} (hz : Mk.MapI w bz nz Z) (ho : Mk.MapI w bo no O)
    (hZ : ∀ s k, Z s = some k → k = 1) (hO : ∀ s k, O s = some k → k = 1) :
    Calls Tryz.prog 91 #[c, .map (some bz), .map (some bo)] w (Mk.ShapeIs (.param s) Z O w) := by
  obtain ⟨p, k, rfl⟩ := h
  have hmm := @run_makeMap Tryz.prog
  have hOs : (O s).getD 0 = one (isK O) s := by
    unfold one isK
    cases hOs : O s with
    | none => rfl
    | some x => rw [hO s x hOs]; rfl
  cases hZs : Z s with
  | some x =>
    obtain rfl := hZ s x hZs
    go_enter Tryz.func91, Tryz.ntmps91
    go_wp2_with (first
      | (at_lookup; refine wpl_look _ rfl _ _ 100 rfl 9 3 Tryz.underlying9 Tryz.underlying3 Tryz.underlying100 (Mk.zeroI _) bz nz Z rfl ((((hz.alloc _).alloc _).alloc _).alloc _) s rfl hs.2 ?_; rw [hZs])
      | go_in)
    have hp0 : FmOk (.param s) (isK Z) (isK O) Fm.nil := param_zero (by simp [isK, hZs])
    refine Mk.fin4 w _ _ _ _ _ _ hp0 ?_ ?_ <;> rfl
  | none =>
    have hSh := Mk.Sh.start w (.int .i64 4) (.string s) (.slice p 0 k) 44 109 109
    have ho1 := one_le (isK O) s
    go_enter Tryz.func91, Tryz.ntmps91
    go_wp2_with (first
      | (at_lookup; refine wpl_look _ rfl _ _ 100 rfl 9 3 Tryz.underlying9 Tryz.underlying3 Tryz.underlying100 (Mk.zeroI _) bz nz Z rfl ((((hz.alloc _).alloc _).alloc _).alloc _) s rfl hs.2 ?_; rw [hZs])
      | (at_lookup; refine wpl_look _ rfl _ _ 100 rfl 9 3 Tryz.underlying9 Tryz.underlying3 Tryz.underlying100 (Mk.zeroI _) bo no O rfl ((((ho.alloc _).alloc _).alloc _).alloc _) s rfl hs.2 ?_; rw [hOs])
      | (at_mapUpdate; refine wpl_update _ rfl _ _ _ 100 rfl 9 3 Tryz.underlying9 Tryz.underlying3 Tryz.underlying100 (w.heap.size + 1 + 1) 0 (fun _ => none) rfl hSh.map (by unfold maxLen; omega) s rfl hs.2 (one (isK O) s) rfl (by omega) ?_; intro w2 hf2 hg2;
          have hoff := (OffB.refl (fun i => i = w.heap.size + 1 + 1) _).grown hg2 (fun b hb _ => (Option.some.inj hb).symm);
          have k30 := hoff.cell hSh.c30 (by simp only; omega); have k31 := hoff.cell hSh.c31 (by simp only; omega);
          have k80 := hoff.cell hSh.c80 (by simp only; omega); have k81 := hoff.cell hSh.c81 (by simp only; omega);
          have k60 := hoff.cell hSh.c60 (by simp only; omega); have k61 := hoff.cell hSh.c61 (by simp only; omega);
          have z80 := (hoff.frozen (World.block_lt_of_cell? _ _ hSh.c80) (by simp only; omega)).trans hSh.z80;
          have z60 := (hoff.frozen (World.block_lt_of_cell? _ _ hSh.c60) (by simp only; omega)).trans hSh.z60;
          have z61 := (hoff.frozen (World.block_lt_of_cell? _ _ hSh.c61) (by simp only; omega)).trans hSh.z61;
          have ho2 := hoff.map ((((ho.alloc _).alloc _).alloc _).alloc _) (fun e => by have := ho.lt; omega);
          try go_frame)
      | (at_lookup; refine wpl_look _ rfl _ _ 100 rfl 9 3 Tryz.underlying9 Tryz.underlying3 Tryz.underlying100 (Mk.zeroI _) bo no O rfl ho2 s rfl hs.2 ?_; rw [hOs])
      | go_in)
    have hS2 : Mk.Sh w (w2.setCell ⟨w.heap.size + 3, 0, none⟩ (.int .i64 (one (isK O) s : Int))) (.int .i64 4) (.string s) (.slice p 0 k) ⟨one (isK O) s, fun p => if p = s then some (one (isK O) s) else none⟩ 1 := by
      refine hSh.joined (World.cell?_setCell_same' _ _ _ (by rw [k80]; rfl)) ?_ ?_ (hf2.setCell _ (by simp only; omega) _) ?_
      · rw [World.cell?_setCell_other _ _ _ _ (by simp)]; exact k81
      · rw [World.frozen?_setCell]; exact z80
      · exact (hoff.mono (fun i _ h => .inr h)).setCell _ (fun _ => .inl rfl) _
    refine hS2.fin (q := ByteArray.mk #[]) (Nat.le_refl _) (by simp [Lv.size]; omega) (fun p k hp => ?_) (.inl ⟨rfl, param_form (by simp [isK, hZs])⟩) ?_ ?_
    · simp only at hp
      split at hp
      · obtain rfl := Option.some.inj hp; exact Nat.le_refl _
      · simp at hp
    · rfl
    · rfl
end Go.Proofs
end
section
namespace Go.Proofs
open Go.RowKit Go.Ab Go.Maps
set_option maxRecDepth 100000
set_option maxHeartbeats 1000000
theorem Mk.Sh.alloc {w W : World} {y0 y1 y2 : Value} {F : Fm} {m : Nat} (h : Mk.Sh w W y0 y1 y2 F m) (o : Obj) : Mk.Sh w (W.alloc o) y0 y1 y2 F m := h.later ((Below.refl _ _).alloc (Nat.le_refl _) o)
def Mk.Asks (l : Lv) (bz nz bo no : Nat) (Z O : ByteArray → Option Nat) : Prop := ∀ (w : World) (c : Value), LvAt w l c → Mk.MapI w bz nz Z → Mk.MapI w bo no O →
 Calls Tryz.prog 91 #[c, .map (some bz), .map (some bo)] w (Mk.ShapeIs l Z O w)
theorem ba_empty {q : ByteArray} (h : q.size = 0) : q = ByteArray.mk #[] := by
 apply ByteArray.ext
 exact Array.eq_empty_of_size_eq_zero h
theorem ba_some {q : ByteArray} (h : 0 < q.size) : q.toList.isEmpty = false := by
 rw [ByteArray.toList_eq]
 have h' : 0 < q.data.toList.length := h
 cases hq : q.data.toList with
 | nil => rw [hq] at h'; simp at h'
 | cons a l => rfl
theorem Mk.shape_succ {l : Lv} {bz nz bo no : Nat} {Z O : ByteArray → Option Nat} (ih : Mk.Asks l bz nz bo no Z O) {w : World} {c : Value} (h : LvAt w (.succ l) c) (hs : l.size < 2 ^ 58) (hz : Mk.MapI w bz nz Z) (ho : Mk.MapI w bo no O) :
  Calls Tryz.prog 91 #[c, .map (some bz), .map (some bo)] w (Mk.ShapeIs (.succ l) Z O w) := by
 obtain ⟨b, off, k, y0, y1, y2, rfl, hc0, hc1, hc2, hlv⟩ := h
 obtain ⟨ki, si, pi, ni, mi, rfl, rfl, rfl⟩ := hlv.shape
 have hmm := @run_makeMap Tryz.prog
 have hS1 := (Mk.Sh.start w (.int .i64 1) (.string ⟨#[]⟩) (.slice (some ⟨b, off, none⟩) 1 k) 44 109 109)
 have g0 := keep_cell hS1.below hc0
 have g1 := keep_cell hS1.below hc1
 have g2 := keep_cell hS1.below hc2
 go_enter Tryz.func91, Tryz.ntmps91
 go_wp2_with fail
 refine wp_loop_rounds 2 ?_
 rw [rounds_succ]
 go_wp2_with (go_at_call 91; refine (ih _ _ (hlv.below (hS1.alloc _).below) (hz.kept ((hS1.alloc _).below.block _ hz.lt)) (ho.kept ((hS1.alloc _).below.block _ ho.lt))).mono ?_)
 rintro e W2 ⟨F1, b1, m1, q1, rfl, hB1, hb1, hm1, hms1, hn1, hk1, hq1⟩
 have hS2 := (hS1.alloc (.cells #[.int .i64 ki, .string si, .slice pi ni mi] 44)).later hB1
 have hbM : w.heap.size + 4 ≤ b1 := Nat.le_trans (hS1.alloc (.cells #[.int .i64 ki, .string si, .slice pi ni mi] 44)).sz hb1
 clear g0 g1 g2 hB1 hb1
 have k30 := hS2.c30
 have k30' := fun o => (hS2.alloc o).c30
 have k60 := hS2.c60
 have k60' := fun o => (hS2.alloc o).c60
 have k61 := hS2.c61
 have k61' := fun o => (hS2.alloc o).c61
 have z60 := hS2.z60
 have z60' := fun o => (hS2.alloc o).z60
 have z61 := hS2.z61
 have z61' := fun o => (hS2.alloc o).z61
 have k80 := hS2.c80
 have k80' := fun o => (hS2.alloc o).c80
 have k81 := hS2.c81
 have k81' := fun o => (hS2.alloc o).c81
 rcases hq1 with ⟨hq0, hok⟩ | ⟨hqp, hqs, hqz, hqo⟩
 ·obtain rfl := ba_empty hq0
  go_wp2_with (go_at_call 97; refine (Mk.join_ok (nf := 0) (up := 1) (F := Fm.nil.f) (G := F1.f) (hS2.alloc _).c80 (hS2.alloc _).c81 (hS2.alloc _).z80 (hS2.alloc _).map (hm1.alloc _) (by omega) (by omega) (by omega) (by omega) (by omega) (fun _ _ h => by simp [Fm.nil] at h) (fun s k h => by have := hk1 s k h; omega)).mono ?_)
  rintro e W3 ⟨rfl, j0, j1, jz, jm, jo⟩
  have hS3 := (hS2.alloc (.cells #[.int .i64 (F1.n : Int), .map (some b1)] 109)).joined (F' := Fm.nil.join F1 1) j0 j1 jz jm jo
  clear k30 k60 k61 z60 z61 k80 k81 k30' k60' k61' z60' z61' k80' k81' j0 j1 jz jm jo
  have k30 := hS3.c30
  have k30' := fun o => (hS3.alloc o).c30
  have k60 := hS3.c60
  have k60' := fun o => (hS3.alloc o).c60
  have k61 := hS3.c61
  have k61' := fun o => (hS3.alloc o).c61
  have z60 := hS3.z60
  have z60' := fun o => (hS3.alloc o).z60
  have z61 := hS3.z61
  have z61' := fun o => (hS3.alloc o).z61
  have k80 := hS3.c80
  have k80' := fun o => (hS3.alloc o).c80
  have k81 := hS3.c81
  have k81' := fun o => (hS3.alloc o).c81
  go_wp2_with fail
  rw [rounds_succ]
  go_wp2_with fail
  have hf := succ_form hok
  refine hS3.fin (l := .succ l) (q := ByteArray.mk #[]) (by simp only [Lv.size]; omega) ?_ (fun p k hp => hf.ge p k hp) (.inl ⟨rfl, hf⟩) ?_ ?_
  ·show Nat.max 0 (F1.n + 1) ≤ l.size + 1
   exact Nat.max_le.2 ⟨Nat.zero_le _, by omega⟩
  ·rfl
  ·rfl
 ·have hne := ba_some hqs
  go_wp2_with fail
  refine (hS2.alloc _).fin (l := .succ l) (q := q1) (Nat.zero_le _) (Nat.zero_le _) (fun _ _ h => by simp [Fm.nil] at h) (.inr ⟨hqp, hqs, hqz, hqo⟩) ?_ ?_
  ·rfl
  ·rfl
end Go.Proofs
end
section
namespace Go.Proofs
open Go.RowKit Go.Ab Go.Maps
set_option maxRecDepth 100000
set_option maxHeartbeats 1000000
theorem Mk.shape_max {l r : Lv} {bz nz bo no : Nat} {Z O : ByteArray → Option Nat} (ihl : Mk.Asks l bz nz bo no Z O) (ihr : Mk.Asks r bz nz bo no Z O) {w : World} {c : Value} (h : LvAt w (.max l r) c) (hs : l.size + r.size < 2 ^ 58) (hz : Mk.MapI w bz nz Z) (ho : Mk.MapI w bo no O) :
  Calls Tryz.prog 91 #[c, .map (some bz), .map (some bo)] w (Mk.ShapeIs (.max l r) Z O w) := by
 obtain ⟨b, off, k, y0, y1, y2, x0, x1, x2, rfl, hc0, hc1, hc2, hlv, hc3, hc4, hc5, hlw⟩ := h
 obtain ⟨ki, si, pi, ni, mi, rfl, rfl, rfl⟩ := hlv.shape
 obtain ⟨kj, sj, pj, nj, mj, rfl, rfl, rfl⟩ := hlw.shape
 have hmm := @run_makeMap Tryz.prog
 have hS1 := (Mk.Sh.start w (.int .i64 2) (.string ⟨#[]⟩) (.slice (some ⟨b, off, none⟩) 2 k) 44 109 109)
 have g0 := keep_cell hS1.below hc0
 have g1 := keep_cell hS1.below hc1
 have g2 := keep_cell hS1.below hc2
 go_enter Tryz.func91, Tryz.ntmps91
 go_wp2_with fail
 refine wp_loop_rounds 3 ?_
 rw [rounds_succ]
 go_wp2_with (go_at_call 91; refine (ihl _ _ (hlv.below (hS1.alloc _).below) (hz.kept ((hS1.alloc _).below.block _ hz.lt)) (ho.kept ((hS1.alloc _).below.block _ ho.lt))).mono ?_)
 rintro e W2 ⟨F1, b1, m1, q1, rfl, hB1, hb1, hm1, hms1, hn1, hk1, hq1⟩
 have hS2 := (hS1.alloc (.cells #[.int .i64 ki, .string si, .slice pi ni mi] 44)).later hB1
 have hbM : w.heap.size + 4 ≤ b1 := Nat.le_trans (hS1.alloc (.cells #[.int .i64 ki, .string si, .slice pi ni mi] 44)).sz hb1
 clear g0 g1 g2 hB1 hb1
 have k30 := hS2.c30
 have k30' := fun o => (hS2.alloc o).c30
 have k60 := hS2.c60
 have k60' := fun o => (hS2.alloc o).c60
 have k61 := hS2.c61
 have k61' := fun o => (hS2.alloc o).c61
 have z60 := hS2.z60
 have z60' := fun o => (hS2.alloc o).z60
 have z61 := hS2.z61
 have z61' := fun o => (hS2.alloc o).z61
 have k80 := hS2.c80
 have k80' := fun o => (hS2.alloc o).c80
 have k81 := hS2.c81
 have k81' := fun o => (hS2.alloc o).c81
 rcases hq1 with ⟨hq0, hok⟩ | ⟨hqp, hqs, hqz, hqo⟩
 case inr =>
  have hne := ba_some hqs
  go_wp2_with fail
  refine (hS2.alloc _).fin (l := .max l r) (q := q1) (Nat.zero_le _) (Nat.zero_le _) (fun _ _ h => by simp [Fm.nil] at h) (.inr ⟨List.mem_append_left _ hqp, hqs, hqz, hqo⟩) ?_ ?_
  ·rfl
  ·rfl
 obtain rfl := ba_empty hq0
 go_wp2_with (go_at_call 97; refine (Mk.join_ok (nf := 0) (up := 0) (F := Fm.nil.f) (G := F1.f) (hS2.alloc _).c80 (hS2.alloc _).c81 (hS2.alloc _).z80 (hS2.alloc _).map (hm1.alloc _) (by omega) (by omega) (by omega) (by omega) (by omega) (fun _ _ h => by simp [Fm.nil] at h) (fun s k h => by have := hk1 s k h; omega)).mono ?_)
 rintro e W3 ⟨rfl, j0, j1, jz, jm, jo⟩
 have hS3 := (hS2.alloc (.cells #[.int .i64 (F1.n : Int), .map (some b1)] 109)).joined (F' := Fm.nil.join F1 0) j0 j1 jz jm jo
 clear k30 k60 k61 z60 z61 k80 k81 k30' k60' k61' z60' z61' k80' k81' j0 j1 jz jm jo hS1 hS2 hm1
 have k30 := hS3.c30
 have k30' := fun o => (hS3.alloc o).c30
 have k60 := hS3.c60
 have k60' := fun o => (hS3.alloc o).c60
 have k61 := hS3.c61
 have k61' := fun o => (hS3.alloc o).c61
 have z60 := hS3.z60
 have z60' := fun o => (hS3.alloc o).z60
 have z61 := hS3.z61
 have z61' := fun o => (hS3.alloc o).z61
 have k80 := hS3.c80
 have k80' := fun o => (hS3.alloc o).c80
 have k81 := hS3.c81
 have k81' := fun o => (hS3.alloc o).c81
 have g3 := keep_cell hS3.below hc3
 have g4 := keep_cell hS3.below hc4
 have g5 := keep_cell hS3.below hc5
 have hP := (Part.nil (.max l r) (isK Z) (isK O)).join hok (fun _ hp => List.mem_append_left _ hp) 0 (Nat.zero_le _) (Nat.le_refl _)
 have hn2 : (Fm.nil.join F1 0).n ≤ l.size := Nat.max_le.2 ⟨Nat.zero_le _, by omega⟩
 generalize Fm.nil.join F1 0 = F2 at *
 go_wp2_with fail
 rw [rounds_succ]
 go_wp2_with (go_at_call 91; refine (ihr _ _ (hlw.below (hS3.alloc _).below) (hz.kept ((hS3.alloc _).below.block _ hz.lt)) (ho.kept ((hS3.alloc _).below.block _ ho.lt))).mono ?_)
 rintro e W4 ⟨F3, b3, m3, q3, rfl, hB3, hb3, hm3, hms3, hn3, hk3, hq3⟩
 have hS4 := (hS3.alloc (.cells #[.int .i64 kj, .string sj, .slice pj nj mj] 44)).later hB3
 have hbM3 : w.heap.size + 4 ≤ b3 := Nat.le_trans (hS3.alloc (.cells #[.int .i64 kj, .string sj, .slice pj nj mj] 44)).sz hb3
 clear g3 g4 g5 hB3 hb3
 clear k30 k60 k61 z60 z61 k80 k81 k30' k60' k61' z60' z61' k80' k81'
 have k30 := hS4.c30
 have k30' := fun o => (hS4.alloc o).c30
 have k60 := hS4.c60
 have k60' := fun o => (hS4.alloc o).c60
 have k61 := hS4.c61
 have k61' := fun o => (hS4.alloc o).c61
 have z60 := hS4.z60
 have z60' := fun o => (hS4.alloc o).z60
 have z61 := hS4.z61
 have z61' := fun o => (hS4.alloc o).z61
 have k80 := hS4.c80
 have k80' := fun o => (hS4.alloc o).c80
 have k81 := hS4.c81
 have k81' := fun o => (hS4.alloc o).c81
 rcases hq3 with ⟨hq0', hok3⟩ | ⟨hqp, hqs, hqz, hqo⟩
 case inr =>
  have hne := ba_some hqs
  go_wp2_with fail
  refine (hS4.alloc _).fin (l := .max l r) (q := q3) (by simp only [Lv.size]; omega) (by simp only [Lv.size]; omega) hP.ge (.inr ⟨List.mem_append_right _ hqp, hqs, hqz, hqo⟩) ?_ ?_
  ·rfl
  ·rfl
 obtain rfl := ba_empty hq0'
 go_wp2_with (go_at_call 97; refine (Mk.join_ok (nf := F2.n) (up := 0) (F := F2.f) (G := F3.f) (hS4.alloc _).c80 (hS4.alloc _).c81 (hS4.alloc _).z80 (hS4.alloc _).map (hm3.alloc _) (by omega) (by omega) (by omega) (by omega) (by omega) (fun s k h => by have := hP.ge s k h; omega) (fun s k h => by have := hk3 s k h; omega)).mono ?_)
 rintro e W5 ⟨rfl, j0, j1, jz, jm, jo⟩
 have hS5 := (hS4.alloc (.cells #[.int .i64 (F3.n : Int), .map (some b3)] 109)).joined (F' := F2.join F3 0) j0 j1 jz jm jo
 clear k30 k60 k61 z60 z61 k80 k81 k30' k60' k61' z60' z61' k80' k81' j0 j1 jz jm jo hS4 hm3
 have k30 := hS5.c30
 have k30' := fun o => (hS5.alloc o).c30
 have k60 := hS5.c60
 have k60' := fun o => (hS5.alloc o).c60
 have k61 := hS5.c61
 have k61' := fun o => (hS5.alloc o).c61
 have z60 := hS5.z60
 have z60' := fun o => (hS5.alloc o).z60
 have z61 := hS5.z61
 have z61' := fun o => (hS5.alloc o).z61
 have k80 := hS5.c80
 have k80' := fun o => (hS5.alloc o).c80
 have k81 := hS5.c81
 have k81' := fun o => (hS5.alloc o).c81
 go_wp2_with fail
 rw [rounds_succ]
 go_wp2_with fail
 have hf := (hP.join hok3 (fun _ hp => List.mem_append_right _ hp) 0 (top' := l.sucs + r.sucs + 1) (by omega) (by omega)).ok (by simp [Lv.sucs]) fun v _ => by simp [Lv.val]
 refine hS5.fin (l := .max l r) (q := ByteArray.mk #[]) (by simp only [Lv.size]; omega) ?_ (fun p k hp => hf.ge p k hp) (.inl ⟨rfl, hf⟩) ?_ ?_
 ·simp only [Lv.size]
  exact Nat.max_le.2 ⟨by omega, by omega⟩
 ·rfl
 ·rfl
end Go.Proofs
end
section
namespace Go.Proofs
open Go.RowKit Go.Ab Go.Maps
set_option maxRecDepth 100000
set_option maxHeartbeats 1000000
theorem Mk.shape_imax {l r : Lv} {bz nz bo no : Nat} {Z O : ByteArray → Option Nat} (ihl : Mk.Asks l bz nz bo no Z O) (ihr : Mk.Asks r bz nz bo no Z O) {w : World} {c : Value} (h : LvAt w (.imax l r) c) (hs : l.size + r.size < 2 ^ 58) (hz : Mk.MapI w bz nz Z) (ho : Mk.MapI w bo no O)
  (hname : ∀ s ∈ r.pars, 0 < s.size) :
  Calls Tryz.prog 91 #[c, .map (some bz), .map (some bo)] w (Mk.ShapeIs (.imax l r) Z O w) := by
 obtain ⟨b, off, k, y0, y1, y2, x0, x1, x2, rfl, hc0, hc1, hc2, hlv, hc3, hc4, hc5, hlw⟩ := h
 obtain ⟨ki, si, pi, ni, mi, rfl, rfl, rfl⟩ := hlv.shape
 obtain ⟨kj, sj, pj, nj, mj, rfl, rfl, rfl⟩ := hlw.shape
 have hmm := @run_makeMap Tryz.prog
 have hS1 := (Mk.Sh.start w (.int .i64 3) (.string ⟨#[]⟩) (.slice (some ⟨b, off, none⟩) 2 k) 44 109 109)
 have g3 := keep_cell hS1.below hc3
 have g4 := keep_cell hS1.below hc4
 have g5 := keep_cell hS1.below hc5
 go_enter Tryz.func91, Tryz.ntmps91
 go_wp2_with (go_at_call 91; refine (ihr _ _ (hlw.below hS1.below) (hz.kept (hS1.below.block _ hz.lt)) (ho.kept (hS1.below.block _ ho.lt))).mono ?_)
 rintro e W2 ⟨F1, b1, m1, q1, rfl, hB1, hb1, hm1, hms1, hn1, hk1, hq1⟩
 have hS2 := hS1.later hB1
 have hbM : w.heap.size + 4 ≤ b1 := Nat.le_trans hS1.sz hb1
 clear g3 g4 g5 hB1 hb1 hS1
 have k30 := hS2.c30
 have k30' := fun o => (hS2.alloc o).c30
 have k32 := hS2.c32
 have k32' := fun o => (hS2.alloc o).c32
 have k60 := hS2.c60
 have k60' := fun o => (hS2.alloc o).c60
 have k61 := hS2.c61
 have k61' := fun o => (hS2.alloc o).c61
 have z60 := hS2.z60
 have z60' := fun o => (hS2.alloc o).z60
 have z61 := hS2.z61
 have z61' := fun o => (hS2.alloc o).z61
 have k80 := hS2.c80
 have k80' := fun o => (hS2.alloc o).c80
 have k81 := hS2.c81
 have k81' := fun o => (hS2.alloc o).c81
 rcases hq1 with ⟨hq0, hok⟩ | ⟨hqp, hqs, hqz, hqo⟩
 case inr =>
  have hne := ba_some hqs
  go_wp2_with fail
  refine (hS2.alloc _).fin (l := .imax l r) (q := q1) (Nat.zero_le _) (Nat.zero_le _) (fun _ _ h => by simp [Fm.nil] at h) (.inr ⟨List.mem_append_right _ hqp, hqs, hqz, hqo⟩) ?_ ?_
  ·rfl
  ·rfl
 obtain rfl := ba_empty hq0
 by_cases hn0 : F1.n = 0
 ·have hn0' : (F1.n : Int) = 0 := by rw [hn0]; rfl
  go_wp2_with (first
   | (at_range; refine wpl_range _ rfl _ 100 rfl 9 3 Tryz.underlying9 Tryz.underlying100 b1 m1 F1.f rfl (hm1.alloc _) ?_; intro w0 cnt0 hcn0 hrg0 hg0 hs0)
   | go_in)
  try go_frame
  have hb0 : Below (W2.alloc (.cells #[.int .i64 0, .map (some b1)] 109)).heap.size (W2.alloc (.cells #[.int .i64 0, .map (some b1)] 109)) w0 := ⟨hg0.os, hg0.tape, hg0.output, hg0.size, fun i hi => hg0.block i hi (by simp)⟩
  have hS3 := (hS2.alloc (.cells #[.int .i64 0, .map (some b1)] 109)).later hb0
  clear k30 k32 k60 k61 z60 z61 k80 k81 k30' k32' k60' k61' z60' z61' k80' k81'
  refine wp_loop_rounds 1 ?_
  rw [rounds_succ]
  have k60 := hS3.c60
  have k60' := fun o => (hS3.alloc o).c60
  have k61 := hS3.c61
  have k61' := fun o => (hS3.alloc o).c61
  have z60 := hS3.z60
  have z60' := fun o => (hS3.alloc o).z60
  have z61 := hS3.z61
  have z61' := fun o => (hS3.alloc o).z61
  have k80 := hS3.c80
  have k80' := fun o => (hS3.alloc o).c80
  have k81 := hS3.c81
  have k81' := fun o => (hS3.alloc o).c81
  go_wp2_with (first
   | (at_next; refine wpl_next _ rfl _ rfl 9 3 Tryz.underlying9 Tryz.underlying3 b1 _ m1 F1.f _ cnt0 rfl hrg0 ?_ ?_)
   | go_in)
  ·intro hc0 hl0
   go_wp2_with fail
   have hnone : ∀ p, F1.f p = none := fun p => by
    have := hl0 p
    cases hp : F1.f p with
    | none => rfl
    | some x => rw [hp] at this; simp at this
   refine hS3.fin (l := .imax l r) (q := ByteArray.mk #[]) (Nat.zero_le _) (Nat.zero_le _) (fun _ _ h => by simp [Fm.nil] at h) (.inl ⟨rfl, imax_none hok hn0 hnone⟩) ?_ ?_
   ·rfl
   ·rfl
  ·intro s c w1 cnt1 hsm hls hFs hrg1 hlt hgr hsz hen
   have hb1 : Below (W2.alloc (.cells #[.int .i64 0, .map (some b1)] 109)).heap.size (W2.alloc (.cells #[.int .i64 0, .map (some b1)] 109)) w1 :=
    ((OffB.of_below hb0 (S := fun _ => False) (fun i hi h => by omega)).grown hgr (fun b hb hlt => by have e := Option.some.inj hb; subst e; simp at hlt)).below (Nat.le_refl _) (fun _ _ h => h)
   have hS4 := (hS2.alloc (.cells #[.int .i64 0, .map (some b1)] 109)).later hb1
   clear k60 k61 z60 z61 k80 k81 k60' k61' z60' z61' k80' k81'
   have k60 := hS4.c60
   have k60' := fun o => (hS4.alloc o).c60
   have k61 := hS4.c61
   have k61' := fun o => (hS4.alloc o).c61
   have z60 := hS4.z60
   have z60' := fun o => (hS4.alloc o).z60
   have z61 := hS4.z61
   have z61' := fun o => (hS4.alloc o).z61
   have k80 := hS4.c80
   have k80' := fun o => (hS4.alloc o).c80
   have k81 := hS4.c81
   have k81' := fun o => (hS4.alloc o).c81
   go_wp2_with fail
   have h0 := hk1 s c hFs
   have hp := hok.par s c hFs
   have hos : O s = none := by
    cases hO : O s with
    | none => rfl
    | some x => have := hok.one s c hFs (by simp [isK, hO]); omega
   have hzs : Z s = none := by
    have := hp.2
    cases hZ : Z s with
    | none => rfl
    | some x => simp [isK, hZ] at this
   refine hS4.fin (l := .imax l r) (q := s) (Nat.zero_le _) (Nat.zero_le _) (fun _ _ h => by simp [Fm.nil] at h) (.inr ⟨List.mem_append_right _ hp.1, hname s hp.1, hzs, hos⟩) ?_ ?_
   ·rfl
   ·rfl
 ·have hn0' : ¬ (F1.n : Int) = 0 := by omega
  go_wp2_with (go_at_call 97; refine (Mk.join_ok (nf := 0) (up := 0) (F := Fm.nil.f) (G := F1.f) (hS2.alloc _).c80 (hS2.alloc _).c81 (hS2.alloc _).z80 (hS2.alloc _).map (hm1.alloc _) (by omega) (by omega) (by omega) (by omega) (by omega) (fun _ _ h => by simp [Fm.nil] at h) (fun s k h => by have := hk1 s k h; omega)).mono ?_)
  rintro e W3 ⟨rfl, j0, j1, jz, jm, jo⟩
  have hS3 := (hS2.alloc (.cells #[.int .i64 (F1.n : Int), .map (some b1)] 109)).joined (F' := Fm.nil.join F1 0) j0 j1 jz jm jo
  clear k30 k32 k60 k61 z60 z61 k80 k81 k30' k32' k60' k61' z60' z61' k80' k81' j0 j1 jz jm jo hS2 hm1
  have k30 := hS3.c30
  have k30' := fun o => (hS3.alloc o).c30
  have k32 := hS3.c32
  have k32' := fun o => (hS3.alloc o).c32
  have k60 := hS3.c60
  have k60' := fun o => (hS3.alloc o).c60
  have k61 := hS3.c61
  have k61' := fun o => (hS3.alloc o).c61
  have z60 := hS3.z60
  have z60' := fun o => (hS3.alloc o).z60
  have z61 := hS3.z61
  have z61' := fun o => (hS3.alloc o).z61
  have k80 := hS3.c80
  have k80' := fun o => (hS3.alloc o).c80
  have k81 := hS3.c81
  have k81' := fun o => (hS3.alloc o).c81
  have g0 := keep_cell hS3.below hc0
  have g1 := keep_cell hS3.below hc1
  have g2 := keep_cell hS3.below hc2
  have hP := (Part.nil (.imax l r) (isK Z) (isK O)).join hok (fun _ hp => List.mem_append_right _ hp) 0 (Nat.zero_le _) (Nat.le_refl _)
  have hn2 : (Fm.nil.join F1 0).n ≤ r.size := Nat.max_le.2 ⟨Nat.zero_le _, by omega⟩
  have hbv : ∀ v, Fits (isK Z) (isK O) v → r.val v ≠ 0 := fun v hv => by have := (hok.val v hv).n; omega
  generalize Fm.nil.join F1 0 = F2 at *
  go_wp2_with (go_at_call 91; refine (ihl _ _ (hlv.below hS3.below) (hz.kept (hS3.below.block _ hz.lt)) (ho.kept (hS3.below.block _ ho.lt))).mono ?_)
  rintro e W4 ⟨F3, b3, m3, q3, rfl, hB3, hb3, hm3, hms3, hn3, hk3, hq3⟩
  have hS4 := hS3.later hB3
  have hbM3 : w.heap.size + 4 ≤ b3 := Nat.le_trans hS3.sz hb3
  clear g0 g1 g2 hB3 hb3
  clear k30 k32 k60 k61 z60 z61 k80 k81 k30' k32' k60' k61' z60' z61' k80' k81'
  have k30 := hS4.c30
  have k30' := fun o => (hS4.alloc o).c30
  have k60 := hS4.c60
  have k60' := fun o => (hS4.alloc o).c60
  have k61 := hS4.c61
  have k61' := fun o => (hS4.alloc o).c61
  have z60 := hS4.z60
  have z60' := fun o => (hS4.alloc o).z60
  have z61 := hS4.z61
  have z61' := fun o => (hS4.alloc o).z61
  have k80 := hS4.c80
  have k80' := fun o => (hS4.alloc o).c80
  have k81 := hS4.c81
  have k81' := fun o => (hS4.alloc o).c81
  go_wp2_with (go_at_call 97; refine (Mk.join_ok (nf := F2.n) (up := 0) (F := F2.f) (G := F3.f) (hS4.alloc _).c80 (hS4.alloc _).c81 (hS4.alloc _).z80 (hS4.alloc _).map (hm3.alloc _) (by omega) (by omega) (by omega) (by omega) (by omega) (fun s k h => by have := hP.ge s k h; omega) (fun s k h => by have := hk3 s k h; omega)).mono ?_)
  rintro e W5 ⟨rfl, j0, j1, jz, jm, jo⟩
  have hS5 := (hS4.alloc (.cells #[.int .i64 (F3.n : Int), .map (some b3)] 109)).joined (F' := F2.join F3 0) j0 j1 jz jm jo
  clear k30 k60 k61 z60 z61 k80 k81 k30' k60' k61' z60' z61' k80' k81' j0 j1 jz jm jo hS4 hm3
  have k60 := hS5.c60
  have k60' := fun o => (hS5.alloc o).c60
  have k61 := hS5.c61
  have k61' := fun o => (hS5.alloc o).c61
  have z60 := hS5.z60
  have z60' := fun o => (hS5.alloc o).z60
  have z61 := hS5.z61
  have z61' := fun o => (hS5.alloc o).z61
  have k80 := hS5.c80
  have k80' := fun o => (hS5.alloc o).c80
  have k81 := hS5.c81
  have k81' := fun o => (hS5.alloc o).c81
  go_wp2_with fail
  have hge : ∀ p k, (F2.join F3 0).f p = some k → k ≤ (F2.join F3 0).n := fun p k hp => by
   have m1 : F2.n ≤ Nat.max F2.n (F3.n + 0) := Nat.le_max_left _ _
   have m2 : F3.n + 0 ≤ Nat.max F2.n (F3.n + 0) := Nat.le_max_right _ _
   show k ≤ Nat.max F2.n (F3.n + 0)
   rcases joinO_from hp with hp | ⟨b, hb, hbk⟩
   ·have := hP.ge p k hp; omega
   ·have := hk3 p b hb; omega
  have hfin : (q3.size = 0 ∧ FmOk (.imax l r) (isK Z) (isK O) (F2.join F3 0)) ∨ (q3 ∈ (Lv.imax l r).pars ∧ 0 < q3.size ∧ Z q3 = none ∧ O q3 = none) := by
   rcases hq3 with ⟨hq0', hok3⟩ | ⟨hqp, hqs, hqz, hqo⟩
   ·refine .inl ⟨hq0', (hP.join hok3 (fun _ hp => List.mem_append_left _ hp) 0 (top' := l.sucs + r.sucs + 1) (by omega) (by omega)).ok (by simp [Lv.sucs]) fun v hv => ?_⟩
    simp [Lv.val, hbv v hv, Nat.max_comm]
   ·exact .inr ⟨List.mem_append_left _ hqp, hqs, hqz, hqo⟩
  refine hS5.fin (l := .imax l r) (q := q3) (by simp only [Lv.size]; omega) ?_ hge hfin ?_ ?_
  ·simp only [Lv.size]
   exact Nat.max_le.2 ⟨by omega, by omega⟩
  ·rfl
  ·rfl
end Go.Proofs
end
section
namespace Go.Proofs
open Go.RowKit Go.Ab Go.Maps
set_option maxRecDepth 100000
set_option maxHeartbeats 2000000
theorem Mk.shape_ok {bz nz bo no : Nat} {Z O : ByteArray → Option Nat} (hZ : ∀ s k, Z s = some k → k = 1) (hO : ∀ s k, O s = some k → k = 1) : ∀ l : Lv, (∀ s ∈ l.pars, 0 < s.size ∧ s.size ≤ maxLen) → l.size < 2 ^ 58 → Mk.Asks l bz nz bo no Z O
 | .zero, _, _ => fun w c h _ _ => Mk.shape_zero h
 | .param s, hn, _ => fun w c h hz ho => Mk.shape_param h (hn s (by simp [Lv.pars])) hz ho hZ hO
 | .succ l, hn, hs => fun w c h hz ho => Mk.shape_succ (Mk.shape_ok hZ hO l hn (by simp only [Lv.size] at hs; omega)) h (by simp only [Lv.size] at hs; omega) hz ho
 | .max l r, hn, hs => fun w c h hz ho => Mk.shape_max (Mk.shape_ok hZ hO l (fun s h => hn s (List.mem_append_left _ h)) (by simp only [Lv.size] at hs; omega)) (Mk.shape_ok hZ hO r (fun s h => hn s (List.mem_append_right _ h)) (by simp only [Lv.size] at hs; omega)) h (by simp only [Lv.size] at hs; omega) hz ho
 | .imax l r, hn, hs => fun w c h hz ho => Mk.shape_imax (Mk.shape_ok hZ hO l (fun s h => hn s (List.mem_append_left _ h)) (by simp only [Lv.size] at hs; omega)) (Mk.shape_ok hZ hO r (fun s h => hn s (List.mem_append_right _ h)) (by simp only [Lv.size] at hs; omega)) h (by simp only [Lv.size] at hs; omega) hz ho
   (fun s h => (hn s (List.mem_append_right _ h)).1)
structure Mk.Lh (w W : World) (bz bo : Nat) (y0 y1 y2 x0 x1 x2 : Value) : Prop where
 a0 : W.cell? ⟨w.heap.size, 0, none⟩ = some y0
 a1 : W.cell? ⟨w.heap.size, 1, none⟩ = some y1
 a2 : W.cell? ⟨w.heap.size, 2, none⟩ = some y2
 b0 : W.cell? ⟨w.heap.size + 1, 0, none⟩ = some x0
 b1 : W.cell? ⟨w.heap.size + 1, 1, none⟩ = some x1
 b2 : W.cell? ⟨w.heap.size + 1, 2, none⟩ = some x2
 off : OffB (fun i => i = bz ∨ i = bo) w W
 sz : w.heap.size + 2 ≤ W.heap.size
 lz : bz < w.heap.size
 lo : bo < w.heap.size
theorem Mk.Lh.start (w : World) {bz bo : Nat} (lz : bz < w.heap.size) (lo : bo < w.heap.size) (y0 y1 y2 x0 x1 x2 : Value) (ta tb : TypeId) : Mk.Lh w ((w.alloc (.cells #[y0, y1, y2] ta)).alloc (.cells #[x0, x1, x2] tb)) bz bo y0 y1 y2 x0 x1 x2 where
 a0 := (cell_old (by simp)).trans (cell_new rfl)
 a1 := (cell_old (by simp)).trans (cell_new rfl)
 a2 := (cell_old (by simp)).trans (cell_new rfl)
 b0 := cell_new (by simp)
 b1 := cell_new (by simp)
 b2 := cell_new (by simp)
 off := ((OffB.refl _ w).alloc _).alloc _
 sz := by simp
 lz := lz
 lo := lo
theorem Mk.Lh.turned {w W W' : World} {bz bo : Nat} {y0 y1 y2 x0 x1 x2 : Value} (h : Mk.Lh w W bz bo y0 y1 y2 x0 x1 x2) (ho : OffB (fun i => i = bz ∨ i = bo) W W') : Mk.Lh w W' bz bo y0 y1 y2 x0 x1 x2 where
 a0 := ho.cell h.a0 (by have := h.lz; have := h.lo; simp only; omega)
 a1 := ho.cell h.a1 (by have := h.lz; have := h.lo; simp only; omega)
 a2 := ho.cell h.a2 (by have := h.lz; have := h.lo; simp only; omega)
 b0 := ho.cell h.b0 (by have := h.lz; have := h.lo; simp only; omega)
 b1 := ho.cell h.b1 (by have := h.lz; have := h.lo; simp only; omega)
 b2 := ho.cell h.b2 (by have := h.lz; have := h.lo; simp only; omega)
 off := h.off.trans ho (fun _ _ h => h)
 sz := Nat.le_trans h.sz ho.size
 lz := h.lz
 lo := h.lo
theorem Mk.Lh.later {w W W' : World} {bz bo : Nat} {y0 y1 y2 x0 x1 x2 : Value} (h : Mk.Lh w W bz bo y0 y1 y2 x0 x1 x2) (hB : Below W.heap.size W W') : Mk.Lh w W' bz bo y0 y1 y2 x0 x1 x2 :=
 h.turned (OffB.of_below hB (fun i hi hb => by omega))
theorem Mk.Lh.setCell {w W : World} {bz bo : Nat} {y0 y1 y2 x0 x1 x2 : Value} (h : Mk.Lh w W bz bo y0 y1 y2 x0 x1 x2) (p : Addr) (hp : w.heap.size + 2 ≤ p.block) (u : Value) : Mk.Lh w (W.setCell p u) bz bo y0 y1 y2 x0 x1 x2 where
 a0 := (World.cell?_of_block (w := W) (Below.heap_setCell W p u _ (by simp only; omega))).trans h.a0
 a1 := (World.cell?_of_block (w := W) (Below.heap_setCell W p u _ (by simp only; omega))).trans h.a1
 a2 := (World.cell?_of_block (w := W) (Below.heap_setCell W p u _ (by simp only; omega))).trans h.a2
 b0 := (World.cell?_of_block (w := W) (Below.heap_setCell W p u _ (by simp only; omega))).trans h.b0
 b1 := (World.cell?_of_block (w := W) (Below.heap_setCell W p u _ (by simp only; omega))).trans h.b1
 b2 := (World.cell?_of_block (w := W) (Below.heap_setCell W p u _ (by simp only; omega))).trans h.b2
 off := h.off.setCell p (fun hlt => absurd hlt (by omega)) u
 sz := by simp [World.setCell]; exact h.sz
 lz := h.lz
 lo := h.lo
theorem Mk.Lh.alloc {w W : World} {bz bo : Nat} {y0 y1 y2 x0 x1 x2 : Value} (h : Mk.Lh w W bz bo y0 y1 y2 x0 x1 x2) (o : Obj) : Mk.Lh w (W.alloc o) bz bo y0 y1 y2 x0 x1 x2 := h.later ((Below.refl _ _).alloc (Nat.le_refl _) o)
theorem LvAt.off {bz bo nz no : Nat} {Z O : ByteArray → Option Nat} {w w' : World} (hz : Mk.MapI w bz nz Z) (ho : Mk.MapI w bo no O) (hB : OffB (fun i => i = bz ∨ i = bo) w w') : ∀ {l : Lv} {c : Value}, LvAt w l c → LvAt w' l c := by
 have keep : ∀ {b o : Nat} {x : Value}, w.cell? ⟨b, o, none⟩ = some x → w'.cell? ⟨b, o, none⟩ = some x := fun {b o x} h => hB.cell h (fun e => by
  rcases e with e | e
  ·simp only at e; subst e; rw [hz.notCell] at h; simp at h
  ·simp only at e; subst e; rw [ho.notCell] at h; simp at h)
 intro l
 induction l with
 | zero => exact fun h => h
 | param s => exact fun h => h
 | succ l ih => exact fun ⟨b, off, k, y0, y1, y2, h0, h1, h2, h3, h4⟩ => ⟨b, off, k, y0, y1, y2, h0, keep h1, keep h2, keep h3, ih h4⟩
 | max l r ihl ihr => exact fun ⟨b, off, k, y0, y1, y2, z0, z1, z2, h0, h1, h2, h3, h4, h5, h6, h7, h8⟩ => ⟨b, off, k, y0, y1, y2, z0, z1, z2, h0, keep h1, keep h2, keep h3, ihl h4, keep h5, keep h6, keep h7, ihr h8⟩
 | imax l r ihl ihr => exact fun ⟨b, off, k, y0, y1, y2, z0, z1, z2, h0, h1, h2, h3, h4, h5, h6, h7, h8⟩ => ⟨b, off, k, y0, y1, y2, z0, z1, z2, h0, keep h1, keep h2, keep h3, ihl h4, keep h5, keep h6, keep h7, ihr h8⟩
theorem LvAt.agg {w : World} {l : Lv} {c : Value} (h : LvAt w l c) : ∃ k s p n m, c = .agg #[.int .i64 k, .string s, .slice p n m] := by
 cases l with
 | zero => obtain ⟨p, k, e⟩ := h; exact ⟨_, _, _, _, _, e⟩
 | param s => obtain ⟨p, k, e⟩ := h; exact ⟨_, _, _, _, _, e⟩
 | succ l => obtain ⟨_, _, _, _, _, _, e, _⟩ := h; exact ⟨_, _, _, _, _, e⟩
 | max l m => obtain ⟨_, _, _, _, _, _, _, _, _, e, _⟩ := h; exact ⟨_, _, _, _, _, e⟩
 | imax l m => obtain ⟨_, _, _, _, _, _, _, _, _, e, _⟩ := h; exact ⟨_, _, _, _, _, e⟩
def Mk.LeqIs (a b : Lv) (bz nz bo no : Nat) (Z O : ByteArray → Option Nat) (w : World) (e : Ending) (w' : World) : Prop :=
 ∃ x : Bool, e = .returned (.bool x) ∧ (x = true ↔ ∀ v, Fits (isK Z) (isK O) v → a.val v ≤ b.val v) ∧ OffB (fun i => i = bz ∨ i = bo) w w' ∧ Mk.MapI w' bz nz Z ∧ Mk.MapI w' bo no O
def open_ (ps : List ByteArray) (Z O : ByteArray → Option Nat) : Nat := (ps.filter fun q => (Z q).isNone && (O q).isNone).length
theorem filter_less {α : Type} {f g : α → Bool} {p : α} (hle : ∀ x, g x = true → f x = true) (hf : f p = true) (hg : g p = false) : ∀ {l : List α}, p ∈ l → (l.filter g).length < (l.filter f).length
 | x :: l, h => by
  have mono : ∀ l : List α, (l.filter g).length ≤ (l.filter f).length := by
   intro l
   induction l with
   | nil => simp
   | cons y l ih =>
    simp only [List.filter_cons]
    cases hgy : g y with
    | true => rw [hle y hgy]; simp only [if_true, List.length_cons]; omega
    | false =>
     cases hfy : f y with
     | true => simp only [if_true, List.length_cons, Bool.false_eq_true, if_false]; omega
     | false => simpa using ih
  rcases List.mem_cons.1 h with rfl | h
  ·simp only [List.filter_cons, hf, hg, if_true, Bool.false_eq_true, if_false, List.length_cons]
   have := mono l; omega
  ·have ih := filter_less hle hf hg h
   simp only [List.filter_cons]
   cases hgy : g x with
   | true => rw [hle x hgy]; simp only [if_true, List.length_cons]; omega
   | false =>
    cases hfy : f x with
    | true => simp only [if_true, List.length_cons, Bool.false_eq_true, if_false]; omega
    | false => simpa using ih
theorem open_z {ps : List ByteArray} {Z O : ByteArray → Option Nat} {p : ByteArray} (hp : p ∈ ps) (hz : Z p = none) (ho : O p = none) : open_ ps (upd1 Z p (some 1)) O < open_ ps Z O :=
 filter_less (p := p) (fun x hx => by
  simp only [Bool.and_eq_true, upd1] at hx ⊢
  refine ⟨?_, hx.2⟩
  by_cases h : x = p
  ·subst h; rw [hz]; rfl
  ·simpa [h] using hx.1) (by simp [hz, ho]) (by simp [upd1]) hp
theorem open_o {ps : List ByteArray} {Z O : ByteArray → Option Nat} {p : ByteArray} (hp : p ∈ ps) (hz : Z p = none) (ho : O p = none) : open_ ps Z (upd1 O p (some 1)) < open_ ps Z O :=
 filter_less (p := p) (fun x hx => by
  simp only [Bool.and_eq_true, upd1] at hx ⊢
  refine ⟨hx.1, ?_⟩
  by_cases h : x = p
  ·subst h; rw [ho]; rfl
  ·simpa [h] using hx.2) (by simp [hz, ho]) (by simp [upd1]) hp
theorem upd_back {f : ByteArray → Option Nat} {p : ByteArray} (h : f p = none) (x : Option Nat) : upd1 (upd1 f p x) p none = f := by
 funext q
 unfold upd1
 by_cases hq : q = p
 ·subst hq; simp [h]
 ·simp [hq]
theorem split_fits {Z O : ByteArray → Option Nat} {p : ByteArray} (hz : Z p = none) (ho : O p = none) {R : (ByteArray → Nat) → Prop} :
  (∀ v, Fits (isK Z) (isK O) v → R v) ↔ (∀ v, Fits (isK (upd1 Z p (some 1))) (isK O) v → R v) ∧ (∀ v, Fits (isK Z) (isK (upd1 O p (some 1))) v → R v) := by
 constructor
 ·refine fun h => ⟨fun v hv => h v ⟨fun q hq => hv.z q ?_, hv.o⟩, fun v hv => h v ⟨hv.z, fun q hq => hv.o q ?_⟩⟩
  ·unfold isK upd1 at *
   by_cases e : q = p
   ·simp [e]
   ·simpa [e] using hq
  ·unfold isK upd1 at *
   by_cases e : q = p
   ·simp [e]
   ·simpa [e] using hq
 ·rintro ⟨h1, h2⟩ v hv
  by_cases hvp : v p = 0
  ·refine h1 v ⟨fun q hq => ?_, hv.o⟩
   unfold isK upd1 at hq
   by_cases e : q = p
   ·subst e; exact hvp
   ·exact hv.z q (by unfold isK; simpa [e] using hq)
  ·refine h2 v ⟨hv.z, fun q hq => ?_⟩
   unfold isK upd1 at hq
   by_cases e : q = p
   ·subst e; omega
   ·exact hv.o q (by unfold isK; simpa [e] using hq)
end Go.Proofs
end
section
namespace Go.Proofs
open Go.RowKit Go.Ab Go.Maps
set_option maxRecDepth 100000
set_option maxHeartbeats 4000000
theorem Mk.leq_ok {a b : Lv} (hna : ∀ s ∈ a.pars, 0 < s.size ∧ s.size ≤ maxLen) (hnb : ∀ s ∈ b.pars, 0 < s.size ∧ s.size ≤ maxLen) (hsa : a.size < 2 ^ 58) (hsb : b.size < 2 ^ 58) :
    ∀ (n : Nat) (w : World) (ca cb : Value) (bz nz bo no : Nat) (Z O : ByteArray → Option Nat), LvAt w a ca → LvAt w b cb → Mk.MapI w bz nz Z → Mk.MapI w bo no O → bz ≠ bo → (∀ s k, Z s = some k → k = 1) → (∀ s k, O s = some k → k = 1) → (∀ s, (Z s).isSome = true → O s = none) →
      nz + n < 2 ^ 60 → no + n < 2 ^ 60 → open_ (a.pars ++ b.pars) Z O ≤ n →
      Calls Tryz.prog 86 #[ca, cb, .map (some bz), .map (some bo)] w (Mk.LeqIs a b bz nz bo no Z O w) := by
  intro n
  induction n using Nat.strongRecOn with
  | _ n ih =>
  intro w ca cb bz nz bo no Z O la lb hz0 ho0 hne hZ hO hzo hbz hbo hm
  have hnames : ∀ s ∈ a.pars ++ b.pars, 0 < s.size ∧ s.size ≤ maxLen := fun s h => by
    rcases List.mem_append.1 h with h | h
    · exact hna s h
    · exact hnb s h
  obtain ⟨ki, si, pi, ni, mi, rfl⟩ := LvAt.agg la
  obtain ⟨kj, sj, pj, nj, mj, rfl⟩ := LvAt.agg lb
  have shA := Mk.shape_ok (bz := bz) (nz := nz) (bo := bo) (no := no) hZ hO a hna hsa
  have shB := Mk.shape_ok (bz := bz) (nz := nz) (bo := bo) (no := no) hZ hO b hnb hsb
  have hL1 := Mk.Lh.start w hz0.lt ho0.lt (.int .i64 ki) (.string si) (.slice pi ni mi) (.int .i64 kj) (.string sj) (.slice pj nj mj) 44 44
  have lz1 := (hz0.alloc (.cells #[.int .i64 ki, .string si, .slice pi ni mi] 44)).alloc (.cells #[.int .i64 kj, .string sj, .slice pj nj mj] 44)
  have lo1 := (ho0.alloc (.cells #[.int .i64 ki, .string si, .slice pi ni mi] 44)).alloc (.cells #[.int .i64 kj, .string sj, .slice pj nj mj] 44)
  have la1 := LvAt.off hz0 ho0 hL1.off la
  have lb1 := LvAt.off hz0 ho0 hL1.off lb
  go_enter Tryz.func86, Tryz.ntmps86
  go_wp2_with (go_at_call 91; refine (shA _ _ la1 lz1 lo1).mono ?_)
  rintro e W2 ⟨F1, b1, m1, q1, rfl, hB1, hb1, hm1, hms1, hn1, hk1, hq1⟩
  have hL2 := hL1.later hB1
  have hz2 := lz1.kept (hB1.block _ lz1.lt)
  have ho2 := lo1.kept (hB1.block _ lo1.lt)
  have la2 := la1.below hB1
  have lb2 := lb1.below hB1
  have hbM : w.heap.size + 2 ≤ b1 := Nat.le_trans hL1.sz hb1
  clear hB1 hb1 hL1 la1 lb1 lz1 lo1
  have ka0 := hL2.a0
  have ka0' := fun o => (hL2.alloc o).a0
  have ka1 := hL2.a1
  have ka1' := fun o => (hL2.alloc o).a1
  have ka2 := hL2.a2
  have ka2' := fun o => (hL2.alloc o).a2
  have kb0 := hL2.b0
  have kb0' := fun o => (hL2.alloc o).b0
  have kb1 := hL2.b1
  have kb1' := fun o => (hL2.alloc o).b1
  have kb2 := hL2.b2
  have kb2' := fun o => (hL2.alloc o).b2
  rcases hq1 with ⟨hq0, hok⟩ | ⟨hqa, hqs, hqz, hqo⟩
  case inr =>
    have hem := ba_some hqs
    have hqp : q1 ∈ a.pars ++ b.pars := List.mem_append_left _ hqa
    have hp2 := hnames q1 hqp
    have hd1 := open_z hqp hqz hqo
    have hd2 := open_o hqp hqz hqo
    have hv1 : (((1 : Nat) : Int)) = 1 := rfl
    go_wp2_with (first
      | (at_mapUpdate; refine wpl_update _ rfl _ _ _ 100 rfl 9 3 Tryz.underlying9 Tryz.underlying3 Tryz.underlying100 bz nz Z rfl (hz2.alloc _) (by unfold maxLen; omega) q1 rfl hp2.2 1 rfl (by omega) ?_; intro Wu hu hgu;
          have hou := (OffB.refl (fun i => i = bz ∨ i = bo) _).grown hgu (fun b hb _ => .inl (Option.some.inj hb).symm);
          have hLu := (hL2.alloc _).turned hou;
          have mou := (ho2.alloc _).kept (hgu.block _ ((ho2.alloc _)).lt (fun e => hne (Option.some.inj e).symm));
          have lau := LvAt.off (hz2.alloc _) (ho2.alloc _) hou (LvAt.off hz0 ho0 (hL2.alloc _).off la);
          have lbu := LvAt.off (hz2.alloc _) (ho2.alloc _) hou (LvAt.off hz0 ho0 (hL2.alloc _).off lb);
          have ua0 := hLu.a0; have ua1 := hLu.a1; have ua2 := hLu.a2; have ub0 := hLu.b0; have ub1 := hLu.b1; have ub2 := hLu.b2;
          try go_frame)
      | (go_at_call 86; refine (ih _ (Nat.lt_of_lt_of_le hd1 hm) _ _ _ bz (nz + 1) bo no (upd1 Z q1 (some 1)) O lau lbu hu mou hne (fun s k h => by
          unfold upd1 at h
          split at h
          · exact (Option.some.inj h).symm
          · exact hZ s k h) hO (fun s h => by
          unfold upd1 at h
          split at h
          · rename_i e; subst e; exact hqo
          · exact hzo s h) (by omega) (by omega) (Nat.le_refl _)).mono ?_)
      | go_in)
    rintro e Wv ⟨x1, rfl, hx1, hov, mzv, mov⟩
    have hLv := hLu.turned hov
    have lav := LvAt.off hu mou hov lau
    have lbv := LvAt.off hu mou hov lbu
    clear ka0 ka0' ua0 ka1 ka1' ua1 ka2 ka2' ua2 kb0 kb0' ub0 kb1 kb1' ub1 kb2 kb2' ub2 hLu lau lbu hu mou hou
    have va0 := hLv.a0; have va1 := hLv.a1; have va2 := hLv.a2; have vb0 := hLv.b0; have vb1 := hLv.b1; have vb2 := hLv.b2
    go_wp2_with (first
      | (at_delete; refine wpl_delete _ rfl _ _ 100 9 rfl 3 Tryz.underlying9 Tryz.underlying100 bz (nz + 1) (upd1 Z q1 (some 1)) rfl mzv q1 rfl hp2.2 ?_; rw [upd_back hqz]; intro Wd hd hgd;
          have hod := (OffB.refl (fun i => i = bz ∨ i = bo) _).grown hgd (fun b hb _ => .inl (Option.some.inj hb).symm);
          have hLd := hLv.turned hod;
          have mod := mov.kept (hgd.block _ mov.lt (fun e => hne (Option.some.inj e).symm));
          have mzd := MapAt.least Tryz.underlying9 hz0 hd;
          have lad := LvAt.off mzv mov hod lav;
          have lbd := LvAt.off mzv mov hod lbv;
          have da0 := hLd.a0; have da1 := hLd.a1; have da2 := hLd.a2; have db0 := hLd.b0; have db1 := hLd.b1; have db2 := hLd.b2;
          try go_frame)
      | (at_mapUpdate; refine wpl_update _ rfl _ _ _ 100 rfl 9 3 Tryz.underlying9 Tryz.underlying3 Tryz.underlying100 bo no O rfl mod (by unfold maxLen; omega) q1 rfl hp2.2 1 rfl (by omega) ?_; intro Wo hwo hgo;
          have hoo := (OffB.refl (fun i => i = bz ∨ i = bo) _).grown hgo (fun b hb _ => .inr (Option.some.inj hb).symm);
          have hLo := hLd.turned hoo;
          have mzo := mzd.kept (hgo.block _ mzd.lt (fun e => hne (Option.some.inj e)));
          have lao := LvAt.off mzd mod hoo lad;
          have lbo := LvAt.off mzd mod hoo lbd;
          have oa0 := hLo.a0; have oa1 := hLo.a1; have oa2 := hLo.a2; have ob0 := hLo.b0; have ob1 := hLo.b1; have ob2 := hLo.b2;
          try go_frame)
      | (go_at_call 86; refine (ih _ (Nat.lt_of_lt_of_le hd2 hm) _ _ _ bz nz bo (no + 1) Z (upd1 O q1 (some 1)) lao lbo mzo hwo hne hZ (fun s k h => by
          unfold upd1 at h
          split at h
          · exact (Option.some.inj h).symm
          · exact hO s k h) (fun s h => by
          unfold upd1
          split
          · rename_i e; subst e; rw [hqz] at h; simp at h
          · exact hzo s h) (by omega) (by omega) (Nat.le_refl _)).mono ?_)
      | go_in)
    · have hx : x1 = false := by simpa using (by assumption : (!x1) = true)
      go_ret
      refine ⟨false, rfl, ⟨fun h => by simp at h, fun h => ?_⟩, hLd.off, mzd, mod⟩
      have := hx1.2 ((split_fits hqz hqo).1 h).1
      rw [hx] at this
      simp at this
    · have hx : x1 = true := by simpa using (by assumption : (!x1) = false)
      rintro e We ⟨x2, rfl, hx2, hoe, mze, moe⟩
      have hLe := hLo.turned hoe
      go_wp2_with (first
        | (at_delete; refine wpl_delete _ rfl _ _ 100 9 rfl 3 Tryz.underlying9 Tryz.underlying100 bo (no + 1) (upd1 O q1 (some 1)) rfl moe q1 rfl hp2.2 ?_; rw [upd_back hqo]; intro Wf hf hgf;
            have hof := (OffB.refl (fun i => i = bz ∨ i = bo) _).grown hgf (fun b hb _ => .inr (Option.some.inj hb).symm);
            have hLf := hLe.turned hof;
            have mzf := mze.kept (hgf.block _ mze.lt (fun e => hne (Option.some.inj e)));
            have mof := MapAt.least Tryz.underlying9 ho0 hf;
            try go_frame)
        | go_in)
      go_ret
      refine ⟨x2, rfl, ?_, hLf.off, mzf, mof⟩
      rw [hx2]
      have h1 := hx1.1 hx
      exact ⟨fun h => (split_fits hqz hqo).2 ⟨h1, h⟩, fun h => ((split_fits hqz hqo).1 h).2⟩
  obtain rfl := ba_empty hq0
  have kb0'' := fun o o' => ((hL2.alloc o).alloc o').b0
  have kb1'' := fun o o' => ((hL2.alloc o).alloc o').b1
  have kb2'' := fun o o' => ((hL2.alloc o).alloc o').b2
  go_wp2_with (go_at_call 91; refine (shB _ _ (lb2.below (((Below.refl _ _).alloc (Nat.le_refl _) _).trans ((Below.refl _ _).alloc (by simp) _))) ((hz2.alloc _).alloc _) ((ho2.alloc _).alloc _)).mono ?_)
  rintro e W3 ⟨F2, b2, m2, q2, rfl, hB3, hb3, hm3, hms3, hn3, hk3, hq3⟩
  have hL3 := ((hL2.alloc _).alloc _).later hB3
  have hz3 := ((hz2.alloc _).alloc _).kept (hB3.block _ ((hz2.alloc _).alloc _).lt)
  have ho3 := ((ho2.alloc _).alloc _).kept (hB3.block _ ((ho2.alloc _).alloc _).lt)
  have hm1' := ((hm1.alloc _).alloc _).kept (hB3.block _ ((hm1.alloc _).alloc _).lt)
  have hsz2 := hL2.sz
  have hlz := hz0.lt
  have hlo := ho0.lt
  have hlt9 : W2.heap.size < ((W2.alloc (.cells #[.int .i64 (F1.n : Int), .map (some b1)] 109)).alloc (.cells #[.int .i64 0, .map none] 109)).heap.size := by simp; omega
  have hlt11 : W2.heap.size + 1 < ((W2.alloc (.cells #[.int .i64 (F1.n : Int), .map (some b1)] 109)).alloc (.cells #[.int .i64 0, .map none] 109)).heap.size := by simp
  have n0 : W3.cell? ⟨W2.heap.size, 0, none⟩ = some (.int .i64 (F1.n : Int)) := (hB3.cell hlt9).trans ((cell_old (by simp)).trans (cell_new rfl))
  have n1 : W3.cell? ⟨W2.heap.size, 1, none⟩ = some (.map (some b1)) := (hB3.cell hlt9).trans ((cell_old (by simp)).trans (cell_new rfl))
  have t0 : W3.cell? ⟨W2.heap.size + 1, 0, none⟩ = some (.int .i64 0) := (hB3.cell hlt11).trans (cell_new (by simp))
  have t1 : W3.cell? ⟨W2.heap.size + 1, 1, none⟩ = some (.map none) := (hB3.cell hlt11).trans (cell_new (by simp))
  have y0 : W3.frozen? ⟨W2.heap.size + 1, 0, none⟩ = false := (hB3.frozen hlt11).trans (frozen_new (by simp))
  have y1 : W3.frozen? ⟨W2.heap.size + 1, 1, none⟩ = false := (hB3.frozen hlt11).trans (frozen_new (by simp))
  have hb2M : w.heap.size + 2 ≤ b2 := Nat.le_trans (Nat.le_trans hsz2 (by simp; omega)) hb3
  have hb2N : W2.heap.size + 2 ≤ b2 := Nat.le_trans (by simp) hb3
  have hb1N : b1 < W2.heap.size := hm1.lt
  have hL4 := (hL3.setCell ⟨W2.heap.size + 1, 0, none⟩ (by simp only; omega) (.int .i64 (F2.n : Int))).setCell ⟨W2.heap.size + 1, 1, none⟩ (by simp only; omega) (.map (some b2))
  have hz4 := (hz3.setCell ⟨W2.heap.size + 1, 0, none⟩ (by simp only; omega) (.int .i64 (F2.n : Int))).setCell ⟨W2.heap.size + 1, 1, none⟩ (by simp only; omega) (.map (some b2))
  have ho4 := (ho3.setCell ⟨W2.heap.size + 1, 0, none⟩ (by simp only; omega) (.int .i64 (F2.n : Int))).setCell ⟨W2.heap.size + 1, 1, none⟩ (by simp only; omega) (.map (some b2))
  have hf4 := (hm1'.setCell ⟨W2.heap.size + 1, 0, none⟩ (by simp only; omega) (.int .i64 (F2.n : Int))).setCell ⟨W2.heap.size + 1, 1, none⟩ (by simp only; omega) (.map (some b2))
  have hg4 := (hm3.setCell ⟨W2.heap.size + 1, 0, none⟩ (by simp only; omega) (.int .i64 (F2.n : Int))).setCell ⟨W2.heap.size + 1, 1, none⟩ (by simp only; omega) (.map (some b2))
  clear hB3 hb3 hm1 hm1' hm3 kb0'' kb1'' kb2'' la2 lb2 hz2 ho2 hz3 ho3
  clear ka0 ka0' ka1 ka1' ka2 ka2' kb0 kb0' kb1 kb1' kb2 kb2'
  have ka0 := hL3.a0
  have ka0' := fun o => (hL3.alloc o).a0
  have ka1 := hL3.a1
  have ka1' := fun o => (hL3.alloc o).a1
  have ka2 := hL3.a2
  have ka2' := fun o => (hL3.alloc o).a2
  have kb0 := hL3.b0
  have kb0' := fun o => (hL3.alloc o).b0
  have kb1 := hL3.b1
  have kb1' := fun o => (hL3.alloc o).b1
  have kb2 := hL3.b2
  have kb2' := fun o => (hL3.alloc o).b2
  rcases hq3 with ⟨hq0', hok2⟩ | ⟨hqb, hqs, hqz, hqo⟩
  case inr =>
    have hem := ba_some hqs
    have hqp : q2 ∈ a.pars ++ b.pars := List.mem_append_right _ hqb
    have hp2 := hnames q2 hqp
    have hd1 := open_z hqp hqz hqo
    have hd2 := open_o hqp hqz hqo
    have hv1 : (((1 : Nat) : Int)) = 1 := rfl
    go_wp2_with (first
      | (at_mapUpdate; refine wpl_update _ rfl _ _ _ 100 rfl 9 3 Tryz.underlying9 Tryz.underlying3 Tryz.underlying100 bz nz Z rfl hz4 (by unfold maxLen; omega) q2 rfl hp2.2 1 rfl (by omega) ?_; intro Wu hu hgu;
          have hou := (OffB.refl (fun i => i = bz ∨ i = bo) _).grown hgu (fun b hb _ => .inl (Option.some.inj hb).symm);
          have hLu := hL4.turned hou;
          have mou := ho4.kept (hgu.block _ (ho4).lt (fun e => hne (Option.some.inj e).symm));
          have lau := LvAt.off hz4 ho4 hou (LvAt.off hz0 ho0 hL4.off la);
          have lbu := LvAt.off hz4 ho4 hou (LvAt.off hz0 ho0 hL4.off lb);
          have ua0 := hLu.a0; have ua1 := hLu.a1; have ua2 := hLu.a2; have ub0 := hLu.b0; have ub1 := hLu.b1; have ub2 := hLu.b2;
          try go_frame)
      | (go_at_call 86; refine (ih _ (Nat.lt_of_lt_of_le hd1 hm) _ _ _ bz (nz + 1) bo no (upd1 Z q2 (some 1)) O lau lbu hu mou hne (fun s k h => by
          unfold upd1 at h
          split at h
          · exact (Option.some.inj h).symm
          · exact hZ s k h) hO (fun s h => by
          unfold upd1 at h
          split at h
          · rename_i e; subst e; exact hqo
          · exact hzo s h) (by omega) (by omega) (Nat.le_refl _)).mono ?_)
      | go_in)
    rintro e Wv ⟨x1, rfl, hx1, hov, mzv, mov⟩
    have hLv := hLu.turned hov
    have lav := LvAt.off hu mou hov lau
    have lbv := LvAt.off hu mou hov lbu
    clear ka0 ka0' ua0 ka1 ka1' ua1 ka2 ka2' ua2 kb0 kb0' ub0 kb1 kb1' ub1 kb2 kb2' ub2 hLu lau lbu hu mou hou
    have va0 := hLv.a0; have va1 := hLv.a1; have va2 := hLv.a2; have vb0 := hLv.b0; have vb1 := hLv.b1; have vb2 := hLv.b2
    go_wp2_with (first
      | (at_delete; refine wpl_delete _ rfl _ _ 100 9 rfl 3 Tryz.underlying9 Tryz.underlying100 bz (nz + 1) (upd1 Z q2 (some 1)) rfl mzv q2 rfl hp2.2 ?_; rw [upd_back hqz]; intro Wd hd hgd;
          have hod := (OffB.refl (fun i => i = bz ∨ i = bo) _).grown hgd (fun b hb _ => .inl (Option.some.inj hb).symm);
          have hLd := hLv.turned hod;
          have mod := mov.kept (hgd.block _ mov.lt (fun e => hne (Option.some.inj e).symm));
          have mzd := MapAt.least Tryz.underlying9 hz0 hd;
          have lad := LvAt.off mzv mov hod lav;
          have lbd := LvAt.off mzv mov hod lbv;
          have da0 := hLd.a0; have da1 := hLd.a1; have da2 := hLd.a2; have db0 := hLd.b0; have db1 := hLd.b1; have db2 := hLd.b2;
          try go_frame)
      | (at_mapUpdate; refine wpl_update _ rfl _ _ _ 100 rfl 9 3 Tryz.underlying9 Tryz.underlying3 Tryz.underlying100 bo no O rfl mod (by unfold maxLen; omega) q2 rfl hp2.2 1 rfl (by omega) ?_; intro Wo hwo hgo;
          have hoo := (OffB.refl (fun i => i = bz ∨ i = bo) _).grown hgo (fun b hb _ => .inr (Option.some.inj hb).symm);
          have hLo := hLd.turned hoo;
          have mzo := mzd.kept (hgo.block _ mzd.lt (fun e => hne (Option.some.inj e)));
          have lao := LvAt.off mzd mod hoo lad;
          have lbo := LvAt.off mzd mod hoo lbd;
          have oa0 := hLo.a0; have oa1 := hLo.a1; have oa2 := hLo.a2; have ob0 := hLo.b0; have ob1 := hLo.b1; have ob2 := hLo.b2;
          try go_frame)
      | (go_at_call 86; refine (ih _ (Nat.lt_of_lt_of_le hd2 hm) _ _ _ bz nz bo (no + 1) Z (upd1 O q2 (some 1)) lao lbo mzo hwo hne hZ (fun s k h => by
          unfold upd1 at h
          split at h
          · exact (Option.some.inj h).symm
          · exact hO s k h) (fun s h => by
          unfold upd1
          split
          · rename_i e; subst e; rw [hqz] at h; simp at h
          · exact hzo s h) (by omega) (by omega) (Nat.le_refl _)).mono ?_)
      | go_in)
    · have hx : x1 = false := by simpa using (by assumption : (!x1) = true)
      go_ret
      refine ⟨false, rfl, ⟨fun h => by simp at h, fun h => ?_⟩, hLd.off, mzd, mod⟩
      have := hx1.2 ((split_fits hqz hqo).1 h).1
      rw [hx] at this
      simp at this
    · have hx : x1 = true := by simpa using (by assumption : (!x1) = false)
      rintro e We ⟨x2, rfl, hx2, hoe, mze, moe⟩
      have hLe := hLo.turned hoe
      go_wp2_with (first
        | (at_delete; refine wpl_delete _ rfl _ _ 100 9 rfl 3 Tryz.underlying9 Tryz.underlying100 bo (no + 1) (upd1 O q2 (some 1)) rfl moe q2 rfl hp2.2 ?_; rw [upd_back hqo]; intro Wf hf hgf;
            have hof := (OffB.refl (fun i => i = bz ∨ i = bo) _).grown hgf (fun b hb _ => .inr (Option.some.inj hb).symm);
            have hLf := hLe.turned hof;
            have mzf := mze.kept (hgf.block _ mze.lt (fun e => hne (Option.some.inj e)));
            have mof := MapAt.least Tryz.underlying9 ho0 hf;
            try go_frame)
        | go_in)
      go_ret
      refine ⟨x2, rfl, ?_, hLf.off, mzf, mof⟩
      rw [hx2]
      have h1 := hx1.1 hx
      exact ⟨fun h => (split_fits hqz hqo).2 ⟨h1, h⟩, fun h => ((split_fits hqz hqo).1 h).2⟩
  obtain rfl := ba_empty hq0'
  go_wp2_with (go_at_call 92; refine (Mk.fleq_ok hf4 hg4 (fun s k h => by have := hk1 s k h; omega) (fun s k h => by have := hk3 s k h; omega)).mono ?_)
  rintro e W5 ⟨x, rfl, hx, hB5⟩
  go_wp2_with fail
  go_ret
  refine ⟨x, rfl, ?_, (hL4.later hB5).off, hz4.kept (hB5.block _ hz4.lt), ho4.kept (hB5.block _ ho4.lt)⟩
  rw [hx]
  exact leq_iff hok hok2 (fun p hp => by have := hzo p hp; unfold isK; rw [this]; rfl)
end Go.Proofs
end
section
namespace Go.Proofs
open Go.RowKit Go.Ab Go.Maps
set_option maxRecDepth 100000
set_option maxHeartbeats 1000000
theorem pars_size : ∀ l : Lv, l.pars.length ≤ l.size
 | .zero => by simp [Lv.pars]
 | .param _ => by simp [Lv.pars, Lv.size]
 | .succ l => by have := pars_size l; simp only [Lv.pars, Lv.size]; omega
 | .max l r => by have := pars_size l; have := pars_size r; simp only [Lv.pars, Lv.size, List.length_append]; omega
 | .imax l r => by have := pars_size l; have := pars_size r; simp only [Lv.pars, Lv.size, List.length_append]; omega
theorem fits_none (v : ByteArray → Nat) : Fits (isK fun _ => none) (isK fun _ => none) v := ⟨fun p h => by simp [isK] at h, fun p h => by simp [isK] at h⟩
structure GoodL (l : Lv) : Prop where
 names : ∀ s ∈ l.pars, 0 < s.size ∧ s.size ≤ maxLen
 size : l.size < 2 ^ 58
theorem Mk.Leq_ok {a b : Lv} (ga : GoodL a) (gb : GoodL b) {w : World} {ca cb : Value} (la : LvAt w a ca) (lb : LvAt w b cb) :
  Calls Tryz.prog 80 #[ca, cb] w fun e w' => ∃ x : Bool, e = .returned (.bool x) ∧ (x = true ↔ a.Leq b) ∧ Below w.heap.size w w' := by
 have hmm := @run_makeMap Tryz.prog
 obtain ⟨ki, si, pi, ni, mi, rfl⟩ := LvAt.agg la
 obtain ⟨kj, sj, pj, nj, mj, rfl⟩ := LvAt.agg lb
 have hoff : ∀ (c1 c2 : Obj), OffB (fun _ => False) w ((((w.alloc c1).alloc c2).alloc (.map #[] 0)).alloc (.map #[] 0)) := fun c1 c2 => ((((OffB.refl _ w).alloc _).alloc _).alloc _).alloc _
 have hB : ∀ (c1 c2 : Obj), Below w.heap.size w ((((w.alloc c1).alloc c2).alloc (.map #[] 0)).alloc (.map #[] 0)) := fun c1 c2 => (hoff c1 c2).below (Nat.le_refl _) (fun _ _ h => h)
 have hz : ∀ (c1 c2 : Obj), Mk.MapI ((((w.alloc c1).alloc c2).alloc (.map #[] 0)).alloc (.map #[] 0)) (w.heap.size + 2) 0 (fun _ => none) := fun c1 c2 => by
  have h := (MapAt.made (P := Tryz.prog) (k := 9) (e := 3) ((w.alloc c1).alloc c2)).alloc (.map #[] 0)
  rw [show ((w.alloc c1).alloc c2).heap.size = w.heap.size + 2 by simp] at h
  exact h
 have ho : ∀ (c1 c2 : Obj), Mk.MapI ((((w.alloc c1).alloc c2).alloc (.map #[] 0)).alloc (.map #[] 0)) (w.heap.size + 3) 0 (fun _ => none) := fun c1 c2 => by
  have h := MapAt.made (P := Tryz.prog) (k := 9) (e := 3) (((w.alloc c1).alloc c2).alloc (.map #[] 0))
  rw [show (((w.alloc c1).alloc c2).alloc (.map #[] 0)).heap.size = w.heap.size + 3 by simp] at h
  exact h
 have hn : (a.pars ++ b.pars).length < 2 ^ 59 := by
  have := pars_size a; have := pars_size b; have := ga.size; have := gb.size
  simp only [List.length_append]; omega
 go_enter Tryz.func80, Tryz.ntmps80
 go_wp2_with (go_at_call 86; refine (Mk.leq_ok ga.names gb.names ga.size gb.size (a.pars ++ b.pars).length _ _ _ (w.heap.size + 2) 0 (w.heap.size + 3) 0 (fun _ => none) (fun _ => none) (la.below (hB _ _)) (lb.below (hB _ _)) (hz _ _) (ho _ _) (by omega) (fun _ _ h => by simp at h) (fun _ _ h => by simp at h) (fun _ _ => rfl) (by omega) (by omega) (List.length_filter_le _ _)).mono ?_)
 rintro e w' ⟨x, rfl, hx, hof, _, _⟩
 go_wp2_with fail
 go_ret
 refine ⟨x, rfl, hx.trans ⟨fun h v => h v (fits_none v), fun h v _ => h v⟩, ((hoff _ _).trans hof (fun i hi hs => by omega)).below (Nat.le_refl _) (fun _ _ h => h)⟩
end Go.Proofs
namespace Go.Ab
open Go.RowKit Go.Proofs
def Lv.vV (l : Lv) : V := .agg [.int .i64 l.kind, .str l.name, .slice 3 44 l.args]
theorem Lv.vV_enc (l : Lv) : l.vV = .agg l.enc := by rw [l.enc_eq]; rfl
theorem enc_inj : ∀ {a b : Lv}, a.enc = b.enc → a = b
 | .zero, b, h => by cases b <;> simp [Lv.enc] at h; rfl
 | .param s, b, h => by
  cases b <;> simp [Lv.enc] at h
  rw [h]
 | .succ a, b, h => by
  cases b <;> simp [Lv.enc] at h
  rw [enc_inj h]
 | .max a1 a2, b, h => by
  cases b <;> simp [Lv.enc] at h
  rw [enc_inj h.1, enc_inj h.2]
 | .imax a1 a2, b, h => by
  cases b <;> simp [Lv.enc] at h
  rw [enc_inj h.1, enc_inj h.2]
theorem vV_inj {a b : Lv} (h : a.vV = b.vV) : a = b := by
 rw [a.vV_enc, b.vV_enc] at h
 exact enc_inj (V.agg.inj h)
theorem rel_agg3 {G : Gh} {w : World} {k : Int} {s : ByteArray} {v : V} {c : Value} (h : Rel G w (.agg [.int .i64 k, .str s, v]) c) : ∃ sl, c = .agg #[.int .i64 k, .string s, sl] ∧ Rel G w v sl := by
 cases h with
 | agg _ xs h1 h2 h3 =>
  obtain ⟨x0, x1, x2, rfl⟩ : ∃ x0 x1 x2, xs = [x0, x1, x2] := by
   match xs, h1 with
   | [x0, x1, x2], _ => exact ⟨x0, x1, x2, rfl⟩
  have r0 := h3 0 _ _ rfl rfl
  have r1 := h3 1 _ _ rfl rfl
  have r2 := h3 2 _ _ rfl rfl
  cases r0
  cases r1
  exact ⟨x2, rfl, r2⟩
theorem rel_kid {G : Gh} {w : World} {et : TypeId} {es : List (List V)} {sl : Value} (h : Rel G w (.slice 3 et es) sl) (hne : 0 < es.length) :
  ∃ b off cap, sl = .slice (some ⟨b, off, none⟩) es.length cap ∧ ∀ (i : Nat) (e : List V), es[i]? = some e → ∃ u0 u1 u2, w.cell? ⟨b, off + i * 3, none⟩ = some u0 ∧ w.cell? ⟨b, off + i * 3 + 1, none⟩ = some u1 ∧ w.cell? ⟨b, off + i * 3 + 2, none⟩ = some u2 ∧ Rel G w (.agg e) (.agg #[u0, u1, u2]) := by
 rcases rel_slice h with ⟨rfl, _⟩ | ⟨b, off, cap, cs, hc, g1, g2, g3, g4, g5, g6, g7⟩
 ·simp at hne
 ·refine ⟨b, off, cap, hc, fun i e he => ?_⟩
  have hi : i < es.length := (List.getElem?_eq_some_iff.1 he).1
  obtain ⟨x, hx⟩ : ∃ x, cs[i]? = some x := ⟨cs[i], List.getElem?_eq_getElem (by omega)⟩
  have hl := g5 i x hx
  have hle := g4 i e he
  obtain ⟨u0, u1, u2, rfl⟩ : ∃ u0 u1 u2, x = [u0, u1, u2] := by
   match x, hl with
   | [u0, u1, u2], _ => exact ⟨u0, u1, u2, rfl⟩
  have c0 := g6 i 0 _ u0 hx rfl
  have c1 := g6 i 1 _ u1 hx rfl
  have c2 := g6 i 2 _ u2 hx rfl
  refine ⟨u0, u1, u2, c0.1, c1.1, c2.1, Rel.agg e [u0, u1, u2] (by rw [hle]; rfl) (fun j y hy => ?_) (fun j v y hv hy => g7 i j e _ v y he hx hv hy)⟩
  exact (g6 i j _ y hx hy).2
theorem LvAt.of_rel {G : Gh} {w : World} : ∀ {l : Lv} {c : Value}, Rel G w (.agg l.enc) c → LvAt w l c
 | .zero, c, h => by
  obtain ⟨sl, rfl, hs⟩ := rel_agg3 h
  cases hs <;> exact ⟨_, _, rfl⟩
 | .param s, c, h => by
  obtain ⟨sl, rfl, hs⟩ := rel_agg3 h
  cases hs <;> exact ⟨_, _, rfl⟩
 | .succ l, c, h => by
  obtain ⟨sl, rfl, hs⟩ := rel_agg3 h
  obtain ⟨b, off, cap, rfl, hk⟩ := rel_kid hs (by simp)
  obtain ⟨u0, u1, u2, c0, c1, c2, hr⟩ := hk 0 l.enc rfl
  exact ⟨b, off, cap, u0, u1, u2, rfl, by simpa using c0, by simpa using c1, by simpa using c2, LvAt.of_rel hr⟩
 | .max l r, c, h => by
  obtain ⟨sl, rfl, hs⟩ := rel_agg3 h
  obtain ⟨b, off, cap, rfl, hk⟩ := rel_kid hs (by simp)
  obtain ⟨u0, u1, u2, c0, c1, c2, hr⟩ := hk 0 l.enc rfl
  obtain ⟨z0, z1, z2, d0, d1, d2, hr2⟩ := hk 1 r.enc rfl
  exact ⟨b, off, cap, u0, u1, u2, z0, z1, z2, rfl, by simpa using c0, by simpa using c1, by simpa using c2, LvAt.of_rel hr, by simpa using d0, by simpa using d1, by simpa using d2, LvAt.of_rel hr2⟩
 | .imax l r, c, h => by
  obtain ⟨sl, rfl, hs⟩ := rel_agg3 h
  obtain ⟨b, off, cap, rfl, hk⟩ := rel_kid hs (by simp)
  obtain ⟨u0, u1, u2, c0, c1, c2, hr⟩ := hk 0 l.enc rfl
  obtain ⟨z0, z1, z2, d0, d1, d2, hr2⟩ := hk 1 r.enc rfl
  exact ⟨b, off, cap, u0, u1, u2, z0, z1, z2, rfl, by simpa using c0, by simpa using c1, by simpa using c2, LvAt.of_rel hr, by simpa using d0, by simpa using d1, by simpa using d2, LvAt.of_rel hr2⟩
theorem below_sinv {gl : Nat → Option (List V)} {G : Gh} {w w' : World} {σ : Sto} (h : SInv gl G w σ) (hB : RowKit.Below w.heap.size w w') : Ext G w G w' ∧ SInv gl G w' σ := by
 have e : Ext G w G w' := ⟨Nat.le_refl _, fun _ _ => rfl, fun _ _ => rfl, fun _ => Nat.le_refl _, fun b o ho => hB.cell (lim_lt h.wf ho), hB.os, hB.tape, hB.output, hB.size, fun i hi ho => ⟨hB.block i hi, rfl, ho⟩⟩
 refine ⟨e, fun i hi => h.wf i (Nat.le_trans hB.size hi), fun g cs hg => (h.glob g cs hg).mono e, h.N, fun b hb => ?_, fun b cs hb => ?_, h.gsz.mono e⟩
 ·obtain ⟨cv, fr, q1⟩ := h.typed b hb
  obtain ⟨_, _, _, _, q3, _⟩ := h.blk b σ[b] (List.getElem?_eq_getElem hb)
  exact ⟨cv, fr, by rw [hB.block _ (owner_lt h.wf q3)]; exact q1⟩
 ·obtain ⟨cv, el, g1, g2, g3, g4, g5⟩ := h.blk b cs hb
  refine ⟨cv, el, by rw [hB.block _ (owner_lt h.wf g3)]; exact g1, g2, g3, g4, fun j c x hc hx => ?_⟩
  obtain ⟨e1, e2⟩ := g5 j c x hc hx
  exact ⟨e1.move e fun _ i hi => ⟨hB.block i (owner_lt h.wf hi), rfl, hi⟩, e2⟩
open Classical in
noncomputable def Mk.leqS (args : List Cell) (σ : Sto) : Option Res :=
 match args with
 | [(x, _), (y, _)] => if h : ∃ p : Lv × Lv, p.1.vV = x ∧ p.2.vV = y ∧ GoodL p.1 ∧ GoodL p.2 then some (.ret [(.bool (decide (h.choose.1.Leq h.choose.2)), false)], σ) else none
 | _ => none
open Classical in
theorem Mk.leqS_eq {a b : Lv} (ga : GoodL a) (gb : GoodL b) (o1 o2 : Bool) (σ : Sto) : Mk.leqS [(a.vV, o1), (b.vV, o2)] σ = some (.ret [(.bool (decide (a.Leq b)), false)], σ) := by
 have h : ∃ p : Lv × Lv, p.1.vV = a.vV ∧ p.2.vV = b.vV ∧ GoodL p.1 ∧ GoodL p.2 := ⟨(a, b), rfl, rfl, ga, gb⟩
 unfold Mk.leqS
 simp only
 rw [dif_pos h]
 obtain ⟨h1, h2, _, _⟩ := h.choose_spec
 rw [vV_inj h1, vV_inj h2]
open Classical in
theorem leqC_ok {C : Ctx} (henter : ∀ (args : Array Value) (w : World), (callFunc 80 args).run Tryz.prog w = .ok (.enter 80 args) w) :
  CallOk Tryz.prog C (fun g args σ => if g = 80 then Mk.leqS args σ else none) := by
 intro g args σ r h
 simp only at h
 split at h
 case isFalse => simp at h
 rename_i hg
 subst hg
 refine ⟨henter, fun G w vals hS hcl hlen hv => ?_⟩
 unfold Mk.leqS at h
 split at h
 case h_2 => simp at h
 rename_i x o1 y o2
 split at h
 case isFalse => simp at h
 rename_i hex
 obtain ⟨h1, h2, g1, g2⟩ := hex.choose_spec
 generalize hex.choose = p at h h1 h2 g1 g2
 obtain rfl := Option.some.inj h
 obtain ⟨ca, cb, rfl⟩ : ∃ ca cb, vals = [ca, cb] := by
  match vals, hlen with
  | [ca, cb], _ => exact ⟨ca, cb, rfl⟩
 have ra := (hv 0 _ ca rfl rfl).1
 have rb := (hv 1 _ cb rfl rfl).1
 simp only at ra rb
 rw [← h1, Lv.vV_enc] at ra
 rw [← h2, Lv.vV_enc] at rb
 refine (Mk.Leq_ok g1 g2 (LvAt.of_rel ra) (LvAt.of_rel rb)).mono fun en w' ⟨b, he, hb, hB⟩ => ?_
 obtain ⟨f1, f2⟩ := below_sinv hS hB
 refine ⟨G, f1, f2, [.bool b], rfl, he, fun i c x hc hx => ?_⟩
 match i with
 | 0 =>
  simp at hc hx
  subst hc; subst hx
  have : decide (p.1.Leq p.2) = b := by
   cases b with
   | true => simpa using hb
   | false => simpa using hb
  rw [this]
  exact ⟨.bool _, fun ho => by simp at ho⟩
 | i + 1 => simp at hc
end Go.Ab
end
