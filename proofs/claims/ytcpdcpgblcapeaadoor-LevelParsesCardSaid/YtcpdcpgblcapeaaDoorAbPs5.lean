/- api.Code, walked. -/
import Derived.Test.YtcpdcpgblcapeaaDoorAbPs4
import Derived.Test.YtcpdcpgblcapeaaDoorAbPs3
set_option linter.unusedSimpArgs false
set_option linter.unusedVariables false
set_option linter.deprecated false
namespace Go.Proofs
open Go.RowKit Go.Ab
set_option maxRecDepth 100000
set_option maxHeartbeats 1000000
theorem Mk.code_nil (w : World) : Calls Tryd.prog 40 #[.nilIface] w fun e w' => e = .returned (.tuple #[.int .i64 0, .int .i64 0]) ∧ w' = w := by
  go_enter Tryd.func40, Tryd.ntmps40
  go_wp2
  refine bodyPost_ret (by simp [results, Tryd.results40, go_sem]; try rfl) rfl ?_
  exact ⟨rfl, rfl⟩
theorem Mk.code_hit (b : Nat) (c a : Int) (w : World) (hg : w.cell? ⟨1, 0, none⟩ = some (.iface 113 (.agg #[.pointer (some ⟨2, 44, none⟩)])))
    (h0 : w.cell? ⟨b, 0, none⟩ = some (.int .i64 c)) (h1 : w.cell? ⟨b, 1, none⟩ = some (.int .i64 a)) :
    Calls Tryd.prog 40 #[.iface 66 (.pointer (some ⟨b, 0, none⟩))] w fun e w' => e = .returned (.tuple #[.int .i64 c, .int .i64 a]) ∧ Below w.heap.size w w' := by
  have hlt : ∀ (p : Addr) (x : Value), w.cell? p = some x → p.block < w.heap.size := fun p x hx => by
    rcases Nat.lt_or_ge p.block w.heap.size with h | h
    · exact h
    · simp [World.cell?, Array.getElem?_eq_none h] at hx
  have hA := Mk.as_hit ⟨b, 0, none⟩ ⟨w.heap.size, 0, none⟩ (.pointer none) (w.alloc (.cells #[.pointer none] 66))
    (by rw [World.cell?_alloc_lt _ _ ⟨1, 0, none⟩ (hlt _ _ hg)]; exact hg) (by rw [World.cell?_alloc_at _ _ _ _ rfl]; rfl) (by simp only [World.frozen?, heap_alloc_new]; rfl)
  go_enter Tryd.func40, Tryd.ntmps40
  go_wp2_with (go_at_call 54; refine hA.mono ?_)
  clear hA
  rintro e w1 ⟨rfl, hw⟩
  have hB : Below w.heap.size w w1 := by
    rw [hw]
    refine Below.setCell (p := ⟨w.heap.size, 0, none⟩) ?_ (Nat.le_refl _) _
    refine Below.alloc ?_ (by simp; omega) _
    refine Below.alloc ?_ (by simp; omega) _
    refine Below.alloc ?_ (by simp; omega) _
    refine Below.alloc ?_ (by simp) _
    exact Below.alloc (Below.refl _ _) (Nat.le_refl _) _
  have k0 : w1.cell? ⟨b, 0, none⟩ = some (.int .i64 c) := (hB.cell (hlt _ _ h0)).trans h0
  have k1 : w1.cell? ⟨b, 1, none⟩ = some (.int .i64 a) := (hB.cell (hlt _ _ h1)).trans h1
  have kt : w1.cell? ⟨w.heap.size, 0, none⟩ = some (.pointer (some ⟨b, 0, none⟩)) := by
    rw [hw]
    refine World.cell?_setCell_same' _ _ _ ?_
    rw [World.cell?_alloc_lt _ _ ⟨w.heap.size, 0, none⟩ (by simp; omega), World.cell?_alloc_lt _ _ ⟨w.heap.size, 0, none⟩ (by simp; omega), World.cell?_alloc_lt _ _ ⟨w.heap.size, 0, none⟩ (by simp; omega), World.cell?_alloc_lt _ _ ⟨w.heap.size, 0, none⟩ (by simp), World.cell?_alloc_at _ _ _ _ rfl]
    rfl
  clear hw
  go_wp2
  go_region
  all_goals (go_wp2; refine bodyPost_ret (by simp [results, Tryd.results40, go_sem]; try rfl) rfl ?_; exact ⟨rfl, hB.os, hB.tape, hB.output, hB.size, hB.block⟩)
end Go.Proofs
namespace Go.Ab
open Go.RowKit Go.Proofs
theorem below_ext {gl : Nat → Option (List V)} {G : Gh} {w w' : World} {σ : Sto} (h : SInv gl G w σ) (hB : RowKit.Below w.heap.size w w') : Ext G w G w' ∧ SInv gl G w' σ := by
  have e : Ext G w G w' := ⟨Nat.le_refl _, fun _ _ => rfl, fun _ _ => rfl, fun _ => Nat.le_refl _, fun b o ho => hB.cell (lim_lt h.wf ho), hB.os, hB.tape, hB.output, hB.size, fun i hi ho => ⟨hB.block i hi, rfl, ho⟩⟩
  refine ⟨e, fun i hi => h.wf i (Nat.le_trans hB.size hi), fun g cs hg => (h.glob g cs hg).mono e, h.N, fun b hb => ?_, fun b cs hb => ?_⟩
  · obtain ⟨cv, fr, q1⟩ := h.typed b hb
    obtain ⟨_, _, _, _, q3, _⟩ := h.blk b σ[b] (List.getElem?_eq_getElem hb)
    exact ⟨cv, fr, by rw [hB.block _ (owner_lt h.wf q3)]; exact q1⟩
  · obtain ⟨cv, el, g1, g2, g3, g4, g5⟩ := h.blk b cs hb
    refine ⟨cv, el, by rw [hB.block _ (owner_lt h.wf g3)]; exact g1, g2, g3, g4, fun j c x hc hx => ?_⟩
    obtain ⟨e1, e2⟩ := g5 j c x hc hx
    exact ⟨e1.move e fun _ i hi => ⟨hB.block i (owner_lt h.wf hi), rfl, hi⟩, e2⟩

/-- What lies in errors.errorType. -/
def Mk.hv : Value := .iface 113 (.agg #[.pointer (some ⟨2, 44, none⟩)])
def Mk.codeS (args : List Cell) (σ : Sto) : Option Res :=
  match args with
  | [(.nilIface, _)] => some (.ret [(.int .i64 0, false), (.int .i64 0, false)], σ)
  | [(.iface t (.ptr t' b o), _)] => if t = 66 ∧ t' = 33 ∧ o = 0 then (match σ[b]? with
    | some [(.int k c, _), (.int k' a, _)] => if k = .i64 ∧ k' = .i64 then some (.ret [(.int .i64 c, false), (.int .i64 a, false)], σ) else none
    | _ => none) else none
  | _ => none

theorem code_ok {C : Ctx} (hgl : C.glob 1 = some [.lit Mk.hv]) (henter : ∀ (args : Array Value) (w : World), (callFunc 40 args).run Tryd.prog w = .ok (.enter 40 args) w) :
    CallOk Tryd.prog C (fun g args σ => if g = 40 then Mk.codeS args σ else none) := by
  intro g args σ r h
  simp only at h
  split at h
  case isFalse => simp at h
  rename_i hg
  subst hg
  refine ⟨henter, fun G w vals hS hcl hlen hv => ?_⟩
  have hcell : w.cell? ⟨1, 0, none⟩ = some Mk.hv := by
    have hr := hS.glob 1 _ hgl
    generalize hp : Value.pointer (some ⟨1, 0, none⟩) = pv at hr
    cases hr with
    | eptr _ _ _ b off cs h1 h2 h3 h4 h5 =>
      obtain ⟨c, rfl⟩ : ∃ c, cs = [c] := by
        match cs, h2 with
        | [c], _ => exact ⟨c, rfl⟩
      have hc := h4 0 c rfl
      have hl := h5 0 _ c rfl rfl
      cases hl with
      | lit _ _ =>
        simp at hp
        obtain ⟨rfl, h0⟩ := hp
        obtain rfl : off = 0 := by omega
        exact hc.1
  unfold Mk.codeS at h
  split at h
  case h_3 => simp at h
  · rename_i ow
    obtain rfl := Option.some.inj h
    obtain ⟨x, rfl⟩ : ∃ x, vals = [x] := by
      match vals, hlen with
      | [x], _ => exact ⟨x, rfl⟩
    have hx := (hv 0 _ x rfl rfl).1
    simp only at hx
    cases hx with
    | nilIface =>
    refine (Mk.code_nil w).mono fun en w' ⟨he, hw⟩ => ?_
    subst he; subst hw
    exact ⟨G, Ext.refl _ _, hS, end_two (.int _ _) (.int _ _)⟩
  · rename_i t t' b o ow
    split at h
    case isFalse => simp at h
    rename_i hh
    obtain ⟨rfl, rfl, rfl⟩ := hh
    split at h
    case h_2 => simp at h
    rename_i k c o1 k' a o2 hb
    split at h
    case isFalse => simp at h
    rename_i hh
    obtain ⟨rfl, rfl⟩ := hh
    obtain rfl := Option.some.inj h
    obtain ⟨x, rfl⟩ : ∃ x, vals = [x] := by
      match vals, hlen with
      | [x], _ => exact ⟨x, rfl⟩
    have hx := (hv 0 _ x rfl rfl).1
    simp only at hx
    cases hx with
    | iface _ _ cx hcx =>
    cases hcx with
    | ptr _ _ _ hbN hty =>
    obtain ⟨cv, el, g1, g2, g3, g4, g5⟩ := hS.blk b _ hb
    simp only [List.length_cons, List.length_nil] at g2
    obtain ⟨y0, h0⟩ : ∃ y, cv[0]? = some y := ⟨cv[0], by simp [g2]⟩
    obtain ⟨y1, h1⟩ : ∃ y, cv[1]? = some y := ⟨cv[1], by simp [g2]⟩
    have r0 := (g5 0 _ y0 rfl h0).1.1
    have r1 := (g5 1 _ y1 rfl h1).1.1
    simp only at r0 r1
    cases r0
    cases r1
    refine (Mk.code_hit (G.μ b) c a w hcell (by simp only [World.cell?, g1]; simpa using h0) (by simp only [World.cell?, g1]; simpa using h1)).mono fun en w' ⟨he, hB⟩ => ?_
    subst he
    obtain ⟨f1, f2⟩ := below_ext hS hB
    exact ⟨G, f1, f2, end_two (.int _ _) (.int _ _)⟩
end Go.Ab
