/- A function with cells of its own that is walked by hand: what calls leave, cells written beside. -/
import Derived.Test.YtcpdcpgblcapeaaDoorAbExt
set_option linter.unusedSimpArgs false
set_option linter.unusedVariables false
set_option linter.deprecated false
namespace Go.Ab

/-- From one moment to a later one, as far as what lay below a bound. -/
structure ExtB (B : Nat) (G : Gh) (w : World) (G' : Gh) (w' : World) : Prop where
  N : G.N ≤ G'.N
  μ : ∀ b, b < G.N → G'.μ b = G.μ b
  ty : ∀ b, b < G.N → G'.ty b = G.ty b
  lim : ∀ b, G.lim b ≤ G'.lim b
  cell : ∀ b o, o < G.lim b → w'.cell? ⟨b, o, none⟩ = w.cell? ⟨b, o, none⟩
  os : w'.os = w.os
  tape : w'.tape = w.tape
  output : w'.output = w.output
  size : w.heap.size ≤ w'.heap.size
  old : ∀ i, i < B → G.owner i = none → w'.heap[i]? = w.heap[i]? ∧ G'.lim i = G.lim i ∧ G'.owner i = none
theorem Ext.toB {B : Nat} {G G' : Gh} {w w' : World} (h : Ext G w G' w') (hB : B ≤ w.heap.size) : ExtB B G w G' w' :=
  ⟨h.N, h.μ, h.ty, h.lim, h.cell, h.os, h.tape, h.output, h.size, fun i hi ho => h.old i (Nat.lt_of_lt_of_le hi hB) ho⟩
theorem ExtB.toExt {G G' : Gh} {w w' : World} (h : ExtB w.heap.size G w G' w') : Ext G w G' w' :=
  ⟨h.N, h.μ, h.ty, h.lim, h.cell, h.os, h.tape, h.output, h.size, h.old⟩
theorem ExtB.trans {B : Nat} {G G1 G2 : Gh} {w w1 w2 : World} (h : ExtB B G w G1 w1) (k : ExtB B G1 w1 G2 w2) : ExtB B G w G2 w2 where
  N := Nat.le_trans h.N k.N
  μ b hb := (k.μ b (Nat.lt_of_lt_of_le hb h.N)).trans (h.μ b hb)
  ty b hb := (k.ty b (Nat.lt_of_lt_of_le hb h.N)).trans (h.ty b hb)
  lim b := Nat.le_trans (h.lim b) (k.lim b)
  cell b o ho := (k.cell b o (Nat.lt_of_lt_of_le ho (h.lim b))).trans (h.cell b o ho)
  os := k.os.trans h.os
  tape := k.tape.trans h.tape
  output := k.output.trans h.output
  size := Nat.le_trans h.size k.size
  old i hi ho := by
    obtain ⟨a1, a2, a3⟩ := h.old i hi ho
    obtain ⟨b1, b2, b3⟩ := k.old i hi a3
    exact ⟨b1.trans a1, b2.trans a2, b3⟩

/-- The same but for two blocks. -/
structure Near (a b : Nat) (w w' : World) : Prop where
  os : w'.os = w.os
  tape : w'.tape = w.tape
  output : w'.output = w.output
  size : w'.heap.size = w.heap.size
  heap : ∀ i, i ≠ a → i ≠ b → w'.heap[i]? = w.heap[i]?
theorem Near.refl (a b : Nat) (w : World) : Near a b w w := ⟨rfl, rfl, rfl, rfl, fun _ _ _ => rfl⟩
theorem Near.setCell {a b : Nat} {w w' : World} (h : Near a b w w') (p : Addr) (hp : p.block = a ∨ p.block = b) (v : Value) : Near a b w (w'.setCell p v) := by
  refine ⟨h.os, h.tape, h.output, by simp [World.setCell]; exact h.size, fun i h1 h2 => ?_⟩
  rw [← h.heap i h1 h2]
  show (w'.heap.modify p.block _)[i]? = _
  rw [Array.getElem?_modify, if_neg (by rintro rfl; rcases hp with hp | hp <;> contradiction)]

section
variable {gl : Nat → Option (List V)} {G : Gh} {w w' : World} {σ : Sto} {a b : Nat}
theorem Near.rel (h : Near a b w w') (la : G.lim a = 0) (lb : G.lim b = 0) {v : V} {c : Value} (hr : Rel G w v c) : Rel G w' v c := by
  have hcell : ∀ i o, o < G.lim i → w'.cell? ⟨i, o, none⟩ = w.cell? ⟨i, o, none⟩ := by
    intro i o ho
    simp only [World.cell?]
    rw [h.heap i (by rintro rfl; omega) (by rintro rfl; omega)]
  let G1 : Gh := { G with owner := fun _ => some (.res 0) }
  have e : Ext G1 w G1 w' := ⟨Nat.le_refl _, fun _ _ => rfl, fun _ _ => rfl, fun _ => Nat.le_refl _, hcell, h.os, h.tape, h.output, by rw [h.size]; exact Nat.le_refl _, fun i _ ho => by simp [G1] at ho⟩
  have := (rel_owner hr (fun _ => some (.res 0))).mono (G' := G1) e
  exact rel_owner this G.owner
theorem Near.sinv (h : Near a b w w') (la : G.lim a = 0) (lb : G.lim b = 0) (oa : G.owner a = none) (ob : G.owner b = none) (hS : SInv gl G w σ) : SInv gl G w' σ := by
  have hne : ∀ i p, G.owner i = some p → w'.heap[i]? = w.heap[i]? := fun i p hp => h.heap i (by rintro rfl; rw [oa] at hp; simp at hp) (by rintro rfl; rw [ob] at hp; simp at hp)
  have hown : ∀ (p : Place) (v : V) (c : Value), Own G w p v c → Own G w' p v c := by
    intro p v c hh
    unfold Own at *
    split at hh
    · obtain ⟨h1, h2, h3, h4, cv, fr, h5, h6, h7⟩ := hh
      exact ⟨h1, h2, h3, h4, cv, fr, by rw [hne _ _ h3]; exact h5, h6, h7⟩
    · exact hh
    · trivial
  refine ⟨fun i hi => hS.wf i (by rw [h.size] at hi; exact hi), fun g cs hg => h.rel la lb (hS.glob g cs hg), hS.N, fun k hk => ?_, fun k cs hk => ?_⟩
  · obtain ⟨cv, fr, q1⟩ := hS.typed k hk
    obtain ⟨_, _, _, _, q3, _⟩ := hS.blk k σ[k] (List.getElem?_eq_getElem hk)
    exact ⟨cv, fr, by rw [hne _ _ q3]; exact q1⟩
  · obtain ⟨cv, el, g1, g2, g3, g4, g5⟩ := hS.blk k cs hk
    exact ⟨cv, el, by rw [hne _ _ g3]; exact g1, g2, g3, g4, fun j c x hc hx => ⟨⟨h.rel la lb (g5 j c x hc hx).1.1, fun hf => hown _ _ _ ((g5 j c x hc hx).1.2 hf)⟩, (g5 j c x hc hx).2⟩⟩
theorem Near.extB {B : Nat} (h : Near a b w w') (la : G.lim a = 0) (lb : G.lim b = 0) (ha : B ≤ a) (hb : B ≤ b) : ExtB B G w G w' :=
  ⟨Nat.le_refl _, fun _ _ => rfl, fun _ _ => rfl, fun _ => Nat.le_refl _, fun i o ho => by
    simp only [World.cell?]
    rw [h.heap i (by rintro rfl; omega) (by rintro rfl; omega)], h.os, h.tape, h.output, by rw [h.size]; exact Nat.le_refl _, fun i hi ho => ⟨h.heap i (by omega) (by omega), rfl, ho⟩⟩
end
end Go.Ab
