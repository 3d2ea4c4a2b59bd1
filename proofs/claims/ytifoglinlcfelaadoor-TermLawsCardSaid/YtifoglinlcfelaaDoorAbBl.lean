/- What keeps the blocks of old keeps what is known of the store. -/
import Derived.Test.YtifoglinlcfelaaDoorProg
import Derived.Test.YtifoglinlcfelaaDoorAbMp
import Derived.Test.YtifoglinlcfelaaDoorAbLim
import Derived.Shelf.Strconv.Itoa3
import Derived.Laws.IdiomStrings
import Derived.WalkKit
import Derived.RegionTactic
set_option linter.unusedSimpArgs false
set_option linter.unusedVariables false
set_option linter.deprecated false
section
namespace Go.Proofs
open Go.RowKit Go.Ab
set_option maxRecDepth 100000
set_option maxHeartbeats 1000000
def Mk.itoaRen : Go.Shelf.Ren where
 f := fun x => match x with
  | 171 => 38
  | 243 => 60
  | 246 => 73
  | 283 => 80
  | 284 => 81
  | 285 => 82
  | 286 => 83
  | 129 => 88
  | 317 => 87
  | 318 => 89
  | 319 => 90
  | 320 => 91
  | 337 => 94
  | 338 => 95
  | n => n
 t := fun x => match x with
  | 3 => 3
  | 9 => 9
  | 2 => 2
  | 4 => 4
  | 171 => 112
  | 0 => 0
  | 53 => 113
  | 37 => 51
  | 5 => 5
  | 173 => 116
  | 212 => 126
  | 51 => 127
  | 20 => 20
  | 213 => 128
  | 46 => 120
  | 232 => 136
  | 233 => 137
  | n => n
 g := fun x => match x with
  | 17 => 5
  | 18 => 6
  | 19 => 7
  | n => n
theorem Mk.itoaLaid : LaysM.n171 Tryd.prog Mk.itoaRen where
 mixed := by kernel_rfl
 f129 := Tryd.func88.trans (congrArg some rfl)
 f171 := Tryd.func38.trans (congrArg some rfl)
 f243 := Tryd.func60.trans (congrArg some rfl)
 f246 := Tryd.func73.trans (congrArg some rfl)
 f283 := Tryd.func80.trans (congrArg some rfl)
 f284 := Tryd.func81.trans (congrArg some rfl)
 f285 := Tryd.func82.trans (congrArg some rfl)
 f286 := Tryd.func83.trans (congrArg some rfl)
 f317 := Tryd.func87.trans (congrArg some rfl)
 f318 := Tryd.func89.trans (congrArg some rfl)
 f319 := Tryd.func90.trans (congrArg some rfl)
 f320 := Tryd.func91.trans (congrArg some rfl)
 f337 := Tryd.func94.trans (congrArg some rfl)
 f338 := Tryd.func95.trans (congrArg some rfl)
 t0 := Tryd.underlying0
 a0 := fun _ => by kernel_rfl
 z0 := fun _ => by kernel_rfl
 v0 := fun _ => by kernel_rfl
 t2 := Tryd.underlying2
 a2 := fun _ => by kernel_rfl
 z2 := fun _ => by kernel_rfl
 v2 := fun _ => by kernel_rfl
 t3 := Tryd.underlying3
 a3 := fun _ => by kernel_rfl
 z3 := fun _ => by kernel_rfl
 v3 := fun _ => by kernel_rfl
 t4 := Tryd.underlying4
 a4 := fun _ => by kernel_rfl
 z4 := fun _ => by kernel_rfl
 v4 := fun _ => by kernel_rfl
 t5 := Tryd.underlying5
 a5 := fun _ => by kernel_rfl
 z5 := fun _ => by kernel_rfl
 v5 := fun _ => by kernel_rfl
 t9 := Tryd.underlying9
 a9 := fun _ => by kernel_rfl
 z9 := fun _ => by kernel_rfl
 v9 := fun _ => by kernel_rfl
 t20 := Tryd.underlying20
 a20 := fun _ => by kernel_rfl
 z20 := fun _ => by kernel_rfl
 v20 := fun _ => by kernel_rfl
 t37 := Tryd.underlying51
 a37 := fun _ => by kernel_rfl
 z37 := fun _ => by kernel_rfl
 v37 := fun _ => by kernel_rfl
 t46 := Tryd.underlying120
 a46 := fun _ => by kernel_rfl
 z46 := fun _ => by kernel_rfl
 v46 := fun _ => by kernel_rfl
 t51 := Tryd.underlying127
 a51 := fun _ => by kernel_rfl
 z51 := fun _ => by kernel_rfl
 v51 := fun _ => by kernel_rfl
 t53 := Tryd.underlying113
 a53 := fun _ => by kernel_rfl
 z53 := fun _ => by kernel_rfl
 v53 := fun _ => by kernel_rfl
 t171 := Tryd.underlying112
 a171 := fun _ => by kernel_rfl
 z171 := fun _ => by kernel_rfl
 v171 := fun _ => by kernel_rfl
 t173 := Tryd.underlying116
 a173 := fun _ => by kernel_rfl
 z173 := fun _ => by kernel_rfl
 v173 := fun _ => by kernel_rfl
 t212 := Tryd.underlying126
 a212 := fun _ => by kernel_rfl
 z212 := fun _ => by kernel_rfl
 v212 := fun _ => by kernel_rfl
 t213 := Tryd.underlying128
 a213 := fun _ => by kernel_rfl
 z213 := fun _ => by kernel_rfl
 t232 := Tryd.underlying136
 a232 := fun _ => by kernel_rfl
 z232 := fun _ => by kernel_rfl
 v232 := fun _ => by kernel_rfl
 t233 := Tryd.underlying137
 a233 := fun _ => by kernel_rfl
 z233 := fun _ => by kernel_rfl
 v233 := fun _ => by kernel_rfl
 g17 := by kernel_rfl
 g18 := by kernel_rfl
 g19 := by kernel_rfl
 i0 := by kernel_rfl
 i2 := by kernel_rfl
 i3 := by kernel_rfl
 i4 := by kernel_rfl
 i5 := by kernel_rfl
 i9 := by kernel_rfl
 i20 := by kernel_rfl
 i37 := by kernel_rfl
 i46 := by kernel_rfl
 i51 := by kernel_rfl
 i53 := by kernel_rfl
 i171 := by kernel_rfl
 i173 := by kernel_rfl
 i212 := by kernel_rfl
 i232 := by kernel_rfl
 i233 := by kernel_rfl
 m17 := by kernel_rfl
 m18 := by kernel_rfl
 m19 := by kernel_rfl
theorem grow_below {w w' : World} (os : Array Obj) {k : Nat} (h : Below k w w') (hk : k ≤ w.heap.size) : Below k w (Go.Sort.grow w' os) :=
 ⟨h.os, h.tape, h.output, by show w.heap.size ≤ (w'.heap ++ os).size; rw [Array.size_append]; exact Nat.le_trans h.size (Nat.le_add_right _ _), fun i hi => by
  show (w'.heap ++ os)[i]? = w.heap[i]?
  rw [Array.getElem?_append_left (Nat.lt_of_lt_of_le hi (Nat.le_trans hk h.size))]
  exact h.block i hi⟩
theorem drewN_below {w w' : World} {k : Nat} (h : Below k w w') (n : Nat) : Below k w (w'.drewN n) := ⟨h.os, h.tape, h.output, h.size, h.block⟩
theorem Mk.itoa_ok (n : Nat) (hn : n < 4611686018427387904) (w : World) (htab : Lib.TabIs Tryd.prog w "internal/strconv.uint64pow10" .u64 Lib.pow10Tab) :
  Calls Tryd.prog 38 #[.int .i64 n] w fun e w' => e = .returned (.string ⟨(Lib.decDigits n).toArray⟩) ∧ Below w.heap.size w w' := by
 refine (Any.strconv_Itoa Mk.itoaLaid (n : Int) (by omega) (by omega) w htab).mono ?_
 rintro e w' ⟨rfl, k, os, rfl⟩
 refine ⟨?_, grow_below os (drewN_below (Below.refl _ _) k) (Nat.le_refl _)⟩
 have : Lib.itoa (n : Int) = Lib.decDigits n := by
  unfold Lib.itoa
  rw [if_neg (by omega)]
  rfl
 rw [this]
def Mk.TextQ (w : World) (ds : List UInt8) : Ending → World → Prop := fun e w' => e = .returned (.string ⟨ds.toArray⟩) ∧ Below w.heap.size w w'
end Go.Proofs
end
section
namespace Go.Ab
structure ExtB (B : Nat) (G : Gh) (w : World) (G' : Gh) (w' : World) : Prop where
 N : G.N ≤ G'.N
 μ : ∀ b, b < G.N → G'.μ b = G.μ b
 ty : ∀ b, b < G.N → G'.ty b = G.ty b
 lim : ∀ b, G.lim b ≤ G'.lim b
 cell : ∀ b o, o < G.lim b → w'.cell? ⟨b, o, none⟩ = w.cell? ⟨b, o, none⟩
 os : w'.os = w.os
 tape : w'.tape = w.tape
 output : w'.output = w.output
 size : w.heap.size ≤ w'.heap.size
 old : ∀ i, i < B → G.owner i = none → w'.heap[i]? = w.heap[i]? ∧ G'.lim i = G.lim i ∧ G'.owner i = none
theorem Ext.toB {B : Nat} {G G' : Gh} {w w' : World} (h : Ext G w G' w') (hB : B ≤ w.heap.size) : ExtB B G w G' w' :=
 ⟨h.N, h.μ, h.ty, h.lim, h.cell, h.os, h.tape, h.output, h.size, fun i hi ho => h.old i (Nat.lt_of_lt_of_le hi hB) ho⟩
theorem ExtB.toExt {G G' : Gh} {w w' : World} (h : ExtB w.heap.size G w G' w') : Ext G w G' w' :=
 ⟨h.N, h.μ, h.ty, h.lim, h.cell, h.os, h.tape, h.output, h.size, h.old⟩
theorem ExtB.trans {B : Nat} {G G1 G2 : Gh} {w w1 w2 : World} (h : ExtB B G w G1 w1) (k : ExtB B G1 w1 G2 w2) : ExtB B G w G2 w2 where
 N := Nat.le_trans h.N k.N
 μ b hb := (k.μ b (Nat.lt_of_lt_of_le hb h.N)).trans (h.μ b hb)
 ty b hb := (k.ty b (Nat.lt_of_lt_of_le hb h.N)).trans (h.ty b hb)
 lim b := Nat.le_trans (h.lim b) (k.lim b)
 cell b o ho := (k.cell b o (Nat.lt_of_lt_of_le ho (h.lim b))).trans (h.cell b o ho)
 os := k.os.trans h.os
 tape := k.tape.trans h.tape
 output := k.output.trans h.output
 size := Nat.le_trans h.size k.size
 old i hi ho := by
  obtain ⟨a1, a2, a3⟩ := h.old i hi ho
  obtain ⟨b1, b2, b3⟩ := k.old i hi a3
  exact ⟨b1.trans a1, b2.trans a2, b3⟩
structure Near (a b : Nat) (w w' : World) : Prop where
 os : w'.os = w.os
 tape : w'.tape = w.tape
 output : w'.output = w.output
 size : w'.heap.size = w.heap.size
 heap : ∀ i, i ≠ a → i ≠ b → w'.heap[i]? = w.heap[i]?
theorem Near.refl (a b : Nat) (w : World) : Near a b w w := ⟨rfl, rfl, rfl, rfl, fun _ _ _ => rfl⟩
theorem Near.setCell {a b : Nat} {w w' : World} (h : Near a b w w') (p : Addr) (hp : p.block = a ∨ p.block = b) (v : Value) : Near a b w (w'.setCell p v) := by
 refine ⟨h.os, h.tape, h.output, by simp [World.setCell]; exact h.size, fun i h1 h2 => ?_⟩
 rw [← h.heap i h1 h2]
 show (w'.heap.modify p.block _)[i]? = _
 rw [Array.getElem?_modify, if_neg (by rintro rfl; rcases hp with hp | hp <;> contradiction)]
section
variable {gl : Nat → Option (List V)} {G : Gh} {w w' : World} {σ : Sto} {a b : Nat}
theorem Near.rel (h : Near a b w w') (la : G.lim a = 0) (lb : G.lim b = 0) {v : V} {c : Value} (hr : Rel G w v c) : Rel G w' v c := by
 have hcell : ∀ i o, o < G.lim i → w'.cell? ⟨i, o, none⟩ = w.cell? ⟨i, o, none⟩ := by
  intro i o ho
  simp only [World.cell?]
  rw [h.heap i (by rintro rfl; omega) (by rintro rfl; omega)]
 let G1 : Gh := { G with owner := fun _ => some (.res 0) }
 have e : Ext G1 w G1 w' := ⟨Nat.le_refl _, fun _ _ => rfl, fun _ _ => rfl, fun _ => Nat.le_refl _, hcell, h.os, h.tape, h.output, by rw [h.size]; exact Nat.le_refl _, fun i _ ho => by simp [G1] at ho⟩
 have := (rel_owner hr (fun _ => some (.res 0))).mono (G' := G1) e
 exact rel_owner this G.owner
theorem Near.sinv (h : Near a b w w') (la : G.lim a = 0) (lb : G.lim b = 0) (oa : G.owner a = none) (ob : G.owner b = none) (hS : SInv gl G w σ) : SInv gl G w' σ := by
 have hne : ∀ i p, G.owner i = some p → w'.heap[i]? = w.heap[i]? := fun i p hp => h.heap i (by rintro rfl; rw [oa] at hp; simp at hp) (by rintro rfl; rw [ob] at hp; simp at hp)
 have hown : ∀ (p : Place) (v : V) (c : Value), Own G w p v c → Own G w' p v c := by
  intro p v c hh
  unfold Own at *
  split at hh
  ·obtain ⟨h1, h2, h3, h4, cv, fr, h5, h6, h7⟩ := hh
   exact ⟨h1, h2, h3, h4, cv, fr, by rw [hne _ _ h3]; exact h5, h6, h7⟩
  ·exact hh
  ·trivial
 refine ⟨fun i hi => hS.wf i (by rw [h.size] at hi; exact hi), fun g cs hg => h.rel la lb (hS.glob g cs hg), hS.N, fun k hk => ?_, fun k cs hk => ?_, fun g cs hg => (by
  obtain ⟨k1, k2, cv, el, fr, k3, k4⟩ := hS.gsz g cs hg
  exact ⟨k1, k2, cv, el, fr, (h.heap g (by rintro rfl; omega) (by rintro rfl; omega)).trans k3, k4⟩)⟩
 ·obtain ⟨cv, fr, q1⟩ := hS.typed k hk
  obtain ⟨_, _, _, _, q3, _⟩ := hS.blk k σ[k] (List.getElem?_eq_getElem hk)
  exact ⟨cv, fr, by rw [hne _ _ q3]; exact q1⟩
 ·obtain ⟨cv, el, g1, g2, g3, g4, g5⟩ := hS.blk k cs hk
  exact ⟨cv, el, by rw [hne _ _ g3]; exact g1, g2, g3, g4, fun j c x hc hx => ⟨⟨h.rel la lb (g5 j c x hc hx).1.1, fun hf => hown _ _ _ ((g5 j c x hc hx).1.2 hf)⟩, (g5 j c x hc hx).2⟩⟩
theorem Near.extB {B : Nat} (h : Near a b w w') (la : G.lim a = 0) (lb : G.lim b = 0) (ha : B ≤ a) (hb : B ≤ b) : ExtB B G w G w' :=
 ⟨Nat.le_refl _, fun _ _ => rfl, fun _ _ => rfl, fun _ => Nat.le_refl _, fun i o ho => by
  simp only [World.cell?]
  rw [h.heap i (by rintro rfl; omega) (by rintro rfl; omega)], h.os, h.tape, h.output, by rw [h.size]; exact Nat.le_refl _, fun i hi ho => ⟨h.heap i (by omega) (by omega), rfl, ho⟩⟩
end
def Gh.bare (G : Gh) : Gh := { G with owner := fun i => match G.owner i with | some (.blk b) => some (.blk b) | some (.gc b o) => some (.gc b o) | _ => none }
section
variable {G : Gh} {w : World} {σ : Sto} {gl : Nat → Option (List V)}
theorem Gh.bare_none {i : Nat} (h : G.owner i = none) : G.bare.owner i = none := by simp [Gh.bare, h]
theorem Gh.bare_ext : Ext G w G.bare w :=
 ⟨Nat.le_refl _, fun _ _ => rfl, fun _ _ => rfl, fun _ => Nat.le_refl _, fun _ _ _ => rfl, rfl, rfl, rfl, Nat.le_refl _, fun _ _ h => ⟨rfl, rfl, Gh.bare_none h⟩⟩
theorem Gh.bare_clean (n : Nat) : Clean G.bare n := by
 intro i p hp
 simp only [Gh.bare] at hp
 split at hp
 ·simp at hp; exact .inl ⟨_, hp.symm⟩
 ·simp at hp; exact .inr (.inl ⟨_, _, hp.symm⟩)
 ·simp at hp
theorem SInv.bare (h : SInv gl G w σ) : SInv gl G.bare w σ := by
 refine ⟨fun i hi => ⟨(h.wf i hi).1, Gh.bare_none (h.wf i hi).2⟩, fun g cs hg => (h.glob g cs hg).mono Gh.bare_ext, h.N, h.typed, fun b cs hbc => ?_, h.gsz.mono Gh.bare_ext⟩
 obtain ⟨cvv, el, g1, g2, g3, g4, g5⟩ := h.blk b cs hbc
 refine ⟨cvv, el, g1, g2, by show G.bare.owner (G.μ b) = _; simp [Gh.bare, g3], g4, fun j cc x hc hx => ?_⟩
 obtain ⟨e1, e2⟩ := g5 j cc x hc hx
 exact ⟨e1.move Gh.bare_ext fun _ i hi => ⟨rfl, rfl, by simp [Gh.bare, hi]⟩, e2⟩
end
def slv (v : V) : Bool := match v with | .slice .. | .nils => true | _ => false
section
theorem end_two {G : Gh} {w : World} {v1 v2 : V} {c1 c2 : Value} (h1 : Rel G w v1 c1) (h2 : Rel G w v2 c2) : EndRel G w (.ret [(v1, false), (v2, false)]) (.returned (.tuple #[c1, c2])) := by
 refine ⟨[c1, c2], rfl, by simp, fun i c x hc hx => ?_⟩
 match i with
 | 0 => simp at hc hx; subst hc; subst hx; exact ⟨h1, fun ho => by simp at ho⟩
 | 1 => simp at hc hx; subst hc; subst hx; exact ⟨h2, fun ho => by simp at ho⟩
 | i + 2 => simp at hc
end
end Go.Ab
end
section
namespace Go.Ab
structure Own1 (n0 : Nat) (G : Gh) (i : Nat) : Prop where
 ge : n0 ≤ i
 lim : G.lim i = 0
 own : G.owner i = none
structure Mine (n0 : Nat) (G : Gh) (w w' : World) : Prop where
 os : w'.os = w.os
 tape : w'.tape = w.tape
 output : w'.output = w.output
 size : w.heap.size ≤ w'.heap.size
 heap : ∀ i, i < w.heap.size → ¬ Own1 n0 G i → w'.heap[i]? = w.heap[i]?
section
variable {n0 : Nat} {G : Gh} {w w' w'' : World} {gl : Nat → Option (List V)} {σ : Sto}
theorem Mine.refl (n0 : Nat) (G : Gh) (w : World) : Mine n0 G w w := ⟨rfl, rfl, rfl, Nat.le_refl _, fun _ _ _ => rfl⟩
theorem Mine.trans (h : Mine n0 G w w') (k : Mine n0 G w' w'') : Mine n0 G w w'' :=
 ⟨k.os.trans h.os, k.tape.trans h.tape, k.output.trans h.output, Nat.le_trans h.size k.size, fun i hi hn => (k.heap i (Nat.lt_of_lt_of_le hi h.size) hn).trans (h.heap i hi hn)⟩
theorem Mine.setCell (h : Mine n0 G w w') (p : Addr) (hp : p.block < w.heap.size → Own1 n0 G p.block) (v : Value) : Mine n0 G w (w'.setCell p v) := by
 refine ⟨h.os, h.tape, h.output, by simp [World.setCell]; exact h.size, fun i hi hn => ?_⟩
 rw [← h.heap i hi hn]
 show (w'.heap.modify p.block _)[i]? = _
 rw [Array.getElem?_modify, if_neg (by rintro rfl; exact hn (hp hi))]
theorem Mine.alloc (h : Mine n0 G w w') (o : Obj) : Mine n0 G w (w'.alloc o) :=
 ⟨h.os, h.tape, h.output, by show w.heap.size ≤ (w'.heap.push o).size; rw [Array.size_push]; exact Nat.le_succ_of_le h.size, fun i hi hn => by rw [heap_alloc_lt (Nat.lt_of_lt_of_le hi h.size)]; exact h.heap i hi hn⟩
theorem Mine.of_below (h : RowKit.Below w.heap.size w w') : Mine n0 G w w' := ⟨h.os, h.tape, h.output, h.size, fun i hi _ => h.block i hi⟩
theorem Mine.wf (h : Mine n0 G w w') (hw : WF G w) : WF G w' := fun i hi => hw i (Nat.le_trans h.size hi)
theorem Mine.rel (h : Mine n0 G w w') (hw : WF G w) {v : V} {c : Value} (hr : Rel G w v c) : Rel G w' v c := by
 have hcell : ∀ i o, o < G.lim i → w'.cell? ⟨i, o, none⟩ = w.cell? ⟨i, o, none⟩ := by
  intro i o ho
  simp only [World.cell?]
  rw [h.heap i (lim_lt hw ho) (fun hm => by have := hm.lim; omega)]
 let G1 : Gh := { G with owner := fun _ => some (.res 0) }
 have e : Ext G1 w G1 w' := ⟨Nat.le_refl _, fun _ _ => rfl, fun _ _ => rfl, fun _ => Nat.le_refl _, hcell, h.os, h.tape, h.output, h.size, fun i _ ho => by simp [G1] at ho⟩
 exact rel_owner ((rel_owner hr (fun _ => some (.res 0))).mono (G' := G1) e) G.owner
theorem Mine.own (h : Mine n0 G w w') (hw : WF G w) {p : Place} {v : V} {c : Value} (ho : Own G w p v c) : Own G w' p v c :=
 ho.move fun i hi => ⟨h.heap i (owner_lt hw hi) (fun hm => by rw [hm.own] at hi; simp at hi), rfl, hi⟩
theorem Mine.sinv (h : Mine n0 G w w') (hS : SInv gl G w σ) : SInv gl G w' σ := by
 have hne : ∀ i p, G.owner i = some p → w'.heap[i]? = w.heap[i]? := fun i p hp => h.heap i (owner_lt hS.wf hp) (fun hm => by rw [hm.own] at hp; simp at hp)
 refine ⟨h.wf hS.wf, fun g cs hg => h.rel hS.wf (hS.glob g cs hg), hS.N, fun k hk => ?_, fun k cs hk => ?_, fun g cs hg => (by
  obtain ⟨k1, k2, cv, el, fr, k3, k4⟩ := hS.gsz g cs hg
  exact ⟨k1, k2, cv, el, fr, (h.heap g (Array.getElem?_eq_some_iff.1 k3).1 (fun hm => by have := hm.lim; omega)).trans k3, k4⟩)⟩
 ·obtain ⟨cv, fr, q1⟩ := hS.typed k hk
  obtain ⟨_, _, _, _, q3, _⟩ := hS.blk k σ[k] (List.getElem?_eq_getElem hk)
  exact ⟨cv, fr, by rw [hne _ _ q3]; exact q1⟩
 ·obtain ⟨cv, el, g1, g2, g3, g4, g5⟩ := hS.blk k cs hk
  exact ⟨cv, el, by rw [hne _ _ g3]; exact g1, g2, g3, g4, fun j c x hc hx => ⟨⟨h.rel hS.wf (g5 j c x hc hx).1.1, fun hf => h.own hS.wf ((g5 j c x hc hx).1.2 hf)⟩, (g5 j c x hc hx).2⟩⟩
theorem Mine.extB (h : Mine n0 G w w') (hw : WF G w) (hn : n0 ≤ w.heap.size) : ExtB n0 G w G w' :=
 ⟨Nat.le_refl _, fun _ _ => rfl, fun _ _ => rfl, fun _ => Nat.le_refl _, fun i o ho => by
  simp only [World.cell?]
  rw [h.heap i (lim_lt hw ho) (fun hm => by have := hm.lim; omega)], h.os, h.tape, h.output, h.size,
  fun i hi ho => ⟨h.heap i (by omega) (fun hm => by have := hm.ge; omega), rfl, ho⟩⟩
theorem Own1.ext {G' : Gh} {i : Nat} (h : Own1 n0 G i) (e : Ext G w G' w') (hi : i < w.heap.size) : Own1 n0 G' i ∧ w'.heap[i]? = w.heap[i]? := by
 obtain ⟨a1, a2, a3⟩ := e.old i hi h.own
 exact ⟨⟨h.ge, by rw [a2]; exact h.lim, a3⟩, a1⟩
theorem Own1.bare {i : Nat} (h : Own1 n0 G i) : Own1 n0 G.bare i := ⟨h.ge, h.lim, Gh.bare_none h.own⟩
theorem Own1.new {i : Nat} (hw : WF G w) (hn : n0 ≤ w.heap.size) (hi : w.heap.size ≤ i) : Own1 n0 G i := ⟨Nat.le_trans hn hi, (hw i hi).1, (hw i hi).2⟩
def Gh.settle (G : Gh) (r n : Nat) : Gh := { G with lim := fun i => if i = r then n else G.lim i }
theorem Gh.settle_ext {r n : Nat} (h : Own1 n0 G r) : ExtB n0 G w (G.settle r n) w :=
 ⟨Nat.le_refl _, fun _ _ => rfl, fun _ _ => rfl, fun i => (by
  show G.lim i ≤ if i = r then n else G.lim i
  split
  ·rename_i e; subst e; have := h.lim; omega
  ·exact Nat.le_refl _), fun _ _ _ => rfl, rfl, rfl, rfl, Nat.le_refl _,
  fun i hi ho => ⟨rfl, (by
   show (if i = r then n else G.lim i) = G.lim i
   rw [if_neg (by rintro rfl; have := h.ge; omega)]), ho⟩⟩
theorem Gh.settle_rel {r n : Nat} (h : G.lim r = 0) {v : V} {c : Value} (hr : Rel G w v c) : Rel (G.settle r n) w v c := by
 let G1 : Gh := { G with owner := fun _ => some (.res 0) }
 let G2 : Gh := { G.settle r n with owner := fun _ => some (.res 0) }
 have e : Ext G1 w G2 w := ⟨Nat.le_refl _, fun _ _ => rfl, fun _ _ => rfl, fun i => by
  show G.lim i ≤ if i = r then n else G.lim i
  split
  ·rename_i e; subst e; omega
  ·exact Nat.le_refl _, fun _ _ _ => rfl, rfl, rfl, rfl, Nat.le_refl _, fun i _ ho => by simp [G1] at ho⟩
 exact rel_owner ((rel_owner hr (fun _ => some (.res 0))).mono (G' := G2) e) G.owner
theorem Gh.settle_sinv {r n : Nat} (h : Own1 n0 G r) (hr : r < w.heap.size) (hS : SInv gl G w σ) : SInv gl (G.settle r n) w σ := by
 refine ⟨fun i hi => ⟨?_, (hS.wf i hi).2⟩, fun g cs hg => Gh.settle_rel h.lim (hS.glob g cs hg), hS.N, hS.typed, fun k cs hk => ?_, fun g cs hg => (by
  obtain ⟨k1, k2, cv, el, fr, k3, k4⟩ := hS.gsz g cs hg
  refine ⟨k1, ?_, cv, el, fr, k3, k4⟩
  show 0 < if g = r then n else G.lim g
  rw [if_neg (by rintro rfl; have := h.lim; omega)]
  exact k2)⟩
 ·show (if i = r then n else G.lim i) = 0
  rw [if_neg (by omega)]
  exact (hS.wf i hi).1
 ·obtain ⟨cv, el, g1, g2, g3, g4, g5⟩ := hS.blk k cs hk
  refine ⟨cv, el, g1, g2, g3, ?_, fun j c x hc hx => ⟨⟨Gh.settle_rel h.lim (g5 j c x hc hx).1.1, fun hf => ?_⟩, (g5 j c x hc hx).2⟩⟩
  ·show (if G.μ k = r then n else G.lim (G.μ k)) = 0
   rw [if_neg (by intro e; rw [e, h.own] at g3; simp at g3)]
   exact g4
  ·refine Own.move ((g5 j c x hc hx).1.2 hf) fun i hi => ⟨rfl, ?_, hi⟩
   show (if i = r then n else G.lim i) = G.lim i
   rw [if_neg (by rintro rfl; rw [h.own] at hi; simp at hi)]
end
end Go.Ab
end
section
namespace Go.Ab
open Go.RowKit
theorem below_sinv {gl : Nat → Option (List V)} {G : Gh} {w w' : World} {σ : Sto} (h : SInv gl G w σ) (hB : RowKit.Below w.heap.size w w') : Ext G w G w' ∧ SInv gl G w' σ := by
 have e : Ext G w G w' := ⟨Nat.le_refl _, fun _ _ => rfl, fun _ _ => rfl, fun _ => Nat.le_refl _, fun b o ho => hB.cell (lim_lt h.wf ho), hB.os, hB.tape, hB.output, hB.size, fun i hi ho => ⟨hB.block i hi, rfl, ho⟩⟩
 refine ⟨e, fun i hi => h.wf i (Nat.le_trans hB.size hi), fun g cs hg => (h.glob g cs hg).mono e, h.N, fun b hb => ?_, fun b cs hb => ?_, h.gsz.mono e⟩
 ·obtain ⟨cv, fr, q1⟩ := h.typed b hb
  obtain ⟨_, _, _, _, q3, _⟩ := h.blk b σ[b] (List.getElem?_eq_getElem hb)
  exact ⟨cv, fr, by rw [hB.block _ (owner_lt h.wf q3)]; exact q1⟩
 ·obtain ⟨cv, el, g1, g2, g3, g4, g5⟩ := h.blk b cs hb
  refine ⟨cv, el, by rw [hB.block _ (owner_lt h.wf g3)]; exact g1, g2, g3, g4, fun j c x hc hx => ?_⟩
  obtain ⟨e1, e2⟩ := g5 j c x hc hx
  exact ⟨e1.move e fun _ i hi => ⟨hB.block i (owner_lt h.wf hi), rfl, hi⟩, e2⟩
end Go.Ab
end
