/- strings.Builder in this seat: String of a builder that holds nothing, walked. -/
import Derived.Test.YtblgboigcpbidaaDoorAbFp1
import Derived.Test.YtblgboigcpbidaaDoorAbOps
import Derived.Test.YtblgboigcpbidaaDoorAbBl
import Derived.Deep.LoopGhost
import Derived.OwnWalk
import Derived.RegionTactic
import Derived.ChangeAlike
import Derived.Deep.RegionLaw
import Derived.Maps.AppendAt
import Derived.Test.YtblgboigcpbidaaDoorAbMk1
import Derived.Test.YtblgboigcpbidaaDoorProg
import Derived.ChangeShapes
import Derived.ChangeArms
import Derived.Carry
import Derived.ProofKit
import Derived.Lib.LaidTab
import Derived.WalkKit
import Derived.Lib.Builder
import Derived.Lib.UnsafeStr
import Derived.Lib.Walk
import Derived.Laws.Externs
import Derived.Lib.Slices
import Derived.Test.YtblgboigcpbidaaDoorAbBe
set_option linter.unusedSimpArgs false
set_option linter.unusedVariables false
set_option linter.deprecated false
section
namespace Go.Ab
open Go.RowKit Go.Proofs
set_option maxRecDepth 100000
set_option maxHeartbeats 2000000
def Mk.tokOf (σ : Sto) (b : Nat) : Option ByteArray := (σ[b]?).bind fun cs => (cs[2]?).bind fun c => c.1.asStr
def Mk.caughtF (v : V) (σ : Sto) : Option Res := match v with
 | .iface t x => if t = 32 then some (.ret [(.slice 15 48 [], false), (.iface 32 x, false)], σ) else none
 | _ => none
theorem Mk.caughtF_inv {v : V} {σ : Sto} {r : Res} (h : Mk.caughtF v σ = some r) : ∃ x, v = .iface 32 x ∧ r = (.ret [(.slice 15 48 [], false), (.iface 32 x, false)], σ) := by
 unfold Mk.caughtF at h
 split at h
 ·split at h
  ·rename_i t x ht; subst ht; exact ⟨x, rfl, (Option.some.inj h).symm⟩
  ·simp at h
 ·simp at h
def Mk.asDecl (v : V) : Option (List V) := match v with
 | .agg [.int .i64 k, .str n, p, .int .i64 k1, .int .i64 m1, .str n1, l1, a1, .int .i64 k2, .int .i64 m2, .str n2, l2, a2, .int .i64 ar, c] =>
  if (slv p && slv l1 && slv a1 && slv l2 && slv a2 && slv c) = true then some [.int .i64 k, .str n, p, .int .i64 k1, .int .i64 m1, .str n1, l1, a1, .int .i64 k2, .int .i64 m2, .str n2, l2, a2, .int .i64 ar, c] else none
 | _ => none
def Mk.floop (call : CallF) (t : TypeId) (b : Nat) : Nat → List (List V) → Sto → Option Res
 | 0, _, _ => none
 | n + 1, es, σ => (Mk.tokOf σ b).bind fun tok => if tok = ByteArray.mk #[] then some (.ret [(.slice 15 48 es, false), (.nilIface, false)], σ) else
  match call 9 [(.ptr t b 0, false)] σ with
  | some (.ret [(d, _)], σ') => (Mk.asDecl d).bind fun cs => if es.length < 1000000 then Mk.floop call t b n (es ++ [cs]) σ' else none
  | some (.pan v, σ') => Mk.caughtF v σ'
  | _ => none
def Mk.fparse1 (call : CallF) (n : Nat) : Option Res → Option Res
 | some (.ret [(.ptr t b o, _)], σ) => if o = 0 then Mk.floop call t b n [] σ else none
 | _ => none
def Mk.fparseS (call : CallF) (args : List Cell) (σ : Sto) : Option Res :=
 match args with
 | [(.str s, _)] =>
  if (s.size : Int) > 200000 then some (.ret [(.slice 15 48 [], false), (.iface 32 (.ptr 34 σ.length 0), false)], σ ++ [[(.int .i64 2, false), (.int .i64 0, false)]])
  else Mk.fparse1 call (s.size + 2) (call 8 [(.str s, false)] σ)
 | _ => none
inductive Mk.ShpD : List Value → Prop
 | mk (k : Int) (n : ByteArray) (p : Option Addr) (pl pc : Nat) (k1 m1 : Int) (n1 : ByteArray) (l1 : Option Addr) (ll1 lc1 : Nat) (a1 : Option Addr) (al1 ac1 : Nat)
   (k2 m2 : Int) (n2 : ByteArray) (l2 : Option Addr) (ll2 lc2 : Nat) (a2 : Option Addr) (al2 ac2 : Nat) (ar : Int) (c : Option Addr) (cl cc : Nat) :
   Mk.ShpD [.int .i64 k, .string n, .slice p pl pc, .int .i64 k1, .int .i64 m1, .string n1, .slice l1 ll1 lc1, .slice a1 al1 ac1, .int .i64 k2, .int .i64 m2, .string n2, .slice l2 ll2 lc2, .slice a2 al2 ac2, .int .i64 ar, .slice c cl cc]
theorem Mk.declInfo : (Tryd.prog.info? 48).map (fun i => (i.zero, i.size, i.bytes)) = some (some (.agg #[.int .i64 0, .string ⟨#[]⟩, .slice none 0 0, .int .i64 0, .int .i64 0, .string ⟨#[]⟩, .slice none 0 0, .slice none 0 0, .int .i64 0, .int .i64 0, .string ⟨#[]⟩, .slice none 0 0, .slice none 0 0, .int .i64 0, .slice none 0 0]), 15, 240) := by kernel_rfl
structure Mk.FpL (B : Nat) (dsv : Value) (n : Nat) (xs : List Value) (w : World) : Prop where
 has : Mk.HasF B dsv .nilIface w
 own : w.ownsRow (B + 2) 48 15 dsv n xs
 lt : B + 2 ≤ w.heap.size
structure Mk.Grew (B : Nat) (dsv dsv' : Value) (w w' : World) : Prop where
 os : w'.os = w.os
 tape : w'.tape = w.tape
 output : w'.output = w.output
 size : w.heap.size ≤ w'.heap.size
 heap : ∀ i, i < w.heap.size → i ≠ B → dsv.ownBlock ≠ some i → w'.heap[i]? = w.heap[i]?
 at_ : dsv'.ownBlock = dsv.ownBlock ∨ ∃ g, dsv'.ownBlock = some g ∧ w.heap.size ≤ g
def Mk.FpC (B : Nat) (dsv : Value) (n : Nat) (xs : List Value) (k : Nat) (IR : Nat → Value → Nat → List Value → World → Prop) (Q : Ending → World → Prop) (e : Ending) (w2 : World) : Prop :=
 (∃ x, Mk.ShpD x ∧ e = .returned (.agg x.toArray) ∧ Mk.FpL B dsv n xs w2 ∧ n < 1000000 ∧ ∃ k', k' < k ∧ Hid (∀ dsv' w', Mk.FpL B dsv' (n + 1) (xs ++ x) w' → Mk.Grew B dsv dsv' w2 w' → IR k' dsv' (n + 1) (xs ++ x) w')) ∨
 (∃ v, e = .panicked [{ v := .iface 32 v, recovered := false }] ∧ Mk.HasF B dsv .nilIface w2 ∧ Hid (∀ w', Near B (B + 1) w2 w' → Q (.returned (.tuple #[.slice none 0 0, .iface 32 v])) w'))
structure Mk.FpH (B : Nat) (q : Addr) (dsv : Value) (n : Nat) (xs : List Value) (k : Nat) (IR : Nat → Value → Nat → List Value → World → Prop) (Q : Ending → World → Prop) (w : World) (tok : ByteArray) : Prop where
 loop : Mk.FpL B dsv n xs w
 cell : w.cell? ⟨q.block, q.off + 2, none⟩ = some (.string tok)
 fin : tok = ByteArray.mk #[] → ∀ w', Near B (B + 1) w w' → Q (.returned (.tuple #[dsv, .nilIface])) w'
 next : tok ≠ ByteArray.mk #[] → Calls Tryd.prog 9 #[.pointer (some q)] w.drew (Mk.FpC B dsv n xs k IR Q)
theorem Mk.new_cells (w : World) (cs : List Value) (t : TypeId) : ∀ (j : Nat) (u : Value), cs[j]? = some u → (w.alloc (.cells cs.toArray t)).cell? ((⟨w.heap.size, 0, none⟩ : Addr).add j) = some u := by
 intro j u hj
 rw [Addr.add_lit, cell_new rfl, Nat.zero_add, ← hj]
 simp
theorem Mk.ShpD.one {x : List Value} (h : Mk.ShpD x) : ∀ u ∈ x, u.oneCell' = true := by
 cases h
 intro u hu
 simp only [List.mem_cons, List.not_mem_nil, or_false] at hu
 rcases hu with rfl | rfl | rfl | rfl | rfl | rfl | rfl | rfl | rfl | rfl | rfl | rfl | rfl | rfl | rfl <;> rfl
theorem Mk.HasF.ahead {B : Nat} {x y : Value} {w : World} (h : Mk.HasF B x y w) : ∀ o, (w.alloc o).cell? ⟨B, 0, none⟩ = some x := fun o => by
 rw [cell_old (Array.getElem?_eq_some_iff.1 h.l).1]
 exact h.c0.1
theorem Mk.own_shape {w : World} {base : Nat} {e : TypeId} {size : Nat} {v : Value} {n : Nat} {xs : List Value} (h : w.ownsRow base e size v n xs) : ∃ p l c, v = .slice p l c := by
 rcases h.2 with ⟨h, _⟩ | ⟨g, cap, cur, h, _⟩
 ·exact ⟨_, _, _, h⟩
 ·exact ⟨_, _, _, h⟩
theorem Mk.HasF.grow {B : Nat} {dsv y : Value} {n : Nat} {xs : List Value} {w2 w' : World} {o : Obj} (h : Mk.HasF B dsv y w2) (hown : w2.ownsRow (B + 2) 48 15 dsv n xs) (hg : (w2.alloc o).grownBy w' dsv.ownBlock) : Mk.HasF B dsv y w' := by
 have l1 := (Array.getElem?_eq_some_iff.1 h.l).1
 have l2 := (Array.getElem?_eq_some_iff.1 h.e).1
 have hne : ∀ k, dsv.ownBlock = some k → B + 2 ≤ k := fun k hk => (hown.lt k hk).1
 exact ⟨(hg.block B (by simp; omega) (fun e => by have := hne B e.symm; omega)).trans ((heap_alloc_lt l1).trans h.l), (hg.block (B + 1) (by simp; omega) (fun e => by have := hne (B + 1) e.symm; omega)).trans ((heap_alloc_lt l2).trans h.e)⟩
theorem Mk.FpL.next {B : Nat} {dsv dsv' : Value} {n : Nat} {xs x : List Value} {w2 w' : World} {o : Obj} (hL : Mk.FpL B dsv n xs w2) (ho : w'.ownsRow (B + 2) 48 15 dsv' (n + 1) (xs ++ x)) (hg : (w2.alloc o).grownBy w' dsv.ownBlock) (hat : dsv'.ownBlock = dsv.ownBlock ∨ dsv'.ownBlock = some (w2.alloc o).heap.size) :
  Mk.FpL B dsv' (n + 1) (xs ++ x) (w'.setCell ⟨B, 0, none⟩ dsv') ∧ Mk.Grew B dsv dsv' w2 (w'.setCell ⟨B, 0, none⟩ dsv') := by
 have hh : ∀ i, i ≠ B → (w'.setCell ⟨B, 0, none⟩ dsv').heap[i]? = w'.heap[i]? := fun i hi => by
  show (w'.heap.modify B _)[i]? = _
  rw [Array.getElem?_modify, if_neg (fun e => hi e.symm)]
 have hsz : (w'.setCell ⟨B, 0, none⟩ dsv').heap.size = w'.heap.size := by simp [World.setCell]
 have h1 := hg.size
 have h2 := hL.lt
 simp at h1
 refine ⟨⟨(Mk.HasF.grow hL.has hL.own hg).setL, ⟨ho.1, ?_⟩, by omega⟩, ⟨hg.os, hg.tape, hg.output, by omega, fun i hi hB hne => ?_, hat.elim .inl fun h => .inr ⟨_, h, by simp⟩⟩⟩
 ·rcases ho.2 with h | ⟨g, cap, cur, q1, q2, q3, q4⟩
  ·exact .inl h
  ·exact .inr ⟨g, cap, cur, q1, q2, (hh g (by omega)).trans q3, q4⟩
 ·rw [hh i hB, hg.block i (by simp; omega) (fun e => hne e.symm), heap_alloc_lt hi]
theorem step_append_own {P : Program} {ops : Array Oper} {o : Oper} {a : Act} {w : World} {K : Act → World → Prop} {Q : Exit → Act → World → Prop} {E : Prop} (hgd : o.guard = none) (s x : Operand) (t : TypeId)
  (ho : o.op = .call { callee := .builtin .append, args := #[s, x], argTypes := #[t, t] })
  (base : Nat) (e : TypeId) (i : TypeInfo) (z : Value) (size bytes : Nat) (ht : P.underlying t = some (.slice e)) (hi : P.info? e = some i) (hz : i.zero = some z)
  (hsize : i.size = size) (hby : i.bytes = bytes) (hzs : z.cells.size = size) (hsz : 0 < size)
  (v : Value) (n : Nat) (xs : List Value) (hs : a.eval s = v) (hown : w.ownsRow base e size v n xs)
  (ad : Addr) (m c : Nat) (news : List Value) (hx : a.eval x = .slice (some ad) m c) (hl : news.length = m * size) (hnews : ∀ j u, news[j]? = some u → w.cell? (ad.add j) = some u) (h1 : ∀ u ∈ news, u.oneCell' = true)
  (h63 : n + m ≤ maxLen) (hbytes : (n + m) * bytes ≤ 140737488355328) (hbase : base ≤ w.heap.size)
  (h : ∀ v' w', w'.ownsRow base e size v' (n + m) (xs ++ news) → w.grownBy w' v.ownBlock → (v' = .slice none 0 0 ↔ v = .slice none 0 0 ∧ m = 0) → (v'.ownBlock = v.ownBlock ∨ v'.ownBlock = some w.heap.size) → K (a.put o.dst v') w') :
  if Region.wanted o (yielded ops a.tmps) = true then Oper.wp P o a w K Q else E := by
 have hw : Region.wanted o (yielded ops a.tmps) = true := by simp [Region.wanted, hgd]
 rw [if_pos hw]
 obtain ⟨v', w', hr, h2, h3, h4, h5⟩ := run_append_own_at (P := P) w base t o.type e i z size bytes ht hi hz hsize hby hzs hsz v n xs hown ad m c news hl hnews h1 h63 hbytes hbase
 unfold Oper.wp execOp
 simp only [ho, resolve, invoke, builtin, Sem.run_bind, Sem.run_pure, Result.andThen_ok, List.map_toArray, List.map_cons, List.map_nil, hs, hx, hr]
 exact h v' w' h2 h3 h4 h5
theorem Mk.fpan {B : Nat} {dsv v : Value} {w2 : World} {Q : Ending → World → Prop} {tmps : Array Value} (hh : Mk.HasF B dsv .nilIface w2)
  (hq : ∀ w', Near B (B + 1) w2 w' → Q (.returned (.tuple #[.slice none 0 0, .iface 32 v])) w')
  (h2 : tmps[2]? = some (.pointer (some ⟨B, 0, none⟩))) (h3 : tmps[3]? = some (.pointer (some ⟨B + 1, 0, none⟩))) :
  bodyPostD Tryd.prog Tryd.f4 Q (.panic [{ v := .iface 32 v, recovered := false }]) { tmps := tmps, defers := [{ target := .fn (.func 7) #[], args := #[.pointer (some ⟨B + 1, 0, none⟩)] },
   { target := .fn (.func 6) #[.pointer (some ⟨B + 1, 0, none⟩), .pointer (some ⟨B, 0, none⟩)], args := #[] }] } w2 := by
 obtain ⟨_, _, c0, z0⟩ := hh.c0
 have hw : (w2.setCell ⟨B + 1, 0, none⟩ (.iface 32 v)).cell? ⟨B + 1, 0, none⟩ = some (.iface 32 v) := World.cell?_setCell_same' _ _ _ (by simp [c0])
 have hh1 := hh.setE (v := .iface 32 v)
 have hh2 := hh1.setL (v := .slice none 0 0)
 simp [bodyPostD, Leaves, settle, go_sem]
 refine ⟨7, _, ⟨rfl, rfl⟩, (Mk.catch_pan _ v w2 .nilIface c0 z0).mono ?_⟩
 rintro e u w5 ⟨rfl, rfl, rfl⟩
 simp
 refine ⟨6, _, ⟨rfl, rfl⟩, (Mk.fclos_err _ _ _ _ v _ 23 hw hh1.l rfl).mono ?_⟩
 rintro e u w5 ⟨rfl, rfl, rfl⟩
 have hn := ((Near.refl B (B + 1) w2).setCell ⟨B + 1, 0, none⟩ (.inr rfl) (.iface 32 v)).setCell ⟨B, 0, none⟩ (.inl rfl) (.slice none 0 0)
 have := hq _ hn
 generalize (w2.setCell ⟨B + 1, 0, none⟩ (.iface 32 v)).setCell ⟨B, 0, none⟩ (.slice none 0 0) = w6 at *
 obtain ⟨k0, _, k5, _⟩ := hh2.c0
 simp [Leaves, settle, results, Tryd.results4, go_sem, k0, k5, h2, h3]
 exact this
theorem Mk.fparse_short (s : ByteArray) (w : World) (hb : ¬ (s.size : Int) > 200000) (Q : Ending → World → Prop) (IR : Nat → Nat → Value → Nat → List Value → World → Prop) (k0 : Nat)
  (hnew : Calls Tryd.prog 8 #[.string s] ((w.alloc (.cells #[.slice none 0 0] 23)).alloc (.cells #[.nilIface] 25)) (fun e w3 => ∃ qb, e = .returned (.pointer (some ⟨qb, 0, none⟩)) ∧ IR qb k0 (.slice none 0 0) 0 [] w3))
  (hIR : ∀ qb k dsv n xs w', IR qb k dsv n xs w' → ∃ tok, Mk.FpH w.heap.size ⟨qb, 0, none⟩ dsv n xs k (IR qb) Q w' tok) :
  Calls Tryd.prog 4 #[.string s] w Q := by
 have hmf : ∀ (fn : Fn) (first cap : Array Value) (w : World), (Instr.makeFunc fn first cap).run Tryd.prog w = .ok (.func fn first cap) w := fun _ _ _ _ => rfl
 obtain ⟨i0, hi, hz0, hz1, hz2⟩ := info_parts Mk.declInfo
 have HI : Hid (∀ qb k dsv n xs w', IR qb k dsv n xs w' → ∃ tok, Mk.FpH w.heap.size ⟨qb, 0, none⟩ dsv n xs k (IR qb) Q w' tok) := hIR
 clear hIR
 go_enter_defers Tryd.func4, Tryd.ntmps4
 go_wp2_with (go_at_call 8; refine hnew.mono ?_; rintro e w3 ⟨qb, rfl, h3⟩; clear hnew)
 go_loopg [] k0 (fun k wr => ∃ dsv n xs, IR qb k dsv n xs wr)
 case atStart => exact ⟨_, _, _, h3⟩
 case round =>
  obtain ⟨dsv, n, xs, hk⟩ := hrel
  obtain ⟨tok, hH⟩ := HI.out _ _ _ _ _ _ hk
  clear h3 hk
  have ht := hH.cell
  simp only [Nat.zero_add] at ht
  obtain ⟨c1, z1, c2, z2⟩ := hH.loop.has.c0
  obtain ⟨dp, dl, dc, rfl⟩ : ∃ p l c, dsv = .slice p l c := by
   rcases hH.loop.own.2 with ⟨h, _⟩ | ⟨g, cap, cur, h, _⟩
   ·exact ⟨_, _, _, h⟩
   ·exact ⟨_, _, _, h⟩
  by_cases h0 : tok = ByteArray.mk #[]
  ·subst h0
   have HF : Hid (Mk.HasF w.heap.size (.slice dp dl dc) .nilIface wr ∧ ∀ w', Near w.heap.size (w.heap.size + 1) wr w' → Q (.returned (.tuple #[.slice dp dl dc, .nilIface])) w') := ⟨hH.loop.has, hH.fin rfl⟩
   clear hH
   go_wp2_with fail
   have hh2 := (HF.out.1.setL (v := .slice dp dl dc)).setE (v := .nilIface)
   have hn := ((Near.refl w.heap.size (w.heap.size + 1) wr).setCell ⟨w.heap.size, 0, none⟩ (.inl rfl) (.slice dp dl dc)).setCell ⟨w.heap.size + 1, 0, none⟩ (.inr rfl) .nilIface
   have hq := HF.out.2 _ hn
   generalize (wr.setCell ⟨w.heap.size, 0, none⟩ (.slice dp dl dc)).setCell ⟨w.heap.size + 1, 0, none⟩ .nilIface = w6 at *
   obtain ⟨k0', j0, k5, j5⟩ := hh2.c0
   simp [bodyPostD, Leaves, settle, go_sem]
   refine ⟨7, _, ⟨rfl, rfl⟩, (Mk.catch_idle _ _).mono ?_⟩
   rintro e u w7 ⟨rfl, rfl, rfl⟩
   simp
   refine ⟨6, _, ⟨rfl, rfl⟩, (Mk.fclos_nil _ _ _ _ k5).mono ?_⟩
   rintro e u w7 ⟨rfl, rfl, rfl⟩
   simp [Leaves, settle, results, Tryd.results4, go_sem, k0', k5]
   exact hq
  ·have hne : tok.toList.isEmpty = false := by
    rw [Go.ByteArray.toList_eq]
    cases ht' : tok.data.toList with
    | nil => exact absurd (ByteArray.ext (Array.toList_inj.1 ht')) h0
    | cons => rfl
   have hnx := hH.next h0
   clear hH
   go_wp2_with fail
   first
    | (go_region_law (first
      | (go_simp; refine hnx.mono ?_; rintro e w2 (⟨x, hx, rfl, hL, hn, k', hk', hgo⟩ | ⟨v, rfl, hh, hq⟩); rotate_left; exact Mk.fpan hh hq.out rfl rfl; obtain ⟨c1', z1', c2', z2'⟩ := hL.has.c0; have ka := Mk.HasF.ahead hL.has; obtain ⟨ek, en, ep, epl, epc, ek1, em1, en1, el1, ell1, elc1, ea1, eal1, eac1, ek2, em2, en2, el2, ell2, elc2, ea2, eal2, eac2, ear, ec, ecl, ecc⟩ := hx)
      | (refine step_append_own rfl _ _ 23 rfl (w.heap.size + 2) 48 i0 _ 15 240 Tryd.underlying23 hi hz0 hz1 hz2 rfl (by decide) _ _ _ rfl (hL.own.alloc _) ⟨w2.heap.size, 0, none⟩ 1 1 [.int .i64 ek, .string en, .slice ep epl epc, .int .i64 ek1, .int .i64 em1, .string en1, .slice el1 ell1 elc1, .slice ea1 eal1 eac1, .int .i64 ek2, .int .i64 em2, .string en2, .slice el2 ell2 elc2, .slice ea2 eal2 eac2, .int .i64 ear, .slice ec ecl ecc] rfl rfl (Mk.new_cells _ _ _) (Mk.ShpD.one (.mk ek en ep epl epc ek1 em1 en1 el1 ell1 elc1 ea1 eal1 eac1 ek2 em2 en2 el2 ell2 elc2 ea2 eal2 eac2 ear ec ecl ecc)) (by unfold maxLen; omega) (by omega) (by have := hL.lt; simp; omega) ?_; intro v' w' ho' hgr' hnil' hat'; obtain ⟨vp, vl, vc, rfl⟩ := Mk.own_shape ho'; have hGF := Mk.HasF.grow hL.has hL.own hgr'; obtain ⟨f1, y1, f2, y2⟩ := hGF.c0)))
    | fail
   all_goals
    clear hnx
    go_wp2_with fail
    go_roundg k'
    case measure => exact hk'
    case rel =>
     obtain ⟨g1, g2⟩ := Mk.FpL.next hL ho' hgr' hat'
     exact ⟨_, _, _, hgo.out _ _ g1 g2⟩
end Go.Ab
end
section
namespace Go.Ab
open Go.RowKit Go.Proofs
set_option maxRecDepth 100000
set_option maxHeartbeats 1000000
def FlatN (m : Nat) (rows : List (List Value)) (xs : List Value) : Prop :=
 (∀ x ∈ rows, x.length = m) ∧ xs.length = rows.length * m ∧ ∀ (i j : Nat) (x : List Value) (c : Value), rows[i]? = some x → x[j]? = some c → xs[i * m + j]? = some c
theorem FlatN.nil (m : Nat) : FlatN m [] [] := ⟨by simp, by simp, fun i j x c h => by simp at h⟩
theorem FlatN.snoc {m : Nat} {rows : List (List Value)} {xs x : List Value} (h : FlatN m rows xs) (hx : x.length = m) : FlatN m (rows ++ [x]) (xs ++ x) := by
 refine ⟨?_, by rw [List.length_append, List.length_append, h.2.1, hx, List.length_singleton, Nat.add_mul]; omega, fun i j y c hy hc => ?_⟩
 ·intro y hy
  rw [List.mem_append, List.mem_singleton] at hy
  rcases hy with hy | rfl
  ·exact h.1 y hy
  ·exact hx
 by_cases hi : i < rows.length
 ·rw [List.getElem?_append_left hi] at hy
  have hj : j < m := by have := (List.getElem?_eq_some_iff.1 hc).1; rw [h.1 y (List.mem_of_getElem? hy)] at this; exact this
  have hm : (i + 1) * m ≤ rows.length * m := Nat.mul_le_mul_right m (by omega)
  rw [Nat.succ_mul] at hm
  rw [List.getElem?_append_left (by rw [h.2.1]; omega)]
  exact h.2.2 i j y c hy hc
 ·rw [List.getElem?_append_right (by omega)] at hy
  obtain ⟨h1, h2⟩ := List.getElem?_eq_some_iff.1 hy
  simp only [List.length_singleton] at h1
  have h0 : i - rows.length = 0 := by omega
  simp only [h0, List.getElem_cons_zero] at h2
  subst h2
  obtain rfl : i = rows.length := by omega
  rw [List.getElem?_append_right (by rw [h.2.1]; omega), h.2.1, show rows.length * m + j - rows.length * m = j by omega]
  exact hc
structure ElsRel (G : Gh) (w : World) (m : Nat) (es : List (List V)) (rows : List (List Value)) (xs : List Value) : Prop where
 flat : FlatN m rows xs
 len : rows.length = es.length
 el : ∀ e ∈ es, e.length = m
 one : ∀ x ∈ rows, ∀ c ∈ x, c.oneCell' = true
 rel : ∀ (i j : Nat) (e : List V) (x : List Value) (v : V) (c : Value), es[i]? = some e → rows[i]? = some x → e[j]? = some v → x[j]? = some c → Rel G w v c
theorem ElsRel.nil (G : Gh) (w : World) (m : Nat) : ElsRel G w m [] [] [] := ⟨FlatN.nil m, rfl, by simp, by simp, fun i j e x v c h => by simp at h⟩
theorem ElsRel.map {G G' : Gh} {w w' : World} {m : Nat} {es : List (List V)} {rows : List (List Value)} {xs : List Value} (h : ElsRel G w m es rows xs) (f : ∀ v c, Rel G w v c → Rel G' w' v c) : ElsRel G' w' m es rows xs :=
 ⟨h.flat, h.len, h.el, h.one, fun i j e x v c h1 h2 h3 h4 => f v c (h.rel i j e x v c h1 h2 h3 h4)⟩
theorem ElsRel.snoc {G : Gh} {w : World} {m : Nat} {es : List (List V)} {rows : List (List Value)} {xs : List Value} (h : ElsRel G w m es rows xs) {e : List V} {x : List Value} (he : e.length = m) (hx : x.length = m) (h1 : ∀ c ∈ x, c.oneCell' = true)
  (hr : ∀ (j : Nat) (v : V) (c : Value), e[j]? = some v → x[j]? = some c → Rel G w v c) : ElsRel G w m (es ++ [e]) (rows ++ [x]) (xs ++ x) := by
 refine ⟨h.flat.snoc hx, by simp [h.len], ?_, ?_, ?_⟩
 ·intro y hy
  rw [List.mem_append, List.mem_singleton] at hy
  rcases hy with hy | rfl
  ·exact h.el y hy
  ·exact he
 ·intro y hy
  rw [List.mem_append, List.mem_singleton] at hy
  rcases hy with hy | rfl
  ·exact h.one y hy
  ·exact h1
 ·intro i j e' x' v c g1 g2 g3 g4
  by_cases hi : i < es.length
  ·rw [List.getElem?_append_left hi] at g1
   rw [List.getElem?_append_left (by rw [h.len]; exact hi)] at g2
   exact h.rel i j e' x' v c g1 g2 g3 g4
  ·have hl := h.len
   rw [List.getElem?_append_right (by omega)] at g1
   rw [List.getElem?_append_right (by omega)] at g2
   obtain ⟨a1, a2⟩ := List.getElem?_eq_some_iff.1 g1
   obtain ⟨b1, b2⟩ := List.getElem?_eq_some_iff.1 g2
   simp only [List.length_singleton] at a1 b1
   have h0 : i - es.length = 0 := by omega
   have h0' : i - rows.length = 0 := by omega
   simp only [h0, List.getElem_cons_zero] at a2
   simp only [h0', List.getElem_cons_zero] at b2
   subst a2; subst b2
   exact hr j v c g3 g4
theorem ElsRel.slice {G : Gh} {w : World} {m n0 : Nat} {es : List (List V)} {rows : List (List Value)} {xs : List Value} (h : ElsRel G w m es rows xs) {g cap : Nat} {cur : Array Value} {ty et : TypeId} {fr : Nat × Nat} (og : Own1 n0 G g) (hg : w.heap[g]? = some (.cells cur ty fr))
  (htake : cur.toList.take (es.length * m) = xs) (hcap : es.length ≤ cap) : Rel (G.settle g (es.length * m)) w (.slice m et es) (.slice (some ⟨g, 0, none⟩) es.length cap) := by
 refine Rel.slice m et es g 0 cap rows h.len hcap ?_ (fun i e he => h.el e (List.mem_of_getElem? he)) (fun i x hx => h.flat.1 x (List.mem_of_getElem? hx)) (fun i j x c hi hj => ?_) (fun i j e x v c he hi hv hc => Gh.settle_rel og.lim (h.rel i j e x v c he hi hv hc))
 ·show 0 + es.length * m ≤ if g = g then es.length * m else _
  rw [if_pos rfl]; omega
 ·refine ⟨?_, h.one x (List.mem_of_getElem? hi) c (List.mem_of_getElem? hj)⟩
  have hc := h.flat.2.2 i j x c hi hj
  have hi' := (List.getElem?_eq_some_iff.1 hi).1
  have hj' : j < m := by have := (List.getElem?_eq_some_iff.1 hj).1; rw [h.flat.1 x (List.mem_of_getElem? hi)] at this; exact this
  have hm : (i + 1) * m ≤ es.length * m := Nat.mul_le_mul_right m (by rw [← h.len]; omega)
  rw [Nat.succ_mul] at hm
  rw [← htake, List.getElem?_take, if_pos (by omega), Array.getElem?_toList] at hc
  rw [cell?_of_heap hg, Nat.zero_add]
  exact hc
theorem SInv.drew {gl : Nat → Option (List V)} {G : Gh} {w : World} {σ : Sto} (h : SInv gl G w σ) : SInv gl G w.drew σ :=
 h.move (fl := fun _ => True) (Ext.same rfl rfl rfl rfl) (Keeps.same rfl) h.wf rfl (fun _ _ => trivial) (fun _ _ _ _ _ _ => trivial)
theorem ownsRow_heap {w w' : World} {base : Nat} {e : TypeId} {size : Nat} {v : Value} {n : Nat} {xs : List Value} (h : w.ownsRow base e size v n xs) (hh : ∀ i, v.ownBlock = some i → w'.heap[i]? = w.heap[i]?) : w'.ownsRow base e size v n xs := by
 refine ⟨h.1, ?_⟩
 rcases h.2 with h | ⟨g, cap, cur, q1, q2, q3, q4⟩
 ·exact .inl h
 ·exact .inr ⟨g, cap, cur, q1, q2, (hh g (by rw [q1]; rfl)).trans q3, q4⟩
theorem Mk.slvR {G : Gh} {w : World} {a : V} {c : Value} (ha : slv a = true) (h : Rel G w a c) : ∃ p l k, c = .slice p l k := by
 unfold slv at ha
 split at ha
 ·cases h <;> exact ⟨_, _, _, rfl⟩
 ·cases h; exact ⟨_, _, _, rfl⟩
 ·simp at ha
theorem Mk.asDecl_rel {v : V} {cs : List V} (h : Mk.asDecl v = some cs) {G : Gh} {w : World} {c : Value} (hr : Rel G w v c) :
  ∃ x, Mk.ShpD x ∧ c = .agg x.toArray ∧ cs.length = 15 ∧ x.length = 15 ∧ ∀ (j : Nat) (u : V) (y : Value), cs[j]? = some u → x[j]? = some y → Rel G w u y := by
 unfold Mk.asDecl at h
 split at h
 case h_2 => simp at h
 rename_i k n p k1 m1 n1 l1 a1 k2 m2 n2 l2 a2 ar cc
 split at h
 case isFalse => simp at h
 rename_i hh
 obtain rfl := Option.some.inj h
 simp only [Bool.and_eq_true] at hh
 obtain ⟨⟨⟨⟨⟨h1, h2⟩, h3⟩, h4⟩, h5⟩, h6⟩ := hh
 cases hr with
 | agg _ xs e1 e2 e3 =>
 obtain ⟨x0, x1, x2, x3, x4, x5, x6, x7, x8, x9, x10, x11, x12, x13, x14, rfl⟩ : ∃ x0 x1 x2 x3 x4 x5 x6 x7 x8 x9 x10 x11 x12 x13 x14, xs = [x0, x1, x2, x3, x4, x5, x6, x7, x8, x9, x10, x11, x12, x13, x14] := by
  match xs, e1 with
  | [x0, x1, x2, x3, x4, x5, x6, x7, x8, x9, x10, x11, x12, x13, x14], _ => exact ⟨_, _, _, _, _, _, _, _, _, _, _, _, _, _, _, rfl⟩
 refine ⟨_, ?_, rfl, rfl, rfl, e3⟩
 have r0 := e3 0 _ _ rfl rfl
 have r1 := e3 1 _ _ rfl rfl
 have r3 := e3 3 _ _ rfl rfl
 have r4 := e3 4 _ _ rfl rfl
 have r5 := e3 5 _ _ rfl rfl
 have r8 := e3 8 _ _ rfl rfl
 have r9 := e3 9 _ _ rfl rfl
 have r10 := e3 10 _ _ rfl rfl
 have r13 := e3 13 _ _ rfl rfl
 obtain ⟨_, _, _, rfl⟩ := Mk.slvR h1 (e3 2 _ _ rfl rfl)
 obtain ⟨_, _, _, rfl⟩ := Mk.slvR h2 (e3 6 _ _ rfl rfl)
 obtain ⟨_, _, _, rfl⟩ := Mk.slvR h3 (e3 7 _ _ rfl rfl)
 obtain ⟨_, _, _, rfl⟩ := Mk.slvR h4 (e3 11 _ _ rfl rfl)
 obtain ⟨_, _, _, rfl⟩ := Mk.slvR h5 (e3 12 _ _ rfl rfl)
 obtain ⟨_, _, _, rfl⟩ := Mk.slvR h6 (e3 14 _ _ rfl rfl)
 cases r0
 cases r1
 cases r3
 cases r4
 cases r5
 cases r8
 cases r9
 cases r10
 cases r13
 exact .mk ..
theorem Mk.tok_cell {gl : Nat → Option (List V)} {G : Gh} {w : World} {σ : Sto} {t : TypeId} {b qb : Nat} {tok : ByteArray} (hS : SInv gl G w σ) (h : Mk.tokOf σ b = some tok) (hp : Rel G w (.ptr t b 0) (.pointer (some ⟨qb, 0, none⟩))) : w.cell? ⟨qb, 2, none⟩ = some (.string tok) := by
 unfold Mk.tokOf at h
 obtain ⟨cs, hcs, h⟩ := bind2 h
 obtain ⟨c, hc, h⟩ := bind2 h
 have e : c.1 = .str tok := by
  unfold V.asStr at h
  split at h
  ·rename_i hh; rw [hh]; rw [Option.some.inj h]
  ·simp at h
 cases hp with
 | ptr _ _ _ _ _ =>
 obtain ⟨cv, el, g1, g2, g3, g4, g5⟩ := hS.blk b cs hcs
 have hlt := (List.getElem?_eq_some_iff.1 hc).1
 have hx : cv[2]? = some (cv[2]'(by omega)) := Array.getElem?_eq_getElem _
 obtain ⟨⟨r1, _⟩, _⟩ := g5 2 c _ hc hx
 rw [e] at r1
 rw [cell?_of_heap g1, hx]
 generalize cv[2]'(by omega) = y at r1
 cases r1
 rfl
section
variable {C : Ctx} {call : CallF}
structure Mk.FpI (C : Ctx) (call : CallF) (G0 : Gh) (w0 : World) (t : TypeId) (b : Nat) (r : Res) (qb k : Nat) (dsv : Value) (n : Nat) (xs : List Value) (w : World) : Prop where
 ex : ∃ (G : Gh) (σ : Sto) (es : List (List V)) (rows : List (List Value)), Mk.floop call t b k es σ = some r ∧ SInv C.glob G w σ ∧ Clean G 1 ∧ Own1 w0.heap.size G w0.heap.size ∧ Own1 w0.heap.size G (w0.heap.size + 1) ∧
  (∀ i, dsv.ownBlock = some i → Own1 w0.heap.size G i) ∧ ExtB w0.heap.size G0 w0 G w ∧ Rel G w (.ptr t b 0) (.pointer (some ⟨qb, 0, none⟩)) ∧ ElsRel G w 15 es rows xs ∧ es.length = n
 loop : Mk.FpL w0.heap.size dsv n xs w
def Mk.FpQ (C : Ctx) (G0 : Gh) (w0 : World) (r : Res) (en : Ending) (w' : World) : Prop := ∃ G', Ext G0 w0 G' w' ∧ SInv C.glob G' w' r.2 ∧ EndRel G' w' r.1 en
theorem Mk.fpi_head (hcall : CallOk Tryd.prog C call) {G0 : Gh} {w0 : World} {t : TypeId} {b : Nat} {r : Res} {qb k : Nat} {dsv : Value} {n : Nat} {xs : List Value} {w : World} (h : Mk.FpI C call G0 w0 t b r qb k dsv n xs w) :
  ∃ tok, Mk.FpH w0.heap.size ⟨qb, 0, none⟩ dsv n xs k (Mk.FpI C call G0 w0 t b r qb) (Mk.FpQ C G0 w0 r) w tok := by
 obtain ⟨⟨G1, σ1, es, rows, hfl, S1, Cl1, oB, oE, oD, B1, R1, L1, hn⟩, hL⟩ := h
 match k, hfl with
 | 0, hfl => simp [Mk.floop] at hfl
 | m + 1, hfl =>
 unfold Mk.floop at hfl
 obtain ⟨tok, htok, hfl⟩ := bind2 hfl
 have hl1 := (Array.getElem?_eq_some_iff.1 hL.has.l).1
 have hl2 := (Array.getElem?_eq_some_iff.1 hL.has.e).1
 refine ⟨tok, hL, Mk.tok_cell S1 htok R1, fun h0 w2 hN => ?_, fun h0 => ?_⟩
 ·rw [if_pos h0] at hfl
  obtain rfl := Option.some.inj hfl
  have S2 := hN.sinv oB.lim oE.lim oB.own oE.own S1
  have B2 := B1.trans (hN.extB oB.lim oE.lim (Nat.le_refl _) (Nat.le_succ _))
  have L2 := L1.map fun v c hr => hN.rel oB.lim oE.lim hr
  have hown : w2.ownsRow (w0.heap.size + 2) 48 15 dsv n xs := ownsRow_heap hL.own fun i hi => hN.heap i (by have := (hL.own.lt i hi).1; omega) (by have := (hL.own.lt i hi).1; omega)
  rcases hown.2 with ⟨rfl, h00⟩ | ⟨g, cap, cur, rfl, q2, q3, q4, q5, q6, q7⟩
  ·obtain rfl : es = [] := List.length_eq_zero_iff.1 (hn.trans h00)
   exact ⟨G1, B2.toExt, S2, end_two (.snil _ _) .nilIface⟩
  ·have og := oD g rfl
   subst hn
   refine ⟨G1.settle g (es.length * 15), (B2.trans (Gh.settle_ext og)).toExt, Gh.settle_sinv og (Array.getElem?_eq_some_iff.1 q3).1 S2, end_two (L2.slice og q3 q7 q4) .nilIface⟩
 ·rw [if_neg h0] at hfl
  have E0 : Ext G1 w G1 w.drew := Ext.same rfl rfl rfl rfl
  generalize hr : call 9 [(.ptr t b 0, false)] σ1 = rr at hfl
  have H : ∀ r', call 9 [(.ptr t b 0, false)] σ1 = some r' → _ := fun r' hr' => (hcall 9 _ _ r' hr').2 G1 w.drew [.pointer (some ⟨qb, 0, none⟩)] S1.drew Cl1 rfl (fun i c x hc hx => by
   match i with
   | 0 => simp at hc hx; subst hc; subst hx; exact ⟨R1.mono E0, fun ho => by simp at ho⟩
   | i + 1 => simp at hc)
  split at hfl
  case h_3 => simp at hfl
  ·rename_i d ow σ2
   obtain ⟨cs, hcs, hfl⟩ := bind2 hfl
   split at hfl
   case isFalse => simp at hfl
   rename_i hlt
   refine (H _ hr).mono fun e w2 hh => ?_
   obtain ⟨G2, E2, S2, vs, hvl, rfl, hrel⟩ := hh
   obtain ⟨c, rfl⟩ : ∃ c, vs = [c] := by
    match vs, hvl with
    | [c], _ => exact ⟨c, rfl⟩
   have hd := (hrel 0 _ _ rfl rfl).1
   simp only at hd
   obtain ⟨x, hshp, rfl, hl15, hx15, hxr⟩ := Mk.asDecl_rel hcs hd
   obtain ⟨oB2, hB2⟩ := oB.ext (E0.trans E2) hl1
   obtain ⟨oE2, hE2⟩ := oE.ext (E0.trans E2) hl2
   have oD2 : ∀ i, dsv.ownBlock = some i → Own1 w0.heap.size G2 i ∧ w2.heap[i]? = w.heap[i]? := fun i hi => (oD i hi).ext (E0.trans E2) (hL.own.lt i hi).2
   have hsz := E2.size
   have hsz' : w.heap.size ≤ w2.heap.size := hsz
   refine .inl ⟨x, hshp, by simp, ⟨⟨hB2.trans hL.has.l, hE2.trans hL.has.e⟩, ownsRow_heap hL.own fun i hi => (oD2 i hi).2, Nat.le_trans hL.lt hsz'⟩, by omega, m, Nat.lt_succ_self m, ?_⟩
   intro dsv' w3 hL' hG
   have hM : Mine w0.heap.size G2 w2 w3 := ⟨hG.os, hG.tape, hG.output, hG.size, fun i hi hne => hG.heap i hi (by rintro rfl; exact hne oB2) (fun e => hne (oD2 i e).1)⟩
   have hle : w0.heap.size ≤ w2.heap.size := by omega
   refine ⟨⟨G2.bare, σ2, es ++ [cs], rows ++ [x], hfl, (hM.sinv S2).bare, Gh.bare_clean _, oB2.bare, oE2.bare, fun i hi => ?_, ?_, ?_, ?_, by simp [hn]⟩, hL'⟩
   ·rcases hG.at_ with h | ⟨g, h, hg⟩
    ·exact (oD2 i (h.symm.trans hi)).1.bare
    ·obtain rfl : g = i := Option.some.inj (h.symm.trans hi)
     exact (Own1.new S2.wf hle hg).bare
   ·have b2 := B1.trans ((E0.trans E2).toB (by omega))
    exact (b2.trans (hM.extB S2.wf hle)).trans (Gh.bare_ext.toB (by have := hM.size; omega))
   ·exact (hM.rel S2.wf (R1.mono (E0.trans E2))).mono Gh.bare_ext
   ·refine ElsRel.snoc (L1.map fun v c hr => (hM.rel S2.wf (hr.mono (E0.trans E2))).mono Gh.bare_ext) hl15 hx15 (Mk.ShpD.one hshp) fun j v c hv hc => (hM.rel S2.wf (hxr j v c hv hc)).mono Gh.bare_ext
  ·rename_i v σ2
   obtain ⟨x, rfl, rfl⟩ := Mk.caughtF_inv hfl
   refine (H _ hr).mono fun e w2 hh => ?_
   obtain ⟨G2, E2, S2, c, rfl, hrel⟩ := hh
   cases hrel with
   | iface _ _ cx hcx =>
   obtain ⟨oB2, hB2⟩ := oB.ext (E0.trans E2) hl1
   obtain ⟨oE2, hE2⟩ := oE.ext (E0.trans E2) hl2
   refine .inr ⟨cx, rfl, ⟨hB2.trans hL.has.l, hE2.trans hL.has.e⟩, ?_⟩
   intro w3 hN
   refine ⟨G2, ((B1.trans ((E0.trans E2).toB (by omega))).trans (hN.extB oB2.lim oE2.lim (Nat.le_refl _) (Nat.le_succ _))).toExt, hN.sinv oB2.lim oE2.lim oB2.own oE2.own S2, ?_⟩
   exact end_two (.snil _ _) (.iface _ _ _ (hN.rel oB2.lim oE2.lim hcx))
theorem fparse_ok (hcall : CallOk Tryd.prog C call) (henter : ∀ (args : Array Value) (w : World), (callFunc 4 args).run Tryd.prog w = .ok (.enter 4 args) w) :
  CallOk Tryd.prog C (fun g args σ => if g = 4 then Mk.fparseS call args σ else none) := by
 intro g args σ r h
 simp only at h
 split at h
 case isFalse => simp at h
 rename_i hg
 subst hg
 refine ⟨henter, fun G w vals hS hcl hlen hv => ?_⟩
 unfold Mk.fparseS at h
 split at h
 case h_2 => simp at h
 rename_i s ow
 obtain ⟨x, rfl⟩ : ∃ x, vals = [x] := by
  match vals, hlen with
  | [x], _ => exact ⟨x, rfl⟩
 have hx := (hv 0 _ x rfl rfl).1
 simp only at hx
 cases hx with
 | str =>
 have I1 := ((sinv_inv hS).alloc (.cells #[.slice none 0 0] 23) 0 none)
 have E1 := Ext.alloc hS.wf (.cells #[.slice none 0 0] 23) 0 none
 split at h
 ·rename_i hb
  obtain rfl := Option.some.inj h
  have I2 := I1.alloc (.cells #[.iface 32 (.pointer (some ⟨w.heap.size + 1 + 1, 0, none⟩))] 25) 0 none
  have E2 := Ext.alloc I1.sto.wf (.cells #[.iface 32 (.pointer (some ⟨w.heap.size + 1 + 1, 0, none⟩))] 25) 0 none
  obtain ⟨G3, E3, I3, n3, m3, t3⟩ := I2.newSto (C := { C with glob := C.glob }) [(.int .i64 2, false), (.int .i64 0, false)] #[.int .i64 2, .int .i64 0] 34 rfl (fun j c x hc hx => by
   match j with
   | 0 => simp at hc hx; subst hc; subst hx; exact ⟨⟨.int _ _, fun ho => by simp at ho⟩, rfl⟩
   | 1 => simp at hc hx; subst hc; subst hx; exact ⟨⟨.int _ _, fun ho => by simp at ho⟩, rfl⟩
   | j + 2 => simp at hc)
  refine (Mk.fparse_long s w hb).mono fun en w' ⟨he, hw⟩ => ?_
  subst he; subst hw
  refine ⟨G3, (E1.trans E2).trans E3, I3.sto, end_two (.snil _ _) (.iface 32 _ _ ?_)⟩
  have hp := Rel.ptr (G := G3) (w := ((w.alloc (.cells #[.slice none 0 0] 23)).alloc (.cells #[.iface 32 (.pointer (some ⟨w.heap.size + 1 + 1, 0, none⟩))] 25)).alloc (.cells #[.int .i64 2, .int .i64 0] 34)) 34 σ.length 0 (by rw [n3]; simp) t3
  have hm : G3.μ σ.length = w.heap.size + 1 + 1 := by rw [show σ.length = _ from rfl, m3]; simp
  rw [hm] at hp
  exact hp
 ·rename_i hb
  have I2 := I1.alloc (.cells #[.nilIface] 25) 0 none
  have E2 := E1.trans (Ext.alloc I1.sto.wf (.cells #[.nilIface] 25) 0 none)
  have S1 := I2.sto
  have hB1 : ((w.alloc (.cells #[.slice none 0 0] 23)).alloc (.cells #[.nilIface] 25)).heap[w.heap.size]? = some (.cells #[.slice none 0 0] 23 (0, 0)) := by
   rw [heap_alloc_lt (by simp)]; exact heap_alloc_new _ _
  have hE1 : ((w.alloc (.cells #[.slice none 0 0] 23)).alloc (.cells #[.nilIface] 25)).heap[w.heap.size + 1]? = some (.cells #[.nilIface] 25 (0, 0)) := by
   have := heap_alloc_new (w.alloc (.cells #[.slice none 0 0] 23)) (.cells #[.nilIface] 25)
   simpa using this
  have hw0 := hS.wf w.heap.size (Nat.le_refl _)
  have oB : Own1 w.heap.size ((G.new w 0 none).new (w.alloc (.cells #[.slice none 0 0] 23)) 0 none) w.heap.size := ⟨Nat.le_refl _, by simp [Gh.new, upd], by simp [Gh.new, upd]⟩
  have oE : Own1 w.heap.size ((G.new w 0 none).new (w.alloc (.cells #[.slice none 0 0] 23)) 0 none) (w.heap.size + 1) := ⟨Nat.le_succ _, by simp [Gh.new, upd], by simp [Gh.new, upd]⟩
  have C1 : Clean ((G.new w 0 none).new (w.alloc (.cells #[.slice none 0 0] 23)) 0 none) 1 := by
   intro i p hp
   simp only [Gh.new, upd] at hp
   split at hp
   ·simp at hp
   ·split at hp
    ·simp at hp
    ·exact hcl i p hp
  generalize hG1 : (G.new w 0 none).new (w.alloc (.cells #[.slice none 0 0] 23)) 0 none = G1 at *
  generalize hr34 : call 8 [(.str s, false)] σ = r34 at h
  unfold Mk.fparse1 at h
  split at h
  case h_2 => simp at h
  rename_i t b o ow3 σ3
  split at h
  case isFalse => simp at h
  rename_i ho0
  subst ho0
  refine Mk.fparse_short s w hb (Mk.FpQ C G w r) (Mk.FpI C call G w t b r) (s.size + 2) ?_ (fun qb k dsv n xs w' h => Mk.fpi_head hcall h)
  refine ((hcall 8 _ _ _ hr34).2 G1 _ [.string s] S1 C1 rfl (fun i c x hc hx => by
   match i with
   | 0 => simp at hc hx; subst hc; subst hx; exact ⟨.str _, fun ho => by simp at ho⟩
   | i + 1 => simp at hc)).mono fun e w3 hh => ?_
  obtain ⟨G3, E3, S3, cs, hcl3, rfl, hrel⟩ := hh
  obtain ⟨c3, rfl⟩ : ∃ c, cs = [c] := by
   match cs, hcl3 with
   | [c], _ => exact ⟨c, rfl⟩
  have hp3 := (hrel 0 _ _ rfl rfl).1
  simp only at hp3
  have hp3' := hp3
  cases hp3 with
  | ptr _ _ _ hbN hty =>
  have hl1 := (Array.getElem?_eq_some_iff.1 hB1).1
  have hl2 := (Array.getElem?_eq_some_iff.1 hE1).1
  obtain ⟨oB3, hB3⟩ := oB.ext E3 hl1
  obtain ⟨oE3, hE3⟩ := oE.ext E3 hl2
  have hsz := E3.size
  refine ⟨G3.μ b, by simp, ⟨⟨G3.bare, σ3, [], [], h, S3.bare, Gh.bare_clean _, oB3.bare, oE3.bare, fun i hi => by simp [Value.ownBlock] at hi, ?_, hp3'.mono Gh.bare_ext, ElsRel.nil _ _ _, rfl⟩, ⟨⟨hB3.trans hB1, hE3.trans hE1⟩, World.ownsRow_nil _ _ _ _, by omega⟩⟩⟩
  exact (((E2.trans E3).toB (Nat.le_refl _))).trans (Gh.bare_ext.toB (by omega))
end
end Go.Ab
end
section
namespace Go.Ab.Mk
open Go.Proofs Go.Ab
def ErrOk (err : V) (σ : Sto) (c a : Int) : Prop := (c = 0 ∧ err = .nilIface) ∨ ∃ b, err = .iface 32 (.ptr 34 b 0) ∧ σ[b]? = some (fcell c a)
theorem ErrOk.more {err : V} {σ : Sto} {c a : Int} (h : ErrOk err σ c a) (σ' : Sto) : ErrOk err (σ ++ σ') c a := by
 rcases h with h | ⟨b, h1, h2⟩
 ·exact .inl h
 ·exact .inr ⟨b, h1, by rw [List.getElem?_append_left (List.getElem?_eq_some_iff.1 h2).1]; exact h2⟩
theorem newScanner_law {s : ByteArray} (hs : s.size < 2 ^ 61) (σ : Sto) : lim C 8 [(.str s, false)] σ = some (.ret [(.ptr 40 σ.length 0, false)], σ ++ [(stepV s 0).cells s]) :=
 newScanner_lim (n := 0) <| by
  have h := step_law (σ := σ ++ [[]]) (r := σ.length) (by simp) hs (st := ⟨0, ByteArray.mk #[], 0⟩) (Nat.zero_le _)
  have hg : ∀ x : List Cell, (σ ++ [[]]).set σ.length x = σ ++ [x] := fun x => by rw [List.set_append_right _ _ (Nat.le_refl _)]; simp
  rw [hg, hg] at h
  have e0 : [((V.str s), false), ((V.int .i64 (0 : Int)), false), ((V.str (ByteArray.mk #[])), false), ((V.int .i64 (0 : Int)), false)] = SC.cells s ⟨0, ByteArray.mk #[], 0⟩ := rfl
  simp only [newScanner, newScannerF, e0, callK_ret0 h]
theorem dc_enc (d : Dc) : d.enc =
  [.int .i64 d.kind, .str d.name, .slice 1 9 (strs d.pars), .int .i64 d.type.kind, .int .i64 d.type.num, .str d.type.name, .slice 3 76 (d.type.lvs.map Lv.enc), .slice 5 45 d.type.args,
   .int .i64 d.value.kind, .int .i64 d.value.num, .str d.value.name, .slice 3 76 (d.value.lvs.map Lv.enc), .slice 5 45 d.value.args, .int .i64 d.arity, .slice 6 63 (d.ctors.map fun c => .str c.1 :: c.2.enc)] := by
 simp [Dc.enc, Tm.enc_eq, Dc.parsV, Dc.ctorsV, strs]
theorem asDecl_dc (d : Dc) : asDecl d.val = some d.enc := by
 unfold Dc.val
 rw [dc_enc]
 rfl
theorem tok_empty {s : ByteArray} {p : Nat} (hp : p ≤ s.size) : ((stepV s p).tok = ByteArray.mk #[]) ↔ ((tokV s p).ok && isNo (tokV s p).t) = true := by
 cases hok : (tokV s p).ok
 ·have : (stepV s p).tok = ByteArray.mk #[0] := by unfold stepV stepOf; rw [hok]; rfl
  rw [this]
  simp
 ·rw [step_tok hok]
  simp only [Bool.true_and, isNo, beq_iff_eq]
  constructor
  ·intro h; rw [h]
  ·exact fun h => tl_inj h
theorem floop_law {s : ByteArray} (hs : s.size ≤ 200000) {σ : Sto} {r : Nat} (hr : r < σ.length) : ∀ (n : Nat) (ds : List Dc) (p : Nat), p ≤ s.size → s.size - p + 1 < n → ds.length ≤ p →
  ((declsV n s ⟨p, 0, 0⟩).2.c = 0 ∧ ∃ σ', floop (lim C) 40 r n (ds.map Dc.enc) (σ.set r ((stepV s p).cells s)) = some (.ret [(.slice 15 48 ((ds ++ (declsV n s ⟨p, 0, 0⟩).1).map Dc.enc), false), (.nilIface, false)], σ')) ∨
  ((declsV n s ⟨p, 0, 0⟩).2.c = 1 ∧ ∃ cs, floop (lim C) 40 r n (ds.map Dc.enc) (σ.set r ((stepV s p).cells s)) = some (.ret [(.slice 15 48 [], false), (.iface 32 (.ptr 34 σ.length 0), false)], σ.set r cs ++ [fcell 1 (declsV n s ⟨p, 0, 0⟩).2.a]))
 | 0, ds, p, hp, hn, _ => by omega
 | n + 1, ds, p, hp, hn, hd => by
  have ht : tokOf (σ.set r ((stepV s p).cells s)) r = some (stepV s p).tok := by
   unfold tokOf
   rw [List.getElem?_set_self hr]
   rfl
  unfold floop declsV
  simp only [ht, Option.bind_some, bne_self_eq_false, cond_false]
  cases he : (tokV s p).ok && isNo (tokV s p).t
  case true =>
   rw [if_pos ((tok_empty hp).2 he)]
   simp only [cond_true, List.append_nil]
   exact .inl ⟨trivial, _, rfl⟩
  have hne : ¬ (stepV s p).tok = ByteArray.mk #[] := fun h => by rw [(tok_empty hp).1 h] at he; simp at he
  rw [if_neg hne]
  simp only [cond_false]
  have g := declV_goes (s := s) (st := ⟨p, 0, 0⟩) hp
  rcases fread_law hs hr hp with ⟨q, h1, h2⟩ | ⟨h1, cs, h2⟩
  ·rw [h1] at g ⊢
   have hle := g.le
   have hlt := (g.ok rfl).2
   simp only at hle hlt
   simp only [h2, asDecl_dc, Option.bind_some]
   rw [if_pos (by rw [List.length_map]; omega)]
   have em : ds.map Dc.enc ++ [(declV s ⟨p, 0, 0⟩).1.enc] = (ds ++ [(declV s ⟨p, 0, 0⟩).1]).map Dc.enc := by simp
   rw [em]
   have ih := floop_law hs hr n (ds ++ [(declV s ⟨p, 0, 0⟩).1]) q hle (by omega) (by simp; omega)
   rw [List.append_assoc] at ih
   exact ih
  ·right
   have hc : (declV s ⟨p, 0, 0⟩).2.c ≠ 0 := by rw [h1]; decide
   have hst : declsV n s (declV s ⟨p, 0, 0⟩).2 = ([], (declV s ⟨p, 0, 0⟩).2) := by
    cases n with
    | zero => rfl
    | succ n =>
     have h2 : ((declV s ⟨p, 0, 0⟩).2.c != 0) = true := by simpa using hc
     rw [declsV, h2]; rfl
   rw [hst]
   simp only [h2]
   exact ⟨h1, cs, rfl⟩
theorem fparse_law (s : ByteArray) (hs : s.size < 2 ^ 61) (σ : Sto) : ∃ err σ', fparseS (lim C) [(.str s, false)] σ = some (.ret [(.slice 15 48 ((fparseV s).1.map Dc.enc), false), (err, false)], σ') ∧ ErrOk err σ' (fparseV s).2.1 (fparseV s).2.2 ∧ ((fparseV s).2.1 = 0 → err = .nilIface) := by
 by_cases hb : (s.size : Int) > 200000
 ·have hv : fparseV s = ([], 2, 0) := by unfold fparseV; rw [decide_eq_true hb]; rfl
  rw [hv]
  refine ⟨.iface 32 (.ptr 34 σ.length 0), σ ++ [fcell 2 0], ?_, .inr ⟨σ.length, rfl, ?_⟩, fun h => absurd h (by decide)⟩
  ·simp only [fparseS, if_pos hb]; rfl
  ·simp
 ·have e34 := newScanner_law hs σ
  have hb' : s.size ≤ 200000 := by omega
  have hx := floop_law hb' (σ := σ ++ [[]]) (r := σ.length) (by simp) (s.size + 2) [] 0 (Nat.zero_le _) (by omega) (Nat.zero_le _)
  have hg : ∀ x : List Cell, (σ ++ [[]]).set σ.length x = σ ++ [x] := fun x => by rw [List.set_append_right _ _ (Nat.le_refl _)]; simp
  have hv : fparseV s = (bif (declsV (s.size + 2) s ⟨0, 0, 0⟩).2.c != 0 then ([], (declsV (s.size + 2) s ⟨0, 0, 0⟩).2.c, (declsV (s.size + 2) s ⟨0, 0, 0⟩).2.a) else ((declsV (s.size + 2) s ⟨0, 0, 0⟩).1, 0, 0)) := by unfold fparseV; rw [decide_eq_false hb]; rfl
  rw [hv]
  rw [hg] at hx
  simp only [List.nil_append, List.map_nil] at hx
  rcases hx with ⟨h1, σ', h2⟩ | ⟨h1, cs, h2⟩
  ·have hc : ((declsV (s.size + 2) s ⟨0, 0, 0⟩).2.c != 0) = false := by simp [h1]
   rw [hc]
   refine ⟨.nilIface, σ', ?_, .inl ⟨rfl, rfl⟩, fun _ => rfl⟩
   simp only [fparseS, if_neg hb, e34, fparse1, if_true, h2, cond_false]
  ·have hc : ((declsV (s.size + 2) s ⟨0, 0, 0⟩).2.c != 0) = true := by simp [h1]
   rw [hc]
   rw [hg] at h2
   refine ⟨.iface 32 (.ptr 34 (σ ++ [[]]).length 0), σ ++ [cs] ++ [fcell 1 (declsV (s.size + 2) s ⟨0, 0, 0⟩).2.a], ?_, .inr ⟨(σ ++ [[]]).length, rfl, ?_⟩, fun h => by simp [h1] at h⟩
   ·simp only [fparseS, if_neg hb, e34, fparse1, if_true, h2, cond_true, List.map_nil]
   ·simp [h1]
end Go.Ab.Mk
end
section
namespace Go.Ab.Mk
open Go.Proofs Go.Ab
open Go.Lib (decDigits)
theorem gr_get {σ τ : Sto} {b : Nat} {x : List Cell} (hb : b < σ.length) : (σ.set b x ++ τ)[b]? = some x := by
 rw [List.getElem?_append_left (by simpa using hb), List.getElem?_set_self hb]
theorem gr_set {σ τ : Sto} {b : Nat} {x y : List Cell} (hb : b < σ.length) : (σ.set b x ++ τ).set b y = σ.set b y ++ τ := by
 rw [List.set_append_left _ _ (by simpa using hb), List.set_set]
theorem gr_len {σ : Sto} {b : Nat} {x : List Cell} (h : σ[b]? = some x) : b < σ.length := (List.getElem?_eq_some_iff.1 h).1
theorem twriteS_loop1 {N : Nat} {b : Nat} {L : List Tm} (hb : L.length < 2 ^ 33)
  (h : ∀ c ∈ L, ∀ (σ : Sto) (X : List UInt8), σ[b]? = some (bcell b true X) → X.length + (printT c).length < 2 ^ 33 → ∃ τ, lim C 37 [(.ptr 53 b 0, false), (c.val, false)] σ = some (.ret [], σ.set b (bcell b true (X ++ printT c)) ++ τ)) :
  ∀ (m i : Nat) (σ : Sto) (X : List UInt8), i ≤ L.length → L.length - i < m → σ[b]? = some (bcell b true X) → X.length + (ksL ((L.drop i).map printT)).length < 2 ^ 33 →
   ∃ τ, twritel1 (lim C) N m b (L.map Tm.enc) L.length i σ = some (.ret [], σ.set b (bcell b true (X ++ ksL ((L.drop i).map printT))) ++ τ)
 | 0, i, _, _, _, hm, _, _ => by omega
 | m + 1, i, σ, X, hi, hm, hσ, hs => by
  have hbl := gr_len hσ
  show ∃ τ, twrites1 (lim C) (twritel1 (lim C) N m) _ _ _ _ σ = _
  unfold twrites1
  by_cases hlt : i < L.length
  ·have hx : L.drop i = L[i] :: L.drop (i + 1) := List.drop_eq_getElem_cons hlt
   rw [hx, List.map_cons, ksL_cons] at hs ⊢
   simp only [List.length_cons, List.length_append] at hs
   have e1 : lim C 47 [(.ptr 53 b 0, false), (.int .u8 32, false)] σ = _ := wbyte_law hσ 32 (by omega)
   obtain ⟨τ2, e2⟩ := h L[i] (List.getElem_mem hlt) _ (X ++ [32]) (set_got hσ) (by simp; omega)
   rw [List.set_set] at e2
   obtain ⟨τ3, e3⟩ := twriteS_loop1 (N := N) hb h m (i + 1) (σ.set b (bcell b true (X ++ [32] ++ printT L[i])) ++ τ2) (X ++ [32] ++ printT L[i]) (by omega) (by omega) (gr_get hbl) (by simp at hs ⊢; omega)
   rw [gr_set hbl, List.append_assoc (σ.set b _)] at e3
   refine ⟨τ2 ++ τ3, ?_⟩
   rw [List.length_map, dlt hlt, cond_true, d0, tm_get hlt, tm_readB]
   simp only [Bool.and_self, grd, cond_true, Option.bind_some, callK_ret1 e1, callK_ret0 e2, wrap_succ (show i < 2 ^ 61 by omega)]
   rw [show X ++ (32 :: printT L[i] ++ ksL ((L.drop (i + 1)).map printT)) = X ++ [32] ++ printT L[i] ++ ksL ((L.drop (i + 1)).map printT) by simp]
   exact e3
  ·rw [List.drop_eq_nil_of_le (by omega)] at hs ⊢
   rw [List.map_nil, ksL_nil] at hs ⊢
   have e1 : lim C 47 [(.ptr 53 b 0, false), (.int .u8 41, false)] σ = _ := wbyte_law hσ 41 (by simp at hs; omega)
   refine ⟨[], ?_⟩
   rw [dnlt hlt, cond_false, List.append_nil]
   exact (callK_ret1 e1).trans rfl
theorem twriteS_loop0 {N : Nat} {b : Nat} {K : List Tm} (hK : K.length < 2 ^ 33) (hN : K.length < N)
  (h : ∀ c ∈ K, ∀ (σ : Sto) (X : List UInt8), σ[b]? = some (bcell b true X) → X.length + (printT c).length < 2 ^ 33 → ∃ τ, lim C 37 [(.ptr 53 b 0, false), (c.val, false)] σ = some (.ret [], σ.set b (bcell b true (X ++ printT c)) ++ τ))
  {L : List Lv} (hb : L.length < 2 ^ 33) (hL : ∀ l ∈ L, printL l ≠ []) {k n : Int} {s : ByteArray} {t3 : List (List V)} :
  ∀ (m i : Nat) (σ : Sto) (X : List UInt8), i ≤ L.length → L.length - i < m → σ[b]? = some (bcell b true X) → X.length + (lvsL (L.drop i) ++ ksL (K.map printT)).length < 2 ^ 33 →
   ∃ τ, twritel0 (lim C) N m b (L.map Lv.enc) L.length i k n s t3 (K.map Tm.enc) σ = some (.ret [], σ.set b (bcell b true (X ++ (lvsL (L.drop i) ++ ksL (K.map printT)))) ++ τ)
 | 0, i, _, _, _, hm, _, _ => by omega
 | m + 1, i, σ, X, hi, hm, hσ, hs => by
  have hbl := gr_len hσ
  show ∃ τ, twrites0 (lim C) (twritel1 (lim C) N N) (twritel0 (lim C) N m) _ _ _ _ _ _ _ _ _ σ = _
  unfold twrites0
  by_cases hlt : i < L.length
  ·have hx : L.drop i = L[i] :: L.drop (i + 1) := List.drop_eq_getElem_cons hlt
   rw [hx, lvsL_cons] at hs ⊢
   simp only [List.length_cons, List.length_append] at hs
   have e1 := print_law σ L[i] (hL _ (List.getElem_mem hlt)) (by omega)
   have hσ1 : (σ ++ [bcell σ.length true (printL L[i])])[b]? = some (bcell b true X) := get_more hσ
   have e2 := wstring_law hσ1 (32 :: printL L[i]) (by simp; omega)
   rw [List.set_append_left _ _ hbl] at e2
   obtain ⟨τ3, e3⟩ := twriteS_loop0 (N := N) hK hN h hb hL (k := k) (n := n) (s := s) (t3 := t3) m (i + 1) (σ.set b (bcell b true (X ++ (32 :: printL L[i]))) ++ [bcell σ.length true (printL L[i])]) (X ++ (32 :: printL L[i])) (by omega) (by omega) (gr_get hbl) (by simp at hs ⊢; omega)
   rw [gr_set hbl, List.append_assoc (σ.set b _)] at e3
   have hr : strRoom (ba [32]) (ba (printL L[i])) = true := strRoom_ok (by simp [ba_size]; omega)
   have e32 : ByteArray.mk #[32] = ba [32] := rfl
   refine ⟨[bcell σ.length true (printL L[i])] ++ τ3, ?_⟩
   rw [List.length_map, dlt hlt, cond_true, d0, lv_get hlt, lv_read, e32]
   simp only [Bool.and_self, grd, cond_true, Option.bind_some, callK_ret1 e1, List.getD_cons_zero, V.asStr, hr, ba_append, List.cons_append, List.nil_append, callK_ret2 e2, wrap_succ (show i < 2 ^ 61 by omega)]
   refine Eq.trans e3 ?_
   simp
  ·rw [List.drop_eq_nil_of_le (by omega), lvsL_nil, List.nil_append] at hs ⊢
   obtain ⟨τ3, e3⟩ := twriteS_loop1 (N := N) hK h N 0 σ X (by omega) (by omega) hσ (by rw [List.drop_zero]; exact hs)
   rw [List.drop_zero] at e3
   refine ⟨τ3, ?_⟩
   rw [dnlt hlt, cond_false, List.length_map]
   exact e3
theorem twriteS_law (b : Nat) : ∀ (t : Tm), t.top < 2 ^ 60 → t.wide < 2 ^ 32 → (∀ l ∈ t.all, printL l ≠ []) → ∀ (u : Bool) (σ : Sto) (X : List UInt8), σ[b]? = some (bcell b u X) → X.length + (printT t).length < 2 ^ 33 →
  ∃ τ, lim C 37 [(.ptr 53 b 0, false), (t.val, false)] σ = some (.ret [], σ.set b (bcell b true (X ++ printT t)) ++ τ) :=
 Tm.ind fun t ih ht hw hne u σ X hσ hs => by
  have hbl := gr_len hσ
  by_cases hk : t.kind = 0
  ·obtain ⟨m, rfl⟩ : ∃ m, t = .var m := by cases t <;> simp [Tm.kind] at hk; exact ⟨_, rfl⟩
   simp only [printT, List.length_cons] at hs
   have e1 := itoa_law m ht σ
   have e2 := wstring_law hσ (35 :: decDigits m) (by simp; omega)
   have hr : strRoom (ba [35]) (ba (decDigits m)) = true := strRoom_ok (by simp [ba_size]; omega)
   have e35 : ByteArray.mk #[35] = ba [35] := rfl
   refine ⟨[], twrite_lim (n := 0) ?_⟩
   have e1' : lim C 22 [(.int .i64 ((Tm.var m).num : Int), false)] σ = _ := e1
   simp only [twrite, twriteF, Tm.kind, beq_self_eq_true, cond_true, callK_ret1 e1', List.getD_cons_zero, V.asStr, Option.bind_some, e35, hr, grd, ba_append, List.cons_append, List.nil_append, callK_ret2 e2, printT, List.append_nil]
  ·rw [print_node t hk] at hs ⊢
   simp only [List.length_append, List.length_cons] at hs
   have hk3 := kids_le t
   have hlv := lvs_le t
   have hw5 := word_len t
   have ih' : ∀ c ∈ t.kids, ∀ (σ : Sto) (X : List UInt8), σ[b]? = some (bcell b true X) → X.length + (printT c).length < 2 ^ 33 → ∃ τ, lim C 37 [(.ptr 53 b 0, false), (c.val, false)] σ = some (.ret [], σ.set b (bcell b true (X ++ printT c)) ++ τ) :=
    fun c hc σ X h1 h2 => ih c hc (by have := kid_depth hc; omega) (by have := kid_wide hc; omega) (kid_all hc hne) true σ X h1 h2
   have loop := fun σ X => twriteS_loop0 (N := t.wide + 10) (K := t.kids) (by omega) (by omega) ih' (L := t.lvs) (by omega) (lvs_all hne) (k := t.kind) (n := t.num) (s := t.name) (t3 := t.lvs.map Lv.enc) (t.wide + 10) 0 σ X (by omega) (by omega)
   simp only [List.drop_zero] at loop
   have e1 := wstring_law hσ (40 :: t.word) (by simp; omega)
   have hr : strRoom (ba [40]) (ba t.word) = true := strRoom_ok (by simp [ba_size]; omega)
   have e40 : ByteArray.mk #[40] = ba [40] := rfl
   have g1 := set_got (y := bcell b true (X ++ 40 :: t.word)) hσ
   by_cases h2 : t.kind = 2
   ·rw [if_pos h2] at hs ⊢
    simp only [List.length_cons] at hs
    have e2 := wstring_law g1 (32 :: t.name.data.toList) (by simp only [List.length_append, List.length_cons]; omega)
    rw [List.set_set] at e2
    have hsz : t.name.size = t.name.data.toList.length := by rw [← ba_size, ba_of]
    have hr2 : strRoom (ba [32]) t.name = true := strRoom_ok (by rw [ba_size, hsz]; simp; omega)
    have e32 : ByteArray.mk #[32] = ba [32] := rfl
    obtain ⟨τ3, e3⟩ := loop (σ.set b (bcell b true (X ++ 40 :: t.word ++ 32 :: t.name.data.toList))) (X ++ 40 :: t.word ++ 32 :: t.name.data.toList) (List.getElem?_set_self hbl) (by simp only [List.length_append, List.length_cons]; omega)
    rw [List.set_set] at e3
    refine ⟨τ3, twrite_lim (n := t.wide + 10) ?_⟩
    have hnm : ba [32] ++ t.name = ba (32 :: t.name.data.toList) := by rw [← ba_of t.name, ba_append, ba_of]; rfl
    simp only [twrite, twriteF, kind_in, grd, cond_true, Option.bind_some, words_mem t hk, V.asStr, e40, hr, ba_append, List.cons_append, List.nil_append]
    rw [show (t.kind == 0) = false by simpa using hk, cond_false, callK_ret2 e1, show (t.kind == 2) = true by simpa using h2, cond_true, e32, hr2]
    simp only [cond_true, Option.bind_some, hnm]
    rw [callK_ret2 e2, List.length_map]
    refine Eq.trans (show _ = _ from e3) ?_
    simp
   ·rw [if_neg h2] at hs ⊢
    obtain ⟨τ3, e3⟩ := loop _ (X ++ 40 :: t.word) g1 (by simp only [List.length_append, List.length_cons, List.length_nil] at hs ⊢; omega)
    rw [List.set_set] at e3
    refine ⟨τ3, twrite_lim (n := t.wide + 10) ?_⟩
    simp only [twrite, twriteF, kind_in, grd, cond_true, Option.bind_some, words_mem t hk, V.asStr, e40, hr, ba_append, List.cons_append, List.nil_append]
    rw [show (t.kind == 0) = false by simpa using hk, cond_false, callK_ret2 e1, show (t.kind == 2) = false by simpa using h2, cond_false, List.length_map]
    refine Eq.trans (show _ = _ from e3) ?_
    simp
theorem tprintS_law {t : Tm} (h : TFine t) (hs : (printT t).length < 2 ^ 32) (σ : Sto) : ∃ τ, lim C 23 [(t.val, false)] σ = some (.ret [(.str (ba (printT t)), false)], σ ++ τ) := by
 have ht := h.ok.top
 have hw := h.wide
 obtain ⟨τ, h1⟩ := twriteS_law σ.length t (by omega) (by omega) h.ne false (σ ++ [bcell σ.length false []]) [] (by simp) (by simp; omega)
 have hset : (σ ++ [bcell σ.length false []]).set σ.length (bcell σ.length true ([] ++ printT t)) = σ ++ [bcell σ.length true (printT t)] := by
  rw [List.set_append_right _ _ (Nat.le_refl _)]; simp
 rw [hset] at h1
 have g1 : (σ ++ [bcell σ.length true (printT t)] ++ τ)[σ.length]? = some (bcell σ.length true (printT t)) := by
  rw [List.append_assoc, List.getElem?_append_right (Nat.le_refl _)]
  simp
 have h2 := bldString_law g1 (printT_ne t) (by omega)
 refine ⟨[bcell σ.length true (printT t)] ++ τ, tprint_lim (n := 0) ?_⟩
 have e0 : [(V.nilp, false), ((V.slice 1 5 []), true)] = bcell σ.length false [] := rfl
 simp only [tprint, tprintF, e0]
 refine (callK_ret0 h1).trans ?_
 refine (callK_ret1 h2).trans ?_
 rw [List.append_assoc]
 rfl
theorem join_law (W : List (List UInt8)) (h1 : W.length < 2 ^ 40) (h2 : (Go.Lib.join W [32]).length < 2 ^ 40) (σ : Sto) :
  lim C 21 [(.slice 1 9 (strs (W.map ba)), false), (.str (ba [32]), false)] σ = some (.ret [(.str (ba (Go.Lib.join W [32])), false)], σ) := by
 refine lim_ext (s := joinA) (by kernel_rfl) ?_
 have hm : ((W.map ba).map fun s : ByteArray => s.data.toList) = W := by simp [Function.comp_def, ba]
 have h32 : (ba [32]).data.toList = [32] := rfl
 have e : joinB (W.map ba) (ba [32]) = ba (Go.Lib.join W [32]) := by
  unfold joinB
  rw [hm, h32]
  rfl
 rw [← e]
 exact joinA_eq (xs := W.map ba) (sep := ba [32]) (by rw [List.length_map]; omega) (by rw [hm, h32]; omega) _ _ _ _
theorem join_pars (ps : List ByteArray) : Go.Lib.join (ps.map fun s => s.data.toList) [32] = parsL ps := by
 cases ps with
 | nil => rfl
 | cons x xs =>
  rw [List.map_cons, Go.Lib.join_cons]
  simp [parsL, Go.Lib.joinTail, List.flatMap, Function.comp_def]
theorem strs_ba (ps : List ByteArray) : strs ((ps.map fun s => s.data.toList).map ba) = strs ps := by
 congr 1
 rw [List.map_map]
 conv => rhs; rw [← List.map_id ps]
 refine List.map_congr_left fun s _ => ?_
 exact ba_of s
def wordsD (d : Dc) : List (List UInt8) :=
 [kwL d.kind, d.name.data.toList, 40 :: (parsL d.pars ++ [41])] ++ (if d.kind = 3 then [decDigits d.arity] else []) ++ [printT d.type] ++ (if d.kind = 2 then [printT d.value] else [])
theorem prD_words (d : Dc) : 40 :: (Go.Lib.join (wordsD d ++ d.ctors.map ctorL) [32] ++ [41]) = prD d := by
 have e : wordsD d ++ d.ctors.map ctorL = kwL d.kind :: ([d.name.data.toList, 40 :: (parsL d.pars ++ [41])] ++ (if d.kind = 3 then [decDigits d.arity] else []) ++ [printT d.type] ++ (if d.kind = 2 then [printT d.value] else []) ++ d.ctors.map ctorL) := by
  unfold wordsD
  simp
 rw [e, Go.Lib.join_cons]
 unfold prD arL valL ctorsL Go.Lib.joinTail
 by_cases h3 : d.kind = 3
 ·simp [h3, List.flatMap, Function.comp_def]
 ·by_cases h2 : d.kind = 2
  ·simp [h2, List.flatMap, Function.comp_def]
  ·simp [h2, h3, List.flatMap, Function.comp_def]
theorem join_le (W : List (List UInt8)) : W.length ≤ (Go.Lib.join W [32]).length + 1 := by
 cases W with
 | nil => simp
 | cons x xs =>
  rw [Go.Lib.join_cons, List.length_append, Go.Lib.joinTail_length]
  simp only [List.length_cons, List.length_nil]
  omega
theorem join_mem {W : List (List UInt8)} {x : List UInt8} (h : x ∈ W) : x.length ≤ (Go.Lib.join W [32]).length := by
 have key : ∀ {W : List (List UInt8)}, x ∈ W → x.length ≤ Go.Lib.lens W := by
  intro W h
  induction W with
  | nil => simp at h
  | cons y ys ih =>
   simp only [Go.Lib.lens, List.map_cons, List.sum_cons] at ih ⊢
   rcases List.mem_cons.1 h with rfl | h
   ·omega
   ·have := ih h; omega
 cases W with
 | nil => simp at h
 | cons y ys =>
  rw [Go.Lib.join_cons, List.length_append, Go.Lib.joinTail_length]
  rcases List.mem_cons.1 h with rfl | h
  ·omega
  ·have := key h; omega
theorem ctors_getC {cs : List (ByteArray × Tm)} {i : Nat} (h : i < cs.length) : (cs.map fun c : ByteArray × Tm => V.str c.1 :: c.2.enc).getD (Int.toNat (i : Int)) [] = V.str cs[i].1 :: cs[i].2.enc := by simp [h]
theorem ctor_read (x : ByteArray) (t : Tm) : V.agg [(V.str x :: t.enc).getD 1 V.any, (V.str x :: t.enc).getD 2 V.any, (V.str x :: t.enc).getD 3 V.any, (V.str x :: t.enc).getD 4 V.any, (V.str x :: t.enc).getD 5 V.any] = t.val := by rw [t.enc_eq]; rfl
theorem close_law {W : List (List UInt8)} (hb : (Go.Lib.join W [32]).length < 2 ^ 32) {K : List Cell → Sto → Option Res} (hK : K = fun vs6 σ7 => (V.asStr (List.getD vs6 0 cellD).1).bind fun s9 =>
  (grd (strRoom (ba [40]) s9)).bind fun _ => (grd (strRoom ((ba [40]) ++ s9) (ba [41]))).bind fun _ => some (.ret [((V.str (((ba [40]) ++ s9) ++ (ba [41]))), false)], σ7)) (σ : Sto) (KP : V → Sto → Option Res) :
  callK (lim C) 21 [(.slice 1 9 (strs (W.map ba)), false), (.str (ba [32]), false)] σ 1 K KP = some (.ret [(.str (ba (40 :: (Go.Lib.join W [32] ++ [41]))), false)], σ) := by
 have hl := join_le W
 rw [callK_ret1 (join_law W (by omega) (by omega) σ), hK]
 have r1 : strRoom (ba [40]) (ba (Go.Lib.join W [32])) = true := strRoom_ok (by simp only [ba_size, List.length_cons, List.length_nil]; omega)
 have r2 : strRoom (ba ([40] ++ Go.Lib.join W [32])) (ba [41]) = true := strRoom_ok (by simp only [ba_size, List.length_cons, List.length_nil, List.length_append]; omega)
 simp only [List.getD_cons_zero, V.asStr, Option.bind_some, r1, grd, cond_true, ba_append, r2]
 simp
theorem fprint_loop {cs : List (ByteArray × Tm)} (hcs : ∀ c ∈ cs, TFine c.2) (hc0 : cs.length < 2 ^ 40) {N : Nat} : ∀ (m i : Nat) (W : List (List UInt8)) (σ : Sto), i ≤ cs.length → cs.length - i < m → (Go.Lib.join (W ++ (cs.drop i).map ctorL) [32]).length < 2 ^ 32 →
  ∃ τ, fprintl0 (lim C) N m (strs (W.map ba)) (cs.map fun c : ByteArray × Tm => V.str c.1 :: c.2.enc) cs.length i σ = some (.ret [(.str (ba (40 :: (Go.Lib.join (W ++ (cs.drop i).map ctorL) [32] ++ [41]))), false)], σ ++ τ)
 | 0, i, _, _, _, hm, _ => by omega
 | m + 1, i, W, σ, hi, hm, hb => by
  show ∃ τ, fprints0 (lim C) (fprintl0 (lim C) N m) _ _ _ _ σ = _
  unfold fprints0
  have e40 : ByteArray.mk #[40] = ba [40] := rfl
  have e41 : ByteArray.mk #[41] = ba [41] := rfl
  have e32 : ByteArray.mk #[32] = ba [32] := rfl
  have ec : ByteArray.mk #[40, 99, 116, 111, 114, 32] = ba [40, 99, 116, 111, 114, 32] := rfl
  simp only [e40, e41, e32, ec]
  by_cases hlt : i < cs.length
  ·have hx : cs.drop i = cs[i] :: cs.drop (i + 1) := List.drop_eq_getElem_cons hlt
   rw [hx, List.map_cons] at hb ⊢
   have hmem := join_mem (W := W ++ ctorL cs[i] :: (cs.drop (i + 1)).map ctorL) (x := ctorL cs[i]) (by simp)
   have hlen := join_le (W ++ ctorL cs[i] :: (cs.drop (i + 1)).map ctorL)
   simp only [List.length_append, List.length_cons] at hlen
   have hcl : (ctorL cs[i]).length = 1 + 4 + 1 + cs[i].1.data.toList.length + 1 + (printT cs[i].2).length + 1 := by
    simp only [ctorL, wctor, List.length_cons, List.length_append, List.length_nil]; omega
   have hf := hcs cs[i] (List.getElem_mem hlt)
   have hcr := ctor_read cs[i].1 cs[i].2
   rw [dlt hlt, cond_true, ctors_getC hlt, hcr, d0]
   generalize hci : cs[i] = c at *
   obtain ⟨τ2, e2⟩ := tprintS_law hf (by omega) σ
   have hsz : c.1.size = c.1.data.toList.length := by rw [← ba_size, ba_of]
   have hnm : ba c.1.data.toList = c.1 := ba_of c.1
   have ih := fprint_loop hcs hc0 (N := N) m (i + 1) (W ++ [ctorL c]) (σ ++ τ2) (by omega) (by omega) (by rw [List.append_assoc]; exact hb)
   obtain ⟨τ3, e3⟩ := ih
   refine ⟨τ2 ++ τ3, ?_⟩
   rw [← hnm]
   have r1 : strRoom (ba [40, 99, 116, 111, 114, 32]) (ba c.1.data.toList) = true := strRoom_ok (by simp only [ba_size, List.length_cons, List.length_nil]; omega)
   have r2 : strRoom (ba ([40, 99, 116, 111, 114, 32] ++ c.1.data.toList)) (ba [32]) = true := strRoom_ok (by simp only [ba_size, List.length_cons, List.length_nil, List.length_append]; omega)
   have r3 : strRoom (ba ([40, 99, 116, 111, 114, 32] ++ c.1.data.toList ++ [32])) (ba (printT c.2)) = true := strRoom_ok (by simp only [ba_size, List.length_cons, List.length_nil, List.length_append]; omega)
   have r4 : strRoom (ba ([40, 99, 116, 111, 114, 32] ++ c.1.data.toList ++ [32] ++ printT c.2)) (ba [41]) = true := strRoom_ok (by simp only [ba_size, List.length_cons, List.length_nil, List.length_append]; omega)
   have r5 : room ((strs (W.map ba)).length + 1) = true := room_ok (by rw [strs_length, List.length_map]; omega)
   have hlc : decide ((i : Int) < (((cs.map fun c : ByteArray × Tm => V.str c.1 :: c.2.enc).length : Nat) : Int)) = true := by rw [List.length_map]; exact dlt hlt
   simp only [hlc, Bool.and_self, grd, cond_true, Option.bind_some, List.getD_cons_zero, V.asStr, r1, ba_append, r2, callK_ret1 e2, r3, r4, r5, wrap_succ (show i < 2 ^ 61 by omega)]
   have ew : strs (W.map ba) ++ [[V.str (ba ([40, 99, 116, 111, 114, 32] ++ c.1.data.toList ++ [32] ++ printT c.2 ++ [41]))]] = strs ((W ++ [ctorL c]).map ba) := by
    simp [strs, ctorL, wctor]
   rw [ew]
   refine e3.trans ?_
   rw [List.append_assoc W, List.append_assoc σ]
   rfl
  ·rw [List.drop_eq_nil_of_le (by omega), List.map_nil, List.append_nil] at hb ⊢
   refine ⟨[], ?_⟩
   rw [dnlt hlt, cond_false, List.append_nil]
   exact close_law hb rfl σ _
theorem fprint_law {d : Dc} (ok : DOk d) (hb : (prD d).length < 2 ^ 32) (σ : Sto) : ∃ τ, lim C 11 [(d.val, false)] σ = some (.ret [(.str (ba (prD d)), false)], σ ++ τ) := by
 have hw := prD_words d
 have hjl : (Go.Lib.join (wordsD d ++ d.ctors.map ctorL) [32]).length + 2 = (prD d).length := by
  rw [← hw]; simp
 have hcn : d.ctors.length < 2 ^ 40 := by
  have := join_le (wordsD d ++ d.ctors.map ctorL)
  rw [List.length_append, List.length_map] at this
  omega
 have hpl : (parsL d.pars).length < 2 ^ 32 := by
  have := join_mem (W := wordsD d ++ d.ctors.map ctorL) (x := 40 :: (parsL d.pars ++ [41])) (List.mem_append_left _ (by simp [wordsD]))
  simp only [List.length_cons, List.length_append] at this
  omega
 have htl : (printT d.type).length < 2 ^ 32 := by
  have := join_mem (W := wordsD d ++ d.ctors.map ctorL) (x := printT d.type) (List.mem_append_left _ (by simp [wordsD]))
  omega
 have hvl : d.kind = 2 → (printT d.value).length < 2 ^ 32 := fun h => by
  have := join_mem (W := wordsD d ++ d.ctors.map ctorL) (x := printT d.value) (List.mem_append_left _ (by simp [wordsD, h]))
  omega
 have hpn : d.pars.length < 2 ^ 40 := by
  have := join_le (d.pars.map fun s => s.data.toList)
  rw [join_pars, List.length_map] at this
  omega
 have hlim : ∀ {σ' : Sto} {v : V}, fprint (lim C) (d.ctors.length + 1) d.kind d.name (strs d.pars) d.type.kind d.type.num d.type.name (d.type.lvs.map Lv.enc) d.type.args d.value.kind d.value.num d.value.name (d.value.lvs.map Lv.enc) d.value.args d.arity (d.ctors.map fun c => .str c.1 :: c.2.enc) σ = some (.ret [(v, false)], σ') →
   lim C 11 [(d.val, false)] σ = some (.ret [(v, false)], σ') := by
  intro σ' v h
  have e : d.val = _ := dc_val d.kind d.name d.pars d.type d.value d.arity d.ctors
  rw [e]
  exact fprint_lim h
 have e32 : ByteArray.mk #[32] = ba [32] := rfl
 have e40 : ByteArray.mk #[40] = ba [40] := rfl
 have e41 : ByteArray.mk #[41] = ba [41] := rfl
 have ew0 : ∀ k : Nat, k = 1 ∨ k = 2 ∨ k = 3 → (([[(V.str (ByteArray.mk #[]))], [(V.str (ByteArray.mk #[97, 120, 105, 111, 109]))], [(V.str (ByteArray.mk #[100, 101, 102]))], [(V.str (ByteArray.mk #[105, 110, 100, 117, 99, 116, 105, 118, 101]))]] : List (List V)).take (Int.toNat (IntKind.wrap .i64 ((k : Int) + (1 : Int))))).drop (Int.toNat (k : Int)) = strs [ba (kwL k)] ∧
   (decide (0 ≤ (k : Int)) && decide ((k : Int) ≤ (IntKind.wrap .i64 ((k : Int) + (1 : Int)))) && decide ((IntKind.wrap .i64 ((k : Int) + (1 : Int))) ≤ (4 : Nat))) = true := by
  rintro k (rfl | rfl | rfl) <;> exact ⟨rfl, by decide⟩
 obtain ⟨w1, w2⟩ := ew0 d.kind ok.kind
 have hj := join_law (d.pars.map fun s => s.data.toList) (by rw [List.length_map]; exact hpn) (by rw [join_pars]; omega) σ
 rw [strs_ba, join_pars] at hj
 have r1 : strRoom (ba [40]) (ba (parsL d.pars)) = true := strRoom_ok (by simp only [ba_size, List.length_cons, List.length_nil]; omega)
 have r2 : strRoom (ba ([40] ++ parsL d.pars)) (ba [41]) = true := strRoom_ok (by simp only [ba_size, List.length_cons, List.length_nil, List.length_append]; omega)
 have lp := fprint_loop (cs := d.ctors) (fun c hc => (ok.ctors c hc).2) hcn (N := d.ctors.length + 1) (d.ctors.length + 1) 0
 simp only [List.drop_zero] at lp
 have hnm : ba d.name.data.toList = d.name := ba_of d.name
 have w3 : ∀ (L : List (List UInt8)) (x : List UInt8), strs (L.map ba) ++ [[V.str (ba x)]] = strs ((L ++ [x]).map ba) := fun L x => by simp [strs]
 have w4 : strs [ba (kwL d.kind)] ++ [[V.str d.name], [V.str (ba ([40] ++ parsL d.pars ++ [41]))]] = strs (([kwL d.kind, d.name.data.toList, 40 :: (parsL d.pars ++ [41])] : List (List UInt8)).map ba) := by
  simp [strs, hnm]
 have rm : ∀ L : List (List UInt8), L.length < 100 → room ((strs (L.map ba)).length + 1) = true := fun L h => room_ok (by rw [strs_length, List.length_map]; omega)
 have rm0 : room ((strs [ba (kwL d.kind)]).length + 2) = true := room_ok (by rw [strs_length]; simp)
 have hkv : V.agg [(V.int .i64 d.type.kind), (V.int .i64 d.type.num), (V.str d.type.name), (V.slice 3 76 (d.type.lvs.map Lv.enc)), (V.slice 5 45 d.type.args)] = d.type.val := rfl
 have hkv2 : V.agg [(V.int .i64 d.value.kind), (V.int .i64 d.value.num), (V.str d.value.name), (V.slice 3 76 (d.value.lvs.map Lv.enc)), (V.slice 5 45 d.value.args)] = d.value.val := rfl
 have hcl : ((d.ctors.map fun c : ByteArray × Tm => V.str c.1 :: c.2.enc).length : Int) = (d.ctors.length : Int) := by rw [List.length_map]
 by_cases h3 : d.kind = 3
 ·have k3 : ((d.kind : Int) == 3) = true := by rw [h3]; rfl
  have k2 : ((d.kind : Int) == 2) = false := by rw [h3]; rfl
  have hit := itoa_law d.arity (by have := ok.arity; omega) σ
  obtain ⟨τ1, e1⟩ := tprintS_law ok.type htl σ
  obtain ⟨τ2, e2⟩ := lp ([kwL d.kind, d.name.data.toList, 40 :: (parsL d.pars ++ [41])] ++ [decDigits d.arity] ++ [printT d.type]) (σ ++ τ1) (Nat.zero_le _) (by omega) (by
   have : wordsD d = [kwL d.kind, d.name.data.toList, 40 :: (parsL d.pars ++ [41])] ++ [decDigits d.arity] ++ [printT d.type] := by simp [wordsD, h3]
   rw [← this]; omega)
  have hwd : wordsD d = [kwL d.kind, d.name.data.toList, 40 :: (parsL d.pars ++ [41])] ++ [decDigits d.arity] ++ [printT d.type] := by simp [wordsD, h3]
  rw [← hwd, hw] at e2
  refine ⟨τ1 ++ τ2, hlim ?_⟩
  simp only [fprint, fprintF, w1, w2, e32, e40, e41, List.length_cons, List.length_nil, grd, cond_true, Option.bind_some, decide_true, callK_ret1 hj, List.getD_cons_zero, V.asStr, r1, ba_append, r2, rm0, k3, callK_ret1 hit, str_fits, Bool.and_self, w4, rm _ (show ([kwL d.kind, d.name.data.toList, 40 :: (parsL d.pars ++ [41])] : List (List UInt8)).length < 100 by simp), hkv, callK_ret1 e1, w3]
  rw [rm _ (show ([kwL d.kind, d.name.data.toList, 40 :: (parsL d.pars ++ [41])] ++ [decDigits d.arity] : List (List UInt8)).length < 100 by simp)]
  simp only [cond_true, Option.bind_some, k2, cond_false, hcl]
  rw [← hwd, ← List.append_assoc σ]
  exact e2
 ·have k3 : ((d.kind : Int) == 3) = false := by rw [beq_eq_false_iff_ne]; omega
  obtain ⟨τ1, e1⟩ := tprintS_law ok.type htl σ
  by_cases h2 : d.kind = 2
  ·have k2 : ((d.kind : Int) == 2) = true := by rw [h2]; rfl
   obtain ⟨τ2, e2⟩ := tprintS_law ok.value (hvl h2) (σ ++ τ1)
   have hwd : wordsD d = [kwL d.kind, d.name.data.toList, 40 :: (parsL d.pars ++ [41])] ++ [printT d.type] ++ [printT d.value] := by simp [wordsD, h2]
   obtain ⟨τ3, e3⟩ := lp ([kwL d.kind, d.name.data.toList, 40 :: (parsL d.pars ++ [41])] ++ [printT d.type] ++ [printT d.value]) (σ ++ τ1 ++ τ2) (Nat.zero_le _) (by omega) (by rw [← hwd]; omega)
   rw [← hwd, hw] at e3
   refine ⟨τ1 ++ τ2 ++ τ3, hlim ?_⟩
   simp only [fprint, fprintF, w1, w2, e32, e40, e41, List.length_cons, List.length_nil, grd, cond_true, cond_false, Option.bind_some, decide_true, callK_ret1 hj, List.getD_cons_zero, V.asStr, r1, ba_append, r2, rm0, k3, str_fits, Bool.and_self, w4, rm _ (show ([kwL d.kind, d.name.data.toList, 40 :: (parsL d.pars ++ [41])] : List (List UInt8)).length < 100 by simp), hkv, callK_ret1 e1, w3, k2, hkv2, callK_ret1 e2]
   rw [rm _ (show ([kwL d.kind, d.name.data.toList, 40 :: (parsL d.pars ++ [41])] ++ [printT d.type] : List (List UInt8)).length < 100 by simp)]
   simp only [cond_true, Option.bind_some, hcl]
   rw [← hwd, ← List.append_assoc σ, ← List.append_assoc σ]
   exact e3
  ·have k2 : ((d.kind : Int) == 2) = false := by rw [beq_eq_false_iff_ne]; omega
   have hwd : wordsD d = [kwL d.kind, d.name.data.toList, 40 :: (parsL d.pars ++ [41])] ++ [printT d.type] := by simp [wordsD, h2, h3]
   obtain ⟨τ3, e3⟩ := lp ([kwL d.kind, d.name.data.toList, 40 :: (parsL d.pars ++ [41])] ++ [printT d.type]) (σ ++ τ1) (Nat.zero_le _) (by omega) (by rw [← hwd]; omega)
   rw [← hwd, hw] at e3
   refine ⟨τ1 ++ τ3, hlim ?_⟩
   simp only [fprint, fprintF, w1, w2, e32, e40, e41, List.length_cons, List.length_nil, grd, cond_true, cond_false, Option.bind_some, decide_true, callK_ret1 hj, List.getD_cons_zero, V.asStr, r1, ba_append, r2, rm0, k3, str_fits, Bool.and_self, w4, rm _ (show ([kwL d.kind, d.name.data.toList, 40 :: (parsL d.pars ++ [41])] : List (List UInt8)).length < 100 by simp), hkv, callK_ret1 e1, w3, k2, hcl]
   rw [← hwd, ← List.append_assoc σ]
   exact e3
theorem bldEmpty_law {σ : Sto} {b : Nat} {u : Bool} (h : σ[b]? = some (bcell b u [])) : lim C 12 [(.ptr 53 b 0, false)] σ = some (.ret [(.str (ba []), false)], σ) := by
 refine lim_ext (s := bldStringE 53 5) (by kernel_rfl) ?_
 unfold bldStringE
 simp only
 rw [h]
 rfl
theorem dc_getD {ds : List Dc} {i : Nat} (h : i < ds.length) : (ds.map Dc.enc).getD (Int.toNat (i : Int)) [] = ds[i].enc := by simp [h]
theorem dc_read (d : Dc) : V.agg [d.enc.getD 0 V.any, d.enc.getD 1 V.any, d.enc.getD 2 V.any, d.enc.getD 3 V.any, d.enc.getD 4 V.any, d.enc.getD 5 V.any, d.enc.getD 6 V.any, d.enc.getD 7 V.any, d.enc.getD 8 V.any, d.enc.getD 9 V.any, d.enc.getD 10 V.any, d.enc.getD 11 V.any, d.enc.getD 12 V.any, d.enc.getD 13 V.any, d.enc.getD 14 V.any] = d.val := by
 have h := d.enc_len
 unfold Dc.val
 congr 1
 generalize d.enc = l at h ⊢
 match l, h with
 | [_, _, _, _, _, _, _, _, _, _, _, _, _, _, _], _ => rfl
theorem fprintAll_loop {ds : List Dc} (hok : ∀ d ∈ ds, DOk d) (hn : ds.length < 2 ^ 40) {N b : Nat} : ∀ (m i : Nat) (σ : Sto) (u : Bool) (X : List UInt8), i ≤ ds.length → ds.length - i < m → σ[b]? = some (bcell b u X) → (u = false → X = []) → X.length + (prF (ds.drop i)).length < 2 ^ 32 →
  ∃ σ', fprintAlll0 (lim C) N m b (ds.map Dc.enc) ds.length i σ = some (.ret [(.str (ba (X ++ prF (ds.drop i))), false)], σ')
 | 0, i, _, _, _, _, hm, _, _, _ => by omega
 | m + 1, i, σ, u, X, hi, hm, hσ, hu, hs => by
  show ∃ σ', fprintAlls0 (lim C) (fprintAlll0 (lim C) N m) _ _ _ _ σ = _
  unfold fprintAlls0
  by_cases hlt : i < ds.length
  ·have hx : ds.drop i = ds[i] :: ds.drop (i + 1) := List.drop_eq_getElem_cons hlt
   have hpf : ∀ (d : Dc) (l : List Dc), prF (d :: l) = prD d ++ 10 :: prF l := fun d l => by simp [prF]
   rw [hx, hpf] at hs ⊢
   simp only [List.length_append, List.length_cons] at hs
   obtain ⟨τ, e1⟩ := fprint_law (hok ds[i] (List.getElem_mem hlt)) (by omega) σ
   have e2 := wstring_law (get_more (τ := τ) hσ) (prD ds[i] ++ [10]) (by simp; omega)
   obtain ⟨σ', e3⟩ := fprintAll_loop hok hn (N := N) (b := b) m (i + 1) _ true (X ++ (prD ds[i] ++ [10])) (by omega) (by omega) (set_got (get_more (τ := τ) hσ)) (fun h => by simp at h) (by simp at hs ⊢; omega)
   refine ⟨σ', ?_⟩
   have e10 : ByteArray.mk #[10] = ba [10] := rfl
   have hr : strRoom (ba (prD ds[i])) (ba [10]) = true := strRoom_ok (by simp [ba_size]; omega)
   rw [dlt hlt, cond_true, dc_getD hlt, dc_read, d0, List.length_map, dlt hlt, e10]
   simp only [Bool.and_self, grd, cond_true, Option.bind_some, callK_ret1 e1, List.getD_cons_zero, V.asStr, hr, ba_append, callK_ret2 e2, wrap_succ (show i < 2 ^ 61 by omega)]
   refine Eq.trans e3 ?_
   simp
  ·rw [List.drop_eq_nil_of_le (by omega)] at hs ⊢
   rw [dnlt hlt, cond_false]
   have hp0 : prF [] = [] := rfl
   rw [hp0, List.append_nil]
   have e1 : lim C 12 [(.ptr 53 b 0, false)] σ = some (.ret [(.str (ba X), false)], σ) := by
    by_cases hX : X = []
    ·subst hX; exact bldEmpty_law hσ
    ·cases u with
     | false => exact absurd (hu rfl) hX
     | true => exact bldString_law hσ hX (by omega)
   exact ⟨σ, (callK_ret1 e1).trans rfl⟩
theorem fprintAll_law {ds : List Dc} (hok : ∀ d ∈ ds, DOk d) (hn : ds.length < 2 ^ 40) (hb : (prF ds).length < 2 ^ 32) (o : Bool) (σ : Sto) : ∃ σ', lim C 5 [(.slice 15 48 (ds.map Dc.enc), o)] σ = some (.ret [(.str (ba (prF ds)), false)], σ') := by
 obtain ⟨σ', h⟩ := fprintAll_loop hok hn (N := ds.length + 1) (b := σ.length) (ds.length + 1) 0 (σ ++ [bcell σ.length false []]) false [] (Nat.zero_le _) (by omega) (by simp) (fun _ => rfl) (by simpa using hb)
 refine ⟨σ', fprintAll_lim (n := ds.length + 1) ?_⟩
 rw [List.drop_zero, List.nil_append] at h
 unfold fprintAll fprintAllF
 rw [List.length_map]
 exact h
end Go.Ab.Mk
end
section
set_option maxRecDepth 100000
namespace Go.Ab.Mq
open Go.Proofs Go.Ab
open List (getD)
open IntKind (wrap)
def TL : List (TypeId × TI) := [
 (0, ⟨(.tuple 0), 1, 0, [V.any]⟩),
 (3, ⟨(.int .i64), 1, 8, [(V.int .i64 (0 : Int))]⟩),
 (4, ⟨.bool, 1, 1, [V.bool false]⟩),
 (9, ⟨.string, 1, 16, [V.str ⟨#[]⟩]⟩),
 (22, ⟨(.slice 29), 1, 24, [V.slice 6 29 []]⟩),
 (23, ⟨(.slice 48), 1, 24, [V.slice 15 48 []]⟩),
 (25, ⟨.iface, 1, 16, [V.nilIface]⟩),
 (26, ⟨(.tuple 2), 1, 0, [V.any]⟩),
 (29, ⟨(.struct [(0, 3), (1, 9), (2, 9), (3, 9), (4, 3), (5, 3)]), 6, 72, [(V.int .i64 (0 : Int)), V.str ⟨#[]⟩, V.str ⟨#[]⟩, V.str ⟨#[]⟩, (V.int .i64 (0 : Int)), (V.int .i64 (0 : Int))]⟩),
 (41, ⟨(.slice 9), 1, 24, [V.slice 1 9 []]⟩),
 (42, ⟨(.slice 76), 1, 24, [V.slice 3 76 []]⟩),
 (43, ⟨(.slice 45), 1, 24, [V.slice 5 45 []]⟩),
 (45, ⟨(.struct [(0, 3), (1, 3), (2, 9), (3, 42), (4, 43)]), 5, 80, [(V.int .i64 (0 : Int)), (V.int .i64 (0 : Int)), V.str ⟨#[]⟩, V.slice 3 76 [], V.slice 5 45 []]⟩),
 (46, ⟨(.slice 63), 1, 24, [V.slice 6 63 []]⟩),
 (48, ⟨(.struct [(0, 3), (1, 9), (2, 41), (3, 45), (8, 45), (13, 3), (14, 46)]), 15, 240, [(V.int .i64 (0 : Int)), V.str ⟨#[]⟩, V.slice 1 9 [], (V.int .i64 (0 : Int)), (V.int .i64 (0 : Int)), V.str ⟨#[]⟩, V.slice 3 76 [], V.slice 5 45 [], (V.int .i64 (0 : Int)), (V.int .i64 (0 : Int)), V.str ⟨#[]⟩, V.slice 3 76 [], V.slice 5 45 [], (V.int .i64 (0 : Int)), V.slice 6 63 []]⟩),
 (63, ⟨(.struct [(0, 9), (1, 45)]), 6, 96, [V.str ⟨#[]⟩, (V.int .i64 (0 : Int)), (V.int .i64 (0 : Int)), V.str ⟨#[]⟩, V.slice 3 76 [], V.slice 5 45 []]⟩),
 (76, ⟨(.struct [(0, 3), (1, 9), (2, 42)]), 3, 48, [(V.int .i64 (0 : Int)), V.str ⟨#[]⟩, V.slice 3 76 []]⟩)]
noncomputable def fileReadsH : Hints := { keep := fun i => if i = 0 then [0, 5] else [], ep := [34, 35] }
noncomputable def fileReadsC : Code := Tryd.f3.body.getD .skip
noncomputable def fileReadsD : FDef := ⟨Tryd.f3, fileReadsC, fileReadsH⟩
noncomputable def FL : List (FuncId × FDef) := [(3, fileReadsD)]
noncomputable def C : Ctx := { T := look TL, glob := fun g => if g = 0 then some [V.str ⟨#[]⟩, V.str ⟨#[115, 111, 114, 116]⟩, V.str ⟨#[99, 111, 110, 115, 116]⟩, V.str ⟨#[97, 112, 112]⟩, V.str ⟨#[108, 97, 109]⟩, V.str ⟨#[112, 105]⟩, V.str ⟨#[108, 101, 116]⟩] else if g = 5 then some [V.str ⟨#[]⟩, V.str ⟨#[115]⟩, V.str ⟨#[109, 97, 120]⟩, V.str ⟨#[105, 109, 97, 120]⟩] else if g = 4 then some (Go.Lib.pow10Tab.map fun z => V.int .u64 z) else if g = 1 then some [V.iface 109 V.any] else none, ext := fun f => if f = 4 then some (Mk.fparseS (lim Mk.C)) else if f = 5 then some (lim Mk.C 5) else none, fdef := lookF FL }
theorem typesOk : ∀ t i, C.T t = some i → TOk Tryd.prog t i := look_ok (by kernel_rfl)
theorem ctxOk : CtxOk Tryd.prog C where
 mixed := by kernel_rfl
 T := typesOk
 fdef := by
  refine lookF_ok (P := Tryd.prog) (Q := fun f d => Tryd.prog.funcs[f]? = some d.fn ∧ d.fn.body = some d.code ∧ (∀ (args : Array Value) (w : World), (callFunc f args).run Tryd.prog w = .ok (.enter f args) w)) (L := FL) ?_
  intro p hp
  simp only [FL, List.mem_cons, List.not_mem_nil, or_false] at hp
  rcases hp with rfl
  ·exact ⟨Tryd.func3, by kernel_rfl, fun args w => Tryd.call3 args w⟩
 pure := by
  refine lookF_ok (P := Tryd.prog) (Q := fun _ d => ∀ g, d.hints.pureF.contains g = true → ∃ s, C.ext g = some s ∧ ∀ args vs, s args [] = some (.ret vs, []) → ∀ σ, s args σ = some (.ret vs, σ)) (L := FL) ?_
  intro p hp
  simp only [FL, List.mem_cons, List.not_mem_nil, or_false] at hp
  rcases hp with rfl
  ·intro g hg; exact absurd hg (by show ¬ ([] : List FuncId).contains g = true; simp)
end Go.Ab.Mq
end
section
set_option maxRecDepth 100000
namespace Go.Ab.Mq
open Go.Proofs Go.Ab
open List (getD)
open IntKind (wrap)
noncomputable def fileReadsk0 : List Nat := [0, 5]
noncomputable def fileReadss0 (call : CallF) (rec0 : LL → Int → RR) (b : LL) (a : Int) (σ : Sto) : Option Res :=
 bif (decide (a < (b.length : Int))) then
 bif (decide (a < (1152921504606846976 : Int))) then
 (grd (decide (0 ≤ a) && decide (a < b.length))).bind fun _ =>
 callK call 4 [((getD (getD b a.toNat []) 1 V.any), false)] σ 2 (fun d g =>
 (V.ifaceNil (getD d 1 cellD).1).bind fun b4 =>
 bif (!b4) then
 rec0 b (wrap .i64 (a + (1 : Int))) g
 else
 callK call 5 [((getD d 0 cellD).1, false)] g 1 (fun e h =>
 (V.asStr (getD e 0 cellD).1).bind fun s8 =>
 bif (decide ((s8.size : Int) > (200000 : Int))) then
 rec0 b (wrap .i64 (a + (1 : Int))) h
 else
 callK call 4 [((getD e 0 cellD).1, false)] h 2 (fun f i =>
 callK call 5 [((getD f 0 cellD).1, false)] i 1 (fun j c =>
 (V.ifaceNil (getD f 1 cellD).1).bind fun b15 =>
 bif (!b15) then
 some (.ret [(V.bool false, false)], c)
 else
 (V.asStr (getD j 0 cellD).1).bind fun s16 =>
 (V.asStr (getD e 0 cellD).1).bind fun s17 =>
 bif (!(s16.toList == s17.toList)) then
 some (.ret [(V.bool false, false)], c)
 else
 (V.asSlice (getD f 0 cellD).1 15 48).bind fun l18 =>
 (V.asSlice (getD d 0 cellD).1 15 48).bind fun l19 =>
 bif ((l18.length : Int) != (l19.length : Int)) then
 some (.ret [(V.bool false, false)], c)
 else
 rec0 b (wrap .i64 (a + (1 : Int))) c) pnK) pnK) pnK) pnK
 else
 some (.ret [(V.bool true, false)], σ)
 else
 some (.ret [(V.bool true, false)], σ)
noncomputable def fileReadsl0 (call : CallF) (n : Nat) : Nat → LL → Int → RR
 | 0 => fun _ _ _ => none
 | m + 1 => fileReadss0 call (fileReadsl0 call n m)
noncomputable def fileReadst0 (a : LL) (b : Int) (σ : Sto) : St := ⟨[.val (V.slice 6 29 a) false] ++ dd 4 ([.val (V.int .i64 b) false] ++ dd 62 []), nn 68 [], σ⟩
noncomputable def fileReadsF (call : CallF) (L0 : LL → Int → RR) (c : LL) (σ : Sto) : Option Res :=
 callK call 4 [(V.str ⟨#[40, 97, 120, 105, 111, 109, 32, 65, 32, 40, 117, 41, 32, 40, 115, 111, 114, 116, 32, 117, 41, 41]⟩, false)] σ 2 (fun b a =>
 (V.ifaceNil (getD b 1 cellD).1).bind fun b4 =>
 bif (!b4) then
 some (.ret [(V.bool false, false)], a)
 else
 (V.asSlice (getD b 0 cellD).1 15 48).bind fun l5 =>
 bif ((l5.length : Int) != (1 : Int)) then
 some (.ret [(V.bool false, false)], a)
 else
 L0 c (0 : Int) a) pnK
noncomputable def fileReads (call : CallF) (n : Nat) (a : LL) (σ : Sto) : Option Res := fileReadsF call (fileReadsl0 call n n) a σ
theorem fileReadss0_eq (call : CallF) (n : Nat) (F0 : St → Option Res) (a : LL) (b : Int) (σ : Sto) :
  aexec C fileReadsH call n (cp [0,0,1,0,1,1,1] fileReadsC) 0 (fileReadst0 a b σ) (kloop fileReadsk0 F0 (kblk 0 (kseq (fun st' => aexec C fileReadsH call n (cp [1,1,1,1] fileReadsC) 0 st' (kfin C fileReadsD)) (kfin C fileReadsD)))) =
  fileReadss0 call (fun a b σ => F0 (fileReadst0 a b σ)) a b σ := by kernel_rfl
theorem fileReadsl0_eq (call : CallF) (n : Nat) : ∀ (m : Nat) (a : LL) (b : Int) (σ : Sto),
  aloop (fun st K => aexec C fileReadsH call n (cp [0,0,1,0,1,1,1] fileReadsC) 0 st K) fileReadsk0 m (fileReadst0 a b σ) (kblk 0 (kseq (fun st' => aexec C fileReadsH call n (cp [1,1,1,1] fileReadsC) 0 st' (kfin C fileReadsD)) (kfin C fileReadsD))) = fileReadsl0 call n m a b σ
 | 0, a, b, σ => rfl
 | m + 1, a, b, σ => by
  rw [aloop, fileReadss0_eq]
  simp only [fileReadsl0_eq call n m]
  rfl
theorem fileReads_eqF (call : CallF) (n : Nat) (a : LL) (σ : Sto) : afun C fileReadsD call n [(V.slice 6 29 a, false)] σ =
  fileReadsF call (fun a b σ => aloop (fun st K => aexec C fileReadsH call n (cp [0,0,1,0,1,1,1] fileReadsC) 0 st K) fileReadsk0 n (fileReadst0 a b σ) (kblk 0 (kseq (fun st' => aexec C fileReadsH call n (cp [1,1,1,1] fileReadsC) 0 st' (kfin C fileReadsD)) (kfin C fileReadsD)))) a σ := by kernel_rfl
theorem fileReads_eq (call : CallF) (n : Nat) (a : LL) (σ : Sto) : afun C fileReadsD call n [(V.slice 6 29 a, false)] σ = fileReads call n a σ := by
 rw [fileReads_eqF]
 simp only [fileReadsl0_eq]
 rfl
theorem fileReads_lim {n : Nat} {a : LL} {b0 : Bool} {σ : Sto} {r : Res} (h : fileReads (lim C) n a σ = some r) : lim C 3 [(V.slice 6 29 a, b0)] σ = some r :=
 lim_of (d := fileReadsD) (by kernel_rfl) (by kernel_rfl) n (show afun C fileReadsD (lim C) n [(V.slice 6 29 a, false)] σ = some r from (fileReads_eq (lim C) n a σ).trans h)
end Go.Ab.Mq
end
section
namespace Go.Ab
open Go.ChangeShapes Go.WideShapes
def G0 (w : World) (B : Nat) : Gh := { N := 0, μ := id, lim := fun i => if i < w.heap.size then B else 0, owner := fun _ => none, ty := fun _ => 0 }
theorem G0_wf (w : World) (B : Nat) : WF (G0 w B) w := fun i hi => ⟨if_neg (by omega), rfl⟩
theorem below_of_ext {w w' : World} {B : Nat} {G' : Gh} (h : Ext (G0 w B) w G' w') : RowKit.Below w.heap.size w w' := ⟨h.os, h.tape, h.output, h.size, fun k hk => (h.old k hk rfl).1⟩
theorem G0_clean (w : World) (B n : Nat) : Clean (G0 w B) n := fun i p hp => by simp [G0] at hp
theorem G0_sinv {gl : Nat → Option (List V)} {w : World} {B : Nat} (h : ∀ (g : Nat) (cs : List V), gl g = some cs → Rel (G0 w B) w (.eptr cs.length cs 0) (.pointer (some ⟨g, 0, none⟩))) (hs : ∀ (g : Nat) (cs : List V), gl g = some cs → 0 < B ∧ ∃ cv el fr, w.heap[g]? = some (.cells cv el fr) ∧ cv.size = cs.length) : SInv gl (G0 w B) w [] :=
 ⟨G0_wf w B, h, rfl, fun b hb => by simp at hb, fun b cs hb => by simp at hb, fun g cs hg => (by
  obtain ⟨k0, cv, el, fr, k1, k2⟩ := hs g cs hg
  refine ⟨rfl, ?_, cv, el, fr, k1, k2⟩
  show 0 < if g < w.heap.size then B else 0
  rw [if_pos (Array.getElem?_eq_some_iff.1 k1).1]
  exact k0)⟩
structure OpV where
 k : Int
 s : ByteArray
 t : ByteArray
 u : ByteArray
 a : Int
 b : Int
def OpV.enc (o : OpV) : List V := [.int .i64 o.k, .str o.s, .str o.t, .str o.u, .int .i64 o.a, .int .i64 o.b]
def OpV.vals (o : OpV) : List Value := [.int .i64 o.k, .string o.s, .string o.t, .string o.u, .int .i64 o.a, .int .i64 o.b]
structure OpV.Fits (o : OpV) : Prop where
 s : o.s.size ≤ maxLen
 t : o.t.size ≤ maxLen
 u : o.u.size ≤ maxLen
 a : (Lit.int .i64 o.a).wf = true
 b : (Lit.int .i64 o.b).wf = true
def OpV.data {H : Type} (o : OpV) : DataW H := .agg [.lit (.int .i64 o.k), .lit (.string o.s.data.toList), .lit (.string o.t.data.toList), .lit (.string o.u.data.toList), .lit (.int .i64 o.a), .lit (.int .i64 o.b)]
section
variable {H : Type} {enc : TypeId × Value → H} {P : Program} {W : World} {sp : Nat → Bool} {held : Bool}
structure OpTy (P : Program) (tS tOp tInt tStr : TypeId) : Prop where
 hS : P.underlying tS = some (.slice tOp)
 hOp : ∃ fs, P.underlying tOp = some (.struct fs) ∧ fs.toList.map (fun f => (f.type, f.offset)) = [(tInt, 0), (tStr, 1), (tStr, 2), (tStr, 3), (tInt, 4), (tInt, 5)]
 hInt : P.underlying tInt = some (.int .i64)
 hStr : P.underlying tStr = some .string
 cOp : P.cellsOf tOp = 6
 cInt : P.cellsOf tInt = 1
 cStr : P.cellsOf tStr = 1
theorem op_read {tS tOp tInt tStr : TypeId} (T : OpTy P tS tOp tInt tStr) {n : Nat} {cs : List Value} {x : DataW H × List MemPlace} (h : DataW.trod enc P W 0 sp held n tOp cs = some x) :
  ∃ o : OpV, cs = o.vals ∧ o.Fits ∧ x.1 = o.data := by
 obtain ⟨fs, hu, hf⟩ := T.hOp
 obtain ⟨xs, m, _, hx, hl, hxl, hall⟩ := DataW.trod_struct hu h
 rw [T.cOp] at hl
 have hfl : fs.toList.length = 6 := by have := congrArg List.length hf; simpa using this
 have fget : ∀ (i : Nat) (ty : TypeId) (off : Nat), (fs.toList.map (fun f => (f.type, f.offset)))[i]? = some (ty, off) → DataW.trod enc P W 0 sp held m ty ((cs.drop off).take (P.cellsOf ty)) = xs[i]? := by
  intro i ty off hi
  simp only [List.getElem?_map, Option.map_eq_some_iff] at hi
  obtain ⟨f, h1, h2⟩ := hi
  have := hall i f (by simpa using h1)
  simp only [Prod.mk.injEq] at h2
  rw [h2.1, h2.2] at this
  exact this
 obtain ⟨c0, c1, c2, c3, c4, c5, rfl⟩ : ∃ c0 c1 c2 c3 c4 c5, cs = [c0, c1, c2, c3, c4, c5] := by
  match cs, hl with
  | [c0, c1, c2, c3, c4, c5], _ => exact ⟨c0, c1, c2, c3, c4, c5, rfl⟩
 ·have hxs : xs.length = 6 := by rw [hxl]; simpa using hfl
  obtain ⟨x0, x1, x2, x3, x4, x5, rfl⟩ : ∃ x0 x1 x2 x3 x4 x5, xs = [x0, x1, x2, x3, x4, x5] := by
   match xs, hxs with
   | [x0, x1, x2, x3, x4, x5], _ => exact ⟨x0, x1, x2, x3, x4, x5, rfl⟩
  have e0 := fget 0 tInt 0 (by rw [hf]; rfl)
  have e1 := fget 1 tStr 1 (by rw [hf]; rfl)
  have e2 := fget 2 tStr 2 (by rw [hf]; rfl)
  have e3 := fget 3 tStr 3 (by rw [hf]; rfl)
  have e4 := fget 4 tInt 4 (by rw [hf]; rfl)
  have e5 := fget 5 tInt 5 (by rw [hf]; rfl)
  rw [T.cInt] at e0 e4 e5
  rw [T.cStr] at e1 e2 e3
  ·obtain ⟨n0, h0, y0, _⟩ := DataW.trod_int T.hInt (e0.trans rfl)
   obtain ⟨s1, h1, y1, g1⟩ := DataW.trod_string T.hStr (e1.trans rfl)
   obtain ⟨s2, h2, y2, g2⟩ := DataW.trod_string T.hStr (e2.trans rfl)
   obtain ⟨s3, h3, y3, g3⟩ := DataW.trod_string T.hStr (e3.trans rfl)
   obtain ⟨n4, h4, y4, g4⟩ := DataW.trod_int T.hInt (e4.trans rfl)
   obtain ⟨n5, h5, y5, g5⟩ := DataW.trod_int T.hInt (e5.trans rfl)
   simp at h0 h1 h2 h3 h4 h5
   subst h0 h1 h2 h3 h4 h5
   refine ⟨⟨n0, s1, s2, s3, n4, n5⟩, rfl, ⟨g1, g2, g3, g4, g5⟩, ?_⟩
   rw [hx, y0, y1, y2, y3, y4, y5]
   rfl
theorem script_rel {tS tOp tInt tStr : TypeId} (T : OpTy P tS tOp tInt tStr) {b0 : Nat} {v : Value} {d : DataW H} {ps : List MemPlace} (hval : Value.okWide P W .any b0 tS v) (h : DataW.Trod enc P W 0 sp held tS v d ps) :
  ∃ (L : List OpV) (B0 : Nat), (∀ B, B0 ≤ B → Rel (G0 W B) W (.slice 6 tOp (L.map OpV.enc)) v) ∧ L.length ≤ maxLen ∧ (∀ o ∈ L, o.Fits) ∧ ((d = .nil ∧ L = []) ∨ ∃ rest, d = .slice (L.map OpV.data) rest) := by
 obtain ⟨fuel, hd⟩ := h
 rcases DataW.trod_slice T.hS hd with ⟨h0, h1⟩ | ⟨a, len, cap, elems, rest, n, _, hcs, hx, _, hlc, hm, hlen, hel, _, _⟩
 ·have hv : v = .slice none 0 0 := by
   have hk : Value.okWide P W .any b0 tS v := hval
   unfold Value.okWide at hk
   rw [T.hS] at hk
   cases v <;> simp [Value.cells] at h0 <;> first | exact congr (congr (congrArg Value.slice h0.1) h0.2.1) h0.2.2 | skip
   all_goals (simp [Cell.okWide, Cell.ok, T.hS] at hk)
  subst hv
  simp only [Prod.mk.injEq] at h1
  exact ⟨[], 0, fun B _ => .snil _ _, Nat.zero_le _, by simp, .inl ⟨h1.1, rfl⟩⟩
 ·have hv : v = .slice (some a) len cap := by
   have hk : Value.okWide P W .any b0 tS v := hval
   unfold Value.okWide at hk
   rw [T.hS] at hk
   cases v <;> simp [Value.cells] at hcs <;> first | exact congr (congr (congrArg Value.slice hcs.1) hcs.2.1) hcs.2.2 | skip
   all_goals (simp [Cell.okWide, Cell.ok, T.hS] at hk)
  subst hv
  have hk : Cell.ok P W .any b0 tS (.slice (some a) len cap) := by
   have hk : Value.okWide P W .any b0 tS (.slice (some a) len cap) := hval
   unfold Value.okWide at hk
   rw [T.hS] at hk
   simpa [Cell.okWide, T.hS] using hk
  simp only [Cell.ok, T.hS] at hk
  obtain ⟨_, _, _, hsp, row, cells, hshape, _⟩ := hk
  obtain ⟨b, off, spot⟩ := a
  simp only at hsp hshape
  subst hsp
  have hblt : b < W.heap.size := by
   rcases Nat.lt_or_ge b W.heap.size with h | h
   ·exact h
   ·simp [World.shape?, Array.getElem?_eq_none h] at hshape
  have each : ∀ i, i < len → ∃ o : OpV, o.Fits ∧ (elems[i]?).map (·.1) = some o.data ∧ ∀ j, j < 6 → W.cell? ⟨b, off + i * 6 + j, none⟩ = o.vals[j]? := by
   intro i hi
   have he := hel i hi
   obtain ⟨y, hy⟩ : ∃ y, elems[i]? = some y := ⟨elems[i], List.getElem?_eq_getElem (by omega)⟩
   rw [hy, Option.bind_eq_some_iff, T.cOp, add_plain] at he
   obtain ⟨cs, hc, ht⟩ := he
   obtain ⟨o, rfl, hf, hdat⟩ := op_read T ht
   refine ⟨o, hf, by rw [hy, ← hdat]; rfl, fun j hj => ?_⟩
   have := (World.cells?_some hc).2.2 j hj
   rw [add_plain] at this
   exact this
  classical
  let f : Nat → OpV := fun i => if h : i < len then (each i h).choose else ⟨0, default, default, default, 0, 0⟩
  have hf : ∀ i, i < len → (f i).Fits ∧ (elems[i]?).map (·.1) = some (f i).data ∧ ∀ j, j < 6 → W.cell? ⟨b, off + i * 6 + j, none⟩ = (f i).vals[j]? := by
   intro i hi
   simp only [f, dif_pos hi]
   exact (each i hi).choose_spec
  refine ⟨(List.range len).map f, off + len * 6, fun B hB => ?_, by simp; omega, fun o ho => ?_, .inr ⟨rest.map (·.1), ?_⟩⟩
  ·have := Rel.slice (G := G0 W B) (w := W) 6 tOp (((List.range len).map f).map OpV.enc) b off cap (((List.range len).map f).map OpV.vals) (by simp) (by simpa using hlc)
    (by simp only [G0, List.length_map, List.length_range, if_pos hblt]; exact hB)
    (fun i e he => by
     simp only [List.getElem?_map, Option.map_eq_some_iff] at he
     obtain ⟨_, _, rfl⟩ := he
     rfl)
    (fun i e he => by
     simp only [List.getElem?_map, Option.map_eq_some_iff] at he
     obtain ⟨_, _, rfl⟩ := he
     rfl)
    (fun i j x c hx hc => by
     simp only [List.getElem?_map, Option.map_eq_some_iff] at hx
     obtain ⟨o, ⟨k, hk, rfl⟩, rfl⟩ := hx
     obtain ⟨hk1, hk2⟩ := List.getElem?_eq_some_iff.1 hk
     simp only [List.length_range] at hk1
     simp only [List.getElem_range] at hk2
     subst hk2
     have hj : j < 6 := by have := (List.getElem?_eq_some_iff.1 hc).1; exact this
     refine ⟨by rw [(hf i hk1).2.2 j hj]; exact hc, ?_⟩
     match j, hj with
     | 0, _ => simp [OpV.vals] at hc; subst hc; rfl
     | 1, _ => simp [OpV.vals] at hc; subst hc; rfl
     | 2, _ => simp [OpV.vals] at hc; subst hc; rfl
     | 3, _ => simp [OpV.vals] at hc; subst hc; rfl
     | 4, _ => simp [OpV.vals] at hc; subst hc; rfl
     | 5, _ => simp [OpV.vals] at hc; subst hc; rfl)
    (fun i j e x v c he hx hv hc => by
     simp only [List.getElem?_map, Option.map_eq_some_iff] at he hx
     obtain ⟨o, ⟨k, hk, rfl⟩, rfl⟩ := hx
     obtain ⟨o', ⟨k', hk', rfl⟩, rfl⟩ := he
     rw [hk] at hk'
     obtain rfl := Option.some.inj hk'
     match j with
     | 0 => simp [OpV.vals, OpV.enc] at hc hv; subst hc; subst hv; exact .int _ _
     | 1 => simp [OpV.vals, OpV.enc] at hc hv; subst hc; subst hv; exact .str _
     | 2 => simp [OpV.vals, OpV.enc] at hc hv; subst hc; subst hv; exact .str _
     | 3 => simp [OpV.vals, OpV.enc] at hc hv; subst hc; subst hv; exact .str _
     | 4 => simp [OpV.vals, OpV.enc] at hc hv; subst hc; subst hv; exact .int _ _
     | 5 => simp [OpV.vals, OpV.enc] at hc hv; subst hc; subst hv; exact .int _ _
     | j + 6 => simp [OpV.vals] at hc)
   simpa using this
  ·simp only [List.mem_map, List.mem_range] at ho
   obtain ⟨i, hi, rfl⟩ := ho
   exact (hf i hi).1
  ·simp only [Prod.mk.injEq] at hx
   rw [hx.1]
   congr 1
   apply List.ext_getElem?
   intro i
   by_cases hi : i < len
   ·rw [List.getElem?_map, (hf i hi).2.1]
    simp [hi]
   ·rw [List.getElem?_eq_none (by simp; omega), List.getElem?_eq_none (by simp; omega)]
theorem op_weights {tS tOp tInt tStr : TypeId} (T : OpTy P tS tOp tInt tStr) (o : OpV) : (o.data : DataW H).weights P tOp = [o.s.data.toList.length, o.t.data.toList.length, o.u.data.toList.length] := by
 obtain ⟨fs, hu, hf⟩ := T.hOp
 have ht : fs.toList.map (·.type) = [tInt, tStr, tStr, tStr, tInt, tInt] := by
  have := congrArg (List.map Prod.fst) hf
  rw [List.map_map] at this
  exact this
 simp only [OpV.data, DataW.weights, hu, ht, DataW.weightsEach]
 rfl
theorem weightsAll_mem {tOp : TypeId} : ∀ {l : List (DataW H)} {d : DataW H} {n : Nat}, d ∈ l → n ∈ d.weights P tOp → n ∈ DataW.weightsAll P tOp l
 | [], _, _, h, _ => by simp at h
 | x :: l, d, n, h, hn => by
  simp only [DataW.weightsAll, List.mem_append]
  rcases List.mem_cons.1 h with rfl | h
  ·exact .inl hn
  ·exact .inr (weightsAll_mem h hn)
theorem script_sized {tS tOp tInt tStr : TypeId} (T : OpTy P tS tOp tInt tStr) (hb : 0 < P.bytesOf tOp) {L : List OpV} {d : DataW H} (hd : (d = .nil ∧ L = []) ∨ ∃ rest, d = .slice (L.map OpV.data) rest)
    (h : (DataW.weightsEach P [tS] [d]).all (· ≤ reachBytes) = true) : L.length < 2 ^ 47 ∧ ∀ o ∈ L, o.s.size < 2 ^ 47 ∧ o.t.size < 2 ^ 47 ∧ o.u.size < 2 ^ 47 := by
  have hr : reachBytes < 2 ^ 47 := by decide
  rcases hd with ⟨_, rfl⟩ | ⟨rest, rfl⟩
  · exact ⟨by simp, by simp⟩
  · rw [List.all_eq_true] at h
    simp only [DataW.weightsEach, DataW.weights, T.hS, List.append_nil] at h
    refine ⟨?_, fun o ho => ?_⟩
    · have := h _ (List.mem_cons_self ..)
      simp only [decide_eq_true_eq, List.length_map] at this
      have h2 : L.length * 1 ≤ (L.length + rest.length) * P.bytesOf tOp := Nat.mul_le_mul (Nat.le_add_right _ _) hb
      omega
    · have key : ∀ n ∈ (o.data : DataW H).weights P tOp, n ≤ reachBytes := by
        intro n hn
        have := h n (List.mem_cons_of_mem _ (List.mem_append_left _ (weightsAll_mem (List.mem_map_of_mem ho) hn)))
        simpa using this
      rw [op_weights T o] at key
      have k1 := key o.s.data.toList.length (by simp)
      have k2 := key o.t.data.toList.length (by simp)
      have k3 := key o.u.data.toList.length (by simp)
      rw [Array.length_toList] at k1 k2 k3
      exact ⟨Nat.lt_of_le_of_lt k1 hr, Nat.lt_of_le_of_lt k2 hr, Nat.lt_of_le_of_lt k3 hr⟩
theorem strTab {base : Nat} {fuel : Nat} {t e : TypeId} {n : Nat} {cs : List Value} {p : List MemPlace} {d : DataW H}
  (ht : P.underlying t = some (.array n e)) (he : P.underlying e = some .string) (hce : P.cellsOf e = 1) (hct : P.cellsOf t = n) (ss : List ByteArray) (hd : d = .agg (ss.map fun s => .lit (.string s.data.toList)))
  (h : DataW.trod enc P W base sp held fuel t cs = some (d, p)) : cs = ss.map Value.string := by
 subst hd
 cases fuel with
 | zero => simp [DataW.trod] at h
 | succ fuel =>
  simp only [DataW.trod, ht, hce, hct, Nat.mul_one] at h
  split at h
  ·rename_i hl
   obtain ⟨xs, hm, hx⟩ := Option.map_eq_some_iff.1 h
   have hxs : xs.map (·.1) = ss.map fun s => (DataW.lit (.string s.data.toList) : DataW H) := by
    have := congrArg Prod.fst hx
    simpa using this
   have hxl : xs.length = n := by simpa using Lib.mapM_length hm
   have hsl : ss.length = n := by
    have := congrArg List.length hxs
    simp at this
    omega
   apply List.ext_getElem?
   intro i
   by_cases hi : i < n
   ·obtain ⟨y, hy, hy2⟩ := Lib.mapM_at hm i i (by simp [hi])
    obtain ⟨s, h1, h2, _⟩ := DataW.trod_string he hy2
    have hci : cs[i]? = some (.string s) := by
     have hlt : i < cs.length := by omega
     have : (cs.drop i).take 1 = [cs[i]] := by
      rw [List.drop_eq_getElem_cons hlt]; rfl
     rw [this] at h1
     rw [List.getElem?_eq_getElem hlt]
     simpa using h1
    have hs : (xs.map (·.1))[i]? = some (DataW.lit (.string s.data.toList)) := by rw [List.getElem?_map, hy, h2]; rfl
    rw [hxs, List.getElem?_map, Option.map_eq_some_iff] at hs
    obtain ⟨s', h3, h4⟩ := hs
    have h5 : s'.data.toList = s.data.toList := by simpa using h4
    have : s' = s := by
     apply ByteArray.ext
     exact Array.toList_inj.1 h5
    rw [hci, List.getElem?_map, h3, this]; rfl
   ·rw [List.getElem?_eq_none (by omega), List.getElem?_eq_none (by simp; omega)]
  ·simp at h
theorem tab_rel {B : Nat} {g : Nat} {ss : List ByteArray} (hg : ∀ i s, ss[i]? = some s → W.cell? ⟨g, i, none⟩ = some (.string s)) (hlt : g < W.heap.size) (hB : ss.length ≤ B) :
  Rel (G0 W B) W (.eptr (ss.map V.str).length (ss.map V.str) 0) (.pointer (some ⟨g, 0, none⟩)) := by
 have := Rel.eptr (G := G0 W B) (w := W) (ss.map V.str).length (ss.map V.str) 0 g 0 (ss.map Value.string) rfl (by simp) (by simp only [G0, if_pos hlt, List.length_map]; omega)
  (fun i c hc => by
   simp only [List.getElem?_map, Option.map_eq_some_iff] at hc
   obtain ⟨s, hs, rfl⟩ := hc
   exact ⟨by rw [Nat.zero_add]; exact hg i s hs, rfl⟩)
  (fun i v c hv hc => by
   simp only [List.getElem?_map, Option.map_eq_some_iff] at hv hc
   obtain ⟨s, hs, rfl⟩ := hv
   obtain ⟨s', hs', rfl⟩ := hc
   rw [hs] at hs'
   obtain rfl := Option.some.inj hs'
   exact .str _)
 simpa using this
theorem post_true {f : Func} {s : ChangeSpec} {tS : TypeId} {W' : World} {G' : Gh} {B : Nat} {v : Value} {d : DataW H} {before : List MemPlace} {tB : TypeId}
  (hp : f.params = #[tS]) (hr : f.resultTypes = #[tB]) (hB : P.underlying tB = some .bool) (hvars : s.vars = []) (hfn : s.fn H [d] = { results := [.lit (.bool true)], args := [d] })
  (hl : laidOutB P = true) (hrr : P.readableRec tS = true) (hrow : tS < P.types.size)
  (hW : DataW.Whole enc P f.params.toList s.vars false W [v] [d] [] before) (hE : Ext (G0 W B) W G' W') :
  s.post enc P f false true false false W #[v] (.bool true) W' := by
 have hb := below_of_ext hE
 have hlt := hW.lt
 obtain ⟨p, q, hA, hV, hpq, hz, hn⟩ := id hW
 rw [hp] at hA
 obtain ⟨v0, vs0, d0, ds0, p0, q0, hargs, hds, hps, h0, r0⟩ := trodAll_cons hA
 obtain ⟨rfl, rfl, rfl⟩ := trodAll_nil r0
 simp only [List.cons.injEq, and_true] at hargs hds
 subst hargs; subst hds
 rw [hvars] at hV
 obtain ⟨_, rfl⟩ := trodVars_none hV
 simp only [List.append_nil] at hps hpq
 subst hps; subst hpq
 have hres : ∀ (b : Nat) (sp : Nat → Bool) (hd : Bool), DataW.TrodAll enc P W' b sp hd f.resultTypes.toList ((Value.bool true).resultList f.resultTypes.size) (s.fn H ([d] ++ [])).results [] := by
  intro b sp hd
  rw [List.append_nil, hfn, hr]
  exact trodAll_mk1 ⟨1, by simp [DataW.trod, hB, Value.cells]⟩
 refine ⟨[d], [], before, [], before, [], hW, hres _ _ _, ?_, ?_, hb.frame _, fun h => by cases h⟩
 ·rw [List.append_nil, hfn, hp]
  exact trodAll_mk1 (RowKit.Below.trod hl hrr hrow h0 hb fun x hx => hlt x hx)
 ·rw [hvars, List.append_nil, hfn]; exact rfl
end
end Go.Ab
end
section
namespace Go.Ab.Mk
open Go.Proofs Go.Ab
theorem fparse_one {d : Dc} (h : DOk d) (hb : (prD d).length ≤ 200000) : fparseV (ba (prD d)) = ([d], 0, 0) := by
 have h0 : At (ba (prD d)) 0 (prD d ++ []) := ⟨[], by simp, rfl⟩
 have hz : decide (((ba (prD d)).size : Int) > 200000) = false := decide_eq_false (by rw [ba_size]; omega)
 have e1 := rtD h (a := 0) h0 rfl
 have t0 : tokV (ba (prD d)) 0 = ⟨ba [40], 0, true⟩ := tok_open (Y := (kwL d.kind ++ 32 :: (d.name.data.toList ++ 32 :: 40 :: (parsL d.pars ++ 41 :: (arL d ++ 32 :: (printT d.type ++ (valL d ++ (ctorsL d.ctors ++ [41])))))))) (by have := h0; rw [List.append_nil] at this; exact this)
 have hno : isNo (ba [40]) = false := by rw [isNo_eq]; rfl
 have t1 := tok_end h0.drop
 have hno1 : isNo (ba []) = true := by rw [isNo_eq]; rfl
 have e : declsV ((ba (prD d)).size + 2) (ba (prD d)) ⟨0, 0, 0⟩ = ([d], ⟨0 + (prD d).length, 0, 0⟩) := by
  rw [declsV]
  simp only [t0, hno, bne_self_eq_false, cond_false, Bool.and_false, e1]
  rw [declsV]
  simp only [t1, hno1, bne_self_eq_false, cond_false, Bool.and_self, cond_true]
 unfold fparseV
 rw [hz]
 simp only [cond_false, e, bne_self_eq_false]
def dFact : Dc := ⟨1, ba [65], [ba [117]], .sort (.param (ba [117])), .var 0, 0, []⟩
theorem nm_u : NameOk (ba [117]) := word_ok (by decide) (by decide) rfl (fun i hi => by
 have : i = 0 := by simp only [List.length_cons, List.length_nil] at hi; omega
 subst this; rfl)
theorem nm_A : NameOk (ba [65]) := word_ok (by decide) (by decide) rfl (fun i hi => by
 have : i = 0 := by simp only [List.length_cons, List.length_nil] at hi; omega
 subst this; rfl)
theorem dFact_ok : DOk dFact where
 kind := .inl rfl
 name := nm_A
 pars x hx := by simp only [dFact, List.mem_singleton] at hx; subst hx; exact nm_u
 type := ⟨⟨by simp [dFact, Tm.top], fun l hl x hx => by simp only [dFact, Tm.all, List.mem_singleton] at hl; subst hl; simp only [Lv.pars, List.mem_singleton] at hx; subst hx; exact nm_u, fun x hx => by simp [dFact, Tm.names] at hx⟩, by simp [dFact, Tm.wide], fun l hl => by simp only [dFact, Tm.all, List.mem_singleton] at hl; subst hl; simp [printL, ba]⟩
 value := TFine.leaf
 noval _ := rfl
 noind _ := ⟨rfl, rfl⟩
 arity := by simp [dFact]
 ctors c hc := by simp [dFact] at hc
theorem dFact_text : ByteArray.mk #[40, 97, 120, 105, 111, 109, 32, 65, 32, 40, 117, 41, 32, 40, 115, 111, 114, 116, 32, 117, 41, 41] = ba (prD dFact) := rfl
end Go.Ab.Mk
namespace Go.Ab.Mq
open Go.Proofs Go.Ab Go.Ab.Mk
theorem parseQ {s : ByteArray} (hs : s.size < 2 ^ 61) (σ : Sto) : ∃ err σ', lim Mq.C 4 [(.str s, false)] σ = some (.ret [(.slice 15 48 ((fparseV s).1.map Dc.enc), false), (err, false)], σ') ∧ ErrOk err σ' (fparseV s).2.1 (fparseV s).2.2 ∧ ((fparseV s).2.1 = 0 → err = .nilIface) := by
 obtain ⟨err, σ', h1, h2, h3⟩ := fparse_law s hs σ
 exact ⟨err, σ', lim_ext (C := Mq.C) (f := 4) (s := fparseS (lim Mk.C)) (by kernel_rfl) h1, h2, h3⟩
theorem printQ {ds : List Dc} (hok : ∀ d ∈ ds, DOk d) (hn : ds.length < 2 ^ 40) (hb : (prF ds).length < 2 ^ 32) (σ : Sto) : ∃ σ', lim Mq.C 5 [(.slice 15 48 (ds.map Dc.enc), false)] σ = some (.ret [(.str (ba (prF ds)), false)], σ') := by
 obtain ⟨σ', h⟩ := fprintAll_law hok hn hb false σ
 exact ⟨σ', lim_ext (C := Mq.C) (f := 5) (s := lim Mk.C 5) (by kernel_rfl) h⟩
theorem fileReads_loop (n : Nat) {L : List OpV} (hb : L.length < 2 ^ 60) (hs : ∀ o ∈ L, o.s.size < 2 ^ 59) :
  ∀ (m i : Nat) (σ : Sto), i ≤ L.length → L.length - i < m → ∃ σ', fileReadsl0 (lim Mq.C) n m (L.map OpV.enc) i σ = some (.ret [(.bool true, false)], σ')
 | 0, i, _, _, hm => by omega
 | m + 1, i, σ, hi, hm => by
  show ∃ σ', fileReadss0 (lim Mq.C) (fileReadsl0 (lim Mq.C) n m) (L.map OpV.enc) i σ = _
  unfold fileReadss0
  rw [List.length_map]
  by_cases hlt : i < L.length
  case neg => rw [dnlt hlt]; exact ⟨σ, rfl⟩
  have hget : (L.map OpV.enc).getD (Int.toNat (i : Int)) [] = L[i].enc := by simp [hlt]
  have hc1 : L[i].enc.getD 1 V.any = .str L[i].s := rfl
  have hbig : decide ((i : Int) < 1152921504606846976) = true := by simp; omega
  have hg : ∀ {c : Cell} {cs : List Cell}, (c :: cs).getD 0 cellD = c := fun {_ _} => rfl
  have hg1 : ∀ {c d : Cell} {cs : List Cell}, (c :: d :: cs).getD 1 cellD = d := fun {_ _ _} => rfl
  have next := fun σ => fileReads_loop n hb hs m (i + 1) σ (by omega) (by omega)
  have hsz := hs _ (List.getElem_mem hlt)
  rw [d0, dlt hlt, hbig, hget, hc1]
  generalize L[i].s = s at hsz
  obtain ⟨err, σ1, h1, h2, h3⟩ := parseQ (s := s) (by omega) σ
  simp only [cond_true, Bool.and_self, grd, Option.bind_some, callK_ret2 h1, hg, hg1, wrap_succ (show i < 2 ^ 61 by omega)]
  rcases h2 with ⟨c0, rfl⟩ | ⟨b, rfl, _⟩
  case inr => exact next σ1
  obtain ⟨f1, f2, f3, f4⟩ := fparse_read c0
  generalize (fparseV s).1 = ds at *
  obtain ⟨σ2, e2⟩ := printQ f2 (by omega) (by omega) σ1
  simp only [V.ifaceNil, Option.bind_some, Bool.not_true, cond_false, callK_ret1 e2, hg, V.asStr, ba_size]
  by_cases hlong : (prF ds).length > 200000
  ·rw [show decide (((prF ds).length : Int) > 200000) = true from decide_eq_true (by omega)]
   exact next σ2
  rw [show decide (((prF ds).length : Int) > 200000) = false from decide_eq_false (by omega)]
  have hp := fparse_print f2 (by omega)
  obtain ⟨err2, σ3, h4, h5, h6⟩ := parseQ (s := ba (prF ds)) (by rw [ba_size]; omega) σ2
  rw [hp] at h4 h6
  obtain rfl := h6 rfl
  obtain ⟨σ4, e4⟩ := printQ f2 (by omega) (by omega) σ3
  have hsl : V.asSlice (.slice 15 48 (ds.map Dc.enc)) 15 48 = some (ds.map Dc.enc) := by simp [V.asSlice]
  simp only [cond_false, callK_ret2 h4, hg, hg1, callK_ret1 e4, V.ifaceNil, Option.bind_some, Bool.not_true, V.asStr, beq_self_eq_true, hsl, bne_self_eq_false]
  exact next σ4
theorem fileReads_law (L : List OpV) (hb : L.length < 2 ^ 60) (hs : ∀ o ∈ L, o.s.size < 2 ^ 59) (σ : Sto) :
  ∃ σ', lim Mq.C 3 [(.slice 6 29 (L.map OpV.enc), false)] σ = some (.ret [(.bool true, false)], σ') := by
 obtain ⟨err, σ1, h1, h2, h3⟩ := parseQ (s := ba (prD dFact)) (by decide) σ
 rw [fparse_one dFact_ok (by decide)] at h1 h3
 obtain rfl := h3 rfl
 obtain ⟨σ', h⟩ := fileReads_loop (L.length + 1) hb hs (L.length + 1) 0 σ1 (by omega) (by omega)
 refine ⟨σ', fileReads_lim (n := L.length + 1) ?_⟩
 have hg : ∀ {c : Cell} {cs : List Cell}, (c :: cs).getD 0 cellD = c := fun {_ _} => rfl
 have hg1 : ∀ {c d : Cell} {cs : List Cell}, (c :: d :: cs).getD 1 cellD = d := fun {_ _ _} => rfl
 have hsl : V.asSlice (.slice 15 48 ([dFact].map Dc.enc)) 15 48 = some ([dFact].map Dc.enc) := by simp [V.asSlice]
 unfold fileReads fileReadsF
 rw [dFact_text]
 simp only [callK_ret2 h1, hg, hg1, V.ifaceNil, Option.bind_some, Bool.not_true, cond_false, hsl, List.length_map, List.length_cons, List.length_nil]
 exact h
end Go.Ab.Mq
end
section
namespace Go.Proofs
open Go.RowKit Go.Ab
set_option maxHeartbeats 1000000 in
set_option maxRecDepth 100000 in
theorem Mk.copyCheck_used (b : Nat) (w : World) (h0 : w.cell? ⟨b, 0, none⟩ = some (.pointer (some ⟨b, 0, none⟩))) :
  Calls Tryd.prog 20 #[.pointer (some ⟨b, 0, none⟩)] w fun e w' => e = .returned (.tuple #[]) ∧ w' = w := by
 obtain ⟨j, hj, _⟩ := Option.map_eq_some_iff.1 (show (Tryd.prog.info? 53).map (·.size) = some 2 by kernel_rfl)
 go_enter Tryd.func20, Tryd.ntmps20
 go_wp2
 rw [Lib.run_neq_ptr_same w _ Tryd.underlying50 hj]
 go_wp2
 go_end0
 exact ⟨rfl, rfl⟩
set_option maxHeartbeats 1000000 in
set_option maxRecDepth 100000 in
theorem Mk.copyCheck_fresh (b : Nat) (w : World) (h0 : w.cell? ⟨b, 0, none⟩ = some (.pointer none)) (hsh : w.shape? b = some (53, 2)) (hfz : w.frozen? ⟨b, 0, none⟩ = false) :
  Calls Tryd.prog 20 #[.pointer (some ⟨b, 0, none⟩)] w fun e w' => e = .returned (.tuple #[]) ∧ w' = w.setCell ⟨b, 0, none⟩ (.pointer (some ⟨b, 0, none⟩)) := by
 obtain ⟨j, hj, hjs⟩ := Option.map_eq_some_iff.1 (show (Tryd.prog.info? 53).map (·.size) = some 2 by kernel_rfl)
 go_enter Tryd.func20, Tryd.ntmps20
 go_wp2
 rw [Lib.run_to_unsafe w ⟨b, 0, none⟩ Tryd.underlying50 Tryd.underlying78 hj (by rw [hjs]; decide) hsh (Nat.zero_lt_succ 1)]
 simp only [Result.andThen]
 rw [Oper.upon_value]
 go_wp2
 rw [run_callFunc_extern Tryd.func34 (by kernel_rfl) (by kernel_rfl) (by kernel_rfl) (e := Extern.AbiNoEscape.same) (by kernel_rfl)]
 rw [Lib.run_noEscape]
 simp only [Result.andThen]
 rw [Oper.upon_value]
 go_wp2
 rw [Lib.run_from_unsafe w ⟨b, 0, none⟩ Tryd.underlying78 Tryd.underlying50 hj hsh (by kernel_rfl)]
 simp only [Result.andThen]
 rw [Oper.upon_value]
 go_wp2
 go_end0
 exact ⟨rfl, rfl⟩
set_option maxHeartbeats 1000000 in
set_option maxRecDepth 100000 in
theorem Mk.bldString (b g cap cells : Nat) (l : List UInt8) (w : World) (h0 : l ≠ []) (hcap : l.length ≤ cap) (hlc : l.length ≤ cells) (_ : cap ≤ cells) (c1 : w.cell? ⟨b, 1, none⟩ = some (.slice (some ⟨g, 0, none⟩) l.length cap)) (hsh : w.shape? g = some (5, cells)) (h63 : l.length ≤ 9223372036854775807)
  (hcell : ∀ j x, l[j]? = some x → w.cell? ⟨g, j, none⟩ = some (.int .u8 x.toNat)) :
  Calls Tryd.prog 12 #[.pointer (some ⟨b, 0, none⟩)] w fun en w' => en = .returned (.string ⟨l.toArray⟩) ∧ w' = w.drew.freeze ⟨g, 0, none⟩ l.length := by
 have hl0 : l.length ≠ 0 := by simpa using h0
 have c1' : w.drew.cell? ⟨b, 1, none⟩ = some (.slice (some ⟨g, 0, none⟩) l.length cap) := c1
 have hSD : (Builtin.unsafeSliceData_ #[51] 67 #[.slice (some ⟨g, 0, none⟩) l.length cap]).run Tryd.prog w.drew = .ok (.pointer (some ⟨g, 0, none⟩)) w.drew :=
  Lib.run_unsafeSliceData_row _ _ _ _ _ _ (by omega)
 have hUS : (Builtin.unsafeString_ #[67, 3] 9 #[.pointer (some ⟨g, 0, none⟩), .int .i64 l.length]).run Tryd.prog w.drew = .ok (.string ⟨l.toArray⟩) (w.drew.freeze ⟨g, 0, none⟩ l.length) := by
  refine Lib.run_unsafeString_row w.drew 67 3 9 5 Tryd.underlying67 (by kernel_rfl) g cells hsh l h0 hlc h63 ?_
  intro j x hx
  have := hcell j x hx
  rw [add_plain, Nat.zero_add]
  exact this
 go_enter Tryd.func12, Tryd.ntmps12
 go_wp2
 go_region
 all_goals (go_wp2; go_ret; exact ⟨rfl, rfl⟩)
end Go.Proofs
end
section
namespace Go.Proofs
open Go.RowKit Go.Ab
set_option maxHeartbeats 2000000 in
set_option maxRecDepth 100000 in
theorem Mk.bldEmpty_nil (b : Nat) (w : World) (c0 : w.cell? ⟨b, 1, none⟩ = some (.slice none 0 0)) :
  Calls Tryd.prog 12 #[.pointer (some ⟨b, 0, none⟩)] w fun e w' => e = .returned (.string ⟨#[]⟩) ∧ Below w.heap.size w w' := by
 have hUS : ∀ (W : World) (q : Option Addr), (Builtin.unsafeString_ #[67, 3] 9 #[.pointer q, .int .i64 0]).run Tryd.prog W = .ok (.string .empty) W := fun W q => Lib.run_unsafeString_none W _ _ _ q
 have c1 : w.drew.cell? ⟨b, 1, none⟩ = some (.slice none 0 0) := c0
 have hSD : (Builtin.unsafeSliceData_ #[51] 67 #[.slice none 0 0]).run Tryd.prog w.drew = .ok (.pointer none) w.drew := rfl
 go_enter Tryd.func12, Tryd.ntmps12
 go_wp2
 go_region
 all_goals (go_wp2; go_ret; exact ⟨rfl, Below.drew (Below.refl w.heap.size w)⟩)
set_option maxHeartbeats 2000000 in
set_option maxRecDepth 100000 in
theorem Mk.bldEmpty_noroom (b g cells : Nat) (w : World) (hlt : b < w.heap.size) (c0 : w.cell? ⟨b, 1, none⟩ = some (.slice (some ⟨g, 0, none⟩) 0 0)) (hsh : w.shape? g = some (5, cells)) :
  Calls Tryd.prog 12 #[.pointer (some ⟨b, 0, none⟩)] w fun e w' => e = .returned (.string ⟨#[]⟩) ∧ Below w.heap.size w w' := by
 have hUS : ∀ (W : World) (q : Option Addr), (Builtin.unsafeString_ #[67, 3] 9 #[.pointer q, .int .i64 0]).run Tryd.prog W = .ok (.string .empty) W := fun W q => Lib.run_unsafeString_none W _ _ _ q
 have c1 : w.drew.cell? ⟨b, 1, none⟩ = some (.slice (some ⟨g, 0, none⟩) 0 0) := c0
 have hSD : (Builtin.unsafeSliceData_ #[51] 67 #[.slice (some ⟨g, 0, none⟩) 0 0]).run Tryd.prog w.drew = .ok (.pointer (some ⟨w.drew.heap.size, 0, none⟩)) (w.drew.alloc (.view ⟨g, 0, none⟩ 5)) :=
  Lib.run_unsafeSliceData_zero w.drew _ _ 5 Tryd.underlying67 ⟨g, 0, none⟩ 0 (5, cells) hsh
 have c2 : (w.drew.alloc (.view ⟨g, 0, none⟩ 5)).cell? ⟨b, 1, none⟩ = some (.slice (some ⟨g, 0, none⟩) 0 0) := by
  rw [cell?_alloc_old' (show b < w.drew.heap.size from hlt)]; exact c1
 have c3 : (w.alloc (.view ⟨g, 0, none⟩ 5)).drew.cell? ⟨b, 1, none⟩ = some (.slice (some ⟨g, 0, none⟩) 0 0) := c2
 clear hsh
 go_enter Tryd.func12, Tryd.ntmps12
 go_wp2
 go_region
 all_goals (go_wp2; go_ret; exact ⟨rfl, (Below.drew (Below.refl w.heap.size w)).alloc (Nat.le_refl _) _⟩)
set_option maxHeartbeats 2000000 in
set_option maxRecDepth 100000 in
theorem Mk.bldEmpty_room (b g cap : Nat) (w : World) (hc0 : cap ≠ 0) (c0 : w.cell? ⟨b, 1, none⟩ = some (.slice (some ⟨g, 0, none⟩) 0 cap)) :
  Calls Tryd.prog 12 #[.pointer (some ⟨b, 0, none⟩)] w fun e w' => e = .returned (.string ⟨#[]⟩) ∧ Below w.heap.size w w' := by
 have hUS : ∀ (W : World) (q : Option Addr), (Builtin.unsafeString_ #[67, 3] 9 #[.pointer q, .int .i64 0]).run Tryd.prog W = .ok (.string .empty) W := fun W q => Lib.run_unsafeString_none W _ _ _ q
 have c1 : w.drew.cell? ⟨b, 1, none⟩ = some (.slice (some ⟨g, 0, none⟩) 0 cap) := c0
 have hSD : (Builtin.unsafeSliceData_ #[51] 67 #[.slice (some ⟨g, 0, none⟩) 0 cap]).run Tryd.prog w.drew = .ok (.pointer (some ⟨g, 0, none⟩)) w.drew :=
  Lib.run_unsafeSliceData_row _ _ _ _ _ _ hc0
 clear hc0
 go_enter Tryd.func12, Tryd.ntmps12
 go_wp2
 go_region
 all_goals (go_wp2; go_ret; exact ⟨rfl, Below.drew (Below.refl w.heap.size w)⟩)
theorem Mk.bldEmpty (b : Nat) (w : World) (sl : Value) (h : w.cell? ⟨b, 1, none⟩ = some sl) (hs : sl = .slice none 0 0 ∨ ∃ g cap cells, sl = .slice (some ⟨g, 0, none⟩) 0 cap ∧ w.shape? g = some (5, cells)) :
  Calls Tryd.prog 12 #[.pointer (some ⟨b, 0, none⟩)] w fun en w' => en = .returned (.string ⟨#[]⟩) ∧ Below w.heap.size w w' := by
 rcases hs with rfl | ⟨g, cap, cells, rfl, hsh⟩
 ·exact Mk.bldEmpty_nil b w h
 ·by_cases hc0 : cap = 0
  ·subst hc0
   have hlt : b < w.heap.size := by
    rcases Nat.lt_or_ge b w.heap.size with h' | h'
    ·exact h'
    ·simp [World.cell?, Array.getElem?_eq_none h'] at h
   exact Mk.bldEmpty_noroom b g cells w hlt h hsh
  ·exact Mk.bldEmpty_room b g cap w hc0 h
end Go.Proofs
end
