/- strings.Builder in this seat: String of a builder that holds nothing, walked. -/
import Derived.Test.YtblgboigcpbidaaGreatDoorLvM8
import Derived.Test.YtblgboigcpbidaaGreatDoorAbBl
import Derived.Test.YtblgboigcpbidaaGreatDoorAbMk1
import Derived.Test.YtblgboigcpbidaaGreatDoorProg
import Derived.ChangeShapes
import Derived.ChangeArms
import Derived.Carry
import Derived.ProofKit
import Derived.Lib.LaidTab
import Derived.WalkKit
import Derived.Lib.Builder
import Derived.Lib.UnsafeStr
import Derived.Lib.Walk
import Derived.Laws.Externs
import Derived.Lib.Slices
import Derived.Test.YtblgboigcpbidaaGreatDoorAbBe
set_option linter.unusedSimpArgs false
set_option linter.unusedVariables false
set_option linter.deprecated false
section
namespace Go.Ab.Mk
open Go.Proofs Go.Ab
open Go.Lib (decDigits)
theorem rdecl_law {s : ByteArray} (hs : s.size ≤ 200000) {st : RS} {σ : Sto} {r : Nat} (h : σ[r]? = some (st.cells s)) (hp : st.p ≤ s.size) :
  ∃ cs : List V, cs.length = 15 ∧ lim C 37 [(.ptr 79 r 0, false)] σ = some (.ret [(.agg cs, false)], σ.set r ((declV s st).2.cells s)) ∧ ((declV s st).2.c = 0 → V.agg cs = (declV s st).1.val) := by
 have hs' : s.size < 2 ^ 61 := by omega
 have key : (∃ cs : List V, cs.length = 15 ∧ rdecl (lim C) (s.size + 10) r σ = some (.ret [(.agg cs, false)], σ.set r ((declV s st).2.cells s)) ∧ ((declV s st).2.c = 0 → V.agg cs = (declV s st).1.val)) → ∃ cs : List V, cs.length = 15 ∧ lim C 37 [(.ptr 79 r 0, false)] σ = some (.ret [(.agg cs, false)], σ.set r ((declV s st).2.cells s)) ∧ ((declV s st).2.c = 0 → V.agg cs = (declV s st).1.val) := fun ⟨cs, h1, h2, h3⟩ => ⟨cs, h1, rdecl_lim (n := s.size + 10) h2, h3⟩
 refine key ?_
 clear key
 have e40 : ByteArray.mk #[40] = ba [40] := rfl
 have ea : ∀ t : ByteArray, (t.toList == (ByteArray.mk #[97, 120, 105, 111, 109]).toList) = strIs t waxiom := fun _ => rfl
 have ed : ∀ t : ByteArray, (t.toList == (ByteArray.mk #[100, 101, 102]).toList) = strIs t wdef := fun _ => rfl
 have ei : ∀ t : ByteArray, (t.toList == (ByteArray.mk #[105, 110, 100, 117, 99, 116, 105, 118, 101]).toList) = strIs t winduct := fun _ => rfl
 have g1 := rtake_gone hp (ba [40])
 have x1 := rtake_law h hs' hp (ba [40])
 have y1 := set_get (y := (rtakeV s st (ba [40])).cells s) h
 unfold rdecl rdeclF declV
 simp only [e40, callK_ret0 x1]
 generalize rtakeV s st (ba [40]) = s1 at *
 have ht := token_law y1 hs' g1.le
 have x2 := rnext_law y1 hs' g1.le
 rw [List.set_set] at x2
 have q2 := rnext_goes g1.le
 have y2 := set_get (y := (rnextV s s1).2.cells s) h
 have hf := rfail_law y1 (tokV s s1.p).at_
 rw [List.set_set] at hf
 simp only [callK_ret3 ht rfl, tok0, tok1, V.asStr, Option.bind_some, ea, ed, ei]
 unfold declW
 have hz : kindIx (tokV s s1.p).t = (bif strIs (tokV s s1.p).t waxiom then 1 else bif strIs (tokV s s1.p).t wdef then 2 else bif strIs (tokV s s1.p).t winduct then 3 else 0) := rfl
 rw [hz]
 -- what stands behind the word
 have go : ∀ k : Nat, (k = 1 ∨ k = 2 ∨ k = 3) → ∃ cs : List V, cs.length = 15 ∧ callK (lim C) 59 [(.ptr 79 r 0, false)] (σ.set r (s1.cells s)) 1 (fun _ σ9 => callK (lim C) 60 [(.ptr 79 r 0, false)] σ9 1 (fun vs11 σ12 => (grd (V.fits (List.getD vs11 0 cellD).1 false 1)).bind fun _ =>
   callK (lim C) 57 [(.ptr 79 r 0, false), (.str (ba [40]), false)] σ12 0 (fun _ σ15 => rdecll0 (lim C) (s.size + 10) (s.size + 10) r (0 : Int) (ByteArray.mk #[]) [] (0 : Int) (0 : Int) (ByteArray.mk #[]) [] [] (0 : Int) (0 : Int) (ByteArray.mk #[]) [] [] (0 : Int) [] (k : Int) (List.getD vs11 0 cellD).1 [] (0 : Int) (0 : Int) (ByteArray.mk #[]) [] [] (0 : Int) (0 : Int) (ByteArray.mk #[]) [] [] (0 : Int) [] σ15) (fun p16 σ15 => some (.pan p16, σ15))) (fun p13 σ12 => some (.pan p13, σ12))) (fun p10 σ9 => some (.pan p10, σ9)) =
    some (.ret [(.agg cs, false)], σ.set r ((declK k s (rnextV s s1).2).2.cells s)) ∧ ((declK k s (rnextV s s1).2).2.c = 0 → V.agg cs = (declK k s (rnextV s s1).2).1.val) := by
  intro k hk
  clear hz ea ed ei ht hf
  generalize rnextV s s1 = n2 at *
  have q3 := rname_goes (s := s) q2.le
  have x3 := rname_law y2 hs' q2.le
  rw [List.set_set] at x3
  have y3 := set_get (y := (rnameV s n2.2).2.cells s) h
  unfold declK
  generalize rnameV s n2.2 = n3 at *
  have q4 := rtake_gone q3.le (ba [40])
  have x4 := rtake_law y3 hs' q3.le (ba [40])
  rw [List.set_set] at x4
  have y4 := set_get (y := (rtakeV s n3.2 (ba [40])).cells s) h
  generalize rtakeV s n3.2 (ba [40]) = s4 at *
  simp only [callK_ret1 x2, callK_ret1 x3, List.getD_cons_zero, str_fits, grd, cond_true, Option.bind_some, callK_ret0 x4]
  have hn := rnames_run (N := s.size + 10) (t0 := 0) (t1 := ByteArray.mk #[]) (t2 := []) (t3 := 0) (t4 := 0) (t5 := ByteArray.mk #[]) (t6 := []) (t7 := []) (t8 := 0) (t9 := 0) (t10 := ByteArray.mk #[]) (t11 := []) (t12 := []) (t13 := 0) (t14 := []) hs (nm := n3.1) hk rfl (s.size + 10) [] s4 _ y4 q4.le (.inr ⟨by simp; omega, by omega⟩)
  rw [List.set_set] at hn
  exact hn
 cases h1 : strIs (tokV s s1.p).t waxiom
 case true =>
  simp only [cond_true, show ((1 : Nat) == 0) = false from rfl, cond_false]
  exact go 1 (.inl rfl)
 cases h2 : strIs (tokV s s1.p).t wdef
 case true =>
  simp only [cond_true, cond_false, show ((2 : Nat) == 0) = false from rfl]
  exact go 2 (.inr (.inl rfl))
 cases h3 : strIs (tokV s s1.p).t winduct
 case true =>
  simp only [cond_true, cond_false, show ((3 : Nat) == 0) = false from rfl]
  exact go 3 (.inr (.inr rfl))
 simp only [cond_false, beq_self_eq_true, cond_true]
 refine ⟨zeroDc.enc, Dc.enc_len _, ?_, fun _ => rfl⟩
 rw [callK_ret0 hf, dc_enc']
 rfl
theorem agg_fits15 {cs : List V} (h : cs.length = 15) : V.fits (.agg cs) true 15 = true := by simp [V.fits, h]
theorem agg_cells15 {cs : List V} (h : cs.length = 15) : [V.cell (.agg cs) 0, V.cell (.agg cs) 1, V.cell (.agg cs) 2, V.cell (.agg cs) 3, V.cell (.agg cs) 4, V.cell (.agg cs) 5, V.cell (.agg cs) 6, V.cell (.agg cs) 7, V.cell (.agg cs) 8, V.cell (.agg cs) 9, V.cell (.agg cs) 10, V.cell (.agg cs) 11, V.cell (.agg cs) 12, V.cell (.agg cs) 13, V.cell (.agg cs) 14] = cs := by
 match cs, h with
 | [_, _, _, _, _, _, _, _, _, _, _, _, _, _, _], _ => rfl
theorem rd23 {σ : Sto} {r : Nat} {s : ByteArray} {p : Nat} {c a : Int} (h : σ[r]? = some (rst s p c a)) (t : TypeId) : memGet σ (.ptr t r 2) true 2 = some (.agg [.int .i64 c, .int .i64 a]) := by
 simp [memGet, h, gather, rst]
 rfl
theorem parseAny_loop {s : ByteArray} (hs : s.size ≤ 200000) {N r : Nat} {z0 z1 : Int} : ∀ (m : Nat) (ds : List Dc) (st : RS) (σ : Sto), σ[r]? = some (st.cells s) → st.p ≤ s.size → st.c = 0 → ds.length ≤ st.p → s.size - st.p + 1 < m →
  ∃ (x : List Cell) (o : Bool), parseAnyl0 (lim C) N m r (ds.map Dc.enc) z0 z1 σ = some (.ret [(.slice 15 47 (if (declsV m s st).2.c = 0 then (ds ++ (declsV m s st).1).map Dc.enc else []), o), (.agg [.int .i64 (declsV m s st).2.c, .int .i64 (if (declsV m s st).2.c = 0 then 0 else (declsV m s st).2.a)], false)], σ.set r x)
 | 0, _, _, _, _, _, _, _, hm => by omega
 | m + 1, ds, st, σ, h, hp, hc, hd, hm => by
  have hs' : s.size < 2 ^ 61 := by omega
  show ∃ (x : List Cell) (o : Bool), parseAnys0 (lim C) (parseAnyl0 (lim C) N m) r (ds.map Dc.enc) z0 z1 σ = _
  unfold parseAnys0
  have h1 : (st.c == 0) = true := by simpa using hc
  have h2 : (st.c != 0) = false := by simp [hc]
  have ht := token_law h hs' hp
  have eno : ∀ t : ByteArray, (t.toList == (ByteArray.mk #[]).toList) = isNo t := fun _ => rfl
  simp only [rd2 h, Option.bind_some, V.asInt, if_true, h1, cond_true, callK_ret3 ht rfl, tok0, tok2, V.asBool, V.asStr, eno, declsV, h2, cond_false]
  have hend : (tokV s st.p).ok = true → isNo (tokV s st.p).t = true → ∃ (x : List Cell) (o : Bool), some ((End.ret [(V.slice 15 47 (ds.map Dc.enc), false), (V.agg [V.int .i64 0, V.int .i64 0], false)], σ) : Res) = some (.ret [(.slice 15 47 (if st.c = 0 then (ds ++ []).map Dc.enc else []), o), (.agg [.int .i64 st.c, .int .i64 (if st.c = 0 then 0 else st.a)], false)], σ.set r x) := fun _ _ => ⟨st.cells s, false, by rw [rset_same h, if_pos hc, if_pos hc, hc, List.append_nil]⟩
  have hroom : room (List.length (ds.map Dc.enc) + 1) = true := room_ok (by simp; omega)
  obtain ⟨cs, l15, x1, hval⟩ := rdecl_law hs h hp
  have q1 := declV_goes (s := s) hp
  have y1 := set_get (y := (declV s st).2.cells s) h
  have round : (∃ (x : List Cell) (o : Bool), parseAnyl0 (lim C) N m r (ds.map Dc.enc ++ [cs]) z0 z1 (σ.set r ((declV s st).2.cells s)) = some (.ret [(.slice 15 47 (if (declsV m s (declV s st).2).2.c = 0 then (ds ++ ((declV s st).1 :: (declsV m s (declV s st).2).1)).map Dc.enc else []), o), (.agg [.int .i64 (declsV m s (declV s st).2).2.c, .int .i64 (if (declsV m s (declV s st).2).2.c = 0 then 0 else (declsV m s (declV s st).2).2.a)], false)], σ.set r x)) := by
   by_cases hz : (declV s st).2.c = 0
   ·have hcs : cs = (declV s st).1.enc := by
     have := hval hz
     unfold Dc.val at this
     injection this
    have em : ds.map Dc.enc ++ [cs] = (ds ++ [(declV s st).1]).map Dc.enc := by simp [hcs]
    rw [em]
    have hlt := (q1.ok hz).2
    have hle := q1.le
    obtain ⟨x, o, ih⟩ := parseAny_loop hs (N := N) (z0 := z0) (z1 := z1) m (ds ++ [(declV s st).1]) (declV s st).2 _ y1 q1.le hz (by simp; omega) (by omega)
    rw [List.append_assoc, List.set_set] at ih
    exact ⟨x, o, ih⟩
   ·have hst : declsV m s (declV s st).2 = ([], (declV s st).2) := by
     cases m with
     | zero => rfl
     | succ m =>
      have h2 : ((declV s st).2.c != 0) = true := by simpa using hz
      rw [declsV, h2]; rfl
    rw [hst]
    obtain ⟨m', rfl⟩ : ∃ m', m = m' + 1 := ⟨m - 1, by omega⟩
    refine ⟨(declV s st).2.cells s, true, ?_⟩
    show parseAnys0 (lim C) (parseAnyl0 (lim C) N m') r _ z0 z1 _ = _
    unfold parseAnys0
    have hz1 : ((declV s st).2.c == 0) = false := by simpa using hz
    have f2 : ∀ x y : Int, V.fits (.agg [.int .i64 x, .int .i64 y]) true 2 = true := fun _ _ => rfl
    simp only [rd2 y1, Option.bind_some, V.asInt, if_true, hz1, cond_false, rd23 y1, f2, grd, cond_true]
    rw [if_neg hz, if_neg hz]
    rfl
  cases hok : (tokV s st.p).ok
  case false =>
   simp only [cond_false, callK_ret1 x1, List.getD_cons_zero, agg_fits15 l15, agg_cells15 l15, grd, cond_true, Option.bind_some, hroom, Bool.false_and]
   exact round
  cases hno : isNo (tokV s st.p).t
  case false =>
   simp only [cond_true, cond_false, callK_ret1 x1, List.getD_cons_zero, agg_fits15 l15, agg_cells15 l15, grd, Option.bind_some, hroom, Bool.and_false]
   exact round
  simp only [cond_true, Bool.and_self]
  exact hend hok hno
theorem parseFile_law (s : ByteArray) (hs : s.size < 2 ^ 61) (σ : Sto) : ∃ (τ : Sto) (o : Bool), lim C 6 [(.str s, false)] σ = some (.ret [(.slice 15 47 ((fparseV s).1.map Dc.enc), o), (.agg [.int .i64 (fparseV s).2.1, .int .i64 (fparseV s).2.2], false)], σ ++ τ) := by
 by_cases hb : (s.size : Int) > 200000
 ·have hv : fparseV s = ([], 2, 0) := by unfold fparseV; rw [decide_eq_true hb]; rfl
  rw [hv]
  refine ⟨[], true, parseFile_lim (n := 0) ?_⟩
  unfold parseFile parseFileF
  rw [decide_eq_true hb, List.append_nil]
  rfl
 ·have hb' : s.size ≤ 200000 := by omega
  obtain ⟨x, o, hl⟩ := parseAny_loop hb' (N := s.size + 2) (r := σ.length) (z0 := 0) (z1 := 0) (s.size + 2) [] ⟨0, 0, 0⟩ (σ ++ [RS.cells s ⟨0, 0, 0⟩]) (by simp) (Nat.zero_le _) rfl (Nat.zero_le _) (by simp)
  have hset : (σ ++ [RS.cells s ⟨0, 0, 0⟩]).set σ.length x = σ ++ [x] := by rw [List.set_append_right _ _ (Nat.le_refl _)]; simp
  rw [hset] at hl
  have ha : lim C 18 [(.str s, false)] σ = _ := parseAny_lim (n := s.size + 2) hl
  have hv : fparseV s = (bif (declsV (s.size + 2) s ⟨0, 0, 0⟩).2.c != 0 then ([], (declsV (s.size + 2) s ⟨0, 0, 0⟩).2.c, (declsV (s.size + 2) s ⟨0, 0, 0⟩).2.a) else ((declsV (s.size + 2) s ⟨0, 0, 0⟩).1, 0, 0)) := by unfold fparseV; rw [decide_eq_false hb]; rfl
  refine ⟨[x], false, parseFile_lim (n := 0) ?_⟩
  have f2 : ∀ x y : Int, V.fits (.agg [.int .i64 x, .int .i64 y]) true 2 = true := fun _ _ => rfl
  have hg : ∀ {c : Cell} {cs : List Cell}, (c :: cs).getD 0 cellD = c := fun {_ _} => rfl
  have hg1 : ∀ {c d : Cell} {cs : List Cell}, (c :: d :: cs).getD 1 cellD = d := fun {_ _ _} => rfl
  unfold parseFile parseFileF
  rw [decide_eq_false hb, cond_false, callK_ret2 ha]
  simp only [hg, hg1, f2, grd, cond_true, Option.bind_some, List.nil_append]
  rw [hv]
  by_cases hc : (declsV (s.size + 2) s ⟨0, 0, 0⟩).2.c = 0
  ·have h1 : ((declsV (s.size + 2) s ⟨0, 0, 0⟩).2.c != 0) = false := by simp [hc]
   rw [h1, if_pos hc, if_pos hc, hc]
   rfl
  ·have h1 : ((declsV (s.size + 2) s ⟨0, 0, 0⟩).2.c != 0) = true := by simpa using hc
   rw [h1, if_neg hc, if_neg hc]
   rfl
theorem declFits_loop {cs : List (ByteArray × Tm)} (hcs : ∀ c ∈ cs, TFine c.2) (hn : cs.length < 2 ^ 40) {N : Nat} {a0 : Int} {a1 : ByteArray} {a2 : List (List V)} {a3 a4 : Int} {a5 : ByteArray} {a6 a7 : List (List V)} {a8 a9 : Int} {a10 : ByteArray} {a11 a12 : List (List V)} {a13 : Int} {σ : Sto} :
  ∀ (m i : Nat) (b : Bool), i ≤ cs.length → cs.length - i < m → ∃ b' : Bool, declFitsl0 (lim C) N m (.bool b) i a0 a1 a2 a3 a4 a5 a6 a7 a8 a9 a10 a11 a12 a13 (cs.map fun c : ByteArray × Tm => V.str c.1 :: c.2.enc) σ = some (.ret [(.bool b', false)], σ)
 | 0, i, b, hi, hm => by omega
 | m + 1, i, b, hi, hm => by
  show ∃ b' : Bool, declFitss0 (lim C) (declFitsl0 (lim C) N m) _ _ _ _ _ _ _ _ _ _ _ _ _ _ _ _ _ σ = _
  unfold declFitss0
  rw [List.length_map]
  by_cases hlt : i < cs.length
  ·rw [dlt hlt, cond_true]
   cases b
   ·exact ⟨false, rfl⟩
   ·have hf := hcs cs[i] (List.getElem_mem hlt)
    have hw := hf.wide
    obtain ⟨b2, h2⟩ := levelsFit_law σ cs[i].2 (by omega)
    obtain ⟨b3, h3⟩ := declFits_loop hcs hn (N := N) (a0 := a0) (a1 := a1) (a2 := a2) (a3 := a3) (a4 := a4) (a5 := a5) (a6 := a6) (a7 := a7) (a8 := a8) (a9 := a9) (a10 := a10) (a11 := a11) (a12 := a12) (a13 := a13) (σ := σ) m (i + 1) b2 (by omega) (by omega)
    refine ⟨b3, ?_⟩
    rw [ctors_getC hlt, ctor_read, d0]
    simp only [V.asBool, Option.bind_some, cond_true, Bool.and_self, grd, callK_ret1 h2, List.getD_cons_zero, wrap_succ (show i < 2 ^ 61 by omega)]
    exact h3
  ·rw [dnlt hlt]; exact ⟨b, rfl⟩
theorem ctors_few {d : Dc} (hb : (prD d).length < 2 ^ 32) : d.ctors.length < 2 ^ 40 ∧ d.pars.length < 2 ^ 40 := by
 have hw := prD_words d
 have hjl : (Go.Lib.join (wordsD d ++ d.ctors.map ctorL) [32]).length + 2 = (prD d).length := by
  rw [← hw]; simp
 have h1 := join_le (wordsD d ++ d.ctors.map ctorL)
 rw [List.length_append, List.length_map] at h1
 have h2 := join_mem (W := wordsD d ++ d.ctors.map ctorL) (x := 40 :: (parsL d.pars ++ [41])) (List.mem_append_left _ (by simp [wordsD]))
 simp only [List.length_cons, List.length_append] at h2
 have h3 := join_le (d.pars.map fun s => s.data.toList)
 rw [join_pars, List.length_map] at h3
 exact ⟨by omega, by omega⟩
theorem declFits_law {d : Dc} (ok : DOk d) (hb : (prD d).length < 2 ^ 32) (σ : Sto) : ∃ b : Bool, lim C 20 [(d.val, false)] σ = some (.ret [(.bool b, false)], σ) := by
 have e : d.val = _ := dc_val d.kind d.name d.pars d.type d.value d.arity d.ctors
 have w1 := ok.type.wide
 have w2 := ok.value.wide
 obtain ⟨b1, h1⟩ := levelsFit_law σ d.type (by omega)
 obtain ⟨b2, h2⟩ := levelsFit_law σ d.value (by omega)
 have lp := fun b => declFits_loop (fun c hc => (ok.ctors c hc).2) (ctors_few hb).1 (N := d.ctors.length + 1) (a0 := d.kind) (a1 := d.name) (a2 := strs d.pars) (a3 := d.type.kind) (a4 := d.type.num) (a5 := d.type.name) (a6 := d.type.lvs.map Lv.enc) (a7 := d.type.args) (a8 := d.value.kind) (a9 := d.value.num) (a10 := d.value.name) (a11 := d.value.lvs.map Lv.enc) (a12 := d.value.args) (a13 := d.arity) (σ := σ) (d.ctors.length + 1) 0 b (Nat.zero_le _) (by omega)
 have hkv : V.agg [(V.int .i64 d.type.kind), (V.int .i64 d.type.num), (V.str d.type.name), (V.slice 3 92 (d.type.lvs.map Lv.enc)), (V.slice 5 44 d.type.args)] = d.type.val := rfl
 have hkv2 : V.agg [(V.int .i64 d.value.kind), (V.int .i64 d.value.num), (V.str d.value.name), (V.slice 3 92 (d.value.lvs.map Lv.enc)), (V.slice 5 44 d.value.args)] = d.value.val := rfl
 rw [e]
 cases b1
 ·obtain ⟨b, hb⟩ := lp false
  refine ⟨b, declFits_lim (n := d.ctors.length + 1) ?_⟩
  simp only [declFits, declFitsF, hkv, hkv2, callK_ret1 h1, callK_ret1 h2, List.getD_cons_zero, V.asBool, Option.bind_some, cond_false]
  exact hb
 ·obtain ⟨b, hb⟩ := lp b2
  refine ⟨b, declFits_lim (n := d.ctors.length + 1) ?_⟩
  simp only [declFits, declFitsF, hkv, hkv2, callK_ret1 h1, callK_ret1 h2, List.getD_cons_zero, V.asBool, Option.bind_some, cond_true]
  exact hb
theorem mem_prF {ds : List Dc} {d : Dc} (h : d ∈ ds) : (prD d).length ≤ (prF ds).length := by
 induction ds with
 | nil => simp at h
 | cons x xs ih =>
  simp only [prF, List.flatMap_cons, List.length_append] at ih ⊢
  rcases List.mem_cons.1 h with rfl | h
  ·omega
  ·have := ih h; omega
theorem declsFit_loop {ds : List Dc} (hok : ∀ d ∈ ds, DOk d) (hn : ds.length < 2 ^ 40) (hb : (prF ds).length < 2 ^ 32) {N : Nat} {σ : Sto} : ∀ (m i : Nat) (b : Bool), i ≤ ds.length → ds.length - i < m → ∃ b' : Bool, declsFitl0 (lim C) N m (ds.map Dc.enc) (.bool b) i σ = some (.ret [(.bool b', false)], σ)
 | 0, i, b, hi, hm => by omega
 | m + 1, i, b, hi, hm => by
  show ∃ b' : Bool, declsFits0 (lim C) (declsFitl0 (lim C) N m) _ _ _ σ = _
  unfold declsFits0
  rw [List.length_map]
  by_cases hlt : i < ds.length
  ·rw [dlt hlt, cond_true]
   cases b
   ·exact ⟨false, rfl⟩
   ·have hm1 := mem_prF (List.getElem_mem hlt)
    obtain ⟨b2, h2⟩ := declFits_law (hok ds[i] (List.getElem_mem hlt)) (by omega) σ
    obtain ⟨b3, h3⟩ := declsFit_loop hok hn hb (N := N) (σ := σ) m (i + 1) b2 (by omega) (by omega)
    refine ⟨b3, ?_⟩
    rw [dc_getD hlt, dc_read, d0]
    simp only [V.asBool, Option.bind_some, cond_true, Bool.and_self, grd, callK_ret1 h2, List.getD_cons_zero, wrap_succ (show i < 2 ^ 61 by omega)]
    exact h3
  ·rw [dnlt hlt]; exact ⟨b, rfl⟩
theorem declsFit_law {ds : List Dc} (hok : ∀ d ∈ ds, DOk d) (hn : ds.length < 2 ^ 40) (hb : (prF ds).length < 2 ^ 32) (o : Bool) (σ : Sto) : ∃ b : Bool, lim C 8 [(.slice 15 47 (ds.map Dc.enc), o)] σ = some (.ret [(.bool b, false)], σ) := by
 obtain ⟨b, h⟩ := declsFit_loop hok hn hb (N := ds.length + 1) (σ := σ) (ds.length + 1) 0 true (Nat.zero_le _) (by omega)
 exact ⟨b, declsFit_lim (n := ds.length + 1) h⟩
theorem sameDecl_loop1 {d : Dc} (ok : DOk d) (hn : d.ctors.length < 2 ^ 40) {N : Nat} {σ : Sto} : ∀ (m i : Nat), i ≤ d.ctors.length → d.ctors.length - i < m →
  sameDecll1 (lim C) N m i d.kind d.name (strs d.pars) d.type.kind d.type.num d.type.name (d.type.lvs.map Lv.enc) d.type.args d.value.kind d.value.num d.value.name (d.value.lvs.map Lv.enc) d.value.args d.arity (d.ctors.map fun c => .str c.1 :: c.2.enc)
   d.kind d.name (strs d.pars) d.type.kind d.type.num d.type.name (d.type.lvs.map Lv.enc) d.type.args d.value.kind d.value.num d.value.name (d.value.lvs.map Lv.enc) d.value.args d.arity (d.ctors.map fun c => .str c.1 :: c.2.enc) σ = some (.ret [(.bool true, false)], σ)
 | 0, i, hi, hm => by omega
 | m + 1, i, hi, hm => by
  show sameDecls1 (lim C) (sameDecll1 (lim C) N m) _ _ _ _ _ _ _ _ _ _ _ _ _ _ _ _ _ _ _ _ _ _ _ _ _ _ _ _ _ _ _ σ = _
  unfold sameDecls1
  rw [List.length_map]
  have w1 := ok.type.wide
  have w2 := ok.value.wide
  by_cases hlt : i < d.ctors.length
  ·have hf := (ok.ctors d.ctors[i] (List.getElem_mem hlt)).2
   have w3 := hf.wide
   have h1 := sameTerm_law σ d.ctors[i].2 (by omega)
   have ih := sameDecl_loop1 ok hn (N := N) (σ := σ) m (i + 1) (by omega) (by omega)
   rw [dlt hlt, cond_true, ctors_getC hlt, ctor_read, d0]
   simp only [Bool.and_self, grd, cond_true, Option.bind_some, callK_ret1 h1, List.getD_cons_zero, V.asBool, Bool.not_true, cond_false, V.asStr, beq_self_eq_true, wrap_succ (show i < 2 ^ 61 by omega)]
   exact ih
  ·have h1 := sameTerm_law σ d.type (by omega)
   have h2 := sameTerm_law σ d.value (by omega)
   rw [dnlt hlt, cond_false]
   have hkv : V.agg [(V.int .i64 d.type.kind), (V.int .i64 d.type.num), (V.str d.type.name), (V.slice 3 92 (d.type.lvs.map Lv.enc)), (V.slice 5 44 d.type.args)] = d.type.val := rfl
   have hkv2 : V.agg [(V.int .i64 d.value.kind), (V.int .i64 d.value.num), (V.str d.value.name), (V.slice 3 92 (d.value.lvs.map Lv.enc)), (V.slice 5 44 d.value.args)] = d.value.val := rfl
   rw [hkv, hkv2]
   simp only [callK_ret1 h1, callK_ret1 h2, List.getD_cons_zero, V.asBool, Option.bind_some, cond_true]
theorem sameDecl_loop0 {d : Dc} (ok : DOk d) (hn : d.ctors.length < 2 ^ 40) (hpn : d.pars.length < 2 ^ 40) {N : Nat} (hN : d.ctors.length < N) {σ : Sto} : ∀ (m i : Nat), i ≤ d.pars.length → d.pars.length - i < m →
  sameDecll0 (lim C) N m i d.kind d.name (strs d.pars) d.type.kind d.type.num d.type.name (d.type.lvs.map Lv.enc) d.type.args d.value.kind d.value.num d.value.name (d.value.lvs.map Lv.enc) d.value.args d.arity (d.ctors.map fun c => .str c.1 :: c.2.enc)
   d.kind d.name (strs d.pars) d.type.kind d.type.num d.type.name (d.type.lvs.map Lv.enc) d.type.args d.value.kind d.value.num d.value.name (d.value.lvs.map Lv.enc) d.value.args d.arity (d.ctors.map fun c => .str c.1 :: c.2.enc) σ = some (.ret [(.bool true, false)], σ)
 | 0, i, hi, hm => by omega
 | m + 1, i, hi, hm => by
  show sameDecls0 (lim C) (sameDecll1 (lim C) N N) (sameDecll0 (lim C) N m) _ _ _ _ _ _ _ _ _ _ _ _ _ _ _ _ _ _ _ _ _ _ _ _ _ _ _ _ _ _ _ σ = _
  unfold sameDecls0
  by_cases hlt : i < d.pars.length
  ·have ih := sameDecl_loop0 ok hn hpn hN (σ := σ) m (i + 1) (by omega) (by omega)
   have hg : (strs d.pars).getD (Int.toNat (i : Int)) [] = [V.str d.pars[i]] := by rw [Int.toNat_natCast]; exact strs_get hlt
   rw [strs_length, dlt hlt, cond_true, hg, d0]
   simp only [Bool.and_self, grd, cond_true, Option.bind_some, List.getD_cons_zero, V.asStr, beq_self_eq_true, Bool.not_true, cond_false, wrap_succ (show i < 2 ^ 61 by omega)]
   exact ih
  ·rw [strs_length, dnlt hlt, cond_false]
   exact sameDecl_loop1 ok hn N 0 (Nat.zero_le _) (by omega)
theorem sameDecl_law {d : Dc} (ok : DOk d) (hb : (prD d).length < 2 ^ 32) (σ : Sto) : lim C 12 [(d.val, false), (d.val, false)] σ = some (.ret [(.bool true, false)], σ) := by
 have e : d.val = _ := dc_val d.kind d.name d.pars d.type d.value d.arity d.ctors
 have h := sameDecl_loop0 ok (ctors_few hb).1 (ctors_few hb).2 (N := d.ctors.length + d.pars.length + 1) (by omega) (σ := σ) (d.ctors.length + d.pars.length + 1) 0 (Nat.zero_le _) (by omega)
 rw [e]
 refine sameDecl_lim (n := d.ctors.length + d.pars.length + 1) ?_
 simp only [sameDecl, sameDeclF, bne_self_eq_false, beq_self_eq_true, Bool.not_true, cond_false]
 exact h
theorem rpd_loop1 {cs : List (ByteArray × Tm)} (hcs : ∀ c ∈ cs, TFine c.2) (hn : cs.length < 2 ^ 40) {N : Nat} {a0 : Int} {a1 : ByteArray} {a2 : List (List V)} {a3 a4 : Int} {a5 : ByteArray} {a6 a7 : List (List V)} {a8 a9 : Int} {a10 : ByteArray} {a11 a12 : List (List V)} {a13 : Int} {σ : Sto} :
  ∀ (m i : Nat) (X : List UInt8), i ≤ cs.length → cs.length - i < m → X.length + (ctorsL (cs.drop i)).length < 2 ^ 32 →
   rprintDecll1 (lim C) N m (ba X) i a0 a1 a2 a3 a4 a5 a6 a7 a8 a9 a10 a11 a12 a13 (cs.map fun c : ByteArray × Tm => V.str c.1 :: c.2.enc) σ = some (.ret [(.str (ba (X ++ (ctorsL (cs.drop i) ++ [41]))), false)], σ)
 | 0, i, X, hi, hm, _ => by omega
 | m + 1, i, X, hi, hm, hb => by
  show rprintDecls1 (lim C) (rprintDecll1 (lim C) N m) _ _ _ _ _ _ _ _ _ _ _ _ _ _ _ _ _ σ = _
  unfold rprintDecls1
  rw [List.length_map]
  have e41 : ByteArray.mk #[41] = ba [41] := rfl
  have e32 : ByteArray.mk #[32] = ba [32] := rfl
  have ec : ByteArray.mk #[32, 40, 99, 116, 111, 114, 32] = ba [32, 40, 99, 116, 111, 114, 32] := rfl
  rw [e41, e32, ec]
  by_cases hlt : i < cs.length
  ·have hx : cs.drop i = cs[i] :: cs.drop (i + 1) := List.drop_eq_getElem_cons hlt
   have hcc : ∀ (c : ByteArray × Tm) l, ctorsL (c :: l) = 32 :: ctorL c ++ ctorsL l := fun c l => by simp [ctorsL]
   rw [hx, hcc] at hb ⊢
   simp only [List.length_append, List.length_cons, ctorL, wctor, List.length_nil] at hb
   have hf := hcs cs[i] (List.getElem_mem hlt)
   have w := hf.wide
   have tp := hf.ok.top
   have h1 := rprintTerm_law σ cs[i].2 (by omega) (by omega) (by omega)
   rw [dlt hlt, cond_true, ctors_getC hlt, ctor_read, d0]
   generalize cs[i] = c at *
   have hsz : c.1.size = c.1.data.toList.length := by rw [← ba_size, ba_of]
   have hnm : ba c.1.data.toList = c.1 := ba_of c.1
   rw [← hnm]
   have r1 : strRoom (ba X) (ba [32, 40, 99, 116, 111, 114, 32]) = true := strRoom_ok (by simp only [ba_size, List.length_cons, List.length_nil]; omega)
   have r2 : strRoom (ba (X ++ [32, 40, 99, 116, 111, 114, 32])) (ba c.1.data.toList) = true := strRoom_ok (by simp only [ba_size, List.length_append, List.length_cons, List.length_nil]; omega)
   have r3 : strRoom (ba (X ++ [32, 40, 99, 116, 111, 114, 32] ++ c.1.data.toList)) (ba [32]) = true := strRoom_ok (by simp only [ba_size, List.length_append, List.length_cons, List.length_nil]; omega)
   have r4 : strRoom (ba (X ++ [32, 40, 99, 116, 111, 114, 32] ++ c.1.data.toList ++ [32])) (ba (printT c.2)) = true := strRoom_ok (by simp only [ba_size, List.length_append, List.length_cons, List.length_nil]; omega)
   have r5 : strRoom (ba (X ++ [32, 40, 99, 116, 111, 114, 32] ++ c.1.data.toList ++ [32] ++ printT c.2)) (ba [41]) = true := strRoom_ok (by simp only [ba_size, List.length_append, List.length_cons, List.length_nil]; omega)
   have ih := rpd_loop1 hcs hn (N := N) (a0 := a0) (a1 := a1) (a2 := a2) (a3 := a3) (a4 := a4) (a5 := a5) (a6 := a6) (a7 := a7) (a8 := a8) (a9 := a9) (a10 := a10) (a11 := a11) (a12 := a12) (a13 := a13) (σ := σ) m (i + 1) (X ++ [32, 40, 99, 116, 111, 114, 32] ++ c.1.data.toList ++ [32] ++ printT c.2 ++ [41]) (by omega) (by omega) (by simp only [List.length_append, List.length_cons, List.length_nil]; omega)
   simp only [r1, Bool.and_self, grd, cond_true, Option.bind_some, List.getD_cons_zero, V.asStr, ba_append, r2, r3, callK_ret1 h1, r4, r5, wrap_succ (show i < 2 ^ 61 by omega)]
   refine ih.trans ?_
   simp [ctorL, wctor]
  ·rw [List.drop_eq_nil_of_le (by omega)] at hb ⊢
   have r1 : strRoom (ba X) (ba [41]) = true := strRoom_ok (by simp only [ba_size, List.length_cons, List.length_nil]; omega)
   rw [dnlt hlt, cond_false]
   simp only [r1, grd, cond_true, Option.bind_some, ba_append]
   simp [ctorsL]
theorem parsL_head {l : List ByteArray} (h : 0 < l.length) : parsL l = l[0].data.toList ++ (l.drop 1).flatMap fun y => 32 :: y.data.toList := by
 cases l with
 | nil => simp at h
 | cons x xs => rfl
def tailD (d : Dc) : List UInt8 := arL d ++ 32 :: (printT d.type ++ (valL d ++ (ctorsL d.ctors ++ [41])))
theorem rpd_loop0 {d : Dc} (ok : DOk d) (hb : (prD d).length < 2 ^ 32) {N : Nat} (hN : d.ctors.length < N) {σ : Sto} : ∀ (m i : Nat) (X : List UInt8), i ≤ d.pars.length → d.pars.length - i < m →
  X.length + ((if i = 0 then parsL d.pars else (d.pars.drop i).flatMap fun y => 32 :: y.data.toList).length + (tailD d).length) + 10 < 2 ^ 32 →
  rprintDecll0 (lim C) N m (ba X) i d.kind d.name (strs d.pars) d.type.kind d.type.num d.type.name (d.type.lvs.map Lv.enc) d.type.args d.value.kind d.value.num d.value.name (d.value.lvs.map Lv.enc) d.value.args d.arity (d.ctors.map fun c => .str c.1 :: c.2.enc) σ =
   some (.ret [(.str (ba (X ++ ((if i = 0 then parsL d.pars else (d.pars.drop i).flatMap fun y => 32 :: y.data.toList) ++ 41 :: tailD d))), false)], σ)
 | 0, i, X, hi, hm, _ => by omega
 | m + 1, i, X, hi, hm, hx => by
  show rprintDecls0 (lim C) (rprintDecll1 (lim C) N N) (rprintDecll0 (lim C) N m) _ _ _ _ _ _ _ _ _ _ _ _ _ _ _ _ _ σ = _
  unfold rprintDecls0
  have e32 : ByteArray.mk #[32] = ba [32] := rfl
  have e412 : ByteArray.mk #[41, 32] = ba [41, 32] := rfl
  rw [e32, e412, strs_length]
  have hpn := (ctors_few hb).2
  by_cases hlt : i < d.pars.length
  ·have hxd : d.pars.drop i = d.pars[i] :: d.pars.drop (i + 1) := List.drop_eq_getElem_cons hlt
   have hg : (strs d.pars).getD (Int.toNat (i : Int)) [] = [V.str d.pars[i]] := by rw [Int.toNat_natCast]; exact strs_get hlt
   have ih := fun X => rpd_loop0 ok hb hN (σ := σ) m (i + 1) X (by omega) (by omega)
   have hi1 : ¬ (i + 1 = 0) := by omega
   simp only [if_neg hi1] at ih
   rw [dlt hlt, cond_true, hg, d0]
   have hsz : d.pars[i].size = d.pars[i].data.toList.length := by rw [← ba_size, ba_of]
   by_cases h0 : i = 0
   ·subst h0
    have hp0 := parsL_head hlt
    simp only [Nat.zero_add] at ih
    rw [if_pos rfl, hp0] at hx ⊢
    simp only [List.length_append] at hx
    generalize d.pars[0] = w at *
    have hnm : ba w.data.toList = w := ba_of w
    rw [← hnm]
    have r1 : strRoom (ba X) (ba w.data.toList) = true := strRoom_ok (by simp only [ba_size]; omega)
    have z : decide (((0 : Nat) : Int) > 0) = false := rfl
    have := ih (X ++ w.data.toList) (by simp only [List.length_append]; omega)
    simp only [z, cond_false, Bool.and_self, grd, cond_true, Option.bind_some, List.getD_cons_zero, V.asStr, r1, ba_append, wrap_succ (show 0 < 2 ^ 61 by omega)]
    refine this.trans ?_
    simp [hnm]
   ·rw [if_neg h0] at hx ⊢
    rw [hxd] at hx ⊢
    simp only [List.flatMap_cons, List.length_append, List.length_cons] at hx
    generalize d.pars[i] = w at *
    have hnm : ba w.data.toList = w := ba_of w
    rw [← hnm]
    have r1 : strRoom (ba X) (ba [32]) = true := strRoom_ok (by simp only [ba_size, List.length_cons, List.length_nil]; omega)
    have r2 : strRoom (ba (X ++ [32])) (ba w.data.toList) = true := strRoom_ok (by simp only [ba_size, List.length_append, List.length_cons, List.length_nil]; omega)
    have z : decide ((i : Int) > 0) = true := decide_eq_true (by omega)
    have := ih (X ++ [32] ++ w.data.toList) (by simp only [List.length_append, List.length_cons, List.length_nil]; omega)
    simp only [z, cond_true, Bool.and_self, grd, Option.bind_some, List.getD_cons_zero, V.asStr, r1, r2, ba_append, wrap_succ (show i < 2 ^ 61 by omega)]
    refine this.trans ?_
    simp [hnm]
  ·have hnil : (if i = 0 then parsL d.pars else (d.pars.drop i).flatMap fun y => 32 :: y.data.toList) = [] := by
    by_cases h0 : i = 0
    ·subst h0
     have : d.pars = [] := List.length_eq_zero_iff.1 (by omega)
     rw [this]; rfl
    ·rw [if_neg h0, List.drop_eq_nil_of_le (by omega)]; rfl
   rw [hnil] at hx ⊢
   rw [dnlt hlt, cond_false]
   simp only [List.length_nil, Nat.zero_add] at hx
   unfold tailD at hx ⊢
   simp only [List.length_append, List.length_cons, List.length_nil] at hx
   have w1 := ok.type.wide
   have w2 := ok.value.wide
   have t1 := ok.type.ok.top
   have t2 := ok.value.ok.top
   have h1 := rprintTerm_law σ d.type (by omega) (by omega) (by omega)
   have lp := fun X => rpd_loop1 (fun c hc => (ok.ctors c hc).2) (ctors_few hb).1 (N := N) (a0 := d.kind) (a1 := d.name) (a2 := strs d.pars) (a3 := d.type.kind) (a4 := d.type.num) (a5 := d.type.name) (a6 := d.type.lvs.map Lv.enc) (a7 := d.type.args) (a8 := d.value.kind) (a9 := d.value.num) (a10 := d.value.name) (a11 := d.value.lvs.map Lv.enc) (a12 := d.value.args) (a13 := d.arity) (σ := σ) N 0 X (Nat.zero_le _) (by omega)
   simp only [List.drop_zero] at lp
   have hkv : V.agg [(V.int .i64 d.type.kind), (V.int .i64 d.type.num), (V.str d.type.name), (V.slice 3 92 (d.type.lvs.map Lv.enc)), (V.slice 5 44 d.type.args)] = d.type.val := rfl
   have hkv2 : V.agg [(V.int .i64 d.value.kind), (V.int .i64 d.value.num), (V.str d.value.name), (V.slice 3 92 (d.value.lvs.map Lv.enc)), (V.slice 5 44 d.value.args)] = d.value.val := rfl
   rw [hkv, hkv2]
   have r1 : strRoom (ba X) (ba [41, 32]) = true := strRoom_ok (by simp only [ba_size, List.length_cons, List.length_nil]; omega)
   by_cases k3 : d.kind = 3
   ·have z3 : ((d.kind : Int) == 3) = true := by rw [k3]; rfl
    have z2 : ((d.kind : Int) == 2) = false := by rw [k3]; rfl
    have ha : arL d = 32 :: decDigits d.arity := by simp [arL, k3]
    have hv : valL d = [] := by simp [valL, k3]
    rw [ha, hv] at hx ⊢
    simp only [List.length_cons, List.length_nil] at hx
    have hd := digits_law d.arity (by have := ok.arity; omega) σ
    have r2 : strRoom (ba (X ++ [41, 32])) (ba (decDigits d.arity)) = true := strRoom_ok (by simp only [ba_size, List.length_append, List.length_cons, List.length_nil]; omega)
    have r3 : strRoom (ba (X ++ [41, 32] ++ decDigits d.arity)) (ba [32]) = true := strRoom_ok (by simp only [ba_size, List.length_append, List.length_cons, List.length_nil]; omega)
    have r4 : strRoom (ba (X ++ [41, 32] ++ decDigits d.arity ++ [32])) (ba (printT d.type)) = true := strRoom_ok (by simp only [ba_size, List.length_append, List.length_cons, List.length_nil]; omega)
    simp only [r1, grd, cond_true, Option.bind_some, z3, callK_ret1 hd, List.getD_cons_zero, V.asStr, ba_append, r2, r3, callK_ret1 h1, r4, z2, cond_false]
    refine (lp (X ++ [41, 32] ++ decDigits d.arity ++ [32] ++ printT d.type) (by simp only [List.length_append, List.length_cons, List.length_nil]; omega)).trans ?_
    simp
   ·have z3 : ((d.kind : Int) == 3) = false := by rw [beq_eq_false_iff_ne]; omega
    have ha : arL d = [] := by simp [arL, k3]
    rw [ha] at hx ⊢
    have r2 : strRoom (ba (X ++ [41, 32])) (ba (printT d.type)) = true := strRoom_ok (by simp only [ba_size, List.length_append, List.length_cons, List.length_nil]; omega)
    by_cases k2 : d.kind = 2
    ·have z2 : ((d.kind : Int) == 2) = true := by rw [k2]; rfl
     have hv : valL d = 32 :: printT d.value := by simp [valL, k2]
     rw [hv] at hx ⊢
     simp only [List.length_cons, List.length_nil] at hx
     have h2 := rprintTerm_law σ d.value (by omega) (by omega) (by omega)
     have r3 : strRoom (ba (X ++ [41, 32] ++ printT d.type)) (ba [32]) = true := strRoom_ok (by simp only [ba_size, List.length_append, List.length_cons, List.length_nil]; omega)
     have r4 : strRoom (ba (X ++ [41, 32] ++ printT d.type ++ [32])) (ba (printT d.value)) = true := strRoom_ok (by simp only [ba_size, List.length_append, List.length_cons, List.length_nil]; omega)
     simp only [r1, grd, cond_true, Option.bind_some, z3, cond_false, callK_ret1 h1, List.getD_cons_zero, V.asStr, ba_append, r2, z2, r3, callK_ret1 h2, r4]
     refine (lp (X ++ [41, 32] ++ printT d.type ++ [32] ++ printT d.value) (by simp only [List.length_append, List.length_cons, List.length_nil]; omega)).trans ?_
     simp
    ·have z2 : ((d.kind : Int) == 2) = false := by rw [beq_eq_false_iff_ne]; omega
     have hv : valL d = [] := by simp [valL, k2]
     rw [hv] at hx ⊢
     simp only [List.length_nil] at hx
     simp only [r1, grd, cond_true, Option.bind_some, z3, cond_false, callK_ret1 h1, List.getD_cons_zero, V.asStr, ba_append, r2, z2]
     refine (lp (X ++ [41, 32] ++ printT d.type) (by simp only [List.length_append, List.length_cons, List.length_nil]; omega)).trans ?_
     simp
theorem prD_parts (d : Dc) : prD d = 40 :: (kwL d.kind ++ 32 :: (d.name.data.toList ++ 32 :: 40 :: (parsL d.pars ++ 41 :: tailD d))) := rfl
theorem rprintDecl_law {d : Dc} (ok : DOk d) (hb : (prD d).length < 2 ^ 31) (σ : Sto) : lim C 13 [(d.val, false)] σ = some (.ret [(.str (ba (prD d)), false)], σ) := by
 have e : d.val = _ := dc_val d.kind d.name d.pars d.type d.value d.arity d.ctors
 have hlen := congrArg List.length (prD_parts d)
 simp only [List.length_cons, List.length_append] at hlen
 have lp := fun X => rpd_loop0 ok (by omega) (N := d.ctors.length + d.pars.length + 1) (by omega) (σ := σ) (d.ctors.length + d.pars.length + 1) 0 X (Nat.zero_le _) (by omega)
 simp only [if_true] at lp
 have hsz : d.name.size = d.name.data.toList.length := by rw [← ba_size, ba_of]
 have hnm : ba d.name.data.toList = d.name := ba_of d.name
 rw [e]
 refine rprintDecl_lim (n := d.ctors.length + d.pars.length + 1) ?_
 have fin : ∀ w : List UInt8, w = kwL d.kind → w.length ≤ 9 → ((grd (strRoom (ba (40 :: (w ++ [32]))) d.name)).bind fun _ => (grd (strRoom (ba (40 :: (w ++ [32])) ++ d.name) (ba [32, 40]))).bind fun _ =>
   rprintDecll0 (lim C) (d.ctors.length + d.pars.length + 1) (d.ctors.length + d.pars.length + 1) (ba (40 :: (w ++ [32])) ++ d.name ++ ba [32, 40]) 0 d.kind d.name (strs d.pars) d.type.kind d.type.num d.type.name (d.type.lvs.map Lv.enc) d.type.args d.value.kind d.value.num d.value.name (d.value.lvs.map Lv.enc) d.value.args d.arity (d.ctors.map fun c => .str c.1 :: c.2.enc) σ) = some (.ret [(.str (ba (prD d)), false)], σ) := by
  intro w hw h9
  have hn2 : ba (40 :: (w ++ [32])) ++ d.name = ba (40 :: (w ++ [32]) ++ d.name.data.toList) := by rw [← ba_append, hnm]
  have r1 : strRoom (ba (40 :: (w ++ [32]))) d.name = true := strRoom_ok (by rw [hsz]; simp only [ba_size, List.length_append, List.length_cons, List.length_nil]; omega)
  have r2 : strRoom (ba (40 :: (w ++ [32]) ++ d.name.data.toList)) (ba [32, 40]) = true := strRoom_ok (by simp only [ba_size, List.length_append, List.length_cons, List.length_nil]; omega)
  rw [hn2, r1, r2, ba_append]
  simp only [grd, cond_true, Option.bind_some]
  refine (lp _ (by rw [hw]; simp only [List.length_append, List.length_cons, List.length_nil]; omega)).trans ?_
  rw [prD_parts, hw]
  simp
 have e1 : ByteArray.mk #[40, 105, 110, 100, 117, 99, 116, 105, 118, 101, 32] = ba (40 :: (winduct ++ [32])) := rfl
 have e2 : ByteArray.mk #[40, 100, 101, 102, 32] = ba (40 :: (wdef ++ [32])) := rfl
 have e3 : ByteArray.mk #[40, 97, 120, 105, 111, 109, 32] = ba (40 :: (waxiom ++ [32])) := rfl
 have e4 : ByteArray.mk #[32, 40] = ba [32, 40] := rfl
 unfold rprintDecl rprintDeclF
 rw [e1, e2, e3, e4]
 rcases ok.kind with h | h | h
 ·have z2 : ((d.kind : Int) == 2) = false := by rw [h]; rfl
  have z3 : ((d.kind : Int) == 3) = false := by rw [h]; rfl
  rw [z2, z3, cond_false, cond_false]
  exact fin waxiom (by rw [h]; rfl) (by decide)
 ·have z2 : ((d.kind : Int) == 2) = true := by rw [h]; rfl
  have z3 : ((d.kind : Int) == 3) = false := by rw [h]; rfl
  rw [z2, z3, cond_true, cond_false]
  exact fin wdef (by rw [h]; rfl) (by decide)
 ·have z2 : ((d.kind : Int) == 2) = false := by rw [h]; rfl
  have z3 : ((d.kind : Int) == 3) = true := by rw [h]; rfl
  rw [z2, z3, cond_false, cond_true]
  exact fin winduct (by rw [h]; rfl) (by decide)
theorem rprintFile_loop {ds : List Dc} (hok : ∀ d ∈ ds, DOk d) (hn : ds.length < 2 ^ 40) {N : Nat} {σ : Sto} : ∀ (m i : Nat) (X : List UInt8), i ≤ ds.length → ds.length - i < m → X.length + (prF (ds.drop i)).length < 2 ^ 31 →
  rprintFilel0 (lim C) N m (ds.map Dc.enc) (ba X) i σ = some (.ret [(.str (ba (X ++ prF (ds.drop i))), false)], σ)
 | 0, i, X, hi, hm, _ => by omega
 | m + 1, i, X, hi, hm, hb => by
  show rprintFiles0 (lim C) (rprintFilel0 (lim C) N m) _ _ _ σ = _
  unfold rprintFiles0
  rw [List.length_map]
  by_cases hlt : i < ds.length
  ·have hx : ds.drop i = ds[i] :: ds.drop (i + 1) := List.drop_eq_getElem_cons hlt
   have hpf : ∀ (d : Dc) (l : List Dc), prF (d :: l) = prD d ++ 10 :: prF l := fun d l => by simp [prF]
   rw [hx, hpf] at hb ⊢
   simp only [List.length_append, List.length_cons] at hb
   have h1 := rprintDecl_law (hok ds[i] (List.getElem_mem hlt)) (by omega) σ
   have ih := rprintFile_loop hok hn (N := N) (σ := σ) m (i + 1) (X ++ prD ds[i] ++ [10]) (by omega) (by omega) (by simp only [List.length_append, List.length_cons, List.length_nil]; omega)
   have e10 : ByteArray.mk #[10] = ba [10] := rfl
   have r1 : strRoom (ba X) (ba (prD ds[i])) = true := strRoom_ok (by simp only [ba_size]; omega)
   have r2 : strRoom (ba (X ++ prD ds[i])) (ba [10]) = true := strRoom_ok (by simp only [ba_size, List.length_append, List.length_cons, List.length_nil]; omega)
   rw [dlt hlt, cond_true, dc_getD hlt, dc_read, d0, e10]
   simp only [Bool.and_self, grd, cond_true, Option.bind_some, callK_ret1 h1, List.getD_cons_zero, V.asStr, r1, ba_append, r2, wrap_succ (show i < 2 ^ 61 by omega)]
   refine ih.trans ?_
   simp
  ·rw [List.drop_eq_nil_of_le (by omega), dnlt hlt, cond_false]
   simp [prF]
theorem rprintFile_law {ds : List Dc} (hok : ∀ d ∈ ds, DOk d) (hn : ds.length < 2 ^ 40) (hb : (prF ds).length < 2 ^ 31) (o : Bool) (σ : Sto) : lim C 10 [(.slice 15 47 (ds.map Dc.enc), o)] σ = some (.ret [(.str (ba (prF ds)), false)], σ) := by
 have h := rprintFile_loop hok hn (N := ds.length + 1) (σ := σ) (ds.length + 1) 0 [] (Nat.zero_le _) (by omega) (by simpa using hb)
 rw [List.drop_zero, List.nil_append] at h
 exact rprintFile_lim (n := ds.length + 1) h
end Go.Ab.Mk
end
section
set_option maxRecDepth 100000
namespace Go.Ab.Mq
open Go.Proofs Go.Ab
open List (getD)
open IntKind (wrap)
def TL : List (TypeId × TI) := [
 (0, ⟨(.tuple 0), 1, 0, [V.any]⟩),
 (3, ⟨(.int .i64), 1, 8, [(V.int .i64 (0 : Int))]⟩),
 (4, ⟨.bool, 1, 1, [V.bool false]⟩),
 (9, ⟨.string, 1, 16, [V.str ⟨#[]⟩]⟩),
 (22, ⟨(.slice 25), 1, 24, [V.slice 6 25 []]⟩),
 (25, ⟨(.struct [(0, 3), (1, 9), (2, 9), (3, 9), (4, 3), (5, 3)]), 6, 72, [(V.int .i64 (0 : Int)), V.str ⟨#[]⟩, V.str ⟨#[]⟩, V.str ⟨#[]⟩, (V.int .i64 (0 : Int)), (V.int .i64 (0 : Int))]⟩),
 (27, ⟨(.slice 47), 1, 24, [V.slice 15 47 []]⟩),
 (29, ⟨.iface, 1, 16, [V.nilIface]⟩),
 (30, ⟨(.tuple 2), 1, 0, [V.any]⟩),
 (33, ⟨(.struct [(0, 3), (1, 3)]), 2, 16, [(V.int .i64 (0 : Int)), (V.int .i64 (0 : Int))]⟩),
 (34, ⟨(.tuple 2), 1, 0, [V.any]⟩),
 (40, ⟨(.slice 9), 1, 24, [V.slice 1 9 []]⟩),
 (41, ⟨(.slice 92), 1, 24, [V.slice 3 92 []]⟩),
 (42, ⟨(.slice 44), 1, 24, [V.slice 5 44 []]⟩),
 (44, ⟨(.struct [(0, 3), (1, 3), (2, 9), (3, 41), (4, 42)]), 5, 80, [(V.int .i64 (0 : Int)), (V.int .i64 (0 : Int)), V.str ⟨#[]⟩, V.slice 3 92 [], V.slice 5 44 []]⟩),
 (45, ⟨(.slice 71), 1, 24, [V.slice 6 71 []]⟩),
 (47, ⟨(.struct [(0, 3), (1, 9), (2, 40), (3, 44), (8, 44), (13, 3), (14, 45)]), 15, 240, [(V.int .i64 (0 : Int)), V.str ⟨#[]⟩, V.slice 1 9 [], (V.int .i64 (0 : Int)), (V.int .i64 (0 : Int)), V.str ⟨#[]⟩, V.slice 3 92 [], V.slice 5 44 [], (V.int .i64 (0 : Int)), (V.int .i64 (0 : Int)), V.str ⟨#[]⟩, V.slice 3 92 [], V.slice 5 44 [], (V.int .i64 (0 : Int)), V.slice 6 71 []]⟩),
 (57, ⟨(.tuple 2), 1, 0, [V.any]⟩),
 (71, ⟨(.struct [(0, 9), (1, 44)]), 6, 96, [V.str ⟨#[]⟩, (V.int .i64 (0 : Int)), (V.int .i64 (0 : Int)), V.str ⟨#[]⟩, V.slice 3 92 [], V.slice 5 44 []]⟩),
 (92, ⟨(.struct [(0, 3), (1, 9), (2, 41)]), 3, 48, [(V.int .i64 (0 : Int)), V.str ⟨#[]⟩, V.slice 3 92 []]⟩)]
noncomputable def filesH : Hints := { keep := fun i => if i = 0 then [0, 3] else [], ep := [17, 18] }
noncomputable def filesC : Code := Tryz.f3.body.getD .skip
noncomputable def filesD : FDef := ⟨Tryz.f3, filesC, filesH⟩
noncomputable def filedH : Hints := { keep := fun i => if i = 0 then [3, 5, 10] else [], lp := [6], ep := [53, 58, 62, 71], roots := [(6, 6)], ord := fun i => if i = 16 then List.range 10 else [] }
noncomputable def filedC : Code := Tryz.f4.body.getD .skip
noncomputable def filedD : FDef := ⟨Tryz.f4, filedC, filedH⟩
noncomputable def faultyH : Hints := { keep := fun i => [], lp := [3, 13, 21], roots := [(3, 3), (13, 3), (21, 3)] }
noncomputable def faultyC : Code := Tryz.f7.body.getD .skip
noncomputable def faultyD : FDef := ⟨Tryz.f7, faultyC, faultyH⟩
noncomputable def FL : List (FuncId × FDef) := [(3, filesD), (4, filedD), (7, faultyD)]
noncomputable def C : Ctx := { T := look TL, glob := fun g => if g = 1 then some [V.str ⟨#[]⟩, V.str ⟨#[115, 111, 114, 116]⟩, V.str ⟨#[99, 111, 110, 115, 116]⟩, V.str ⟨#[97, 112, 112]⟩, V.str ⟨#[108, 97, 109]⟩, V.str ⟨#[112, 105]⟩, V.str ⟨#[108, 101, 116]⟩] else if g = 0 then some [V.slice 1 9 [[V.str ⟨#[]⟩], [V.str ⟨#[115, 111, 114, 116]⟩], [V.str ⟨#[99, 111, 110, 115, 116]⟩], [V.str ⟨#[97, 112, 112]⟩], [V.str ⟨#[108, 97, 109]⟩], [V.str ⟨#[112, 105]⟩], [V.str ⟨#[108, 101, 116]⟩]]] else if g = 7 then some [V.str ⟨#[]⟩, V.str ⟨#[115]⟩, V.str ⟨#[109, 97, 120]⟩, V.str ⟨#[105, 109, 97, 120]⟩] else if g = 6 then some (Go.Lib.pow10Tab.map fun z => V.int .u64 z) else if g = 3 then some [V.iface 171 V.any] else if g = 2 then some [V.lit Mk.hv] else none, ext := fun f => if f = 5 then some (Mk.fparseS (lim Mk.C)) else if f = 19 then some Mk.codeS else if f = 6 then some (lim Mk.C 6) else if f = 8 then some (lim Mk.C 8) else if f = 9 then some (lim Mk.C 9) else if f = 10 then some (lim Mk.C 10) else if f = 11 then some (lim Mk.C 11) else if f = 12 then some (lim Mk.C 12) else if f = 13 then some (lim Mk.C 13) else none, fdef := lookF FL }
theorem typesOk : ∀ t i, C.T t = some i → TOk Tryz.prog t i := look_ok (by kernel_rfl)
theorem ctxOk : CtxOk Tryz.prog C where
 mixed := by kernel_rfl
 T := typesOk
 fdef := by
  refine lookF_ok (P := Tryz.prog) (Q := fun f d => Tryz.prog.funcs[f]? = some d.fn ∧ d.fn.body = some d.code ∧ (∀ (args : Array Value) (w : World), (callFunc f args).run Tryz.prog w = .ok (.enter f args) w)) (L := FL) ?_
  intro p hp
  simp only [FL, List.mem_cons, List.not_mem_nil, or_false] at hp
  rcases hp with rfl | rfl | rfl
  ·exact ⟨Tryz.func3, by kernel_rfl, fun args w => Tryz.call3 args w⟩
  ·exact ⟨Tryz.func4, by kernel_rfl, fun args w => Tryz.call4 args w⟩
  ·exact ⟨Tryz.func7, by kernel_rfl, fun args w => Tryz.call7 args w⟩
 pure := by
  refine lookF_ok (P := Tryz.prog) (Q := fun _ d => ∀ g, d.hints.pureF.contains g = true → ∃ s, C.ext g = some s ∧ ∀ args vs, s args [] = some (.ret vs, []) → ∀ σ, s args σ = some (.ret vs, σ)) (L := FL) ?_
  intro p hp
  simp only [FL, List.mem_cons, List.not_mem_nil, or_false] at hp
  rcases hp with rfl | rfl | rfl
  ·intro g hg; exact absurd hg (by show ¬ ([] : List FuncId).contains g = true; simp)
  ·intro g hg; exact absurd hg (by show ¬ ([] : List FuncId).contains g = true; simp)
  ·intro g hg; exact absurd hg (by show ¬ ([] : List FuncId).contains g = true; simp)
end Go.Ab.Mq
end
section
set_option maxRecDepth 100000
namespace Go.Ab.Mq
open Go.Proofs Go.Ab
open List (getD)
open IntKind (wrap)
noncomputable def filesk0 : List Nat := [0, 3]
noncomputable def filess0 (call : CallF) (rec0 : LL → Int → RR) (b : LL) (a : Int) (σ : Sto) : Option Res :=
 bif (decide (a < (b.length : Int))) then
 bif (decide (a < (1152921504606846976 : Int))) then
 (grd (decide (0 ≤ a) && decide (a < b.length))).bind fun _ =>
 callK call 4 [((getD (getD b a.toNat []) 1 V.any), false)] σ 1 (fun d c =>
 (V.asBool (getD d 0 cellD).1).bind fun b4 =>
 bif (!b4) then
 some (.ret [(V.bool false, false)], c)
 else
 rec0 b (wrap .i64 (a + (1 : Int))) c) pnK
 else
 some (.ret [(V.bool true, false)], σ)
 else
 some (.ret [(V.bool true, false)], σ)
noncomputable def filesl0 (call : CallF) (n : Nat) : Nat → LL → Int → RR
 | 0 => fun _ _ _ => none
 | m + 1 => filess0 call (filesl0 call n m)
noncomputable def filest0 (a : LL) (b : Int) (σ : Sto) : St := ⟨[.val (V.slice 6 25 a) false, .dead, .dead, .val (V.int .i64 b) false] ++ dd 19 [], nn 23 [], σ⟩
noncomputable def filesF (call : CallF) (L0 : LL → Int → RR) (a : LL) (σ : Sto) : Option Res :=
 L0 a (0 : Int) σ
noncomputable def files (call : CallF) (n : Nat) (a : LL) (σ : Sto) : Option Res := filesF call (filesl0 call n n) a σ
theorem filess0_eq (call : CallF) (n : Nat) (F0 : St → Option Res) (a : LL) (b : Int) (σ : Sto) :
  aexec C filesH call n (cp [0,0,1,0,1] filesC) 0 (filest0 a b σ) (kloop filesk0 F0 (kblk 0 (kseq (fun st' => aexec C filesH call n (codeR (codeR filesC)) 0 st' (kfin C filesD)) (kfin C filesD)))) =
  filess0 call (fun a b σ => F0 (filest0 a b σ)) a b σ := by kernel_rfl
theorem filesl0_eq (call : CallF) (n : Nat) : ∀ (m : Nat) (a : LL) (b : Int) (σ : Sto),
  aloop (fun st K => aexec C filesH call n (cp [0,0,1,0,1] filesC) 0 st K) filesk0 m (filest0 a b σ) (kblk 0 (kseq (fun st' => aexec C filesH call n (codeR (codeR filesC)) 0 st' (kfin C filesD)) (kfin C filesD))) = filesl0 call n m a b σ
 | 0, a, b, σ => rfl
 | m + 1, a, b, σ => by
  rw [aloop, filess0_eq]
  simp only [filesl0_eq call n m]
  rfl
theorem files_eqF (call : CallF) (n : Nat) (a : LL) (σ : Sto) : afun C filesD call n [(V.slice 6 25 a, false)] σ =
  filesF call (fun a b σ => aloop (fun st K => aexec C filesH call n (cp [0,0,1,0,1] filesC) 0 st K) filesk0 n (filest0 a b σ) (kblk 0 (kseq (fun st' => aexec C filesH call n (codeR (codeR filesC)) 0 st' (kfin C filesD)) (kfin C filesD)))) a σ := by kernel_rfl
theorem files_eq (call : CallF) (n : Nat) (a : LL) (σ : Sto) : afun C filesD call n [(V.slice 6 25 a, false)] σ = files call n a σ := by
 rw [files_eqF]
 simp only [filesl0_eq]
 rfl
theorem files_lim {n : Nat} {a : LL} {b0 : Bool} {σ : Sto} {r : Res} (h : files (lim C) n a σ = some r) : lim C 3 [(V.slice 6 25 a, b0)] σ = some r :=
 lim_of (d := filesD) (by kernel_rfl) (by kernel_rfl) n (show afun C filesD (lim C) n [(V.slice 6 25 a, false)] σ = some r from (files_eq (lim C) n a σ).trans h)
noncomputable def filedk0 : List Nat := [3, 5, 10]
noncomputable def fileds0 (call : CallF) (rec0 : V → V → Int → RR) (c b : V) (a : Int) (σ : Sto) : Option Res :=
 (V.asSlice b 15 47).bind fun l1 =>
 bif (decide (a < (l1.length : Int))) then
 (V.asSlice b 15 47).bind fun l2 =>
 (grd (decide (0 ≤ a) && decide (a < l2.length))).bind fun _ =>
 callK call 11 [(V.agg [(getD (getD l2 a.toNat []) 0 V.any), (getD (getD l2 a.toNat []) 1 V.any), (getD (getD l2 a.toNat []) 2 V.any), (getD (getD l2 a.toNat []) 3 V.any), (getD (getD l2 a.toNat []) 4 V.any), (getD (getD l2 a.toNat []) 5 V.any), (getD (getD l2 a.toNat []) 6 V.any), (getD (getD l2 a.toNat []) 7 V.any), (getD (getD l2 a.toNat []) 8 V.any), (getD (getD l2 a.toNat []) 9 V.any), (getD (getD l2 a.toNat []) 10 V.any), (getD (getD l2 a.toNat []) 11 V.any), (getD (getD l2 a.toNat []) 12 V.any), (getD (getD l2 a.toNat []) 13 V.any), (getD (getD l2 a.toNat []) 14 V.any)], false)] σ 1 (fun f g =>
 (V.asSlice c 15 47).bind fun l6 =>
 (grd (decide (0 ≤ a) && decide (a < l6.length))).bind fun _ =>
 (V.asSlice b 15 47).bind fun l7 =>
 (grd (decide (0 ≤ a) && decide (a < l7.length))).bind fun _ =>
 callK call 12 [(V.agg [(getD (getD l6 a.toNat []) 0 V.any), (getD (getD l6 a.toNat []) 1 V.any), (getD (getD l6 a.toNat []) 2 V.any), (getD (getD l6 a.toNat []) 3 V.any), (getD (getD l6 a.toNat []) 4 V.any), (getD (getD l6 a.toNat []) 5 V.any), (getD (getD l6 a.toNat []) 6 V.any), (getD (getD l6 a.toNat []) 7 V.any), (getD (getD l6 a.toNat []) 8 V.any), (getD (getD l6 a.toNat []) 9 V.any), (getD (getD l6 a.toNat []) 10 V.any), (getD (getD l6 a.toNat []) 11 V.any), (getD (getD l6 a.toNat []) 12 V.any), (getD (getD l6 a.toNat []) 13 V.any), (getD (getD l6 a.toNat []) 14 V.any)], false), (V.agg [(getD (getD l7 a.toNat []) 0 V.any), (getD (getD l7 a.toNat []) 1 V.any), (getD (getD l7 a.toNat []) 2 V.any), (getD (getD l7 a.toNat []) 3 V.any), (getD (getD l7 a.toNat []) 4 V.any), (getD (getD l7 a.toNat []) 5 V.any), (getD (getD l7 a.toNat []) 6 V.any), (getD (getD l7 a.toNat []) 7 V.any), (getD (getD l7 a.toNat []) 8 V.any), (getD (getD l7 a.toNat []) 9 V.any), (getD (getD l7 a.toNat []) 10 V.any), (getD (getD l7 a.toNat []) 11 V.any), (getD (getD l7 a.toNat []) 12 V.any), (getD (getD l7 a.toNat []) 13 V.any), (getD (getD l7 a.toNat []) 14 V.any)], false)] g 1 (fun h d =>
 (V.asBool (getD h 0 cellD).1).bind fun b11 =>
 bif (!b11) then
 some (.ret [(V.bool false, false)], d)
 else
 (V.asSlice b 15 47).bind fun l12 =>
 (grd (decide (0 ≤ a) && decide (a < l12.length))).bind fun _ =>
 callK call 13 [(V.agg [(getD (getD l12 a.toNat []) 0 V.any), (getD (getD l12 a.toNat []) 1 V.any), (getD (getD l12 a.toNat []) 2 V.any), (getD (getD l12 a.toNat []) 3 V.any), (getD (getD l12 a.toNat []) 4 V.any), (getD (getD l12 a.toNat []) 5 V.any), (getD (getD l12 a.toNat []) 6 V.any), (getD (getD l12 a.toNat []) 7 V.any), (getD (getD l12 a.toNat []) 8 V.any), (getD (getD l12 a.toNat []) 9 V.any), (getD (getD l12 a.toNat []) 10 V.any), (getD (getD l12 a.toNat []) 11 V.any), (getD (getD l12 a.toNat []) 12 V.any), (getD (getD l12 a.toNat []) 13 V.any), (getD (getD l12 a.toNat []) 14 V.any)], false)] d 1 (fun i e =>
 (V.asStr (getD f 0 cellD).1).bind fun s16 =>
 (V.asStr (getD i 0 cellD).1).bind fun s17 =>
 bif (!(s16.toList == s17.toList)) then
 some (.ret [(V.bool false, false)], e)
 else
 rec0 c b (wrap .i64 (a + (1 : Int))) e) pnK) pnK) pnK
 else
 some (.ret [(V.bool true, false)], σ)
noncomputable def filedl0 (call : CallF) (n : Nat) : Nat → V → V → Int → RR
 | 0 => fun _ _ _ _ => none
 | m + 1 => fileds0 call (filedl0 call n m)
noncomputable def filedt0 (a b : V) (c : Int) (σ : Sto) : St := ⟨[.dead, .dead, .dead, .val a false, .dead, .val b false] ++ dd 4 ([.val (V.int .i64 c) false] ++ dd 65 []), nn 76 [], σ⟩
noncomputable def filedF (call : CallF) (L0 : V → V → Int → RR) (d : ByteArray) (σ : Sto) : Option Res :=
 callK call 5 [(V.str d, false)] σ 2 (fun b g =>
 callK call 6 [(V.str d, false)] g 2 (fun a h =>
 (grd (V.fits (getD a 1 cellD).1 true 2)).bind fun _ =>
 callK call 7 [((getD b 1 cellD).1, false), (V.agg [V.cell (getD a 1 cellD).1 0, V.cell (getD a 1 cellD).1 1], false)] h 1 (fun i c =>
 (V.asBool (getD i 0 cellD).1).bind fun b10 =>
 bif (!b10) then
 some (.ret [(V.bool false, false)], c)
 else
 (V.asSlice (getD b 0 cellD).1 15 47).bind fun l11 =>
 (V.asSlice (getD a 0 cellD).1 15 47).bind fun l12 =>
 bif ((l11.length : Int) != (l12.length : Int)) then
 some (.ret [(V.bool false, false)], c)
 else
 callK call 8 [((getD a 0 cellD).1, false)] c 1 (fun j e =>
 (V.asBool (getD j 0 cellD).1).bind fun b16 =>
 bif (!b16) then
 some (.ret [(V.bool true, false)], e)
 else
 callK call 9 [((getD a 0 cellD).1, false)] e 1 (fun k o =>
 callK call 10 [((getD a 0 cellD).1, false)] o 1 (fun p f =>
 (V.asStr (getD k 0 cellD).1).bind fun s23 =>
 (V.asStr (getD p 0 cellD).1).bind fun s24 =>
 bif (!(s23.toList == s24.toList)) then
 some (.ret [(V.bool false, false)], f)
 else
 L0 (getD b 0 cellD).1 (getD a 0 cellD).1 (0 : Int) f) pnK) pnK) pnK) pnK) pnK) pnK
noncomputable def filed (call : CallF) (n : Nat) (a : ByteArray) (σ : Sto) : Option Res := filedF call (filedl0 call n n) a σ
theorem fileds0_eq (call : CallF) (n : Nat) (F0 : St → Option Res) (a b : V) (c : Int) (σ : Sto) :
  aexec C filedH call n (cp [0,0,1,0,1,1,1,1,1,1,1,1,1] filedC) 0 (filedt0 a b c σ) (kloop filedk0 F0 (kblk 0 (kseq (fun st' => aexec C filedH call n (cp [1,1,1,1,1,1,1,1,1,1] filedC) 0 st' (kfin C filedD)) (kfin C filedD)))) =
  fileds0 call (fun a b c σ => F0 (filedt0 a b c σ)) a b c σ := by kernel_rfl
theorem filedl0_eq (call : CallF) (n : Nat) : ∀ (m : Nat) (a b : V) (c : Int) (σ : Sto),
  aloop (fun st K => aexec C filedH call n (cp [0,0,1,0,1,1,1,1,1,1,1,1,1] filedC) 0 st K) filedk0 m (filedt0 a b c σ) (kblk 0 (kseq (fun st' => aexec C filedH call n (cp [1,1,1,1,1,1,1,1,1,1] filedC) 0 st' (kfin C filedD)) (kfin C filedD))) = filedl0 call n m a b c σ
 | 0, a, b, c, σ => rfl
 | m + 1, a, b, c, σ => by
  rw [aloop, fileds0_eq]
  simp only [filedl0_eq call n m]
  rfl
theorem filed_eqF (call : CallF) (n : Nat) (a : ByteArray) (σ : Sto) : afun C filedD call n [(V.str a, false)] σ =
  filedF call (fun b c d σ => aloop (fun st K => aexec C filedH call n (cp [0,0,1,0,1,1,1,1,1,1,1,1,1] filedC) 0 st K) filedk0 n (filedt0 b c d σ) (kblk 0 (kseq (fun st' => aexec C filedH call n (cp [1,1,1,1,1,1,1,1,1,1] filedC) 0 st' (kfin C filedD)) (kfin C filedD)))) a σ := by kernel_rfl
theorem filed_eq (call : CallF) (n : Nat) (a : ByteArray) (σ : Sto) : afun C filedD call n [(V.str a, false)] σ = filed call n a σ := by
 rw [filed_eqF]
 simp only [filedl0_eq]
 rfl
theorem filed_lim {n : Nat} {a : ByteArray} {b0 : Bool} {σ : Sto} {r : Res} (h : filed (lim C) n a σ = some r) : lim C 4 [(V.str a, b0)] σ = some r :=
 lim_of (d := filedD) (by kernel_rfl) (by kernel_rfl) n (show afun C filedD (lim C) n [(V.str a, false)] σ = some r from (filed_eq (lim C) n a σ).trans h)
noncomputable def faultyF (call : CallF) (c : V) (d e : Int) (σ : Sto) : Option Res :=
 callK call 19 [(c, false)] σ 2 (fun a b =>
 (V.asInt (getD a 0 cellD).1 .i64).bind fun i4 =>
 bif (i4 == d) then
 (V.asInt (getD a 0 cellD).1 .i64).bind fun i5 =>
 bif (i5 == (0 : Int)) then
 some (.ret [(V.bool true, false)], b)
 else
 (V.asInt (getD a 1 cellD).1 .i64).bind fun i6 =>
 some (.ret [(V.bool (i6 == e), false)], b)
 else
 some (.ret [(V.bool false, false)], b)) pnK
noncomputable def faulty (call : CallF) (n : Nat) (a : V) (b c : Int) (σ : Sto) : Option Res := faultyF call a b c σ
theorem faulty_eqF (call : CallF) (n : Nat) (a : V) (b c : Int) (σ : Sto) : afun C faultyD call n [(a, false), (V.agg [V.int .i64 b, V.int .i64 c], false)] σ =
  faultyF call a b c σ := by kernel_rfl
theorem faulty_eq (call : CallF) (n : Nat) (a : V) (b c : Int) (σ : Sto) : afun C faultyD call n [(a, false), (V.agg [V.int .i64 b, V.int .i64 c], false)] σ = faulty call n a b c σ := faulty_eqF call n a b c σ
theorem faulty_lim {n : Nat} {a : V} {b : Int} {c : Int} {b0 b1 : Bool} {σ : Sto} {r : Res} (h : faulty (lim C) n a b c σ = some r) : lim C 7 [(a, b0), (V.agg [V.int .i64 b, V.int .i64 c], b1)] σ = some r :=
 lim_of (d := faultyD) (by kernel_rfl) (by kernel_rfl) n (show afun C faultyD (lim C) n [(a, false), (V.agg [V.int .i64 b, V.int .i64 c], false)] σ = some r from (faulty_eq (lim C) n a b c σ).trans h)
end Go.Ab.Mq
end
section
namespace Go.Ab
open Go.ChangeShapes Go.WideShapes
def G0 (w : World) (B : Nat) : Gh := { N := 0, μ := id, lim := fun i => if i < w.heap.size then B else 0, owner := fun _ => none, ty := fun _ => 0 }
theorem G0_wf (w : World) (B : Nat) : WF (G0 w B) w := fun i hi => ⟨if_neg (by omega), rfl⟩
theorem below_of_ext {w w' : World} {B : Nat} {G' : Gh} (h : Ext (G0 w B) w G' w') : RowKit.Below w.heap.size w w' := ⟨h.os, h.tape, h.output, h.size, fun k hk => (h.old k hk rfl).1⟩
theorem G0_clean (w : World) (B n : Nat) : Clean (G0 w B) n := fun i p hp => by simp [G0] at hp
theorem G0_sinv {gl : Nat → Option (List V)} {w : World} {B : Nat} (h : ∀ (g : Nat) (cs : List V), gl g = some cs → Rel (G0 w B) w (.eptr cs.length cs 0) (.pointer (some ⟨g, 0, none⟩))) (hs : ∀ (g : Nat) (cs : List V), gl g = some cs → 0 < B ∧ ∃ cv el fr, w.heap[g]? = some (.cells cv el fr) ∧ cv.size = cs.length) : SInv gl (G0 w B) w [] :=
 ⟨G0_wf w B, h, rfl, fun b hb => by simp at hb, fun b cs hb => by simp at hb, fun g cs hg => (by
  obtain ⟨k0, cv, el, fr, k1, k2⟩ := hs g cs hg
  refine ⟨rfl, ?_, cv, el, fr, k1, k2⟩
  show 0 < if g < w.heap.size then B else 0
  rw [if_pos (Array.getElem?_eq_some_iff.1 k1).1]
  exact k0)⟩
structure OpV where
 k : Int
 s : ByteArray
 t : ByteArray
 u : ByteArray
 a : Int
 b : Int
def OpV.enc (o : OpV) : List V := [.int .i64 o.k, .str o.s, .str o.t, .str o.u, .int .i64 o.a, .int .i64 o.b]
def OpV.vals (o : OpV) : List Value := [.int .i64 o.k, .string o.s, .string o.t, .string o.u, .int .i64 o.a, .int .i64 o.b]
structure OpV.Fits (o : OpV) : Prop where
 s : o.s.size ≤ maxLen
 t : o.t.size ≤ maxLen
 u : o.u.size ≤ maxLen
 a : (Lit.int .i64 o.a).wf = true
 b : (Lit.int .i64 o.b).wf = true
def OpV.data {H : Type} (o : OpV) : DataW H := .agg [.lit (.int .i64 o.k), .lit (.string o.s.data.toList), .lit (.string o.t.data.toList), .lit (.string o.u.data.toList), .lit (.int .i64 o.a), .lit (.int .i64 o.b)]
section
variable {H : Type} {enc : TypeId × Value → H} {P : Program} {W : World} {sp : Nat → Bool} {held : Bool}
structure OpTy (P : Program) (tS tOp tInt tStr : TypeId) : Prop where
 hS : P.underlying tS = some (.slice tOp)
 hOp : ∃ fs, P.underlying tOp = some (.struct fs) ∧ fs.toList.map (fun f => (f.type, f.offset)) = [(tInt, 0), (tStr, 1), (tStr, 2), (tStr, 3), (tInt, 4), (tInt, 5)]
 hInt : P.underlying tInt = some (.int .i64)
 hStr : P.underlying tStr = some .string
 cOp : P.cellsOf tOp = 6
 cInt : P.cellsOf tInt = 1
 cStr : P.cellsOf tStr = 1
theorem op_read {tS tOp tInt tStr : TypeId} (T : OpTy P tS tOp tInt tStr) {n : Nat} {cs : List Value} {x : DataW H × List MemPlace} (h : DataW.trod enc P W 0 sp held n tOp cs = some x) :
  ∃ o : OpV, cs = o.vals ∧ o.Fits ∧ x.1 = o.data := by
 obtain ⟨fs, hu, hf⟩ := T.hOp
 obtain ⟨xs, m, _, hx, hl, hxl, hall⟩ := DataW.trod_struct hu h
 rw [T.cOp] at hl
 have hfl : fs.toList.length = 6 := by have := congrArg List.length hf; simpa using this
 have fget : ∀ (i : Nat) (ty : TypeId) (off : Nat), (fs.toList.map (fun f => (f.type, f.offset)))[i]? = some (ty, off) → DataW.trod enc P W 0 sp held m ty ((cs.drop off).take (P.cellsOf ty)) = xs[i]? := by
  intro i ty off hi
  simp only [List.getElem?_map, Option.map_eq_some_iff] at hi
  obtain ⟨f, h1, h2⟩ := hi
  have := hall i f (by simpa using h1)
  simp only [Prod.mk.injEq] at h2
  rw [h2.1, h2.2] at this
  exact this
 obtain ⟨c0, c1, c2, c3, c4, c5, rfl⟩ : ∃ c0 c1 c2 c3 c4 c5, cs = [c0, c1, c2, c3, c4, c5] := by
  match cs, hl with
  | [c0, c1, c2, c3, c4, c5], _ => exact ⟨c0, c1, c2, c3, c4, c5, rfl⟩
 ·have hxs : xs.length = 6 := by rw [hxl]; simpa using hfl
  obtain ⟨x0, x1, x2, x3, x4, x5, rfl⟩ : ∃ x0 x1 x2 x3 x4 x5, xs = [x0, x1, x2, x3, x4, x5] := by
   match xs, hxs with
   | [x0, x1, x2, x3, x4, x5], _ => exact ⟨x0, x1, x2, x3, x4, x5, rfl⟩
  have e0 := fget 0 tInt 0 (by rw [hf]; rfl)
  have e1 := fget 1 tStr 1 (by rw [hf]; rfl)
  have e2 := fget 2 tStr 2 (by rw [hf]; rfl)
  have e3 := fget 3 tStr 3 (by rw [hf]; rfl)
  have e4 := fget 4 tInt 4 (by rw [hf]; rfl)
  have e5 := fget 5 tInt 5 (by rw [hf]; rfl)
  rw [T.cInt] at e0 e4 e5
  rw [T.cStr] at e1 e2 e3
  ·obtain ⟨n0, h0, y0, _⟩ := DataW.trod_int T.hInt (e0.trans rfl)
   obtain ⟨s1, h1, y1, g1⟩ := DataW.trod_string T.hStr (e1.trans rfl)
   obtain ⟨s2, h2, y2, g2⟩ := DataW.trod_string T.hStr (e2.trans rfl)
   obtain ⟨s3, h3, y3, g3⟩ := DataW.trod_string T.hStr (e3.trans rfl)
   obtain ⟨n4, h4, y4, g4⟩ := DataW.trod_int T.hInt (e4.trans rfl)
   obtain ⟨n5, h5, y5, g5⟩ := DataW.trod_int T.hInt (e5.trans rfl)
   simp at h0 h1 h2 h3 h4 h5
   subst h0 h1 h2 h3 h4 h5
   refine ⟨⟨n0, s1, s2, s3, n4, n5⟩, rfl, ⟨g1, g2, g3, g4, g5⟩, ?_⟩
   rw [hx, y0, y1, y2, y3, y4, y5]
   rfl
theorem script_rel {tS tOp tInt tStr : TypeId} (T : OpTy P tS tOp tInt tStr) {b0 : Nat} {v : Value} {d : DataW H} {ps : List MemPlace} (hval : Value.okWide P W .any b0 tS v) (h : DataW.Trod enc P W 0 sp held tS v d ps) :
  ∃ (L : List OpV) (B0 : Nat), (∀ B, B0 ≤ B → Rel (G0 W B) W (.slice 6 tOp (L.map OpV.enc)) v) ∧ L.length ≤ maxLen ∧ (∀ o ∈ L, o.Fits) ∧ ((d = .nil ∧ L = []) ∨ ∃ rest, d = .slice (L.map OpV.data) rest) := by
 obtain ⟨fuel, hd⟩ := h
 rcases DataW.trod_slice T.hS hd with ⟨h0, h1⟩ | ⟨a, len, cap, elems, rest, n, _, hcs, hx, _, hlc, hm, hlen, hel, _, _⟩
 ·have hv : v = .slice none 0 0 := by
   have hk : Value.okWide P W .any b0 tS v := hval
   unfold Value.okWide at hk
   rw [T.hS] at hk
   cases v <;> simp [Value.cells] at h0 <;> first | exact congr (congr (congrArg Value.slice h0.1) h0.2.1) h0.2.2 | skip
   all_goals (simp [Cell.okWide, Cell.ok, T.hS] at hk)
  subst hv
  simp only [Prod.mk.injEq] at h1
  exact ⟨[], 0, fun B _ => .snil _ _, Nat.zero_le _, by simp, .inl ⟨h1.1, rfl⟩⟩
 ·have hv : v = .slice (some a) len cap := by
   have hk : Value.okWide P W .any b0 tS v := hval
   unfold Value.okWide at hk
   rw [T.hS] at hk
   cases v <;> simp [Value.cells] at hcs <;> first | exact congr (congr (congrArg Value.slice hcs.1) hcs.2.1) hcs.2.2 | skip
   all_goals (simp [Cell.okWide, Cell.ok, T.hS] at hk)
  subst hv
  have hk : Cell.ok P W .any b0 tS (.slice (some a) len cap) := by
   have hk : Value.okWide P W .any b0 tS (.slice (some a) len cap) := hval
   unfold Value.okWide at hk
   rw [T.hS] at hk
   simpa [Cell.okWide, T.hS] using hk
  simp only [Cell.ok, T.hS] at hk
  obtain ⟨_, _, _, hsp, row, cells, hshape, _⟩ := hk
  obtain ⟨b, off, spot⟩ := a
  simp only at hsp hshape
  subst hsp
  have hblt : b < W.heap.size := by
   rcases Nat.lt_or_ge b W.heap.size with h | h
   ·exact h
   ·simp [World.shape?, Array.getElem?_eq_none h] at hshape
  have each : ∀ i, i < len → ∃ o : OpV, o.Fits ∧ (elems[i]?).map (·.1) = some o.data ∧ ∀ j, j < 6 → W.cell? ⟨b, off + i * 6 + j, none⟩ = o.vals[j]? := by
   intro i hi
   have he := hel i hi
   obtain ⟨y, hy⟩ : ∃ y, elems[i]? = some y := ⟨elems[i], List.getElem?_eq_getElem (by omega)⟩
   rw [hy, Option.bind_eq_some_iff, T.cOp, add_plain] at he
   obtain ⟨cs, hc, ht⟩ := he
   obtain ⟨o, rfl, hf, hdat⟩ := op_read T ht
   refine ⟨o, hf, by rw [hy, ← hdat]; rfl, fun j hj => ?_⟩
   have := (World.cells?_some hc).2.2 j hj
   rw [add_plain] at this
   exact this
  classical
  let f : Nat → OpV := fun i => if h : i < len then (each i h).choose else ⟨0, default, default, default, 0, 0⟩
  have hf : ∀ i, i < len → (f i).Fits ∧ (elems[i]?).map (·.1) = some (f i).data ∧ ∀ j, j < 6 → W.cell? ⟨b, off + i * 6 + j, none⟩ = (f i).vals[j]? := by
   intro i hi
   simp only [f, dif_pos hi]
   exact (each i hi).choose_spec
  refine ⟨(List.range len).map f, off + len * 6, fun B hB => ?_, by simp; omega, fun o ho => ?_, .inr ⟨rest.map (·.1), ?_⟩⟩
  ·have := Rel.slice (G := G0 W B) (w := W) 6 tOp (((List.range len).map f).map OpV.enc) b off cap (((List.range len).map f).map OpV.vals) (by simp) (by simpa using hlc)
    (by simp only [G0, List.length_map, List.length_range, if_pos hblt]; exact hB)
    (fun i e he => by
     simp only [List.getElem?_map, Option.map_eq_some_iff] at he
     obtain ⟨_, _, rfl⟩ := he
     rfl)
    (fun i e he => by
     simp only [List.getElem?_map, Option.map_eq_some_iff] at he
     obtain ⟨_, _, rfl⟩ := he
     rfl)
    (fun i j x c hx hc => by
     simp only [List.getElem?_map, Option.map_eq_some_iff] at hx
     obtain ⟨o, ⟨k, hk, rfl⟩, rfl⟩ := hx
     obtain ⟨hk1, hk2⟩ := List.getElem?_eq_some_iff.1 hk
     simp only [List.length_range] at hk1
     simp only [List.getElem_range] at hk2
     subst hk2
     have hj : j < 6 := by have := (List.getElem?_eq_some_iff.1 hc).1; exact this
     refine ⟨by rw [(hf i hk1).2.2 j hj]; exact hc, ?_⟩
     match j, hj with
     | 0, _ => simp [OpV.vals] at hc; subst hc; rfl
     | 1, _ => simp [OpV.vals] at hc; subst hc; rfl
     | 2, _ => simp [OpV.vals] at hc; subst hc; rfl
     | 3, _ => simp [OpV.vals] at hc; subst hc; rfl
     | 4, _ => simp [OpV.vals] at hc; subst hc; rfl
     | 5, _ => simp [OpV.vals] at hc; subst hc; rfl)
    (fun i j e x v c he hx hv hc => by
     simp only [List.getElem?_map, Option.map_eq_some_iff] at he hx
     obtain ⟨o, ⟨k, hk, rfl⟩, rfl⟩ := hx
     obtain ⟨o', ⟨k', hk', rfl⟩, rfl⟩ := he
     rw [hk] at hk'
     obtain rfl := Option.some.inj hk'
     match j with
     | 0 => simp [OpV.vals, OpV.enc] at hc hv; subst hc; subst hv; exact .int _ _
     | 1 => simp [OpV.vals, OpV.enc] at hc hv; subst hc; subst hv; exact .str _
     | 2 => simp [OpV.vals, OpV.enc] at hc hv; subst hc; subst hv; exact .str _
     | 3 => simp [OpV.vals, OpV.enc] at hc hv; subst hc; subst hv; exact .str _
     | 4 => simp [OpV.vals, OpV.enc] at hc hv; subst hc; subst hv; exact .int _ _
     | 5 => simp [OpV.vals, OpV.enc] at hc hv; subst hc; subst hv; exact .int _ _
     | j + 6 => simp [OpV.vals] at hc)
   simpa using this
  ·simp only [List.mem_map, List.mem_range] at ho
   obtain ⟨i, hi, rfl⟩ := ho
   exact (hf i hi).1
  ·simp only [Prod.mk.injEq] at hx
   rw [hx.1]
   congr 1
   apply List.ext_getElem?
   intro i
   by_cases hi : i < len
   ·rw [List.getElem?_map, (hf i hi).2.1]
    simp [hi]
   ·rw [List.getElem?_eq_none (by simp; omega), List.getElem?_eq_none (by simp; omega)]
theorem op_weights {tS tOp tInt tStr : TypeId} (T : OpTy P tS tOp tInt tStr) (o : OpV) : (o.data : DataW H).weights P tOp = [o.s.data.toList.length, o.t.data.toList.length, o.u.data.toList.length] := by
 obtain ⟨fs, hu, hf⟩ := T.hOp
 have ht : fs.toList.map (·.type) = [tInt, tStr, tStr, tStr, tInt, tInt] := by
  have := congrArg (List.map Prod.fst) hf
  rw [List.map_map] at this
  exact this
 simp only [OpV.data, DataW.weights, hu, ht, DataW.weightsEach]
 rfl
theorem weightsAll_mem {tOp : TypeId} : ∀ {l : List (DataW H)} {d : DataW H} {n : Nat}, d ∈ l → n ∈ d.weights P tOp → n ∈ DataW.weightsAll P tOp l
 | [], _, _, h, _ => by simp at h
 | x :: l, d, n, h, hn => by
  simp only [DataW.weightsAll, List.mem_append]
  rcases List.mem_cons.1 h with rfl | h
  ·exact .inl hn
  ·exact .inr (weightsAll_mem h hn)
theorem script_sized {tS tOp tInt tStr : TypeId} (T : OpTy P tS tOp tInt tStr) (hb : 0 < P.bytesOf tOp) {L : List OpV} {d : DataW H} (hd : (d = .nil ∧ L = []) ∨ ∃ rest, d = .slice (L.map OpV.data) rest)
    (h : (DataW.weightsEach P [tS] [d]).all (· ≤ reachBytes) = true) : L.length < 2 ^ 47 ∧ ∀ o ∈ L, o.s.size < 2 ^ 47 ∧ o.t.size < 2 ^ 47 ∧ o.u.size < 2 ^ 47 := by
  have hr : reachBytes < 2 ^ 47 := by decide
  rcases hd with ⟨_, rfl⟩ | ⟨rest, rfl⟩
  · exact ⟨by simp, by simp⟩
  · rw [List.all_eq_true] at h
    simp only [DataW.weightsEach, DataW.weights, T.hS, List.append_nil] at h
    refine ⟨?_, fun o ho => ?_⟩
    · have := h _ (List.mem_cons_self ..)
      simp only [decide_eq_true_eq, List.length_map] at this
      have h2 : L.length * 1 ≤ (L.length + rest.length) * P.bytesOf tOp := Nat.mul_le_mul (Nat.le_add_right _ _) hb
      omega
    · have key : ∀ n ∈ (o.data : DataW H).weights P tOp, n ≤ reachBytes := by
        intro n hn
        have := h n (List.mem_cons_of_mem _ (List.mem_append_left _ (weightsAll_mem (List.mem_map_of_mem ho) hn)))
        simpa using this
      rw [op_weights T o] at key
      have k1 := key o.s.data.toList.length (by simp)
      have k2 := key o.t.data.toList.length (by simp)
      have k3 := key o.u.data.toList.length (by simp)
      rw [Array.length_toList] at k1 k2 k3
      exact ⟨Nat.lt_of_le_of_lt k1 hr, Nat.lt_of_le_of_lt k2 hr, Nat.lt_of_le_of_lt k3 hr⟩
theorem strTab {base : Nat} {fuel : Nat} {t e : TypeId} {n : Nat} {cs : List Value} {p : List MemPlace} {d : DataW H}
  (ht : P.underlying t = some (.array n e)) (he : P.underlying e = some .string) (hce : P.cellsOf e = 1) (hct : P.cellsOf t = n) (ss : List ByteArray) (hd : d = .agg (ss.map fun s => .lit (.string s.data.toList)))
  (h : DataW.trod enc P W base sp held fuel t cs = some (d, p)) : cs = ss.map Value.string := by
 subst hd
 cases fuel with
 | zero => simp [DataW.trod] at h
 | succ fuel =>
  simp only [DataW.trod, ht, hce, hct, Nat.mul_one] at h
  split at h
  ·rename_i hl
   obtain ⟨xs, hm, hx⟩ := Option.map_eq_some_iff.1 h
   have hxs : xs.map (·.1) = ss.map fun s => (DataW.lit (.string s.data.toList) : DataW H) := by
    have := congrArg Prod.fst hx
    simpa using this
   have hxl : xs.length = n := by simpa using Lib.mapM_length hm
   have hsl : ss.length = n := by
    have := congrArg List.length hxs
    simp at this
    omega
   apply List.ext_getElem?
   intro i
   by_cases hi : i < n
   ·obtain ⟨y, hy, hy2⟩ := Lib.mapM_at hm i i (by simp [hi])
    obtain ⟨s, h1, h2, _⟩ := DataW.trod_string he hy2
    have hci : cs[i]? = some (.string s) := by
     have hlt : i < cs.length := by omega
     have : (cs.drop i).take 1 = [cs[i]] := by
      rw [List.drop_eq_getElem_cons hlt]; rfl
     rw [this] at h1
     rw [List.getElem?_eq_getElem hlt]
     simpa using h1
    have hs : (xs.map (·.1))[i]? = some (DataW.lit (.string s.data.toList)) := by rw [List.getElem?_map, hy, h2]; rfl
    rw [hxs, List.getElem?_map, Option.map_eq_some_iff] at hs
    obtain ⟨s', h3, h4⟩ := hs
    have h5 : s'.data.toList = s.data.toList := by simpa using h4
    have : s' = s := by
     apply ByteArray.ext
     exact Array.toList_inj.1 h5
    rw [hci, List.getElem?_map, h3, this]; rfl
   ·rw [List.getElem?_eq_none (by omega), List.getElem?_eq_none (by simp; omega)]
  ·simp at h
theorem tab_rel {B : Nat} {g : Nat} {ss : List ByteArray} (hg : ∀ i s, ss[i]? = some s → W.cell? ⟨g, i, none⟩ = some (.string s)) (hlt : g < W.heap.size) (hB : ss.length ≤ B) :
  Rel (G0 W B) W (.eptr (ss.map V.str).length (ss.map V.str) 0) (.pointer (some ⟨g, 0, none⟩)) := by
 have := Rel.eptr (G := G0 W B) (w := W) (ss.map V.str).length (ss.map V.str) 0 g 0 (ss.map Value.string) rfl (by simp) (by simp only [G0, if_pos hlt, List.length_map]; omega)
  (fun i c hc => by
   simp only [List.getElem?_map, Option.map_eq_some_iff] at hc
   obtain ⟨s, hs, rfl⟩ := hc
   exact ⟨by rw [Nat.zero_add]; exact hg i s hs, rfl⟩)
  (fun i v c hv hc => by
   simp only [List.getElem?_map, Option.map_eq_some_iff] at hv hc
   obtain ⟨s, hs, rfl⟩ := hv
   obtain ⟨s', hs', rfl⟩ := hc
   rw [hs] at hs'
   obtain rfl := Option.some.inj hs'
   exact .str _)
 simpa using this
theorem strSlice {base : Nat} {fuel : Nat} {t e : TypeId} {cs : List Value} {p : List MemPlace} {d : DataW H}
  (ht : P.underlying t = some (.slice e)) (he : P.underlying e = some .string) (hce : P.cellsOf e = 1) (ss : List ByteArray) (hne : 0 < ss.length) (hd : d = .slice (ss.map fun s => .lit (.string s.data.toList)) [])
  (h : DataW.trod enc P W base sp held fuel t cs = some (d, p)) :
  ∃ b off cap, cs = [.slice (some ⟨b, off, none⟩) ss.length cap] ∧ ss.length ≤ cap ∧ b < W.heap.size ∧ ∀ i s, ss[i]? = some s → W.cell? ⟨b, off + i, none⟩ = some (.string s) := by
 subst hd
 rcases DataW.trod_slice ht h with ⟨_, h1⟩ | ⟨a, len, cap, elems, rest, n, _, hcs, hx, _, hlc, hm, hlen, hel, _, _⟩
 ·simp at h1
 ·simp only [Prod.mk.injEq] at hx
  have hx1 := hx.1
  injection hx1 with hx1 hx2
  have hlen2 : ss.length = len := by
   have := congrArg List.length hx1
   simp only [List.length_map] at this
   omega
  have each : ∀ i s, ss[i]? = some s → W.cell? (a.add i) = some (.string s) := by
   intro i s hs
   have hi : i < ss.length := (List.getElem?_eq_some_iff.1 hs).1
   have hei := hel i (by omega)
   obtain ⟨y, hy⟩ : ∃ y, elems[i]? = some y := ⟨elems[i], List.getElem?_eq_getElem (by omega)⟩
   rw [hy, Option.bind_eq_some_iff, hce, Nat.mul_one] at hei
   obtain ⟨c1, hc, htr⟩ := hei
   obtain ⟨s', g1, g2, _⟩ := DataW.trod_string he htr
   have hcc := (World.cells?_some hc).2.2 0 (by omega)
   have hdat : (elems.map (·.1))[i]? = some (DataW.lit (.string s'.data.toList)) := by rw [List.getElem?_map, hy, g2]; rfl
   rw [← hx1, List.getElem?_map, hs] at hdat
   have h5 : s.data.toList = s'.data.toList := by simpa using hdat
   have : s = s' := by
    apply ByteArray.ext
    exact Array.toList_inj.1 h5
   rw [this]
   have e0 : (a.add i).add 0 = a.add i := by simp [Addr.add]
   rw [e0] at hcc
   have g1' : c1 = [.string s'] := by simpa using g1
   rw [hcc, g1']; rfl
  have h0 := each 0 ss[0] (List.getElem?_eq_getElem hne)
  obtain ⟨b, off, spot⟩ := a
  have hsp : spot = none := by
   have e0 : (⟨b, off, spot⟩ : Addr).add 0 = ⟨b, off, spot⟩ := by simp [Addr.add]
   rw [e0] at h0
   unfold World.cell? at h0
   split at h0
   ·cases spot with
    | none => rfl
    | some z => simp at h0
   ·simp at h0
  subst hsp
  refine ⟨b, off, cap, by rw [hlen2]; exact hcs, by omega, ?_, fun i s hs => ?_⟩
  ·have e0 : (⟨b, off, none⟩ : Addr).add 0 = ⟨b, off, none⟩ := by simp [Addr.add]
   rw [e0] at h0
   exact World.block_lt_of_cell? _ _ h0
  ·have := each i s hs
   rw [add_plain] at this
   exact this
theorem strSlice_rel {B : Nat} {g : Nat} {ss : List ByteArray} {b off cap : Nat} {e : TypeId} (hg : W.cell? ⟨g, 0, none⟩ = some (.slice (some ⟨b, off, none⟩) ss.length cap)) (hlt : g < W.heap.size) (hb : b < W.heap.size) (hcap : ss.length ≤ cap)
  (hc : ∀ i s, ss[i]? = some s → W.cell? ⟨b, off + i, none⟩ = some (.string s)) (hB1 : 1 ≤ B) (hB : off + ss.length ≤ B) :
  Rel (G0 W B) W (.eptr 1 [V.slice 1 e (ss.map fun s => [V.str s])] 0) (.pointer (some ⟨g, 0, none⟩)) := by
 have hr : Rel (G0 W B) W (.slice 1 e (ss.map fun s => [V.str s])) (.slice (some ⟨b, off, none⟩) ss.length cap) := by
  have := Rel.slice (G := G0 W B) (w := W) 1 e (ss.map fun s => [V.str s]) b off cap (ss.map fun s => [Value.string s]) (by simp) (by simpa using hcap)
   (by simp only [G0, List.length_map, if_pos hb]; omega)
   (fun i e he => by
    simp only [List.getElem?_map, Option.map_eq_some_iff] at he
    obtain ⟨_, _, rfl⟩ := he
    rfl)
   (fun i e he => by
    simp only [List.getElem?_map, Option.map_eq_some_iff] at he
    obtain ⟨_, _, rfl⟩ := he
    rfl)
   (fun i j x c hx hcc => by
    simp only [List.getElem?_map, Option.map_eq_some_iff] at hx
    obtain ⟨s, hs, rfl⟩ := hx
    match j with
    | 0 => simp at hcc; subst hcc; exact ⟨by rw [show off + i * 1 + 0 = off + i by omega]; exact hc i s hs, rfl⟩
    | j + 1 => simp at hcc)
   (fun i j e x v c he hx hv hcc => by
    simp only [List.getElem?_map, Option.map_eq_some_iff] at he hx
    obtain ⟨s, hs, rfl⟩ := hx
    obtain ⟨s', hs', rfl⟩ := he
    rw [hs] at hs'
    obtain rfl := Option.some.inj hs'
    match j with
    | 0 => simp at hcc hv; subst hcc; subst hv; exact .str _
    | j + 1 => simp at hcc)
  simpa using this
 refine Rel.eptr 1 [V.slice 1 e (ss.map fun s => [V.str s])] 0 g 0 [.slice (some ⟨b, off, none⟩) ss.length cap] rfl rfl ?_ ?_ ?_
 ·show 0 + 1 ≤ if g < W.heap.size then B else 0
  rw [if_pos hlt]; omega
 ·intro i c hc'
  match i with
  | 0 => simp at hc'; subst hc'; exact ⟨hg, rfl⟩
  | i + 1 => simp at hc'
 ·intro i v c hv hc'
  match i with
  | 0 => simp at hv hc'; subst hv; subst hc'; exact hr
  | i + 1 => simp at hv
theorem post_true {f : Func} {s : ChangeSpec} {tS : TypeId} {W' : World} {G' : Gh} {B : Nat} {v : Value} {d : DataW H} {before : List MemPlace} {tB : TypeId}
  (hp : f.params = #[tS]) (hr : f.resultTypes = #[tB]) (hB : P.underlying tB = some .bool) (hvars : s.vars = []) (hfn : s.fn H [d] = { results := [.lit (.bool true)], args := [d] })
  (hl : laidOutB P = true) (hrr : P.readableRec tS = true) (hrow : tS < P.types.size)
  (hW : DataW.Whole enc P f.params.toList s.vars false W [v] [d] [] before) (hE : Ext (G0 W B) W G' W') :
  s.post enc P f false true false false W #[v] (.bool true) W' := by
 have hb := below_of_ext hE
 have hlt := hW.lt
 obtain ⟨p, q, hA, hV, hpq, hz, hn⟩ := id hW
 rw [hp] at hA
 obtain ⟨v0, vs0, d0, ds0, p0, q0, hargs, hds, hps, h0, r0⟩ := trodAll_cons hA
 obtain ⟨rfl, rfl, rfl⟩ := trodAll_nil r0
 simp only [List.cons.injEq, and_true] at hargs hds
 subst hargs; subst hds
 rw [hvars] at hV
 obtain ⟨_, rfl⟩ := trodVars_none hV
 simp only [List.append_nil] at hps hpq
 subst hps; subst hpq
 have hres : ∀ (b : Nat) (sp : Nat → Bool) (hd : Bool), DataW.TrodAll enc P W' b sp hd f.resultTypes.toList ((Value.bool true).resultList f.resultTypes.size) (s.fn H ([d] ++ [])).results [] := by
  intro b sp hd
  rw [List.append_nil, hfn, hr]
  exact trodAll_mk1 ⟨1, by simp [DataW.trod, hB, Value.cells]⟩
 refine ⟨[d], [], before, [], before, [], hW, hres _ _ _, ?_, ?_, hb.frame _, fun h => by cases h⟩
 ·rw [List.append_nil, hfn, hp]
  exact trodAll_mk1 (RowKit.Below.trod hl hrr hrow h0 hb fun x hx => hlt x hx)
 ·rw [hvars, List.append_nil, hfn]; exact rfl
end
end Go.Ab
end
section
namespace Go.Ab.Mq
open Go.Proofs Go.Ab Go.Ab.Mk
theorem faulty_law {err : V} {σ : Sto} {c a : Int} (h : ErrOk err σ c a) : lim Mq.C 7 [(err, false), (.agg [.int .i64 c, .int .i64 a], false)] σ = some (.ret [(.bool true, false)], σ) :=
 faulty_lim (n := 0) <| by
  have hg : ∀ {c : Cell} {cs : List Cell}, (c :: cs).getD 0 cellD = c := fun {_ _} => rfl
  have hg1 : ∀ {c d : Cell} {cs : List Cell}, (c :: d :: cs).getD 1 cellD = d := fun {_ _ _} => rfl
  rcases h with ⟨rfl, rfl⟩ | ⟨b, rfl, hb⟩
  ·have h40 : lim Mq.C 19 [(.nilIface, false)] σ = some (.ret [(.int .i64 0, false), (.int .i64 0, false)], σ) := lim_ext (s := codeS) (by kernel_rfl) rfl
   simp only [faulty, faultyF, callK_ret2 h40, hg, hg1, V.asInt, if_true, Option.bind_some, beq_self_eq_true, cond_true]
  ·have h40 : lim Mq.C 19 [(.iface 49 (.ptr 33 b 0), false)] σ = some (.ret [(.int .i64 c, false), (.int .i64 a, false)], σ) := lim_ext (s := codeS) (by kernel_rfl) (by simp [codeS, hb, fcell])
   simp only [faulty, faultyF, callK_ret2 h40, hg, hg1, V.asInt, if_true, Option.bind_some, beq_self_eq_true, cond_true]
   cases c == 0 <;> rfl
theorem uncellF (c a : Int) : V.agg [V.cell (.agg [.int .i64 c, .int .i64 a]) 0, V.cell (.agg [.int .i64 c, .int .i64 a]) 1] = V.agg [.int .i64 c, .int .i64 a] := rfl
theorem filed_loop {ds : List Dc} (hok : ∀ d ∈ ds, DOk d) (hn : ds.length < 2 ^ 40) (hb : (prF ds).length < 2 ^ 31) {N : Nat} : ∀ (m i : Nat) (σ : Sto), i ≤ ds.length → ds.length - i < m →
  ∃ σ', filedl0 (lim Mq.C) N m (.slice 15 47 (ds.map Dc.enc)) (.slice 15 47 (ds.map Dc.enc)) i σ = some (.ret [(.bool true, false)], σ')
 | 0, i, _, hi, hm => by omega
 | m + 1, i, σ, hi, hm => by
  show ∃ σ', fileds0 (lim Mq.C) (filedl0 (lim Mq.C) N m) _ _ _ σ = _
  unfold fileds0
  have hsl : V.asSlice (.slice 15 47 (ds.map Dc.enc)) 15 47 = some (ds.map Dc.enc) := by simp [V.asSlice]
  simp only [hsl, Option.bind_some, List.length_map]
  by_cases hlt : i < ds.length
  ·have hml := mem_prF (List.getElem_mem hlt)
   have ok := hok ds[i] (List.getElem_mem hlt)
   obtain ⟨τ, e1⟩ := fprint_law ok (by omega) σ
   have e1' := lim_ext (C := Mq.C) (f := 11) (s := lim Mk.C 11) (by kernel_rfl) e1
   have e2 := lim_ext (C := Mq.C) (f := 12) (s := lim Mk.C 12) (by kernel_rfl) (sameDecl_law ok (by omega) (σ ++ τ))
   have e3 := lim_ext (C := Mq.C) (f := 13) (s := lim Mk.C 13) (by kernel_rfl) (rprintDecl_law ok (by omega) (σ ++ τ))
   obtain ⟨σ', ih⟩ := filed_loop hok hn hb (N := N) m (i + 1) (σ ++ τ) (by omega) (by omega)
   refine ⟨σ', ?_⟩
   rw [dlt hlt, cond_true, dc_getD hlt, dc_read, d0]
   simp only [Bool.and_self, grd, cond_true, Option.bind_some, callK_ret1 e1', callK_ret1 e2, callK_ret1 e3, List.getD_cons_zero, V.asBool, Bool.not_true, cond_false, V.asStr, beq_self_eq_true, wrap_succ (show i < 2 ^ 61 by omega)]
   exact ih
  ·rw [dnlt hlt]; exact ⟨σ, rfl⟩
theorem filed_law (s : ByteArray) (hs : s.size < 2 ^ 59) (σ : Sto) : ∃ σ', lim Mq.C 4 [(.str s, false)] σ = some (.ret [(.bool true, false)], σ') := by
 obtain ⟨err, σ1, h1, he, _⟩ := fparse_law s (by omega) σ
 obtain ⟨τ, o, h2⟩ := parseFile_law s (by omega) σ1
 have hg : ∀ {c : Cell} {cs : List Cell}, (c :: cs).getD 0 cellD = c := fun {_ _} => rfl
 have hg1 : ∀ {c d : Cell} {cs : List Cell}, (c :: d :: cs).getD 1 cellD = d := fun {_ _ _} => rfl
 have f2 : ∀ x y : Int, V.fits (.agg [.int .i64 x, .int .i64 y]) true 2 = true := fun _ _ => rfl
 have x1 := lim_ext (C := Mq.C) (f := 5) (s := fparseS (lim Mk.C)) (by kernel_rfl) h1
 have x2 := lim_ext (C := Mq.C) (f := 6) (s := lim Mk.C 6) (by kernel_rfl) h2
 have x3 := faulty_law (he.more τ)
 have hsl : ∀ ds : List Dc, V.asSlice (.slice 15 47 (ds.map Dc.enc)) 15 47 = some (ds.map Dc.enc) := fun ds => by simp [V.asSlice]
 -- what is parsed can be looked at and printed
 have hall : (∀ d ∈ (fparseV s).1, DOk d) ∧ (fparseV s).1.length < 2 ^ 40 ∧ (prF (fparseV s).1).length < 2 ^ 31 := by
  by_cases hc : (fparseV s).2.1 = 0
  ·obtain ⟨z1, z2, z3, z4⟩ := fparse_read hc
   exact ⟨z2, by omega, by omega⟩
  ·have hnil : (fparseV s).1 = [] := by
    unfold fparseV at hc ⊢
    cases hb : decide ((s.size : Int) > 200000)
    ·rw [hb] at hc
     simp only [cond_false] at hc ⊢
     cases hd : (declsV (s.size + 2) s ⟨0, 0, 0⟩).2.c != 0
     ·rw [hd] at hc; exact absurd rfl hc
     ·rfl
    ·rfl
   rw [hnil]
   exact ⟨fun d hd => by simp at hd, by simp, by simp [prF]⟩
 obtain ⟨ok, hn, hb⟩ := hall
 generalize (fparseV s).1 = ds at *
 obtain ⟨b, h4⟩ := declsFit_law ok hn (by omega) false (σ1 ++ τ)
 have x4 := lim_ext (C := Mq.C) (f := 8) (s := lim Mk.C 8) (by kernel_rfl) h4
 obtain ⟨σ5, h5⟩ := fprintAll_law ok hn (by omega) false (σ1 ++ τ)
 have x5 := lim_ext (C := Mq.C) (f := 9) (s := lim Mk.C 9) (by kernel_rfl) h5
 have x6 := lim_ext (C := Mq.C) (f := 10) (s := lim Mk.C 10) (by kernel_rfl) (rprintFile_law ok hn hb false σ5)
 obtain ⟨σ7, h7⟩ := filed_loop ok hn hb (N := ds.length + 1) (ds.length + 1) 0 σ5 (Nat.zero_le _) (by omega)
 have key : ∀ σ', filed (lim Mq.C) (ds.length + 1) s σ = some (.ret [(.bool true, false)], σ') → ∃ σ', lim Mq.C 4 [(.str s, false)] σ = some (.ret [(.bool true, false)], σ') := fun σ' h => ⟨σ', filed_lim (n := ds.length + 1) h⟩
 cases b
 ·refine key (σ1 ++ τ) ?_
  simp only [filed, filedF, callK_ret2 x1, callK_ret2 x2, hg, hg1, f2, grd, cond_true, Option.bind_some, uncellF, callK_ret1 x3, V.asBool, Bool.not_true, cond_false, hsl, bne_self_eq_false, callK_ret1 x4, Bool.not_false]
 ·refine key σ7 ?_
  simp only [filed, filedF, callK_ret2 x1, callK_ret2 x2, hg, hg1, f2, grd, cond_true, Option.bind_some, uncellF, callK_ret1 x3, V.asBool, Bool.not_true, cond_false, hsl, bne_self_eq_false, callK_ret1 x4, callK_ret1 x5, callK_ret1 x6, V.asStr, beq_self_eq_true]
  exact h7
theorem files_loop (n : Nat) {L : List OpV} (hb : L.length < 2 ^ 60) (hs : ∀ o ∈ L, o.s.size < 2 ^ 59) :
  ∀ (m i : Nat) (σ : Sto), i ≤ L.length → L.length - i < m → ∃ σ', filesl0 (lim Mq.C) n m (L.map OpV.enc) i σ = some (.ret [(.bool true, false)], σ')
 | 0, i, _, _, hm => by omega
 | m + 1, i, σ, hi, hm => by
  show ∃ σ', filess0 (lim Mq.C) (filesl0 (lim Mq.C) n m) (L.map OpV.enc) i σ = _
  unfold filess0
  rw [List.length_map]
  by_cases hlt : i < L.length
  ·obtain ⟨σ1, h1⟩ := filed_law L[i].s (hs _ (List.getElem_mem hlt)) σ
   have hget : (L.map OpV.enc).getD (Int.toNat (i : Int)) [] = L[i].enc := by simp [hlt]
   have hc1 : L[i].enc.getD 1 V.any = .str L[i].s := rfl
   have hbig : decide ((i : Int) < 1152921504606846976) = true := by simp; omega
   obtain ⟨σ3, h3⟩ := files_loop n hb hs m (i + 1) σ1 (by omega) (by omega)
   refine ⟨σ3, ?_⟩
   rw [d0, dlt hlt, hbig, hget, hc1]
   simp only [cond_true, Bool.and_self, grd, Option.bind_some, callK_ret1 h1, List.getD_cons_zero, V.asBool, Bool.not_true, cond_false, wrap_succ (show i < 2 ^ 61 by omega)]
   exact h3
  ·rw [dnlt hlt]; exact ⟨σ, rfl⟩
theorem files_law (L : List OpV) (hb : L.length < 2 ^ 60) (hs : ∀ o ∈ L, o.s.size < 2 ^ 59) (σ : Sto) :
  ∃ σ', lim Mq.C 3 [(.slice 6 25 (L.map OpV.enc), false)] σ = some (.ret [(.bool true, false)], σ') := by
 obtain ⟨σ', h⟩ := files_loop (L.length + 1) hb hs (L.length + 1) 0 σ (by omega) (by omega)
 exact ⟨σ', files_lim (n := L.length + 1) h⟩
end Go.Ab.Mq
end
section
namespace Go.Proofs
open Go.RowKit Go.Ab
set_option maxHeartbeats 1000000 in
set_option maxRecDepth 100000 in
theorem Mk.copyCheck_used (b : Nat) (w : World) (h0 : w.cell? ⟨b, 0, none⟩ = some (.pointer (some ⟨b, 0, none⟩))) :
  Calls Tryz.prog 40 #[.pointer (some ⟨b, 0, none⟩)] w fun e w' => e = .returned (.tuple #[]) ∧ w' = w := by
 obtain ⟨j, hj, _⟩ := Option.map_eq_some_iff.1 (show (Tryz.prog.info? 63).map (·.size) = some 2 by kernel_rfl)
 go_enter Tryz.func40, Tryz.ntmps40
 go_wp2
 rw [Lib.run_neq_ptr_same w _ Tryz.underlying60 hj]
 go_wp2
 go_end0
 exact ⟨rfl, rfl⟩
set_option maxHeartbeats 1000000 in
set_option maxRecDepth 100000 in
theorem Mk.copyCheck_fresh (b : Nat) (w : World) (h0 : w.cell? ⟨b, 0, none⟩ = some (.pointer none)) (hsh : w.shape? b = some (63, 2)) (hfz : w.frozen? ⟨b, 0, none⟩ = false) :
  Calls Tryz.prog 40 #[.pointer (some ⟨b, 0, none⟩)] w fun e w' => e = .returned (.tuple #[]) ∧ w' = w.setCell ⟨b, 0, none⟩ (.pointer (some ⟨b, 0, none⟩)) := by
 obtain ⟨j, hj, hjs⟩ := Option.map_eq_some_iff.1 (show (Tryz.prog.info? 63).map (·.size) = some 2 by kernel_rfl)
 go_enter Tryz.func40, Tryz.ntmps40
 go_wp2
 rw [Lib.run_to_unsafe w ⟨b, 0, none⟩ Tryz.underlying60 Tryz.underlying104 hj (by rw [hjs]; decide) hsh (Nat.zero_lt_succ 1)]
 simp only [Result.andThen]
 rw [Oper.upon_value]
 go_wp2
 rw [run_callFunc_extern Tryz.func69 (by kernel_rfl) (by kernel_rfl) (by kernel_rfl) (e := Extern.AbiNoEscape.same) (by kernel_rfl)]
 rw [Lib.run_noEscape]
 simp only [Result.andThen]
 rw [Oper.upon_value]
 go_wp2
 rw [Lib.run_from_unsafe w ⟨b, 0, none⟩ Tryz.underlying104 Tryz.underlying60 hj hsh (by kernel_rfl)]
 simp only [Result.andThen]
 rw [Oper.upon_value]
 go_wp2
 go_end0
 exact ⟨rfl, rfl⟩
set_option maxHeartbeats 1000000 in
set_option maxRecDepth 100000 in
theorem Mk.bldString (b g cap cells : Nat) (l : List UInt8) (w : World) (h0 : l ≠ []) (hcap : l.length ≤ cap) (hlc : l.length ≤ cells) (_ : cap ≤ cells) (c1 : w.cell? ⟨b, 1, none⟩ = some (.slice (some ⟨g, 0, none⟩) l.length cap)) (hsh : w.shape? g = some (5, cells)) (h63 : l.length ≤ 9223372036854775807)
  (hcell : ∀ j x, l[j]? = some x → w.cell? ⟨g, j, none⟩ = some (.int .u8 x.toNat)) :
  Calls Tryz.prog 22 #[.pointer (some ⟨b, 0, none⟩)] w fun en w' => en = .returned (.string ⟨l.toArray⟩) ∧ w' = w.drew.freeze ⟨g, 0, none⟩ l.length := by
 have hl0 : l.length ≠ 0 := by simpa using h0
 have c1' : w.drew.cell? ⟨b, 1, none⟩ = some (.slice (some ⟨g, 0, none⟩) l.length cap) := c1
 have hSD : (Builtin.unsafeSliceData_ #[61] 86 #[.slice (some ⟨g, 0, none⟩) l.length cap]).run Tryz.prog w.drew = .ok (.pointer (some ⟨g, 0, none⟩)) w.drew :=
  Lib.run_unsafeSliceData_row _ _ _ _ _ _ (by omega)
 have hUS : (Builtin.unsafeString_ #[86, 3] 9 #[.pointer (some ⟨g, 0, none⟩), .int .i64 l.length]).run Tryz.prog w.drew = .ok (.string ⟨l.toArray⟩) (w.drew.freeze ⟨g, 0, none⟩ l.length) := by
  refine Lib.run_unsafeString_row w.drew 86 3 9 5 Tryz.underlying86 (by kernel_rfl) g cells hsh l h0 hlc h63 ?_
  intro j x hx
  have := hcell j x hx
  rw [add_plain, Nat.zero_add]
  exact this
 go_enter Tryz.func22, Tryz.ntmps22
 go_wp2
 go_region
 all_goals (go_wp2; go_ret; exact ⟨rfl, rfl⟩)
end Go.Proofs
end
section
namespace Go.Proofs
open Go.RowKit Go.Ab
set_option maxHeartbeats 2000000 in
set_option maxRecDepth 100000 in
theorem Mk.bldEmpty_nil (b : Nat) (w : World) (c0 : w.cell? ⟨b, 1, none⟩ = some (.slice none 0 0)) :
  Calls Tryz.prog 22 #[.pointer (some ⟨b, 0, none⟩)] w fun e w' => e = .returned (.string ⟨#[]⟩) ∧ Below w.heap.size w w' := by
 have hUS : ∀ (W : World) (q : Option Addr), (Builtin.unsafeString_ #[86, 3] 9 #[.pointer q, .int .i64 0]).run Tryz.prog W = .ok (.string .empty) W := fun W q => Lib.run_unsafeString_none W _ _ _ q
 have c1 : w.drew.cell? ⟨b, 1, none⟩ = some (.slice none 0 0) := c0
 have hSD : (Builtin.unsafeSliceData_ #[61] 86 #[.slice none 0 0]).run Tryz.prog w.drew = .ok (.pointer none) w.drew := rfl
 go_enter Tryz.func22, Tryz.ntmps22
 go_wp2
 go_region
 all_goals (go_wp2; go_ret; exact ⟨rfl, Below.drew (Below.refl w.heap.size w)⟩)
set_option maxHeartbeats 2000000 in
set_option maxRecDepth 100000 in
theorem Mk.bldEmpty_noroom (b g cells : Nat) (w : World) (hlt : b < w.heap.size) (c0 : w.cell? ⟨b, 1, none⟩ = some (.slice (some ⟨g, 0, none⟩) 0 0)) (hsh : w.shape? g = some (5, cells)) :
  Calls Tryz.prog 22 #[.pointer (some ⟨b, 0, none⟩)] w fun e w' => e = .returned (.string ⟨#[]⟩) ∧ Below w.heap.size w w' := by
 have hUS : ∀ (W : World) (q : Option Addr), (Builtin.unsafeString_ #[86, 3] 9 #[.pointer q, .int .i64 0]).run Tryz.prog W = .ok (.string .empty) W := fun W q => Lib.run_unsafeString_none W _ _ _ q
 have c1 : w.drew.cell? ⟨b, 1, none⟩ = some (.slice (some ⟨g, 0, none⟩) 0 0) := c0
 have hSD : (Builtin.unsafeSliceData_ #[61] 86 #[.slice (some ⟨g, 0, none⟩) 0 0]).run Tryz.prog w.drew = .ok (.pointer (some ⟨w.drew.heap.size, 0, none⟩)) (w.drew.alloc (.view ⟨g, 0, none⟩ 5)) :=
  Lib.run_unsafeSliceData_zero w.drew _ _ 5 Tryz.underlying86 ⟨g, 0, none⟩ 0 (5, cells) hsh
 have c2 : (w.drew.alloc (.view ⟨g, 0, none⟩ 5)).cell? ⟨b, 1, none⟩ = some (.slice (some ⟨g, 0, none⟩) 0 0) := by
  rw [cell?_alloc_old' (show b < w.drew.heap.size from hlt)]; exact c1
 have c3 : (w.alloc (.view ⟨g, 0, none⟩ 5)).drew.cell? ⟨b, 1, none⟩ = some (.slice (some ⟨g, 0, none⟩) 0 0) := c2
 clear hsh
 go_enter Tryz.func22, Tryz.ntmps22
 go_wp2
 go_region
 all_goals (go_wp2; go_ret; exact ⟨rfl, (Below.drew (Below.refl w.heap.size w)).alloc (Nat.le_refl _) _⟩)
set_option maxHeartbeats 2000000 in
set_option maxRecDepth 100000 in
theorem Mk.bldEmpty_room (b g cap : Nat) (w : World) (hc0 : cap ≠ 0) (c0 : w.cell? ⟨b, 1, none⟩ = some (.slice (some ⟨g, 0, none⟩) 0 cap)) :
  Calls Tryz.prog 22 #[.pointer (some ⟨b, 0, none⟩)] w fun e w' => e = .returned (.string ⟨#[]⟩) ∧ Below w.heap.size w w' := by
 have hUS : ∀ (W : World) (q : Option Addr), (Builtin.unsafeString_ #[86, 3] 9 #[.pointer q, .int .i64 0]).run Tryz.prog W = .ok (.string .empty) W := fun W q => Lib.run_unsafeString_none W _ _ _ q
 have c1 : w.drew.cell? ⟨b, 1, none⟩ = some (.slice (some ⟨g, 0, none⟩) 0 cap) := c0
 have hSD : (Builtin.unsafeSliceData_ #[61] 86 #[.slice (some ⟨g, 0, none⟩) 0 cap]).run Tryz.prog w.drew = .ok (.pointer (some ⟨g, 0, none⟩)) w.drew :=
  Lib.run_unsafeSliceData_row _ _ _ _ _ _ hc0
 clear hc0
 go_enter Tryz.func22, Tryz.ntmps22
 go_wp2
 go_region
 all_goals (go_wp2; go_ret; exact ⟨rfl, Below.drew (Below.refl w.heap.size w)⟩)
theorem Mk.bldEmpty (b : Nat) (w : World) (sl : Value) (h : w.cell? ⟨b, 1, none⟩ = some sl) (hs : sl = .slice none 0 0 ∨ ∃ g cap cells, sl = .slice (some ⟨g, 0, none⟩) 0 cap ∧ w.shape? g = some (5, cells)) :
  Calls Tryz.prog 22 #[.pointer (some ⟨b, 0, none⟩)] w fun en w' => en = .returned (.string ⟨#[]⟩) ∧ Below w.heap.size w w' := by
 rcases hs with rfl | ⟨g, cap, cells, rfl, hsh⟩
 ·exact Mk.bldEmpty_nil b w h
 ·by_cases hc0 : cap = 0
  ·subst hc0
   have hlt : b < w.heap.size := by
    rcases Nat.lt_or_ge b w.heap.size with h' | h'
    ·exact h'
    ·simp [World.cell?, Array.getElem?_eq_none h'] at h
   exact Mk.bldEmpty_noroom b g cells w hlt h hsh
  ·exact Mk.bldEmpty_room b g cap w hc0 h
end Go.Proofs
end
