/- The plain laws: what the program's Parse of a term comes to, against what the reference reads; terms are like themselves. AbMq0: printed by program: functions of the program, their code told as plain Lean, and the equations. AbMq1: printed by program: functions of the program, their code told as plain Lean, and the equations. -/
import Derived.Test.YtkecplbpffhdnaaGreatDoorAbPs
import Derived.Test.YtkecplbpffhdnaaGreatDoorAbPt3
import Derived.Test.YtkecplbpffhdnaaGreatDoorAbMk0
import Derived.Test.YtkecplbpffhdnaaGreatDoorProg
set_option linter.unusedSimpArgs false
set_option linter.unusedVariables false
set_option linter.deprecated false
section
namespace Go.Ab.Mk
open Go.Proofs Go.Ab

theorem parseTerm_law (s : ByteArray) (hs : s.size < 2 ^ 61) (σ : Sto) : ∃ σ', lim C 8 [(.str s, false)] σ = some (.ret [((tparseV s).1.val, false), (.agg [.int .i64 (tparseV s).2.1, .int .i64 (tparseV s).2.2], false)], σ ++ σ') := by
  cases hb : decide ((s.size : Int) > 20000)
  · have hb' : s.size ≤ 20000 := by have := of_decide_eq_false hb; omega
    have h : (σ ++ [RS.cells s ⟨0, 0, 0⟩])[σ.length]? = some (RS.cells s ⟨0, 0, 0⟩) := by simp
    have h1 := rterm_law hb' (s.size + 1) ⟨0, 0, 0⟩ _ h (by simp) (.inr (by simp))
    have tk := rterm_goes s (s.size + 1) ⟨0, 0, 0⟩ (by simp) (.inr (by simp))
    have hg : ∀ x : List Cell, (σ ++ [RS.cells s ⟨0, 0, 0⟩]).set σ.length x = σ ++ [x] := fun x => by rw [List.set_append_right _ _ (Nat.le_refl _)]; simp
    rw [hg] at h1
    have h2' : (σ ++ [(rtermV (s.size + 1) s ⟨0, 0, 0⟩).2.cells s])[σ.length]? = some ((rtermV (s.size + 1) s ⟨0, 0, 0⟩).2.cells s) := by simp
    have h2 := rdone_law h2' hs tk.le
    have hg2 : ∀ x : List Cell, (σ ++ [(rtermV (s.size + 1) s ⟨0, 0, 0⟩).2.cells s]).set σ.length x = σ ++ [x] := fun x => by rw [List.set_append_right _ _ (Nat.le_refl _)]; simp
    rw [hg2] at h2
    refine ⟨[(rdoneV s (rtermV (s.size + 1) s ⟨0, 0, 0⟩).2).cells s], parseTerm_lim (n := 0) ?_⟩
    have e0 : [((V.str s), false), ((V.int .i64 (0 : Int)), false), ((V.int .i64 (0 : Int)), false), ((V.int .i64 (0 : Int)), false)] = RS.cells s ⟨0, 0, 0⟩ := rfl
    have f2 : ∀ x y : Int, V.fits (.agg [.int .i64 x, .int .i64 y]) true 2 = true := fun _ _ => rfl
    have c0 : ∀ x y : Int, V.cell (.agg [.int .i64 x, .int .i64 y]) 0 = .int .i64 x := fun _ _ => rfl
    simp only [parseTerm, parseTermF, hb, cond_false, e0, callK_ret1 h1, List.getD_cons_zero, tm_fits, grd, cond_true, Option.bind_some, callK_ret1 h2, tparseV, f2, c0, V.asInt, if_true]
    cases hd : (rdoneV s (rtermV (s.size + 1) s ⟨0, 0, 0⟩).2).c != 0 <;> rfl
  · refine ⟨[], parseTerm_lim (n := 0) ?_⟩
    simp only [parseTerm, parseTermF, hb, cond_true, tparseV, List.append_nil]
    rfl
theorem asTm_tm (t : Tm) : asTm t.val = some (t.kind, (t.num : Int), t.name, .slice 3 90 (t.lvs.map Lv.enc), .slice 5 30 t.args) := rfl
theorem tparse_law (s : ByteArray) (hs : s.size < 2 ^ 61) (σ : Sto) : ∃ err σ', tparseS (lim C) [(.str s, false)] σ = some (.ret [((tparseV s).1.val, false), (err, false)], σ') ∧ ErrOk err σ' (tparseV s).2.1 (tparseV s).2.2 := by
  by_cases hb : (s.size : Int) > 20000
  · have hv : tparseV s = (.var 0, 2, 0) := by unfold tparseV; rw [decide_eq_true hb]; rfl
    rw [hv]
    refine ⟨.iface 54 (.ptr 36 σ.length 0), σ ++ [fc2t], ?_, .inr ⟨σ.length, rfl, ?_⟩⟩
    · simp only [tparseS, if_pos hb]; rfl
    · simp [fc2t, fcell]
  · have hb' : s.size ≤ 20000 := by omega
    have e34 := newScanner_law hs σ
    have hx := read_law hb' (s.size + 1) 0 (σ ++ [[]]) σ.length (by simp) (Nat.zero_le _) (by omega)
    have tk := rterm_goes s (s.size + 1) ⟨0, 0, 0⟩ (by simp) (.inr (by simp))
    have hg : ∀ x : List Cell, (σ ++ [[]]).set σ.length x = σ ++ [x] := fun x => by rw [List.set_append_right _ _ (Nat.le_refl _)]; simp
    have hv : tparseV s = (let x := rtermV (s.size + 1) s ⟨0, 0, 0⟩; let d := rdoneV s x.2; bif d.c != 0 then (.var 0, d.c, d.a) else (x.1, d.c, d.a)) := by unfold tparseV; rw [decide_eq_false hb]; rfl
    rw [hv]
    generalize rtermV (s.size + 1) s ⟨0, 0, 0⟩ = x at hx tk
    simp only
    have hl : ∀ y : List Cell, (σ ++ [y]).length = (σ ++ [[]]).length := fun y => by simp
    rcases hx with ⟨p, h1, h5⟩ | ⟨h1, cs, h5⟩
    · have hple := tk.le
      rw [h1] at hple ⊢
      rw [hg, hg] at h5
      have hsd := send_law (σ := σ ++ [[]]) (r := σ.length) (by simp) (s := s) hple
      rw [hg] at hsd
      rcases hsd with ⟨k1, k2⟩ | ⟨k1, k2⟩
      · have hc : ((rdoneV s ⟨p, 0, 0⟩).c != 0) = false := by simp [k1]
        rw [hc]
        refine ⟨.nilIface, σ ++ [(stepV s p).cells s], ?_, .inl ⟨k1, rfl⟩⟩
        simp only [tparseS, if_neg hb, e34, tparse3, h5, tparse4, asTm_tm, Option.bind_some, k2, tparse5, cond_false]
      · have hc : ((rdoneV s ⟨p, 0, 0⟩).c != 0) = true := by simp [k1]
        rw [hc]
        refine ⟨.iface 54 (.ptr 36 (σ ++ [(stepV s p).cells s]).length 0), σ ++ [(stepV s p).cells s] ++ [fcell 1 (rdoneV s ⟨p, 0, 0⟩).a], ?_, .inr ⟨(σ ++ [(stepV s p).cells s]).length, rfl, ?_⟩⟩
        · simp only [tparseS, if_neg hb, e34, tparse3, h5, tparse4, asTm_tm, Option.bind_some, k2, tparse5, caughtT, if_true, cond_true, hl (SC.cells s (stepV s p))]
          rfl
        · simp [k1]
    · rw [hg, hg] at h5
      have hd : rdoneV s x.2 = x.2 := rdone_stuck (by rw [h1]; decide)
      have hc : (x.2.c != 0) = true := by simp [h1]
      rw [hd, hc]
      refine ⟨.iface 54 (.ptr 36 (σ ++ [cs]).length 0), σ ++ [cs] ++ [fcell 1 x.2.a], ?_, .inr ⟨(σ ++ [cs]).length, rfl, ?_⟩⟩
      · simp only [tparseS, if_neg hb, e34, tparse3, h5, tparse4, caughtT, if_true, cond_true, hl cs]
        rfl
      · simp [h1]

/-! A term is as it is. -/
theorem lv_read (l : Lv) : V.agg [l.enc.getD 0 V.any, l.enc.getD 1 V.any, l.enc.getD 2 V.any] = .agg [.int .i64 l.kind, .str l.name, .slice 3 90 l.args] := by rw [l.enc_eq]; rfl
theorem tm_read (t : Tm) : V.agg [t.enc.getD 0 V.any, t.enc.getD 1 V.any, t.enc.getD 2 V.any, t.enc.getD 3 V.any, t.enc.getD 4 V.any] = t.val := by rw [t.enc_eq]; rfl
theorem alike1_loop {N : Nat} {L : List Tm} (hb : L.length < 2 ^ 60) {w : Bool} {a0 a1 b0 b1 : Int} {a2 b2 : ByteArray} {a3 b3 : List (List V)} {σ : Sto}
    (h : ∀ c ∈ L, lim C 27 [(c.val, false), (c.val, false), (.bool w, false)] σ = some (.ret [(.bool true, false)], σ)) :
    ∀ (m i : Nat), i ≤ L.length → L.length - i < m → alikel1 (lim C) N m w i a0 a1 a2 a3 (L.map Tm.enc) b0 b1 b2 b3 (L.map Tm.enc) σ = some (.ret [(.bool true, false)], σ)
  | 0, i, _, hm => by omega
  | m + 1, i, hi, hm => by
    show alikes1 (lim C) (alikel1 (lim C) N m) w i a0 a1 a2 a3 (L.map Tm.enc) b0 b1 b2 b3 (L.map Tm.enc) σ = _
    unfold alikes1
    rw [List.length_map]
    by_cases hlt : i < L.length
    · have hget : (L.map Tm.enc).getD (Int.toNat (i : Int)) [] = L[i].enc := by simp [hlt]
      have hc := h L[i] (List.getElem_mem hlt)
      rw [d0, dlt hlt, hget]
      simp only [cond_true, Bool.and_self, grd, Option.bind_some, tm_read, callK_ret1 hc, List.getD_cons_zero, V.asBool, Bool.not_true, cond_false, wrap_succ (show i < 2 ^ 61 by omega)]
      exact alike1_loop hb h m (i + 1) (by omega) (by omega)
    · rw [dnlt hlt]; rfl
theorem alike0_loop {N : Nat} {ls : List Lv} (hb : ls.length < 2 ^ 60) {L : List Tm} {a0 a1 b0 b1 : Int} {a2 b2 : ByteArray} {σ : Sto}
    (h : alikel1 (lim C) N N false (0 : Int) a0 a1 a2 (ls.map Lv.enc) (L.map Tm.enc) b0 b1 b2 (ls.map Lv.enc) (L.map Tm.enc) σ = some (.ret [(.bool true, false)], σ)) :
    ∀ (m i : Nat), i ≤ ls.length → ls.length - i < m → alikel0 (lim C) N m false i a0 a1 a2 (ls.map Lv.enc) (L.map Tm.enc) b0 b1 b2 (ls.map Lv.enc) (L.map Tm.enc) σ = some (.ret [(.bool true, false)], σ)
  | 0, i, _, hm => by omega
  | m + 1, i, hi, hm => by
    show alikes0 (lim C) (alikel1 (lim C) N N) (alikel0 (lim C) N m) false i a0 a1 a2 (ls.map Lv.enc) (L.map Tm.enc) b0 b1 b2 (ls.map Lv.enc) (L.map Tm.enc) σ = _
    unfold alikes0
    rw [List.length_map]
    by_cases hlt : i < ls.length
    · have hget : (ls.map Lv.enc).getD (Int.toNat (i : Int)) [] = ls[i].enc := by simp [hlt]
      have hc := sameLevel_law σ ls[i]
      rw [d0, dlt hlt, hget]
      simp only [cond_true, Bool.and_self, grd, Option.bind_some, lv_read, callK_ret1 hc, List.getD_cons_zero, V.asBool, Bool.not_true, cond_false, wrap_succ (show i < 2 ^ 61 by omega)]
      exact alike0_loop hb h m (i + 1) (by omega) (by omega)
    · rw [dnlt hlt]; exact h
/-- How many levels stand at one place. -/
def Tm.wide : Tm → Nat
  | .const _ ls => ls.length
  | .app a b => max a.wide b.wide
  | .lam a b => max a.wide b.wide
  | .pi a b => max a.wide b.wide
  | .letin a b c => max a.wide (max b.wide c.wide)
  | _ => 1
theorem kids_le (t : Tm) : t.kids.length ≤ 3 := by cases t <;> simp [Tm.kids]
theorem lvs_le (t : Tm) : t.lvs.length ≤ t.wide := by cases t <;> simp [Tm.lvs, Tm.wide]
theorem kid_wide {t c : Tm} (h : c ∈ t.kids) : c.wide ≤ t.wide := by
  cases t <;> simp only [Tm.kids, List.mem_cons, List.not_mem_nil, or_false] at h <;> simp only [Tm.wide]
  · rcases h with rfl | rfl <;> omega
  · rcases h with rfl | rfl <;> omega
  · rcases h with rfl | rfl <;> omega
  · rcases h with rfl | rfl | rfl <;> omega
theorem alike_law (σ : Sto) : ∀ t : Tm, t.wide < 2 ^ 60 → lim C 27 [(t.val, false), (t.val, false), (.bool false, false)] σ = some (.ret [(.bool true, false)], σ) :=
  Tm.ind fun t ih hw => alike_lim (n := t.wide + 10) <| by
    have hk := kids_le t
    have hl := lvs_le t
    have h1 := alike1_loop (N := t.wide + 10) (L := t.kids) (by omega) (w := false) (a0 := t.kind) (a1 := t.num) (b0 := t.kind) (b1 := t.num) (a2 := t.name) (b2 := t.name) (a3 := t.lvs.map Lv.enc) (b3 := t.lvs.map Lv.enc) (σ := σ)
      (fun c hc => ih c hc (by have := kid_wide hc; omega)) (t.wide + 10) 0 (by omega) (by omega)
    have h0 := alike0_loop (N := t.wide + 10) (ls := t.lvs) (by omega) h1 (t.wide + 10) 0 (by omega) (by omega)
    have e : ∀ x : Int, (x != x) = false := fun x => by simp
    simp only [alike, alikeF, e, cond_false, beq_self_eq_true, Bool.not_true]
    exact h0
theorem sameTerm_law (σ : Sto) (t : Tm) (hw : t.wide < 2 ^ 60) : lim C 10 [(t.val, false), (t.val, false)] σ = some (.ret [(.bool true, false)], σ) :=
  sameTerm_lim (n := 0) <| by
    have h := alike_law σ t hw
    simp only [Tm.val] at h
    simp only [sameTerm, sameTermF, callK_ret1 h, List.getD_cons_zero]
theorem rlvs_wide (s : ByteArray) : ∀ (n : Nat) (st : RS), (rlvsV n s st).1.length ≤ n
  | 0, _ => by simp [rlvsV]
  | n + 1, st => by
    unfold rlvsV
    cases st.c != 0
    · cases strIs (tokV s st.p).t [41]
      · have := rlvs_wide s n (rlevelV (s.size + 1) s st).2
        simp only [cond_false, List.length_cons]; omega
      · simp
    · simp
theorem rterm_wide (s : ByteArray) : ∀ (n : Nat) (st : RS), (rtermV n s st).1.wide ≤ s.size + 10
  | 0, _ => by simp [rtermV, Tm.wide]
  | n + 1, st => by
    have ih := rterm_wide s n
    unfold rtermV
    cases st.c != 0
    case true => simp [Tm.wide]
    cases badTok (tokV s st.p)
    case true => simp [Tm.wide]
    cases strIs (tokV s st.p).t [40]
    case false => simp [Tm.wide]
    simp only [cond_true, cond_false, tmP]
    cases wordIx (tokV s (rnextV s st).2.p).t == 0
    case true => simp [Tm.wide]
    simp only [cond_false]
    unfold tmB
    split
    · simp [Tm.wide]
    · exact rlvs_wide s _ _
    · simp only [tm2, Tm.wide]; exact Nat.max_le.2 ⟨ih _, ih _⟩
    · simp only [tm2, Tm.wide]; exact Nat.max_le.2 ⟨ih _, ih _⟩
    · simp only [tm2, Tm.wide]; exact Nat.max_le.2 ⟨ih _, ih _⟩
    · simp only [tm3, Tm.wide]; exact Nat.max_le.2 ⟨ih _, Nat.max_le.2 ⟨ih _, ih _⟩⟩
theorem tparse_wide (s : ByteArray) : (tparseV s).1.wide ≤ s.size + 10 := by
  unfold tparseV
  cases decide ((s.size : Int) > 20000)
  · simp only [cond_false]
    cases (rdoneV s (rtermV (s.size + 1) s ⟨0, 0, 0⟩).2).c != 0
    · exact rterm_wide s _ _
    · simp [Tm.wide]
  · simp [Tm.wide]
end Go.Ab.Mk
end
section
set_option maxRecDepth 100000
namespace Go.Ab.Mq
open Go.Proofs Go.Ab
def TL : List (TypeId × TI) := [
  (0, ⟨(.tuple 0), 1, 0, [V.any]⟩),
  (3, ⟨(.int .i64), 1, 8, [(V.int .i64 (0 : Int))]⟩),
  (4, ⟨.bool, 1, 1, [(V.bool false)]⟩),
  (9, ⟨.string, 1, 16, [(V.str (ByteArray.mk #[]))]⟩),
  (22, ⟨(.slice 25), 1, 24, [(V.slice 6 25 [])]⟩),
  (25, ⟨(.struct [(0, 3), (1, 9), (2, 9), (3, 9), (4, 3), (5, 3)]), 6, 72, [(V.int .i64 (0 : Int)), (V.str (ByteArray.mk #[])), (V.str (ByteArray.mk #[])), (V.str (ByteArray.mk #[])), (V.int .i64 (0 : Int)), (V.int .i64 (0 : Int))]⟩),
  (27, ⟨(.slice 90), 1, 24, [(V.slice 3 90 [])]⟩),
  (28, ⟨(.slice 30), 1, 24, [(V.slice 5 30 [])]⟩),
  (30, ⟨(.struct [(0, 3), (1, 3), (2, 9), (3, 27), (4, 28)]), 5, 80, [(V.int .i64 (0 : Int)), (V.int .i64 (0 : Int)), (V.str (ByteArray.mk #[])), (V.slice 3 90 []), (V.slice 5 30 [])]⟩),
  (32, ⟨.iface, 1, 16, [V.nilIface]⟩),
  (33, ⟨(.tuple 2), 1, 0, [V.any]⟩),
  (36, ⟨(.struct [(0, 3), (1, 3)]), 2, 16, [(V.int .i64 (0 : Int)), (V.int .i64 (0 : Int))]⟩),
  (37, ⟨(.tuple 2), 1, 0, [V.any]⟩),
  (65, ⟨(.tuple 2), 1, 0, [V.any]⟩),
  (90, ⟨(.struct [(0, 3), (1, 9), (2, 27)]), 3, 48, [(V.int .i64 (0 : Int)), (V.str (ByteArray.mk #[])), (V.slice 3 90 [])]⟩)]
noncomputable def termParsesH : Hints := { keep := fun i => if i = 0 then [0, 3] else [], steal := [], esc := [], ownres := [], lp := [], ep := [18, 19, 24, 25], roots := [], ord := fun i => [], own := [] }
noncomputable def termParsesC : Code := Tryz.f3.body.getD .skip
noncomputable def termParsesD : FDef := ⟨Tryz.f3, termParsesC, termParsesH⟩
noncomputable def termParsedH : Hints := { keep := fun i => [], steal := [], esc := [], ownres := [], lp := [3, 5, 6], ep := [], roots := [(3, 3), (5, 5), (6, 6)], ord := fun i => [], own := [] }
noncomputable def termParsedC : Code := Tryz.f5.body.getD .skip
noncomputable def termParsedD : FDef := ⟨Tryz.f5, termParsedC, termParsedH⟩
noncomputable def faultyH : Hints := { keep := fun i => [], steal := [], esc := [], ownres := [], lp := [3, 13, 21], ep := [], roots := [(3, 3), (13, 3), (21, 3)], ord := fun i => [], own := [] }
noncomputable def faultyC : Code := Tryz.f9.body.getD .skip
noncomputable def faultyD : FDef := ⟨Tryz.f9, faultyC, faultyH⟩
noncomputable def FL : List (FuncId × FDef) := [(3, termParsesD), (5, termParsedD), (9, faultyD)]
noncomputable def C : Ctx := { T := look TL, glob := fun g => if g = 0 then some [(V.str (ByteArray.mk #[])), (V.str (ByteArray.mk #[115, 111, 114, 116])), (V.str (ByteArray.mk #[99, 111, 110, 115, 116])), (V.str (ByteArray.mk #[97, 112, 112])), (V.str (ByteArray.mk #[108, 97, 109])), (V.str (ByteArray.mk #[112, 105])), (V.str (ByteArray.mk #[108, 101, 116]))] else if g = 1 then some [(V.slice 1 9 [[V.str (ByteArray.mk #[])], [V.str (ByteArray.mk #[115, 111, 114, 116])], [V.str (ByteArray.mk #[99, 111, 110, 115, 116])], [V.str (ByteArray.mk #[97, 112, 112])], [V.str (ByteArray.mk #[108, 97, 109])], [V.str (ByteArray.mk #[112, 105])], [V.str (ByteArray.mk #[108, 101, 116])]])] else if g = 2 then some [V.lit (Value.iface 135 (Value.agg #[Value.pointer (some ⟨10, 32, none⟩)]))] else none, ext := fun f => if f = 7 then some (Mk.tparseS (lim Mk.C)) else if f = 26 then some Mk.codeS else if f = 8 then some (lim Mk.C 8) else if f = 10 then some (lim Mk.C 10) else none, fdef := lookF FL }
theorem typesOk : ∀ t i, C.T t = some i → TOk Tryz.prog t i := look_ok (by kernel_rfl)
theorem ctxOk : CtxOk Tryz.prog C where
  mixed := by kernel_rfl
  T := typesOk
  fdef := by
    refine lookF_ok (P := Tryz.prog) (Q := fun f d => Tryz.prog.funcs[f]? = some d.fn ∧ d.fn.body = some d.code ∧ (∀ (args : Array Value) (w : World), (callFunc f args).run Tryz.prog w = .ok (.enter f args) w)) (L := FL) ?_
    intro p hp
    simp only [FL, List.mem_cons, List.not_mem_nil, or_false] at hp
    rcases hp with rfl | rfl | rfl
    · exact ⟨Tryz.func3, by kernel_rfl, fun args w => Tryz.call3 args w⟩
    · exact ⟨Tryz.func5, by kernel_rfl, fun args w => Tryz.call5 args w⟩
    · exact ⟨Tryz.func9, by kernel_rfl, fun args w => Tryz.call9 args w⟩
end Go.Ab.Mq
end
section
set_option maxRecDepth 100000
namespace Go.Ab.Mq
open Go.Proofs Go.Ab
/-! provekernellaw.TermParses -/
noncomputable def termParsesk0 : List Nat := [0, 3]
noncomputable def termParsess0 (call : CallF) (rec0 : List (List V) → Int → Sto → Option Res) (script_0 : List (List V)) (i_3 : Int) (σ : Sto) : Option Res :=
  bif (decide (i_3 < (script_0.length : Int))) then
  bif (decide (i_3 < (1152921504606846976 : Int))) then
  (grd (decide (0 ≤ i_3) && decide (i_3 < script_0.length))).bind fun _ =>
  callK call 5 [((List.getD (List.getD script_0 (Int.toNat i_3) []) 1 V.any), false)] σ 1 (fun vs1 σ2 =>
  (grd (decide (0 ≤ i_3) && decide (i_3 < script_0.length))).bind fun _ =>
  callK call 5 [((List.getD (List.getD script_0 (Int.toNat i_3) []) 2 V.any), false)] σ2 1 (fun vs4 σ5 =>
  (V.asBool (List.getD vs1 0 cellD).1).bind fun b7 =>
  bif (!b7) then
  some (.ret [((V.bool false), false)], σ5)
  else
  (V.asBool (List.getD vs4 0 cellD).1).bind fun b8 =>
  bif (!b8) then
  some (.ret [((V.bool false), false)], σ5)
  else
  rec0 script_0 (IntKind.wrap .i64 (i_3 + (1 : Int))) σ5) (fun p6 σ5 => some (.pan p6, σ5))) (fun p3 σ2 => some (.pan p3, σ2))
  else
  some (.ret [((V.bool true), false)], σ)
  else
  some (.ret [((V.bool true), false)], σ)
noncomputable def termParsesl0 (call : CallF) (n : Nat) : Nat → List (List V) → Int → Sto → Option Res
  | 0 => fun _ _ _ => none
  | m + 1 => termParsess0 call (termParsesl0 call n m)
noncomputable def termParsest0 (script_0 : List (List V)) (i_3 : Int) (σ : Sto) : St := ⟨[.val (V.slice 6 25 script_0) false, .dead, .dead, .val (V.int .i64 i_3) false, .dead, .dead, .dead, .dead, .dead, .dead, .dead, .dead, .dead, .dead, .dead, .dead, .dead, .dead, .dead, .dead, .dead, .dead, .dead, .dead, .dead, .dead, .dead, .dead, .dead, .dead, .dead, .dead, .dead, .dead], [[], [], [], [], [], [], [], [], [], [], [], [], [], [], [], [], [], [], [], [], [], [], [], [], [], [], [], [], [], [], [], [], [], []], σ⟩
noncomputable def termParsesF (call : CallF) (L0 : List (List V) → Int → Sto → Option Res) (script_0 : List (List V)) (σ : Sto) : Option Res :=
  L0 script_0 (0 : Int) σ
noncomputable def termParses (call : CallF) (n : Nat) (script_0 : List (List V)) (σ : Sto) : Option Res := termParsesF call (termParsesl0 call n n) script_0 σ
theorem termParsess0_eq (call : CallF) (n : Nat) (F0 : St → Option Res) (script_0 : List (List V)) (i_3 : Int) (σ : Sto) :
    aexec C termParsesH call n (codeL (codeL (codeR (codeL (codeR termParsesC))))) 0 (termParsest0 script_0 i_3 σ) (kloop termParsesk0 F0 (kblk 0 (kseq (fun st' => aexec C termParsesH call n (codeR (codeR termParsesC)) 0 st' (kfin C termParsesD)) (kfin C termParsesD)))) =
    termParsess0 call (fun script_0 i_3 σ => F0 (termParsest0 script_0 i_3 σ)) script_0 i_3 σ := by kernel_rfl
theorem termParsesl0_eq (call : CallF) (n : Nat) : ∀ (m : Nat) (script_0 : List (List V)) (i_3 : Int) (σ : Sto),
    aloop (fun st K => aexec C termParsesH call n (codeL (codeL (codeR (codeL (codeR termParsesC))))) 0 st K) termParsesk0 m (termParsest0 script_0 i_3 σ) (kblk 0 (kseq (fun st' => aexec C termParsesH call n (codeR (codeR termParsesC)) 0 st' (kfin C termParsesD)) (kfin C termParsesD))) = termParsesl0 call n m script_0 i_3 σ
  | 0, script_0, i_3, σ => rfl
  | m + 1, script_0, i_3, σ => by
    rw [aloop, termParsess0_eq]
    simp only [termParsesl0_eq call n m]
    rfl
theorem termParses_eqF (call : CallF) (n : Nat) (script_0 : List (List V)) (σ : Sto) : afun C termParsesD call n [((V.slice 6 25 script_0), false)] σ =
    termParsesF call (fun script_0 i_3 σ => aloop (fun st K => aexec C termParsesH call n (codeL (codeL (codeR (codeL (codeR termParsesC))))) 0 st K) termParsesk0 n (termParsest0 script_0 i_3 σ) (kblk 0 (kseq (fun st' => aexec C termParsesH call n (codeR (codeR termParsesC)) 0 st' (kfin C termParsesD)) (kfin C termParsesD)))) script_0 σ := by kernel_rfl
theorem termParses_eq (call : CallF) (n : Nat) (script_0 : List (List V)) (σ : Sto) : afun C termParsesD call n [((V.slice 6 25 script_0), false)] σ = termParses call n script_0 σ := by
  rw [termParses_eqF]
  simp only [termParsesl0_eq]
  rfl
theorem termParses_call (n : Nat) (script_0 : List (List V)) (σ : Sto) : acall C (n + 1) 3 [((V.slice 6 25 script_0), false)] σ = termParses (acall C n) n script_0 σ :=
  (show acall C (n + 1) 3 [((V.slice 6 25 script_0), false)] σ = afun C termParsesD (acall C n) n [((V.slice 6 25 script_0), false)] σ by kernel_rfl).trans (termParses_eq _ _ script_0 σ)
theorem termParses_lim {n : Nat} {script_0 : List (List V)} {b0 : Bool} {σ : Sto} {r : Res} (h : termParses (lim C) n script_0 σ = some r) : lim C 3 [((V.slice 6 25 script_0), b0)] σ = some r :=
  lim_of (d := termParsesD) (by kernel_rfl) (by kernel_rfl) n (show afun C termParsesD (lim C) n [((V.slice 6 25 script_0), false)] σ = some r from (termParses_eq (lim C) n script_0 σ).trans h)
/-! provekernellaw.termParsed -/
noncomputable def termParsedF (call : CallF) (s_0 : ByteArray) (σ : Sto) : Option Res :=
  callK call 7 [((V.str s_0), false)] σ 2 (fun vs1 σ2 =>
  (grd (V.fits (List.getD vs1 0 cellD).1 true 5)).bind fun _ =>
  callK call 8 [((V.str s_0), false)] σ2 2 (fun vs4 σ5 =>
  (grd (V.fits (List.getD vs4 0 cellD).1 true 5)).bind fun _ =>
  (grd (V.fits (List.getD vs4 1 cellD).1 true 2)).bind fun _ =>
  callK call 9 [((List.getD vs1 1 cellD).1, false), ((V.agg [(V.cell (List.getD vs4 1 cellD).1 0), (V.cell (List.getD vs4 1 cellD).1 1)]), false)] σ5 1 (fun vs7 σ8 =>
  callK call 10 [((V.agg [(V.cell (List.getD vs1 0 cellD).1 0), (V.cell (List.getD vs1 0 cellD).1 1), (V.cell (List.getD vs1 0 cellD).1 2), (V.cell (List.getD vs1 0 cellD).1 3), (V.cell (List.getD vs1 0 cellD).1 4)]), false), ((V.agg [(V.cell (List.getD vs4 0 cellD).1 0), (V.cell (List.getD vs4 0 cellD).1 1), (V.cell (List.getD vs4 0 cellD).1 2), (V.cell (List.getD vs4 0 cellD).1 3), (V.cell (List.getD vs4 0 cellD).1 4)]), false)] σ8 1 (fun vs10 σ11 =>
  (V.asBool (List.getD vs7 0 cellD).1).bind fun b13 =>
  bif b13 then
  some (.ret [((List.getD vs10 0 cellD).1, false)], σ11)
  else
  some (.ret [((V.bool false), false)], σ11)) (fun p12 σ11 => some (.pan p12, σ11))) (fun p9 σ8 => some (.pan p9, σ8))) (fun p6 σ5 => some (.pan p6, σ5))) (fun p3 σ2 => some (.pan p3, σ2))
noncomputable def termParsed (call : CallF) (n : Nat) (s_0 : ByteArray) (σ : Sto) : Option Res := termParsedF call s_0 σ
theorem termParsed_eqF (call : CallF) (n : Nat) (s_0 : ByteArray) (σ : Sto) : afun C termParsedD call n [((V.str s_0), false)] σ =
    termParsedF call s_0 σ := by kernel_rfl
theorem termParsed_eq (call : CallF) (n : Nat) (s_0 : ByteArray) (σ : Sto) : afun C termParsedD call n [((V.str s_0), false)] σ = termParsed call n s_0 σ := termParsed_eqF call n s_0 σ
theorem termParsed_call (n : Nat) (s_0 : ByteArray) (σ : Sto) : acall C (n + 1) 5 [((V.str s_0), false)] σ = termParsed (acall C n) n s_0 σ :=
  (show acall C (n + 1) 5 [((V.str s_0), false)] σ = afun C termParsedD (acall C n) n [((V.str s_0), false)] σ by kernel_rfl).trans (termParsed_eq _ _ s_0 σ)
theorem termParsed_lim {n : Nat} {s_0 : ByteArray} {b0 : Bool} {σ : Sto} {r : Res} (h : termParsed (lim C) n s_0 σ = some r) : lim C 5 [((V.str s_0), b0)] σ = some r :=
  lim_of (d := termParsedD) (by kernel_rfl) (by kernel_rfl) n (show afun C termParsedD (lim C) n [((V.str s_0), false)] σ = some r from (termParsed_eq (lim C) n s_0 σ).trans h)
/-! provekernellaw.faulty -/
noncomputable def faultyF (call : CallF) (err_0 : V) (f_1_0 : Int) (f_1_1 : Int) (σ : Sto) : Option Res :=
  callK call 26 [(err_0, false)] σ 2 (fun vs1 σ2 =>
  (V.asInt (List.getD vs1 0 cellD).1 .i64).bind fun i4 =>
  bif (i4 == f_1_0) then
  (V.asInt (List.getD vs1 0 cellD).1 .i64).bind fun i5 =>
  bif (i5 == (0 : Int)) then
  some (.ret [((V.bool true), false)], σ2)
  else
  (V.asInt (List.getD vs1 1 cellD).1 .i64).bind fun i6 =>
  some (.ret [((V.bool (i6 == f_1_1)), false)], σ2)
  else
  some (.ret [((V.bool false), false)], σ2)) (fun p3 σ2 => some (.pan p3, σ2))
noncomputable def faulty (call : CallF) (n : Nat) (err_0 : V) (f_1_0 : Int) (f_1_1 : Int) (σ : Sto) : Option Res := faultyF call err_0 f_1_0 f_1_1 σ
theorem faulty_eqF (call : CallF) (n : Nat) (err_0 : V) (f_1_0 : Int) (f_1_1 : Int) (σ : Sto) : afun C faultyD call n [(err_0, false), ((V.agg [(V.int .i64 f_1_0), (V.int .i64 f_1_1)]), false)] σ =
    faultyF call err_0 f_1_0 f_1_1 σ := by kernel_rfl
theorem faulty_eq (call : CallF) (n : Nat) (err_0 : V) (f_1_0 : Int) (f_1_1 : Int) (σ : Sto) : afun C faultyD call n [(err_0, false), ((V.agg [(V.int .i64 f_1_0), (V.int .i64 f_1_1)]), false)] σ = faulty call n err_0 f_1_0 f_1_1 σ := faulty_eqF call n err_0 f_1_0 f_1_1 σ
theorem faulty_call (n : Nat) (err_0 : V) (f_1_0 : Int) (f_1_1 : Int) (σ : Sto) : acall C (n + 1) 9 [(err_0, false), ((V.agg [(V.int .i64 f_1_0), (V.int .i64 f_1_1)]), false)] σ = faulty (acall C n) n err_0 f_1_0 f_1_1 σ :=
  (show acall C (n + 1) 9 [(err_0, false), ((V.agg [(V.int .i64 f_1_0), (V.int .i64 f_1_1)]), false)] σ = afun C faultyD (acall C n) n [(err_0, false), ((V.agg [(V.int .i64 f_1_0), (V.int .i64 f_1_1)]), false)] σ by kernel_rfl).trans (faulty_eq _ _ err_0 f_1_0 f_1_1 σ)
theorem faulty_lim {n : Nat} {err_0 : V} {f_1_0 : Int} {f_1_1 : Int} {b0 b1 : Bool} {σ : Sto} {r : Res} (h : faulty (lim C) n err_0 f_1_0 f_1_1 σ = some r) : lim C 9 [(err_0, b0), ((V.agg [(V.int .i64 f_1_0), (V.int .i64 f_1_1)]), b1)] σ = some r :=
  lim_of (d := faultyD) (by kernel_rfl) (by kernel_rfl) n (show afun C faultyD (lim C) n [(err_0, false), ((V.agg [(V.int .i64 f_1_0), (V.int .i64 f_1_1)]), false)] σ = some r from (faulty_eq (lim C) n err_0 f_1_0 f_1_1 σ).trans h)
end Go.Ab.Mq
end
