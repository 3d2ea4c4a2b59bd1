/- The plain laws: what the program's Parse comes to, against what the reference reads. -/
import Derived.Test.YtcpdcpgblcapeaaDoorLvT
import Derived.Test.YtcpdcpgblcapeaaDoorAbPs5
set_option linter.unusedSimpArgs false
set_option linter.unusedVariables false
set_option linter.deprecated false
namespace Go.Ab.Mk
open Go.Proofs Go.Ab

/-- The fault that was handed back: none, or a place of the store with its code and its place. -/
def ErrOk (err : V) (σ : Sto) (c a : Int) : Prop := (c = 0 ∧ err = .nilIface) ∨ ∃ b, err = .iface 66 (.ptr 33 b 0) ∧ σ[b]? = some (fcell c a)
theorem ErrOk.more {err : V} {σ : Sto} {c a : Int} (h : ErrOk err σ c a) (σ' : Sto) : ErrOk err (σ ++ σ') c a := by
  rcases h with h | ⟨b, h1, h2⟩
  · exact .inl h
  · exact .inr ⟨b, h1, by rw [List.getElem?_append_left (List.getElem?_eq_some_iff.1 h2).1]; exact h2⟩

theorem newScanner_law {s : ByteArray} (hs : s.size < 2 ^ 61) (σ : Sto) : lim C 34 [(.str s, false)] σ = some (.ret [(.ptr 90 σ.length 0, false)], σ ++ [(stepV s 0).cells s]) :=
  newScanner_lim (n := 0) <| by
    have h := step_law (σ := σ ++ [[]]) (r := σ.length) (by simp) hs (st := ⟨0, ByteArray.mk #[], 0⟩) (Nat.zero_le _)
    have hg : ∀ x : List Cell, (σ ++ [[]]).set σ.length x = σ ++ [x] := fun x => by rw [List.set_append_right _ _ (Nat.le_refl _)]; simp
    rw [hg, hg] at h
    have e0 : [((V.str s), false), ((V.int .i64 (0 : Int)), false), ((V.str (ByteArray.mk #[])), false), ((V.int .i64 (0 : Int)), false)] = SC.cells s ⟨0, ByteArray.mk #[], 0⟩ := rfl
    simp only [newScanner, newScannerF, e0, callK_ret0 h]

theorem rdone_stuck {s : ByteArray} {st : RS} (h : st.c ≠ 0) : rdoneV s st = st := by
  have h1 : (st.c == 0) = false := by simpa using h
  unfold rdoneV rfailV
  simp only [h1, cond_false]
  cases (!(tokV s st.p).ok || !isNo (tokV s st.p).t) <;> simp only [cond_true, cond_false]

theorem asLv_lv (l : Lv) : asLv (.agg [.int .i64 l.kind, .str l.name, .slice 3 31 l.args]) = some (l.kind, l.name, .slice 3 31 l.args) := rfl

theorem parse_law (s : ByteArray) (hs : s.size < 2 ^ 61) (σ : Sto) : ∃ err σ', parseS (lim C) [(.str s, false)] σ = some (.ret [(.agg [.int .i64 (parseV s).1.kind, .str (parseV s).1.name, .slice 3 31 (parseV s).1.args], false), (err, false)], σ') ∧ ErrOk err σ' (parseV s).2.1 (parseV s).2.2 := by
  by_cases hb : (s.size : Int) > 20000
  · have hv : parseV s = (.zero, 2, 0) := by unfold parseV; rw [decide_eq_true hb]; rfl
    rw [hv]
    refine ⟨.iface 66 (.ptr 33 σ.length 0), σ ++ [fc2], ?_, .inr ⟨σ.length, rfl, ?_⟩⟩
    · simp only [parseS, if_pos hb]; rfl
    · simp [fc2, fcell]
  · have e34 := newScanner_law hs σ
    have hx := slevel_law hs (s.size + 1) 0 (σ ++ [[]]) σ.length (by simp) (Nat.zero_le _) (by omega)
    have hg : ∀ x : List Cell, (σ ++ [[]]).set σ.length x = σ ++ [x] := fun x => by rw [List.set_append_right _ _ (Nat.le_refl _)]; simp
    have hv : parseV s = (let x := rlevelV (s.size + 1) s ⟨0, 0, 0⟩; let d := rdoneV s x.2; bif d.c != 0 then (.zero, d.c, d.a) else (x.1, d.c, d.a)) := by unfold parseV; rw [decide_eq_false hb]; rfl
    rw [hv]
    generalize rlevelV (s.size + 1) s ⟨0, 0, 0⟩ = x at hx
    simp only
    have hl : ∀ y : List Cell, (σ ++ [y]).length = (σ ++ [[]]).length := fun y => by simp
    rcases hx with ⟨h1, h2, h3, h4, h5⟩ | ⟨h1, cs, h5⟩
    · rw [hg, hg] at h5
      have hsd := send_law (σ := σ ++ [[]]) (r := σ.length) (by simp) (s := s) h3
      rw [hg, ← rs_eta h1 h2] at hsd
      rcases hsd with ⟨k1, k2⟩ | ⟨k1, k2⟩
      · have hc : ((rdoneV s x.2).c != 0) = false := by simp [k1]
        rw [hc]
        refine ⟨.nilIface, σ ++ [(stepV s x.2.p).cells s], ?_, .inl ⟨k1, rfl⟩⟩
        simp only [parseS, if_neg hb, e34, parse3, h5, parse4, asLv_lv, Option.bind_some, k2, parse5, cond_false]
      · have hc : ((rdoneV s x.2).c != 0) = true := by simp [k1]
        rw [hc]
        refine ⟨.iface 66 (.ptr 33 (σ ++ [(stepV s x.2.p).cells s]).length 0), σ ++ [(stepV s x.2.p).cells s] ++ [fcell 1 (rdoneV s x.2).a], ?_, .inr ⟨(σ ++ [(stepV s x.2.p).cells s]).length, rfl, ?_⟩⟩
        · simp only [parseS, if_neg hb, e34, parse3, h5, parse4, asLv_lv, Option.bind_some, k2, parse5, caught, if_true, cond_true, hl (SC.cells s (stepV s x.2.p))]
          rfl
        · simp [k1]
    · rw [hg, hg] at h5
      have hd : rdoneV s x.2 = x.2 := rdone_stuck (by rw [h1]; decide)
      have hc : (x.2.c != 0) = true := by simp [h1]
      rw [hd, hc]
      refine ⟨.iface 66 (.ptr 33 (σ ++ [cs]).length 0), σ ++ [cs] ++ [fcell 1 x.2.a], ?_, .inr ⟨(σ ++ [cs]).length, rfl, ?_⟩⟩
      · simp only [parseS, if_neg hb, e34, parse3, h5, parse4, caught, if_true, cond_true, hl cs]
        rfl
      · simp [h1]
end Go.Ab.Mk
