/- The plain law of the whole: LevelParses. -/
import Derived.Test.YtcpdcpgblcapeaaDoorLvU
import Derived.Test.YtcpdcpgblcapeaaDoorAbMq1
import Derived.Test.YtcpdcpgblcapeaaDoorAbRow
set_option linter.unusedSimpArgs false
set_option linter.unusedVariables false
set_option linter.deprecated false
namespace Go.Ab.Mq
open Go.Proofs Go.Ab Go.Ab.Mk

theorem faulty_law {err : V} {σ : Sto} {c a : Int} (h : ErrOk err σ c a) : lim Mq.C 24 [(err, false), (.agg [.int .i64 c, .int .i64 a], false)] σ = some (.ret [(.bool true, false)], σ) :=
  faulty_lim (n := 0) <| by
    have hg : ∀ {c : Cell} {cs : List Cell}, (c :: cs).getD 0 cellD = c := fun {_ _} => rfl
    have hg1 : ∀ {c d : Cell} {cs : List Cell}, (c :: d :: cs).getD 1 cellD = d := fun {_ _ _} => rfl
    rcases h with ⟨rfl, rfl⟩ | ⟨b, rfl, hb⟩
    · have h40 : lim Mq.C 40 [(.nilIface, false)] σ = some (.ret [(.int .i64 0, false), (.int .i64 0, false)], σ) := lim_ext (s := codeS) (by kernel_rfl) rfl
      simp only [faulty, faultyF, callK_ret2 h40, hg, hg1, V.asInt, if_true, Option.bind_some, beq_self_eq_true, cond_true]
    · have h40 : lim Mq.C 40 [(.iface 66 (.ptr 33 b 0), false)] σ = some (.ret [(.int .i64 c, false), (.int .i64 a, false)], σ) := lim_ext (s := codeS) (by kernel_rfl) (by simp [codeS, hb, fcell])
      simp only [faulty, faultyF, callK_ret2 h40, hg, hg1, V.asInt, if_true, Option.bind_some, beq_self_eq_true, cond_true]
      cases c == 0 <;> rfl

theorem uncellQ (l : Lv) : V.agg [V.cell (.agg [.int .i64 l.kind, .str l.name, .slice 3 31 l.args]) 0, V.cell (.agg [.int .i64 l.kind, .str l.name, .slice 3 31 l.args]) 1, V.cell (.agg [.int .i64 l.kind, .str l.name, .slice 3 31 l.args]) 2] = V.agg [.int .i64 l.kind, .str l.name, .slice 3 31 l.args] := rfl
theorem uncellF (c a : Int) : V.agg [V.cell (.agg [.int .i64 c, .int .i64 a]) 0, V.cell (.agg [.int .i64 c, .int .i64 a]) 1] = V.agg [.int .i64 c, .int .i64 a] := rfl

theorem levelParsed_law (s : ByteArray) (hs : s.size < 2 ^ 61) (σ : Sto) : ∃ σ', lim Mq.C 7 [(.str s, false)] σ = some (.ret [(.bool true, false)], σ') := by
  obtain ⟨err, σ1, h1, he⟩ := parse_law s hs σ
  obtain ⟨σ2, h2⟩ := parseLevel_law s hs σ1
  have hg : ∀ {c : Cell} {cs : List Cell}, (c :: cs).getD 0 cellD = c := fun {_ _} => rfl
  have hg1 : ∀ {c d : Cell} {cs : List Cell}, (c :: d :: cs).getD 1 cellD = d := fun {_ _ _} => rfl
  have f2 : ∀ x y : Int, V.fits (.agg [.int .i64 x, .int .i64 y]) true 2 = true := fun _ _ => rfl
  have h16 := lim_ext (C := Mq.C) (f := 16) (s := parseS (lim Mk.C)) (by kernel_rfl) h1
  have h9 := lim_ext (C := Mq.C) (f := 9) (s := lim Mk.C 9) (by kernel_rfl) h2
  have h24 := faulty_law (he.more σ2)
  have h22 := lim_ext (C := Mq.C) (f := 22) (s := lim Mk.C 22) (by kernel_rfl) (sameLevel_law (σ1 ++ σ2) (parseV s).1)
  refine ⟨σ1 ++ σ2, levelParsed_lim (n := 0) ?_⟩
  simp only [levelParsed, levelParsedF, callK_ret2 h16, hg, hg1, fits_lv, f2, grd, cond_true, Option.bind_some, callK_ret2 h9, uncellF, uncellQ, callK_ret1 h24, callK_ret1 h22, V.asBool]

theorem levelParses_loop (n : Nat) {L : List OpV} (hb : L.length < 2 ^ 60) (hs : ∀ o ∈ L, o.s.size < 2 ^ 61 ∧ o.t.size < 2 ^ 61) :
    ∀ (m i : Nat) (σ : Sto), i ≤ L.length → L.length - i < m → ∃ σ', levelParsesl0 (lim Mq.C) n m (L.map OpV.enc) i σ = some (.ret [(.bool true, false)], σ')
  | 0, i, _, _, hm => by omega
  | m + 1, i, σ, hi, hm => by
    show ∃ σ', levelParsess0 (lim Mq.C) (levelParsesl0 (lim Mq.C) n m) (L.map OpV.enc) i σ = _
    unfold levelParsess0
    rw [List.length_map]
    by_cases hlt : i < L.length
    · obtain ⟨σ1, h1⟩ := levelParsed_law L[i].s (hs _ (List.getElem_mem hlt)).1 σ
      obtain ⟨σ2, h2⟩ := levelParsed_law L[i].t (hs _ (List.getElem_mem hlt)).2 σ1
      have hget : (L.map OpV.enc).getD (Int.toNat (i : Int)) [] = L[i].enc := by simp [hlt]
      have hc1 : L[i].enc.getD 1 V.any = .str L[i].s := rfl
      have hc2 : L[i].enc.getD 2 V.any = .str L[i].t := rfl
      have hbig : decide ((i : Int) < 1152921504606846976) = true := by simp; omega
      obtain ⟨σ3, h3⟩ := levelParses_loop n hb hs m (i + 1) σ2 (by omega) (by omega)
      refine ⟨σ3, ?_⟩
      rw [d0, dlt hlt, hbig, hget, hc1, hc2]
      simp only [cond_true, Bool.and_self, grd, Option.bind_some, callK_ret1 h1, callK_ret1 h2, List.getD_cons_zero, V.asBool, Bool.not_true, cond_false, wrap_succ (show i < 2 ^ 61 by omega)]
      exact h3
    · rw [dnlt hlt]; exact ⟨σ, rfl⟩
theorem levelParses_law (L : List OpV) (hb : L.length < 2 ^ 60) (hs : ∀ o ∈ L, o.s.size < 2 ^ 61 ∧ o.t.size < 2 ^ 61) (σ : Sto) :
    ∃ σ', lim Mq.C 4 [(.slice 6 25 (L.map OpV.enc), false)] σ = some (.ret [(.bool true, false)], σ') := by
  obtain ⟨σ', h⟩ := levelParses_loop (L.length + 1) hb hs (L.length + 1) 0 σ (by omega) (by omega)
  exact ⟨σ', levelParses_lim (n := L.length + 1) h⟩
end Go.Ab.Mq
