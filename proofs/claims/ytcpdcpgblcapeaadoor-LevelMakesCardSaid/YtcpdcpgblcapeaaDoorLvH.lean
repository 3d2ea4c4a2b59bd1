/- The plain law of the whole: LevelMakes. -/
import Derived.Test.YtcpdcpgblcapeaaDoorLvG
import Derived.Test.YtcpdcpgblcapeaaDoorAbRow
set_option linter.unusedSimpArgs false
set_option linter.unusedVariables false
set_option linter.deprecated false
namespace Go.Ab.Mk
open Go.Proofs Go.Ab

theorem uncell (l : Lv) : V.agg [V.cell (.agg [.int .i64 l.kind, .str l.name, .slice 3 31 l.args]) 0, V.cell (.agg [.int .i64 l.kind, .str l.name, .slice 3 31 l.args]) 1, V.cell (.agg [.int .i64 l.kind, .str l.name, .slice 3 31 l.args]) 2] = V.agg [.int .i64 l.kind, .str l.name, .slice 3 31 l.args] := rfl
theorem uncellE (l : Lv) : [V.cell (.agg [.int .i64 l.kind, .str l.name, .slice 3 31 l.args]) 0, V.cell (.agg [.int .i64 l.kind, .str l.name, .slice 3 31 l.args]) 1, V.cell (.agg [.int .i64 l.kind, .str l.name, .slice 3 31 l.args]) 2] = [.int .i64 l.kind, .str l.name, .slice 3 31 l.args] := rfl

theorem levelsMade_law (k A B : Int) (S T U : ByteArray) (hS : S.size < 2 ^ 61) (hT : T.size < 2 ^ 61) (σ : Sto) :
    ∃ σ', lim C 6 [(.agg [.int .i64 k, .str S, .str T, .str U, .int .i64 A, .int .i64 B], false)] σ = some (.ret [(.bool true, false)], σ') := by
  obtain ⟨σ1, h1⟩ := parseLevel_law S hS σ
  obtain ⟨σ2, h2⟩ := parseLevel_law T hT (σ ++ σ1)
  have hg : ∀ {c : Cell} {cs : List Cell}, (c :: cs).getD 0 cellD = c := fun {_ _} => rfl
  have hg1 : ∀ {c d : Cell} {cs : List Cell}, (c :: d :: cs).getD 1 cellD = d := fun {_ _ _} => rfl
  have f2 : ∀ x y : Int, V.fits (.agg [.int .i64 x, .int .i64 y]) true 2 = true := fun _ _ => rfl
  have fi : ∀ x : Int, V.fits (.int .i64 x) false 1 = true := fun _ => rfl
  have c0 : ∀ x y : Int, V.cell (.agg [.int .i64 x, .int .i64 y]) 0 = .int .i64 x := fun _ _ => rfl
  by_cases hp : (parseV S).2.1 = 0
  case neg =>
    refine ⟨σ ++ σ1 ++ σ2, levelsMade_lim (n := 0) ?_⟩
    have hp' : ((parseV S).2.1 != 0) = true := by simpa using hp
    simp only [levelsMade, levelsMadeF, callK_ret2 h1, callK_ret2 h2, hg, hg1, fits_lv, f2, c0, grd, cond_true, Option.bind_some, V.asInt, if_true, hp']
  by_cases hq : (parseV T).2.1 = 0
  case neg =>
    refine ⟨σ ++ σ1 ++ σ2, levelsMade_lim (n := 0) ?_⟩
    have hp' : ((parseV S).2.1 != 0) = false := by simp [hp]
    have hq' : ((parseV T).2.1 != 0) = true := by simpa using hq
    simp only [levelsMade, levelsMadeF, callK_ret2 h1, callK_ret2 h2, hg, hg1, fits_lv, f2, c0, grd, cond_true, cond_false, Option.bind_some, V.asInt, if_true, hp', hq']
  obtain ⟨p1, p2, p3, p4⟩ := parseV_ok hp
  have hp' : ((parseV S).2.1 != 0) = false := by simp [hp]
  have hq' : ((parseV T).2.1 != 0) = false := by simp [hq]
  generalize hl : (parseV S).1 = l at p1 p2 p3 h1
  generalize hm : (parseV T).1 = m at h2
  generalize hs5 : σ ++ σ1 ++ σ2 = s5 at h2
  have e9 := print_law s5 l p3 (by omega)
  generalize s5 ++ [bcell s5.length true (printL l)] = s10 at e9
  have e12 := params_law s10 l (by omega)
  generalize s10 ++ [[(V.slice 1 9 (strs (rparamsV l [])), true)]] = s13 at e12
  have e15 : lim C 10 [(.agg [.int .i64 l.kind, .str l.name, .slice 3 31 l.args], false), (.slice 1 9 [], true)] s13 = _ := rparams_law s13 l [] (by simp; omega)
  have hrl := rparamsV_length l []
  simp only [List.length_nil] at hrl
  have e18 := sameNames_law (ps := rparamsV l []) (by omega) s13
  have e21 := rprint_law s13 l (by omega)
  have e36 := limit_law A s13
  have e39 := limit_law B s13
  have e42 : lim C 12 [(.agg [.int .i64 l.kind, .str l.name, .slice 3 31 l.args], false), (.slice 1 9 [[.str (ByteArray.mk #[117])], [.str (ByteArray.mk #[118])]], true), (.slice 1 3 [[.int .i64 (limitV A)], [.int .i64 (limitV B)]], true)] s13 = _ :=
    worth_law (ps := [ByteArray.mk #[117], ByteArray.mk #[118]]) (ns := [limitV A, limitV B]) rfl (by simp) s13 l true true
  have e52 : lim C 23 [(.agg [.int .i64 l.kind, .str l.name, .slice 3 31 l.args], false), (.slice 1 9 [[.str (ByteArray.mk #[117])], [.str (ByteArray.mk #[118])]], true), (.slice 1 3 [[.int .i64 (limitV A)], [.int .i64 (limitV B)]], true)] s13 = _ :=
    rworth_law (ps := [ByteArray.mk #[117], ByteArray.mk #[118]]) (ns := [limitV A, limitV B]) rfl (by simp) s13 l true true
  have henc : encs [m, l, l] = [[.int .i64 m.kind, .str m.name, .slice 3 31 m.args], [.int .i64 l.kind, .str l.name, .slice 3 31 l.args], [.int .i64 l.kind, .str l.name, .slice 3 31 l.args]] := by simp only [encs, List.map_cons, List.map_nil, Lv.enc_eq]
  have e27 : lim C 20 [(.agg [.int .i64 l.kind, .str l.name, .slice 3 31 l.args], false), (.slice 1 9 [[.str (ByteArray.mk #[117])], [.str (ByteArray.mk #[119])], [.str (ByteArray.mk #[117])]], true), (.slice 3 31 [[.int .i64 m.kind, .str m.name, .slice 3 31 m.args], [.int .i64 l.kind, .str l.name, .slice 3 31 l.args], [.int .i64 l.kind, .str l.name, .slice 3 31 l.args]], true)] s13 = _ :=
    henc ▸ subst_law2 (ps := [ByteArray.mk #[117], ByteArray.mk #[119], ByteArray.mk #[117]]) (ls := [m, l, l]) rfl (by simp) s13 l true true
  have e30 : lim C 21 [(.agg [.int .i64 l.kind, .str l.name, .slice 3 31 l.args], false), (.slice 1 9 [[.str (ByteArray.mk #[117])], [.str (ByteArray.mk #[119])], [.str (ByteArray.mk #[117])]], true), (.slice 3 31 [[.int .i64 m.kind, .str m.name, .slice 3 31 m.args], [.int .i64 l.kind, .str l.name, .slice 3 31 l.args], [.int .i64 l.kind, .str l.name, .slice 3 31 l.args]], true)] s13 = _ :=
    henc ▸ rsubst_law2 (ps := [ByteArray.mk #[117], ByteArray.mk #[119], ByteArray.mk #[117]]) (ls := [m, l, l]) rfl (by simp) s13 l true true
  have e33 := sameLevel_law s13 (substV [ByteArray.mk #[117], ByteArray.mk #[119], ByteArray.mk #[117]] [m, l, l] l)
  refine ⟨s13, levelsMade_lim (n := 0) ?_⟩
  simp only [levelsMade, levelsMadeF, callK_ret2 h1, callK_ret2 h2, hl, hm, hg, hg1, fits_lv, f2, fi, c0, grd, cond_true, cond_false, Option.bind_some, V.asInt, V.asBool, V.asStr, if_true, hp', hq', hs5, uncellE, callK_ret1 e9, callK_ret1 e12, callK_ret1 e15, callK_ret1 e18, callK_ret1 e21, callK_ret1 e36, callK_ret1 e39, callK_ret1 e42, callK_ret1 e52, callK_ret1 e27, callK_ret1 e30, callK_ret1 e33, Bool.and_self, Bool.and_true, beq_self_eq_true, Bool.not_true]
  cases decide ((S.size : Int) ≤ 2000) <;> cases decide ((T.size : Int) ≤ 2000) <;> rfl

theorem levelMakes_loop (n : Nat) {L : List OpV} (hb : L.length < 2 ^ 60) (hs : ∀ o ∈ L, o.s.size < 2 ^ 61 ∧ o.t.size < 2 ^ 61) :
    ∀ (m i : Nat) (σ : Sto), i ≤ L.length → L.length - i < m → ∃ σ', levelMakesl0 (lim C) n m (L.map OpV.enc) i σ = some (.ret [(.bool true, false)], σ')
  | 0, i, _, _, hm => by omega
  | m + 1, i, σ, hi, hm => by
    show ∃ σ', levelMakess0 (lim C) (levelMakesl0 (lim C) n m) (L.map OpV.enc) i σ = _
    unfold levelMakess0
    rw [List.length_map]
    by_cases hlt : i < L.length
    · obtain ⟨σ1, h1⟩ := levelsMade_law L[i].k L[i].a L[i].b L[i].s L[i].t L[i].u (hs _ (List.getElem_mem hlt)).1 (hs _ (List.getElem_mem hlt)).2 σ
      have hget : (L.map OpV.enc).getD (Int.toNat (i : Int)) [] = L[i].enc := by simp [hlt]
      have hc : V.agg [L[i].enc.getD 0 V.any, L[i].enc.getD 1 V.any, L[i].enc.getD 2 V.any, L[i].enc.getD 3 V.any, L[i].enc.getD 4 V.any, L[i].enc.getD 5 V.any] = V.agg [.int .i64 L[i].k, .str L[i].s, .str L[i].t, .str L[i].u, .int .i64 L[i].a, .int .i64 L[i].b] := rfl
      have hbig : decide ((i : Int) < 1152921504606846976) = true := by simp; omega
      obtain ⟨σ2, h2⟩ := levelMakes_loop n hb hs m (i + 1) σ1 (by omega) (by omega)
      refine ⟨σ2, ?_⟩
      rw [d0, dlt hlt, hbig, hget, hc]
      simp only [cond_true, Bool.and_self, grd, Option.bind_some, callK_ret1 h1, List.getD_cons_zero, V.asBool, Bool.not_true, cond_false, wrap_succ (show i < 2 ^ 61 by omega)]
      exact h2
    · rw [dnlt hlt]; exact ⟨σ, rfl⟩
theorem levelMakes_law (L : List OpV) (hb : L.length < 2 ^ 60) (hs : ∀ o ∈ L, o.s.size < 2 ^ 61 ∧ o.t.size < 2 ^ 61) (σ : Sto) :
    ∃ σ', lim C 3 [(.slice 6 25 (L.map OpV.enc), false)] σ = some (.ret [(.bool true, false)], σ') := by
  obtain ⟨σ', h⟩ := levelMakes_loop (L.length + 1) hb hs (L.length + 1) 0 σ (by omega) (by omega)
  exact ⟨σ', levelMakes_lim (n := L.length + 1) h⟩
end Go.Ab.Mk
