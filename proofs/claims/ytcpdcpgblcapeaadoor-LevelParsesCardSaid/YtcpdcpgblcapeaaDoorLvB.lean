/- The plain laws: parameters, printing, substitution. -/
import Derived.Test.YtcpdcpgblcapeaaDoorLvA
set_option linter.unusedSimpArgs false
set_option linter.unusedVariables false
set_option linter.deprecated false
namespace Go.Ab.Mk
open Go.Proofs Go.Ab

def rparamsV : Lv → List ByteArray → List ByteArray
  | .param s, ps => bif has s ps then ps else ps ++ [s]
  | .zero, ps => ps
  | .succ l, ps => rparamsV l ps
  | .max a b, ps => rparamsV b (rparamsV a ps)
  | .imax a b, ps => rparamsV b (rparamsV a ps)
theorem rparamsV_length : ∀ (l : Lv) (ps : List ByteArray), (rparamsV l ps).length ≤ ps.length + l.size
  | .param s, ps => by simp only [rparamsV]; cases has s ps <;> simp [Lv.size]
  | .zero, ps => by simp [rparamsV]
  | .succ l, ps => by have := rparamsV_length l ps; simp only [rparamsV, Lv.size]; omega
  | .max a b, ps => by have h1 := rparamsV_length a ps; have h2 := rparamsV_length b (rparamsV a ps); simp only [rparamsV, Lv.size]; omega
  | .imax a b, ps => by have h1 := rparamsV_length a ps; have h2 := rparamsV_length b (rparamsV a ps); simp only [rparamsV, Lv.size]; omega
def kidsV : List Lv → List ByteArray → List ByteArray
  | [], ps => ps
  | c :: L, ps => kidsV L (rparamsV c ps)
def sizes : List Lv → Nat
  | [] => 0
  | c :: L => c.size + sizes L
theorem sizes_le : ∀ l : Lv, sizes l.kids < l.size
  | .param s => by simp [Lv.kids, sizes, Lv.size]
  | .zero => by simp [Lv.kids, sizes, Lv.size]
  | .succ l => by simp [Lv.kids, sizes, Lv.size]
  | .max a b => by simp [Lv.kids, sizes, Lv.size] <;> omega
  | .imax a b => by simp [Lv.kids, sizes, Lv.size] <;> omega
theorem rparams_loop (call : CallF) (n : Nat) {L : List Lv} (hb : L.length < 2 ^ 61) (k : Int) (nm : ByteArray) (σ : Sto)
    (h : ∀ c ∈ L, ∀ ps : List ByteArray, c.size + ps.length < 2 ^ 33 → call 10 [(.agg [.int .i64 c.kind, .str c.name, .slice 3 31 c.args], false), (.slice 1 9 (strs ps), true)] σ = some (.ret [(.slice 1 9 (strs (rparamsV c ps)), true)], σ)) :
    ∀ (m i : Nat) (ps : List ByteArray), i ≤ L.length → L.length - i < m → sizes (L.drop i) + ps.length < 2 ^ 33 → rparamsl0 call n m (.slice 1 9 (strs ps)) i k nm (L.map Lv.enc) σ = some (.ret [(.slice 1 9 (strs (kidsV (L.drop i) ps)), true)], σ)
  | 0, i, _, _, hm, _ => by omega
  | m + 1, i, ps, hi, hm, hs => by
    show rparamss0 call (rparamsl0 call n m) (.slice 1 9 (strs ps)) i k nm (L.map Lv.enc) σ = _
    unfold rparamss0
    rw [List.length_map]
    by_cases hlt : i < L.length
    · have hc := List.getElem?_eq_getElem hlt
      rw [drop_cons hc] at hs
      simp only [sizes] at hs
      have h1 := h _ (List.getElem_mem hlt) ps (by omega)
      have hl := rparamsV_length L[i] ps
      rw [d0, dlt hlt, kid_get hc, L[i].cells, drop_cons hc]
      simp only [cond_true, Bool.and_self, grd, Option.bind_some, callK_ret1 h1, wrap_succ (show i < 2 ^ 61 by omega), List.getD_cons_zero, kidsV]
      exact rparams_loop call n hb k nm σ h m (i + 1) _ (by omega) (by omega) (by omega)
    · rw [dnlt hlt, List.drop_eq_nil_of_le (by omega)]; rfl
theorem kidsV_eq : ∀ (l : Lv) (ps : List ByteArray), (∀ s, l ≠ .param s) → kidsV l.kids ps = rparamsV l ps
  | .param s, _, h => absurd rfl (h s)
  | .zero, _, _ => rfl
  | .succ _, _, _ => rfl
  | .max .., _, _ => rfl
  | .imax .., _, _ => rfl
theorem kind_ne {l : Lv} (h : ∀ s, l ≠ .param s) : (l.kind == (4 : Int)) = false := by cases l <;> first | rfl | exact absurd rfl (h _)
theorem rparams_law (σ : Sto) : ∀ (l : Lv) (ps : List ByteArray), l.size + ps.length < 2 ^ 33 →
    lim C 10 [(.agg [.int .i64 l.kind, .str l.name, .slice 3 31 l.args], false), (.slice 1 9 (strs ps), true)] σ = some (.ret [(.slice 1 9 (strs (rparamsV l ps)), true)], σ) :=
  Lv.ind fun l ih ps hb => rparams_lim (n := 4) <| by
    by_cases hp : ∃ s, l = .param s
    · obtain ⟨s, rfl⟩ := hp
      simp only [Lv.size] at hb
      have h1 := among_law (ps := ps) (by omega) s σ
      simp only [rparams, rparamsF, Lv.kind, Lv.name, Lv.args, Lv.kids, rparamsV, callK_ret1 h1]
      cases hx : has s ps with
      | true => simp [V.asBool]
      | false =>
        have hr : room (ps.length + 1) = true := room_ok (by omega)
        simp [V.asBool, grd, hr, strs]
    · have hp : ∀ s, l ≠ .param s := fun s hs => hp ⟨s, hs⟩
      have hf := kids_few l
      have hs := sizes_le l
      have := rparams_loop (lim C) 4 (L := l.kids) (by omega) l.kind l.name σ (fun c hc ps h => ih c hc ps h) 4 0 ps (by omega) (by omega) (by simp only [List.drop_zero]; omega)
      simp only [rparams, rparamsF, kind_ne hp, cond_false]
      rw [List.drop_zero, kidsV_eq l ps hp] at this
      exact this

theorem idx_has (v : ByteArray) : ∀ (ps : List ByteArray) (i : Nat), decide (idx v ps i ≥ 0) = has v ps
  | [], i => rfl
  | p :: ps, i => by
    simp only [idx, has, List.any_cons]
    by_cases h : v.toList = p.toList
    · simp [h]
    · have h' : ¬ p.toList = v.toList := fun e => h e.symm
      have := idx_has v ps (i + 1)
      simp only [has] at this
      simp [h, h', ← this]

theorem memGet1 {σ : Sto} {t : TypeId} {b : Nat} {c : Cell} (h : σ[b]? = some [c]) : memGet σ (.ptr t b 0) false 1 = some c.1 := by simp [memGet, h, gather]
theorem memTake1 {σ : Sto} {t : TypeId} {b : Nat} {v : V} (h : σ[b]? = some [(v, true)]) : memTake σ (.ptr t b 0) = some (v, σ.set b [(v, false)]) := by
  simp only [memTake, h, Option.bind_some]; rfl
theorem memSet1 {σ : Sto} {t : TypeId} {b : Nat} {c d : Cell} (h : σ[b]? = some [c]) : memSet σ (.ptr t b 0) [d] = some (σ.set b [d]) := by
  simp only [memSet, h, Option.bind_some]; rfl
theorem params1_law {σ : Sto} {c : Nat} {ps : List ByteArray} (h : σ[c]? = some [(.slice 1 9 (strs ps), true)]) (hb : ps.length < 2 ^ 33) (s : ByteArray) :
    lim C 38 [(.str s, false), (.ptr 36 c 0, false)] σ = some (.ret [], σ.set c [(.slice 1 9 (strs (bif has s ps then ps else ps ++ [s])), true)]) :=
  params1_lim (n := 0) <| by
    have h1 := contains_law (ps := ps) (by omega) s σ
    obtain ⟨hlt, hget⟩ := List.getElem?_eq_some_iff.1 h
    simp only [params1, params1F, memGet1 h, Option.bind_some, callK_ret1 h1, idx_has]
    cases hx : has s ps with
    | true =>
      have : σ.set c [(V.slice 1 9 (strs ps), true)] = σ := by rw [← hget]; simp
      simp [V.asBool, this]
    | false =>
      have hr : room (ps.length + 1) = true := room_ok (by omega)
      rw [memTake1 h]
      simp only [List.getD_cons_zero, V.asBool, Option.bind_some, Bool.not_false, cond_true, V.asSlice, and_self, if_true, strs_length, grd, hr]
      rw [memSet1 (c := (V.slice 1 9 (strs ps), false)) (by simp [hlt])]
      simp [strs]

theorem each_loop (call : CallF) (n : Nat) {L : List Lv} (hb : L.length < 2 ^ 61) (f : V) (c : Nat)
    (h : ∀ d ∈ L, ∀ (ps : List ByteArray) (σ : Sto), σ[c]? = some [(.slice 1 9 (strs ps), true)] → d.size + ps.length < 2 ^ 33 →
      call 37 [(.agg [.int .i64 d.kind, .str d.name, .slice 3 31 d.args], false), (f, false)] σ = some (.ret [], σ.set c [(.slice 1 9 (strs (rparamsV d ps)), true)])) :
    ∀ (m i : Nat) (ps : List ByteArray) (σ : Sto), i ≤ L.length → L.length - i < m → sizes (L.drop i) + ps.length < 2 ^ 33 → σ[c]? = some [(.slice 1 9 (strs ps), true)] →
      eachl0 call n m f (L.map Lv.enc) L.length i σ = some (.ret [], σ.set c [(.slice 1 9 (strs (kidsV (L.drop i) ps)), true)])
  | 0, i, _, _, _, hm, _, _ => by omega
  | m + 1, i, ps, σ, hi, hm, hs, hσ => by
    show eachs0 call (eachl0 call n m) f (L.map Lv.enc) L.length i σ = _
    unfold eachs0
    rw [List.length_map]
    obtain ⟨hclt, hget⟩ := List.getElem?_eq_some_iff.1 hσ
    by_cases hlt : i < L.length
    · have hc := List.getElem?_eq_getElem hlt
      rw [drop_cons hc] at hs
      simp only [sizes] at hs
      have h1 := h _ (List.getElem_mem hlt) ps σ hσ (by omega)
      have hl := rparamsV_length L[i] ps
      rw [d0, dlt hlt, kid_get hc, L[i].cells, drop_cons hc]
      simp only [cond_true, Bool.and_self, grd, Option.bind_some, callK_ret0 h1, wrap_succ (show i < 2 ^ 61 by omega), kidsV]
      rw [each_loop call n hb f c h m (i + 1) (rparamsV L[i] ps) _ (by omega) (by omega) (by omega) (by simp [hclt])]
      rw [List.set_set]
    · rw [dnlt hlt, List.drop_eq_nil_of_le (by omega)]
      have : σ.set c [(V.slice 1 9 (strs ps), true)] = σ := by rw [← hget]; simp
      simp [kidsV, this]
theorem each_law (c : Nat) : ∀ (l : Lv) (ps : List ByteArray) (σ : Sto), σ[c]? = some [(.slice 1 9 (strs ps), true)] → l.size + ps.length < 2 ^ 33 →
    lim C 37 [(.agg [.int .i64 l.kind, .str l.name, .slice 3 31 l.args], false), (.func (.func 38) [] [.ptr 36 c 0], false)] σ = some (.ret [], σ.set c [(.slice 1 9 (strs (rparamsV l ps)), true)]) :=
  Lv.ind fun l ih ps σ hσ hb => each_lim (n := 4) <| by
    obtain ⟨hclt, hget⟩ := List.getElem?_eq_some_iff.1 hσ
    have hf := kids_few l
    have hs := sizes_le l
    have hlen : (l.args.length : Int) = (l.kids.length : Int) := by simp [Lv.args]
    by_cases hp : ∃ s, l = .param s
    · obtain ⟨s, rfl⟩ := hp
      simp only [Lv.size] at hb
      have h1 := params1_law hσ (by omega) s
      simp only [each, eachF, Lv.kind, Lv.name, Lv.args, Lv.kids, rparamsV, V.asFunc, Option.bind_some, List.map_nil, List.nil_append, List.map_cons, List.singleton_append, callK_ret0 h1]
      simp only [beq_self_eq_true, cond_true]
      exact each_loop (lim C) 4 (L := []) (by simp) _ c (by simp) 4 0 (bif has s ps then ps else ps ++ [s]) (σ.set c _) (by simp) (by simp) (by
        cases has s ps <;> simp [sizes] <;> omega) (by simp [hclt]) |>.trans (by simp [kidsV])
    · have hp : ∀ s, l ≠ .param s := fun s hs => hp ⟨s, hs⟩
      have := each_loop (lim C) 4 (L := l.kids) (by omega) (.func (.func 38) [] [.ptr 36 c 0]) c (fun d hd ps σ h1 h2 => ih d hd ps σ h1 h2) 4 0 ps σ (by omega) (by omega) (by simp only [List.drop_zero]; omega) hσ
      simp only [each, eachF, kind_ne hp, cond_false, hlen]
      rw [List.drop_zero, kidsV_eq l ps hp] at this
      exact this
theorem params_law (σ : Sto) (l : Lv) (hb : l.size < 2 ^ 33) :
    lim C 17 [(.agg [.int .i64 l.kind, .str l.name, .slice 3 31 l.args], false)] σ = some (.ret [(.slice 1 9 (strs (rparamsV l [])), false)], σ ++ [[(.slice 1 9 (strs (rparamsV l [])), true)]]) :=
  params_lim (n := 0) <| by
    have h1 := each_law σ.length l [] (σ ++ [[(.slice 1 9 [], true)]]) (by simp [strs]) (by simpa using hb)
    have hset : (σ ++ [[(V.slice 1 9 [], true)]]).set σ.length [(V.slice 1 9 (strs (rparamsV l [])), true)] = σ ++ [[(V.slice 1 9 (strs (rparamsV l [])), true)]] := by
      rw [List.set_append_right _ _ (Nat.le_refl _)]; simp
    rw [hset] at h1
    simp only [params, paramsF, callK_ret0 h1]
    rw [memGet1 (c := (V.slice 1 9 (strs (rparamsV l [])), true)) (by simp)]
    rfl
end Go.Ab.Mk
