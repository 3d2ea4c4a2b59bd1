/- The plain laws of the functions over levels: worth, index, contains, among, sameNames, sameLevel. -/
import Derived.Test.YtcpdcpgblcapeaaDoorAbLv
import Derived.Test.YtcpdcpgblcapeaaDoorAbMk1
import Derived.Test.YtcpdcpgblcapeaaDoorAbMk2
import Derived.Test.YtcpdcpgblcapeaaDoorAbMk3
import Derived.Test.YtcpdcpgblcapeaaDoorAbMk4
set_option linter.unusedSimpArgs false
set_option linter.unusedVariables false
set_option linter.deprecated false
namespace Go.Ab.Mk
open Go.Proofs Go.Ab

/-- A parameter's value by the lists: the first that bears the name. -/
def pval (s : ByteArray) : List ByteArray → List Int → Int
  | p :: ps, n :: ns => if p.toList == s.toList then n else pval s ps ns
  | _, _ => 0

def rworthV (ps : List ByteArray) (ns : List Int) : Lv → Int
  | .zero => 0
  | .succ l => IntKind.wrap .i64 (rworthV ps ns l + 1)
  | .max a b => bif decide (rworthV ps ns b > rworthV ps ns a) then rworthV ps ns b else rworthV ps ns a
  | .imax a b => bif rworthV ps ns b == 0 then 0 else bif decide (rworthV ps ns b > rworthV ps ns a) then rworthV ps ns b else rworthV ps ns a
  | .param s => pval s ps ns

theorem rworth_loop (call : CallF) (n : Nat) {ps : List ByteArray} {ns : List Int} (hl : ps.length = ns.length) (hb : ps.length < 2 ^ 61) (k : Int) (nm : ByteArray) (xs : List (List V)) (σ : Sto) :
    ∀ (m i : Nat), i ≤ ps.length → ps.length - i < m → rworthl0 call n m (strs ps) (ints ns) i k nm xs σ = some (.ret [(.int .i64 (pval nm (ps.drop i) (ns.drop i)), false)], σ)
  | 0, i, _, hm => by omega
  | m + 1, i, hi, hm => by
    show rworths0 call (rworthl0 call n m) (strs ps) (ints ns) i k nm xs σ = _
    unfold rworths0
    rw [strs_length, ints_length]
    by_cases hlt : i < ps.length
    · have hlt2 : i < ns.length := by omega
      rw [d0, dlt hlt, dlt hlt2, Int.toNat_natCast, strs_get hlt, ints_get hlt2]
      rw [List.drop_eq_getElem_cons hlt, List.drop_eq_getElem_cons hlt2]
      simp only [cond_true, grd, Option.bind_some, List.getD_cons_zero, V.asStr, pval]
      cases hc : ps[i].toList == nm.toList with
      | true => simp
      | false =>
        simp only [cond_false, wrap_succ (show i < 2 ^ 61 by omega), Bool.false_eq_true, if_false]
        exact rworth_loop call n hl hb k nm xs σ m (i + 1) (by omega) (by omega)
    · rw [dnlt hlt, List.drop_eq_nil_of_le (by omega)]
      simp [pval]
theorem rworth_law {ps : List ByteArray} {ns : List Int} (hl : ps.length = ns.length) (hb : ps.length < 2 ^ 61) (σ : Sto) : ∀ (l : Lv) (b1 b2 : Bool),
    lim C 23 [(.agg [.int .i64 l.kind, .str l.name, .slice 3 31 l.args], false), (.slice 1 9 (strs ps), b1), (.slice 1 3 (ints ns), b2)] σ = some (.ret [(.int .i64 (rworthV ps ns l), false)], σ)
  | .zero, b1, b2 => rworth_lim (n := 0) rfl
  | .param s, b1, b2 => rworth_lim (n := ps.length + 1) <| by
    simp only [rworth, rworthF, Lv.kind]
    have := rworth_loop (lim C) (ps.length + 1) hl hb 4 s [] σ (ps.length + 1) 0 (by omega) (by omega)
    simpa [rworthV, Lv.name, Lv.args, Lv.kids] using this
  | .succ l, b1, b2 => rworth_lim (n := 0) <| by
    have h1 := rworth_law hl hb σ l false false
    simp only [rworth, rworthF, Lv.kind, Lv.args, Lv.kids, List.map_cons, List.map_nil]
    have hc : V.agg [List.getD (List.getD [l.enc] (Int.toNat (0 : Int)) []) 0 V.any, List.getD (List.getD [l.enc] (Int.toNat (0 : Int)) []) 1 V.any, List.getD (List.getD [l.enc] (Int.toNat (0 : Int)) []) 2 V.any] = V.agg [.int .i64 l.kind, .str l.name, .slice 3 31 l.args] := l.cells
    rw [hc, callK_ret1 h1]
    rfl
  | .max a b, b1, b2 => rworth_lim (n := 0) <| by
    have h1 := rworth_law hl hb σ a false false
    have h2 := rworth_law hl hb σ b false false
    simp only [rworth, rworthF, Lv.kind, Lv.args, Lv.kids, List.map_cons, List.map_nil]
    have hc : V.agg [List.getD (List.getD [a.enc, b.enc] (Int.toNat (0 : Int)) []) 0 V.any, List.getD (List.getD [a.enc, b.enc] (Int.toNat (0 : Int)) []) 1 V.any, List.getD (List.getD [a.enc, b.enc] (Int.toNat (0 : Int)) []) 2 V.any] = V.agg [.int .i64 a.kind, .str a.name, .slice 3 31 a.args] := a.cells
    have hd : V.agg [List.getD (List.getD [a.enc, b.enc] (Int.toNat (1 : Int)) []) 0 V.any, List.getD (List.getD [a.enc, b.enc] (Int.toNat (1 : Int)) []) 1 V.any, List.getD (List.getD [a.enc, b.enc] (Int.toNat (1 : Int)) []) 2 V.any] = V.agg [.int .i64 b.kind, .str b.name, .slice 3 31 b.args] := b.cells
    simp only [hc, hd, rworthV, callK_ret1 h1, callK_ret1 h2]
    cases hx : decide (rworthV ps ns b > rworthV ps ns a) <;> simp [grd, V.asInt, hx]
  | .imax a b, b1, b2 => rworth_lim (n := 0) <| by
    have h1 := rworth_law hl hb σ a false false
    have h2 := rworth_law hl hb σ b false false
    simp only [rworth, rworthF, Lv.kind, Lv.args, Lv.kids, List.map_cons, List.map_nil]
    have hc : V.agg [List.getD (List.getD [a.enc, b.enc] (Int.toNat (0 : Int)) []) 0 V.any, List.getD (List.getD [a.enc, b.enc] (Int.toNat (0 : Int)) []) 1 V.any, List.getD (List.getD [a.enc, b.enc] (Int.toNat (0 : Int)) []) 2 V.any] = V.agg [.int .i64 a.kind, .str a.name, .slice 3 31 a.args] := a.cells
    have hd : V.agg [List.getD (List.getD [a.enc, b.enc] (Int.toNat (1 : Int)) []) 0 V.any, List.getD (List.getD [a.enc, b.enc] (Int.toNat (1 : Int)) []) 1 V.any, List.getD (List.getD [a.enc, b.enc] (Int.toNat (1 : Int)) []) 2 V.any] = V.agg [.int .i64 b.kind, .str b.name, .slice 3 31 b.args] := b.cells
    simp only [hc, hd, rworthV, callK_ret1 h1, callK_ret1 h2]
    cases hy : rworthV ps ns b == 0 <;> cases hx : decide (rworthV ps ns b > rworthV ps ns a) <;> simp [grd, V.asInt, hx, hy]

def idx (v : ByteArray) : List ByteArray → Nat → Int
  | [], _ => -1
  | p :: ps, i => if v.toList == p.toList then i else idx v ps (i + 1)

theorem index_loop (call : CallF) (n : Nat) {ps : List ByteArray} (hb : ps.length < 2 ^ 61) (v : ByteArray) (σ : Sto) :
    ∀ (m i : Nat), i ≤ ps.length → ps.length - i < m → indexl0 call n m (strs ps) v ps.length i σ = some (.ret [(.int .i64 (idx v (ps.drop i) i), false)], σ)
  | 0, i, _, hm => by omega
  | m + 1, i, hi, hm => by
    show indexs0 call (indexl0 call n m) (strs ps) v ps.length i σ = _
    unfold indexs0
    rw [strs_length]
    by_cases hlt : i < ps.length
    · rw [d0, dlt hlt, Int.toNat_natCast, strs_get hlt, List.drop_eq_getElem_cons hlt]
      simp only [cond_true, Bool.and_self, grd, Option.bind_some, List.getD_cons_zero, V.asStr, idx]
      cases hc : v.toList == ps[i].toList with
      | true => simp
      | false =>
        simp only [cond_false, wrap_succ (show i < 2 ^ 61 by omega), Bool.false_eq_true, if_false]
        exact index_loop call n hb v σ m (i + 1) (by omega) (by omega)
    · rw [dnlt hlt, List.drop_eq_nil_of_le (by omega)]
      simp [idx]
theorem index_law {ps : List ByteArray} (hb : ps.length < 2 ^ 61) (v : ByteArray) (σ : Sto) :
    lim C 28 [(.slice 1 9 (strs ps), false), (.str v, false)] σ = some (.ret [(.int .i64 (idx v ps 0), false)], σ) :=
  index_lim (n := ps.length + 1) <| by
    have := index_loop (lim C) (ps.length + 1) hb v σ (ps.length + 1) 0 (by omega) (by omega)
    simpa [index, indexF, strs_length] using this
theorem contains_law {ps : List ByteArray} (hb : ps.length < 2 ^ 61) (v : ByteArray) (σ : Sto) :
    lim C 39 [(.slice 1 9 (strs ps), false), (.str v, false)] σ = some (.ret [(.bool (decide (idx v ps 0 ≥ 0)), false)], σ) :=
  contains_lim (n := 0) <| by
    simp only [contains, containsF, callK_ret1 (index_law hb v σ)]
    simp [V.asInt]

theorem pval_idx (s : ByteArray) : ∀ (ps : List ByteArray) (ns : List Int) (i : Nat), ps.length = ns.length →
    (idx s ps i = -1 ∧ pval s ps ns = 0) ∨ ∃ j, j < ns.length ∧ idx s ps i = ((i + j : Nat) : Int) ∧ ns[j]? = some (pval s ps ns)
  | [], [], _, _ => .inl ⟨rfl, rfl⟩
  | [], _ :: _, _, h => by simp at h
  | _ :: _, [], _, h => by simp at h
  | p :: ps, n :: ns, i, h => by
    by_cases hc : s.toList = p.toList
    · exact .inr ⟨0, by simp, by simp [idx, hc], by simp [pval, hc]⟩
    · have hc' : ¬ p.toList = s.toList := fun e => hc e.symm
      rcases pval_idx s ps ns (i + 1) (by simpa using h) with ⟨h1, h2⟩ | ⟨j, h1, h2, h3⟩
      · exact .inl ⟨by simp [idx, hc, h1], by simp [pval, hc', h2]⟩
      · refine .inr ⟨j + 1, by simp; omega, ?_, ?_⟩
        · simp only [idx, beq_iff_eq, hc, if_false, h2]; congr 1; omega
        · simp only [pval, beq_iff_eq, hc', if_false, List.getElem?_cons_succ]; exact h3

theorem worth_law {ps : List ByteArray} {ns : List Int} (hl : ps.length = ns.length) (hb : ps.length < 2 ^ 61) (σ : Sto) : ∀ (l : Lv) (b1 b2 : Bool),
    lim C 12 [(.agg [.int .i64 l.kind, .str l.name, .slice 3 31 l.args], false), (.slice 1 9 (strs ps), b1), (.slice 1 3 (ints ns), b2)] σ = some (.ret [(.int .i64 (rworthV ps ns l), false)], σ)
  | .zero, b1, b2 => worth_lim (n := 0) rfl
  | .param s, b1, b2 => worth_lim (n := 0) <| by
    have h1 := index_law hb s σ
    simp only [worth, worthF, Lv.kind, Lv.name, Lv.args, Lv.kids, List.map_nil, callK_ret1 h1, rworthV]
    rcases pval_idx s ps ns 0 hl with ⟨e1, e2⟩ | ⟨j, e1, e2, e3⟩
    · simp [e1, e2, V.asInt]
    · rw [e2, Nat.zero_add]
      obtain ⟨_, e4⟩ := List.getElem?_eq_some_iff.1 e3
      simp [V.asInt, grd, ints, e1, e4]
  | .succ l, b1, b2 => worth_lim (n := 0) <| by
    have h1 := worth_law hl hb σ l false false
    have hc : V.agg [List.getD (List.getD [l.enc] (Int.toNat (0 : Int)) []) 0 V.any, List.getD (List.getD [l.enc] (Int.toNat (0 : Int)) []) 1 V.any, List.getD (List.getD [l.enc] (Int.toNat (0 : Int)) []) 2 V.any] = V.agg [.int .i64 l.kind, .str l.name, .slice 3 31 l.args] := l.cells
    simp only [worth, worthF, Lv.kind, Lv.args, Lv.kids, List.map_cons, List.map_nil]
    simp only [hc, callK_ret1 h1]
    rfl
  | .max a b, b1, b2 => worth_lim (n := 0) <| by
    have h1 := worth_law hl hb σ a false false
    have h2 := worth_law hl hb σ b false false
    have hc : V.agg [List.getD (List.getD [a.enc, b.enc] (Int.toNat (0 : Int)) []) 0 V.any, List.getD (List.getD [a.enc, b.enc] (Int.toNat (0 : Int)) []) 1 V.any, List.getD (List.getD [a.enc, b.enc] (Int.toNat (0 : Int)) []) 2 V.any] = V.agg [.int .i64 a.kind, .str a.name, .slice 3 31 a.args] := a.cells
    have hd : V.agg [List.getD (List.getD [a.enc, b.enc] (Int.toNat (1 : Int)) []) 0 V.any, List.getD (List.getD [a.enc, b.enc] (Int.toNat (1 : Int)) []) 1 V.any, List.getD (List.getD [a.enc, b.enc] (Int.toNat (1 : Int)) []) 2 V.any] = V.agg [.int .i64 b.kind, .str b.name, .slice 3 31 b.args] := b.cells
    simp only [worth, worthF, Lv.kind, Lv.args, Lv.kids, List.map_cons, List.map_nil]
    simp only [hc, hd, rworthV, callK_ret1 h1, callK_ret1 h2]
    by_cases hx : rworthV ps ns a < rworthV ps ns b <;> simp [grd, V.asInt, hx]
  | .imax a b, b1, b2 => worth_lim (n := 0) <| by
    have h1 := worth_law hl hb σ a false false
    have h2 := worth_law hl hb σ b false false
    have hc : V.agg [List.getD (List.getD [a.enc, b.enc] (Int.toNat (0 : Int)) []) 0 V.any, List.getD (List.getD [a.enc, b.enc] (Int.toNat (0 : Int)) []) 1 V.any, List.getD (List.getD [a.enc, b.enc] (Int.toNat (0 : Int)) []) 2 V.any] = V.agg [.int .i64 a.kind, .str a.name, .slice 3 31 a.args] := a.cells
    have hd : V.agg [List.getD (List.getD [a.enc, b.enc] (Int.toNat (1 : Int)) []) 0 V.any, List.getD (List.getD [a.enc, b.enc] (Int.toNat (1 : Int)) []) 1 V.any, List.getD (List.getD [a.enc, b.enc] (Int.toNat (1 : Int)) []) 2 V.any] = V.agg [.int .i64 b.kind, .str b.name, .slice 3 31 b.args] := b.cells
    simp only [worth, worthF, Lv.kind, Lv.args, Lv.kids, List.map_cons, List.map_nil]
    simp only [hc, hd, rworthV, callK_ret1 h1, callK_ret1 h2]
    cases hy : rworthV ps ns b == 0 <;> by_cases hx : rworthV ps ns a < rworthV ps ns b <;> simp [grd, V.asInt, hx, hy]

def has (v : ByteArray) (ps : List ByteArray) : Bool := ps.any fun p => p.toList == v.toList
theorem among_loop (call : CallF) (n : Nat) {ps : List ByteArray} (hb : ps.length < 2 ^ 61) (v : ByteArray) (σ : Sto) :
    ∀ (m i : Nat), i ≤ ps.length → ps.length - i < m → amongl0 call n m v (strs ps) i σ = some (.ret [(.bool (has v (ps.drop i)), false)], σ)
  | 0, i, _, hm => by omega
  | m + 1, i, hi, hm => by
    show amongs0 call (amongl0 call n m) v (strs ps) i σ = _
    unfold amongs0
    rw [strs_length]
    by_cases hlt : i < ps.length
    · rw [d0, dlt hlt, Int.toNat_natCast, strs_get hlt, List.drop_eq_getElem_cons hlt]
      simp only [cond_true, Bool.and_self, grd, Option.bind_some, List.getD_cons_zero, V.asStr, has, List.any_cons]
      cases hc : ps[i].toList == v.toList with
      | true => simp
      | false =>
        simp only [cond_false, wrap_succ (show i < 2 ^ 61 by omega), Bool.false_or]
        exact among_loop call n hb v σ m (i + 1) (by omega) (by omega)
    · rw [dnlt hlt, List.drop_eq_nil_of_le (by omega)]
      simp [has]
theorem among_law {ps : List ByteArray} (hb : ps.length < 2 ^ 61) (v : ByteArray) (σ : Sto) :
    lim C 27 [(.str v, false), (.slice 1 9 (strs ps), false)] σ = some (.ret [(.bool (has v ps), false)], σ) :=
  among_lim (n := ps.length + 1) <| by
    have := among_loop (lim C) (ps.length + 1) hb v σ (ps.length + 1) 0 (by omega) (by omega)
    simpa [among, amongF] using this

theorem sameNames_loop (call : CallF) (n : Nat) {ps : List ByteArray} (hb : ps.length < 2 ^ 61) (σ : Sto) :
    ∀ (m i : Nat), i ≤ ps.length → ps.length - i < m → sameNamesl0 call n m (strs ps) (strs ps) i σ = some (.ret [(.bool true, false)], σ)
  | 0, i, _, hm => by omega
  | m + 1, i, hi, hm => by
    show sameNamess0 call (sameNamesl0 call n m) (strs ps) (strs ps) i σ = _
    unfold sameNamess0
    rw [strs_length]
    by_cases hlt : i < ps.length
    · rw [d0, dlt hlt, Int.toNat_natCast, strs_get hlt]
      simp only [cond_true, Bool.and_self, grd, Option.bind_some, List.getD_cons_zero, V.asStr, beq_self_eq_true, Bool.not_true, cond_false, wrap_succ (show i < 2 ^ 61 by omega)]
      exact sameNames_loop call n hb σ m (i + 1) (by omega) (by omega)
    · rw [dnlt hlt]; rfl
theorem sameNames_law {ps : List ByteArray} (hb : ps.length < 2 ^ 61) (σ : Sto) :
    lim C 18 [(.slice 1 9 (strs ps), false), (.slice 1 9 (strs ps), false)] σ = some (.ret [(.bool true, false)], σ) :=
  sameNames_lim (n := ps.length + 1) <| by
    have := sameNames_loop (lim C) (ps.length + 1) hb σ (ps.length + 1) 0 (by omega) (by omega)
    simpa [sameNames, sameNamesF] using this

theorem sameLevel_loop (call : CallF) (n : Nat) {L : List Lv} (hb : L.length < 2 ^ 61) (k : Int) (nm : ByteArray) (σ : Sto)
    (h : ∀ c ∈ L, call 22 [(.agg [.int .i64 c.kind, .str c.name, .slice 3 31 c.args], false), (.agg [.int .i64 c.kind, .str c.name, .slice 3 31 c.args], false)] σ = some (.ret [(.bool true, false)], σ)) :
    ∀ (m i : Nat), i ≤ L.length → L.length - i < m → sameLevell0 call n m i k nm (L.map Lv.enc) k nm (L.map Lv.enc) σ = some (.ret [(.bool true, false)], σ)
  | 0, i, _, hm => by omega
  | m + 1, i, hi, hm => by
    show sameLevels0 call (sameLevell0 call n m) i k nm (L.map Lv.enc) k nm (L.map Lv.enc) σ = _
    unfold sameLevels0
    rw [List.length_map]
    by_cases hlt : i < L.length
    · have hc := List.getElem?_eq_getElem hlt
      rw [d0, dlt hlt, kid_get hc, L[i].cells]
      simp only [cond_true, Bool.and_self, grd, Option.bind_some, callK_ret1 (h _ (List.getElem_mem hlt)), wrap_succ (show i < 2 ^ 61 by omega), List.getD_cons_zero, V.asBool, Bool.not_true, cond_false]
      exact sameLevel_loop call n hb k nm σ h m (i + 1) (by omega) (by omega)
    · rw [dnlt hlt]; rfl
theorem kids_few (l : Lv) : l.kids.length ≤ 2 := by cases l <;> simp [Lv.kids]
theorem sameLevel_law (σ : Sto) : ∀ (l : Lv),
    lim C 22 [(.agg [.int .i64 l.kind, .str l.name, .slice 3 31 l.args], false), (.agg [.int .i64 l.kind, .str l.name, .slice 3 31 l.args], false)] σ = some (.ret [(.bool true, false)], σ) :=
  Lv.ind fun l ih => sameLevel_lim (n := 4) <| by
    have hf := kids_few l
    have := sameLevel_loop (lim C) 4 (L := l.kids) (by omega) l.kind l.name σ ih 4 0 (by omega) (by omega)
    simpa [sameLevel, sameLevelF, Lv.args] using this
end Go.Ab.Mk
