/- The plain laws: substitution; a small number. -/
import Derived.Test.YtcpdcpgblcapeaaDoorLvC
set_option linter.unusedSimpArgs false
set_option linter.unusedVariables false
set_option linter.deprecated false
namespace Go.Ab.Mk
open Go.Proofs Go.Ab

def plv (s : ByteArray) : List ByteArray → List Lv → Lv
  | p :: ps, l :: ls => if p.toList == s.toList then l else plv s ps ls
  | _, _ => .param s
def substV (ps : List ByteArray) (ls : List Lv) : Lv → Lv
  | .zero => .zero
  | .succ l => .succ (substV ps ls l)
  | .max a b => .max (substV ps ls a) (substV ps ls b)
  | .imax a b => .imax (substV ps ls a) (substV ps ls b)
  | .param s => plv s ps ls
def encs (ls : List Lv) : List (List V) := ls.map Lv.enc
theorem substV_kids (ps : List ByteArray) (ls : List Lv) : ∀ (l : Lv), (∀ s, l ≠ .param s) → (substV ps ls l).kind = l.kind ∧ (substV ps ls l).name = l.name ∧ (substV ps ls l).kids = l.kids.map (substV ps ls)
  | .param s, h => absurd rfl (h s)
  | .zero, _ => ⟨rfl, rfl, rfl⟩
  | .succ _, _ => ⟨rfl, rfl, rfl⟩
  | .max .., _ => ⟨rfl, rfl, rfl⟩
  | .imax .., _ => ⟨rfl, rfl, rfl⟩
theorem plv_idx (s : ByteArray) : ∀ (ps : List ByteArray) (ls : List Lv) (i : Nat), ps.length = ls.length →
    (idx s ps i = -1 ∧ plv s ps ls = .param s) ∨ ∃ j, j < ls.length ∧ idx s ps i = ((i + j : Nat) : Int) ∧ ls[j]? = some (plv s ps ls)
  | [], [], _, _ => .inl ⟨rfl, rfl⟩
  | [], _ :: _, _, h => by simp at h
  | _ :: _, [], _, h => by simp at h
  | p :: ps, n :: ns, i, h => by
    by_cases hc : s.toList = p.toList
    · exact .inr ⟨0, by simp, by simp [idx, hc], by simp [plv, hc]⟩
    · have hc' : ¬ p.toList = s.toList := fun e => hc e.symm
      rcases plv_idx s ps ns (i + 1) (by simpa using h) with ⟨h1, h2⟩ | ⟨j, h1, h2, h3⟩
      · exact .inl ⟨by simp [idx, hc, h1], by simp [plv, hc', h2]⟩
      · refine .inr ⟨j + 1, by simp; omega, ?_, ?_⟩
        · simp only [idx, beq_iff_eq, hc, if_false, h2]; congr 1; omega
        · simp only [plv, beq_iff_eq, hc', if_false, List.getElem?_cons_succ]; exact h3
theorem fits_lv (l : Lv) : V.fits (.agg [.int .i64 l.kind, .str l.name, .slice 3 31 l.args]) true 3 = true := rfl
theorem cell_lv (l : Lv) : [V.cell (.agg [.int .i64 l.kind, .str l.name, .slice 3 31 l.args]) 0, V.cell (.agg [.int .i64 l.kind, .str l.name, .slice 3 31 l.args]) 1, V.cell (.agg [.int .i64 l.kind, .str l.name, .slice 3 31 l.args]) 2] = l.enc := by rw [l.enc_eq]; rfl

theorem subst_loop (call : CallF) (n : Nat) {L : List Lv} (hb : L.length < 2 ^ 33) (ps : List ByteArray) (ls : List Lv) (k0 : Int) (n0 : ByteArray) (a0 : List (List V)) (k : Int) (nm : ByteArray) (σ : Sto)
    (h : ∀ c ∈ L, call 20 [(.agg [.int .i64 c.kind, .str c.name, .slice 3 31 c.args], false), (.slice 1 9 (strs ps), false), (.slice 3 31 (encs ls), false)] σ =
      some (.ret [(.agg [.int .i64 (substV ps ls c).kind, .str (substV ps ls c).name, .slice 3 31 (substV ps ls c).args], false)], σ)) :
    ∀ (m i : Nat), i ≤ L.length → L.length - i < m → substl0 call n m (strs ps) (encs ls) (L.map Lv.enc) L.length i k0 n0 a0 k nm (((L.take i).map (substV ps ls)).map Lv.enc) σ =
      some (.ret [(.agg [.int .i64 k, .str nm, .slice 3 31 ((L.map (substV ps ls)).map Lv.enc)], false)], σ)
  | 0, i, _, hm => by omega
  | m + 1, i, hi, hm => by
    show substs0 call (substl0 call n m) (strs ps) (encs ls) (L.map Lv.enc) L.length i k0 n0 a0 k nm _ σ = _
    unfold substs0
    rw [List.length_map]
    by_cases hlt : i < L.length
    · have hc := List.getElem?_eq_getElem hlt
      have h1 := h _ (List.getElem_mem hlt)
      rw [d0, dlt hlt, kid_get hc, L[i].cells]
      simp only [cond_true, Bool.and_self, grd, Option.bind_some, callK_ret1 h1, wrap_succ (show i < 2 ^ 61 by omega), List.getD_cons_zero]
      rw [fits_lv, cell_lv, room_ok (by simp; omega)]
      simp only [cond_true, Bool.and_self, Option.bind_some]
      have := subst_loop call n hb ps ls k0 n0 a0 k nm σ h m (i + 1) (by omega) (by omega)
      rw [List.take_succ_eq_append_getElem hlt, List.map_append, List.map_append] at this
      exact this
    · rw [dnlt hlt, List.take_of_length_le (by omega)]
      rfl
theorem subst_run {ps : List ByteArray} {ls : List Lv} (hl : ps.length = ls.length) (hb : ps.length < 2 ^ 61) (σ : Sto)(l : Lv) (ih : ∀ c ∈ l.kids, lim C 20 [(.agg [.int .i64 c.kind, .str c.name, .slice 3 31 c.args], false), (.slice 1 9 (strs ps), false), (.slice 3 31 (encs ls), false)] σ =
      some (.ret [(.agg [.int .i64 (substV ps ls c).kind, .str (substV ps ls c).name, .slice 3 31 (substV ps ls c).args], false)], σ)) :
    subst (lim C) 4 l.kind l.name l.args (strs ps) (encs ls) σ = some (.ret [(.agg [.int .i64 (substV ps ls l).kind, .str (substV ps ls l).name, .slice 3 31 (substV ps ls l).args], false)], σ) := by
  by_cases hp : ∃ s, l = .param s
  · obtain ⟨s, rfl⟩ := hp
    have h1 := index_law hb s σ
    simp only [subst, substF, show ((Lv.param s).kind == (4 : Int)) = true from rfl, show (Lv.param s).name = s from rfl, cond_true, callK_ret1 h1, substV]
    rcases plv_idx s ps ls 0 hl with ⟨e1, e2⟩ | ⟨j, e1, e2, e3⟩
    · simp [e1, e2, V.asInt, Lv.kind, Lv.name, Lv.args, Lv.kids]
    · have hg := kid_get e3
      rw [Nat.zero_add] at e2
      simp only [e2, encs, List.getD_cons_zero, V.asInt, if_true, Option.bind_some, hg, Lv.cells, List.length_map, dlt e1, d0, ge_iff_le, cond_true, Bool.and_self, grd]
  · have hp : ∀ s, l ≠ .param s := fun s hs => hp ⟨s, hs⟩
    obtain ⟨e1, e2, e3⟩ := substV_kids ps ls l hp
    have := subst_loop (lim C) 4 (L := l.kids) (by have := kids_few l; omega) ps ls 0 (ByteArray.mk #[]) [] l.kind l.name σ ih 4 0 (by omega) (by have := kids_few l; omega)
    simp only [subst, substF, kind_ne hp, cond_false, e1, e2]
    simp only [Lv.args, e3, List.length_map]
    exact this

theorem subst_law {ps : List ByteArray} {ls : List Lv} (hl : ps.length = ls.length) (hb : ps.length < 2 ^ 61) (σ : Sto) : ∀ (l : Lv),
    lim C 20 [(.agg [.int .i64 l.kind, .str l.name, .slice 3 31 l.args], false), (.slice 1 9 (strs ps), false), (.slice 3 31 (encs ls), false)] σ =
      some (.ret [(.agg [.int .i64 (substV ps ls l).kind, .str (substV ps ls l).name, .slice 3 31 (substV ps ls l).args], false)], σ) :=
  Lv.ind fun l ih => subst_lim (subst_run hl hb σ l ih)
theorem subst_law2 {ps : List ByteArray} {ls : List Lv} (hl : ps.length = ls.length) (hb : ps.length < 2 ^ 61) (σ : Sto) (l : Lv) (b1 b2 : Bool) :
    lim C 20 [(.agg [.int .i64 l.kind, .str l.name, .slice 3 31 l.args], false), (.slice 1 9 (strs ps), b1), (.slice 3 31 (encs ls), b2)] σ =
      some (.ret [(.agg [.int .i64 (substV ps ls l).kind, .str (substV ps ls l).name, .slice 3 31 (substV ps ls l).args], false)], σ) :=
  subst_lim (subst_run hl hb σ l fun c _ => subst_law hl hb σ c)

theorem rsubst_loop0 (call : CallF) (n : Nat) {ps : List ByteArray} {ls : List Lv} (hl : ps.length = ls.length) (hb : ps.length < 2 ^ 61) (k : Int) (nm : ByteArray) (xs : List (List V)) (k0 : Int) (n0 : ByteArray) (a0 : List (List V)) (σ : Sto) (r : Lv) (hr : V.agg [.int .i64 k, .str nm, .slice 3 31 xs] = V.agg [.int .i64 (Lv.param nm).kind, .str (Lv.param nm).name, .slice 3 31 (Lv.param nm).args]) :
    ∀ (m i : Nat), i ≤ ps.length → ps.length - i < m → rsubstl0 call n m (strs ps) (encs ls) i k nm xs k0 n0 a0 σ =
      some (.ret [(.agg [.int .i64 (plv nm (ps.drop i) (ls.drop i)).kind, .str (plv nm (ps.drop i) (ls.drop i)).name, .slice 3 31 (plv nm (ps.drop i) (ls.drop i)).args], false)], σ)
  | 0, i, _, hm => by omega
  | m + 1, i, hi, hm => by
    show rsubsts0 call (rsubstl0 call n m) (strs ps) (encs ls) i k nm xs k0 n0 a0 σ = _
    unfold rsubsts0
    rw [strs_length]
    by_cases hlt : i < ps.length
    · have hlt2 : i < ls.length := by omega
      have hc := List.getElem?_eq_getElem hlt2
      rw [encs, kid_get hc, d0, dlt hlt, List.length_map, dlt hlt2, Int.toNat_natCast, strs_get hlt, List.drop_eq_getElem_cons hlt, drop_cons hc, ls[i].cells]
      simp only [cond_true, grd, Option.bind_some, List.getD_cons_zero, V.asStr, plv]
      cases hc : ps[i].toList == nm.toList with
      | true => simp
      | false =>
        simp only [cond_false, wrap_succ (show i < 2 ^ 61 by omega), Bool.false_eq_true, if_false, Bool.and_self, cond_true, Option.bind_some]
        exact rsubst_loop0 call n hl hb k nm xs k0 n0 a0 σ r hr m (i + 1) (by omega) (by omega)
    · rw [dnlt hlt, List.drop_eq_nil_of_le (by omega), hr]
      rfl
theorem rsubst_loop1 (call : CallF) (n : Nat) {L : List Lv} (hb : L.length < 2 ^ 33) (ps : List ByteArray) (ls : List Lv) (k1 : Int) (n1 : ByteArray) (k0 : Int) (n0 : ByteArray) (a0 : List (List V)) (k : Int) (nm : ByteArray) (σ : Sto)
    (h : ∀ c ∈ L, call 21 [(.agg [.int .i64 c.kind, .str c.name, .slice 3 31 c.args], false), (.slice 1 9 (strs ps), false), (.slice 3 31 (encs ls), false)] σ =
      some (.ret [(.agg [.int .i64 (substV ps ls c).kind, .str (substV ps ls c).name, .slice 3 31 (substV ps ls c).args], false)], σ)) :
    ∀ (m i : Nat), i ≤ L.length → L.length - i < m → rsubstl1 call n m (strs ps) (encs ls) i k1 n1 (L.map Lv.enc) k0 n0 a0 k nm (((L.take i).map (substV ps ls)).map Lv.enc) σ =
      some (.ret [(.agg [.int .i64 k, .str nm, .slice 3 31 ((L.map (substV ps ls)).map Lv.enc)], false)], σ)
  | 0, i, _, hm => by omega
  | m + 1, i, hi, hm => by
    show rsubsts1 call (rsubstl1 call n m) (strs ps) (encs ls) i k1 n1 (L.map Lv.enc) k0 n0 a0 k nm _ σ = _
    unfold rsubsts1
    rw [List.length_map]
    by_cases hlt : i < L.length
    · have hc := List.getElem?_eq_getElem hlt
      have h1 := h _ (List.getElem_mem hlt)
      rw [d0, dlt hlt, kid_get hc, L[i].cells]
      simp only [cond_true, Bool.and_self, grd, Option.bind_some, callK_ret1 h1, wrap_succ (show i < 2 ^ 61 by omega), List.getD_cons_zero]
      rw [fits_lv, cell_lv, room_ok (by simp; omega)]
      simp only [cond_true, Bool.and_self, Option.bind_some]
      have := rsubst_loop1 call n hb ps ls k1 n1 k0 n0 a0 k nm σ h m (i + 1) (by omega) (by omega)
      rw [List.take_succ_eq_append_getElem hlt, List.map_append, List.map_append] at this
      exact this
    · rw [dnlt hlt, List.take_of_length_le (by omega)]
      rfl
theorem rsubst_run {ps : List ByteArray} {ls : List Lv} (hl : ps.length = ls.length) (hb : ps.length < 2 ^ 61) (σ : Sto)(l : Lv) (ih : ∀ c ∈ l.kids, lim C 21 [(.agg [.int .i64 c.kind, .str c.name, .slice 3 31 c.args], false), (.slice 1 9 (strs ps), false), (.slice 3 31 (encs ls), false)] σ =
      some (.ret [(.agg [.int .i64 (substV ps ls c).kind, .str (substV ps ls c).name, .slice 3 31 (substV ps ls c).args], false)], σ)) :
    rsubst (lim C) (ps.length + 4) l.kind l.name l.args (strs ps) (encs ls) σ = some (.ret [(.agg [.int .i64 (substV ps ls l).kind, .str (substV ps ls l).name, .slice 3 31 (substV ps ls l).args], false)], σ) := by
  by_cases hp : ∃ s, l = .param s
  · obtain ⟨s, rfl⟩ := hp
    have := rsubst_loop0 (lim C) (ps.length + 4) hl hb 4 s [] 0 (ByteArray.mk #[]) [] σ .zero rfl (ps.length + 4) 0 (by omega) (by omega)
    simpa [rsubst, rsubstF, Lv.kind, Lv.name, Lv.args, Lv.kids, substV] using this
  · have hp : ∀ s, l ≠ .param s := fun s hs => hp ⟨s, hs⟩
    obtain ⟨e1, e2, e3⟩ := substV_kids ps ls l hp
    have := rsubst_loop1 (lim C) (ps.length + 4) (L := l.kids) (by have := kids_few l; omega) ps ls l.kind l.name 0 (ByteArray.mk #[]) [] l.kind l.name σ ih (ps.length + 4) 0 (by omega) (by have := kids_few l; omega)
    simp only [rsubst, rsubstF, kind_ne hp, cond_false, e1, e2]
    simp only [Lv.args, e3]
    exact this

theorem rsubst_law {ps : List ByteArray} {ls : List Lv} (hl : ps.length = ls.length) (hb : ps.length < 2 ^ 61) (σ : Sto) : ∀ (l : Lv),
    lim C 21 [(.agg [.int .i64 l.kind, .str l.name, .slice 3 31 l.args], false), (.slice 1 9 (strs ps), false), (.slice 3 31 (encs ls), false)] σ =
      some (.ret [(.agg [.int .i64 (substV ps ls l).kind, .str (substV ps ls l).name, .slice 3 31 (substV ps ls l).args], false)], σ) :=
  Lv.ind fun l ih => rsubst_lim (rsubst_run hl hb σ l ih)
theorem rsubst_law2 {ps : List ByteArray} {ls : List Lv} (hl : ps.length = ls.length) (hb : ps.length < 2 ^ 61) (σ : Sto) (l : Lv) (b1 b2 : Bool) :
    lim C 21 [(.agg [.int .i64 l.kind, .str l.name, .slice 3 31 l.args], false), (.slice 1 9 (strs ps), b1), (.slice 3 31 (encs ls), b2)] σ =
      some (.ret [(.agg [.int .i64 (substV ps ls l).kind, .str (substV ps ls l).name, .slice 3 31 (substV ps ls l).args], false)], σ) :=
  rsubst_lim (rsubst_run hl hb σ l fun c _ => rsubst_law hl hb σ c)

def limitV (n : Int) : Int := bif decide (n < 0) then Int.tmod (IntKind.wrap .i64 (0 - IntKind.wrap .i64 (n + 1))) 6 else Int.tmod n 6
theorem limit_law (n : Int) (σ : Sto) : lim C 11 [(.int .i64 n, false)] σ = some (.ret [(.int .i64 (limitV n), false)], σ) :=
  limit_lim (n := 0) <| by
    simp only [limit, limitF, limitV]
    cases decide (n < 0) <;> rfl
end Go.Ab.Mk
