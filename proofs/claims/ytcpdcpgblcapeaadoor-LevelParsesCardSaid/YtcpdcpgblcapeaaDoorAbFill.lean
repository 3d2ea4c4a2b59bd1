/- Literals: the parts laid into cells. -/
import Derived.Test.YtcpdcpgblcapeaaDoorAbAct
import Derived.Laws.Tables
set_option linter.unusedSimpArgs false
set_option linter.unusedVariables false
set_option linter.deprecated false
namespace Go.Ab

def CellsRel (G : Gh) (w : World) (cs : List V) (xs : List Value) : Prop := xs.length = cs.length ∧ ∀ (i : Nat) v x, cs[i]? = some v → xs[i]? = some x → Rel G w v x ∧ x.oneCell' = true

section
variable {P : Program} {C : Ctx} {G : Gh} {lam : Nat → Nat} {a : Act} {w : World} {st : St}

theorem foldl_set (off : Nat) (vs : List Value) : ∀ (k : Nat) (cells : Array Value), (vs.zipIdx k).foldl (fun cs (x : Value × Nat) => cs.setIfInBounds (off + x.2) x.1) cells = setA cells (off + k) vs := by
  induction vs with
  | nil => intro k cells; rfl
  | cons v vs ih => intro k cells; simp only [List.zipIdx_cons, List.foldl_cons, setA]; rw [ih]; rfl

theorem foldl_setA (off : Nat) (vs cells : Array Value) : vs.zipIdx.foldl (fun cs (x : Value × Nat) => cs.setIfInBounds (off + x.2) x.1) cells = setA cells off vs.toList := by
  rw [← Array.foldl_toList, Array.toList_zipIdx, foldl_set]; rfl

/-- The cells of a value that fits. -/
theorem cellsN_rel {v : V} {c : Value} {ag : Bool} {n : Nat} (h : Rel G w v c) (hf : v.fits ag n = true) : CellsRel G w (cellsN v ag n) c.cells.toList ∧ c.cells.size = n ∧ (cellsN v ag n).length = n := by
  rcases rel_fits h hf with ⟨rfl, cs, xs, rfl, rfl, h1, h2⟩ | ⟨rfl, rfl, h1⟩
  · cases h with
    | agg _ _ g1 g2 g3 =>
      simp only [cellsN, if_true, Value.cells]
      refine ⟨⟨by simp [h2], fun i v x hv hx => ?_⟩, by simp [h2], by simp⟩
      obtain ⟨hi, hv⟩ := List.getElem?_eq_some_iff.1 hv
      simp only [List.length_map, List.length_range] at hi
      simp only [List.getElem_map, List.getElem_range, V.cell, List.getD_eq_getElem?_getD] at hv
      have hlt : i < cs.length := by omega
      rw [List.getElem?_eq_getElem hlt] at hv
      simp only [Option.getD_some] at hv
      exact ⟨g3 i v x (by rw [List.getElem?_eq_getElem hlt, hv]) hx, g2 i x hx⟩
  · have hc : c.cells = #[c] := by cases c <;> simp_all [Value.cells, Value.oneCell']
    rw [hc]
    refine ⟨⟨rfl, fun i v' x hv hx => ?_⟩, rfl, rfl⟩
    match i with
    | 0 =>
      simp [cellsN] at hv hx
      subst hv; subst hx
      exact ⟨h, h1⟩
    | i + 1 => simp [cellsN] at hv

theorem CellsRel.splice {cs : List V} {xs : Array Value} {vs : List V} {ys : List Value} {off : Nat} (h : CellsRel G w cs xs.toList) (k : CellsRel G w vs ys) (hl : off + vs.length ≤ cs.length) :
    CellsRel G w (cs.take off ++ vs ++ cs.drop (off + vs.length)) (setA xs off ys).toList := by
  obtain ⟨h1, h2⟩ := h
  obtain ⟨k1, k2⟩ := k
  simp only [Array.length_toList] at h1
  refine ⟨by simp; omega, fun i v x hv hx => ?_⟩
  simp only [Array.getElem?_toList] at hx
  rw [setA_get _ _ _ _ (by omega)] at hx
  by_cases c1 : i < off
  · rw [if_neg (by omega)] at hx
    rw [List.append_assoc, List.getElem?_append_left (by simp; omega), List.getElem?_take_of_lt c1] at hv
    exact h2 i v x hv (by simpa using hx)
  · by_cases c2 : i < off + vs.length
    · rw [if_pos (by omega)] at hx
      rw [List.getElem?_append_left (by simp; omega), List.getElem?_append_right (by simp; omega)] at hv
      simp only [List.length_take, Nat.min_eq_left (show off ≤ cs.length by omega)] at hv
      exact k2 _ v x hv hx
    · rw [if_neg (by omega)] at hx
      rw [List.getElem?_append_right (by simp; omega), List.getElem?_drop] at hv
      simp only [List.length_append, List.length_take, Nat.min_eq_left (show off ≤ cs.length by omega)] at hv
      rw [show off + vs.length + (i - (off + vs.length)) = i by omega] at hv
      exact h2 i v x hv (by simpa using hx)

/-- Empty slices in it have no spare room. -/
def TightC (cs : List V) (xs : List Value) : Prop := ∀ (i k : Nat) (e : TypeId) (x : Value), cs[i]? = some (.slice k e []) → xs[i]? = some x → Tight x

theorem TightC.splice {cs : List V} {xs : Array Value} {vs : List V} {ys : List Value} {off : Nat} (h : TightC cs xs.toList) (hv : ∀ (i k : Nat) (e : TypeId), vs[i]? ≠ some (.slice k e [])) (hx : xs.size = cs.length) (hy : ys.length = vs.length) (hl : off + vs.length ≤ cs.length) :
    TightC (cs.take off ++ vs ++ cs.drop (off + vs.length)) (setA xs off ys).toList := by
  intro i k et x hc hx'
  simp only [Array.getElem?_toList] at hx'
  rw [setA_get _ _ _ _ (by omega)] at hx'
  by_cases c1 : i < off
  · rw [if_neg (by omega)] at hx'
    rw [List.append_assoc, List.getElem?_append_left (by simp; omega), List.getElem?_take_of_lt c1] at hc
    exact h i k et x hc (by simpa using hx')
  · by_cases c2 : i < off + vs.length
    · rw [List.getElem?_append_left (by simp; omega), List.getElem?_append_right (by simp; omega)] at hc
      exact absurd hc (hv _ k et)
    · rw [if_neg (by omega)] at hx'
      rw [List.getElem?_append_right (by simp; omega), List.getElem?_drop] at hc
      simp only [List.length_append, List.length_take, Nat.min_eq_left (show off ≤ cs.length by omega)] at hc
      rw [show off + vs.length + (i - (off + vs.length)) = i by omega] at hc
      exact h i k et x hc (by simpa using hx')

theorem plain_vk {regs : List RV} {t : TypeId} {x : Operand} {v : V} (h : (match opndT C regs 0 x with | .val v _ => v.plain | _ => false) = true) (hv : vk C regs t x = some v) : v.plain = true := by
  have hsame : opndT C regs t x = opndT C regs 0 x ∨ ∃ v' o, opndT C regs 0 x = .val v' o ∧ v'.plain = false := by
    cases x with
    | const c =>
      simp only [opndT]
      split
      · refine .inr ?_
        split
        · split <;> exact ⟨_, _, rfl, rfl⟩
        · exact ⟨_, _, rfl, rfl⟩
      · exact .inl rfl
      · exact .inl rfl
    | _ => exact .inl rfl
  rcases hsame with hs | ⟨v', o, hs, hp⟩
  · rw [← hs] at h
    unfold vk at hv
    split at hv
    · rename_i v' o hx
      obtain rfl := Option.some.inj hv
      rw [hx] at h
      exact h
    · simp at hv
  · rw [hs] at h; simp only at h; rw [hp] at h; simp at h

theorem plain_cells {v : V} {ag : Bool} {n : Nat} (hp : v.plain = true) (hf : v.fits ag n = true) (i k : Nat) (e : TypeId) : (cellsN v ag n)[i]? ≠ some (.slice k e []) := by
  cases ag with
  | true => cases v <;> simp_all [V.plain, V.fits]
  | false =>
    simp only [cellsN, Bool.false_eq_true, if_false]
    match i with
    | 0 => intro h; simp at h; subst h; simp [V.plain] at hp
    | i + 1 => simp

theorem fill_ok (h : Inv C.glob G lam a w st) (place : Nat → Option (Nat × Nat × TypeId)) (place' : Nat → Option (Nat × Nat)) (hp : ∀ i p, place i = some p → place' i = some (p.1, p.2.1)) :
    ∀ (parts : List (Nat × Operand)) (cs cs' : List V) (xs : Array Value), fillK C st.regs place cs parts = some cs' → CellsRel G w cs xs.toList →
      ∃ xs' : Array Value, Instr.fill place' xs (parts.map fun x => (x.1, a.eval x.2)) = some xs' ∧ CellsRel G w cs' xs'.toList ∧ cs'.length = cs.length ∧ (plainParts C st.regs parts = true → TightC cs xs.toList → TightC cs' xs'.toList)
  | [], cs, cs', xs, hf, hc => by
    simp only [fillK, Option.some.injEq] at hf
    subst hf
    exact ⟨xs, rfl, hc, rfl, fun _ h => h⟩
  | (i, x) :: rest, cs, cs', xs, hf, hc => by
    simp only [fillK, Option.bind_eq_some_iff] at hf
    obtain ⟨p, hp1, ti, ht, v, hv, u, hg, hf⟩ := hf
    have hg := grd_some hg
    simp only [Bool.and_eq_true, decide_eq_true_eq] at hg
    have hr := vk_rel h hv
    obtain ⟨k1, k2, k3⟩ := cellsN_rel hr hg.1
    have hlen := hc.1
    simp only [Array.length_toList] at hlen
    have hsp : CellsRel G w (cs.take p.1 ++ cellsN v ti.agg p.2.1 ++ cs.drop (p.1 + p.2.1)) (setA xs p.1 (a.eval x).cells.toList).toList := by
      have := CellsRel.splice (off := p.1) hc k1 (by rw [k3]; exact hg.2)
      rw [k3] at this
      exact this
    obtain ⟨xs', e1, e2, e3, e4⟩ := fill_ok h place place' hp rest _ cs' _ hf hsp
    refine ⟨xs', ?_, e2, ?_, fun hpl ht => ?_⟩
    · simp only [List.map_cons, Instr.fill, hp i p hp1]
      rw [if_neg (by simp [k2]; omega)]
      have := foldl_setA p.1 (a.eval x).cells xs
      rw [this]
      exact e1
    · rw [e3]
      simp [k3]
      omega
    · simp only [plainParts, List.all_cons, Bool.and_eq_true] at hpl
      refine e4 hpl.2 ?_
      have := TightC.splice (off := p.1) (vs := cellsN v ti.agg p.2.1) (ys := (a.eval x).cells.toList) ht (plain_cells (plain_vk hpl.1 hv) hg.1) hlen (by simp [k2, k3]) (by rw [k3]; exact hg.2)
      rw [k3] at this
      exact this

theorem tight_zmatch {k : Nat} {e : TypeId} {x : Value} (h : zmatch (.slice k e []) x = true) : Tight x := by
  generalize hv : (V.slice k e []) = v at h
  unfold zmatch at h
  split at h <;> first | exact rfl | (cases hv; done) | trivial | (simp at h)

theorem zero_rel {t : TypeId} {i : TI} (h : TOk P t i) (hk : ∀ n, i.kind ≠ .tuple n) (G : Gh) (w : World) : ∃ info z, P.info? t = some info ∧ info.zero = some z ∧ CellsRel G w i.zero z.cells.toList ∧ i.zero.length = i.size ∧ TightC i.zero z.cells.toList := by
  rcases h.zero with ⟨n, hn⟩ | ⟨info, z, h1, h2, h3, h4, h5⟩
  · exact absurd hn (hk n)
  · refine ⟨info, z, h1, h2, ⟨h3, fun j v x hv hx => ?_⟩, h4, fun j k et x hv hx => tight_zmatch (h5 j _ x hv hx)⟩
    obtain ⟨a1, _, a3⟩ := zmatch_rel (h5 j v x hv hx) G w
    exact ⟨a1, a3⟩

theorem parts_map (parts : Array (Nat × Operand)) (f : Operand → Value) : (parts.map fun (i, x) => (i, f x)).toList = parts.toList.map fun x => (x.1, f x.2) := by
  simp

end
end Go.Ab
