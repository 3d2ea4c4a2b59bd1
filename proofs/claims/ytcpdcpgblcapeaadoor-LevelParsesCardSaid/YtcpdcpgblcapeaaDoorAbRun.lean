/- Single operations of the model, run: what they come to on related values. -/
import Derived.Test.YtcpdcpgblcapeaaDoorAbRel
import Derived.Laws.Cells
set_option linter.unusedSimpArgs false
set_option linter.unusedVariables false
set_option linter.deprecated false
namespace Go.Ab

theorem add_plain (b o n : Nat) : (⟨b, o, none⟩ : Addr).add n = ⟨b, o + n, none⟩ := by unfold Addr.add; split <;> simp_all

def zmatch : V → Value → Bool
  | .bool a, .bool b => a == b
  | .int k n, .int k' n' => decide (k = k' ∧ n = n')
  | .str s, .string t => decide (s = t)
  | .nilp, .pointer none => true
  | .nils, .slice none 0 0 => true
  | .slice _ _ [], .slice none 0 0 => true
  | .nilFunc, .nilFunc => true
  | .nilIface, .nilIface => true
  | .any, c => c.oneCell'
  | _, _ => false

theorem zmatch_rel {v : V} {c : Value} (h : zmatch v c = true) (G : Gh) (w : World) : Rel G w v c ∧ (∀ p, Own G w p v c) ∧ c.oneCell' = true := by
  unfold zmatch at h
  split at h
  · simp at h; subst h; exact ⟨.bool _, fun _ => trivial, rfl⟩
  · simp at h; obtain ⟨rfl, rfl⟩ := h; exact ⟨.int _ _, fun _ => trivial, rfl⟩
  · simp at h; subst h; exact ⟨.str _, fun _ => trivial, rfl⟩
  · exact ⟨.nilp, fun _ => trivial, rfl⟩
  · exact ⟨.nils, fun _ => trivial, rfl⟩
  · exact ⟨.snil _ _, fun _ => trivial, rfl⟩
  · exact ⟨.nilFunc, fun _ => trivial, rfl⟩
  · exact ⟨.nilIface, fun _ => trivial, rfl⟩
  · exact ⟨.any _ h, fun _ => trivial, h⟩
  · simp at h

theorem ofVal_rel (c : Value) (h : ofVal c ≠ .any) (G : Gh) (w : World) : Rel G w (ofVal c) c ∧ ∀ p, Own G w p (ofVal c) c := by
  unfold ofVal at *
  split
  · exact ⟨.bool _, fun _ => trivial⟩
  · exact ⟨.int _ _, fun _ => trivial⟩
  · exact ⟨.str _, fun _ => trivial⟩
  · exact ⟨.nilp, fun _ => trivial⟩
  · exact ⟨.nils, fun _ => trivial⟩
  · exact ⟨.nilFunc, fun _ => trivial⟩
  · exact ⟨.nilIface, fun _ => trivial⟩
  · exact ⟨.func _ [] [] [] [] rfl rfl (by simp) (by simp), fun _ => trivial⟩
  · simp at h

def KOk : TK → TypeDesc → Prop
  | .bool, .bool => True
  | .int k, .int k' => k = k'
  | .string, .string => True
  | .pointer e, .pointer e' => e = e'
  | .slice e, .slice e' => e = e'
  | .array n e, .array n' e' => n = n' ∧ e = e'
  | .struct fs, .struct fields => fields.toList.map (fun f => (f.offset, f.type)) = fs
  | .iface, .interface _ => True
  | .func, .func .. => True
  | .map k e, .map k' e' => k = k' ∧ e = e'
  | .tuple _, .tuple _ => True
  | .other, .struct _ => False
  | .other, .array .. => False
  | .other, .interface _ => False
  | .other, _ => True
  | _, _ => False

structure TOk (P : Program) (t : TypeId) (i : TI) : Prop where
  info : ∃ info, P.info? t = some info ∧ info.size = i.size ∧ info.bytes = i.bytes
  zero : (∃ n, i.kind = .tuple n) ∨ ∃ info z, P.info? t = some info ∧ info.zero = some z ∧ z.cells.toList.length = i.zero.length ∧ i.zero.length = i.size ∧
    ∀ (j : Nat) v c, i.zero[j]? = some v → z.cells.toList[j]? = some c → zmatch v c = true
  desc : ∃ d, P.underlying t = some d ∧ KOk i.kind d

section
variable {P : Program} {t : TypeId} {i : TI} {w : World}

theorem run_typeInfo_of {info : TypeInfo} (h : P.info? t = some info) : (typeInfo t).run P w = .ok info w := by
  simp [typeInfo, h]
theorem run_sizeOf_of (h : TOk P t i) : (sizeOf t).run P w = .ok i.size w := by
  obtain ⟨info, h1, h2, _⟩ := h.info
  simp [sizeOf, run_typeInfo_of h1, h2]
theorem run_underlying_of {d : TypeDesc} (h : P.underlying t = some d) : (underlying t).run P w = .ok d w := by
  simp [underlying, h]
theorem run_isAgg_of (h : TOk P t i) : (isAgg t).run P w = .ok i.agg w := by
  obtain ⟨d, h1, h2⟩ := h.desc
  simp only [isAgg, Sem.run_bind, run_underlying_of h1, Result.andThen_ok]
  unfold TI.agg
  generalize i.kind = k at h2
  unfold KOk at h2
  split at h2 <;> first | rfl | exact h2.elim | (simp_all; done)

theorem kok_int {k : IntKind} {d : TypeDesc} (h : KOk (.int k) d) : d = .int k := by cases d <;> simp_all [KOk]
theorem kok_bool {d : TypeDesc} (h : KOk .bool d) : d = .bool := by cases d <;> simp_all [KOk]
theorem kok_string {d : TypeDesc} (h : KOk .string d) : d = .string := by cases d <;> simp_all [KOk]
theorem kok_pointer {e : TypeId} {d : TypeDesc} (h : KOk (.pointer e) d) : d = .pointer e := by cases d <;> simp_all [KOk]
theorem kok_slice {e : TypeId} {d : TypeDesc} (h : KOk (.slice e) d) : d = .slice e := by cases d <;> simp_all [KOk]
theorem kok_array {n : Nat} {e : TypeId} {d : TypeDesc} (h : KOk (.array n e) d) : d = .array n e := by cases d <;> simp_all [KOk]
theorem kok_struct {fs : List (Nat × TypeId)} {d : TypeDesc} (h : KOk (.struct fs) d) : ∃ fields, d = .struct fields ∧ fields.toList.map (fun f => (f.offset, f.type)) = fs := by cases d <;> simp_all [KOk]
theorem kok_iface {d : TypeDesc} (h : KOk .iface d) : ∃ ms, d = .interface ms := by cases d <;> simp_all [KOk]
end

def putCells (w : World) (b o : Nat) : List Value → World
  | [] => w
  | v :: vs => putCells (w.setCell ⟨b, o, none⟩ v) b (o + 1) vs

def setA (cv : Array Value) (o : Nat) : List Value → Array Value
  | [] => cv
  | v :: vs => setA (cv.setIfInBounds o v) (o + 1) vs

@[simp] theorem setA_size (cv : Array Value) (o : Nat) (vs : List Value) : (setA cv o vs).size = cv.size := by
  induction vs generalizing cv o with
  | nil => rfl
  | cons v vs ih => simp [setA, ih]

theorem setA_get (cv : Array Value) (o : Nat) (vs : List Value) (j : Nat) (h : o + vs.length ≤ cv.size) :
    (setA cv o vs)[j]? = if o ≤ j ∧ j < o + vs.length then vs[j - o]? else cv[j]? := by
  induction vs generalizing cv o with
  | nil => simp [setA]; intro h1 h2; omega
  | cons v vs ih =>
    simp only [List.length_cons] at h
    rw [setA, ih (cv.setIfInBounds o v) (o + 1) (by simp; omega)]
    by_cases h1 : o + 1 ≤ j ∧ j < o + 1 + vs.length
    · rw [if_pos h1, if_pos (by simp; omega), show j - o = (j - (o + 1)) + 1 by omega, List.getElem?_cons_succ]
    · rw [if_neg h1]
      by_cases h2 : j = o
      · subst h2
        rw [if_pos (by simp), Array.getElem?_setIfInBounds]
        simp; omega
      · rw [if_neg (by simp; omega), Array.getElem?_setIfInBounds, if_neg (by omega)]

theorem putCells_heap (w : World) (b o : Nat) (vs : List Value) (i : Nat) :
    (putCells w b o vs).heap[i]? = if i = b then (w.heap[i]?).map fun
      | .cells c elem frozen => .cells (setA c o vs) elem frozen
      | o => o else w.heap[i]? := by
  induction vs generalizing w o with
  | nil =>
    simp only [putCells, setA]
    split
    · cases w.heap[i]? with
      | none => rfl
      | some x => cases x <;> rfl
    · rfl
  | cons v vs ih =>
    simp only [putCells, setA]
    rw [ih]
    split
    · rename_i h
      subst h
      simp only [World.setCell, Array.getElem?_modify, if_true]
      cases w.heap[i]? with
      | none => rfl
      | some x => cases x <;> rfl
    · rename_i h
      simp only [World.setCell, Array.getElem?_modify]
      rw [if_neg (by omega)]

theorem putCells_rest (w : World) (b o : Nat) (vs : List Value) :
    (putCells w b o vs).heap.size = w.heap.size ∧ (putCells w b o vs).os = w.os ∧ (putCells w b o vs).tape = w.tape ∧ (putCells w b o vs).output = w.output := by
  induction vs generalizing w o with
  | nil => exact ⟨rfl, rfl, rfl, rfl⟩
  | cons v vs ih =>
    obtain ⟨h1, h2, h3, h4⟩ := ih (w.setCell ⟨b, o, none⟩ v) (o + 1)
    exact ⟨by simp only [putCells]; rw [h1]; simp, h2, h3, h4⟩

theorem cell?_of_heap {w : World} {b : Nat} {cv : Array Value} {el : TypeId} {fr : Nat × Nat} (h : w.heap[b]? = some (.cells cv el fr)) (o : Nat) : w.cell? ⟨b, o, none⟩ = cv[o]? := by
  simp [World.cell?, h]
theorem frozen?_of_heap {w : World} {b : Nat} {cv : Array Value} {el : TypeId} {fr : Nat × Nat} (h : w.heap[b]? = some (.cells cv el fr)) (o : Nat) (hf : fr.2 ≤ o) : w.frozen? ⟨b, o, none⟩ = false := by
  obtain ⟨lo, hi⟩ := fr
  simp only [World.frozen?, h]
  simp only at hf
  simp; omega

theorem run_storeCells_plain {P : Program} (vs : List Value) : ∀ (w : World) (b o k : Nat) (cv : Array Value) (el : TypeId) (fr : Nat × Nat), w.heap[b]? = some (.cells cv el fr) → o + k + vs.length ≤ cv.size → fr.2 ≤ o + k →
    (∀ v, v ∈ vs → v.oneCell' = true) → (storeCells ⟨b, o, none⟩ vs k).run P w = .ok () (putCells w b (o + k) vs) := by
  induction vs with
  | nil => intro w b o k cv el fr _ _ _ _; simp [storeCells, putCells]
  | cons v vs ih =>
    intro w b o k cv el fr h hk hf hv
    simp only [List.length_cons] at hk
    have hc : w.cell? ⟨b, o + k, none⟩ = some (cv[o + k]'(by omega)) := by rw [cell?_of_heap h]; simp
    have hfr := frozen?_of_heap h (o + k) hf
    simp only [storeCells, add_plain, Sem.run_bind]
    rw [run_store _ _ _ _ _ (hv v (by simp)), hc]
    simp only [hfr, Bool.false_eq_true, if_false, Result.andThen_ok]
    rw [ih (w.setCell ⟨b, o + k, none⟩ v) b o (k + 1) (cv.setIfInBounds (o + k) v) el fr (by simp [World.setCell, Array.getElem?_modify, h]) (by simp; omega) (by omega) (fun x hx => hv x (by simp [hx]))]
    rfl

section
variable {P : Program} {t : TypeId} {i : TI} {w : World}

theorem run_loadVar_of (h : TOk P t i) (b o : Nat) (cs : List Value) (hl : cs.length = i.size) (hc : ∀ (j : Nat) c, cs[j]? = some c → w.cell? ⟨b, o + j, none⟩ = some c) (hs : i.agg = false → i.size = 1) :
    (loadVar t ⟨b, o, none⟩).run P w = .ok (if i.agg then .agg cs.toArray else cs.headD undef) w := by
  simp only [loadVar, Sem.run_bind, run_isAgg_of h, Result.andThen_ok, Sem.run_ite]
  cases hi : i.agg with
  | true =>
    simp only [if_true, Sem.run_bind, run_sizeOf_of h, Result.andThen_ok]
    rw [← hl, run_loadCells_list w ⟨b, o, none⟩ cs (fun j v hj => by rw [add_plain]; exact hc j v hj)]
    simp
  | false =>
    have h1 := hs hi
    obtain ⟨c, rfl⟩ : ∃ c, cs = [c] := by
      match cs, hl.trans h1 with
      | [c], _ => exact ⟨c, rfl⟩
    have := hc 0 c rfl
    simp only [Nat.add_zero] at this
    simp [run_load, this]
end
end Go.Ab
