/- What a context's tables must be: looked at by computation. -/
import Derived.Test.YtcpdcpgblcapeaaDoorAbGen
set_option linter.unusedSimpArgs false
set_option linter.unusedVariables false
set_option linter.deprecated false
namespace Go.Ab

def kcheck : TK → TypeDesc → Bool
  | .bool, .bool => true
  | .int k, .int k' => decide (k = k')
  | .string, .string => true
  | .pointer e, .pointer e' => e == e'
  | .slice e, .slice e' => e == e'
  | .array n e, .array n' e' => n == n' && e == e'
  | .struct fs, .struct fields => fields.toList.map (fun f => (f.offset, f.type)) == fs
  | .iface, .interface _ => true
  | .func, .func .. => true
  | .map k e, .map k' e' => k == k' && e == e'
  | .tuple _, .tuple _ => true
  | .other, .struct _ => false
  | .other, .array .. => false
  | .other, .interface _ => false
  | .other, _ => true
  | _, _ => false

theorem kcheck_ok {k : TK} {d : TypeDesc} (h : kcheck k d = true) : KOk k d := by
  unfold kcheck at h
  split at h <;> simp_all [KOk]

def tcheck (P : Program) (t : TypeId) (i : TI) : Bool :=
  match P.info? t with
  | none => false
  | some info => info.size == i.size && info.bytes == i.bytes &&
    (match i.kind with
     | .tuple _ => true
     | _ => match info.zero with
       | none => false
       | some z => z.cells.toList.length == i.zero.length && i.zero.length == i.size && (i.zero.zip z.cells.toList).all fun p => zmatch p.1 p.2) &&
    (match P.underlying t with | none => false | some d => kcheck i.kind d)

theorem tcheck_ok {P : Program} {t : TypeId} {i : TI} (h : tcheck P t i = true) : TOk P t i := by
  unfold tcheck at h
  split at h
  · simp at h
  · rename_i info hinfo
    simp only [Bool.and_eq_true, beq_iff_eq] at h
    obtain ⟨⟨⟨h1, h2⟩, h3⟩, h4⟩ := h
    refine ⟨⟨info, hinfo, h1, h2⟩, ?_, ?_⟩
    · split at h3
      · rename_i n hn; exact .inl ⟨n, hn⟩
      · split at h3
        · simp at h3
        · rename_i z hz
          simp only [Bool.and_eq_true, beq_iff_eq, List.all_eq_true] at h3
          obtain ⟨⟨g1, g2⟩, g3⟩ := h3
          refine .inr ⟨info, z, hinfo, hz, g1, g2, fun j v c hv hc => ?_⟩
          exact g3 (v, c) (List.mem_iff_getElem?.2 ⟨j, by rw [List.getElem?_zip_eq_some]; exact ⟨hv, hc⟩⟩)
    · split at h4
      · simp at h4
      · rename_i d hd
        exact ⟨d, hd, kcheck_ok h4⟩

theorem look_ok {P : Program} : ∀ {L : List (TypeId × TI)}, L.all (fun p => tcheck P p.1 p.2) = true → ∀ t i, look L t = some i → TOk P t i
  | [], _, t, i, h => by simp [look] at h
  | (u, j) :: rest, hl, t, i, h => by
    simp only [List.all_cons, Bool.and_eq_true] at hl
    simp only [look] at h
    cases hb : Nat.beq u t with
    | true =>
      rw [hb] at h
      have := Nat.eq_of_beq_eq_true hb
      subst this
      simp only [cond_true, Option.some.injEq] at h
      subst h
      exact tcheck_ok hl.1
    | false =>
      rw [hb] at h
      exact look_ok hl.2 t i h

/-- A table of functions. -/
def lookF : List (FuncId × FDef) → FuncId → Option FDef
  | [], _ => none
  | (t, i) :: rest, u => bif Nat.beq t u then some i else lookF rest u

theorem lookF_ok {P : Program} {Q : FuncId → FDef → Prop} : ∀ {L : List (FuncId × FDef)}, (∀ p ∈ L, Q p.1 p.2) → ∀ f d, lookF L f = some d → Q f d
  | [], _, f, d, h => by simp [lookF] at h
  | (u, j) :: rest, hl, f, d, h => by
    simp only [lookF] at h
    cases hb : Nat.beq u f with
    | true =>
      rw [hb] at h
      have := Nat.eq_of_beq_eq_true hb
      subst this
      simp only [cond_true, Option.some.injEq] at h
      subst h
      exact hl _ (List.mem_cons_self ..)
    | false =>
      rw [hb] at h
      exact lookF_ok (P := P) (fun p hp => hl p (List.mem_cons_of_mem _ hp)) f d h
end Go.Ab
