/- String of a strings.Builder that may hold nothing. -/
import Derived.Test.YtblgboigcpbidaaGreatDoorAbBl
set_option linter.unusedSimpArgs false
set_option linter.unusedVariables false
set_option linter.deprecated false
namespace Go.Ab
open Go.RowKit
def bldStringE (T e : TypeId) (args : List Cell) (σ : Sto) : Option Res :=
 match args with
 | [(.ptr t b 0, ow)] => match σ[b]? with
  | some [_, (.slice 1 e' [], true)] => if t = T ∧ e' = e then some (.ret [(.str ⟨#[]⟩, false)], σ) else none
  | _ => bldStringS T e [(.ptr t b 0, ow)] σ
 | _ => none
theorem bldStringE_of {T e t : TypeId} {b : Nat} {ow : Bool} {σ : Sto} {r : Res} (h : bldStringS T e [(.ptr t b 0, ow)] σ = some r) : bldStringE T e [(.ptr t b 0, ow)] σ = some r := by
 unfold bldStringE
 simp only
 split
 ·rename_i c0 e' hb
  simp [bldStringS, hb] at h
 ·exact h
section
variable {P : Program} {C : Ctx}
theorem bldStringE_ok {f : FuncId} {T e : TypeId} (hs : CallOk P C (fun g args σ => if g = f then bldStringS T e args σ else none)) (hcall : ∀ (args : Array Value) (w : World), (callFunc f args).run P w = .ok (.enter f args) w)
  (hstr : ∀ (b : Nat) (w : World) (sl : Value), w.cell? ⟨b, 1, none⟩ = some sl → (sl = .slice none 0 0 ∨ ∃ g cap cells, sl = .slice (some ⟨g, 0, none⟩) 0 cap ∧ w.shape? g = some (e, cells)) →
   Calls P f #[.pointer (some ⟨b, 0, none⟩)] w fun en w' => en = .returned (.string ⟨#[]⟩) ∧ Below w.heap.size w w') :
  CallOk P C (fun g args σ => if g = f then bldStringE T e args σ else none) := by
 intro g args σ r h
 simp only at h
 split at h
 case isFalse => simp at h
 rename_i hg
 subst hg
 unfold bldStringE at h
 split at h
 case h_2 => simp at h
 rename_i t b ow
 split at h
 case h_2 =>
  have := hs g [(.ptr t b 0, ow)] σ r
  simp only [if_true] at this
  exact this h
 rename_i c0 e' hb
 split at h
 case isFalse => simp at h
 rename_i hh
 obtain ⟨rfl, rfl⟩ := hh
 obtain rfl := Option.some.inj h
 refine ⟨hcall, fun G w vals hS hcl hlen hv => ?_⟩
 obtain ⟨x, rfl⟩ : ∃ x, vals = [x] := by
  match vals, hlen with
  | [x], _ => exact ⟨x, rfl⟩
 have hx := (hv 0 _ x rfl rfl).1
 simp only at hx
 cases hx with
 | ptr _ _ _ hbN hty =>
 obtain ⟨cv, el, g1, g2, g3, g4, g5⟩ := hS.blk b _ hb
 simp only [List.length_cons, List.length_nil] at g2
 obtain ⟨y, hy⟩ : ∃ y, cv[1]? = some y := ⟨cv[1], by simp [g2]⟩
 obtain ⟨hcr, _⟩ := g5 1 _ y rfl hy
 obtain ⟨hr, hown⟩ := hcr
 have hown := hown rfl
 have hc1 : w.cell? ⟨G.μ b, 1, none⟩ = some y := by
  simp only [World.cell?, g1]
  simpa using hy
 have hcase : y = .slice none 0 0 ∨ ∃ g cap cells, y = .slice (some ⟨g, 0, none⟩) 0 cap ∧ w.shape? g = some (e', cells) := by
  simp only at hr
  cases hr with
  | snil => exact .inl rfl
  | slice _ _ _ bb off cap cs r1 r2 r3 r4 r5 r6 r7 =>
   obtain ⟨o1, _, o3, o4, cv2, fr, o5, o6, o7⟩ := hown
   simp only at o1 o5
   subst o1
   exact .inr ⟨bb, cap, cv2.size, rfl, by simp [World.shape?, o5]⟩
 refine (hstr (G.μ b) w y hc1 hcase).mono fun en w' ⟨he, hw⟩ => ?_
 subst he
 obtain ⟨f1, f2⟩ := below_sinv hS hw
 refine ⟨G, f1, f2, [.string ⟨#[]⟩], rfl, by simp, fun i c x hc hx => ?_⟩
 match i with
 | 0 => simp at hc hx; subst hc; subst hx; exact ⟨.str _, fun ho => by simp at ho⟩
 | i + 1 => simp at hc
end
end Go.Ab
