/- AbMq1: printed by program: functions of the program as plain Lean, and the equations. -/
import Derived.Test.YtifoglinlcfelaaDoorLvM11
import Derived.Test.YtifoglinlcfelaaDoorAbMa1
import Derived.Test.YtifoglinlcfelaaDoorAbBl
import Derived.Test.YtifoglinlcfelaaDoorProg
import Derived.Test.YtifoglinlcfelaaDoorAbMp
import Derived.WalkKit
import Derived.Defers
import Derived.Recover
import Derived.Laws.Pointers
import Derived.Laws.Externs
import Derived.Test.YtifoglinlcfelaaDoorAbLim
import Derived.Test.YtifoglinlcfelaaDoorAbMk2
set_option linter.unusedSimpArgs false
set_option linter.unusedVariables false
set_option linter.deprecated false
section
namespace Go.Ab.Mk
open Go.Proofs Go.Ab Go.Proofs.Mk
theorem subst_lift (v : Tm) : ∀ (t : Tm) (k : Nat), substT v (liftT 1 t k) k = t
 | .var m, k => by
  simp only [liftT]
  by_cases h : k ≤ m
  ·rw [if_pos h]; simp only [substT]; rw [if_neg (by omega), if_pos (by omega)]; rfl
  ·rw [if_neg h]; simp only [substT]; rw [if_neg (by omega), if_neg (by omega)]
 | .sort l, k => rfl
 | .const s ls, k => rfl
 | .app a b, k => by simp only [liftT, substT, subst_lift v a, subst_lift v b]
 | .lam a b, k => by simp only [liftT, substT, subst_lift v a, subst_lift v b]
 | .pi a b, k => by simp only [liftT, substT, subst_lift v a, subst_lift v b]
 | .letin a b c, k => by simp only [liftT, substT, subst_lift v a, subst_lift v b, subst_lift v c]
theorem applyT_snoc : ∀ (L : List Tm) (f b : Tm), applyT f (L ++ [b]) = .app (applyT f L) b
 | [], f, b => rfl
 | a :: L, f, b => applyT_snoc L (.app f a) b
theorem apply_spine : ∀ t : Tm, applyT t.head t.spine = t
 | .var _ => rfl
 | .sort _ => rfl
 | .const .. => rfl
 | .app a b => by rw [Tm.head, Tm.spine, applyT_snoc, apply_spine a]
 | .lam .. => rfl
 | .pi .. => rfl
 | .letin .. => rfl
theorem lift_closed {c n : Nat} : ∀ (t : Tm) (d : Nat), anyT (pClosed n) t d = false → liftT c t (n + d) = t
 | .var m, d, h => by
  simp only [anyT, pClosed, Tm.kind, Tm.num, beq_self_eq_true, Bool.true_and] at h
  simp only [liftT]
  rw [if_neg (of_decide_eq_false h)]
 | .sort l, d, _ => rfl
 | .const s ls, d, _ => rfl
 | .app a b, d, h => by
  simp only [anyT, Bool.or_eq_false_iff] at h
  rw [liftT, lift_closed a d h.2.1, lift_closed b d h.2.2]
 | .lam a b, d, h => by
  simp only [anyT, Bool.or_eq_false_iff] at h
  rw [liftT, lift_closed a d h.2.1, show n + d + 1 = n + (d + 1) by omega, lift_closed b (d + 1) h.2.2]
 | .pi a b, d, h => by
  simp only [anyT, Bool.or_eq_false_iff] at h
  rw [liftT, lift_closed a d h.2.1, show n + d + 1 = n + (d + 1) by omega, lift_closed b (d + 1) h.2.2]
 | .letin a b x, d, h => by
  simp only [anyT, Bool.or_eq_false_iff] at h
  rw [liftT, lift_closed a d h.2.1, lift_closed b d h.2.2.1, show n + d + 1 = n + (d + 1) by omega, lift_closed x (d + 1) h.2.2.2]
theorem lift_lift {c k n : Nat} : ∀ (t : Tm) (j : Nat), liftT c (liftT k t j) (n + k + j) = liftT k (liftT c t (n + j)) j
 | .var m, j => by
  simp only [liftT]
  by_cases h1 : j ≤ m
  ·rw [if_pos h1]
   by_cases h2 : n + j ≤ m
   ·rw [if_pos h2]; simp only [liftT]; rw [if_pos (by omega), if_pos (by omega)]; congr 1; omega
   ·rw [if_neg h2]; simp only [liftT]; rw [if_neg (by omega), if_pos h1]
  ·rw [if_neg h1, if_neg (by omega)]; simp only [liftT]; rw [if_neg (by omega), if_neg h1]
 | .sort l, j => rfl
 | .const s ls, j => rfl
 | .app a b, j => by simp only [liftT, lift_lift a, lift_lift b]
 | .lam a b, j => by simp only [liftT, lift_lift a]; rw [show n + k + j + 1 = n + k + (j + 1) by omega, lift_lift b, show n + (j + 1) = n + j + 1 by omega]
 | .pi a b, j => by simp only [liftT, lift_lift a]; rw [show n + k + j + 1 = n + k + (j + 1) by omega, lift_lift b, show n + (j + 1) = n + j + 1 by omega]
 | .letin a b x, j => by simp only [liftT, lift_lift a, lift_lift b]; rw [show n + k + j + 1 = n + k + (j + 1) by omega, lift_lift x, show n + (j + 1) = n + j + 1 by omega]
theorem lift_subst {c n : Nat} (v : Tm) : ∀ (t : Tm) (k : Nat), liftT c (substT v t k) (n + k) = substT (liftT c v n) (liftT c t (n + k + 1)) k
 | .var m, k => by
  simp only [substT]
  by_cases h1 : m = k
  ·subst h1
   rw [if_pos rfl]
   have := lift_lift (c := c) (k := m) (n := n) v 0
   rw [Nat.add_zero, Nat.add_zero] at this
   rw [this, liftT, if_neg (by omega)]
   simp only [substT, if_true]
  ·rw [if_neg h1]
   by_cases h2 : k < m
   ·rw [if_pos h2]
    simp only [liftT]
    by_cases h3 : n + k + 1 ≤ m
    ·rw [if_pos (by omega), if_pos h3]; simp only [substT]; rw [if_neg (by omega), if_pos (by omega)]; congr 1; omega
    ·rw [if_neg (by omega), if_neg h3]; simp only [substT]; rw [if_neg h1, if_pos h2]
   ·rw [if_neg h2]
    simp only [liftT]
    rw [if_neg (by omega), if_neg (by omega)]
    simp only [substT]
    rw [if_neg h1, if_neg h2]
 | .sort l, k => rfl
 | .const s ls, k => rfl
 | .app a b, k => by simp only [substT, liftT, lift_subst v a, lift_subst v b]
 | .lam a b, k => by simp only [substT, liftT, lift_subst v a]; rw [show n + k + 1 = n + (k + 1) by omega, lift_subst v b]
 | .pi a b, k => by simp only [substT, liftT, lift_subst v a]; rw [show n + k + 1 = n + (k + 1) by omega, lift_subst v b]
 | .letin a b x, k => by simp only [substT, liftT, lift_subst v a, lift_subst v b]; rw [show n + k + 1 = n + (k + 1) by omega, lift_subst v x]
theorem lift_wd (n : Nat) : ∀ (t : Tm) (k : Nat), (liftT n t k).wide = t.wide ∧ (liftT n t k).depth = t.depth ∧ (liftT n t k).top ≤ t.top + n ∧ (liftT n t k).all = t.all
 | .var m, k => by simp only [liftT]; split <;> simp [Tm.wide, Tm.depth, Tm.top, Tm.all]
 | .sort l, k => ⟨rfl, rfl, by simp [liftT, Tm.top], rfl⟩
 | .const s ls, k => ⟨rfl, rfl, by simp [liftT, Tm.top], rfl⟩
 | .app a b, k => by
  obtain ⟨a1, a2, a3, a4⟩ := lift_wd n a k
  obtain ⟨b1, b2, b3, b4⟩ := lift_wd n b k
  simp only [liftT, Tm.wide, Tm.depth, Tm.top, Tm.all, a1, a2, a4, b1, b2, b4, true_and, and_true]
  omega
 | .lam a b, k => by
  obtain ⟨a1, a2, a3, a4⟩ := lift_wd n a k
  obtain ⟨b1, b2, b3, b4⟩ := lift_wd n b (k + 1)
  simp only [liftT, Tm.wide, Tm.depth, Tm.top, Tm.all, a1, a2, a4, b1, b2, b4, true_and, and_true]
  omega
 | .pi a b, k => by
  obtain ⟨a1, a2, a3, a4⟩ := lift_wd n a k
  obtain ⟨b1, b2, b3, b4⟩ := lift_wd n b (k + 1)
  simp only [liftT, Tm.wide, Tm.depth, Tm.top, Tm.all, a1, a2, a4, b1, b2, b4, true_and, and_true]
  omega
 | .letin a b x, k => by
  obtain ⟨a1, a2, a3, a4⟩ := lift_wd n a k
  obtain ⟨b1, b2, b3, b4⟩ := lift_wd n b k
  obtain ⟨c1, c2, c3, c4⟩ := lift_wd n x (k + 1)
  simp only [liftT, Tm.wide, Tm.depth, Tm.top, Tm.all, a1, a2, a4, b1, b2, b4, c1, c2, c4, true_and, and_true]
  omega
theorem subst_wd (v : Tm) : ∀ (t : Tm) (k : Nat), (substT v t k).wide ≤ t.wide + v.wide ∧ (substT v t k).depth ≤ t.depth + v.depth ∧ (substT v t k).top ≤ t.top + v.top + k + t.depth ∧ ∀ l ∈ (substT v t k).all, l ∈ t.all ∨ l ∈ v.all
 | .var m, k => by
  simp only [substT]
  obtain ⟨a1, a2, a3, a4⟩ := lift_wd k v 0
  split
  ·rw [a1, a2, a4]
   exact ⟨by omega, by omega, by simp only [Tm.top, Tm.depth]; omega, fun l hl => .inr hl⟩
  ·split
   ·exact ⟨by simp only [Tm.wide]; omega, by simp [Tm.depth], by simp only [Tm.top]; omega, fun l hl => by simp [Tm.all] at hl⟩
   ·exact ⟨by simp only [Tm.wide]; omega, by simp [Tm.depth], by simp only [Tm.top]; omega, fun l hl => by simp [Tm.all] at hl⟩
 | .sort l, k => ⟨by simp only [substT]; omega, by simp [substT, Tm.depth], by simp [substT, Tm.top], fun l hl => .inl hl⟩
 | .const s ls, k => ⟨by simp only [substT]; omega, by simp [substT, Tm.depth], by simp [substT, Tm.top], fun l hl => .inl hl⟩
 | .app a b, k => by
  obtain ⟨a1, a2, a3, a4⟩ := subst_wd v a k
  obtain ⟨b1, b2, b3, b4⟩ := subst_wd v b k
  simp only [substT, Tm.wide, Tm.depth, Tm.top, Tm.all, List.mem_append]
  refine ⟨by omega, by omega, by omega, fun l hl => ?_⟩
  rcases hl with hl | hl
  ·rcases a4 l hl with h | h <;> simp [h]
  ·rcases b4 l hl with h | h <;> simp [h]
 | .lam a b, k => by
  obtain ⟨a1, a2, a3, a4⟩ := subst_wd v a k
  obtain ⟨b1, b2, b3, b4⟩ := subst_wd v b (k + 1)
  simp only [substT, Tm.wide, Tm.depth, Tm.top, Tm.all, List.mem_append]
  refine ⟨by omega, by omega, by omega, fun l hl => ?_⟩
  rcases hl with hl | hl
  ·rcases a4 l hl with h | h <;> simp [h]
  ·rcases b4 l hl with h | h <;> simp [h]
 | .pi a b, k => by
  obtain ⟨a1, a2, a3, a4⟩ := subst_wd v a k
  obtain ⟨b1, b2, b3, b4⟩ := subst_wd v b (k + 1)
  simp only [substT, Tm.wide, Tm.depth, Tm.top, Tm.all, List.mem_append]
  refine ⟨by omega, by omega, by omega, fun l hl => ?_⟩
  rcases hl with hl | hl
  ·rcases a4 l hl with h | h <;> simp [h]
  ·rcases b4 l hl with h | h <;> simp [h]
 | .letin a b x, k => by
  obtain ⟨a1, a2, a3, a4⟩ := subst_wd v a k
  obtain ⟨b1, b2, b3, b4⟩ := subst_wd v b k
  obtain ⟨c1, c2, c3, c4⟩ := subst_wd v x (k + 1)
  simp only [substT, Tm.wide, Tm.depth, Tm.top, Tm.all, List.mem_append]
  refine ⟨by omega, by omega, by omega, fun l hl => ?_⟩
  rcases hl with hl | hl | hl
  ·rcases a4 l hl with h | h <;> simp [h]
  ·rcases b4 l hl with h | h <;> simp [h]
  ·rcases c4 l hl with h | h <;> simp [h]
theorem lift_names (n : Nat) : ∀ (t : Tm) (k : Nat), (liftT n t k).names = t.names
 | .var m, k => by simp only [liftT]; split <;> rfl
 | .sort l, k => rfl
 | .const s ls, k => rfl
 | .app a b, k => by simp only [liftT, Tm.names, lift_names n a, lift_names n b]
 | .lam a b, k => by simp only [liftT, Tm.names, lift_names n a, lift_names n b]
 | .pi a b, k => by simp only [liftT, Tm.names, lift_names n a, lift_names n b]
 | .letin a b c, k => by simp only [liftT, Tm.names, lift_names n a, lift_names n b, lift_names n c]
theorem subst_names (v : Tm) : ∀ (t : Tm) (k : Nat), ∀ x ∈ (substT v t k).names, x ∈ t.names ∨ x ∈ v.names
 | .var m, k, x, h => by
  simp only [substT] at h
  split at h
  ·rw [lift_names] at h; exact .inr h
  ·split at h <;> simp [Tm.names] at h
 | .sort l, k, x, h => .inl h
 | .const s ls, k, x, h => .inl h
 | .app a b, k, x, h => by
  simp only [substT, Tm.names, List.mem_append] at h ⊢
  rcases h with h | h
  ·rcases subst_names v a k x h with h | h <;> simp [h]
  ·rcases subst_names v b k x h with h | h <;> simp [h]
 | .lam a b, k, x, h => by
  simp only [substT, Tm.names, List.mem_append] at h ⊢
  rcases h with h | h
  ·rcases subst_names v a k x h with h | h <;> simp [h]
  ·rcases subst_names v b (k + 1) x h with h | h <;> simp [h]
 | .pi a b, k, x, h => by
  simp only [substT, Tm.names, List.mem_append] at h ⊢
  rcases h with h | h
  ·rcases subst_names v a k x h with h | h <;> simp [h]
  ·rcases subst_names v b (k + 1) x h with h | h <;> simp [h]
 | .letin a b c, k, x, h => by
  simp only [substT, Tm.names, List.mem_append] at h ⊢
  rcases h with h | h | h
  ·rcases subst_names v a k x h with h | h <;> simp [h]
  ·rcases subst_names v b k x h with h | h <;> simp [h]
  ·rcases subst_names v c (k + 1) x h with h | h <;> simp [h]
def sizeL (ls : List Lv) : Nat := (ls.map Lv.size).sum
def Tm.parts : Tm → Nat
 | .var _ => 1
 | .sort l => 1 + l.size
 | .const _ ls => 1 + sizeL ls
 | .app a b => 1 + a.parts + b.parts
 | .lam a b => 1 + a.parts + b.parts
 | .pi a b => 1 + a.parts + b.parts
 | .letin a b c => 1 + a.parts + b.parts + c.parts
def partsL (L : List Tm) : Nat := (L.map Tm.parts).sum
theorem parts_node (t : Tm) : t.parts = 1 + sizeL t.lvs + partsL t.kids := by cases t <;> simp [Tm.parts, Tm.lvs, Tm.kids, sizeL, partsL] <;> omega
def usesT : Tm → Nat → Nat
 | .var m, k => if m = k then 1 else 0
 | .sort _, _ => 0
 | .const .., _ => 0
 | .app a b, k => usesT a k + usesT b k
 | .lam a b, k => usesT a k + usesT b (k + 1)
 | .pi a b, k => usesT a k + usesT b (k + 1)
 | .letin a b c, k => usesT a k + usesT b k + usesT c (k + 1)
theorem lift_parts (n : Nat) : ∀ (t : Tm) (k : Nat), (liftT n t k).parts = t.parts
 | .var m, k => by simp only [liftT]; split <;> rfl
 | .sort l, k => rfl
 | .const s ls, k => rfl
 | .app a b, k => by simp only [liftT, Tm.parts, lift_parts n a, lift_parts n b]
 | .lam a b, k => by simp only [liftT, Tm.parts, lift_parts n a, lift_parts n b]
 | .pi a b, k => by simp only [liftT, Tm.parts, lift_parts n a, lift_parts n b]
 | .letin a b c, k => by simp only [liftT, Tm.parts, lift_parts n a, lift_parts n b, lift_parts n c]
theorem subst_parts (v : Tm) : ∀ (t : Tm) (k : Nat), (substT v t k).parts ≤ t.parts + usesT t k * v.parts
 | .var m, k => by
  simp only [substT, usesT]
  split
  ·rw [lift_parts]; simp only [Tm.parts]; omega
  ·split <;> simp [Tm.parts]
 | .sort l, k => by simp [substT]
 | .const s ls, k => by simp [substT]
 | .app a b, k => by have := subst_parts v a k; have := subst_parts v b k; simp only [substT, Tm.parts, usesT, Nat.add_mul]; omega
 | .lam a b, k => by have := subst_parts v a k; have := subst_parts v b (k + 1); simp only [substT, Tm.parts, usesT, Nat.add_mul]; omega
 | .pi a b, k => by have := subst_parts v a k; have := subst_parts v b (k + 1); simp only [substT, Tm.parts, usesT, Nat.add_mul]; omega
 | .letin a b c, k => by have := subst_parts v a k; have := subst_parts v b k; have := subst_parts v c (k + 1); simp only [substT, Tm.parts, usesT, Nat.add_mul]; omega
theorem sizeL_mass : ∀ ls : List Lv, sizeL ls ≤ massL ls
 | [] => by simp [sizeL, massL]
 | l :: ls => by have := sizeL_mass ls; simp only [sizeL, massL, List.map_cons, List.sum_cons, Lv.mass] at this ⊢; omega
theorem parts_mass : ∀ t : Tm, t.parts ≤ t.mass
 | .var _ => by simp [Tm.parts, Tm.mass]
 | .sort l => by simp only [Tm.parts, Tm.mass, Lv.mass]; omega
 | .const s ls => by have := sizeL_mass ls; simp only [Tm.parts, Tm.mass]; omega
 | .app a b => by have := parts_mass a; have := parts_mass b; simp only [Tm.parts, Tm.mass]; omega
 | .lam a b => by have := parts_mass a; have := parts_mass b; simp only [Tm.parts, Tm.mass]; omega
 | .pi a b => by have := parts_mass a; have := parts_mass b; simp only [Tm.parts, Tm.mass]; omega
 | .letin a b c => by have := parts_mass a; have := parts_mass b; have := parts_mass c; simp only [Tm.parts, Tm.mass]; omega
theorem uses_mass : ∀ (t : Tm) (k : Nat), usesT t k ≤ t.mass
 | .var _, k => by simp only [usesT, Tm.mass]; split <;> omega
 | .sort l, k => by simp [usesT]
 | .const s ls, k => by simp [usesT]
 | .app a b, k => by have := uses_mass a k; have := uses_mass b k; simp only [usesT, Tm.mass]; omega
 | .lam a b, k => by have := uses_mass a k; have := uses_mass b (k + 1); simp only [usesT, Tm.mass]; omega
 | .pi a b, k => by have := uses_mass a k; have := uses_mass b (k + 1); simp only [usesT, Tm.mass]; omega
 | .letin a b c, k => by have := uses_mass a k; have := uses_mass b k; have := uses_mass c (k + 1); simp only [usesT, Tm.mass]; omega
theorem printL_size : ∀ l : Lv, (∀ x ∈ l.pars, NameOk x) → (printL l).length ≤ 48 * l.size
 | .zero, _ => by simp [printL, Lv.size]
 | .param x, h => by have := (h x (by simp [Lv.pars])).few; simp only [printL, Lv.size]; rw [Array.length_toList]; have e : x.data.size = x.size := rfl; omega
 | .succ l, h => by have := printL_size l h; simp only [printL, Lv.size, List.length_append, List.length_cons, List.length_nil]; omega
 | .max a b, h => by have := printL_size a fun z hz => h z (List.mem_append_left _ hz); have := printL_size b fun z hz => h z (List.mem_append_right _ hz); simp only [printL, Lv.size, List.length_append, List.length_cons, List.length_nil]; omega
 | .imax a b, h => by have := printL_size a fun z hz => h z (List.mem_append_left _ hz); have := printL_size b fun z hz => h z (List.mem_append_right _ hz); simp only [printL, Lv.size, List.length_append, List.length_cons, List.length_nil]; omega
theorem lvsL_size : ∀ ls : List Lv, (∀ l ∈ ls, ∀ x ∈ l.pars, NameOk x) → (lvsL ls).length ≤ 60 * sizeL ls
 | [], _ => by simp [lvsL]
 | l :: ls, h => by
  have h1 := lvsL_size ls fun m hm => h m (List.mem_cons_of_mem _ hm)
  have h2 := printL_size l (h l (List.mem_cons_self ..))
  have h3 := l.size_pos
  rw [lvsL_cons]
  simp only [List.length_cons, List.length_append, sizeL, List.map_cons, List.sum_cons] at h1 ⊢
  omega
theorem print_parts : ∀ {t : Tm}, t.top < 10 ^ 12 → Named t → (printT t).length ≤ 60 * t.parts
 | .var n, h, _ => by
  have := dec_digits 11 n h
  simp only [printT, Tm.parts, List.length_cons]; omega
 | .sort l, _, h => by
  have h1 := lvsL_size [l] (fun m hm => h.lv m hm)
  simp only [sizeL, List.map_cons, List.map_nil, List.sum_cons, List.sum_nil] at h1
  simp only [printT, Tm.parts, wsort, ksL, List.length_cons, List.length_append, List.length_nil, List.flatMap_nil]; omega
 | .const s ls, _, h => by
  have h1 := lvsL_size ls (fun m hm => h.lv m hm)
  have h2 := (h.names s (by simp [Tm.names])).few
  have h3 : s.data.toList.length = s.size := Array.length_toList
  simp only [printT, Tm.parts, wconst, ksL, List.length_cons, List.length_append, List.length_nil, List.flatMap_nil]; omega
 | .app a b, h, hn => by
  simp only [Tm.top] at h
  have h1 := print_parts (t := a) (by omega) ⟨fun l hl => hn.lv l (List.mem_append_left _ hl), fun l hl => hn.names l (List.mem_append_left _ hl)⟩
  have h2 := print_parts (t := b) (by omega) ⟨fun l hl => hn.lv l (List.mem_append_right _ hl), fun l hl => hn.names l (List.mem_append_right _ hl)⟩
  simp only [printT, Tm.parts, wapp, ksL, List.length_cons, List.length_append, List.length_nil, List.flatMap_cons, List.flatMap_nil]; omega
 | .lam a b, h, hn => by
  simp only [Tm.top] at h
  have h1 := print_parts (t := a) (by omega) ⟨fun l hl => hn.lv l (List.mem_append_left _ hl), fun l hl => hn.names l (List.mem_append_left _ hl)⟩
  have h2 := print_parts (t := b) (by omega) ⟨fun l hl => hn.lv l (List.mem_append_right _ hl), fun l hl => hn.names l (List.mem_append_right _ hl)⟩
  simp only [printT, Tm.parts, wlam, ksL, List.length_cons, List.length_append, List.length_nil, List.flatMap_cons, List.flatMap_nil]; omega
 | .pi a b, h, hn => by
  simp only [Tm.top] at h
  have h1 := print_parts (t := a) (by omega) ⟨fun l hl => hn.lv l (List.mem_append_left _ hl), fun l hl => hn.names l (List.mem_append_left _ hl)⟩
  have h2 := print_parts (t := b) (by omega) ⟨fun l hl => hn.lv l (List.mem_append_right _ hl), fun l hl => hn.names l (List.mem_append_right _ hl)⟩
  simp only [printT, Tm.parts, wpi, ksL, List.length_cons, List.length_append, List.length_nil, List.flatMap_cons, List.flatMap_nil]; omega
 | .letin a b c, h, hn => by
  simp only [Tm.top] at h
  have h1 := print_parts (t := a) (by omega) ⟨fun l hl => hn.lv l (List.mem_append_left _ hl), fun l hl => hn.names l (List.mem_append_left _ hl)⟩
  have h2 := print_parts (t := b) (by omega) ⟨fun l hl => hn.lv l (List.mem_append_right _ (List.mem_append_left _ hl)), fun l hl => hn.names l (List.mem_append_right _ (List.mem_append_left _ hl))⟩
  have h3 := print_parts (t := c) (by omega) ⟨fun l hl => hn.lv l (List.mem_append_right _ (List.mem_append_right _ hl)), fun l hl => hn.names l (List.mem_append_right _ (List.mem_append_right _ hl))⟩
  simp only [printT, Tm.parts, wlet, ksL, List.length_cons, List.length_append, List.length_nil, List.flatMap_cons, List.flatMap_nil]; omega
end Go.Ab.Mk
end
section
namespace Go.Ab.Mk
open Go.Proofs Go.Ab Go.Proofs.Mk
structure Cnt (most e r : Nat) : Prop where
 le : r ≤ e
 ok : e ≤ most → r = e
 more : most < e → most < r
theorem Cnt.add {most v c x : Nat} (h : Cnt (most - v) c x) (hv : v ≤ most) : Cnt most (v + c) (v + x) := ⟨by have := h.le; omega, fun g => by have := h.ok (by omega); omega, fun g => by have := h.more (by omega); omega⟩
theorem levelParts_loopE {N : Nat} {L : List Lv} (hb : L.length < 2 ^ 60) {most : Nat} (hm0 : most < 2 ^ 40) {k : Int} {nm : ByteArray} {σ : Sto} (hS : sizeL L < 2 ^ 40)
  (h : ∀ c ∈ L, ∀ most : Nat, most < 2 ^ 40 → ∃ n : Nat, Cnt most c.size n ∧ lim C 35 [(.agg [.int .i64 c.kind, .str c.name, .slice 3 74 c.args], false), (.int .i64 most, false)] σ = some (.ret [(.int .i64 n, false)], σ)) :
  ∀ (m i v : Nat), i ≤ L.length → L.length - i < m → v + sizeL (L.drop i) < 2 ^ 41 → ∃ n : Nat, Cnt most (v + sizeL (L.drop i)) n ∧ levelPartsl0 (lim C) N m most v i k nm (L.map Lv.enc) σ = some (.ret [(.int .i64 n, false)], σ)
 | 0, i, _, _, hm, _ => by omega
 | m + 1, i, v, hi, hm, hv => by
  show ∃ n : Nat, _ ∧ levelPartss0 (lim C) (levelPartsl0 (lim C) N m) _ _ _ _ _ _ σ = _
  unfold levelPartss0
  rw [List.length_map]
  by_cases hlt : i < L.length
  ·have hx : L.drop i = L[i] :: L.drop (i + 1) := List.drop_eq_getElem_cons hlt
   have hsz : sizeL (L.drop i) = L[i].size + sizeL (L.drop (i + 1)) := by rw [hx, sizeL, List.map_cons, List.sum_cons]; rfl
   rw [dlt hlt, cond_true]
   by_cases hvm : v ≤ most
   ·obtain ⟨x, c1, hx1⟩ := h _ (List.getElem_mem hlt) (most - v) (by omega)
    have hxl := c1.le
    obtain ⟨n, c2, hn⟩ := levelParts_loopE (N := N) hb hm0 hS h m (i + 1) (v + x) (by omega) (by omega) (by omega)
    refine ⟨n, ?_, ?_⟩
    ·rw [hsz]
     refine ⟨by have := c2.le; omega, fun g => ?_, fun g => ?_⟩
     ·have := c1.ok (by omega); have := c2.ok (by omega); omega
     ·by_cases g2 : v + L[i].size ≤ most
      ·have := c1.ok (by omega); exact c2.more (by omega)
      ·have := c1.more (by omega); exact c2.more (by omega)
    ·rw [show decide ((v : Int) ≤ (most : Int)) = true by simpa using hvm, cond_true, d0, lv_get hlt, lv_read]
     simp only [Bool.and_self, grd, cond_true, Option.bind_some]
     rw [show IntKind.wrap .i64 ((most : Int) - (v : Int)) = ((most - v : Nat) : Int) by rw [wrap_sm (by omega) (by omega)]; omega]
     refine (callK_ret1 hx1).trans ?_
     simp only [List.getD_cons_zero, V.asInt, if_true, Option.bind_some, wrap_succ (show i < 2 ^ 61 by omega)]
     rw [show IntKind.wrap .i64 ((v : Int) + (x : Int)) = ((v + x : Nat) : Int) from wrap_add (by omega)]
     exact hn
   ·rw [show decide ((v : Int) ≤ (most : Int)) = false by simp; omega]
    exact ⟨v, ⟨by omega, fun g => by omega, fun g => by omega⟩, rfl⟩
  ·rw [dnlt hlt, List.drop_eq_nil_of_le (by omega)]
   exact ⟨v, ⟨by simp [sizeL], fun g => by simp [sizeL], fun g => by simpa [sizeL] using g⟩, rfl⟩
theorem size_kids (l : Lv) : l.size = 1 + sizeL l.kids := by cases l <;> simp [Lv.size, Lv.kids, sizeL] <;> omega
theorem levelParts_lawE (σ : Sto) : ∀ (l : Lv), l.size < 2 ^ 40 → ∀ (most : Nat), most < 2 ^ 40 → ∃ n : Nat, Cnt most l.size n ∧ lim C 35 [(.agg [.int .i64 l.kind, .str l.name, .slice 3 74 l.args], false), (.int .i64 most, false)] σ = some (.ret [(.int .i64 n, false)], σ) :=
 Lv.ind fun l ih hl most hm => by
  have h2 := kids_few l
  have hk := size_kids l
  obtain ⟨n, c, hn⟩ := levelParts_loopE (N := 10) (L := l.kids) (by omega) hm (k := l.kind) (nm := l.name) (σ := σ) (by omega) (fun c hc => ih c hc (by have := Lv.kid_size hc; omega)) 10 0 1 (by omega) (by omega) (by rw [List.drop_zero]; omega)
  rw [List.drop_zero, ← hk] at c
  exact ⟨n, c, levelParts_lim (n := 10) hn⟩
theorem rparts_loopE1 {N : Nat} {L : List Tm} (hb : L.length < 2 ^ 60) {most : Nat} (hm0 : most < 2 ^ 40) {k a : Int} {nm : ByteArray} {t3 : List (List V)} {σ : Sto}
  (h : ∀ c ∈ L, ∀ most : Nat, most < 2 ^ 40 → ∃ n : Nat, Cnt most c.parts n ∧ lim C 17 [(c.val, false), (.int .i64 most, false)] σ = some (.ret [(.int .i64 n, false)], σ)) :
  ∀ (m i v : Nat), i ≤ L.length → L.length - i < m → v + partsL (L.drop i) < 2 ^ 41 → ∃ n : Nat, Cnt most (v + partsL (L.drop i)) n ∧ rpartsl1 (lim C) N m most v i k a nm t3 (L.map Tm.enc) σ = some (.ret [(.int .i64 n, false)], σ)
 | 0, i, _, _, hm, _ => by omega
 | m + 1, i, v, hi, hm, hv => by
  show ∃ n : Nat, _ ∧ rpartss1 (lim C) (rpartsl1 (lim C) N m) _ _ _ _ _ _ _ _ σ = _
  unfold rpartss1
  rw [List.length_map]
  by_cases hlt : i < L.length
  ·have hx : L.drop i = L[i] :: L.drop (i + 1) := List.drop_eq_getElem_cons hlt
   have hsz : partsL (L.drop i) = L[i].parts + partsL (L.drop (i + 1)) := by rw [hx, partsL, List.map_cons, List.sum_cons]; rfl
   rw [dlt hlt, cond_true]
   by_cases hvm : v ≤ most
   ·obtain ⟨x, c1, hx1⟩ := h _ (List.getElem_mem hlt) (most - v) (by omega)
    have hxl := c1.le
    obtain ⟨n, c2, hn⟩ := rparts_loopE1 (N := N) hb hm0 (k := k) (a := a) (nm := nm) (t3 := t3) h m (i + 1) (v + x) (by omega) (by omega) (by omega)
    refine ⟨n, ?_, ?_⟩
    ·rw [hsz]
     refine ⟨by have := c2.le; omega, fun g => ?_, fun g => ?_⟩
     ·have := c1.ok (by omega); have := c2.ok (by omega); omega
     ·by_cases g2 : v + L[i].parts ≤ most
      ·have := c1.ok (by omega); exact c2.more (by omega)
      ·have := c1.more (by omega); exact c2.more (by omega)
    ·rw [show decide ((v : Int) ≤ (most : Int)) = true by simpa using hvm, cond_true, d0, tm_get hlt, tm_readB]
     simp only [Bool.and_self, grd, cond_true, Option.bind_some]
     rw [show IntKind.wrap .i64 ((most : Int) - (v : Int)) = ((most - v : Nat) : Int) by rw [wrap_sm (by omega) (by omega)]; omega]
     refine (callK_ret1 hx1).trans ?_
     simp only [List.getD_cons_zero, V.asInt, if_true, Option.bind_some, wrap_succ (show i < 2 ^ 61 by omega)]
     rw [show IntKind.wrap .i64 ((v : Int) + (x : Int)) = ((v + x : Nat) : Int) from wrap_add (by omega)]
     exact hn
   ·rw [show decide ((v : Int) ≤ (most : Int)) = false by simp; omega]
    exact ⟨v, ⟨by omega, fun g => by omega, fun g => by omega⟩, rfl⟩
  ·rw [dnlt hlt, List.drop_eq_nil_of_le (by omega)]
   exact ⟨v, ⟨by simp [partsL], fun g => by simp [partsL], fun g => by simpa [partsL] using g⟩, rfl⟩
theorem rparts_loopE0 {N : Nat} {L : List Lv} (hb : L.length < 2 ^ 60) {most : Nat} (hm0 : most < 2 ^ 40) {k a : Int} {nm : ByteArray} {t4 : List (List V)} {σ : Sto} {B : Nat} (hS : ∀ l ∈ L, l.size < 2 ^ 40)
  (h : ∀ v : Nat, v + B < 2 ^ 41 → ∃ n : Nat, Cnt most (v + B) n ∧ rpartsl1 (lim C) N N most v 0 k a nm (L.map Lv.enc) t4 σ = some (.ret [(.int .i64 n, false)], σ)) :
  ∀ (m i v : Nat), i ≤ L.length → L.length - i < m → v + sizeL (L.drop i) + B < 2 ^ 41 → ∃ n : Nat, Cnt most (v + sizeL (L.drop i) + B) n ∧ rpartsl0 (lim C) N m most v i k a nm (L.map Lv.enc) t4 σ = some (.ret [(.int .i64 n, false)], σ)
 | 0, i, _, _, hm, _ => by omega
 | m + 1, i, v, hi, hm, hv => by
  show ∃ n : Nat, _ ∧ rpartss0 (lim C) (rpartsl1 (lim C) N N) (rpartsl0 (lim C) N m) _ _ _ _ _ _ _ _ σ = _
  unfold rpartss0
  rw [List.length_map]
  by_cases hlt : i < L.length
  ·have hx : L.drop i = L[i] :: L.drop (i + 1) := List.drop_eq_getElem_cons hlt
   have hsz : sizeL (L.drop i) = L[i].size + sizeL (L.drop (i + 1)) := by rw [hx, sizeL, List.map_cons, List.sum_cons]; rfl
   rw [dlt hlt, cond_true]
   by_cases hvm : v ≤ most
   ·obtain ⟨x, c1, hx1⟩ := levelParts_lawE σ L[i] (hS _ (List.getElem_mem hlt)) (most - v) (by omega)
    have hxl := c1.le
    obtain ⟨n, c2, hn⟩ := rparts_loopE0 (N := N) hb hm0 hS h m (i + 1) (v + x) (by omega) (by omega) (by omega)
    refine ⟨n, ?_, ?_⟩
    ·rw [hsz]
     refine ⟨by have := c2.le; omega, fun g => ?_, fun g => ?_⟩
     ·have := c1.ok (by omega); have := c2.ok (by omega); omega
     ·by_cases g2 : v + L[i].size ≤ most
      ·have := c1.ok (by omega); exact c2.more (by omega)
      ·have := c1.more (by omega); exact c2.more (by omega)
    ·rw [show decide ((v : Int) ≤ (most : Int)) = true by simpa using hvm, cond_true, d0, lv_get hlt, lv_read]
     simp only [Bool.and_self, grd, cond_true, Option.bind_some]
     rw [show IntKind.wrap .i64 ((most : Int) - (v : Int)) = ((most - v : Nat) : Int) by rw [wrap_sm (by omega) (by omega)]; omega]
     refine (callK_ret1 hx1).trans ?_
     simp only [List.getD_cons_zero, V.asInt, if_true, Option.bind_some, wrap_succ (show i < 2 ^ 61 by omega)]
     rw [show IntKind.wrap .i64 ((v : Int) + (x : Int)) = ((v + x : Nat) : Int) from wrap_add (by omega)]
     exact hn
   ·rw [show decide ((v : Int) ≤ (most : Int)) = false by simp; omega]
    obtain ⟨n, c, hn⟩ := h v (by omega)
    exact ⟨n, ⟨by have := c.le; omega, fun g => by omega, fun g => c.more (by omega)⟩, hn⟩
  ·rw [List.drop_eq_nil_of_le (by omega)] at hv ⊢
   rw [dnlt hlt]
   have e : sizeL [] = 0 := rfl
   rw [e] at hv ⊢
   exact h v hv
theorem rparts_lawE (σ : Sto) : ∀ (t : Tm), t.wide < 2 ^ 32 → t.parts < 2 ^ 40 → ∀ (most : Nat), most < 2 ^ 40 → ∃ n : Nat, Cnt most t.parts n ∧ lim C 17 [(t.val, false), (.int .i64 most, false)] σ = some (.ret [(.int .i64 n, false)], σ) :=
 Tm.ind fun t ih hw hp most hm => by
  have hk := kids_le t
  have hl := lvs_le t
  have hn := parts_node t
  have kp : ∀ (L : List Tm), ∀ c ∈ L, c.parts ≤ partsL L := by
   intro L
   induction L with
   | nil => intro c hc; simp at hc
   | cons x L ihL =>
    intro c hc
    simp only [partsL, List.map_cons, List.sum_cons] at ihL ⊢
    rcases List.mem_cons.1 hc with rfl | hc
    ·omega
    ·have := ihL c hc; omega
  have kl : ∀ (L : List Lv), ∀ c ∈ L, c.size ≤ sizeL L := by
   intro L
   induction L with
   | nil => intro c hc; simp at hc
   | cons x L ihL =>
    intro c hc
    simp only [sizeL, List.map_cons, List.sum_cons] at ihL ⊢
    rcases List.mem_cons.1 hc with rfl | hc
    ·omega
    ·have := ihL c hc; omega
  obtain ⟨n, c, hn'⟩ := rparts_loopE0 (N := t.wide + 10) (L := t.lvs) (by omega) hm (k := t.kind) (a := t.num) (nm := t.name) (t4 := t.args) (σ := σ) (B := partsL t.kids) (fun l hl => by have := kl _ l hl; omega)
   (fun v hv => by
    obtain ⟨n, c, h⟩ := rparts_loopE1 (N := t.wide + 10) (L := t.kids) (by omega) hm (k := t.kind) (a := t.num) (nm := t.name) (t3 := t.lvs.map Lv.enc) (σ := σ) (fun c hc => ih c hc (by have := kid_wide hc; omega) (by have := kp _ c hc; omega)) (t.wide + 10) 0 v (by omega) (by omega) (by rw [List.drop_zero]; exact hv)
    rw [List.drop_zero] at c
    exact ⟨n, c, h⟩) (t.wide + 10) 0 1 (by omega) (by omega) (by rw [List.drop_zero]; omega)
  rw [List.drop_zero, ← hn] at c
  exact ⟨n, c, rparts_lim (n := t.wide + 10) hn'⟩
def sumAt (q : Nat → Tm → Nat) : Nat → List Tm → Nat
 | _, [] => 0
 | i, c :: L => q i c + sumAt q (i + 1) L
theorem uses_node (t : Tm) (k : Nat) (h : t.kind ≠ 0) : usesT t k = sumAt (fun i c => usesT c (inn t i k)) 0 t.kids := by
 cases t with
 | var => exact absurd rfl h
 | sort => rfl
 | const => rfl
 | app a b => simp [usesT, Tm.kids, sumAt, inn, Tm.kind]
 | lam a b => simp [usesT, Tm.kids, sumAt, inn, Tm.kind]
 | pi a b => simp [usesT, Tm.kids, sumAt, inn, Tm.kind]
 | letin a b c => simp [usesT, Tm.kids, sumAt, inn, Tm.kind]; omega
theorem ruses_loopE {N : Nat} (t : Tm) {k : Nat} (hk : k < 2 ^ 60) {σ : Sto} {q : Nat → Tm → Nat} (hq : ∀ i c, q i c < 2 ^ 50)
  (h : ∀ (i : Nat) (hi : i < t.kids.length), lim C 18 [((t.kids[i]).val, false), (.int .i64 (inn t i k : Nat), false)] σ = some (.ret [(.int .i64 (q i t.kids[i] : Nat), false)], σ)) :
  ∀ (m i sum : Nat), i ≤ t.kids.length → t.kids.length - i < m → sum ≤ i * 2 ^ 50 →
   rusesl0 (lim C) N m k sum i t.kind t.num t.name (t.lvs.map Lv.enc) (t.kids.map Tm.enc) σ = some (.ret [(.int .i64 ((sum + sumAt q i (t.kids.drop i) : Nat) : Int), false)], σ)
 | 0, i, _, _, hm, _ => by omega
 | m + 1, i, sum, hi, hm, hs => by
  show rusess0 (lim C) (rusesl0 (lim C) N m) _ _ _ _ _ _ _ _ σ = _
  unfold rusess0
  rw [List.length_map]
  have h3 := kids3 t
  by_cases hlt : i < t.kids.length
  ·have hb := binds_law t i hlt σ
   have h1 := h i hlt
   have hx : t.kids.drop i = t.kids[i] :: t.kids.drop (i + 1) := List.drop_eq_getElem_cons hlt
   have hq1 := hq i t.kids[i]
   have hs2 : sum + q i t.kids[i] ≤ (i + 1) * 2 ^ 50 := by rw [Nat.add_mul]; omega
   have ih := ruses_loopE (N := N) t hk hq h m (i + 1) (sum + q i t.kids[i]) (by omega) (by omega) hs2
   have hbig : sum + q i t.kids[i] < 2 ^ 61 := by
    have : (i + 1) * 2 ^ 50 ≤ 4 * 2 ^ 50 := Nat.mul_le_mul_right _ (by omega)
    omega
   have w : IntKind.wrap .i64 ((sum : Int) + ((q i t.kids[i] : Nat) : Int)) = ((sum + q i t.kids[i] : Nat) : Int) := wrap_add (by omega)
   have e : sum + q i t.kids[i] + sumAt q (i + 1) (t.kids.drop (i + 1)) = sum + sumAt q i (t.kids.drop i) := by rw [hx, sumAt]; omega
   rw [e] at ih
   rw [dlt hlt, cond_true]
   refine (callK_ret1 hb).trans ?_
   simp only [List.getD_cons_zero, V.asBool, Option.bind_some, d0, dlt hlt, Bool.and_self, grd, cond_true, tm_get hlt, tm_readB, wrap_succ (show k < 2 ^ 61 by omega), wrap_succ (show i < 2 ^ 61 by omega)]
   rw [inn_bnd] at h1
   cases hbd : bnd4 t i with
   | true =>
    rw [hbd, cond_true] at h1
    simp only [cond_true]
    refine (callK_ret1 h1).trans ?_
    simp only [List.getD_cons_zero, V.asInt, if_true, Option.bind_some, w]
    exact ih
   | false =>
    rw [hbd, cond_false] at h1
    simp only [cond_false]
    refine (callK_ret1 h1).trans ?_
    simp only [List.getD_cons_zero, V.asInt, if_true, Option.bind_some, w]
    exact ih
  ·rw [dnlt hlt, List.drop_eq_nil_of_le (by omega)]
   rfl
theorem ruses_lawE (σ : Sto) : ∀ (t : Tm) (k : Nat), k + t.depth < 2 ^ 50 → t.mass < 2 ^ 50 → lim C 18 [(t.val, false), (.int .i64 k, false)] σ = some (.ret [(.int .i64 (usesT t k : Nat), false)], σ) :=
 Tm.ind fun t ih k hd hm => ruses_lim (n := 10) <| by
  have h3 := kids3 t
  by_cases hk : t.kind = 0
  ·obtain ⟨m, rfl⟩ : ∃ m, t = .var m := by cases t <;> simp [Tm.kind] at hk; exact ⟨_, rfl⟩
   simp only [ruses, rusesF, Tm.kind, Tm.num, beq_self_eq_true, cond_true, usesT]
   by_cases h : m = k
   ·subst h; rw [beq_self_eq_true, cond_true, if_pos rfl]; rfl
   ·rw [show ((m : Int) == (k : Int)) = false by rw [beq_eq_false_iff_ne]; omega, cond_false, if_neg h]
    rfl
  ·have km : ∀ c ∈ t.kids, c.mass < 2 ^ 50 := fun c hc => by
    have : c.mass ≤ t.mass := by
     cases t <;> simp only [Tm.kids, List.mem_cons, List.not_mem_nil, or_false] at hc <;> simp only [Tm.mass]
     ·rcases hc with rfl | rfl <;> omega
     ·rcases hc with rfl | rfl <;> omega
     ·rcases hc with rfl | rfl <;> omega
     ·rcases hc with rfl | rfl | rfl <;> omega
    omega
   have e := ruses_loopE (N := 10) t (k := k) (by omega) (σ := σ) (q := fun i c => if c.mass < 2 ^ 50 then usesT c (inn t i k) else 0) (fun i c => by
     split
     ·have := uses_mass c (inn t i k); omega
     ·omega) (fun i hi => by
    have hd' := kid_depth (List.getElem_mem hi)
    have hb := inn_bounds t i k
    have hmk := km _ (List.getElem_mem hi)
    rw [if_pos hmk]
    exact ih _ (List.getElem_mem hi) (inn t i k) (by omega) hmk) 10 0 0 (Nat.zero_le _) (by omega) (by omega)
   rw [List.drop_zero, Nat.zero_add] at e
   have e2 : ∀ (L : List Tm) (i : Nat), (∀ c ∈ L, c.mass < 2 ^ 50) → sumAt (fun i c => if c.mass < 2 ^ 50 then usesT c (inn t i k) else 0) i L = sumAt (fun i c => usesT c (inn t i k)) i L := by
    intro L
    induction L with
    | nil => intro i _; rfl
    | cons c L ihL =>
     intro i hL
     simp only [sumAt]
     rw [if_pos (hL c (List.mem_cons_self ..)), ihL (i + 1) fun c hc => hL c (List.mem_cons_of_mem _ hc)]
   rw [e2 _ 0 km, ← uses_node t k hk] at e
   simp only [ruses, rusesF]
   rw [show (t.kind == 0) = false by simpa using hk, cond_false]
   exact e
theorem much_lawE (t v : Tm) (ht : t.mass ≤ 80000) (hv : v.mass ≤ 80000) (σ : Sto) : ∃ b : Bool, lim C 6 [(t.val, false), (v.val, false)] σ = some (.ret [(.bool b, false)], σ) ∧ (b = false → t.parts ≤ 20000 ∧ (substT v t 0).parts ≤ 20000) := by
 have pt := parts_mass t
 have pv := parts_mass v
 have wt := wide_mass t
 have wv := wide_mass v
 have dt := depth_mass t
 have us := uses_mass t 0
 obtain ⟨n, c1, h1⟩ := rparts_lawE σ t (by omega) (by omega) 20000 (by omega)
 have h2 := ruses_lawE σ t 0 (by omega) (by omega)
 obtain ⟨k, c3, h3⟩ := rparts_lawE σ v (by omega) (by omega) 20000 (by omega)
 have nle := c1.le
 have kle := c3.le
 by_cases hn : n > 20000
 ·refine ⟨true, much_lim (n := 0) ?_, fun h => by simp at h⟩
  simp only [much, muchF]
  refine (callK_ret1 h1).trans ?_
  simp only [List.getD_cons_zero, V.asInt, if_true, Option.bind_some, show decide ((n : Int) > 20000) = true by simp; omega, cond_true]
 ·have hmul : usesT t 0 * k ≤ 80000 * 80000 := Nat.mul_le_mul (by omega) (by omega)
  have w1 : IntKind.wrap .i64 ((usesT t 0 : Int) * (k : Int)) = ((usesT t 0 * k : Nat) : Int) := by rw [wrap_sm (by rw [← Int.natCast_mul]; omega) (by rw [← Int.natCast_mul]; omega)]; rw [Int.natCast_mul]
  have w2 : IntKind.wrap .i64 ((n : Int) + ((usesT t 0 * k : Nat) : Int)) = ((n + usesT t 0 * k : Nat) : Int) := wrap_add (by omega)
  refine ⟨decide (((n + usesT t 0 * k : Nat) : Int) > 20000), much_lim (n := 0) ?_, fun h => ?_⟩
  ·simp only [much, muchF]
   refine (callK_ret1 h1).trans ?_
   simp only [List.getD_cons_zero, V.asInt, if_true, Option.bind_some, show decide ((n : Int) > 20000) = false by simp; omega, cond_false]
   refine (callK_ret1 h2).trans ?_
   refine (callK_ret1 h3).trans ?_
   simp only [List.getD_cons_zero, V.asInt, if_true, Option.bind_some, w1, w2]
  ·have h' := of_decide_eq_false h
   have hle : n + usesT t 0 * k ≤ 20000 := by omega
   have hpt : t.parts ≤ 20000 := by
    by_cases g : t.parts ≤ 20000
    ·exact g
    ·have := c1.more (by omega); omega
   have hne := c1.ok hpt
   refine ⟨hpt, ?_⟩
   have hsp := subst_parts v t 0
   rcases Nat.eq_zero_or_pos (usesT t 0) with h0 | h0
   ·rw [h0, Nat.zero_mul] at hsp; omega
   ·have hk1 : k ≤ usesT t 0 * k := Nat.le_mul_of_pos_left _ h0
    have hpv : v.parts ≤ 20000 := by
     by_cases g : v.parts ≤ 20000
     ·exact g
     ·have := c3.more (by omega); omega
    have hke := c3.ok hpv
    rw [hke, hne] at hle
    omega
end Go.Ab.Mk
end
section
namespace Go.Ab.Mk
open Go.Proofs Go.Ab
def Ends (s : ByteArray) (σ : Sto) (r : Nat) (B : Option Res) (y : V) (st : RS) : Prop :=
 (∃ p, st = ⟨p, 0, 0⟩ ∧ B = some (.ret [(y, false)], σ.set r ((stepV s p).cells s))) ∨
 (st.c = 1 ∧ ∃ cs, B = some (.pan (.iface 58 (.ptr 31 σ.length 0)), σ.set r cs ++ [fcell 1 st.a]))
section
variable {s : ByteArray} {σ : Sto} {r : Nat}
theorem Ends.bind {f : FuncId} {args : List Cell} {σ0 : Sto} {x y : V} {st : RS} {K : List Cell → Sto → Option Res} {G : RS → RS} (h : Ends s σ r (lim C f args σ0) x st)
  (hK : ∀ p, st = ⟨p, 0, 0⟩ → Ends s σ r (K [(x, false)] (σ.set r ((stepV s p).cells s))) y (G st)) (hG : st.c ≠ 0 → G st = st) :
  Ends s σ r (callK (lim C) f args σ0 1 K (fun v σ => some (.pan v, σ))) y (G st) := by
 rcases h with ⟨p, h1, h2⟩ | ⟨h1, cs, h2⟩
 ·rw [callK_ret1 h2]
  exact hK p h1
 ·right
  rw [hG (by rw [h1]; decide)]
  refine ⟨h1, cs, ?_⟩
  rw [callK_panic h2]
theorem ends_level (hs : s.size < 2 ^ 61) (hr : r < σ.length) {p : Nat} (hp : p ≤ s.size) :
  Ends s σ r (lim C 49 [(.ptr 84 r 0, false)] (σ.set r ((stepV s p).cells s))) (.agg [.int .i64 (rlevelV (s.size + 1) s ⟨p, 0, 0⟩).1.kind, .str (rlevelV (s.size + 1) s ⟨p, 0, 0⟩).1.name, .slice 3 74 (rlevelV (s.size + 1) s ⟨p, 0, 0⟩).1.args]) (rlevelV (s.size + 1) s ⟨p, 0, 0⟩).2 := by
 rcases slevel_law hs (s.size + 1) p σ r hr hp (by omega) with ⟨h1, h2, _, _, h5⟩ | ⟨h1, cs, h2⟩
 ·exact .inl ⟨_, rs_eta h1 h2, h5⟩
 ·exact .inr ⟨h1, cs, h2⟩
theorem ends_name (hs : s.size < 2 ^ 61) (hr : r < σ.length) {p : Nat} (hp : p ≤ s.size) :
  Ends s σ r (lim C 50 [(.ptr 84 r 0, false)] (σ.set r ((stepV s p).cells s))) (.str (rnameV s ⟨p, 0, 0⟩).1) (rnameV s ⟨p, 0, 0⟩).2 := by
 have h := sname_law hr hs hp
 rw [h]
 unfold rnameV rfailV
 cases hn : isNameV (tokV s p).t
 ·have hc1 : ((1 : Int) != 0) = true := rfl
  simp only [hn, Bool.not_false, Bool.or_true, cond_true, cond_false, beq_self_eq_true, hc1]
  exact .inr ⟨rfl, (stepV s p).cells s, rfl⟩
 ·have hok := (name_ok hp hn).1
  simp only [hn, hok, Bool.not_true, Bool.or_false, cond_true, cond_false, bne_self_eq_false]
  refine .inl ⟨(stepV s p).at_, ?_, rfl⟩
  unfold stepV stepOf; rw [hok]; rfl
variable {N : Nat} {t0 t1 : Int} {t2 : ByteArray} {t3 t4 : List (List V)} {o0 o1 : Int} {o2 : V}
theorem parts_end {m : Nat} {n : Int} {o3 o4 : List (List V)} (hs : s.size < 2 ^ 61) (hr : r < σ.length) {p : Nat} (hp : p ≤ s.size) :
  Ends s σ r (readl0 (lim C) N (m + 1) r n n t0 t1 t2 t3 t4 o0 o1 o2 o3 o4 (σ.set r ((stepV s p).cells s))) (.agg [.int .i64 o0, .int .i64 o1, o2, .slice 3 74 o3, .slice 5 29 o4]) (rtakeV s ⟨p, 0, 0⟩ (ba [41])) := by
 show Ends s σ r (reads0 (lim C) (readl0 (lim C) N m) r n n t0 t1 t2 t3 t4 o0 o1 o2 o3 o4 (σ.set r ((stepV s p).cells s))) _ _
 unfold reads0
 have e : decide (n < n) = false := by simp
 have e41 : ByteArray.mk #[41] = ba [41] := rfl
 simp only [e, cond_false, e41]
 rcases stake_law hr hs hp (w := [41]) (by simp) (by simp) with ⟨h1, h2, h3⟩ | ⟨h1, h2⟩
 ·rw [callK_ret0 h3]
  exact .inl ⟨_, h2, rfl⟩
 ·rw [callK_panic h2]
  exact .inr ⟨h1, _, rfl⟩
theorem parts_go {m : Nat} {n i : Int} {o3 o4 : List (List V)} {σ0 : Sto} {x : Tm} {y : V} {st : RS} {G : RS → RS} (hlt : i < n) (hroom : room (o4.length + 1) = true)
  (h : Ends s σ r (lim C 27 [(.ptr 84 r 0, false)] σ0) x.val st)
  (hK : ∀ p, st = ⟨p, 0, 0⟩ → Ends s σ r (readl0 (lim C) N m r n (IntKind.wrap .i64 (i + 1)) t0 t1 t2 t3 t4 o0 o1 o2 o3 (o4 ++ [x.enc]) (σ.set r ((stepV s p).cells s))) y (G st)) (hG : st.c ≠ 0 → G st = st) :
  Ends s σ r (readl0 (lim C) N (m + 1) r n i t0 t1 t2 t3 t4 o0 o1 o2 o3 o4 σ0) y (G st) := by
 show Ends s σ r (reads0 (lim C) (readl0 (lim C) N m) r n i t0 t1 t2 t3 t4 o0 o1 o2 o3 o4 σ0) _ _
 unfold reads0
 simp only [decide_eq_true hlt, cond_true]
 refine h.bind (fun p hp => ?_) hG
 simp only [List.getD_cons_zero, tm_fits, tm_cell, grd, Bool.and_self, cond_true, Option.bind_some, hroom]
 exact hK p hp
theorem levels_run (hs : s.size ≤ 20000) (hr : r < σ.length) (hN : 0 < N) : ∀ (m : Nat) (ls : List Lv) (p : Nat), p ≤ s.size → ls.length + (s.size - p) ≤ 20000 → s.size - p + 1 < m →
  Ends s σ r (readl1 (lim C) N m r 0 t0 t1 t2 t3 t4 o0 o1 o2 (ls.map Lv.enc) [] (σ.set r ((stepV s p).cells s)))
   (.agg [.int .i64 o0, .int .i64 o1, o2, .slice 3 74 ((ls ++ (rlvsV m s ⟨p, 0, 0⟩).1).map Lv.enc), .slice 5 29 []]) (rtakeV s (rlvsV m s ⟨p, 0, 0⟩).2 (ba [41]))
 | 0, _, _, _, _, hm => by omega
 | m + 1, ls, p, hp, hb, hm => by
  have hs' : s.size < 2 ^ 61 := by omega
  show Ends s σ r (reads1 (lim C) (readl0 (lim C) N N) (readl1 (lim C) N m) r 0 t0 t1 t2 t3 t4 o0 o1 o2 (ls.map Lv.enc) [] (σ.set r ((stepV s p).cells s))) _ _
  unfold reads1
  have e41 : ∀ t : ByteArray, (t.toList == (ByteArray.mk #[41]).toList) = strIs t [41] := fun _ => rfl
  have tk := stepTok hp (w := [41]) (by simp) (by simp)
  simp only [sg2 hr, Option.bind_some, V.asStr, e41, tk, rlvsV, bne_self_eq_false, cond_false]
  cases h3 : strIs (tokV s p).t [41]
  case true =>
   simp only [Bool.not_true, cond_false, cond_true, List.append_nil]
   obtain ⟨k, rfl⟩ : ∃ k, N = k + 1 := ⟨N - 1, by omega⟩
   exact parts_end hs' hr hp
  simp only [Bool.not_false, cond_true, cond_false]
  have hx := ends_level hs' hr hp
  have hgo := rlevel_goes (s := s) (st := ⟨p, 0, 0⟩) hp
  have hroom : room (List.length (ls.map Lv.enc) + 1) = true := room_ok (by simp; omega)
  have em : List.map Lv.enc ls ++ [(rlevelV (s.size + 1) s ⟨p, 0, 0⟩).1.enc] = List.map Lv.enc (ls ++ [(rlevelV (s.size + 1) s ⟨p, 0, 0⟩).1]) := by simp
  refine hx.bind (G := fun st => rtakeV s (rlvsV m s st).2 (ba [41])) (fun p' hp' => ?_) (fun hc => by rw [rlvs_stuck hc, rtake_stuck hc])
  simp only [List.getD_cons_zero, fits_lv, cell_lv, grd, Bool.and_self, cond_true, Option.bind_some, hroom, em]
  have hc : (rlevelV (s.size + 1) s ⟨p, 0, 0⟩).2.c = 0 := by rw [hp']
  have h1 := (hgo.ok hc).2
  have h2 := hgo.le
  rw [hp'] at h1 h2 ⊢
  simp only at h1 h2
  have ih := levels_run hs hr hN m (ls ++ [(rlevelV (s.size + 1) s ⟨p, 0, 0⟩).1]) p' h2 (by rw [List.length_append]; simp only [List.length_cons, List.length_nil]; omega) (by omega)
  rw [List.append_assoc] at ih
  exact ih
end
theorem hashed_step {s : ByteArray} {p : Nat} (hp : p ≤ s.size) : hashed (stepV s p).tok = hashed (tokV s p).t := by
 cases hk : (tokV s p).ok
 ·have h1 := (tokV_ok s hp).no hk
  have e2 : hashed (tokV s p).t = false := by simp [hashed, h1]
  have e1 : (stepV s p).tok = ByteArray.mk #[0] := by unfold stepV stepOf; rw [hk]; rfl
  rw [e1, e2]
  have : byteAt (ByteArray.mk #[0]) 0 = 0 := rfl
  simp [hashed, this]
 ·rw [step_tok hk]
theorem wordIx_step {s : ByteArray} {p : Nat} (hp : p ≤ s.size) : wordIx (stepV s p).tok = wordIx (tokV s p).t := by
 have e : ∀ w : List UInt8, w ≠ [] → w ≠ [0] → strIs (stepV s p).tok w = strIs (tokV s p).t w := fun w h1 h2 => stepTok hp h1 h2
 unfold wordIx
 rw [e _ (by simp) (by simp), e _ (by simp) (by simp), e _ (by simp) (by simp), e _ (by simp) (by simp), e _ (by simp) (by simp), e _ (by simp) (by simp)]
theorem not_40 {t : ByteArray} (h : hashed t = true) : strIs t [40] = false := by
 cases h2 : strIs t [40] with
 | false => rfl
 | true =>
  rw [strIs_eq h2] at h
  simp only [hashed, Bool.and_eq_true] at h
  exact absurd h.2 (by decide)
theorem bad_or {s : ByteArray} {p : Nat} (hp : p ≤ s.size) : badTok (tokV s p) = (!(hashed (tokV s p).t) && !strIs (tokV s p).t [40]) := by
 have h := (tokV_ok s hp).no
 unfold badTok hashed
 cases hok : (tokV s p).ok
 ·have h1 := h hok
  have h2 : strIs (tokV s p).t [40] = false := by
   cases h2 : strIs (tokV s p).t [40] with
   | false => rfl
   | true => have := (strIs_ok hp (by simp) h2).1; rw [hok] at this; simp at this
  simp [h1, h2]
 ·cases hno : isNo (tokV s p).t
  ·simp
  ·have h2 : strIs (tokV s p).t [40] = false := by
    cases h2 : strIs (tokV s p).t [40] with
    | false => rfl
    | true => have := (strIs_ok hp (by simp) h2).2; rw [hno] at this; simp at this
   simp [h2]
theorem read_law {s : ByteArray} (hs : s.size ≤ 20000) : ∀ (n p : Nat) (σ : Sto) (r : Nat), r < σ.length → p ≤ s.size → s.size - p < n →
  Ends s σ r (lim C 27 [(.ptr 84 r 0, false)] (σ.set r ((stepV s p).cells s))) (rtermV n s ⟨p, 0, 0⟩).1.val (rtermV n s ⟨p, 0, 0⟩).2
 | 0, p, σ, r, hr, hp, hn => by omega
 | n + 1, p, σ, r, hr, hp, hn => by
  have hs' : s.size < 2 ^ 61 := by omega
  have key : ∀ {y st}, Ends s σ r (read (lim C) (s.size + 10) r (σ.set r ((stepV s p).cells s))) y st → Ends s σ r (lim C 27 [(.ptr 84 r 0, false)] (σ.set r ((stepV s p).cells s))) y st := by
   intro y st h
   rcases h with ⟨q, h1, h2⟩ | ⟨h1, cs, h2⟩
   ·exact .inl ⟨q, h1, read_lim (n := s.size + 10) h2⟩
   ·exact .inr ⟨h1, cs, read_lim (n := s.size + 10) h2⟩
  refine key ?_
  clear key
  have hcp := cutPrefix_law (stepV s p).tok (σ.set r ((stepV s p).cells s))
  rw [hashed_step hp] at hcp
  have hst := step_law' hr hs' hp
  simp only [read, readF, sg2 hr, Option.bind_some]
  simp only [callK_ret2 hcp, List.getD_cons_zero, List.getD_cons_succ, V.asBool, Option.bind_some, rtermV, bne_self_eq_false, cond_false, bad_or hp]
  cases hh : hashed (tokV s p).t
  case true =>
   have hno : isNo (tokV s p).t = false := by
    simp only [hashed, Bool.and_eq_true, Bool.not_eq_true'] at hh
    exact hh.1
   have h35 : byteAt (tokV s p).t 0 = 35 := by
    simp only [hashed, Bool.and_eq_true, beq_iff_eq] at hh
    exact hh.2
   have hok : (tokV s p).ok = true := by
    cases hok : (tokV s p).ok with
    | true => rfl
    | false => have := (tokV_ok s hp).no hok; rw [hno] at this; simp at this
   have hdg := tok_num hp hok hno h35
   have hat := atoi_law hdg (σ.set r ((stepV s p).cells s))
   have f1 : ∀ x : Int, V.fits (.int .i64 x) false 1 = true := fun _ => rfl
   simp only [cond_true, step_tok hok, Bool.not_true, Bool.false_and, cond_false, not_40 hh, callK_ret2 hat, List.getD_cons_zero, List.getD_cons_succ, V.ifaceNil, Option.bind_some, callK_ret0 hst, f1, grd, Bool.and_true]
   rw [rnext_at ⟨hok, hno⟩]
   exact .inl ⟨_, rfl, rfl⟩
  simp only [cond_false, Bool.not_false, Bool.true_and]
  have e40 : ByteArray.mk #[40] = ba [40] := rfl
  rw [e40]
  have hz : ∀ {c}, strIs (tokV s p).t [40] = c → (rtakeV s ⟨p, 0, 0⟩ (ba [40])).c = (bif c then 0 else 1) ∧ (c = false → (rtakeV s ⟨p, 0, 0⟩ (ba [40])) = ⟨p, 1, (tokV s p).at_⟩) := by
   intro c hc
   have hc' : ((tokV s p).t.toList == (ba [40]).toList) = c := hc
   unfold rtakeV rfailV
   cases c
   ·simp [hc']
   ·have hok := (strIs_ok hp (by simp) hc).1
    simp [hc', hok]
  cases h40 : strIs (tokV s p).t [40]
  case false =>
   obtain ⟨z1, z2⟩ := hz h40
   rcases stake_law hr hs' hp (w := [40]) (by simp) (by simp) with ⟨k1, _⟩ | ⟨_, k2⟩
   ·rw [z1] at k1; simp at k1
   ·rw [z2 rfl] at k2
    simp only [callK_panic k2, Bool.not_false, cond_true]
    right
    refine ⟨by simp [rfailV], (stepV s p).cells s, ?_⟩
    simp [rfailV]
  obtain ⟨z1, _⟩ := hz h40
  have hok := strIs_ok hp (by simp) h40
  rcases stake_law hr hs' hp (w := [40]) (by simp) (by simp) with ⟨_, _, k3⟩ | ⟨k1, _⟩
  case inr => rw [z1] at k1; simp at k1
  have hlt := step_lt hp hok
  have hsle := step_at_le hp
  simp only [callK_ret0 k3, Bool.not_true, cond_false, cond_true]
  rw [rnext_at hok]
  generalize (stepV s p).at_ = p1 at hlt hsle
  clear hcp hst k3
  have hix := index_law (ps := words6) (by decide) (stepV s p1).tok (σ.set r ((stepV s p1).cells s))
  rw [idx_words, wordIx_step hsle] at hix
  have ew : ((((List.map (fun v => [v]) [(V.str (ByteArray.mk #[])), (V.str (ByteArray.mk #[115, 111, 114, 116])), (V.str (ByteArray.mk #[99, 111, 110, 115, 116])), (V.str (ByteArray.mk #[97, 112, 112])), (V.str (ByteArray.mk #[108, 97, 109])), (V.str (ByteArray.mk #[112, 105])), (V.str (ByteArray.mk #[108, 101, 116]))]).take (Int.toNat (7 : Int))).drop (Int.toNat (1 : Int)))) = strs words6 := rfl
  have eg : (decide (0 ≤ (1 : Int)) && decide ((1 : Int) ≤ (7 : Int)) && decide ((7 : Int) ≤ ((7 : Nat) : Int)) && decide ((1 : Int) < ((7 : Nat) : Int))) = true := by decide
  have w1 : IntKind.wrap .i64 ((wordIx (tokV s p1).t : Int) - 1 + 1) = (wordIx (tokV s p1).t : Int) := by
   have := wordIx_le (tokV s p1).t
   rw [wrapI (by omega) (by omega)]; omega
  rw [eg, ew]
  simp only [grd, cond_true, Option.bind_some, sg2 hr, callK_ret1 hix, List.getD_cons_zero, V.asInt, if_true, w1, tmP]
  have hf1 := sfail_law hr (s := s) (stepV s p1)
  rw [step_pos] at hf1
  by_cases hk0 : wordIx (tokV s p1).t = 0
  case pos =>
   simp only [hk0, Int.natCast_zero, beq_self_eq_true, cond_true, callK_panic hf1]
   right
   refine ⟨by simp [rfailV], (stepV s p1).cells s, ?_⟩
   simp [rfailV]
  have hok1 := wordIx_ok hsle hk0
  have hst1 := step_law' hr hs' hsle
  have hlt1 := step_lt hsle hok1
  have hsle1 := step_at_le hsle
  have hk0' : ((wordIx (tokV s p1).t : Int) == 0) = false := by simp; omega
  have hk0'' : (wordIx (tokV s p1).t == 0) = false := by simpa using hk0
  simp only [hk0', hk0'', cond_false, callK_ret0 hst1]
  rw [rnext_at hok1]
  generalize (stepV s p1).at_ = p2 at hlt1 hsle1
  have hk6 := wordIx_le (tokV s p1).t
  clear hix hf1 hst1 w1 eg ew
  generalize wordIx (tokV s p1).t = k at hk0 hk0' hk0'' hk6 ⊢
  have goes0 : Gone s ⟨p2, 0, 0⟩ ⟨p2, 0, 0⟩ := Gone.refl hsle1
  have ih : ∀ q st, st = (⟨q, 0, 0⟩ : RS) → Gone s ⟨p2, 0, 0⟩ st → Ends s σ r (lim C 27 [(.ptr 84 r 0, false)] (σ.set r ((stepV s q).cells s))) (rtermV n s st).1.val (rtermV n s st).2 ∧ Gone s ⟨p2, 0, 0⟩ (rtermV n s st).2 := by
   intro q st hst h
   subst hst
   have h1 := h.le
   have h2 := (h.ok rfl).2
   simp only at h1 h2
   exact ⟨read_law hs n q σ r hr h1 (by omega), h.trans (rterm_goes s n ⟨q, 0, 0⟩ h1 (.inr (by simp only; omega))).gone⟩
  have two : ∀ (f : Tm → Tm → Tm) (o0 : Int), (∀ a b, (f a b).val = .agg [.int .i64 o0, .int .i64 0, .str (ByteArray.mk #[]), .slice 3 74 [], .slice 5 29 [a.enc, b.enc]]) →
    Ends s σ r (readl0 (lim C) (s.size + 10) (s.size + 10) r 2 0 0 0 (ByteArray.mk #[]) [] [] o0 0 (.str (ByteArray.mk #[])) [] [] (σ.set r ((stepV s p2).cells s))) (tm2 (rtermV n s) s f ⟨p2, 0, 0⟩).1.val (tm2 (rtermV n s) s f ⟨p2, 0, 0⟩).2 := by
   intro f o0 hf
   have w1 : IntKind.wrap .i64 ((0 : Int) + 1) = 1 := by decide
   have w2 : IntKind.wrap .i64 ((1 : Int) + 1) = 2 := by decide
   obtain ⟨a1, a2⟩ := ih p2 _ rfl goes0
   show Ends s σ r (readl0 (lim C) (s.size + 10) (s.size + 7 + 1 + 1 + 1) r 2 0 0 0 (ByteArray.mk #[]) [] [] o0 0 (.str (ByteArray.mk #[])) [] [] (σ.set r ((stepV s p2).cells s))) _ _
   refine parts_go (G := fun st => rtakeV s (rtermV n s st).2 (ba [41])) (by omega) (room_ok (by simp)) a1 (fun q hq => ?_) (fun hc => by rw [rterm_stuck hc, rtake_stuck hc])
   obtain ⟨b1, b2⟩ := ih q _ hq a2
   rw [w1]
   refine parts_go (G := fun st => rtakeV s st (ba [41])) (by omega) (room_ok (by simp)) b1 (fun q2 hq2 => ?_) (fun hc => by rw [rtake_stuck hc])
   rw [w2, tm2, hf]
   rw [hq2] at b2 ⊢
   exact parts_end hs' hr b2.le
  have three : ∀ (f : Tm → Tm → Tm → Tm) (o0 : Int), (∀ a b c, (f a b c).val = .agg [.int .i64 o0, .int .i64 0, .str (ByteArray.mk #[]), .slice 3 74 [], .slice 5 29 [a.enc, b.enc, c.enc]]) →
    Ends s σ r (readl0 (lim C) (s.size + 10) (s.size + 10) r 3 0 0 0 (ByteArray.mk #[]) [] [] o0 0 (.str (ByteArray.mk #[])) [] [] (σ.set r ((stepV s p2).cells s))) (tm3 (rtermV n s) s f ⟨p2, 0, 0⟩).1.val (tm3 (rtermV n s) s f ⟨p2, 0, 0⟩).2 := by
   intro f o0 hf
   have w1 : IntKind.wrap .i64 ((0 : Int) + 1) = 1 := by decide
   have w2 : IntKind.wrap .i64 ((1 : Int) + 1) = 2 := by decide
   have w3 : IntKind.wrap .i64 ((2 : Int) + 1) = 3 := by decide
   obtain ⟨a1, a2⟩ := ih p2 _ rfl goes0
   show Ends s σ r (readl0 (lim C) (s.size + 10) (s.size + 6 + 1 + 1 + 1 + 1) r 3 0 0 0 (ByteArray.mk #[]) [] [] o0 0 (.str (ByteArray.mk #[])) [] [] (σ.set r ((stepV s p2).cells s))) _ _
   refine parts_go (G := fun st => rtakeV s (rtermV n s (rtermV n s st).2).2 (ba [41])) (by omega) (room_ok (by simp)) a1 (fun q hq => ?_) (fun hc => by rw [rterm_stuck hc, rterm_stuck hc, rtake_stuck hc])
   obtain ⟨b1, b2⟩ := ih q _ hq a2
   rw [w1]
   refine parts_go (G := fun st => rtakeV s (rtermV n s st).2 (ba [41])) (by omega) (room_ok (by simp)) b1 (fun q2 hq2 => ?_) (fun hc => by rw [rterm_stuck hc, rtake_stuck hc])
   obtain ⟨c1, c2⟩ := ih q2 _ hq2 b2
   rw [w2]
   refine parts_go (G := fun st => rtakeV s st (ba [41])) (by omega) (room_ok (by simp)) c1 (fun q3 hq3 => ?_) (fun hc => by rw [rtake_stuck hc])
   rw [w3, tm3, hf]
   rw [hq3] at c2 ⊢
   exact parts_end hs' hr c2.le
  match k, hk0, hk6 with
  | 0, h, _ => exact absurd rfl h
  | 1, _, _ =>
   have e1 : (((1 : Nat) : Int) == 1) = true := rfl
   simp only [e1, cond_true, tmB]
   have hx := ends_level hs' hr hsle1
   have gx := (rlevel_goes (s := s) (st := ⟨p2, 0, 0⟩) hsle1).le
   refine hx.bind (G := fun st => rtakeV s st (ba [41])) (fun q hq => ?_) (fun hc => by rw [rtake_stuck hc])
   simp only [List.getD_cons_zero, fits_lv, cell_lv, grd, Bool.and_self, cond_true, Option.bind_some]
   rw [hq] at gx ⊢
   exact parts_end (m := s.size + 9) (n := 0) hs' hr gx
  | 2, _, _ =>
   have e1 : (((2 : Nat) : Int) == 1) = false := rfl
   have e2 : (((2 : Nat) : Int) == 2) = true := rfl
   simp only [e1, e2, cond_true, cond_false, tmB]
   have hx := ends_name hs' hr hsle1
   have gx := (rname_goes (s := s) (st := ⟨p2, 0, 0⟩) hsle1).le
   refine hx.bind (G := fun st => rtakeV s (rlvsV (s.size + 10) s st).2 (ba [41])) (fun q hq => ?_) (fun hc => by rw [rlvs_stuck hc, rtake_stuck hc])
   have ef : ∀ b : ByteArray, V.fits (.str b) false 1 = true := fun _ => rfl
   simp only [List.getD_cons_zero, ef, grd, cond_true, Option.bind_some]
   have hl := levels_run (N := s.size + 10) (t0 := 0) (t1 := 0) (t2 := ByteArray.mk #[]) (t3 := []) (t4 := []) (o0 := ((2 : Nat) : Int)) (o1 := 0) (o2 := .str (rnameV s ⟨p2, 0, 0⟩).1) hs hr (by omega) (s.size + 10) [] q (by rw [hq] at gx; exact gx) (by simp; omega) (by omega)
   rw [← hq] at hl
   exact hl
  | 3, _, _ => exact two .app 3 (fun _ _ => rfl)
  | 4, _, _ => exact two .lam 4 (fun _ _ => rfl)
  | 5, _, _ => exact two .pi 5 (fun _ _ => rfl)
  | 6, _, _ => exact three .letin 6 (fun _ _ _ => rfl)
end Go.Ab.Mk
end
section

end
section
namespace Go.Ab.Mk
open Go.Proofs Go.Ab
def ErrOk (err : V) (σ : Sto) (c a : Int) : Prop := (c = 0 ∧ err = .nilIface) ∨ ∃ b, err = .iface 58 (.ptr 31 b 0) ∧ σ[b]? = some (fcell c a)
theorem ErrOk.more {err : V} {σ : Sto} {c a : Int} (h : ErrOk err σ c a) (σ' : Sto) : ErrOk err (σ ++ σ') c a := by
 rcases h with h | ⟨b, h1, h2⟩
 ·exact .inl h
 ·exact .inr ⟨b, h1, by rw [List.getElem?_append_left (List.getElem?_eq_some_iff.1 h2).1]; exact h2⟩
theorem newScanner_law {s : ByteArray} (hs : s.size < 2 ^ 61) (σ : Sto) : lim C 26 [(.str s, false)] σ = some (.ret [(.ptr 84 σ.length 0, false)], σ ++ [(stepV s 0).cells s]) :=
 newScanner_lim (n := 0) <| by
  have h := step_law (σ := σ ++ [[]]) (r := σ.length) (by simp) hs (st := ⟨0, ByteArray.mk #[], 0⟩) (Nat.zero_le _)
  have hg : ∀ x : List Cell, (σ ++ [[]]).set σ.length x = σ ++ [x] := fun x => by rw [List.set_append_right _ _ (Nat.le_refl _)]; simp
  rw [hg, hg] at h
  have e0 : [((V.str s), false), ((V.int .i64 (0 : Int)), false), ((V.str (ByteArray.mk #[])), false), ((V.int .i64 (0 : Int)), false)] = SC.cells s ⟨0, ByteArray.mk #[], 0⟩ := rfl
  simp only [newScanner, newScannerF, e0, callK_ret0 h]
theorem rdone_stuck {s : ByteArray} {st : RS} (h : st.c ≠ 0) : rdoneV s st = st := by
 have h1 : (st.c == 0) = false := by simpa using h
 unfold rdoneV rfailV
 simp only [h1, cond_false]
 cases (!(tokV s st.p).ok || !isNo (tokV s st.p).t) <;> simp only [cond_true, cond_false]
end Go.Ab.Mk
end
section
namespace Go.Proofs
open Go.RowKit Go.Ab
set_option maxRecDepth 100000
set_option maxHeartbeats 1000000
theorem Mk.catch_idle (p : Addr) (w : World) :
  CallsD Tryd.prog 25 #[.pointer (some p)] .returning w fun e u' w' => e = .returned (.tuple #[]) ∧ u' = .returning ∧ w' = w := by
 refine callsD_of_wpS Tryd.func25 rfl fun c₀ cs hu => ?_
 apply wpS_seq
 apply wpS_region
 simp [wpOpsS, go_sem, recoverD, hu, Tryd.ntmps25, Exit.thenS]
 refine wpS_of_wp ?_
 go_wp2
 cases c₀
 simp_all [bodyPostS, results, Tryd.results25]
theorem Mk.catch_pan (p : Addr) (v : Value) (w : World) (x : Value) (hc : w.cell? p = some x) (hz : w.frozen? p = false) :
  CallsD Tryd.prog 25 #[.pointer (some p)] (.panicking [{ v := .iface 58 v, recovered := false }]) w fun e u' w' =>
   e = .returned (.tuple #[]) ∧ u' = .panicking [{ v := .iface 58 v, recovered := true }] ∧ w' = w.setCell p (.iface 58 v) := by
 have hta : (Instr.typeAssert (.iface 58 v) 20 58 true).run Tryd.prog w = .ok (.tuple #[v, .bool true]) w := by kernel_rfl
 refine callsD_of_wpS Tryd.func25 rfl fun c₀ cs hu => ?_
 apply wpS_seq
 apply wpS_region
 simp [wpOpsS, go_sem, recoverD, hu, Tryd.ntmps25, Exit.thenS]
 refine wpS_of_wp ?_
 go_wp2
 cases c₀
 simp_all [bodyPostS, results, Tryd.results25]
end Go.Proofs
end
section
namespace Go.Proofs
open Go.RowKit Go.Ab
set_option maxRecDepth 100000
set_option maxHeartbeats 1000000
theorem Mk.tclos_nil (p q : Addr) (u : FrameMode) (w : World) (hc : w.cell? p = some .nilIface) :
  CallsD Tryd.prog 24 #[.pointer (some p), .pointer (some q)] u w fun e u' w' => u' = u ∧ (e = .returned (.tuple #[]) ∧ w' = w) := by
 go_enter_d Tryd.func24, Tryd.ntmps24
 go_wp2
 go_end0
 exact ⟨rfl, rfl⟩
theorem Mk.tclos_err (p : Addr) (b : Nat) (u : FrameMode) (w : World) (v : Value) (cv : Array Value) (el : TypeId) (hc : w.cell? p = some (.iface 58 v)) (hb : w.heap[b]? = some (.cells cv el (0, 0))) (hs : cv.size = 5) :
  CallsD Tryd.prog 24 #[.pointer (some p), .pointer (some ⟨b, 0, none⟩)] u w fun e u' w' => u' = u ∧ (e = .returned (.tuple #[]) ∧ w' = putCells w b 0 [.int .i64 0, .int .i64 0, .string ⟨#[]⟩, .slice none 0 0, .slice none 0 0]) := by
 obtain ⟨x0, x1, x2, x3, x4, rfl⟩ : ∃ x0 x1 x2 x3 x4, cv = #[x0, x1, x2, x3, x4] := by
  obtain ⟨l⟩ := cv
  match l, hs with
  | [x0, x1, x2, x3, x4], _ => exact ⟨x0, x1, x2, x3, x4, rfl⟩
 have h0 : w.cell? ⟨b, 0, none⟩ = some x0 := by simp [World.cell?, hb]
 have h1 : w.cell? ⟨b, 1, none⟩ = some x1 := by simp [World.cell?, hb]
 have h2 : w.cell? ⟨b, 2, none⟩ = some x2 := by simp [World.cell?, hb]
 have h3 : w.cell? ⟨b, 3, none⟩ = some x3 := by simp [World.cell?, hb]
 have h4 : w.cell? ⟨b, 4, none⟩ = some x4 := by simp [World.cell?, hb]
 have z3 : w.frozen? ⟨b, 3, none⟩ = false := by simp [World.frozen?, hb]
 have z4 : w.frozen? ⟨b, 4, none⟩ = false := by simp [World.frozen?, hb]
 have z0 : w.frozen? ⟨b, 0, none⟩ = false := by simp [World.frozen?, hb]
 have z1 : w.frozen? ⟨b, 1, none⟩ = false := by simp [World.frozen?, hb]
 have z2 : w.frozen? ⟨b, 2, none⟩ = false := by simp [World.frozen?, hb]
 go_enter_d Tryd.func24, Tryd.ntmps24
 go_wp2
 go_end0
 exact ⟨rfl, rfl⟩
end Go.Proofs
end
section
namespace Go.Proofs
open Go.RowKit Go.Ab
set_option maxRecDepth 100000
set_option maxHeartbeats 1000000
theorem Mk.tparse_long (s : ByteArray) (w : World) (hb : (s.size : Int) > 20000) :
  Calls Tryd.prog 11 #[.string s] w fun en w' => en = .returned (.tuple #[.agg #[.int .i64 0, .int .i64 0, .string ⟨#[]⟩, .slice none 0 0, .slice none 0 0], .iface 58 (.pointer (some ⟨w.heap.size + 1 + 1, 0, none⟩))]) ∧
   w' = ((w.alloc (.cells #[.int .i64 0, .int .i64 0, .string ⟨#[]⟩, .slice none 0 0, .slice none 0 0] 29)).alloc (.cells #[.iface 58 (.pointer (some ⟨w.heap.size + 1 + 1, 0, none⟩))] 40)).alloc (.cells #[.int .i64 2, .int .i64 0] 31) := by
 have hmf : ∀ (fn : Fn) (first cap : Array Value) (w : World), (Instr.makeFunc fn first cap).run Tryd.prog w = .ok (.func fn first cap) w := fun _ _ _ _ => rfl
 go_enter_defers Tryd.func11, Tryd.ntmps11
 go_wp2
 simp [bodyPostD, Leaves, settle, results, Tryd.results11, go_sem]
def Mk.ztm : Array Value := #[.int .i64 0, .int .i64 0, .string ⟨#[]⟩, .slice none 0 0, .slice none 0 0]
structure Mk.HasT (b : Nat) (x y : Array Value) (w : World) : Prop where
 l : w.heap[b]? = some (.cells x 29 (0, 0))
 e : w.heap[b + 1]? = some (.cells y 40 (0, 0))
theorem Mk.HasT.c0 {b : Nat} {x0 x1 x2 x3 x4 : Value} {y : Array Value} {w : World} (h : Mk.HasT b #[x0, x1, x2, x3, x4] y w) : w.cell? ⟨b, 0, none⟩ = some x0 ∧ w.cell? ⟨b, 1, none⟩ = some x1 ∧ w.cell? ⟨b, 2, none⟩ = some x2 ∧ w.cell? ⟨b, 3, none⟩ = some x3 ∧ w.cell? ⟨b, 4, none⟩ = some x4 ∧ w.frozen? ⟨b, 0, none⟩ = false ∧ w.frozen? ⟨b, 1, none⟩ = false ∧ w.frozen? ⟨b, 2, none⟩ = false ∧ w.frozen? ⟨b, 3, none⟩ = false ∧ w.frozen? ⟨b, 4, none⟩ = false := by
 simp [World.cell?, World.frozen?, h.l]
theorem Mk.HasT.e0 {b : Nat} {x : Array Value} {y : Value} {w : World} (h : Mk.HasT b x #[y] w) : w.cell? ⟨b + 1, 0, none⟩ = some y ∧ w.frozen? ⟨b + 1, 0, none⟩ = false := by
 simp [World.cell?, World.frozen?, h.e]
theorem Mk.HasT.setE {b : Nat} {x : Array Value} {y v : Value} {w : World} (h : Mk.HasT b x #[y] w) : Mk.HasT b x #[v] (w.setCell ⟨b + 1, 0, none⟩ v) := by
 refine ⟨?_, ?_⟩
 ·rw [heap_setCell_other _ _ _ _ (by simp)]; exact h.l
 ·rw [heap_setCell_same _ _ _ _ _ _ h.e]; rfl
theorem Mk.HasT.setL {b : Nat} {x0 x1 x2 x3 x4 y0 y1 y2 y3 y4 : Value} {y : Array Value} {w : World} (h : Mk.HasT b #[x0, x1, x2, x3, x4] y w) :
  Mk.HasT b #[y0, y1, y2, y3, y4] y (((((w.setCell ⟨b, 0, none⟩ y0).setCell ⟨b, 1, none⟩ y1).setCell ⟨b, 2, none⟩ y2).setCell ⟨b, 3, none⟩ y3).setCell ⟨b, 4, none⟩ y4) := by
 refine ⟨?_, ?_⟩
 ·rw [heap_setCell_same _ _ _ _ _ _ (heap_setCell_same _ _ _ _ _ _ (heap_setCell_same _ _ _ _ _ _ (heap_setCell_same _ _ _ _ _ _ (heap_setCell_same _ _ _ _ _ _ h.l))))]; rfl
 ·rw [heap_setCell_other _ _ _ _ (by simp), heap_setCell_other _ _ _ _ (by simp), heap_setCell_other _ _ _ _ (by simp), heap_setCell_other _ _ _ _ (by simp), heap_setCell_other _ _ _ _ (by simp)]; exact h.e
def Mk.T5 (b : Nat) (x : Array Value) (Q : Ending → World → Prop) : Ending → World → Prop := fun e w5 =>
 (e = .returned (.tuple #[]) ∧ Mk.HasT b x #[.nilIface] w5 ∧ ∀ w', Near b (b + 1) w5 w' → Q (.returned (.tuple #[.agg x, .nilIface])) w') ∨
 (∃ v, e = .panicked [{ v := .iface 58 v, recovered := false }] ∧ Mk.HasT b x #[.nilIface] w5 ∧ ∀ w', Near b (b + 1) w5 w' → Q (.returned (.tuple #[.agg Mk.ztm, .iface 58 v])) w')
inductive Mk.ShpT : Value → Value → Value → Value → Value → Prop
 | mk (n m : Int) (st : ByteArray) (p : Option Addr) (l c : Nat) (pp : Option Addr) (ll cc : Nat) : Mk.ShpT (.int .i64 n) (.int .i64 m) (.string st) (.slice p l c) (.slice pp ll cc)
def Mk.T4 (b : Nat) (q : Addr) (Q : Ending → World → Prop) : Ending → World → Prop := fun e w4 =>
 (∃ x0 x1 x2 x3 x4, e = .returned (.agg #[x0, x1, x2, x3, x4]) ∧ Mk.ShpT x0 x1 x2 x3 x4 ∧ Mk.HasT b Mk.ztm #[.nilIface] w4 ∧
  Hid (∀ w', Near b (b + 1) w4 w' → Mk.HasT b #[x0, x1, x2, x3, x4] #[.nilIface] w' → Calls Tryd.prog 28 #[.pointer (some q)] w' (Mk.T5 b #[x0, x1, x2, x3, x4] Q))) ∨
 (∃ v, e = .panicked [{ v := .iface 58 v, recovered := false }] ∧ Mk.HasT b Mk.ztm #[.nilIface] w4 ∧ ∀ w', Near b (b + 1) w4 w' → Q (.returned (.tuple #[.agg Mk.ztm, .iface 58 v])) w')
def Mk.T3 (b : Nat) (Q : Ending → World → Prop) : Ending → World → Prop := fun e w3 =>
 ∃ q : Addr, e = .returned (.pointer (some q)) ∧ Calls Tryd.prog 27 #[.pointer (some q)] w3 (Mk.T4 b q Q)
theorem Mk.tparse_short (s : ByteArray) (w : World) (hb : ¬ (s.size : Int) > 20000) (Q : Ending → World → Prop)
  (h : Calls Tryd.prog 26 #[.string s] ((w.alloc (.cells #[.int .i64 0, .int .i64 0, .string ⟨#[]⟩, .slice none 0 0, .slice none 0 0] 29)).alloc (.cells #[.nilIface] 40)) (Mk.T3 w.heap.size Q)) :
  Calls Tryd.prog 11 #[.string s] w Q := by
 have hmf : ∀ (fn : Fn) (first cap : Array Value) (w : World), (Instr.makeFunc fn first cap).run Tryd.prog w = .ok (.func fn first cap) w := fun _ _ _ _ => rfl
 go_enter_defers Tryd.func11, Tryd.ntmps11
 go_wp2_with (go_at_call 26; refine h.mono ?_)
 clear h
 rintro e w3 ⟨q, rfl, h35⟩
 go_wp2_with (go_at_call 27; refine h35.mono ?_)
 clear h35
 rintro e w4 (⟨x0, x1, x2, x3, x4, rfl, hx, hh, h36⟩ | ⟨v, rfl, hh, hq⟩)
 ·obtain ⟨c0, c1, c2, c3, c4, z0, z1, z2, z3, z4⟩ := hh.c0
  go_wp2_with (go_at_call 28; skip)
  obtain ⟨n, m, st, p, l, c, pp, ll, cc⟩ := hx
  have n3 : Near w.heap.size (w.heap.size + 1) w4 (((((w4.setCell ⟨w.heap.size, 0, none⟩ (.int .i64 n)).setCell ⟨w.heap.size, 1, none⟩ (.int .i64 m)).setCell ⟨w.heap.size, 2, none⟩ (.string st)).setCell ⟨w.heap.size, 3, none⟩ (.slice p l c)).setCell ⟨w.heap.size, 4, none⟩ (.slice pp ll cc)) :=
   (((((Near.refl w.heap.size (w.heap.size + 1) w4).setCell ⟨w.heap.size, 0, none⟩ (.inl rfl) _).setCell ⟨w.heap.size, 1, none⟩ (.inl rfl) _).setCell ⟨w.heap.size, 2, none⟩ (.inl rfl) _).setCell ⟨w.heap.size, 3, none⟩ (.inl rfl) _).setCell ⟨w.heap.size, 4, none⟩ (.inl rfl) _
  have h3 := hh.setL (y0 := .int .i64 n) (y1 := .int .i64 m) (y2 := .string st) (y3 := .slice p l c) (y4 := .slice pp ll cc)
  have h36' := h36.out _ n3 h3
  have d1 : (w4.setCell ⟨w.heap.size, 0, none⟩ (.int .i64 n)).cell? ⟨w.heap.size, 1, none⟩ = some (.int .i64 0) := by
   rw [World.cell?_setCell_other _ _ _ _ (by simp)]; exact c1
  have d2 : ((w4.setCell ⟨w.heap.size, 0, none⟩ (.int .i64 n)).setCell ⟨w.heap.size, 1, none⟩ (.int .i64 m)).cell? ⟨w.heap.size, 2, none⟩ = some (.string ⟨#[]⟩) := by
   rw [World.cell?_setCell_other _ _ _ _ (by simp), World.cell?_setCell_other _ _ _ _ (by simp)]; exact c2
  have d3 : (((w4.setCell ⟨w.heap.size, 0, none⟩ (.int .i64 n)).setCell ⟨w.heap.size, 1, none⟩ (.int .i64 m)).setCell ⟨w.heap.size, 2, none⟩ (.string st)).cell? ⟨w.heap.size, 3, none⟩ = some (.slice none 0 0) := by
   rw [World.cell?_setCell_other _ _ _ _ (by simp), World.cell?_setCell_other _ _ _ _ (by simp), World.cell?_setCell_other _ _ _ _ (by simp)]; exact c3
  have d4 : ((((w4.setCell ⟨w.heap.size, 0, none⟩ (.int .i64 n)).setCell ⟨w.heap.size, 1, none⟩ (.int .i64 m)).setCell ⟨w.heap.size, 2, none⟩ (.string st)).setCell ⟨w.heap.size, 3, none⟩ (.slice p l c)).cell? ⟨w.heap.size, 4, none⟩ = some (.slice none 0 0) := by
   rw [World.cell?_setCell_other _ _ _ _ (by simp), World.cell?_setCell_other _ _ _ _ (by simp), World.cell?_setCell_other _ _ _ _ (by simp), World.cell?_setCell_other _ _ _ _ (by simp)]; exact c4
  simp only [run_store_int, run_store_string, run_store_slice, stored, World.frozen?_setCell, c0, d1, d2, d3, d4, z0, z1, z2, z3, z4, Result.andThen, Bool.false_eq_true, if_false]
  clear h36 d1 d2 d3 d4 n3 hh c0 c1 c2 c3 c4 z0 z1 z2 z3 z4
  generalize (((((w4.setCell ⟨w.heap.size, 0, none⟩ (.int .i64 n)).setCell ⟨w.heap.size, 1, none⟩ (.int .i64 m)).setCell ⟨w.heap.size, 2, none⟩ (.string st)).setCell ⟨w.heap.size, 3, none⟩ (.slice p l c)).setCell ⟨w.heap.size, 4, none⟩ (.slice pp ll cc)) = w4' at *
  clear w4
  simp only [Oper.upon, Act.put]
  rename_i K7 a7 K6 a6
  apply a6
  clear a6 K6
  simp only [wpList, Exit.then]
  apply a7
  clear a7 K7
  go_wp2_with (go_at_call 28; refine h36'.mono ?_)
  clear h36'
  rintro e w5 (⟨rfl, hh, hq⟩ | ⟨v, rfl, hh, hq⟩)
  ·obtain ⟨c0, c1, c2, c3, c4, z0, z1, z2, z3, z4⟩ := hh.c0
   obtain ⟨c5, z5⟩ := hh.e0
   clear h3
   go_wp2
   have hh2 := hh.setL (y0 := .int .i64 n) (y1 := .int .i64 m) (y2 := .string st) (y3 := .slice p l c) (y4 := .slice pp ll cc)
   have hh3 := hh2.setE (v := .nilIface)
   have hn : Near w.heap.size (w.heap.size + 1) w5 ((((((w5.setCell ⟨w.heap.size, 0, none⟩ (.int .i64 n)).setCell ⟨w.heap.size, 1, none⟩ (.int .i64 m)).setCell ⟨w.heap.size, 2, none⟩ (.string st)).setCell ⟨w.heap.size, 3, none⟩ (.slice p l c)).setCell ⟨w.heap.size, 4, none⟩ (.slice pp ll cc)).setCell ⟨w.heap.size + 1, 0, none⟩ .nilIface) :=
    ((((((Near.refl w.heap.size (w.heap.size + 1) w5).setCell ⟨w.heap.size, 0, none⟩ (.inl rfl) _).setCell ⟨w.heap.size, 1, none⟩ (.inl rfl) _).setCell ⟨w.heap.size, 2, none⟩ (.inl rfl) _).setCell ⟨w.heap.size, 3, none⟩ (.inl rfl) _).setCell ⟨w.heap.size, 4, none⟩ (.inl rfl) _).setCell ⟨w.heap.size + 1, 0, none⟩ (.inr rfl) _
   have hq' := hq _ hn
   obtain ⟨k0, k1, k2, k3, k4, j0, j1, j2, j3, j4⟩ := hh3.c0
   obtain ⟨k5, j5⟩ := hh3.e0
   clear hh2 hn hq
   generalize (((((w5.setCell ⟨w.heap.size, 0, none⟩ (.int .i64 n)).setCell ⟨w.heap.size, 1, none⟩ (.int .i64 m)).setCell ⟨w.heap.size, 2, none⟩ (.string st)).setCell ⟨w.heap.size, 3, none⟩ (.slice p l c)).setCell ⟨w.heap.size, 4, none⟩ (.slice pp ll cc)).setCell ⟨w.heap.size + 1, 0, none⟩ .nilIface = w6 at *
   simp [bodyPostD, Leaves, settle, go_sem]
   refine ⟨25, _, ⟨rfl, rfl⟩, (Mk.catch_idle _ _).mono ?_⟩
   rintro e u w7 ⟨rfl, rfl, rfl⟩
   simp
   refine ⟨24, _, ⟨rfl, rfl⟩, (Mk.tclos_nil _ _ _ _ k5).mono ?_⟩
   rintro e u w7 ⟨rfl, rfl, rfl⟩
   simp [Leaves, settle, results, Tryd.results11, go_sem, k0, k1, k2, k3, k4, k5]
   exact hq'
  ·obtain ⟨c0, z0⟩ := hh.e0
   have hw : (w5.setCell ⟨w.heap.size + 1, 0, none⟩ (.iface 58 v)).cell? ⟨w.heap.size + 1, 0, none⟩ = some (.iface 58 v) := World.cell?_setCell_same' _ _ _ (by simp [c0])
   have hh1 := hh.setE (v := .iface 58 v)
   have hh2 := hh1.setL (y0 := .int .i64 0) (y1 := .int .i64 0) (y2 := .string ⟨#[]⟩) (y3 := .slice none 0 0) (y4 := .slice none 0 0)
   simp [bodyPostD, Leaves, settle, go_sem]
   refine ⟨25, _, ⟨rfl, rfl⟩, (Mk.catch_pan _ v w5 .nilIface c0 z0).mono ?_⟩
   rintro e u w6 ⟨rfl, rfl, rfl⟩
   simp
   refine ⟨24, _, ⟨rfl, rfl⟩, (Mk.tclos_err _ _ _ _ v _ 29 hw hh1.l rfl).mono ?_⟩
   rintro e u w6 ⟨rfl, rfl, rfl⟩
   simp [putCells]
   obtain ⟨k0, k1, k2, k3, k4, j0, j1, j2, j3, j4⟩ := hh2.c0
   obtain ⟨k5, j5⟩ := hh2.e0
   have hn : Near w.heap.size (w.heap.size + 1) w5 ((((((w5.setCell ⟨w.heap.size + 1, 0, none⟩ (.iface 58 v)).setCell ⟨w.heap.size, 0, none⟩ (.int .i64 0)).setCell ⟨w.heap.size, 1, none⟩ (.int .i64 0)).setCell ⟨w.heap.size, 2, none⟩ (.string ⟨#[]⟩)).setCell ⟨w.heap.size, 3, none⟩ (.slice none 0 0)).setCell ⟨w.heap.size, 4, none⟩ (.slice none 0 0)) :=
    ((((((Near.refl w.heap.size (w.heap.size + 1) w5).setCell ⟨w.heap.size + 1, 0, none⟩ (.inr rfl) _).setCell ⟨w.heap.size, 0, none⟩ (.inl rfl) _).setCell ⟨w.heap.size, 1, none⟩ (.inl rfl) _).setCell ⟨w.heap.size, 2, none⟩ (.inl rfl) _).setCell ⟨w.heap.size, 3, none⟩ (.inl rfl) _).setCell ⟨w.heap.size, 4, none⟩ (.inl rfl) _
   have := hq _ hn
   generalize (((((w5.setCell ⟨w.heap.size + 1, 0, none⟩ (.iface 58 v)).setCell ⟨w.heap.size, 0, none⟩ (.int .i64 0)).setCell ⟨w.heap.size, 1, none⟩ (.int .i64 0)).setCell ⟨w.heap.size, 2, none⟩ (.string ⟨#[]⟩)).setCell ⟨w.heap.size, 3, none⟩ (.slice none 0 0)).setCell ⟨w.heap.size, 4, none⟩ (.slice none 0 0) = w6 at *
   simp [Leaves, settle, results, Tryd.results11, go_sem, k0, k1, k2, k3, k4, k5]
   exact this
 ·obtain ⟨c0, z0⟩ := hh.e0
  have hw : (w4.setCell ⟨w.heap.size + 1, 0, none⟩ (.iface 58 v)).cell? ⟨w.heap.size + 1, 0, none⟩ = some (.iface 58 v) := World.cell?_setCell_same' _ _ _ (by simp [c0])
  have hh1 := hh.setE (v := .iface 58 v)
  have hh2 := hh1.setL (y0 := .int .i64 0) (y1 := .int .i64 0) (y2 := .string ⟨#[]⟩) (y3 := .slice none 0 0) (y4 := .slice none 0 0)
  simp [bodyPostD, Leaves, settle, go_sem]
  refine ⟨25, _, ⟨rfl, rfl⟩, (Mk.catch_pan _ v w4 .nilIface c0 z0).mono ?_⟩
  rintro e u w5 ⟨rfl, rfl, rfl⟩
  simp
  refine ⟨24, _, ⟨rfl, rfl⟩, (Mk.tclos_err _ _ _ _ v _ 29 hw hh1.l rfl).mono ?_⟩
  rintro e u w5 ⟨rfl, rfl, rfl⟩
  simp [putCells]
  obtain ⟨k0, k1, k2, k3, k4, j0, j1, j2, j3, j4⟩ := hh2.c0
  obtain ⟨k5, j5⟩ := hh2.e0
  have hn : Near w.heap.size (w.heap.size + 1) w4 ((((((w4.setCell ⟨w.heap.size + 1, 0, none⟩ (.iface 58 v)).setCell ⟨w.heap.size, 0, none⟩ (.int .i64 0)).setCell ⟨w.heap.size, 1, none⟩ (.int .i64 0)).setCell ⟨w.heap.size, 2, none⟩ (.string ⟨#[]⟩)).setCell ⟨w.heap.size, 3, none⟩ (.slice none 0 0)).setCell ⟨w.heap.size, 4, none⟩ (.slice none 0 0)) :=
   ((((((Near.refl w.heap.size (w.heap.size + 1) w4).setCell ⟨w.heap.size + 1, 0, none⟩ (.inr rfl) _).setCell ⟨w.heap.size, 0, none⟩ (.inl rfl) _).setCell ⟨w.heap.size, 1, none⟩ (.inl rfl) _).setCell ⟨w.heap.size, 2, none⟩ (.inl rfl) _).setCell ⟨w.heap.size, 3, none⟩ (.inl rfl) _).setCell ⟨w.heap.size, 4, none⟩ (.inl rfl) _
  have := hq _ hn
  generalize (((((w4.setCell ⟨w.heap.size + 1, 0, none⟩ (.iface 58 v)).setCell ⟨w.heap.size, 0, none⟩ (.int .i64 0)).setCell ⟨w.heap.size, 1, none⟩ (.int .i64 0)).setCell ⟨w.heap.size, 2, none⟩ (.string ⟨#[]⟩)).setCell ⟨w.heap.size, 3, none⟩ (.slice none 0 0)).setCell ⟨w.heap.size, 4, none⟩ (.slice none 0 0) = w5 at *
  simp [Leaves, settle, results, Tryd.results11, go_sem, k0, k1, k2, k3, k4, k5]
  exact this
end Go.Proofs
end
section
namespace Go.Ab
open Go.RowKit Go.Proofs
structure KpT (B : Nat) (G : Gh) (w : World) (x y : Array Value) : Prop where
 has : Mk.HasT B x y w
 oa : G.owner B = none
 ob : G.owner (B + 1) = none
 la : G.lim B = 0
 lb : G.lim (B + 1) = 0
theorem KpT.lt {B : Nat} {G : Gh} {w : World} {x y : Array Value} (h : KpT B G w x y) : B + 1 < w.heap.size := by
 have := h.has.e
 exact (Array.getElem?_eq_some_iff.1 this).1
theorem KpT.ext {B : Nat} {G G' : Gh} {w w' : World} {x y : Array Value} (h : KpT B G w x y) (e : Ext G w G' w') : KpT B G' w' x y := by
 have hl := h.lt
 obtain ⟨a1, a2, a3⟩ := e.old B (by omega) h.oa
 obtain ⟨b1, b2, b3⟩ := e.old (B + 1) hl h.ob
 exact ⟨⟨by rw [a1]; exact h.has.l, by rw [b1]; exact h.has.e⟩, a3, b3, by rw [a2]; exact h.la, by rw [b2]; exact h.lb⟩
def Mk.ztmV : V := .agg [.int .i64 0, .int .i64 0, .str (ByteArray.mk #[]), .slice 3 74 [], .slice 5 29 []]
def Mk.tmV (k m : Int) (n : ByteArray) (a b : V) : V := .agg [.int .i64 k, .int .i64 m, .str n, a, b]
def Mk.asTm (v : V) : Option (Int × Int × ByteArray × V × V) := match v with
 | .agg [.int .i64 k, .int .i64 m, .str n, a, b] => if (slv a && slv b) = true then some (k, m, n, a, b) else none
 | _ => none
theorem Mk.asTm_inv {v : V} {x : Int × Int × ByteArray × V × V} (h : Mk.asTm v = some x) : v = Mk.tmV x.1 x.2.1 x.2.2.1 x.2.2.2.1 x.2.2.2.2 ∧ slv x.2.2.2.1 = true ∧ slv x.2.2.2.2 = true := by
 unfold Mk.asTm at h
 split at h
 ·split at h
  ·rename_i hh
   obtain rfl := Option.some.inj h
   have := Bool.and_eq_true_iff.1 hh
   exact ⟨rfl, this.1, this.2⟩
  ·simp at h
 ·simp at h
def fc2t : List Cell := [(.int .i64 2, false), (.int .i64 0, false)]
def Mk.caughtT (v : V) (σ : Sto) : Option Res := match v with
 | .iface t x => if t = 58 then some (.ret [(Mk.ztmV, false), (.iface 58 x, false)], σ) else none
 | _ => none
theorem Mk.caughtT_inv {v : V} {σ : Sto} {r : Res} (h : Mk.caughtT v σ = some r) : ∃ x, v = .iface 58 x ∧ r = (.ret [(Mk.ztmV, false), (.iface 58 x, false)], σ) := by
 unfold Mk.caughtT at h
 split at h
 ·split at h
  ·rename_i t x ht; subst ht; exact ⟨x, rfl, (Option.some.inj h).symm⟩
  ·simp at h
 ·simp at h
def Mk.tparse5 (l : V) : Option Res → Option Res
 | some (.ret [], σ) => some (.ret [(l, false), (.nilIface, false)], σ)
 | some (.pan v, σ) => Mk.caughtT v σ
 | _ => none
def Mk.tparse4 (call : CallF) (q : V) : Option Res → Option Res
 | some (.ret [(l, _)], σ) => (Mk.asTm l).bind fun _ => Mk.tparse5 l (call 28 [(q, false)] σ)
 | some (.pan v, σ) => Mk.caughtT v σ
 | _ => none
def Mk.tparse3 (call : CallF) : Option Res → Option Res
 | some (.ret [(.ptr t b o, _)], σ) => Mk.tparse4 call (.ptr t b o) (call 27 [(.ptr t b o, false)] σ)
 | _ => none
def Mk.tparseS (call : CallF) (args : List Cell) (σ : Sto) : Option Res :=
 match args with
 | [(.str s, _)] =>
  if (s.size : Int) > 20000 then some (.ret [(Mk.ztmV, false), (.iface 58 (.ptr 31 σ.length 0), false)], σ ++ [fc2t])
  else Mk.tparse3 call (call 26 [(.str s, false)] σ)
 | _ => none
section
variable {C : Ctx} {call : CallF}
theorem rel_ztm (G : Gh) (w : World) : Rel G w Mk.ztmV (.agg #[.int .i64 0, .int .i64 0, .string ⟨#[]⟩, .slice none 0 0, .slice none 0 0]) := by
 refine Rel.agg _ [.int .i64 0, .int .i64 0, .string ⟨#[]⟩, .slice none 0 0, .slice none 0 0] rfl ?_ ?_
 ·intro i x hx
  match i with
  | 0 => simp at hx; subst hx; rfl
  | 1 => simp at hx; subst hx; rfl
  | 2 => simp at hx; subst hx; rfl
  | 3 => simp at hx; subst hx; rfl
  | 4 => simp at hx; subst hx; rfl
  | i + 5 => simp at hx
 ·intro i v x hv hx
  match i with
  | 0 => simp at hx hv; subst hx; subst hv; exact .int _ _
  | 1 => simp at hx hv; subst hx; subst hv; exact .int _ _
  | 2 => simp at hx hv; subst hx; subst hv; exact .str _
  | 3 => simp at hx hv; subst hx; subst hv; exact .snil _ _
  | 4 => simp at hx hv; subst hx; subst hv; exact .snil _ _
  | i + 5 => simp at hx
theorem slv_rel {G : Gh} {w : World} {a : V} {c : Value} (ha : slv a = true) (h : Rel G w a c) : ∃ p l k, c = .slice p l k := by
 unfold slv at ha
 split at ha
 ·cases h <;> exact ⟨_, _, _, rfl⟩
 ·cases h; exact ⟨_, _, _, rfl⟩
 ·simp at ha
theorem rel_tm {G : Gh} {w : World} {k m : Int} {n : ByteArray} {a b : V} {c : Value} (ha : slv a = true) (hb : slv b = true) (h : Rel G w (Mk.tmV k m n a b) c) : ∃ x0 x1 x2 x3 x4, c = .agg #[x0, x1, x2, x3, x4] ∧ Mk.ShpT x0 x1 x2 x3 x4 := by
 cases h with
 | agg _ xs h1 h2 h3 =>
  obtain ⟨x0, x1, x2, x3, x4, rfl⟩ : ∃ x0 x1 x2 x3 x4, xs = [x0, x1, x2, x3, x4] := by
   match xs, h1 with
   | [x0, x1, x2, x3, x4], _ => exact ⟨x0, x1, x2, x3, x4, rfl⟩
  refine ⟨x0, x1, x2, x3, x4, rfl, ?_⟩
  have r0 := h3 0 _ _ rfl rfl
  have r1 := h3 1 _ _ rfl rfl
  have r2 := h3 2 _ _ rfl rfl
  obtain ⟨_, _, _, rfl⟩ := slv_rel ha (h3 3 _ _ rfl rfl)
  obtain ⟨_, _, _, rfl⟩ := slv_rel hb (h3 4 _ _ rfl rfl)
  cases r0
  cases r1
  cases r2
  exact .mk _ _ _ _ _ _ _ _ _
theorem tparse_ok (hcall : CallOk Tryd.prog C call) (henter : ∀ (args : Array Value) (w : World), (callFunc 11 args).run Tryd.prog w = .ok (.enter 11 args) w) :
  CallOk Tryd.prog C (fun g args σ => if g = 11 then Mk.tparseS call args σ else none) := by
 intro g args σ r h
 simp only at h
 split at h
 case isFalse => simp at h
 rename_i hg
 subst hg
 refine ⟨henter, fun G w vals hS hcl hlen hv => ?_⟩
 unfold Mk.tparseS at h
 split at h
 case h_2 => simp at h
 rename_i s ow
 obtain ⟨x, rfl⟩ : ∃ x, vals = [x] := by
  match vals, hlen with
  | [x], _ => exact ⟨x, rfl⟩
 have hx := (hv 0 _ x rfl rfl).1
 simp only at hx
 cases hx with
 | str =>
 have I1 := ((sinv_inv hS).alloc (.cells #[.int .i64 0, .int .i64 0, .string ⟨#[]⟩, .slice none 0 0, .slice none 0 0] 29) 0 none)
 have E1 := Ext.alloc hS.wf (.cells #[.int .i64 0, .int .i64 0, .string ⟨#[]⟩, .slice none 0 0, .slice none 0 0] 29) 0 none
 split at h
 ·rename_i hb
  obtain rfl := Option.some.inj h
  have I2 := I1.alloc (.cells #[.iface 58 (.pointer (some ⟨w.heap.size + 1 + 1, 0, none⟩))] 40) 0 none
  have E2 := Ext.alloc I1.sto.wf (.cells #[.iface 58 (.pointer (some ⟨w.heap.size + 1 + 1, 0, none⟩))] 40) 0 none
  obtain ⟨G3, E3, I3, n3, m3, t3⟩ := I2.newSto (C := { C with glob := C.glob }) fc2t #[.int .i64 2, .int .i64 0] 31 rfl (fun j c x hc hx => by
   match j with
   | 0 => simp [fc2t] at hc hx; subst hc; subst hx; exact ⟨⟨.int _ _, fun ho => by simp at ho⟩, rfl⟩
   | 1 => simp [fc2t] at hc hx; subst hc; subst hx; exact ⟨⟨.int _ _, fun ho => by simp at ho⟩, rfl⟩
   | j + 2 => simp [fc2t] at hc)
  refine (Mk.tparse_long s w hb).mono fun en w' ⟨he, hw⟩ => ?_
  subst he; subst hw
  refine ⟨G3, (E1.trans E2).trans E3, I3.sto, end_two (rel_ztm _ _) (.iface 58 _ _ ?_)⟩
  have hp := Rel.ptr (G := G3) (w := ((w.alloc (.cells #[.int .i64 0, .int .i64 0, .string ⟨#[]⟩, .slice none 0 0, .slice none 0 0] 29)).alloc (.cells #[.iface 58 (.pointer (some ⟨w.heap.size + 1 + 1, 0, none⟩))] 40)).alloc (.cells #[.int .i64 2, .int .i64 0] 31)) 31 σ.length 0 (by rw [n3]; simp) t3
  have hm : G3.μ σ.length = w.heap.size + 1 + 1 := by rw [show σ.length = _ from rfl, m3]; simp
  rw [hm] at hp
  exact hp
 ·rename_i hb
  have I2 := I1.alloc (.cells #[.nilIface] 40) 0 none
  have E2 := E1.trans (Ext.alloc I1.sto.wf (.cells #[.nilIface] 40) 0 none)
  have K1 : KpT w.heap.size ((G.new w 0 none).new (w.alloc (.cells #[.int .i64 0, .int .i64 0, .string ⟨#[]⟩, .slice none 0 0, .slice none 0 0] 29)) 0 none)
    ((w.alloc (.cells #[.int .i64 0, .int .i64 0, .string ⟨#[]⟩, .slice none 0 0, .slice none 0 0] 29)).alloc (.cells #[.nilIface] 40)) #[.int .i64 0, .int .i64 0, .string ⟨#[]⟩, .slice none 0 0, .slice none 0 0] #[.nilIface] := by
   have hw0 := hS.wf w.heap.size (Nat.le_refl _)
   refine ⟨⟨?_, ?_⟩, ?_, ?_, ?_, ?_⟩
   ·rw [heap_alloc_lt (by simp)]; exact heap_alloc_new _ _
   ·have := heap_alloc_new (w.alloc (.cells #[.int .i64 0, .int .i64 0, .string ⟨#[]⟩, .slice none 0 0, .slice none 0 0] 29)) (.cells #[.nilIface] 40)
    simpa using this
   ·simp [Gh.new, upd]
   ·simp [Gh.new, upd]
   ·simp [Gh.new, upd]
   ·simp [Gh.new, upd]
  have C1 : Clean ((G.new w 0 none).new (w.alloc (.cells #[.int .i64 0, .int .i64 0, .string ⟨#[]⟩, .slice none 0 0, .slice none 0 0] 29)) 0 none) 1 := by
   intro i p hp
   simp only [Gh.new, upd] at hp
   split at hp
   ·simp at hp
   ·split at hp
    ·simp at hp
    ·exact hcl i p hp
  have S1 := I2.sto
  generalize hG1 : (G.new w 0 none).new (w.alloc (.cells #[.int .i64 0, .int .i64 0, .string ⟨#[]⟩, .slice none 0 0, .slice none 0 0] 29)) 0 none = G1 at *
  have B1 := E2.toB (Nat.le_refl w.heap.size)
  generalize hr34 : call 26 [(.str s, false)] σ = r34 at h
  unfold Mk.tparse3 at h
  split at h
  case h_2 => simp at h
  rename_i t b o ow3 σ3
  refine Mk.tparse_short s w hb _ ?_
  refine ((hcall 26 _ _ _ hr34).2 G1 _ [.string s] S1 C1 rfl (fun i c x hc hx => by
   match i with
   | 0 => simp at hc hx; subst hc; subst hx; exact ⟨.str _, fun ho => by simp at ho⟩
   | i + 1 => simp at hc)).mono fun e w3 hh => ?_
  obtain ⟨G3, E3, S3, cs, hcl3, rfl, hrel⟩ := hh
  obtain ⟨c3, rfl⟩ : ∃ c, cs = [c] := by
   match cs, hcl3 with
   | [c], _ => exact ⟨c, rfl⟩
  have hp3 := (hrel 0 _ _ rfl rfl).1
  simp only at hp3
  have hp3' := hp3
  cases hp3 with
  | ptr _ _ _ hbN hty =>
  refine ⟨⟨G3.μ b, o, none⟩, by simp, ?_⟩
  have K3 := (K1.ext E3).ext (Gh.bare_ext (G := G3))
  have B3 := (B1.trans (E3.toB (by simp; omega))).trans ((Gh.bare_ext (G := G3)).toB (by have := K3.lt; omega))
  have S3' := S3.bare
  have R3 := hp3'.mono (Gh.bare_ext (G := G3) (w := w3))
  clear hp3' E3 S3 hrel
  generalize hr35 : call 27 [(.ptr t b o, false)] σ3 = r35 at h
  unfold Mk.tparse4 at h
  split at h
  case h_3 => simp at h
  ·rename_i l owl σ4
   obtain ⟨lx, hlx, h⟩ := bind2 h
   obtain ⟨rfl, hsl, hsl2⟩ := Mk.asTm_inv hlx
   have H35 := (hcall 27 _ _ _ hr35).2 G3.bare w3 [.pointer (some ⟨G3.μ b, o, none⟩)] S3' (Gh.bare_clean _) rfl (fun i c x hc hx => by
    match i with
    | 0 => simp at hc hx; subst hc; subst hx; exact ⟨R3, fun ho => by simp at ho⟩
    | i + 1 => simp at hc)
   refine H35.mono fun e w4 hh => ?_
   obtain ⟨G4, E4, S4, cs, hcl4, rfl, hrel⟩ := hh
   obtain ⟨c4, rfl⟩ : ∃ c, cs = [c] := by
    match cs, hcl4 with
    | [c], _ => exact ⟨c, rfl⟩
   have hl4 := (hrel 0 _ _ rfl rfl).1
   simp only at hl4
   obtain ⟨x0, x1, x2, x3, x4, rfl, hshp⟩ := rel_tm hsl hsl2 hl4
   have K4 := (K3.ext E4)
   have B4 := B3.trans (E4.toB (by have := K3.lt; omega))
   refine .inl ⟨x0, x1, x2, x3, x4, by simp, hshp, K4.has, fun w4' hn hhas => ?_⟩
   have K4' : KpT w.heap.size G4.bare w4' #[x0, x1, x2, x3, x4] #[.nilIface] := ⟨hhas, Gh.bare_none K4.oa, Gh.bare_none K4.ob, K4.la, K4.lb⟩
   have S4' := (hn.sinv K4.la K4.lb K4.oa K4.ob S4).bare
   have B4' := (B4.trans (hn.extB K4.la K4.lb (Nat.le_refl _) (by omega))).trans ((Gh.bare_ext (G := G4)).toB (by have := K4'.lt; omega))
   have R4 := (hn.rel K4.la K4.lb (R3.mono E4)).mono (Gh.bare_ext (G := G4) (w := w4'))
   have hl4' := (hn.rel K4.la K4.lb hl4).mono (Gh.bare_ext (G := G4) (w := w4'))
   generalize hr36 : call 28 [(.ptr t b o, false)] σ4 = r36 at h
   have H36 : ∀ r, call 28 [(.ptr t b o, false)] σ4 = some r → _ := fun r hr => (hcall 28 _ _ r hr).2 G4.bare w4' [.pointer (some ⟨G3.μ b, o, none⟩)] S4' (Gh.bare_clean _) rfl (fun i c x hc hx => by
    match i with
    | 0 => simp at hc hx; subst hc; subst hx; exact ⟨R4, fun ho => by simp at ho⟩
    | i + 1 => simp at hc)
   unfold Mk.tparse5 at h
   split at h
   case h_3 => simp at h
   ·rename_i σ5
    obtain rfl := Option.some.inj h
    refine (H36 _ hr36).mono fun e w5 hh => ?_
    obtain ⟨G5, E5, S5, cs, hcl5, rfl, hrel5⟩ := hh
    obtain rfl : cs = [] := List.length_eq_zero_iff.1 hcl5
    have K5 := K4'.ext E5
    have B5 := B4'.trans (E5.toB (by have := K4'.lt; omega))
    refine .inl ⟨by simp, K5.has, fun w6 hn6 => ⟨G5, (B5.trans (hn6.extB K5.la K5.lb (Nat.le_refl _) (by omega))).toExt, hn6.sinv K5.la K5.lb K5.oa K5.ob S5, ?_⟩⟩
    exact end_two (hn6.rel K5.la K5.lb (hl4'.mono E5)) .nilIface
   ·rename_i v σ5
    obtain ⟨x, rfl, rfl⟩ := Mk.caughtT_inv h
    refine (H36 _ hr36).mono fun e w5 hh => ?_
    obtain ⟨G5, E5, S5, c5, rfl, hrel5⟩ := hh
    have K5 := K4'.ext E5
    have B5 := B4'.trans (E5.toB (by have := K4'.lt; omega))
    cases hrel5 with
    | iface _ _ cx hcx =>
    refine .inr ⟨cx, rfl, K5.has, fun w6 hn6 => ⟨G5, (B5.trans (hn6.extB K5.la K5.lb (Nat.le_refl _) (by omega))).toExt, hn6.sinv K5.la K5.lb K5.oa K5.ob S5, ?_⟩⟩
    exact end_two (rel_ztm _ _) (.iface _ _ _ (hn6.rel K5.la K5.lb hcx))
  ·rename_i v σ4
   obtain ⟨x, rfl, rfl⟩ := Mk.caughtT_inv h
   have H35 := (hcall 27 _ _ _ hr35).2 G3.bare w3 [.pointer (some ⟨G3.μ b, o, none⟩)] S3' (Gh.bare_clean _) rfl (fun i c x hc hx => by
    match i with
    | 0 => simp at hc hx; subst hc; subst hx; exact ⟨R3, fun ho => by simp at ho⟩
    | i + 1 => simp at hc)
   refine H35.mono fun e w4 hh => ?_
   obtain ⟨G4, E4, S4, c4, rfl, hrel4⟩ := hh
   have K4 := (K3.ext E4)
   have B4 := B3.trans (E4.toB (by have := K3.lt; omega))
   cases hrel4 with
   | iface _ _ cx hcx =>
   refine .inr ⟨cx, rfl, K4.has, fun w6 hn6 => ⟨G4, (B4.trans (hn6.extB K4.la K4.lb (Nat.le_refl _) (by omega))).toExt, hn6.sinv K4.la K4.lb K4.oa K4.ob S4, ?_⟩⟩
   exact end_two (rel_ztm _ _) (.iface _ _ _ (hn6.rel K4.la K4.lb hcx))
end
end Go.Ab
end
section
namespace Go.Ab.Mk
open Go.Proofs Go.Ab
theorem asTm_tm (t : Tm) : asTm t.val = some (t.kind, (t.num : Int), t.name, .slice 3 74 (t.lvs.map Lv.enc), .slice 5 29 t.args) := rfl
theorem tparse_law2 (s : ByteArray) (hs : s.size < 2 ^ 61) (σ : Sto) : ∃ err σ', tparseS (lim C) [(.str s, false)] σ = some (.ret [((tparseV s).1.val, false), (err, false)], σ') ∧ ErrOk err σ' (tparseV s).2.1 (tparseV s).2.2 ∧ ((tparseV s).2.1 = 0 → err = .nilIface) := by
 by_cases hb : (s.size : Int) > 20000
 ·have hv : tparseV s = (.var 0, 2, 0) := by unfold tparseV; rw [decide_eq_true hb]; rfl
  rw [hv]
  refine ⟨.iface 58 (.ptr 31 σ.length 0), σ ++ [fc2t], ?_, .inr ⟨σ.length, rfl, ?_⟩, fun h => absurd h (by decide)⟩
  ·simp only [tparseS, if_pos hb]; rfl
  ·simp [fc2t, fcell]
 ·have hb' : s.size ≤ 20000 := by omega
  have e34 := newScanner_law hs σ
  have hx := read_law hb' (s.size + 1) 0 (σ ++ [[]]) σ.length (by simp) (Nat.zero_le _) (by omega)
  have tk := rterm_goes s (s.size + 1) ⟨0, 0, 0⟩ (by simp) (.inr (by simp))
  have hg : ∀ x : List Cell, (σ ++ [[]]).set σ.length x = σ ++ [x] := fun x => by rw [List.set_append_right _ _ (Nat.le_refl _)]; simp
  have hv : tparseV s = (let x := rtermV (s.size + 1) s ⟨0, 0, 0⟩; let d := rdoneV s x.2; bif d.c != 0 then (.var 0, d.c, d.a) else (x.1, d.c, d.a)) := by unfold tparseV; rw [decide_eq_false hb]; rfl
  rw [hv]
  generalize rtermV (s.size + 1) s ⟨0, 0, 0⟩ = x at hx tk
  simp only
  have hl : ∀ y : List Cell, (σ ++ [y]).length = (σ ++ [[]]).length := fun y => by simp
  rcases hx with ⟨p, h1, h5⟩ | ⟨h1, cs, h5⟩
  ·have hple := tk.le
   rw [h1] at hple ⊢
   rw [hg, hg] at h5
   have hsd := send_law (σ := σ ++ [[]]) (r := σ.length) (by simp) (s := s) hple
   rw [hg] at hsd
   rcases hsd with ⟨k1, k2⟩ | ⟨k1, k2⟩
   ·have hc : ((rdoneV s ⟨p, 0, 0⟩).c != 0) = false := by simp [k1]
    rw [hc]
    refine ⟨.nilIface, σ ++ [(stepV s p).cells s], ?_, .inl ⟨k1, rfl⟩, fun _ => rfl⟩
    simp only [tparseS, if_neg hb, e34, tparse3, h5, tparse4, asTm_tm, Option.bind_some, k2, tparse5, cond_false]
   ·have hc : ((rdoneV s ⟨p, 0, 0⟩).c != 0) = true := by simp [k1]
    rw [hc]
    refine ⟨.iface 58 (.ptr 31 (σ ++ [(stepV s p).cells s]).length 0), σ ++ [(stepV s p).cells s] ++ [fcell 1 (rdoneV s ⟨p, 0, 0⟩).a], ?_, .inr ⟨(σ ++ [(stepV s p).cells s]).length, rfl, ?_⟩, fun h => by simp [k1] at h⟩
    ·simp only [tparseS, if_neg hb, e34, tparse3, h5, tparse4, asTm_tm, Option.bind_some, k2, tparse5, caughtT, if_true, cond_true, hl (SC.cells s (stepV s p))]
     rfl
    ·simp [k1]
  ·rw [hg, hg] at h5
   have hd : rdoneV s x.2 = x.2 := rdone_stuck (by rw [h1]; decide)
   have hc : (x.2.c != 0) = true := by simp [h1]
   rw [hd, hc]
   refine ⟨.iface 58 (.ptr 31 (σ ++ [cs]).length 0), σ ++ [cs] ++ [fcell 1 x.2.a], ?_, .inr ⟨(σ ++ [cs]).length, rfl, ?_⟩, fun h => by simp [h1] at h⟩
   ·simp only [tparseS, if_neg hb, e34, tparse3, h5, tparse4, caughtT, if_true, cond_true, hl cs]
    rfl
   ·simp [h1]
end Go.Ab.Mk
end
section
set_option maxRecDepth 100000
namespace Go.Ab.Mq
open Go.Proofs Go.Ab
open List (getD)
open IntKind (wrap)
def TL : List (TypeId × TI) := [
 (0, ⟨(.tuple 0), 1, 0, [V.any]⟩),
 (3, ⟨(.int .i64), 1, 8, [(V.int .i64 (0 : Int))]⟩),
 (4, ⟨.bool, 1, 1, [V.bool false]⟩),
 (9, ⟨.string, 1, 16, [V.str ⟨#[]⟩]⟩),
 (22, ⟨(.slice 25), 1, 24, [V.slice 6 25 []]⟩),
 (25, ⟨(.struct [(0, 3), (1, 9), (2, 9), (3, 9), (4, 3), (5, 3)]), 6, 72, [(V.int .i64 (0 : Int)), V.str ⟨#[]⟩, V.str ⟨#[]⟩, V.str ⟨#[]⟩, (V.int .i64 (0 : Int)), (V.int .i64 (0 : Int))]⟩),
 (26, ⟨(.slice 74), 1, 24, [V.slice 3 74 []]⟩),
 (27, ⟨(.slice 29), 1, 24, [V.slice 5 29 []]⟩),
 (29, ⟨(.struct [(0, 3), (1, 3), (2, 9), (3, 26), (4, 27)]), 5, 80, [(V.int .i64 (0 : Int)), (V.int .i64 (0 : Int)), V.str ⟨#[]⟩, V.slice 3 74 [], V.slice 5 29 []]⟩),
 (31, ⟨(.struct [(0, 3), (1, 3)]), 2, 16, [(V.int .i64 (0 : Int)), (V.int .i64 (0 : Int))]⟩),
 (32, ⟨(.tuple 2), 1, 0, [V.any]⟩),
 (40, ⟨.iface, 1, 16, [V.nilIface]⟩),
 (41, ⟨(.tuple 2), 1, 0, [V.any]⟩),
 (43, ⟨(.tuple 2), 1, 0, [V.any]⟩),
 (74, ⟨(.struct [(0, 3), (1, 9), (2, 26)]), 3, 48, [(V.int .i64 (0 : Int)), V.str ⟨#[]⟩, V.slice 3 74 []]⟩)]
noncomputable def termLawsH : Hints := { keep := fun i => if i = 0 then [0, 3, 4] else [], lp := [5, 6, 7, 8, 9, 14, 17, 43, 49, 54, 58, 66], ep := [40], roots := [(5, 5), (6, 6), (7, 7), (8, 8), (9, 9), (14, 14), (17, 17), (43, 5), (49, 5), (54, 7), (58, 9), (66, 5)], ord := fun i => if i = 13 then [0, 2, 1, 3, 4, 5] else if i = 23 then [0, 1, 2, 4, 5, 3, 6, 7, 8, 9] else [] }
noncomputable def termLawsC : Code := Tryd.f3.body.getD .skip
noncomputable def termLawsD : FDef := ⟨Tryd.f3, termLawsC, termLawsH⟩
noncomputable def termFactsH : Hints := { keep := fun i => [], lp := [1, 3], roots := [(1, 1), (3, 3)] }
noncomputable def termFactsC : Code := Tryd.f4.body.getD .skip
noncomputable def termFactsD : FDef := ⟨Tryd.f4, termFactsC, termFactsH⟩
noncomputable def FL : List (FuncId × FDef) := [(3, termLawsD), (4, termFactsD)]
noncomputable def C : Ctx := { T := look TL, glob := fun g => if g = 0 then some [V.str ⟨#[]⟩, V.str ⟨#[115, 111, 114, 116]⟩, V.str ⟨#[99, 111, 110, 115, 116]⟩, V.str ⟨#[97, 112, 112]⟩, V.str ⟨#[108, 97, 109]⟩, V.str ⟨#[112, 105]⟩, V.str ⟨#[108, 101, 116]⟩] else if g = 1 then some [V.slice 1 9 [[V.str ⟨#[]⟩], [V.str ⟨#[115, 111, 114, 116]⟩], [V.str ⟨#[99, 111, 110, 115, 116]⟩], [V.str ⟨#[97, 112, 112]⟩], [V.str ⟨#[108, 97, 109]⟩], [V.str ⟨#[112, 105]⟩], [V.str ⟨#[108, 101, 116]⟩]]] else if g = 2 then some [V.str ⟨#[]⟩, V.str ⟨#[115]⟩, V.str ⟨#[109, 97, 120]⟩, V.str ⟨#[105, 109, 97, 120]⟩] else if g = 5 then some (Go.Lib.pow10Tab.map fun z => V.int .u64 z) else none, ext := fun f => if f = 11 then some (Mk.tparseS (lim Mk.C)) else if f = 5 then some (lim Mk.C 5) else if f = 6 then some (lim Mk.C 6) else if f = 7 then some (lim Mk.C 7) else if f = 8 then some (lim Mk.C 8) else if f = 9 then some (lim Mk.C 9) else if f = 10 then some (lim Mk.C 10) else if f = 12 then some (lim Mk.C 12) else if f = 13 then some (lim Mk.C 13) else if f = 14 then some (lim Mk.C 14) else none, fdef := lookF FL }
theorem typesOk : ∀ t i, C.T t = some i → TOk Tryd.prog t i := look_ok (by kernel_rfl)
theorem ctxOk : CtxOk Tryd.prog C where
 mixed := by kernel_rfl
 T := typesOk
 fdef := by
  refine lookF_ok (P := Tryd.prog) (Q := fun f d => Tryd.prog.funcs[f]? = some d.fn ∧ d.fn.body = some d.code ∧ (∀ (args : Array Value) (w : World), (callFunc f args).run Tryd.prog w = .ok (.enter f args) w)) (L := FL) ?_
  intro p hp
  simp only [FL, List.mem_cons, List.not_mem_nil, or_false] at hp
  rcases hp with rfl | rfl
  ·exact ⟨Tryd.func3, by kernel_rfl, fun args w => Tryd.call3 args w⟩
  ·exact ⟨Tryd.func4, by kernel_rfl, fun args w => Tryd.call4 args w⟩
end Go.Ab.Mq
end
section
set_option maxRecDepth 100000
namespace Go.Ab.Mq
open Go.Proofs Go.Ab
open List (getD)
open IntKind (wrap)
noncomputable def termLawsk0 : List Nat := [0, 3, 4]
noncomputable def termLawss0 (call : CallF) (rec0 : LL → V → Int → RR) (d : LL) (e : V) (c : Int) (σ : Sto) : Option Res :=
 bif (decide (c < (d.length : Int))) then
 bif (decide (c < (1152921504606846976 : Int))) then
 (V.asBool e).bind fun b1 =>
 bif b1 then
 (grd (decide (0 ≤ c) && decide (c < d.length))).bind fun _ =>
 callK call 5 [((getD (getD d c.toNat []) 1 V.any), false)] σ 2 (fun a t =>
 (grd (V.fits (getD a 0 cellD).1 true 5)).bind fun _ =>
 (grd (V.fits (getD a 1 cellD).1 true 2)).bind fun _ =>
 callK call 5 [((getD (getD d c.toNat []) 2 V.any), false)] t 2 (fun b p =>
 (grd (V.fits (getD b 0 cellD).1 true 5)).bind fun _ =>
 (grd (V.fits (getD b 1 cellD).1 true 2)).bind fun _ =>
 (V.asInt (V.cell (getD a 1 cellD).1 0) .i64).bind fun i8 =>
 bif (i8 != (0 : Int)) then
 rec0 d e (wrap .i64 (c + (1 : Int))) p
 else
 (V.asInt (V.cell (getD b 1 cellD).1 0) .i64).bind fun i9 =>
 bif (i9 != (0 : Int)) then
 rec0 d e (wrap .i64 (c + (1 : Int))) p
 else
 callK call 6 [(V.agg [V.cell (getD a 0 cellD).1 0, V.cell (getD a 0 cellD).1 1, V.cell (getD a 0 cellD).1 2, V.cell (getD a 0 cellD).1 3, V.cell (getD a 0 cellD).1 4], false), (V.agg [V.cell (getD b 0 cellD).1 0, V.cell (getD b 0 cellD).1 1, V.cell (getD b 0 cellD).1 2, V.cell (getD b 0 cellD).1 3, V.cell (getD b 0 cellD).1 4], false)] p 1 (fun u q =>
 (V.asBool (getD u 0 cellD).1).bind fun b13 =>
 bif b13 then
 rec0 d e (wrap .i64 (c + (1 : Int))) q
 else
 callK call 7 [((getD (getD d c.toNat []) 4 V.any), false)] q 1 (fun f v =>
 callK call 8 [(V.agg [V.cell (getD a 0 cellD).1 0, V.cell (getD a 0 cellD).1 1, V.cell (getD a 0 cellD).1 2, V.cell (getD a 0 cellD).1 3, V.cell (getD a 0 cellD).1 4], false)] v 1 (fun g w =>
 callK call 10 [(V.agg [V.cell (getD a 0 cellD).1 0, V.cell (getD a 0 cellD).1 1, V.cell (getD a 0 cellD).1 2, V.cell (getD a 0 cellD).1 3, V.cell (getD a 0 cellD).1 4], false), ((V.int .i64 (1 : Int)), false), ((V.int .i64 (0 : Int)), false)] w 1 (fun x y =>
 callK call 9 [((getD x 0 cellD).1, false), (V.agg [V.cell (getD b 0 cellD).1 0, V.cell (getD b 0 cellD).1 1, V.cell (getD b 0 cellD).1 2, V.cell (getD b 0 cellD).1 3, V.cell (getD b 0 cellD).1 4], false)] y 1 (fun z a0 =>
 callK call 8 [((getD z 0 cellD).1, false)] a0 1 (fun r a1 =>
 callK call 11 [((getD g 0 cellD).1, false)] a1 2 (fun i a2 =>
 (grd (V.fits (getD i 0 cellD).1 true 5)).bind fun _ =>
 callK call 8 [(V.agg [V.cell (getD i 0 cellD).1 0, V.cell (getD i 0 cellD).1 1, V.cell (getD i 0 cellD).1 2, V.cell (getD i 0 cellD).1 3, V.cell (getD i 0 cellD).1 4], false)] a2 1 (fun a3 a4 =>
 callK call 12 [(V.agg [V.cell (getD a 0 cellD).1 0, V.cell (getD a 0 cellD).1 1, V.cell (getD a 0 cellD).1 2, V.cell (getD a 0 cellD).1 3, V.cell (getD a 0 cellD).1 4], false)] a4 2 (fun j a5 =>
 (grd (V.fits (getD j 0 cellD).1 true 5)).bind fun _ =>
 callK call 13 [(V.agg [V.cell (getD j 0 cellD).1 0, V.cell (getD j 0 cellD).1 1, V.cell (getD j 0 cellD).1 2, V.cell (getD j 0 cellD).1 3, V.cell (getD j 0 cellD).1 4], false), ((getD j 1 cellD).1, false)] a5 1 (fun a6 a7 =>
 callK call 8 [((getD a6 0 cellD).1, false)] a7 1 (fun s h =>
 (V.asStr (getD g 0 cellD).1).bind fun s44 =>
 bif (decide ((s44.size : Int) ≤ (20000 : Int))) then
 (V.ifaceNil (getD i 1 cellD).1).bind fun b45 =>
 bif (!b45) then
 some (.ret [(V.bool false, false)], h)
 else
 (V.asStr (getD a3 0 cellD).1).bind fun s46 =>
 (V.asStr (getD g 0 cellD).1).bind fun s47 =>
 bif (!(s46.toList == s47.toList)) then
 some (.ret [(V.bool false, false)], h)
 else
 (V.asStr (getD r 0 cellD).1).bind fun s48 =>
 (V.asStr (getD g 0 cellD).1).bind fun s49 =>
 bif (!(s48.toList == s49.toList)) then
 some (.ret [(V.bool false, false)], h)
 else
 (V.asStr (getD s 0 cellD).1).bind fun s50 =>
 (V.asStr (getD g 0 cellD).1).bind fun s51 =>
 bif (!(s50.toList == s51.toList)) then
 some (.ret [(V.bool false, false)], h)
 else
 callK call 9 [(V.agg [V.cell (getD a 0 cellD).1 0, V.cell (getD a 0 cellD).1 1, V.cell (getD a 0 cellD).1 2, V.cell (getD a 0 cellD).1 3, V.cell (getD a 0 cellD).1 4], false), (V.agg [V.cell (getD b 0 cellD).1 0, V.cell (getD b 0 cellD).1 1, V.cell (getD b 0 cellD).1 2, V.cell (getD b 0 cellD).1 3, V.cell (getD b 0 cellD).1 4], false)] h 1 (fun a8 a9 =>
 callK call 10 [((getD a8 0 cellD).1, false), ((V.int .i64 (2 : Int)), false), ((getD f 0 cellD).1, false)] a9 1 (fun c0 c1 =>
 callK call 8 [((getD c0 0 cellD).1, false)] c1 1 (fun c2 c3 =>
 (V.asInt (getD f 0 cellD).1 .i64).bind fun i61 =>
 callK call 10 [(V.agg [V.cell (getD a 0 cellD).1 0, V.cell (getD a 0 cellD).1 1, V.cell (getD a 0 cellD).1 2, V.cell (getD a 0 cellD).1 3, V.cell (getD a 0 cellD).1 4], false), ((V.int .i64 (2 : Int)), false), ((V.int .i64 (wrap .i64 (i61 + (1 : Int)))), false)] c3 1 (fun c4 c5 =>
 callK call 10 [(V.agg [V.cell (getD b 0 cellD).1 0, V.cell (getD b 0 cellD).1 1, V.cell (getD b 0 cellD).1 2, V.cell (getD b 0 cellD).1 3, V.cell (getD b 0 cellD).1 4], false), ((V.int .i64 (2 : Int)), false), ((getD f 0 cellD).1, false)] c5 1 (fun c6 c7 =>
 callK call 9 [((getD c4 0 cellD).1, false), ((getD c6 0 cellD).1, false)] c7 1 (fun c8 c9 =>
 callK call 8 [((getD c8 0 cellD).1, false)] c9 1 (fun d0 d1 =>
 callK call 14 [(V.agg [V.cell (getD a 0 cellD).1 0, V.cell (getD a 0 cellD).1 1, V.cell (getD a 0 cellD).1 2, V.cell (getD a 0 cellD).1 3, V.cell (getD a 0 cellD).1 4], false), ((getD f 0 cellD).1, false)] d1 1 (fun d2 d3 =>
 callK call 10 [(V.agg [V.cell (getD a 0 cellD).1 0, V.cell (getD a 0 cellD).1 1, V.cell (getD a 0 cellD).1 2, V.cell (getD a 0 cellD).1 3, V.cell (getD a 0 cellD).1 4], false), ((V.int .i64 (3 : Int)), false), ((getD f 0 cellD).1, false)] d3 1 (fun d4 d5 =>
 callK call 8 [((getD d4 0 cellD).1, false)] d5 1 (fun d6 k =>
 (V.asStr (getD c2 0 cellD).1).bind fun s83 =>
 (V.asStr (getD d0 0 cellD).1).bind fun s84 =>
 bif (!(s83.toList == s84.toList)) then
 some (.ret [(V.bool false, false)], k)
 else
 (V.asBool (getD d2 0 cellD).1).bind fun b85 =>
 bif b85 then
 (V.asStr (getD d6 0 cellD).1).bind fun s86 =>
 (V.asStr (getD g 0 cellD).1).bind fun s87 =>
 bif (!(s86.toList == s87.toList)) then
 some (.ret [(V.bool false, false)], k)
 else
 rec0 d e (wrap .i64 (c + (1 : Int))) k
 else
 rec0 d e (wrap .i64 (c + (1 : Int))) k) pnK) pnK) pnK) pnK) pnK) pnK) pnK) pnK) pnK) pnK
 else
 (V.asStr (getD r 0 cellD).1).bind fun s88 =>
 (V.asStr (getD g 0 cellD).1).bind fun s89 =>
 bif (!(s88.toList == s89.toList)) then
 some (.ret [(V.bool false, false)], h)
 else
 (V.asStr (getD s 0 cellD).1).bind fun s90 =>
 (V.asStr (getD g 0 cellD).1).bind fun s91 =>
 bif (!(s90.toList == s91.toList)) then
 some (.ret [(V.bool false, false)], h)
 else
 callK call 9 [(V.agg [V.cell (getD a 0 cellD).1 0, V.cell (getD a 0 cellD).1 1, V.cell (getD a 0 cellD).1 2, V.cell (getD a 0 cellD).1 3, V.cell (getD a 0 cellD).1 4], false), (V.agg [V.cell (getD b 0 cellD).1 0, V.cell (getD b 0 cellD).1 1, V.cell (getD b 0 cellD).1 2, V.cell (getD b 0 cellD).1 3, V.cell (getD b 0 cellD).1 4], false)] h 1 (fun d7 d8 =>
 callK call 10 [((getD d7 0 cellD).1, false), ((V.int .i64 (2 : Int)), false), ((getD f 0 cellD).1, false)] d8 1 (fun d9 e0 =>
 callK call 8 [((getD d9 0 cellD).1, false)] e0 1 (fun e1 e2 =>
 (V.asInt (getD f 0 cellD).1 .i64).bind fun i101 =>
 callK call 10 [(V.agg [V.cell (getD a 0 cellD).1 0, V.cell (getD a 0 cellD).1 1, V.cell (getD a 0 cellD).1 2, V.cell (getD a 0 cellD).1 3, V.cell (getD a 0 cellD).1 4], false), ((V.int .i64 (2 : Int)), false), ((V.int .i64 (wrap .i64 (i101 + (1 : Int)))), false)] e2 1 (fun e3 e4 =>
 callK call 10 [(V.agg [V.cell (getD b 0 cellD).1 0, V.cell (getD b 0 cellD).1 1, V.cell (getD b 0 cellD).1 2, V.cell (getD b 0 cellD).1 3, V.cell (getD b 0 cellD).1 4], false), ((V.int .i64 (2 : Int)), false), ((getD f 0 cellD).1, false)] e4 1 (fun e5 e6 =>
 callK call 9 [((getD e3 0 cellD).1, false), ((getD e5 0 cellD).1, false)] e6 1 (fun e7 e8 =>
 callK call 8 [((getD e7 0 cellD).1, false)] e8 1 (fun e9 f0 =>
 callK call 14 [(V.agg [V.cell (getD a 0 cellD).1 0, V.cell (getD a 0 cellD).1 1, V.cell (getD a 0 cellD).1 2, V.cell (getD a 0 cellD).1 3, V.cell (getD a 0 cellD).1 4], false), ((getD f 0 cellD).1, false)] f0 1 (fun f1 f2 =>
 callK call 10 [(V.agg [V.cell (getD a 0 cellD).1 0, V.cell (getD a 0 cellD).1 1, V.cell (getD a 0 cellD).1 2, V.cell (getD a 0 cellD).1 3, V.cell (getD a 0 cellD).1 4], false), ((V.int .i64 (3 : Int)), false), ((getD f 0 cellD).1, false)] f2 1 (fun f3 f4 =>
 callK call 8 [((getD f3 0 cellD).1, false)] f4 1 (fun f5 o =>
 (V.asStr (getD e1 0 cellD).1).bind fun s123 =>
 (V.asStr (getD e9 0 cellD).1).bind fun s124 =>
 bif (!(s123.toList == s124.toList)) then
 some (.ret [(V.bool false, false)], o)
 else
 (V.asBool (getD f1 0 cellD).1).bind fun b125 =>
 bif b125 then
 (V.asStr (getD f5 0 cellD).1).bind fun s126 =>
 (V.asStr (getD g 0 cellD).1).bind fun s127 =>
 bif (!(s126.toList == s127.toList)) then
 some (.ret [(V.bool false, false)], o)
 else
 rec0 d e (wrap .i64 (c + (1 : Int))) o
 else
 rec0 d e (wrap .i64 (c + (1 : Int))) o) pnK) pnK) pnK) pnK) pnK) pnK) pnK) pnK) pnK) pnK) pnK) pnK) pnK) pnK) pnK) pnK) pnK) pnK) pnK) pnK) pnK) pnK) pnK
 else
 some (.ret [(e, false)], σ)
 else
 some (.ret [(e, false)], σ)
 else
 some (.ret [(e, false)], σ)
noncomputable def termLawsl0 (call : CallF) (n : Nat) : Nat → LL → V → Int → RR
 | 0 => fun _ _ _ _ => none
 | m + 1 => termLawss0 call (termLawsl0 call n m)
noncomputable def termLawst0 (a : LL) (b : V) (c : Int) (σ : Sto) : St := ⟨[.val (V.slice 6 25 a) false, .dead, .dead, .val b false, .val (V.int .i64 c) false] ++ dd 141 [], nn 146 [], σ⟩
noncomputable def termLawsF (call : CallF) (L0 : LL → V → Int → RR) (a : LL) (σ : Sto) : Option Res :=
 callK call 4 [] σ 1 (fun b c =>
 L0 a (getD b 0 cellD).1 (0 : Int) c) pnK
noncomputable def termLaws (call : CallF) (n : Nat) (a : LL) (σ : Sto) : Option Res := termLawsF call (termLawsl0 call n n) a σ
theorem termLawss0_eq (call : CallF) (n : Nat) (F0 : St → Option Res) (a : LL) (b : V) (c : Int) (σ : Sto) :
  aexec C termLawsH call n (cp [0,0,1,0,1,1] termLawsC) 0 (termLawst0 a b c σ) (kloop termLawsk0 F0 (kblk 0 (kseq (fun st' => aexec C termLawsH call n (cp [1,1,1] termLawsC) 0 st' (kfin C termLawsD)) (kfin C termLawsD)))) =
  termLawss0 call (fun a b c σ => F0 (termLawst0 a b c σ)) a b c σ := by kernel_rfl
theorem termLawsl0_eq (call : CallF) (n : Nat) : ∀ (m : Nat) (a : LL) (b : V) (c : Int) (σ : Sto),
  aloop (fun st K => aexec C termLawsH call n (cp [0,0,1,0,1,1] termLawsC) 0 st K) termLawsk0 m (termLawst0 a b c σ) (kblk 0 (kseq (fun st' => aexec C termLawsH call n (cp [1,1,1] termLawsC) 0 st' (kfin C termLawsD)) (kfin C termLawsD))) = termLawsl0 call n m a b c σ
 | 0, a, b, c, σ => rfl
 | m + 1, a, b, c, σ => by
  rw [aloop, termLawss0_eq]
  simp only [termLawsl0_eq call n m]
  rfl
theorem termLaws_eqF (call : CallF) (n : Nat) (a : LL) (σ : Sto) : afun C termLawsD call n [(V.slice 6 25 a, false)] σ =
  termLawsF call (fun a b c σ => aloop (fun st K => aexec C termLawsH call n (cp [0,0,1,0,1,1] termLawsC) 0 st K) termLawsk0 n (termLawst0 a b c σ) (kblk 0 (kseq (fun st' => aexec C termLawsH call n (cp [1,1,1] termLawsC) 0 st' (kfin C termLawsD)) (kfin C termLawsD)))) a σ := by kernel_rfl
theorem termLaws_eq (call : CallF) (n : Nat) (a : LL) (σ : Sto) : afun C termLawsD call n [(V.slice 6 25 a, false)] σ = termLaws call n a σ := by
 rw [termLaws_eqF]
 simp only [termLawsl0_eq]
 rfl
theorem termLaws_lim {n : Nat} {a : LL} {b0 : Bool} {σ : Sto} {r : Res} (h : termLaws (lim C) n a σ = some r) : lim C 3 [(V.slice 6 25 a, b0)] σ = some r :=
 lim_of (d := termLawsD) (by kernel_rfl) (by kernel_rfl) n (show afun C termLawsD (lim C) n [(V.slice 6 25 a, false)] σ = some r from (termLaws_eq (lim C) n a σ).trans h)
noncomputable def termFactsF (call : CallF) (σ : Sto) : Option Res :=
 callK call 11 [(V.str ⟨#[40, 108, 97, 109, 32, 35, 48, 32, 40, 97, 112, 112, 32, 35, 48, 32, 35, 49, 41, 41]⟩, false)] σ 2 (fun a e =>
 (grd (V.fits (getD a 0 cellD).1 true 5)).bind fun _ =>
 callK call 11 [(V.str ⟨#[35, 51]⟩, false)] e 2 (fun b c =>
 (grd (V.fits (getD b 0 cellD).1 true 5)).bind fun _ =>
 (V.ifaceNil (getD a 1 cellD).1).bind fun b7 =>
 bif (!b7) then
 some (.ret [(V.bool false, false)], c)
 else
 (V.ifaceNil (getD b 1 cellD).1).bind fun b8 =>
 bif (!b8) then
 some (.ret [(V.bool false, false)], c)
 else
 callK call 9 [(V.agg [V.cell (getD a 0 cellD).1 0, V.cell (getD a 0 cellD).1 1, V.cell (getD a 0 cellD).1 2, V.cell (getD a 0 cellD).1 3, V.cell (getD a 0 cellD).1 4], false), (V.agg [V.cell (getD b 0 cellD).1 0, V.cell (getD b 0 cellD).1 1, V.cell (getD b 0 cellD).1 2, V.cell (getD b 0 cellD).1 3, V.cell (getD b 0 cellD).1 4], false)] c 1 (fun f g =>
 callK call 8 [((getD f 0 cellD).1, false)] g 1 (fun h i =>
 callK call 10 [(V.agg [V.cell (getD a 0 cellD).1 0, V.cell (getD a 0 cellD).1 1, V.cell (getD a 0 cellD).1 2, V.cell (getD a 0 cellD).1 3, V.cell (getD a 0 cellD).1 4], false), ((V.int .i64 (2 : Int)), false), ((V.int .i64 (0 : Int)), false)] i 1 (fun j k =>
 callK call 8 [((getD j 0 cellD).1, false)] k 1 (fun o d =>
 (V.asStr (getD h 0 cellD).1).bind fun s21 =>
 bif (s21.toList == (ByteArray.mk #[40, 108, 97, 109, 32, 35, 51, 32, 40, 97, 112, 112, 32, 35, 48, 32, 35, 52, 41, 41]).toList) then
 (V.asStr (getD o 0 cellD).1).bind fun s22 =>
 some (.ret [(V.bool (s22.toList == (ByteArray.mk #[40, 108, 97, 109, 32, 35, 50, 32, 40, 97, 112, 112, 32, 35, 48, 32, 35, 51, 41, 41]).toList), false)], d)
 else
 some (.ret [(V.bool false, false)], d)) pnK) pnK) pnK) pnK) pnK) pnK
noncomputable def termFacts (call : CallF) (n : Nat) (σ : Sto) : Option Res := termFactsF call σ
theorem termFacts_eqF (call : CallF) (n : Nat) (σ : Sto) : afun C termFactsD call n [] σ =
  termFactsF call σ := by kernel_rfl
theorem termFacts_eq (call : CallF) (n : Nat) (σ : Sto) : afun C termFactsD call n [] σ = termFacts call n σ := termFacts_eqF call n σ
theorem termFacts_lim {n : Nat} {σ : Sto} {r : Res} (h : termFacts (lim C) n σ = some r) : lim C 4 [] σ = some r :=
 lim_of (d := termFactsD) (by kernel_rfl) (by kernel_rfl) n (show afun C termFactsD (lim C) n [] σ = some r from (termFacts_eq (lim C) n σ).trans h)
end Go.Ab.Mq
end
