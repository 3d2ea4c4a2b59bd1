/- Numbers as text, as calls of the interpreter's. -/
import Derived.Test.YtifoglinlcfelaaDoorAbBl
set_option linter.unusedSimpArgs false
set_option linter.unusedVariables false
set_option linter.deprecated false
namespace Go.Ab
open Go.RowKit Go.Proofs
set_option maxRecDepth 100000
def Mk.textS (n : Int) (σ : Sto) : Option Res := if 0 ≤ n ∧ n < 4611686018427387904 then some (.ret [(.str ⟨(Go.Lib.decDigits n.toNat).toArray⟩, false)], σ) else none
def Mk.textA (args : List Cell) (σ : Sto) : Option Res := match args with
 | [(.int .i64 n, _)] => Mk.textS n σ
 | _ => none
theorem Mk.textA_eq {n : Nat} (h : n < 4611686018427387904) (o : Bool) (σ : Sto) : Mk.textA [(.int .i64 n, o)] σ = some (.ret [(.str ⟨(Go.Lib.decDigits n).toArray⟩, false)], σ) := by
 show Mk.textS n σ = _
 unfold Mk.textS
 rw [if_pos ⟨by omega, by omega⟩]
 rfl
theorem Mk.textC_ok {C : Ctx} {f : FuncId} (henter : ∀ (args : Array Value) (w : World), (callFunc f args).run Tryd.prog w = .ok (.enter f args) w)
  (h : ∀ (n : Nat), n < 4611686018427387904 → ∀ (G : Gh) (w : World) (σ : Sto), SInv C.glob G w σ → Calls Tryd.prog f #[.int .i64 n] w (Mk.TextQ w (Go.Lib.decDigits n))) :
  CallOk Tryd.prog C (fun g args σ => if g = f then Mk.textA args σ else none) := by
 intro g args σ r h0
 simp only at h0
 split at h0
 case isFalse => simp at h0
 rename_i hg
 subst hg
 refine ⟨henter, fun G w vals hS hcl hlen hv => ?_⟩
 unfold Mk.textA at h0
 split at h0
 case h_2 => simp at h0
 rename_i n o
 unfold Mk.textS at h0
 split at h0
 case isFalse => simp at h0
 rename_i hn
 obtain rfl := Option.some.inj h0
 obtain ⟨c, rfl⟩ : ∃ c, vals = [c] := by
  match vals, hlen with
  | [c], _ => exact ⟨c, rfl⟩
 have hr := (hv 0 _ c rfl rfl).1
 simp only at hr
 cases hr with
 | int =>
 obtain ⟨m, rfl⟩ : ∃ m : Nat, n = (m : Int) := ⟨n.toNat, by omega⟩
 refine (h m (by omega) G w σ hS).mono ?_
 rintro e w' ⟨rfl, hB⟩
 obtain ⟨f1, f2⟩ := below_sinv hS hB
 refine ⟨G, f1, f2, [.string ⟨(Go.Lib.decDigits m).toArray⟩], rfl, by simp, fun i c x hc hx => ?_⟩
 match i with
 | 0 => simp at hc hx; subst hc; subst hx; exact ⟨.str _, fun ho => by simp at ho⟩
 | i + 1 => simp at hc
theorem int_of {G : Gh} {w : World} {k : IntKind} {n : Int} {c : Value} (h : Rel G w (.int k n) c) : c = .int k n := by cases h; rfl
theorem Mk.tab_of {C : Ctx} {G : Gh} {w : World} {σ : Sto} (hg : C.glob 5 = some (Go.Lib.pow10Tab.map fun z => V.int .u64 z)) (hS : SInv C.glob G w σ) : Go.Lib.TabIs Tryd.prog w "internal/strconv.uint64pow10" .u64 Go.Lib.pow10Tab := by
 obtain ⟨_, _, cv, el, fr, h1, h2⟩ := hS.gsz _ _ hg
 have hr := hS.glob _ _ hg
 have hn : Tryd.prog.globalNamed "internal/strconv.uint64pow10" = some 5 := by kernel_rfl
 show World.var? Tryd.prog w "internal/strconv.uint64pow10" = _
 unfold World.var?
 rw [hn, Option.bind_some, h1]
 simp only
 congr 1
 generalize hp : Value.pointer (some (⟨5, 0, none⟩ : Addr)) = p at hr
 generalize hes : (Go.Lib.pow10Tab.map fun z => V.int .u64 z) = es at hr h2
 cases hr with
 | eptr _ _ _ b off cs k1 k2 k3 k4 k5 =>
  injection hp with hp
  injection hp with hp
  injection hp with hb ho _
  simp only [Nat.add_zero] at ho
  subst hb
  subst ho
  apply Array.ext'
  apply List.ext_getElem?
  intro i
  have hlen : cv.toList.length = es.length := by simpa using h2
  by_cases hi : i < es.length
  ·have hci : i < cs.length := by rw [k2]; exact hi
   have hc := k4 i cs[i] (List.getElem?_eq_getElem hci)
   have hv : es[i]? = some (V.int .u64 (Go.Lib.pow10Tab[i]'(by rw [← hes] at hi; simpa using hi))) := by subst hes; simp
   have hrel := k5 i _ cs[i] hv (List.getElem?_eq_getElem hci)
   have he : cs[i] = .int .u64 (Go.Lib.pow10Tab[i]'(by rw [← hes] at hi; simpa using hi)) := int_of hrel
   have hcell := hc.1
   simp only [World.cell?, h1, Nat.zero_add, Option.isSome_none, Bool.false_eq_true, if_false] at hcell
   rw [Array.getElem?_toList, hcell, he]
   have hi' : i < Go.Lib.pow10Tab.length := by rw [← hes] at hi; simpa using hi
   simp [hi']
  ·have hi' : Go.Lib.pow10Tab.length ≤ i := by rw [← hes] at hi; simpa using hi
   rw [List.getElem?_eq_none (by omega), List.getElem?_eq_none (by simpa using hi')]
theorem itoaC_ok {C : Ctx} (hg : C.glob 5 = some (Go.Lib.pow10Tab.map fun z => V.int .u64 z)) (henter : ∀ (args : Array Value) (w : World), (callFunc 38 args).run Tryd.prog w = .ok (.enter 38 args) w) :
  CallOk Tryd.prog C (fun g args σ => if g = 38 then Mk.textA args σ else none) :=
 Mk.textC_ok henter fun n hn G w σ hS => Mk.itoa_ok n hn w (Mk.tab_of hg hS)
end Go.Ab
