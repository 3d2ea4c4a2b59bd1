/- AbMk1: printed by program: functions of the program as plain Lean, and the equations. -/
import Derived.Test.YtblgboigcpbidaaDoorAbIt1
import Derived.Test.YtblgboigcpbidaaDoorAbBl
import Derived.Test.YtblgboigcpbidaaDoorProg
import Derived.Test.YtblgboigcpbidaaDoorAbOps
import Derived.Shelf.Strconv.AtoiAll
import Derived.WalkKit
import Derived.Shelf.Strings.OnBuilder
import Derived.Test.YtblgboigcpbidaaDoorAbBe
set_option linter.unusedSimpArgs false
set_option linter.unusedVariables false
set_option linter.deprecated false
section
namespace Go.Ab
open Go.RowKit Go.Proofs
set_option maxRecDepth 100000
def Mk.textS (n : Int) (σ : Sto) : Option Res := if 0 ≤ n ∧ n < 4611686018427387904 then some (.ret [(.str ⟨(Go.Lib.decDigits n.toNat).toArray⟩, false)], σ) else none
def Mk.textA (args : List Cell) (σ : Sto) : Option Res := match args with
 | [(.int .i64 n, _)] => Mk.textS n σ
 | _ => none
theorem Mk.textA_eq {n : Nat} (h : n < 4611686018427387904) (o : Bool) (σ : Sto) : Mk.textA [(.int .i64 n, o)] σ = some (.ret [(.str ⟨(Go.Lib.decDigits n).toArray⟩, false)], σ) := by
 show Mk.textS n σ = _
 unfold Mk.textS
 rw [if_pos ⟨by omega, by omega⟩]
 rfl
theorem Mk.textC_ok {C : Ctx} {f : FuncId} (henter : ∀ (args : Array Value) (w : World), (callFunc f args).run Tryd.prog w = .ok (.enter f args) w)
  (h : ∀ (n : Nat), n < 4611686018427387904 → ∀ (G : Gh) (w : World) (σ : Sto), SInv C.glob G w σ → Calls Tryd.prog f #[.int .i64 n] w (Mk.TextQ w (Go.Lib.decDigits n))) :
  CallOk Tryd.prog C (fun g args σ => if g = f then Mk.textA args σ else none) := by
 intro g args σ r h0
 simp only at h0
 split at h0
 case isFalse => simp at h0
 rename_i hg
 subst hg
 refine ⟨henter, fun G w vals hS hcl hlen hv => ?_⟩
 unfold Mk.textA at h0
 split at h0
 case h_2 => simp at h0
 rename_i n o
 unfold Mk.textS at h0
 split at h0
 case isFalse => simp at h0
 rename_i hn
 obtain rfl := Option.some.inj h0
 obtain ⟨c, rfl⟩ : ∃ c, vals = [c] := by
  match vals, hlen with
  | [c], _ => exact ⟨c, rfl⟩
 have hr := (hv 0 _ c rfl rfl).1
 simp only at hr
 cases hr with
 | int =>
 obtain ⟨m, rfl⟩ : ∃ m : Nat, n = (m : Int) := ⟨n.toNat, by omega⟩
 refine (h m (by omega) G w σ hS).mono ?_
 rintro e w' ⟨rfl, hB⟩
 obtain ⟨f1, f2⟩ := below_sinv hS hB
 refine ⟨G, f1, f2, [.string ⟨(Go.Lib.decDigits m).toArray⟩], rfl, by simp, fun i c x hc hx => ?_⟩
 match i with
 | 0 => simp at hc hx; subst hc; subst hx; exact ⟨.str _, fun ho => by simp at ho⟩
 | i + 1 => simp at hc
theorem int_of {G : Gh} {w : World} {k : IntKind} {n : Int} {c : Value} (h : Rel G w (.int k n) c) : c = .int k n := by cases h; rfl
theorem Mk.tab_of {C : Ctx} {G : Gh} {w : World} {σ : Sto} (hg : C.glob 4 = some (Go.Lib.pow10Tab.map fun z => V.int .u64 z)) (hS : SInv C.glob G w σ) : Go.Lib.TabIs Tryd.prog w "internal/strconv.uint64pow10" .u64 Go.Lib.pow10Tab := by
 obtain ⟨_, _, cv, el, fr, h1, h2⟩ := hS.gsz _ _ hg
 have hr := hS.glob _ _ hg
 have hn : Tryd.prog.globalNamed "internal/strconv.uint64pow10" = some 4 := by kernel_rfl
 show World.var? Tryd.prog w "internal/strconv.uint64pow10" = _
 unfold World.var?
 rw [hn, Option.bind_some, h1]
 simp only
 congr 1
 generalize hp : Value.pointer (some (⟨4, 0, none⟩ : Addr)) = p at hr
 generalize hes : (Go.Lib.pow10Tab.map fun z => V.int .u64 z) = es at hr h2
 cases hr with
 | eptr _ _ _ b off cs k1 k2 k3 k4 k5 =>
  injection hp with hp
  injection hp with hp
  injection hp with hb ho _
  simp only [Nat.add_zero] at ho
  subst hb
  subst ho
  apply Array.ext'
  apply List.ext_getElem?
  intro i
  have hlen : cv.toList.length = es.length := by simpa using h2
  by_cases hi : i < es.length
  ·have hci : i < cs.length := by rw [k2]; exact hi
   have hc := k4 i cs[i] (List.getElem?_eq_getElem hci)
   have hv : es[i]? = some (V.int .u64 (Go.Lib.pow10Tab[i]'(by rw [← hes] at hi; simpa using hi))) := by subst hes; simp
   have hrel := k5 i _ cs[i] hv (List.getElem?_eq_getElem hci)
   have he : cs[i] = .int .u64 (Go.Lib.pow10Tab[i]'(by rw [← hes] at hi; simpa using hi)) := int_of hrel
   have hcell := hc.1
   simp only [World.cell?, h1, Nat.zero_add, Option.isSome_none, Bool.false_eq_true, if_false] at hcell
   rw [Array.getElem?_toList, hcell, he]
   have hi' : i < Go.Lib.pow10Tab.length := by rw [← hes] at hi; simpa using hi
   simp [hi']
  ·have hi' : Go.Lib.pow10Tab.length ≤ i := by rw [← hes] at hi; simpa using hi
   rw [List.getElem?_eq_none (by omega), List.getElem?_eq_none (by simpa using hi')]
theorem itoaC_ok {C : Ctx} (hg : C.glob 4 = some (Go.Lib.pow10Tab.map fun z => V.int .u64 z)) (henter : ∀ (args : Array Value) (w : World), (callFunc 22 args).run Tryd.prog w = .ok (.enter 22 args) w) :
  CallOk Tryd.prog C (fun g args σ => if g = 22 then Mk.textA args σ else none) :=
 Mk.textC_ok henter fun n hn G w σ hS => Mk.itoa_ok n hn w (Mk.tab_of hg hS)
end Go.Ab
end
section
namespace Go.Proofs
open Go.RowKit Go.Ab
set_option maxRecDepth 100000
set_option maxHeartbeats 1000000
def Mk.atoiRen : Go.Shelf.Ren where
 f := fun x => match x with
  | 129 => 61
  | 171 => 22
  | 172 => 18
  | 205 => 50
  | 243 => 36
  | 244 => 29
  | 245 => 30
  | 246 => 45
  | 247 => 38
  | 279 => 39
  | 280 => 40
  | 281 => 41
  | 282 => 42
  | 283 => 53
  | 284 => 54
  | 285 => 55
  | 286 => 56
  | 287 => 48
  | 316 => 49
  | 317 => 60
  | 318 => 62
  | 319 => 63
  | 320 => 64
  | 321 => 58
  | 322 => 59
  | 337 => 65
  | 338 => 66
  | n => n
 t := fun x => match x with
  | 0 => 0
  | 2 => 2
  | 3 => 3
  | 4 => 4
  | 5 => 5
  | 9 => 9
  | 20 => 20
  | 21 => 21
  | 37 => 51
  | 46 => 94
  | 51 => 115
  | 53 => 91
  | 75 => 25
  | 76 => 54
  | 80 => 57
  | 85 => 83
  | 127 => 67
  | 143 => 109
  | 145 => 111
  | 167 => 82
  | 168 => 85
  | 171 => 101
  | 173 => 104
  | 175 => 92
  | 210 => 97
  | 212 => 114
  | 213 => 116
  | 232 => 121
  | 233 => 122
  | n => n
 g := fun x => match x with
  | 15 => 1
  | 16 => 2
  | 17 => 4
  | 18 => 6
  | 19 => 7
  | n => n
theorem Mk.atoiLaid : LaysC.n172 Tryd.prog Mk.atoiRen where
 mixed := by kernel_rfl
 f129 := Tryd.func61.trans (congrArg some rfl)
 f171 := Tryd.func22.trans (congrArg some rfl)
 f172 := Tryd.func18.trans (congrArg some rfl)
 f205 := Tryd.func50.trans (congrArg some rfl)
 f243 := Tryd.func36.trans (congrArg some rfl)
 f244 := Tryd.func29.trans (congrArg some rfl)
 f245 := Tryd.func30.trans (congrArg some rfl)
 f246 := Tryd.func45.trans (congrArg some rfl)
 f247 := Tryd.func38.trans (congrArg some rfl)
 f279 := Tryd.func39.trans (congrArg some rfl)
 f280 := Tryd.func40.trans (congrArg some rfl)
 f281 := Tryd.func41.trans (congrArg some rfl)
 f282 := Tryd.func42.trans (congrArg some rfl)
 f283 := Tryd.func53.trans (congrArg some rfl)
 f284 := Tryd.func54.trans (congrArg some rfl)
 f285 := Tryd.func55.trans (congrArg some rfl)
 f286 := Tryd.func56.trans (congrArg some rfl)
 f287 := Tryd.func48.trans (congrArg some rfl)
 f316 := Tryd.func49.trans (congrArg some rfl)
 f317 := Tryd.func60.trans (congrArg some rfl)
 f318 := Tryd.func62.trans (congrArg some rfl)
 f319 := Tryd.func63.trans (congrArg some rfl)
 f320 := Tryd.func64.trans (congrArg some rfl)
 f321 := Tryd.func58.trans (congrArg some rfl)
 f322 := Tryd.func59.trans (congrArg some rfl)
 f337 := Tryd.func65.trans (congrArg some rfl)
 f338 := Tryd.func66.trans (congrArg some rfl)
 t0 := Tryd.underlying0
 a0 := fun _ => by kernel_rfl
 z0 := fun _ => by kernel_rfl
 v0 := fun _ => by kernel_rfl
 t2 := Tryd.underlying2
 a2 := fun _ => by kernel_rfl
 z2 := fun _ => by kernel_rfl
 v2 := fun _ => by kernel_rfl
 t3 := Tryd.underlying3
 a3 := fun _ => by kernel_rfl
 z3 := fun _ => by kernel_rfl
 v3 := fun _ => by kernel_rfl
 t4 := Tryd.underlying4
 a4 := fun _ => by kernel_rfl
 z4 := fun _ => by kernel_rfl
 v4 := fun _ => by kernel_rfl
 t5 := Tryd.underlying5
 a5 := fun _ => by kernel_rfl
 z5 := fun _ => by kernel_rfl
 v5 := fun _ => by kernel_rfl
 t9 := Tryd.underlying9
 a9 := fun _ => by kernel_rfl
 z9 := fun _ => by kernel_rfl
 v9 := fun _ => by kernel_rfl
 t20 := Tryd.underlying20
 a20 := fun _ => by kernel_rfl
 z20 := fun _ => by kernel_rfl
 v20 := fun _ => by kernel_rfl
 t21 := Tryd.underlying21
 a21 := fun _ => by kernel_rfl
 z21 := fun _ => by kernel_rfl
 v21 := fun _ => by kernel_rfl
 t37 := Tryd.underlying51
 a37 := fun _ => by kernel_rfl
 z37 := fun _ => by kernel_rfl
 v37 := fun _ => by kernel_rfl
 t46 := Tryd.underlying94
 a46 := fun _ => by kernel_rfl
 z46 := fun _ => by kernel_rfl
 v46 := fun _ => by kernel_rfl
 t51 := Tryd.underlying115
 a51 := fun _ => by kernel_rfl
 z51 := fun _ => by kernel_rfl
 v51 := fun _ => by kernel_rfl
 t53 := Tryd.underlying91
 a53 := fun _ => by kernel_rfl
 z53 := fun _ => by kernel_rfl
 v53 := fun _ => by kernel_rfl
 t75 := Tryd.underlying25
 a75 := fun _ => by kernel_rfl
 z75 := fun _ => by kernel_rfl
 v75 := fun _ => by kernel_rfl
 t76 := Tryd.underlying54
 a76 := fun _ => by kernel_rfl
 z76 := fun _ => by kernel_rfl
 v76 := fun _ => by kernel_rfl
 t85 := Tryd.underlying83
 a85 := fun _ => by kernel_rfl
 z85 := fun _ => by kernel_rfl
 v85 := fun _ => by kernel_rfl
 t127 := Tryd.underlying67
 a127 := fun _ => by kernel_rfl
 z127 := fun _ => by kernel_rfl
 v127 := fun _ => by kernel_rfl
 t143 := Tryd.underlying109
 a143 := fun _ => by kernel_rfl
 z143 := fun _ => by kernel_rfl
 v143 := fun _ => by kernel_rfl
 t145 := Tryd.underlying111
 a145 := fun _ => by kernel_rfl
 z145 := fun _ => by kernel_rfl
 v145 := fun _ => by kernel_rfl
 t167 := Tryd.underlying82
 a167 := fun _ => by kernel_rfl
 z167 := fun _ => by kernel_rfl
 v167 := fun _ => by kernel_rfl
 t168 := Tryd.underlying85
 a168 := fun _ => by kernel_rfl
 z168 := fun _ => by kernel_rfl
 v168 := fun _ => by kernel_rfl
 t171 := Tryd.underlying101
 a171 := fun _ => by kernel_rfl
 z171 := fun _ => by kernel_rfl
 v171 := fun _ => by kernel_rfl
 t173 := Tryd.underlying104
 a173 := fun _ => by kernel_rfl
 z173 := fun _ => by kernel_rfl
 v173 := fun _ => by kernel_rfl
 t175 := Tryd.underlying92
 a175 := fun _ => by kernel_rfl
 z175 := fun _ => by kernel_rfl
 v175 := fun _ => by kernel_rfl
 t210 := Tryd.underlying97
 a210 := fun _ => by kernel_rfl
 z210 := fun _ => by kernel_rfl
 v210 := fun _ => by kernel_rfl
 t212 := Tryd.underlying114
 a212 := fun _ => by kernel_rfl
 z212 := fun _ => by kernel_rfl
 v212 := fun _ => by kernel_rfl
 t213 := Tryd.underlying116
 a213 := fun _ => by kernel_rfl
 z213 := fun _ => by kernel_rfl
 t232 := Tryd.underlying121
 a232 := fun _ => by kernel_rfl
 z232 := fun _ => by kernel_rfl
 v232 := fun _ => by kernel_rfl
 t233 := Tryd.underlying122
 a233 := fun _ => by kernel_rfl
 z233 := fun _ => by kernel_rfl
 v233 := fun _ => by kernel_rfl
 g15 := by kernel_rfl
 g16 := by kernel_rfl
 g17 := by kernel_rfl
 g18 := by kernel_rfl
 g19 := by kernel_rfl
 t80 := Tryd.underlying57
 a80 := fun _ => by kernel_rfl
 z80 := fun _ => by kernel_rfl
 v80 := fun _ => by kernel_rfl
 i0 := by kernel_rfl
 i2 := by kernel_rfl
 i3 := by kernel_rfl
 i4 := by kernel_rfl
 i5 := by kernel_rfl
 i9 := by kernel_rfl
 i20 := by kernel_rfl
 i21 := by kernel_rfl
 i37 := by kernel_rfl
 i46 := by kernel_rfl
 i51 := by kernel_rfl
 i53 := by kernel_rfl
 i75 := by kernel_rfl
 i76 := by kernel_rfl
 i80 := by kernel_rfl
 i85 := by kernel_rfl
 i127 := by kernel_rfl
 i143 := by kernel_rfl
 i145 := by kernel_rfl
 i167 := by kernel_rfl
 i168 := by kernel_rfl
 i171 := by kernel_rfl
 i173 := by kernel_rfl
 i175 := by kernel_rfl
 i210 := by kernel_rfl
 i212 := by kernel_rfl
 i232 := by kernel_rfl
 i233 := by kernel_rfl
 m15 := by kernel_rfl
 m16 := by kernel_rfl
 m17 := by kernel_rfl
 m18 := by kernel_rfl
 m19 := by kernel_rfl
 c0 := by kernel_rfl
 c2 := by kernel_rfl
 c3 := by kernel_rfl
 c4 := by kernel_rfl
 c5 := by kernel_rfl
 c9 := by kernel_rfl
 c20 := by kernel_rfl
 c21 := by kernel_rfl
 c37 := by kernel_rfl
 c46 := by kernel_rfl
 c51 := by kernel_rfl
 c53 := by kernel_rfl
 c75 := by kernel_rfl
 c76 := by kernel_rfl
 c80 := by kernel_rfl
 c85 := by kernel_rfl
 c127 := by kernel_rfl
 c143 := by kernel_rfl
 c145 := by kernel_rfl
 c167 := by kernel_rfl
 c168 := by kernel_rfl
 c171 := by kernel_rfl
 c173 := by kernel_rfl
 c175 := by kernel_rfl
 c210 := by kernel_rfl
 c212 := by kernel_rfl
 c213 := by kernel_rfl
 c232 := by kernel_rfl
 c233 := by kernel_rfl
theorem Mk.bytes_below (w : World) (e : TypeId) (t : ByteArray) : Below w.heap.size w (Lib.bytesWorld w e t) := by
 rw [bytesWorld_alloc]
 exact ⟨rfl, rfl, rfl, by simp, fun i hi => heap_alloc_lt (w := w.drew) hi⟩
theorem Mk.atoi_ok (s : ByteArray) (hmax : s.size ≤ 281474976710656) (v : Int) (h : Lib.atoiAll s.data.toList = .ok v) (w : World) :
  Calls Tryd.prog 18 #[.string s] w fun e w' => e = .returned (.tuple #[.int .i64 v, .nilIface]) ∧ Below w.heap.size w w' := by
 refine (Any.strconv_Atoi_ok Mk.atoiLaid s (by omega) v h w).mono ?_
 rintro e w' ⟨rfl, rfl | ⟨t, rfl⟩⟩
 ·exact ⟨rfl, Below.refl _ _⟩
 ·exact ⟨rfl, Mk.bytes_below _ _ _⟩
theorem Mk.atoi_bad (s : ByteArray) (hmax : s.size ≤ 281474976710656) (h : Lib.atoiAll s.data.toList = Lib.atoiAll []) (ev : Value) (w : World) (hv : w.cell? ⟨1, 0, none⟩ = some ev) (hev : ev = .nilIface ∨ ∃ te pe, ev = .iface te pe) :
  Calls Tryd.prog 18 #[.string s] w fun e w' => (∃ N, e = .returned (.tuple #[.int .i64 0, .iface 85 (.pointer (some ⟨N, 0, none⟩))])) ∧ Below w.heap.size w w' := by
 refine (Any.strconv_Atoi_syntax Mk.atoiLaid s hmax h ev w hv hev).mono ?_
 rintro e w' ⟨N, rfl, _, _, hB⟩
 exact ⟨⟨N, rfl⟩, hB⟩
end Go.Proofs
end
section
namespace Go.Ab
open Go.RowKit Go.Proofs
set_option maxRecDepth 100000
def Mk.atoiR (s : ByteArray) : Option (List Cell) := match Go.Lib.atoiAll s.data.toList with
 | .ok v => some [(.int .i64 v, false), (.nilIface, false)]
 | .range => none
 | _ => some [(.int .i64 0, false), (.iface 85 .any, false)]
theorem Mk.atoi_else {e : Go.Lib.NumEnd Int} (h1 : ∀ v, e = .ok v → False) (h2 : e = .range → False) : e = Go.Lib.atoiAll [] := by
 cases e
 ·exact (h1 _ rfl).elim
 ·rfl
 ·exact (h2 rfl).elim
def Mk.atoiA (args : List Cell) (σ : Sto) : Option Res := match args with
 | [(.str s, _)] => if s.size ≤ 281474976710656 then (Mk.atoiR s).bind fun cs => some (.ret cs, σ) else none
 | _ => none
theorem atoiC_ok {C : Ctx} {te : TypeId} (hg : C.glob 1 = some [.iface te .any]) (henter : ∀ (args : Array Value) (w : World), (callFunc 18 args).run Tryd.prog w = .ok (.enter 18 args) w) :
  CallOk Tryd.prog C (fun g args σ => if g = 18 then Mk.atoiA args σ else none) := by
 intro g args σ r h0
 simp only at h0
 split at h0
 case isFalse => simp at h0
 rename_i hg'
 subst hg'
 refine ⟨henter, fun G w vals hS hcl hlen hv => ?_⟩
 unfold Mk.atoiA at h0
 split at h0
 case h_2 => simp at h0
 rename_i s o
 split at h0
 case isFalse => simp at h0
 rename_i hb
 obtain ⟨cs, h1, h2⟩ := Option.bind_eq_some_iff.1 h0
 obtain rfl := Option.some.inj h2
 obtain ⟨c, rfl⟩ : ∃ c, vals = [c] := by
  match vals, hlen with
  | [c], _ => exact ⟨c, rfl⟩
 have hr := (hv 0 _ c rfl rfl).1
 simp only at hr
 cases hr with
 | str =>
 unfold Mk.atoiR at h1
 split at h1
 ·rename_i v hv'
  obtain rfl := Option.some.inj h1
  refine (Mk.atoi_ok s hb v hv' w).mono ?_
  rintro e w' ⟨rfl, hB⟩
  obtain ⟨f1, f2⟩ := below_sinv hS hB
  refine ⟨G, f1, f2, [.int .i64 v, .nilIface], rfl, by simp, fun i c x hc hx => ?_⟩
  match i with
  | 0 => simp at hc hx; subst hc; subst hx; exact ⟨.int _ _, fun ho => by simp at ho⟩
  | 1 => simp at hc hx; subst hc; subst hx; exact ⟨.nilIface, fun ho => by simp at ho⟩
  | i + 2 => simp at hc
 ·simp at h1
 ·rename_i hv1 hv2
  have hv' := Mk.atoi_else hv1 hv2
  obtain rfl := Option.some.inj h1
  have hq : ∃ ev, w.cell? ⟨1, 0, none⟩ = some ev ∧ (ev = .nilIface ∨ ∃ te pe, ev = .iface te pe) := by
   have hr := hS.glob _ _ hg
   generalize hp : Value.pointer (some (⟨1, 0, none⟩ : Addr)) = p at hr
   generalize hes : [V.iface te V.any] = es at hr
   cases hr with
   | eptr _ _ _ b off cs k1 k2 k3 k4 k5 =>
    injection hp with hp
    injection hp with hp
    injection hp with hb ho _
    simp only [Nat.add_zero] at ho
    subst hb
    subst ho
    subst hes
    obtain ⟨c0, rfl⟩ : ∃ c0, cs = [c0] := by
     match cs, k2 with
     | [c0], _ => exact ⟨c0, rfl⟩
    refine ⟨c0, by have := (k4 0 c0 rfl).1; simpa using this, ?_⟩
    have := k5 0 _ c0 rfl rfl
    cases this with
    | iface _ _ c _ => exact .inr ⟨_, _, rfl⟩
  obtain ⟨ev, q1, q2⟩ := hq
  refine (Mk.atoi_bad s hb hv' ev w q1 q2).mono ?_
  rintro e w' ⟨⟨N, rfl⟩, hB⟩
  obtain ⟨f1, f2⟩ := below_sinv hS hB
  refine ⟨G, f1, f2, [.int .i64 0, .iface 85 (.pointer (some ⟨N, 0, none⟩))], rfl, by simp, fun i c x hc hx => ?_⟩
  match i with
  | 0 => simp at hc hx; subst hc; subst hx; exact ⟨.int _ _, fun ho => by simp at ho⟩
  | 1 => simp at hc hx; subst hc; subst hx; exact ⟨.iface _ _ _ (.any _ rfl), fun ho => by simp at ho⟩
  | i + 2 => simp at hc
end Go.Ab
end
section
namespace Go.Proofs
open Go.RowKit Go.Ab
set_option maxRecDepth 100000
set_option maxHeartbeats 1000000
def Mk.joinRen : Go.Shelf.Ren where
 f := fun x => match x with
  | 156 => 21
  | 165 => 35
  | 166 => 10
  | 169 => 12
  | 240 => 20
  | 241 => 44
  | 276 => 34
  | 277 => 52
  | n => n
 t := fun x => match x with
  | 0 => 0
  | 3 => 3
  | 4 => 4
  | 5 => 5
  | 9 => 9
  | 20 => 20
  | 31 => 41
  | 37 => 51
  | 70 => 50
  | 72 => 53
  | 75 => 25
  | 76 => 54
  | 80 => 57
  | 127 => 67
  | 164 => 78
  | n => n
 g := fun x => match x with
  | n => n
theorem Mk.joinLaid : Lays.n156 Tryd.prog Mk.joinRen where
 mixed := by kernel_rfl
 f156 := Tryd.func21.trans (congrArg some rfl)
 f165 := Tryd.func35.trans (congrArg some rfl)
 f166 := Tryd.func10.trans (congrArg some rfl)
 f169 := Tryd.func12.trans (congrArg some rfl)
 f240 := Tryd.func20.trans (congrArg some rfl)
 f241 := Tryd.func44.trans (congrArg some rfl)
 f276 := Tryd.func34.trans (congrArg some rfl)
 f277 := Tryd.func52.trans (congrArg some rfl)
 t0 := Tryd.underlying0
 a0 := fun _ => by kernel_rfl
 z0 := fun _ => by kernel_rfl
 v0 := fun _ => by kernel_rfl
 t3 := Tryd.underlying3
 a3 := fun _ => by kernel_rfl
 z3 := fun _ => by kernel_rfl
 v3 := fun _ => by kernel_rfl
 t4 := Tryd.underlying4
 a4 := fun _ => by kernel_rfl
 z4 := fun _ => by kernel_rfl
 v4 := fun _ => by kernel_rfl
 t9 := Tryd.underlying9
 a9 := fun _ => by kernel_rfl
 z9 := fun _ => by kernel_rfl
 v9 := fun _ => by kernel_rfl
 t20 := Tryd.underlying20
 a20 := fun _ => by kernel_rfl
 z20 := fun _ => by kernel_rfl
 v20 := fun _ => by kernel_rfl
 t31 := Tryd.underlying41
 a31 := fun _ => by kernel_rfl
 z31 := fun _ => by kernel_rfl
 v31 := fun _ => by kernel_rfl
 t37 := Tryd.underlying51
 a37 := fun _ => by kernel_rfl
 z37 := fun _ => by kernel_rfl
 v37 := fun _ => by kernel_rfl
 t70 := Tryd.underlying50
 a70 := fun _ => by kernel_rfl
 z70 := fun _ => by kernel_rfl
 v70 := fun _ => by kernel_rfl
 t72 := Tryd.underlying53
 a72 := fun _ => by kernel_rfl
 z72 := fun _ => by kernel_rfl
 v72 := fun _ => by kernel_rfl
 t75 := Tryd.underlying25
 a75 := fun _ => by kernel_rfl
 z75 := fun _ => by kernel_rfl
 v75 := fun _ => by kernel_rfl
 t76 := Tryd.underlying54
 a76 := fun _ => by kernel_rfl
 z76 := fun _ => by kernel_rfl
 v76 := fun _ => by kernel_rfl
 t127 := Tryd.underlying67
 a127 := fun _ => by kernel_rfl
 z127 := fun _ => by kernel_rfl
 v127 := fun _ => by kernel_rfl
 t164 := Tryd.underlying78
 a164 := fun _ => by kernel_rfl
 z164 := fun _ => by kernel_rfl
 v164 := fun _ => by kernel_rfl
theorem Mk.joinExtra : Builder.Extra Tryd.prog Mk.joinRen where
 sizeBuilder := by kernel_rfl
 liesBuilder := by kernel_rfl
 t5 := Tryd.underlying5
 a5 := fun _ => by kernel_rfl
 z5 := fun _ => by kernel_rfl
 v5 := fun _ => by kernel_rfl
 infoByte := by kernel_rfl
 cellsByte := by kernel_rfl
 sizeByte := by kernel_rfl
 neB5 := by decide
theorem Mk.join_ok (bk o c : Nat) (xs : List ByteArray) (sep : ByteArray) (w : World) (hcells : ∀ (j : Nat) x, xs[j]? = some x → w.cell? ⟨bk, o + j, none⟩ = some (.string x))
  (hbk : bk < w.heap.size) (hN : xs.length ≤ 140737488355328) (hcap : xs.length ≤ c) (hlen : (Lib.join (xs.map (·.data.toList)) sep.data.toList).length ≤ 140737488355328) :
  Calls Tryd.prog 21 #[.slice (some ⟨bk, o, none⟩) xs.length c, .string sep] w fun e w' => e = .returned (.string ⟨(Lib.join (xs.map (·.data.toList)) sep.data.toList).toArray⟩) ∧ Below w.heap.size w w' :=
 Any.strings_Join Mk.joinLaid Mk.joinExtra bk o c xs sep w hcells hbk hN hcap hlen
theorem Mk.join_none (a : Option Addr) (c : Nat) (sep : ByteArray) (w : World) :
  Calls Tryd.prog 21 #[.slice a 0 c, .string sep] w fun e w' => e = .returned (.string ⟨#[]⟩) ∧ w' = w :=
 Any.strings_Join_none Mk.joinLaid Mk.joinExtra a c sep w
end Go.Proofs
end
section
namespace Go.Ab
open Go.RowKit Go.Proofs
set_option maxRecDepth 100000
def Mk.strsV (xs : List ByteArray) : List (List V) := xs.map fun s => [.str s]
def Mk.strsOf : List (List V) → Option (List ByteArray)
 | [] => some []
 | [.str s] :: r => (Mk.strsOf r).bind fun xs => some (s :: xs)
 | _ => none
theorem Mk.strsOf_eq : ∀ (xs : List ByteArray), Mk.strsOf (Mk.strsV xs) = some xs
 | [] => rfl
 | x :: xs => by
  show (Mk.strsOf (Mk.strsV xs)).bind _ = _
  rw [Mk.strsOf_eq xs]
  rfl
theorem Mk.strsOf_inv : ∀ {es : List (List V)} {xs : List ByteArray}, Mk.strsOf es = some xs → es = Mk.strsV xs
 | [], xs, h => by obtain rfl := Option.some.inj h; rfl
 | e :: r, xs, h => by
  unfold Mk.strsOf at h
  split at h
  ·rename_i h0; cases h0
  ·rename_i s r' h0
   cases h0
   obtain ⟨ys, h1, h2⟩ := Option.bind_eq_some_iff.1 h
   obtain rfl := Option.some.inj h2
   rw [Mk.strsOf_inv h1]
   rfl
  ·simp at h
def Mk.joinB (xs : List ByteArray) (sep : ByteArray) : ByteArray := ⟨(Go.Lib.join (xs.map (·.data.toList)) sep.data.toList).toArray⟩
def Mk.joinA (args : List Cell) (σ : Sto) : Option Res := match args with
 | [(.slice 1 _ es, _), (.str sep, _)] => (Mk.strsOf es).bind fun xs => if xs.length ≤ 140737488355328 ∧ (Go.Lib.join (xs.map (·.data.toList)) sep.data.toList).length ≤ 140737488355328 then some (.ret [(.str (Mk.joinB xs sep), false)], σ) else none
 | _ => none
theorem Mk.joinA_eq {xs : List ByteArray} {sep : ByteArray} (h1 : xs.length ≤ 140737488355328) (h2 : (Go.Lib.join (xs.map (·.data.toList)) sep.data.toList).length ≤ 140737488355328) (e : TypeId) (o1 o2 : Bool) (σ : Sto) :
  Mk.joinA [(.slice 1 e (Mk.strsV xs), o1), (.str sep, o2)] σ = some (.ret [(.str (Mk.joinB xs sep), false)], σ) := by
 show (Mk.strsOf (Mk.strsV xs)).bind _ = _
 rw [Mk.strsOf_eq, Option.bind_some, if_pos ⟨h1, h2⟩]
theorem Mk.strs_cells {G : Gh} {w : World} {et : TypeId} {xs : List ByteArray} {c : Value} (wf : WF G w) (h : Rel G w (.slice 1 et (Mk.strsV xs)) c) :
  (xs = [] ∧ ∃ a cap, c = .slice a 0 cap) ∨ ∃ b off cap, c = .slice (some ⟨b, off, none⟩) xs.length cap ∧ b < w.heap.size ∧ xs.length ≤ cap ∧ ∀ (j : Nat) x, xs[j]? = some x → w.cell? ⟨b, off + j, none⟩ = some (.string x) := by
 generalize hes : Mk.strsV xs = es at h
 cases h with
 | snil =>
  left
  cases xs with
  | nil => exact ⟨rfl, none, 0, rfl⟩
  | cons x xs => simp [Mk.strsV] at hes
 | slice _ _ _ b off cap cs h1 h2 h3 h4 h5 h6 h7 =>
  have hl : es.length = xs.length := by rw [← hes]; simp [Mk.strsV]
  by_cases h0 : xs.length = 0
  ·left
   have : xs = [] := List.length_eq_zero_iff.1 h0
   subst this
   simp at hl
   subst hl
   exact ⟨rfl, _, _, rfl⟩
  ·right
   refine ⟨b, off, cap, by rw [hl], lim_lt wf (o := 0) (by omega), by omega, fun j x hx => ?_⟩
   have hj : j < cs.length := by have := (List.getElem?_eq_some_iff.1 hx).1; omega
   have hc := List.getElem?_eq_getElem hj
   have hlen := h5 j _ hc
   have h0' : (cs[j])[0]? = some ((cs[j])[0]'(by omega)) := List.getElem?_eq_getElem (by omega)
   obtain ⟨g1, g2⟩ := h6 j 0 _ _ hc h0'
   have he : es[j]? = some [.str x] := by rw [← hes]; simp [Mk.strsV, hx]
   have hr := h7 j 0 _ _ _ _ he hc rfl h0'
   rw [Nat.mul_one, Nat.add_zero] at g1
   rw [g1]
   generalize (cs[j])[0]'(by omega) = v at hr
   cases hr with
   | str => rfl
theorem joinC_ok {C : Ctx} (henter : ∀ (args : Array Value) (w : World), (callFunc 21 args).run Tryd.prog w = .ok (.enter 21 args) w) :
  CallOk Tryd.prog C (fun g args σ => if g = 21 then Mk.joinA args σ else none) := by
 intro g args σ r h0
 simp only at h0
 split at h0
 case isFalse => simp at h0
 rename_i hg
 subst hg
 refine ⟨henter, fun G w vals hS hcl hlen hv => ?_⟩
 unfold Mk.joinA at h0
 split at h0
 case h_2 => simp at h0
 rename_i et es o1 sep o2
 obtain ⟨xs, h1, h2⟩ := Option.bind_eq_some_iff.1 h0
 obtain rfl := Mk.strsOf_inv h1
 split at h2
 case isFalse => simp at h2
 rename_i hb
 obtain rfl := Option.some.inj h2
 obtain ⟨c, d, rfl⟩ : ∃ c d, vals = [c, d] := by
  match vals, hlen with
  | [c, d], _ => exact ⟨c, d, rfl⟩
 have hr := (hv 0 _ c rfl rfl).1
 have hr2 := (hv 1 _ d rfl rfl).1
 simp only at hr hr2
 cases hr2 with
 | str =>
 have fin : ∀ e w', e = Ending.returned (.string (Mk.joinB xs sep)) → Below w.heap.size w w' → ∃ G', Ext G w G' w' ∧ SInv C.glob G' w' σ ∧ EndRel G' w' (.ret [(.str (Mk.joinB xs sep), false)]) e := by
  rintro e w' rfl hB
  obtain ⟨f1, f2⟩ := below_sinv hS hB
  refine ⟨G, f1, f2, [.string (Mk.joinB xs sep)], rfl, by simp, fun i c x hc hx => ?_⟩
  match i with
  | 0 => simp at hc hx; subst hc; subst hx; exact ⟨.str _, fun ho => by simp at ho⟩
  | i + 1 => simp at hc
 rcases Mk.strs_cells hS.wf hr with ⟨rfl, a, cap, rfl⟩ | ⟨b, off, cap, rfl, q1, q2, q3⟩
 ·refine (Mk.join_none a cap sep w).mono ?_
  rintro e w' ⟨rfl, rfl⟩
  exact fin _ _ rfl (Below.refl _ _)
 ·refine (Mk.join_ok b off cap xs sep w q3 q1 hb.1 q2 hb.2).mono ?_
  rintro e w' ⟨rfl, hB⟩
  exact fin _ _ rfl hB
end Go.Ab
end
section
namespace Go.Ab
open Go.RowKit Go.Proofs
set_option maxRecDepth 100000
set_option maxHeartbeats 1000000
theorem insert_run {P : Program} {t k e : TypeId} (ht : P.underlying t = some (.map k e)) (hk : P.underlying k = some .string) {w : World} {b : Nat} {es : Array MapEntry} {clock : Nat} (hb : w.heap[b]? = some (.map es clock)) (s : ByteArray) (v : Value)
  (hno : Instr.findNow .string (.string s) es.toList 0 = some none) : (Instr.mapUpdate t (.map (some b)) (.string s) v).run P w = .ok () { w with heap := w.heap.setIfInBounds b (.map (es.push ⟨.string s, v, clock⟩) (clock + 1)) } := by
 have h1 : (Instr.checkKey false 10000 k (.string s)).run P w = .ok () w := MapKept.run_checkKey (k := .string s) hk trivial false 9999
 have h2 : (Instr.findKey k (.string s) es.toList).run P w = .ok none w := by
  rw [Instr.findKey, Sem.run_bind, run_underlying hk]
  simp only [Result.andThen, hno, Sem.run_pure]
 simp [Instr.mapUpdate, run_underlying ht, MapKept.run_getObj_map hb, h1, h2, MapKept.run_setObj_map _ hb, Result.andThen]
theorem alloc_set (w : World) (o o' : Obj) : { w.alloc o with heap := (w.alloc o).heap.setIfInBounds w.heap.size o' } = w.alloc o' := by
 have : ({ w.alloc o with heap := (w.alloc o).heap.setIfInBounds w.heap.size o' } : World).heap = (w.alloc o').heap := by
  show (w.heap.push o).setIfInBounds w.heap.size o' = w.heap.push o'
  apply Array.ext'
  simp
 show ({ w.alloc o with heap := (w.heap.push o).setIfInBounds w.heap.size o' } : World) = { w with heap := w.heap.push o' }
 have h2 : (w.heap.push o).setIfInBounds w.heap.size o' = w.heap.push o' := this
 rw [h2]
 rfl
def Mk.kAx : ByteArray := ByteArray.mk #[97, 120, 105, 111, 109]
def Mk.kDef : ByteArray := ByteArray.mk #[100, 101, 102]
def Mk.kInd : ByteArray := ByteArray.mk #[105, 110, 100, 117, 99, 116, 105, 118, 101]
def Mk.kindsL : List (ByteArray × Int) := [(Mk.kAx, 1), (Mk.kDef, 2), (Mk.kInd, 3)]
def Mk.kindsE : Array MapEntry := #[⟨.string Mk.kAx, .int .i64 1, 0⟩, ⟨.string Mk.kDef, .int .i64 2, 1⟩, ⟨.string Mk.kInd, .int .i64 3, 2⟩]
theorem Mk.kinds_ok (w : World) : Calls Tryd.prog 15 #[] w fun e w' => e = .returned (.map (some w.heap.size)) ∧ w' = w.alloc (.map Mk.kindsE 3) := by
 have hmm := @run_makeMap Tryd.prog
 go_enter Tryd.func15, Tryd.ntmps15
 have hst : ∀ (es : Array MapEntry) (clock : Nat) (s : ByteArray) (c : Int), Instr.findNow .string (.string s) es.toList 0 = some none →
   (Instr.mapUpdate 59 (.map (some w.heap.size)) (.string s) (.int .i64 c)).run Tryd.prog (w.alloc (.map es clock)) = .ok () (w.alloc (.map (es.push ⟨.string s, .int .i64 c, clock⟩) (clock + 1))) := by
  intro es clock s c hno
  rw [insert_run (P := Tryd.prog) Tryd.underlying59 Tryd.underlying9 (heap_alloc_new w _) s _ hno, alloc_set]
 have h1 := hst #[] 0 Mk.kAx 1 rfl
 have h2 := hst #[⟨.string Mk.kAx, .int .i64 1, 0⟩] 1 Mk.kDef 2 rfl
 have h3 := hst #[⟨.string Mk.kAx, .int .i64 1, 0⟩, ⟨.string Mk.kDef, .int .i64 2, 1⟩] 2 Mk.kInd 3 rfl
 simp only [Mk.kAx, Mk.kDef, Mk.kInd, List.push_toArray, List.nil_append, List.cons_append, Nat.reduceAdd] at h1 h2 h3
 go_wp2
 go_ret
 exact ⟨rfl, rfl⟩
theorem Mk.map_sinv {gl : Nat → Option (List V)} {G : Gh} {w : World} {σ : Sto} (h : SInv gl G w σ) (es : Array MapEntry) (clock : Nat) :
  Ext G w (G.new w 1 none) (w.alloc (.map es clock)) ∧ SInv gl (G.new w 1 none) (w.alloc (.map es clock)) σ := by
 have e := Ext.alloc h.wf (.map es clock) 1 none
 refine ⟨e, h.wf.alloc _ _ _, fun g cs hg => (h.glob g cs hg).mono e, h.N, fun b hb => ?_, fun b cs hb => ?_, h.gsz.mono e⟩
 ·obtain ⟨cv, fr, q1⟩ := h.typed b hb
  obtain ⟨_, _, _, _, q3, _⟩ := h.blk b σ[b] (List.getElem?_eq_getElem hb)
  exact ⟨cv, fr, (heap_alloc_lt (owner_lt h.wf q3)).trans q1⟩
 ·obtain ⟨cv, el, g1, g2, g3, g4, g5⟩ := h.blk b cs hb
  have hlt := owner_lt h.wf g3
  have hne : G.μ b ≠ w.heap.size := by omega
  refine ⟨cv, el, (heap_alloc_lt hlt).trans g1, g2, (upd_other _ _ hne).trans g3, (upd_other _ _ hne).trans g4, fun j c x hc hx => ?_⟩
  obtain ⟨e1, e2⟩ := g5 j c x hc hx
  refine ⟨e1.move e fun _ i hi => ?_, e2⟩
  have hl2 := owner_lt h.wf hi
  exact ⟨heap_alloc_lt hl2, upd_other _ _ (by omega), (upd_other _ _ (by omega)).trans hi⟩
def Mk.kindsA (args : List Cell) (σ : Sto) : Option Res := match args with
 | [] => some (.ret [(.map Mk.kindsL, false)], σ)
 | _ => none
theorem Mk.kinds_pure {C : Ctx} (hx : C.ext 15 = some Mk.kindsA) (g : FuncId) (hg : ([15] : List FuncId).contains g = true) :
  ∃ s, C.ext g = some s ∧ ∀ args vs, s args [] = some (.ret vs, []) → ∀ σ, s args σ = some (.ret vs, σ) := by
 have : g = 15 := by simpa using hg
 subst this
 refine ⟨_, hx, fun args vs h σ => ?_⟩
 unfold Mk.kindsA at h ⊢
 split at h
 ·obtain rfl : [(V.map Mk.kindsL, false)] = vs := by simpa using h
  rfl
 ·simp at h
theorem kindsC_ok {C : Ctx} (henter : ∀ (args : Array Value) (w : World), (callFunc 15 args).run Tryd.prog w = .ok (.enter 15 args) w) :
  CallOk Tryd.prog C (fun g args σ => if g = 15 then Mk.kindsA args σ else none) := by
 intro g args σ r h0
 simp only at h0
 split at h0
 case isFalse => simp at h0
 rename_i hg'
 subst hg'
 refine ⟨henter, fun G w vals hS hcl hlen hv => ?_⟩
 unfold Mk.kindsA at h0
 split at h0
 case h_2 => simp at h0
 obtain rfl := Option.some.inj h0
 obtain rfl : vals = [] := by simpa using hlen
 refine (Mk.kinds_ok w).mono ?_
 rintro e w' ⟨rfl, rfl⟩
 obtain ⟨f1, f2⟩ := Mk.map_sinv hS Mk.kindsE 3
 refine ⟨G.new w 1 none, f1, f2, [.map (some w.heap.size)], rfl, by simp, fun i c x hc hx => ?_⟩
 match i with
 | 0 =>
  simp at hc hx; subst hc; subst hx
  refine ⟨.map _ _ Mk.kindsE 3 (by show 0 < upd G.lim w.heap.size 1 w.heap.size; simp) ?_ rfl, fun ho => by simp at ho⟩
  unfold peek
  rw [heap_alloc_new]
 | i + 1 => simp at hc
end Go.Ab
end
section
set_option maxRecDepth 100000
namespace Go.Ab.Mk
open Go.Proofs Go.Ab
open List (getD)
open IntKind (wrap)
def TL : List (TypeId × TI) := [
 (0, ⟨(.tuple 0), 1, 0, [V.any]⟩),
 (3, ⟨(.int .i64), 1, 8, [(V.int .i64 (0 : Int))]⟩),
 (4, ⟨.bool, 1, 1, [V.bool false]⟩),
 (5, ⟨(.int .u8), 1, 1, [(V.int .u8 (0 : Int))]⟩),
 (9, ⟨.string, 1, 16, [V.str ⟨#[]⟩]⟩),
 (20, ⟨.iface, 1, 16, [V.nilIface]⟩),
 (23, ⟨(.slice 48), 1, 24, [V.slice 15 48 []]⟩),
 (25, ⟨.iface, 1, 16, [V.nilIface]⟩),
 (32, ⟨(.pointer 34), 1, 8, [V.nilp]⟩),
 (34, ⟨(.struct [(0, 3), (1, 3)]), 2, 16, [(V.int .i64 (0 : Int)), (V.int .i64 (0 : Int))]⟩),
 (37, ⟨(.pointer 40), 1, 8, [V.nilp]⟩),
 (40, ⟨(.struct [(0, 9), (1, 3), (2, 9), (3, 3)]), 4, 48, [V.str ⟨#[]⟩, (V.int .i64 (0 : Int)), V.str ⟨#[]⟩, (V.int .i64 (0 : Int))]⟩),
 (41, ⟨(.slice 9), 1, 24, [V.slice 1 9 []]⟩),
 (42, ⟨(.slice 76), 1, 24, [V.slice 3 76 []]⟩),
 (43, ⟨(.slice 45), 1, 24, [V.slice 5 45 []]⟩),
 (45, ⟨(.struct [(0, 3), (1, 3), (2, 9), (3, 42), (4, 43)]), 5, 80, [(V.int .i64 (0 : Int)), (V.int .i64 (0 : Int)), V.str ⟨#[]⟩, V.slice 3 76 [], V.slice 5 45 []]⟩),
 (46, ⟨(.slice 63), 1, 24, [V.slice 6 63 []]⟩),
 (48, ⟨(.struct [(0, 3), (1, 9), (2, 41), (3, 45), (8, 45), (13, 3), (14, 46)]), 15, 240, [(V.int .i64 (0 : Int)), V.str ⟨#[]⟩, V.slice 1 9 [], (V.int .i64 (0 : Int)), (V.int .i64 (0 : Int)), V.str ⟨#[]⟩, V.slice 3 76 [], V.slice 5 45 [], (V.int .i64 (0 : Int)), (V.int .i64 (0 : Int)), V.str ⟨#[]⟩, V.slice 3 76 [], V.slice 5 45 [], (V.int .i64 (0 : Int)), V.slice 6 63 []]⟩),
 (50, ⟨(.pointer 53), 1, 8, [V.nilp]⟩),
 (51, ⟨(.slice 5), 1, 24, [V.slice 1 5 []]⟩),
 (53, ⟨(.struct [(0, 50), (1, 51)]), 2, 32, [V.nilp, V.slice 1 5 []]⟩),
 (54, ⟨(.tuple 2), 1, 0, [V.any]⟩),
 (59, ⟨(.map 9 3), 1, 8, [V.any]⟩),
 (63, ⟨(.struct [(0, 9), (1, 45)]), 6, 96, [V.str ⟨#[]⟩, (V.int .i64 (0 : Int)), (V.int .i64 (0 : Int)), V.str ⟨#[]⟩, V.slice 3 76 [], V.slice 5 45 []]⟩),
 (69, ⟨.func, 1, 8, [V.nilFunc]⟩),
 (71, ⟨(.tuple 2), 1, 0, [V.any]⟩),
 (74, ⟨(.array 7 9), 7, 112, [V.str ⟨#[]⟩, V.str ⟨#[]⟩, V.str ⟨#[]⟩, V.str ⟨#[]⟩, V.str ⟨#[]⟩, V.str ⟨#[]⟩, V.str ⟨#[]⟩]⟩),
 (76, ⟨(.struct [(0, 3), (1, 9), (2, 42)]), 3, 48, [(V.int .i64 (0 : Int)), V.str ⟨#[]⟩, V.slice 3 76 []]⟩),
 (119, ⟨(.array 4 9), 4, 64, [V.str ⟨#[]⟩, V.str ⟨#[]⟩, V.str ⟨#[]⟩, V.str ⟨#[]⟩]⟩)]
noncomputable def fprintAllH : Hints := { keep := fun i => if i = 0 then [3, 6, 7, 8] else [], esc := [3], lp := [5], ep := [10], roots := [(5, 5)], pureF := [15] }
noncomputable def fprintAllC : Code := Tryd.f5.body.getD .skip
noncomputable def fprintAllD : FDef := ⟨Tryd.f5, fprintAllC, fprintAllH⟩
noncomputable def newScannerH : Hints := { keep := fun i => [], esc := [6], pureF := [15] }
noncomputable def newScannerC : Code := Tryd.f8.body.getD .skip
noncomputable def newScannerD : FDef := ⟨Tryd.f8, newScannerC, newScannerH⟩
noncomputable def freadH : Hints := { keep := fun i => if i = 3 then [0, 2, 3] else if i = 0 then [0, 2, 3, 55, 56] else [], steal := [14, 33, 86], lp := [2, 3, 15, 24, 32, 38, 41, 61, 66, 67, 73, 85, 94], roots := [(2, 2), (3, 3), (15, 3), (24, 3), (32, 3), (38, 3), (41, 3), (61, 3), (66, 3), (67, 3), (73, 3), (85, 3), (94, 3)], ord := fun i => if i = 2 then [7, 0, 1, 2, 3, 4, 5, 6, 8] else if i = 9 then List.range 8 else if i = 25 then [0, 1, 2, 4, 3, 5, 6, 7, 8, 9, 10] else [], pureF := [15] }
noncomputable def freadC : Code := Tryd.f9.body.getD .skip
noncomputable def freadD : FDef := ⟨Tryd.f9, freadC, freadH⟩
noncomputable def wstringH : Hints := { keep := fun i => [], steal := [12], pureF := [15] }
noncomputable def wstringC : Code := Tryd.f10.body.getD .skip
noncomputable def wstringD : FDef := ⟨Tryd.f10, wstringC, wstringH⟩
noncomputable def fprintH : Hints := { keep := fun i => if i = 0 then [3, 51, 52, 53] else [], steal := [16, 29, 35, 44, 57], lp := [1, 5, 7, 9, 12, 17, 19, 26, 30, 36, 41, 45, 50, 58, 62], ep := [55], roots := [(1, 1), (5, 5), (7, 1), (9, 1), (12, 1), (17, 1), (19, 1), (26, 1), (30, 1), (36, 1), (41, 1), (45, 1), (50, 1), (58, 5), (62, 5)], ord := fun i => if i = 2 then List.range 11 else if i = 11 then List.range 13 else [], pureF := [15] }
noncomputable def fprintC : Code := Tryd.f11.body.getD .skip
noncomputable def fprintD : FDef := ⟨Tryd.f11, fprintC, fprintH⟩
noncomputable def sstepH : Hints := { keep := fun i => [], ord := fun i => if i = 1 then List.range 10 else if i = 4 then List.range 10 else if i = 21 then List.range 19 else [], pureF := [15] }
noncomputable def sstepC : Code := Tryd.f13.body.getD .skip
noncomputable def sstepD : FDef := ⟨Tryd.f13, sstepC, sstepH⟩
noncomputable def stakeH : Hints := { keep := fun i => [], pureF := [15] }
noncomputable def stakeC : Code := Tryd.f14.body.getD .skip
noncomputable def stakeD : FDef := ⟨Tryd.f14, stakeC, stakeH⟩
noncomputable def sfailH : Hints := { keep := fun i => [], esc := [7], pureF := [15] }
noncomputable def sfailC : Code := Tryd.f16.body.getD .skip
noncomputable def sfailD : FDef := ⟨Tryd.f16, sfailC, sfailH⟩
noncomputable def snameH : Hints := { keep := fun i => [], pureF := [15] }
noncomputable def snameC : Code := Tryd.f17.body.getD .skip
noncomputable def snameD : FDef := ⟨Tryd.f17, snameC, snameH⟩
noncomputable def readH : Hints := { keep := fun i => if i = 3 then [0, 2, 8, 75, 76] else if i = 1 then [0, 2, 8, 9] else [], steal := [48, 67, 79], lp := [2, 8, 55, 60, 66, 72, 78, 84], roots := [(2, 2), (8, 8), (55, 8), (60, 8), (66, 8), (72, 8), (78, 8), (84, 8)], ord := fun i => if i = 9 then List.range 8 else if i = 21 then List.range 8 else if i = 26 then List.range 8 else [], pureF := [15] }
noncomputable def readC : Code := Tryd.f19.body.getD .skip
noncomputable def readD : FDef := ⟨Tryd.f19, readC, readH⟩
noncomputable def tprintH : Hints := { keep := fun i => [], esc := [3], lp := [1], roots := [(1, 1)], pureF := [15] }
noncomputable def tprintC : Code := Tryd.f23.body.getD .skip
noncomputable def tprintD : FDef := ⟨Tryd.f23, tprintC, tprintH⟩
noncomputable def srunH : Hints := { keep := fun i => if i = 0 then [0, 1, 2] else [], pureF := [15] }
noncomputable def srunC : Code := Tryd.f24.body.getD .skip
noncomputable def srunD : FDef := ⟨Tryd.f24, srunC, srunH⟩
noncomputable def sblankH : Hints := { keep := fun i => [], pureF := [15] }
noncomputable def sblankC : Code := Tryd.f25.body.getD .skip
noncomputable def sblankD : FDef := ⟨Tryd.f25, sblankC, sblankH⟩
noncomputable def letterH : Hints := { keep := fun i => [], pureF := [15] }
noncomputable def letterC : Code := Tryd.f26.body.getD .skip
noncomputable def letterD : FDef := ⟨Tryd.f26, letterC, letterH⟩
noncomputable def snmbH : Hints := { keep := fun i => [], pureF := [15] }
noncomputable def snmbC : Code := Tryd.f27.body.getD .skip
noncomputable def snmbD : FDef := ⟨Tryd.f27, snmbC, snmbH⟩
noncomputable def digitH : Hints := { keep := fun i => [], pureF := [15] }
noncomputable def digitC : Code := Tryd.f28.body.getD .skip
noncomputable def digitD : FDef := ⟨Tryd.f28, digitC, digitH⟩
noncomputable def cutPrefixH : Hints := { keep := fun i => [], pureF := [15] }
noncomputable def cutPrefixC : Code := Tryd.f31.body.getD .skip
noncomputable def cutPrefixD : FDef := ⟨Tryd.f31, cutPrefixC, cutPrefixH⟩
noncomputable def indexH : Hints := { keep := fun i => if i = 0 then [0, 1, 7, 8] else [], ep := [14], pureF := [15] }
noncomputable def indexC : Code := Tryd.f32.body.getD .skip
noncomputable def indexD : FDef := ⟨Tryd.f32, indexC, indexH⟩
noncomputable def slevelH : Hints := { keep := fun i => [], steal := [35, 45], lp := [2, 3, 25, 28, 31, 34, 40, 41, 44, 50], roots := [(2, 2), (3, 3), (25, 3), (28, 3), (31, 3), (34, 3), (40, 3), (41, 3), (44, 3), (50, 3)], ord := fun i => if i = 17 then List.range 8 else if i = 19 then List.range 8 else [], pureF := [15] }
noncomputable def slevelC : Code := Tryd.f33.body.getD .skip
noncomputable def slevelD : FDef := ⟨Tryd.f33, slevelC, slevelH⟩
noncomputable def twriteH : Hints := { keep := fun i => if i = 2 then [0, 46, 47, 48] else if i = 0 then [0, 3, 33, 34, 35] else [], lp := [3, 5, 7, 8, 12, 18, 24, 28, 32, 45], ep := [20, 37, 50], roots := [(3, 3), (5, 5), (7, 7), (8, 3), (12, 3), (18, 3), (24, 3), (28, 3), (32, 3), (45, 3)], pureF := [15] }
noncomputable def twriteC : Code := Tryd.f37.body.getD .skip
noncomputable def twriteD : FDef := ⟨Tryd.f37, twriteC, twriteH⟩
noncomputable def cutPrefix1H : Hints := { keep := fun i => [], pureF := [15] }
noncomputable def cutPrefix1C : Code := Tryd.f43.body.getD .skip
noncomputable def cutPrefix1D : FDef := ⟨Tryd.f43, cutPrefix1C, cutPrefix1H⟩
noncomputable def printH : Hints := { keep := fun i => [], esc := [3], lp := [1], roots := [(1, 1)], pureF := [15] }
noncomputable def printC : Code := Tryd.f46.body.getD .skip
noncomputable def printD : FDef := ⟨Tryd.f46, printC, printH⟩
noncomputable def wbyteH : Hints := { keep := fun i => [], steal := [11], pureF := [15] }
noncomputable def wbyteC : Code := Tryd.f47.body.getD .skip
noncomputable def wbyteD : FDef := ⟨Tryd.f47, wbyteC, wbyteH⟩
noncomputable def hasPrefixH : Hints := { keep := fun i => [], pureF := [15] }
noncomputable def hasPrefixC : Code := Tryd.f51.body.getD .skip
noncomputable def hasPrefixD : FDef := ⟨Tryd.f51, hasPrefixC, hasPrefixH⟩
noncomputable def writeH : Hints := { keep := fun i => if i = 1 then [0, 16, 17, 18] else [], lp := [3, 5, 6, 9, 15, 37], ep := [11, 20], roots := [(3, 3), (5, 5), (6, 3), (9, 3), (15, 3), (37, 3)], pureF := [15] }
noncomputable def writeC : Code := Tryd.f57.body.getD .skip
noncomputable def writeD : FDef := ⟨Tryd.f57, writeC, writeH⟩
noncomputable def FL : List (FuncId × FDef) := [(5, fprintAllD), (8, newScannerD), (9, freadD), (10, wstringD), (11, fprintD), (13, sstepD), (14, stakeD), (16, sfailD), (17, snameD), (19, readD), (23, tprintD), (24, srunD), (25, sblankD), (26, letterD), (27, snmbD), (28, digitD), (31, cutPrefixD), (32, indexD), (33, slevelD), (37, twriteD), (43, cutPrefix1D), (46, printD), (47, wbyteD), (51, hasPrefixD), (57, writeD)]
noncomputable def C : Ctx := { T := look TL, glob := fun g => if g = 0 then some [V.str ⟨#[]⟩, V.str ⟨#[115, 111, 114, 116]⟩, V.str ⟨#[99, 111, 110, 115, 116]⟩, V.str ⟨#[97, 112, 112]⟩, V.str ⟨#[108, 97, 109]⟩, V.str ⟨#[112, 105]⟩, V.str ⟨#[108, 101, 116]⟩] else if g = 5 then some [V.str ⟨#[]⟩, V.str ⟨#[115]⟩, V.str ⟨#[109, 97, 120]⟩, V.str ⟨#[105, 109, 97, 120]⟩] else if g = 4 then some (Go.Lib.pow10Tab.map fun z => V.int .u64 z) else if g = 1 then some [V.iface 109 V.any] else none, ext := fun f => if f = 22 then some Mk.textA else if f = 18 then some Mk.atoiA else if f = 21 then some Mk.joinA else if f = 15 then some Mk.kindsA else if f = 20 then some (copyCheckS 53) else if f = 12 then some (bldStringE 53 5) else none, fdef := lookF FL }
theorem typesOk : ∀ t i, C.T t = some i → TOk Tryd.prog t i := look_ok (by kernel_rfl)
theorem ctxOk : CtxOk Tryd.prog C where
 mixed := by kernel_rfl
 T := typesOk
 fdef := by
  refine lookF_ok (P := Tryd.prog) (Q := fun f d => Tryd.prog.funcs[f]? = some d.fn ∧ d.fn.body = some d.code ∧ (∀ (args : Array Value) (w : World), (callFunc f args).run Tryd.prog w = .ok (.enter f args) w)) (L := FL) ?_
  intro p hp
  simp only [FL, List.mem_cons, List.not_mem_nil, or_false] at hp
  rcases hp with rfl | rfl | rfl | rfl | rfl | rfl | rfl | rfl | rfl | rfl | rfl | rfl | rfl | rfl | rfl | rfl | rfl | rfl | rfl | rfl | rfl | rfl | rfl | rfl | rfl
  ·exact ⟨Tryd.func5, by kernel_rfl, fun args w => Tryd.call5 args w⟩
  ·exact ⟨Tryd.func8, by kernel_rfl, fun args w => Tryd.call8 args w⟩
  ·exact ⟨Tryd.func9, by kernel_rfl, fun args w => Tryd.call9 args w⟩
  ·exact ⟨Tryd.func10, by kernel_rfl, fun args w => Tryd.call10 args w⟩
  ·exact ⟨Tryd.func11, by kernel_rfl, fun args w => Tryd.call11 args w⟩
  ·exact ⟨Tryd.func13, by kernel_rfl, fun args w => Tryd.call13 args w⟩
  ·exact ⟨Tryd.func14, by kernel_rfl, fun args w => Tryd.call14 args w⟩
  ·exact ⟨Tryd.func16, by kernel_rfl, fun args w => Tryd.call16 args w⟩
  ·exact ⟨Tryd.func17, by kernel_rfl, fun args w => Tryd.call17 args w⟩
  ·exact ⟨Tryd.func19, by kernel_rfl, fun args w => Tryd.call19 args w⟩
  ·exact ⟨Tryd.func23, by kernel_rfl, fun args w => Tryd.call23 args w⟩
  ·exact ⟨Tryd.func24, by kernel_rfl, fun args w => Tryd.call24 args w⟩
  ·exact ⟨Tryd.func25, by kernel_rfl, fun args w => Tryd.call25 args w⟩
  ·exact ⟨Tryd.func26, by kernel_rfl, fun args w => Tryd.call26 args w⟩
  ·exact ⟨Tryd.func27, by kernel_rfl, fun args w => Tryd.call27 args w⟩
  ·exact ⟨Tryd.func28, by kernel_rfl, fun args w => Tryd.call28 args w⟩
  ·exact ⟨Tryd.func31, by kernel_rfl, fun args w => Tryd.call31 args w⟩
  ·exact ⟨Tryd.func32, by kernel_rfl, fun args w => Tryd.call32 args w⟩
  ·exact ⟨Tryd.func33, by kernel_rfl, fun args w => Tryd.call33 args w⟩
  ·exact ⟨Tryd.func37, by kernel_rfl, fun args w => Tryd.call37 args w⟩
  ·exact ⟨Tryd.func43, by kernel_rfl, fun args w => Tryd.call43 args w⟩
  ·exact ⟨Tryd.func46, by kernel_rfl, fun args w => Tryd.call46 args w⟩
  ·exact ⟨Tryd.func47, by kernel_rfl, fun args w => Tryd.call47 args w⟩
  ·exact ⟨Tryd.func51, by kernel_rfl, fun args w => Tryd.call51 args w⟩
  ·exact ⟨Tryd.func57, by kernel_rfl, fun args w => Tryd.call57 args w⟩
 pure := by
  refine lookF_ok (P := Tryd.prog) (Q := fun _ d => ∀ g, d.hints.pureF.contains g = true → ∃ s, C.ext g = some s ∧ ∀ args vs, s args [] = some (.ret vs, []) → ∀ σ, s args σ = some (.ret vs, σ)) (L := FL) ?_
  intro p hp
  simp only [FL, List.mem_cons, List.not_mem_nil, or_false] at hp
  rcases hp with rfl | rfl | rfl | rfl | rfl | rfl | rfl | rfl | rfl | rfl | rfl | rfl | rfl | rfl | rfl | rfl | rfl | rfl | rfl | rfl | rfl | rfl | rfl | rfl | rfl
  ·exact Mk.kinds_pure (by kernel_rfl)
  ·exact Mk.kinds_pure (by kernel_rfl)
  ·exact Mk.kinds_pure (by kernel_rfl)
  ·exact Mk.kinds_pure (by kernel_rfl)
  ·exact Mk.kinds_pure (by kernel_rfl)
  ·exact Mk.kinds_pure (by kernel_rfl)
  ·exact Mk.kinds_pure (by kernel_rfl)
  ·exact Mk.kinds_pure (by kernel_rfl)
  ·exact Mk.kinds_pure (by kernel_rfl)
  ·exact Mk.kinds_pure (by kernel_rfl)
  ·exact Mk.kinds_pure (by kernel_rfl)
  ·exact Mk.kinds_pure (by kernel_rfl)
  ·exact Mk.kinds_pure (by kernel_rfl)
  ·exact Mk.kinds_pure (by kernel_rfl)
  ·exact Mk.kinds_pure (by kernel_rfl)
  ·exact Mk.kinds_pure (by kernel_rfl)
  ·exact Mk.kinds_pure (by kernel_rfl)
  ·exact Mk.kinds_pure (by kernel_rfl)
  ·exact Mk.kinds_pure (by kernel_rfl)
  ·exact Mk.kinds_pure (by kernel_rfl)
  ·exact Mk.kinds_pure (by kernel_rfl)
  ·exact Mk.kinds_pure (by kernel_rfl)
  ·exact Mk.kinds_pure (by kernel_rfl)
  ·exact Mk.kinds_pure (by kernel_rfl)
  ·exact Mk.kinds_pure (by kernel_rfl)
end Go.Ab.Mk
end
section
set_option maxRecDepth 100000
namespace Go.Ab.Mk
open Go.Proofs Go.Ab
open List (getD)
open IntKind (wrap)
noncomputable def fprintAllk0 : List Nat := [3, 6, 7, 8]
noncomputable def fprintAlls0 (call : CallF) (rec0 : Nat → LL → Int → Int → RR) (c : Nat) (b : LL) (d a : Int) (σ : Sto) : Option Res :=
 bif (decide (a < d)) then
 (grd (decide (0 ≤ a) && decide (a < b.length))).bind fun _ =>
 callK call 11 [(V.agg [(getD (getD b a.toNat []) 0 V.any), (getD (getD b a.toNat []) 1 V.any), (getD (getD b a.toNat []) 2 V.any), (getD (getD b a.toNat []) 3 V.any), (getD (getD b a.toNat []) 4 V.any), (getD (getD b a.toNat []) 5 V.any), (getD (getD b a.toNat []) 6 V.any), (getD (getD b a.toNat []) 7 V.any), (getD (getD b a.toNat []) 8 V.any), (getD (getD b a.toNat []) 9 V.any), (getD (getD b a.toNat []) 10 V.any), (getD (getD b a.toNat []) 11 V.any), (getD (getD b a.toNat []) 12 V.any), (getD (getD b a.toNat []) 13 V.any), (getD (getD b a.toNat []) 14 V.any)], false)] σ 1 (fun e f =>
 (V.asStr (getD e 0 cellD).1).bind fun s4 =>
 (grd (strRoom s4 (ByteArray.mk #[10]))).bind fun _ =>
 callK call 10 [(V.ptr 53 c 0, false), (V.str (s4 ++ (ByteArray.mk #[10])), false)] f 2 (fun j g =>
 rec0 c b d (wrap .i64 (a + (1 : Int))) g) pnK) pnK
 else
 callK call 12 [(V.ptr 53 c 0, false)] σ 1 (fun h i =>
 some (.ret [((getD h 0 cellD).1, false)], i)) pnK
noncomputable def fprintAlll0 (call : CallF) (n : Nat) : Nat → Nat → LL → Int → Int → RR
 | 0 => fun _ _ _ _ _ => none
 | m + 1 => fprintAlls0 call (fprintAlll0 call n m)
noncomputable def fprintAllt0 (a : Nat) (b : LL) (c d : Int) (σ : Sto) : St := ⟨[.dead, .dead, .dead, .val (V.ptr 53 a 0) false, .dead, .dead, .val (V.slice 15 48 b) false, .val (V.int .i64 c) false, .val (V.int .i64 d) false] ++ dd 9 [], nn 18 [], σ⟩
noncomputable def fprintAllF (call : CallF) (L0 : Nat → LL → Int → Int → RR) (a : LL) (σ : Sto) : Option Res :=
 L0 (List.length σ) a (a.length : Int) (0 : Int) (σ ++ [[(V.nilp, false), (V.slice 1 5 [], true)]])
noncomputable def fprintAll (call : CallF) (n : Nat) (a : LL) (σ : Sto) : Option Res := fprintAllF call (fprintAlll0 call n n) a σ
theorem fprintAlls0_eq (call : CallF) (n : Nat) (F0 : St → Option Res) (a : Nat) (b : LL) (c d : Int) (σ : Sto) :
  aexec C fprintAllH call n (cp [0,0,1,0,1,1] fprintAllC) 0 (fprintAllt0 a b c d σ) (kloop fprintAllk0 F0 (kblk 0 (kseq (fun st' => aexec C fprintAllH call n (cp [1,1,1] fprintAllC) 0 st' (kfin C fprintAllD)) (kfin C fprintAllD)))) =
  fprintAlls0 call (fun a b c d σ => F0 (fprintAllt0 a b c d σ)) a b c d σ := by kernel_rfl
theorem fprintAlll0_eq (call : CallF) (n : Nat) : ∀ (m a : Nat) (b : LL) (c d : Int) (σ : Sto),
  aloop (fun st K => aexec C fprintAllH call n (cp [0,0,1,0,1,1] fprintAllC) 0 st K) fprintAllk0 m (fprintAllt0 a b c d σ) (kblk 0 (kseq (fun st' => aexec C fprintAllH call n (cp [1,1,1] fprintAllC) 0 st' (kfin C fprintAllD)) (kfin C fprintAllD))) = fprintAlll0 call n m a b c d σ
 | 0, a, b, c, d, σ => rfl
 | m + 1, a, b, c, d, σ => by
  rw [aloop, fprintAlls0_eq]
  simp only [fprintAlll0_eq call n m]
  rfl
theorem fprintAll_eqF (call : CallF) (n : Nat) (a : LL) (σ : Sto) : afun C fprintAllD call n [(V.slice 15 48 a, false)] σ =
  fprintAllF call (fun b c d e σ => aloop (fun st K => aexec C fprintAllH call n (cp [0,0,1,0,1,1] fprintAllC) 0 st K) fprintAllk0 n (fprintAllt0 b c d e σ) (kblk 0 (kseq (fun st' => aexec C fprintAllH call n (cp [1,1,1] fprintAllC) 0 st' (kfin C fprintAllD)) (kfin C fprintAllD)))) a σ := by kernel_rfl
theorem fprintAll_eq (call : CallF) (n : Nat) (a : LL) (σ : Sto) : afun C fprintAllD call n [(V.slice 15 48 a, false)] σ = fprintAll call n a σ := by
 rw [fprintAll_eqF]
 simp only [fprintAlll0_eq]
 rfl
theorem fprintAll_lim {n : Nat} {a : LL} {b0 : Bool} {σ : Sto} {r : Res} (h : fprintAll (lim C) n a σ = some r) : lim C 5 [(V.slice 15 48 a, b0)] σ = some r :=
 lim_of (d := fprintAllD) (by kernel_rfl) (by kernel_rfl) n (show afun C fprintAllD (lim C) n [(V.slice 15 48 a, false)] σ = some r from (fprintAll_eq (lim C) n a σ).trans h)
noncomputable def newScannerF (call : CallF) (a : ByteArray) (σ : Sto) : Option Res :=
 callK call 13 [(V.ptr 40 (List.length σ) 0, false)] (σ ++ [[(V.str a, false), ((V.int .i64 (0 : Int)), false), (V.str ⟨#[]⟩, false), ((V.int .i64 (0 : Int)), false)]]) 0 (fun c b =>
 some (.ret [(V.ptr 40 (List.length σ) 0, false)], b)) pnK
noncomputable def newScanner (call : CallF) (n : Nat) (a : ByteArray) (σ : Sto) : Option Res := newScannerF call a σ
theorem newScanner_eqF (call : CallF) (n : Nat) (a : ByteArray) (σ : Sto) : afun C newScannerD call n [(V.str a, false)] σ =
  newScannerF call a σ := by kernel_rfl
theorem newScanner_eq (call : CallF) (n : Nat) (a : ByteArray) (σ : Sto) : afun C newScannerD call n [(V.str a, false)] σ = newScanner call n a σ := newScanner_eqF call n a σ
theorem newScanner_lim {n : Nat} {a : ByteArray} {b0 : Bool} {σ : Sto} {r : Res} (h : newScanner (lim C) n a σ = some r) : lim C 8 [(V.str a, b0)] σ = some r :=
 lim_of (d := newScannerD) (by kernel_rfl) (by kernel_rfl) n (show afun C newScannerD (lim C) n [(V.str a, false)] σ = some r from (newScanner_eq (lim C) n a σ).trans h)
noncomputable def freadk0 : List Nat := [0, 2, 3, 55, 56]
noncomputable def freadk1 : List Nat := [0, 2, 3]
noncomputable def freads1 (call : CallF) (rec1 : Nat → Int → ByteArray → LL → Int → Int → ByteArray → LL → LL → Int → Int → ByteArray → LL → LL → Int → LL → Int → V → LL → V → V → V → V → V → Int → Int → ByteArray → LL → LL → V → LL → RR) (a : Nat) (v : Int) (w : ByteArray) (x : LL) (y z : Int) (a0 : ByteArray) (a1 a2 : LL) (a3 a4 : Int) (a5 : ByteArray) (a6 a7 : LL) (a8 : Int) (a9 : LL) (d : Int) (e : V) (f : LL) (g h i j k : V) (o p : Int) (q : ByteArray) (r s : LL) (t : V) (c : LL) (σ : Sto) : Option Res :=
 (memGet σ (V.ptr 40 a 2) false 1).bind fun m1 =>
 (V.asStr m1).bind fun s2 =>
 bif (s2.toList == (ByteArray.mk #[40]).toList) then
 callK call 13 [(V.ptr 40 a 0, false)] σ 0 (fun c6 c0 =>
 callK call 14 [(V.ptr 40 a 0, false), (V.str ⟨#[99, 116, 111, 114]⟩, false)] c0 0 (fun c7 c1 =>
 callK call 17 [(V.ptr 40 a 0, false)] c1 1 (fun u c2 =>
 callK call 19 [(V.ptr 40 a 0, false)] c2 1 (fun b c3 =>
 (grd ((V.fits (getD u 0 cellD).1 false 1 && true))).bind fun _ =>
 (grd ((V.fits (getD b 0 cellD).1 true 5 && true))).bind fun _ =>
 (grd (room (List.length c + 1))).bind fun _ =>
 callK call 14 [(V.ptr 40 a 0, false), (V.str ⟨#[41]⟩, false)] c3 0 (fun c8 c4 =>
 rec1 a v w x y z a0 a1 a2 a3 a4 a5 a6 a7 a8 a9 d e f g h i j k o p q r s t (c ++ [[(getD u 0 cellD).1, V.cell (getD b 0 cellD).1 0, V.cell (getD b 0 cellD).1 1, V.cell (getD b 0 cellD).1 2, V.cell (getD b 0 cellD).1 3, V.cell (getD b 0 cellD).1 4]]) c4) pnK) pnK) pnK) pnK) pnK
 else
 callK call 14 [(V.ptr 40 a 0, false), (V.str ⟨#[41]⟩, false)] σ 0 (fun c9 c5 =>
 some (.ret [(V.agg [V.int .i64 d, e, V.slice 1 9 f, g, h, i, j, k, V.int .i64 o, V.int .i64 p, V.str q, V.slice 3 76 r, V.slice 5 45 s, t, V.slice 6 63 c], false)], c5)) pnK
noncomputable def freadl1 (call : CallF) (n : Nat) : Nat → Nat → Int → ByteArray → LL → Int → Int → ByteArray → LL → LL → Int → Int → ByteArray → LL → LL → Int → LL → Int → V → LL → V → V → V → V → V → Int → Int → ByteArray → LL → LL → V → LL → RR
 | 0 => fun _ _ _ _ _ _ _ _ _ _ _ _ _ _ _ _ _ _ _ _ _ _ _ _ _ _ _ _ _ _ _ _ => none
 | m + 1 => freads1 call (freadl1 call n m)
noncomputable def freadt1 (a : Nat) (b : Int) (c : ByteArray) (d : LL) (e f : Int) (g : ByteArray) (h i : LL) (j k : Int) (o : ByteArray) (p q : LL) (r : Int) (s : LL) (t : Int) (u : V) (v : LL) (w x y z a0 : V) (a1 a2 : Int) (a3 : ByteArray) (a4 a5 : LL) (a6 : V) (a7 : LL) (σ : Sto) : St := ⟨[.val (V.ptr 40 a 0) false, .dead, .lptr 2 0, .lptr 3 0] ++ dd 96 [], [[], [], [(V.int .i64 b, false), (V.str c, false), (V.slice 1 9 d, true), (V.int .i64 e, false), (V.int .i64 f, false), (V.str g, false), (V.slice 3 76 h, true), (V.slice 5 45 i, true), (V.int .i64 j, false), (V.int .i64 k, false), (V.str o, false), (V.slice 3 76 p, true), (V.slice 5 45 q, true), (V.int .i64 r, false), (V.slice 6 63 s, true)], [(V.int .i64 t, false), (u, false), (V.slice 1 9 v, true), (w, false), (x, false), (y, false), (z, false), (a0, false), (V.int .i64 a1, false), (V.int .i64 a2, false), (V.str a3, false), (V.slice 3 76 a4, true), (V.slice 5 45 a5, true), (a6, false), (V.slice 6 63 a7, true)]] ++ nn 96 [], σ⟩
noncomputable def freads0 (call : CallF) (L1 : Nat → Int → ByteArray → LL → Int → Int → ByteArray → LL → LL → Int → Int → ByteArray → LL → LL → Int → LL → Int → V → LL → V → V → V → V → V → Int → Int → ByteArray → LL → LL → V → LL → RR) (rec0 : Nat → Int → ByteArray → LL → Int → Int → ByteArray → LL → LL → Int → Int → ByteArray → LL → LL → Int → LL → Int → V → LL → Int → Int → ByteArray → LL → LL → Int → Int → ByteArray → LL → LL → Int → LL → RR) (a : Nat) (w : Int) (x : ByteArray) (y : LL) (z a0 : Int) (a1 : ByteArray) (a2 a3 : LL) (a4 a5 : Int) (a6 : ByteArray) (a7 a8 : LL) (a9 : Int) (c0 : LL) (b : Int) (i : V) (g : LL) (c9 d0 : Int) (d1 : ByteArray) (d2 d3 : LL) (k o : Int) (p : ByteArray) (q r : LL) (c1 : Int) (j : LL) (σ : Sto) : Option Res :=
 (memGet σ (V.ptr 40 a 2) false 1).bind fun m1 =>
 (V.asStr m1).bind fun s2 =>
 bif (!(s2.toList == (ByteArray.mk #[41]).toList)) then
 callK call 17 [(V.ptr 40 a 0, false)] σ 1 (fun c8 d4 =>
 (grd ((V.fits (getD c8 0 cellD).1 false 1 && true))).bind fun _ =>
 (grd (room (List.length g + 1))).bind fun _ =>
 rec0 a w x y z a0 a1 a2 a3 a4 a5 a6 a7 a8 a9 c0 b i (g ++ [[(getD c8 0 cellD).1]]) c9 d0 d1 d2 d3 k o p q r c1 j d4) pnK
 else
 callK call 13 [(V.ptr 40 a 0, false)] σ 0 (fun f2 c2 =>
 bif (b == (3 : Int)) then
 (memGet c2 (V.ptr 40 a 2) false 1).bind fun m9 =>
 callK call 18 [(m9, false)] c2 2 (fun h c3 =>
 (V.ifaceNil (getD h 1 cellD).1).bind fun b13 =>
 bif (!b13) then
 callK call 16 [(V.ptr 40 a 0, false)] c3 0 (fun f3 d5 =>
 (grd (V.fits (getD h 0 cellD).1 false 1)).bind fun _ =>
 callK call 13 [(V.ptr 40 a 0, false)] d5 0 (fun f4 d6 =>
 callK call 19 [(V.ptr 40 a 0, false)] d6 1 (fun c c4 =>
 (grd (V.fits (getD c 0 cellD).1 true 5)).bind fun _ =>
 bif (b == (2 : Int)) then
 callK call 19 [(V.ptr 40 a 0, false)] c4 1 (fun s d7 =>
 (grd (V.fits (getD s 0 cellD).1 true 5)).bind fun _ =>
 callK call 14 [(V.ptr 40 a 0, false), (V.str ⟨#[41]⟩, false)] d7 0 (fun f5 d8 =>
 some (.ret [(V.agg [V.int .i64 b, i, V.slice 1 9 g, V.cell (getD c 0 cellD).1 0, V.cell (getD c 0 cellD).1 1, V.cell (getD c 0 cellD).1 2, V.cell (getD c 0 cellD).1 3, V.cell (getD c 0 cellD).1 4, V.cell (getD s 0 cellD).1 0, V.cell (getD s 0 cellD).1 1, V.cell (getD s 0 cellD).1 2, V.cell (getD s 0 cellD).1 3, V.cell (getD s 0 cellD).1 4, (getD h 0 cellD).1, V.slice 6 63 j], false)], d8)) pnK) pnK
 else
 bif (b == (3 : Int)) then
 L1 a w x y z a0 a1 a2 a3 a4 a5 a6 a7 a8 a9 c0 b i g (V.cell (getD c 0 cellD).1 0) (V.cell (getD c 0 cellD).1 1) (V.cell (getD c 0 cellD).1 2) (V.cell (getD c 0 cellD).1 3) (V.cell (getD c 0 cellD).1 4) k o p q r (getD h 0 cellD).1 j c4
 else
 callK call 14 [(V.ptr 40 a 0, false), (V.str ⟨#[41]⟩, false)] c4 0 (fun f6 d9 =>
 some (.ret [(V.agg [V.int .i64 b, i, V.slice 1 9 g, V.cell (getD c 0 cellD).1 0, V.cell (getD c 0 cellD).1 1, V.cell (getD c 0 cellD).1 2, V.cell (getD c 0 cellD).1 3, V.cell (getD c 0 cellD).1 4, V.int .i64 k, V.int .i64 o, V.str p, V.slice 3 76 q, V.slice 5 45 r, (getD h 0 cellD).1, V.slice 6 63 j], false)], d9)) pnK) pnK) pnK) pnK
 else
 (V.asInt (getD h 0 cellD).1 .i64).bind fun i32 =>
 bif (decide (i32 > (99 : Int))) then
 callK call 16 [(V.ptr 40 a 0, false)] c3 0 (fun f7 e0 =>
 (grd (V.fits (getD h 0 cellD).1 false 1)).bind fun _ =>
 callK call 13 [(V.ptr 40 a 0, false)] e0 0 (fun f8 e1 =>
 callK call 19 [(V.ptr 40 a 0, false)] e1 1 (fun d c5 =>
 (grd (V.fits (getD d 0 cellD).1 true 5)).bind fun _ =>
 bif (b == (2 : Int)) then
 callK call 19 [(V.ptr 40 a 0, false)] c5 1 (fun t e2 =>
 (grd (V.fits (getD t 0 cellD).1 true 5)).bind fun _ =>
 callK call 14 [(V.ptr 40 a 0, false), (V.str ⟨#[41]⟩, false)] e2 0 (fun f9 e3 =>
 some (.ret [(V.agg [V.int .i64 b, i, V.slice 1 9 g, V.cell (getD d 0 cellD).1 0, V.cell (getD d 0 cellD).1 1, V.cell (getD d 0 cellD).1 2, V.cell (getD d 0 cellD).1 3, V.cell (getD d 0 cellD).1 4, V.cell (getD t 0 cellD).1 0, V.cell (getD t 0 cellD).1 1, V.cell (getD t 0 cellD).1 2, V.cell (getD t 0 cellD).1 3, V.cell (getD t 0 cellD).1 4, (getD h 0 cellD).1, V.slice 6 63 j], false)], e3)) pnK) pnK
 else
 bif (b == (3 : Int)) then
 L1 a w x y z a0 a1 a2 a3 a4 a5 a6 a7 a8 a9 c0 b i g (V.cell (getD d 0 cellD).1 0) (V.cell (getD d 0 cellD).1 1) (V.cell (getD d 0 cellD).1 2) (V.cell (getD d 0 cellD).1 3) (V.cell (getD d 0 cellD).1 4) k o p q r (getD h 0 cellD).1 j c5
 else
 callK call 14 [(V.ptr 40 a 0, false), (V.str ⟨#[41]⟩, false)] c5 0 (fun g0 e4 =>
 some (.ret [(V.agg [V.int .i64 b, i, V.slice 1 9 g, V.cell (getD d 0 cellD).1 0, V.cell (getD d 0 cellD).1 1, V.cell (getD d 0 cellD).1 2, V.cell (getD d 0 cellD).1 3, V.cell (getD d 0 cellD).1 4, V.int .i64 k, V.int .i64 o, V.str p, V.slice 3 76 q, V.slice 5 45 r, (getD h 0 cellD).1, V.slice 6 63 j], false)], e4)) pnK) pnK) pnK) pnK
 else
 (grd (V.fits (getD h 0 cellD).1 false 1)).bind fun _ =>
 callK call 13 [(V.ptr 40 a 0, false)] c3 0 (fun g1 e5 =>
 callK call 19 [(V.ptr 40 a 0, false)] e5 1 (fun e c6 =>
 (grd (V.fits (getD e 0 cellD).1 true 5)).bind fun _ =>
 bif (b == (2 : Int)) then
 callK call 19 [(V.ptr 40 a 0, false)] c6 1 (fun u e6 =>
 (grd (V.fits (getD u 0 cellD).1 true 5)).bind fun _ =>
 callK call 14 [(V.ptr 40 a 0, false), (V.str ⟨#[41]⟩, false)] e6 0 (fun g2 e7 =>
 some (.ret [(V.agg [V.int .i64 b, i, V.slice 1 9 g, V.cell (getD e 0 cellD).1 0, V.cell (getD e 0 cellD).1 1, V.cell (getD e 0 cellD).1 2, V.cell (getD e 0 cellD).1 3, V.cell (getD e 0 cellD).1 4, V.cell (getD u 0 cellD).1 0, V.cell (getD u 0 cellD).1 1, V.cell (getD u 0 cellD).1 2, V.cell (getD u 0 cellD).1 3, V.cell (getD u 0 cellD).1 4, (getD h 0 cellD).1, V.slice 6 63 j], false)], e7)) pnK) pnK
 else
 bif (b == (3 : Int)) then
 L1 a w x y z a0 a1 a2 a3 a4 a5 a6 a7 a8 a9 c0 b i g (V.cell (getD e 0 cellD).1 0) (V.cell (getD e 0 cellD).1 1) (V.cell (getD e 0 cellD).1 2) (V.cell (getD e 0 cellD).1 3) (V.cell (getD e 0 cellD).1 4) k o p q r (getD h 0 cellD).1 j c6
 else
 callK call 14 [(V.ptr 40 a 0, false), (V.str ⟨#[41]⟩, false)] c6 0 (fun g3 e8 =>
 some (.ret [(V.agg [V.int .i64 b, i, V.slice 1 9 g, V.cell (getD e 0 cellD).1 0, V.cell (getD e 0 cellD).1 1, V.cell (getD e 0 cellD).1 2, V.cell (getD e 0 cellD).1 3, V.cell (getD e 0 cellD).1 4, V.int .i64 k, V.int .i64 o, V.str p, V.slice 3 76 q, V.slice 5 45 r, (getD h 0 cellD).1, V.slice 6 63 j], false)], e8)) pnK) pnK) pnK) pnK
 else
 callK call 19 [(V.ptr 40 a 0, false)] c2 1 (fun f c7 =>
 (grd (V.fits (getD f 0 cellD).1 true 5)).bind fun _ =>
 bif (b == (2 : Int)) then
 callK call 19 [(V.ptr 40 a 0, false)] c7 1 (fun v e9 =>
 (grd (V.fits (getD v 0 cellD).1 true 5)).bind fun _ =>
 callK call 14 [(V.ptr 40 a 0, false), (V.str ⟨#[41]⟩, false)] e9 0 (fun g4 f0 =>
 some (.ret [(V.agg [V.int .i64 b, i, V.slice 1 9 g, V.cell (getD f 0 cellD).1 0, V.cell (getD f 0 cellD).1 1, V.cell (getD f 0 cellD).1 2, V.cell (getD f 0 cellD).1 3, V.cell (getD f 0 cellD).1 4, V.cell (getD v 0 cellD).1 0, V.cell (getD v 0 cellD).1 1, V.cell (getD v 0 cellD).1 2, V.cell (getD v 0 cellD).1 3, V.cell (getD v 0 cellD).1 4, V.int .i64 c1, V.slice 6 63 j], false)], f0)) pnK) pnK
 else
 bif (b == (3 : Int)) then
 L1 a w x y z a0 a1 a2 a3 a4 a5 a6 a7 a8 a9 c0 b i g (V.cell (getD f 0 cellD).1 0) (V.cell (getD f 0 cellD).1 1) (V.cell (getD f 0 cellD).1 2) (V.cell (getD f 0 cellD).1 3) (V.cell (getD f 0 cellD).1 4) k o p q r (V.int .i64 c1) j c7
 else
 callK call 14 [(V.ptr 40 a 0, false), (V.str ⟨#[41]⟩, false)] c7 0 (fun g5 f1 =>
 some (.ret [(V.agg [V.int .i64 b, i, V.slice 1 9 g, V.cell (getD f 0 cellD).1 0, V.cell (getD f 0 cellD).1 1, V.cell (getD f 0 cellD).1 2, V.cell (getD f 0 cellD).1 3, V.cell (getD f 0 cellD).1 4, V.int .i64 k, V.int .i64 o, V.str p, V.slice 3 76 q, V.slice 5 45 r, V.int .i64 c1, V.slice 6 63 j], false)], f1)) pnK) pnK) pnK
noncomputable def freadl0 (call : CallF) (n : Nat) : Nat → Nat → Int → ByteArray → LL → Int → Int → ByteArray → LL → LL → Int → Int → ByteArray → LL → LL → Int → LL → Int → V → LL → Int → Int → ByteArray → LL → LL → Int → Int → ByteArray → LL → LL → Int → LL → RR
 | 0 => fun _ _ _ _ _ _ _ _ _ _ _ _ _ _ _ _ _ _ _ _ _ _ _ _ _ _ _ _ _ _ _ _ => none
 | m + 1 => freads0 call (freadl1 call n n) (freadl0 call n m)
noncomputable def freadt0 (a : Nat) (b : Int) (c : ByteArray) (d : LL) (e f : Int) (g : ByteArray) (h i : LL) (j k : Int) (o : ByteArray) (p q : LL) (r : Int) (s : LL) (t : Int) (u : V) (v : LL) (w x : Int) (y : ByteArray) (z a0 : LL) (a1 a2 : Int) (a3 : ByteArray) (a4 a5 : LL) (a6 : Int) (a7 : LL) (σ : Sto) : St := ⟨[.val (V.ptr 40 a 0) false, .dead, .lptr 2 0, .lptr 3 0] ++ dd 96 [], [[], [], [(V.int .i64 b, false), (V.str c, false), (V.slice 1 9 d, true), (V.int .i64 e, false), (V.int .i64 f, false), (V.str g, false), (V.slice 3 76 h, true), (V.slice 5 45 i, true), (V.int .i64 j, false), (V.int .i64 k, false), (V.str o, false), (V.slice 3 76 p, true), (V.slice 5 45 q, true), (V.int .i64 r, false), (V.slice 6 63 s, true)], [(V.int .i64 t, false), (u, false), (V.slice 1 9 v, true), (V.int .i64 w, false), (V.int .i64 x, false), (V.str y, false), (V.slice 3 76 z, true), (V.slice 5 45 a0, true), (V.int .i64 a1, false), (V.int .i64 a2, false), (V.str a3, false), (V.slice 3 76 a4, true), (V.slice 5 45 a5, true), (V.int .i64 a6, false), (V.slice 6 63 a7, true)]] ++ nn 96 [], σ⟩
noncomputable def freadF (call : CallF) (L0 : Nat → Int → ByteArray → LL → Int → Int → ByteArray → LL → LL → Int → Int → ByteArray → LL → LL → Int → LL → Int → V → LL → Int → Int → ByteArray → LL → LL → Int → Int → ByteArray → LL → LL → Int → LL → RR) (a : Nat) (σ : Sto) : Option Res :=
 callK call 14 [(V.ptr 40 a 0, false), (V.str ⟨#[40]⟩, false)] σ 0 (fun p b =>
 (pcallR (call 15 [] [])).bind fun c => if List.length c = 1 then
 (memGet b (V.ptr 40 a 2) false 1).bind fun m7 =>
 (V.asMap (getD c 0 cellD).1).bind fun m8 =>
 (V.asStr m7).bind fun s9 =>
 bif ((mapLook m8 s9) == (0 : Int)) then
 callK call 16 [(V.ptr 40 a 0, false)] b 0 (fun q f =>
 callK call 13 [(V.ptr 40 a 0, false)] f 0 (fun r g =>
 callK call 17 [(V.ptr 40 a 0, false)] g 1 (fun d h =>
 (grd (V.fits (getD d 0 cellD).1 false 1)).bind fun _ =>
 callK call 14 [(V.ptr 40 a 0, false), (V.str ⟨#[40]⟩, false)] h 0 (fun s i =>
 L0 a (0 : Int) (ByteArray.mk #[]) [] (0 : Int) (0 : Int) (ByteArray.mk #[]) [] [] (0 : Int) (0 : Int) (ByteArray.mk #[]) [] [] (0 : Int) [] (mapLook m8 s9) (getD d 0 cellD).1 [] (0 : Int) (0 : Int) (ByteArray.mk #[]) [] [] (0 : Int) (0 : Int) (ByteArray.mk #[]) [] [] (0 : Int) [] i) pnK) pnK) pnK) pnK
 else
 callK call 13 [(V.ptr 40 a 0, false)] b 0 (fun t j =>
 callK call 17 [(V.ptr 40 a 0, false)] j 1 (fun e k =>
 (grd (V.fits (getD e 0 cellD).1 false 1)).bind fun _ =>
 callK call 14 [(V.ptr 40 a 0, false), (V.str ⟨#[40]⟩, false)] k 0 (fun u o =>
 L0 a (0 : Int) (ByteArray.mk #[]) [] (0 : Int) (0 : Int) (ByteArray.mk #[]) [] [] (0 : Int) (0 : Int) (ByteArray.mk #[]) [] [] (0 : Int) [] (mapLook m8 s9) (getD e 0 cellD).1 [] (0 : Int) (0 : Int) (ByteArray.mk #[]) [] [] (0 : Int) (0 : Int) (ByteArray.mk #[]) [] [] (0 : Int) [] o) pnK) pnK) pnK
 else none) pnK
noncomputable def fread (call : CallF) (n a : Nat) (σ : Sto) : Option Res := freadF call (freadl0 call n n) a σ
theorem freads1_eq (call : CallF) (n : Nat) (F1 : St → Option Res) (a : Nat) (b : Int) (c : ByteArray) (d : LL) (e f : Int) (g : ByteArray) (h i : LL) (j k : Int) (o : ByteArray) (p q : LL) (r : Int) (s : LL) (t : Int) (u : V) (v : LL) (w x y z a0 : V) (a1 a2 : Int) (a3 : ByteArray) (a4 a5 : LL) (a6 : V) (a7 : LL) (σ : Sto) :
  aexec C freadH call n (cp [0,0,0,1,1,1,0,1,0,1,1,1,1,1,1,1,1,1,1,1] freadC) 0 (freadt1 a b c d e f g h i j k o p q r s t u v w x y z a0 a1 a2 a3 a4 a5 a6 a7 σ) (kloop freadk1 F1 (kblk 3 (kblk 2 (kseq (fun st' => aexec C freadH call n (cp [1,1,1,1,1,1,1,1,1,1,1,1] freadC) 0 st' (kfin C freadD)) (kfin C freadD))))) =
  freads1 call (fun a b c d e f g h i j k o p q r s t u v w x y z a0 a1 a2 a3 a4 a5 a6 a7 σ => F1 (freadt1 a b c d e f g h i j k o p q r s t u v w x y z a0 a1 a2 a3 a4 a5 a6 a7 σ)) a b c d e f g h i j k o p q r s t u v w x y z a0 a1 a2 a3 a4 a5 a6 a7 σ := by kernel_rfl
theorem freadl1_eq (call : CallF) (n : Nat) : ∀ (m a : Nat) (b : Int) (c : ByteArray) (d : LL) (e f : Int) (g : ByteArray) (h i : LL) (j k : Int) (o : ByteArray) (p q : LL) (r : Int) (s : LL) (t : Int) (u : V) (v : LL) (w x y z a0 : V) (a1 a2 : Int) (a3 : ByteArray) (a4 a5 : LL) (a6 : V) (a7 : LL) (σ : Sto),
  aloop (fun st K => aexec C freadH call n (cp [0,0,0,1,1,1,0,1,0,1,1,1,1,1,1,1,1,1,1,1] freadC) 0 st K) freadk1 m (freadt1 a b c d e f g h i j k o p q r s t u v w x y z a0 a1 a2 a3 a4 a5 a6 a7 σ) (kblk 3 (kblk 2 (kseq (fun st' => aexec C freadH call n (cp [1,1,1,1,1,1,1,1,1,1,1,1] freadC) 0 st' (kfin C freadD)) (kfin C freadD)))) = freadl1 call n m a b c d e f g h i j k o p q r s t u v w x y z a0 a1 a2 a3 a4 a5 a6 a7 σ
 | 0, a, b, c, d, e, f, g, h, i, j, k, o, p, q, r, s, t, u, v, w, x, y, z, a0, a1, a2, a3, a4, a5, a6, a7, σ => rfl
 | m + 1, a, b, c, d, e, f, g, h, i, j, k, o, p, q, r, s, t, u, v, w, x, y, z, a0, a1, a2, a3, a4, a5, a6, a7, σ => by
  rw [aloop, freads1_eq]
  simp only [freadl1_eq call n m]
  rfl
theorem freads0_eq (call : CallF) (n : Nat) (F0 : St → Option Res) (a : Nat) (b : Int) (c : ByteArray) (d : LL) (e f : Int) (g : ByteArray) (h i : LL) (j k : Int) (o : ByteArray) (p q : LL) (r : Int) (s : LL) (t : Int) (u : V) (v : LL) (w x : Int) (y : ByteArray) (z a0 : LL) (a1 a2 : Int) (a3 : ByteArray) (a4 a5 : LL) (a6 : Int) (a7 : LL) (σ : Sto) :
  aexec C freadH call n (cp [0,0,0,1,1,1,1,1,1,1] freadC) 0 (freadt0 a b c d e f g h i j k o p q r s t u v w x y z a0 a1 a2 a3 a4 a5 a6 a7 σ) (kloop freadk0 F0 (kblk 0 (kseq (fun st' => aexec C freadH call n (cp [1,1,1,1,1,1,1,1] freadC) 0 st' (kfin C freadD)) (kfin C freadD)))) =
  freads0 call (fun a b c d e f g h i j k o p q r s t u v w x y z a0 a1 a2 a3 a4 a5 a6 a7 σ => aloop (fun st K => aexec C freadH call n (cp [0,0,0,1,1,1,0,1,0,1,1,1,1,1,1,1,1,1,1,1] freadC) 0 st K) freadk1 n (freadt1 a b c d e f g h i j k o p q r s t u v w x y z a0 a1 a2 a3 a4 a5 a6 a7 σ) (kblk 3 (kblk 2 (kseq (fun st' => aexec C freadH call n (cp [1,1,1,1,1,1,1,1,1,1,1,1] freadC) 0 st' (kfin C freadD)) (kfin C freadD))))) (fun a b c d e f g h i j k o p q r s t u v w x y z a0 a1 a2 a3 a4 a5 a6 a7 σ => F0 (freadt0 a b c d e f g h i j k o p q r s t u v w x y z a0 a1 a2 a3 a4 a5 a6 a7 σ)) a b c d e f g h i j k o p q r s t u v w x y z a0 a1 a2 a3 a4 a5 a6 a7 σ := by kernel_rfl
theorem freadl0_eq (call : CallF) (n : Nat) : ∀ (m a : Nat) (b : Int) (c : ByteArray) (d : LL) (e f : Int) (g : ByteArray) (h i : LL) (j k : Int) (o : ByteArray) (p q : LL) (r : Int) (s : LL) (t : Int) (u : V) (v : LL) (w x : Int) (y : ByteArray) (z a0 : LL) (a1 a2 : Int) (a3 : ByteArray) (a4 a5 : LL) (a6 : Int) (a7 : LL) (σ : Sto),
  aloop (fun st K => aexec C freadH call n (cp [0,0,0,1,1,1,1,1,1,1] freadC) 0 st K) freadk0 m (freadt0 a b c d e f g h i j k o p q r s t u v w x y z a0 a1 a2 a3 a4 a5 a6 a7 σ) (kblk 0 (kseq (fun st' => aexec C freadH call n (cp [1,1,1,1,1,1,1,1] freadC) 0 st' (kfin C freadD)) (kfin C freadD))) = freadl0 call n m a b c d e f g h i j k o p q r s t u v w x y z a0 a1 a2 a3 a4 a5 a6 a7 σ
 | 0, a, b, c, d, e, f, g, h, i, j, k, o, p, q, r, s, t, u, v, w, x, y, z, a0, a1, a2, a3, a4, a5, a6, a7, σ => rfl
 | m + 1, a, b, c, d, e, f, g, h, i, j, k, o, p, q, r, s, t, u, v, w, x, y, z, a0, a1, a2, a3, a4, a5, a6, a7, σ => by
  rw [aloop, freads0_eq]
  simp only [freadl0_eq call n m, freadl1_eq]
  rfl
theorem fread_eqF (call : CallF) (n a : Nat) (σ : Sto) : afun C freadD call n [(V.ptr 40 a 0, false)] σ =
  freadF call (fun a b c d e f g h i j k o p q r s t u v w x y z a0 a1 a2 a3 a4 a5 a6 a7 σ => aloop (fun st K => aexec C freadH call n (cp [0,0,0,1,1,1,1,1,1,1] freadC) 0 st K) freadk0 n (freadt0 a b c d e f g h i j k o p q r s t u v w x y z a0 a1 a2 a3 a4 a5 a6 a7 σ) (kblk 0 (kseq (fun st' => aexec C freadH call n (cp [1,1,1,1,1,1,1,1] freadC) 0 st' (kfin C freadD)) (kfin C freadD)))) a σ := by kernel_rfl
theorem fread_eq (call : CallF) (n a : Nat) (σ : Sto) : afun C freadD call n [(V.ptr 40 a 0, false)] σ = fread call n a σ := by
 rw [fread_eqF]
 simp only [freadl0_eq]
 rfl
theorem fread_lim {n : Nat} {a : Nat} {b0 : Bool} {σ : Sto} {r : Res} (h : fread (lim C) n a σ = some r) : lim C 9 [(V.ptr 40 a 0, b0)] σ = some r :=
 lim_of (d := freadD) (by kernel_rfl) (by kernel_rfl) n (show afun C freadD (lim C) n [(V.ptr 40 a 0, false)] σ = some r from (fread_eq (lim C) n a σ).trans h)
noncomputable def wstringF (call : CallF) (a : Nat) (b : ByteArray) (σ : Sto) : Option Res :=
 callK call 20 [(V.ptr 53 a 0, false)] σ 0 (fun d c =>
 (memTake c (V.ptr 53 a 1)).bind fun m4 =>
 (V.asSlice m4.1 1 5).bind fun l5 =>
 (grd (room (List.length l5 + b.size))).bind fun _ =>
 (memSet m4.2 (V.ptr 53 a 1) [(V.slice 1 5 (l5 ++ bytesV b), true)]).bind fun m6 =>
 some (.ret [((V.int .i64 (b.size : Int)), false), (V.nilIface, false)], m6)) pnK
noncomputable def wstring (call : CallF) (n a : Nat) (b : ByteArray) (σ : Sto) : Option Res := wstringF call a b σ
theorem wstring_eqF (call : CallF) (n a : Nat) (b : ByteArray) (σ : Sto) : afun C wstringD call n [(V.ptr 53 a 0, false), (V.str b, false)] σ =
  wstringF call a b σ := by kernel_rfl
theorem wstring_eq (call : CallF) (n a : Nat) (b : ByteArray) (σ : Sto) : afun C wstringD call n [(V.ptr 53 a 0, false), (V.str b, false)] σ = wstring call n a b σ := wstring_eqF call n a b σ
theorem wstring_lim {n : Nat} {a : Nat} {b : ByteArray} {b0 b1 : Bool} {σ : Sto} {r : Res} (h : wstring (lim C) n a b σ = some r) : lim C 10 [(V.ptr 53 a 0, b0), (V.str b, b1)] σ = some r :=
 lim_of (d := wstringD) (by kernel_rfl) (by kernel_rfl) n (show afun C wstringD (lim C) n [(V.ptr 53 a 0, false), (V.str b, false)] σ = some r from (wstring_eq (lim C) n a b σ).trans h)
noncomputable def fprintk0 : List Nat := [3, 51, 52, 53]
noncomputable def fprints0 (call : CallF) (rec0 : LL → LL → Int → Int → RR) (c b : LL) (d a : Int) (σ : Sto) : Option Res :=
 bif (decide (a < d)) then
 (grd (decide (0 ≤ a) && decide (a < b.length))).bind fun _ =>
 (V.asStr (getD (getD b a.toNat []) 0 V.any)).bind fun s1 =>
 (grd (strRoom (ByteArray.mk #[40, 99, 116, 111, 114, 32]) s1)).bind fun _ =>
 (grd (strRoom ((ByteArray.mk #[40, 99, 116, 111, 114, 32]) ++ s1) (ByteArray.mk #[32]))).bind fun _ =>
 callK call 23 [(V.agg [(getD (getD b a.toNat []) 1 V.any), (getD (getD b a.toNat []) 2 V.any), (getD (getD b a.toNat []) 3 V.any), (getD (getD b a.toNat []) 4 V.any), (getD (getD b a.toNat []) 5 V.any)], false)] σ 1 (fun e f =>
 (V.asStr (getD e 0 cellD).1).bind fun s5 =>
 (grd (strRoom (((ByteArray.mk #[40, 99, 116, 111, 114, 32]) ++ s1) ++ (ByteArray.mk #[32])) s5)).bind fun _ =>
 (grd (strRoom ((((ByteArray.mk #[40, 99, 116, 111, 114, 32]) ++ s1) ++ (ByteArray.mk #[32])) ++ s5) (ByteArray.mk #[41]))).bind fun _ =>
 (grd (room (List.length c + 1))).bind fun _ =>
 rec0 (c ++ [[V.str (((((ByteArray.mk #[40, 99, 116, 111, 114, 32]) ++ s1) ++ (ByteArray.mk #[32])) ++ s5) ++ (ByteArray.mk #[41]))]]) b d (wrap .i64 (a + (1 : Int))) f) pnK
 else
 callK call 21 [(V.slice 1 9 c, false), (V.str ⟨#[32]⟩, false)] σ 1 (fun g h =>
 (V.asStr (getD g 0 cellD).1).bind fun s9 =>
 (grd (strRoom (ByteArray.mk #[40]) s9)).bind fun _ =>
 (grd (strRoom ((ByteArray.mk #[40]) ++ s9) (ByteArray.mk #[41]))).bind fun _ =>
 some (.ret [(V.str (((ByteArray.mk #[40]) ++ s9) ++ (ByteArray.mk #[41])), false)], h)) pnK
noncomputable def fprintl0 (call : CallF) (n : Nat) : Nat → LL → LL → Int → Int → RR
 | 0 => fun _ _ _ _ _ => none
 | m + 1 => fprints0 call (fprintl0 call n m)
noncomputable def fprintt0 (a b : LL) (c d : Int) (σ : Sto) : St := ⟨[.dead, .dead, .dead, .val (V.slice 1 9 a) true] ++ dd 47 ([.val (V.slice 6 63 b) false, .val (V.int .i64 c) false, .val (V.int .i64 d) false] ++ dd 20 []), nn 74 [], σ⟩
noncomputable def fprintF (call : CallF) (L0 : LL → LL → Int → Int → RR) (a : Int) (b : ByteArray) (y : LL) (g h : Int) (i : ByteArray) (j k : LL) (o p : Int) (q : ByteArray) (r s : LL) (z : Int) (c : LL) (σ : Sto) : Option Res :=
 (grd (decide (0 ≤ a) && decide (a ≤ (wrap .i64 (a + (1 : Int)))) && decide ((wrap .i64 (a + (1 : Int))) ≤ [[V.str ⟨#[]⟩], [V.str ⟨#[97, 120, 105, 111, 109]⟩], [V.str ⟨#[100, 101, 102]⟩], [V.str ⟨#[105, 110, 100, 117, 99, 116, 105, 118, 101]⟩]].length))).bind fun _ =>
 (grd (decide ((wrap .i64 (a + (1 : Int))) = (wrap .i64 (a + (1 : Int)))))).bind fun _ =>
 callK call 21 [(V.slice 1 9 y, false), (V.str ⟨#[32]⟩, false)] σ 1 (fun a0 t =>
 (V.asStr (getD a0 0 cellD).1).bind fun s4 =>
 (grd (strRoom (ByteArray.mk #[40]) s4)).bind fun _ =>
 (grd (strRoom ((ByteArray.mk #[40]) ++ s4) (ByteArray.mk #[41]))).bind fun _ =>
 (grd (room (List.length (([[V.str ⟨#[]⟩], [V.str ⟨#[97, 120, 105, 111, 109]⟩], [V.str ⟨#[100, 101, 102]⟩], [V.str ⟨#[105, 110, 100, 117, 99, 116, 105, 118, 101]⟩]].take (Int.toNat (wrap .i64 (a + (1 : Int))))).drop a.toNat) + 2))).bind fun _ =>
 bif (a == (3 : Int)) then
 callK call 22 [(V.int .i64 z, false)] t 1 (fun d a1 =>
 (grd ((V.fits (getD d 0 cellD).1 false 1 && true))).bind fun _ =>
 (grd (room (List.length ((([[V.str ⟨#[]⟩], [V.str ⟨#[97, 120, 105, 111, 109]⟩], [V.str ⟨#[100, 101, 102]⟩], [V.str ⟨#[105, 110, 100, 117, 99, 116, 105, 118, 101]⟩]].take (Int.toNat (wrap .i64 (a + (1 : Int))))).drop a.toNat) ++ [[V.str b], [V.str (((ByteArray.mk #[40]) ++ s4) ++ (ByteArray.mk #[41]))]]) + 1))).bind fun _ =>
 callK call 23 [(V.agg [V.int .i64 g, V.int .i64 h, V.str i, V.slice 3 76 j, V.slice 5 45 k], false)] a1 1 (fun e u =>
 (grd ((V.fits (getD e 0 cellD).1 false 1 && true))).bind fun _ =>
 (grd (room (List.length (((([[V.str ⟨#[]⟩], [V.str ⟨#[97, 120, 105, 111, 109]⟩], [V.str ⟨#[100, 101, 102]⟩], [V.str ⟨#[105, 110, 100, 117, 99, 116, 105, 118, 101]⟩]].take (Int.toNat (wrap .i64 (a + (1 : Int))))).drop a.toNat) ++ [[V.str b], [V.str (((ByteArray.mk #[40]) ++ s4) ++ (ByteArray.mk #[41]))]]) ++ [[(getD d 0 cellD).1]]) + 1))).bind fun _ =>
 bif (a == (2 : Int)) then
 callK call 23 [(V.agg [V.int .i64 o, V.int .i64 p, V.str q, V.slice 3 76 r, V.slice 5 45 s], false)] u 1 (fun v a2 =>
 (grd ((V.fits (getD v 0 cellD).1 false 1 && true))).bind fun _ =>
 (grd (room (List.length ((((([[V.str ⟨#[]⟩], [V.str ⟨#[97, 120, 105, 111, 109]⟩], [V.str ⟨#[100, 101, 102]⟩], [V.str ⟨#[105, 110, 100, 117, 99, 116, 105, 118, 101]⟩]].take (Int.toNat (wrap .i64 (a + (1 : Int))))).drop a.toNat) ++ [[V.str b], [V.str (((ByteArray.mk #[40]) ++ s4) ++ (ByteArray.mk #[41]))]]) ++ [[(getD d 0 cellD).1]]) ++ [[(getD e 0 cellD).1]]) + 1))).bind fun _ =>
 L0 (((((([[V.str ⟨#[]⟩], [V.str ⟨#[97, 120, 105, 111, 109]⟩], [V.str ⟨#[100, 101, 102]⟩], [V.str ⟨#[105, 110, 100, 117, 99, 116, 105, 118, 101]⟩]].take (Int.toNat (wrap .i64 (a + (1 : Int))))).drop a.toNat) ++ [[V.str b], [V.str (((ByteArray.mk #[40]) ++ s4) ++ (ByteArray.mk #[41]))]]) ++ [[(getD d 0 cellD).1]]) ++ [[(getD e 0 cellD).1]]) ++ [[(getD v 0 cellD).1]]) c (c.length : Int) (0 : Int) a2) pnK
 else
 L0 ((((([[V.str ⟨#[]⟩], [V.str ⟨#[97, 120, 105, 111, 109]⟩], [V.str ⟨#[100, 101, 102]⟩], [V.str ⟨#[105, 110, 100, 117, 99, 116, 105, 118, 101]⟩]].take (Int.toNat (wrap .i64 (a + (1 : Int))))).drop a.toNat) ++ [[V.str b], [V.str (((ByteArray.mk #[40]) ++ s4) ++ (ByteArray.mk #[41]))]]) ++ [[(getD d 0 cellD).1]]) ++ [[(getD e 0 cellD).1]]) c (c.length : Int) (0 : Int) u) pnK) pnK
 else
 callK call 23 [(V.agg [V.int .i64 g, V.int .i64 h, V.str i, V.slice 3 76 j, V.slice 5 45 k], false)] t 1 (fun f w =>
 (grd ((V.fits (getD f 0 cellD).1 false 1 && true))).bind fun _ =>
 (grd (room (List.length ((([[V.str ⟨#[]⟩], [V.str ⟨#[97, 120, 105, 111, 109]⟩], [V.str ⟨#[100, 101, 102]⟩], [V.str ⟨#[105, 110, 100, 117, 99, 116, 105, 118, 101]⟩]].take (Int.toNat (wrap .i64 (a + (1 : Int))))).drop a.toNat) ++ [[V.str b], [V.str (((ByteArray.mk #[40]) ++ s4) ++ (ByteArray.mk #[41]))]]) + 1))).bind fun _ =>
 bif (a == (2 : Int)) then
 callK call 23 [(V.agg [V.int .i64 o, V.int .i64 p, V.str q, V.slice 3 76 r, V.slice 5 45 s], false)] w 1 (fun x a3 =>
 (grd ((V.fits (getD x 0 cellD).1 false 1 && true))).bind fun _ =>
 (grd (room (List.length (((([[V.str ⟨#[]⟩], [V.str ⟨#[97, 120, 105, 111, 109]⟩], [V.str ⟨#[100, 101, 102]⟩], [V.str ⟨#[105, 110, 100, 117, 99, 116, 105, 118, 101]⟩]].take (Int.toNat (wrap .i64 (a + (1 : Int))))).drop a.toNat) ++ [[V.str b], [V.str (((ByteArray.mk #[40]) ++ s4) ++ (ByteArray.mk #[41]))]]) ++ [[(getD f 0 cellD).1]]) + 1))).bind fun _ =>
 L0 ((((([[V.str ⟨#[]⟩], [V.str ⟨#[97, 120, 105, 111, 109]⟩], [V.str ⟨#[100, 101, 102]⟩], [V.str ⟨#[105, 110, 100, 117, 99, 116, 105, 118, 101]⟩]].take (Int.toNat (wrap .i64 (a + (1 : Int))))).drop a.toNat) ++ [[V.str b], [V.str (((ByteArray.mk #[40]) ++ s4) ++ (ByteArray.mk #[41]))]]) ++ [[(getD f 0 cellD).1]]) ++ [[(getD x 0 cellD).1]]) c (c.length : Int) (0 : Int) a3) pnK
 else
 L0 (((([[V.str ⟨#[]⟩], [V.str ⟨#[97, 120, 105, 111, 109]⟩], [V.str ⟨#[100, 101, 102]⟩], [V.str ⟨#[105, 110, 100, 117, 99, 116, 105, 118, 101]⟩]].take (Int.toNat (wrap .i64 (a + (1 : Int))))).drop a.toNat) ++ [[V.str b], [V.str (((ByteArray.mk #[40]) ++ s4) ++ (ByteArray.mk #[41]))]]) ++ [[(getD f 0 cellD).1]]) c (c.length : Int) (0 : Int) w) pnK) pnK
noncomputable def fprint (call : CallF) (n : Nat) (a : Int) (b : ByteArray) (c : LL) (d e : Int) (f : ByteArray) (g h : LL) (i j : Int) (k : ByteArray) (o p : LL) (q : Int) (r : LL) (σ : Sto) : Option Res := fprintF call (fprintl0 call n n) a b c d e f g h i j k o p q r σ
theorem fprints0_eq (call : CallF) (n : Nat) (F0 : St → Option Res) (a b : LL) (c d : Int) (σ : Sto) :
  aexec C fprintH call n (cp [0,0,1,0,1,1,1,1,1,1] fprintC) 0 (fprintt0 a b c d σ) (kloop fprintk0 F0 (kblk 0 (kseq (fun st' => aexec C fprintH call n (cp [1,1,1,1,1,1,1] fprintC) 0 st' (kfin C fprintD)) (kfin C fprintD)))) =
  fprints0 call (fun a b c d σ => F0 (fprintt0 a b c d σ)) a b c d σ := by kernel_rfl
theorem fprintl0_eq (call : CallF) (n : Nat) : ∀ (m : Nat) (a b : LL) (c d : Int) (σ : Sto),
  aloop (fun st K => aexec C fprintH call n (cp [0,0,1,0,1,1,1,1,1,1] fprintC) 0 st K) fprintk0 m (fprintt0 a b c d σ) (kblk 0 (kseq (fun st' => aexec C fprintH call n (cp [1,1,1,1,1,1,1] fprintC) 0 st' (kfin C fprintD)) (kfin C fprintD))) = fprintl0 call n m a b c d σ
 | 0, a, b, c, d, σ => rfl
 | m + 1, a, b, c, d, σ => by
  rw [aloop, fprints0_eq]
  simp only [fprintl0_eq call n m]
  rfl
theorem fprint_eqF (call : CallF) (n : Nat) (a : Int) (b : ByteArray) (c : LL) (d e : Int) (f : ByteArray) (g h : LL) (i j : Int) (k : ByteArray) (o p : LL) (q : Int) (r : LL) (σ : Sto) : afun C fprintD call n [(V.agg [V.int .i64 a, V.str b, V.slice 1 9 c, V.int .i64 d, V.int .i64 e, V.str f, V.slice 3 76 g, V.slice 5 45 h, V.int .i64 i, V.int .i64 j, V.str k, V.slice 3 76 o, V.slice 5 45 p, V.int .i64 q, V.slice 6 63 r], false)] σ =
  fprintF call (fun s t u v σ => aloop (fun st K => aexec C fprintH call n (cp [0,0,1,0,1,1,1,1,1,1] fprintC) 0 st K) fprintk0 n (fprintt0 s t u v σ) (kblk 0 (kseq (fun st' => aexec C fprintH call n (cp [1,1,1,1,1,1,1] fprintC) 0 st' (kfin C fprintD)) (kfin C fprintD)))) a b c d e f g h i j k o p q r σ := by kernel_rfl
theorem fprint_eq (call : CallF) (n : Nat) (a : Int) (b : ByteArray) (c : LL) (d e : Int) (f : ByteArray) (g h : LL) (i j : Int) (k : ByteArray) (o p : LL) (q : Int) (r : LL) (σ : Sto) : afun C fprintD call n [(V.agg [V.int .i64 a, V.str b, V.slice 1 9 c, V.int .i64 d, V.int .i64 e, V.str f, V.slice 3 76 g, V.slice 5 45 h, V.int .i64 i, V.int .i64 j, V.str k, V.slice 3 76 o, V.slice 5 45 p, V.int .i64 q, V.slice 6 63 r], false)] σ = fprint call n a b c d e f g h i j k o p q r σ := by
 rw [fprint_eqF]
 simp only [fprintl0_eq]
 rfl
theorem fprint_lim {n : Nat} {a : Int} {b : ByteArray} {c : LL} {e : Int} {f : Int} {g : ByteArray} {i : LL} {j : LL} {k : Int} {o : Int} {p : ByteArray} {q : LL} {s : LL} {t : Int} {u : LL} {b0 : Bool} {σ : Sto} {r : Res} (h : fprint (lim C) n a b c e f g i j k o p q s t u σ = some r) : lim C 11 [(V.agg [V.int .i64 a, V.str b, V.slice 1 9 c, V.int .i64 e, V.int .i64 f, V.str g, V.slice 3 76 i, V.slice 5 45 j, V.int .i64 k, V.int .i64 o, V.str p, V.slice 3 76 q, V.slice 5 45 s, V.int .i64 t, V.slice 6 63 u], b0)] σ = some r :=
 lim_of (d := fprintD) (by kernel_rfl) (by kernel_rfl) n (show afun C fprintD (lim C) n [(V.agg [V.int .i64 a, V.str b, V.slice 1 9 c, V.int .i64 e, V.int .i64 f, V.str g, V.slice 3 76 i, V.slice 5 45 j, V.int .i64 k, V.int .i64 o, V.str p, V.slice 3 76 q, V.slice 5 45 s, V.int .i64 t, V.slice 6 63 u], false)] σ = some r from (fprint_eq (lim C) n a b c e f g i j k o p q s t u σ).trans h)
end Go.Ab.Mk
end
