/- AbMk1: printed by program: functions of the program as plain Lean, and the equations. -/
import Derived.Test.YtblgboigcpbidaaGreatDoorAbIt1
import Derived.Test.YtblgboigcpbidaaGreatDoorAbBl
import Derived.Test.YtblgboigcpbidaaGreatDoorProg
import Derived.Test.YtblgboigcpbidaaGreatDoorAbOps
import Derived.Shelf.Strconv.AtoiAll
import Derived.WalkKit
import Derived.Shelf.Strings.OnBuilder
import Derived.LaidEql
import Derived.Stop.Asserts
import Derived.RowKitTokens
import Derived.Test.YtblgboigcpbidaaGreatDoorAbBe
set_option linter.unusedSimpArgs false
set_option linter.unusedVariables false
set_option linter.deprecated false
section
namespace Go.Ab
open Go.RowKit Go.Proofs
set_option maxRecDepth 100000
def Mk.textS (n : Int) (σ : Sto) : Option Res := if 0 ≤ n ∧ n < 4611686018427387904 then some (.ret [(.str ⟨(Go.Lib.decDigits n.toNat).toArray⟩, false)], σ) else none
def Mk.textA (args : List Cell) (σ : Sto) : Option Res := match args with
 | [(.int .i64 n, _)] => Mk.textS n σ
 | _ => none
theorem Mk.textA_eq {n : Nat} (h : n < 4611686018427387904) (o : Bool) (σ : Sto) : Mk.textA [(.int .i64 n, o)] σ = some (.ret [(.str ⟨(Go.Lib.decDigits n).toArray⟩, false)], σ) := by
 show Mk.textS n σ = _
 unfold Mk.textS
 rw [if_pos ⟨by omega, by omega⟩]
 rfl
theorem Mk.textC_ok {C : Ctx} {f : FuncId} (henter : ∀ (args : Array Value) (w : World), (callFunc f args).run Tryz.prog w = .ok (.enter f args) w)
  (h : ∀ (n : Nat), n < 4611686018427387904 → ∀ (G : Gh) (w : World) (σ : Sto), SInv C.glob G w σ → Calls Tryz.prog f #[.int .i64 n] w (Mk.TextQ w (Go.Lib.decDigits n))) :
  CallOk Tryz.prog C (fun g args σ => if g = f then Mk.textA args σ else none) := by
 intro g args σ r h0
 simp only at h0
 split at h0
 case isFalse => simp at h0
 rename_i hg
 subst hg
 refine ⟨henter, fun G w vals hS hcl hlen hv => ?_⟩
 unfold Mk.textA at h0
 split at h0
 case h_2 => simp at h0
 rename_i n o
 unfold Mk.textS at h0
 split at h0
 case isFalse => simp at h0
 rename_i hn
 obtain rfl := Option.some.inj h0
 obtain ⟨c, rfl⟩ : ∃ c, vals = [c] := by
  match vals, hlen with
  | [c], _ => exact ⟨c, rfl⟩
 have hr := (hv 0 _ c rfl rfl).1
 simp only at hr
 cases hr with
 | int =>
 obtain ⟨m, rfl⟩ : ∃ m : Nat, n = (m : Int) := ⟨n.toNat, by omega⟩
 refine (h m (by omega) G w σ hS).mono ?_
 rintro e w' ⟨rfl, hB⟩
 obtain ⟨f1, f2⟩ := below_sinv hS hB
 refine ⟨G, f1, f2, [.string ⟨(Go.Lib.decDigits m).toArray⟩], rfl, by simp, fun i c x hc hx => ?_⟩
 match i with
 | 0 => simp at hc hx; subst hc; subst hx; exact ⟨.str _, fun ho => by simp at ho⟩
 | i + 1 => simp at hc
theorem int_of {G : Gh} {w : World} {k : IntKind} {n : Int} {c : Value} (h : Rel G w (.int k n) c) : c = .int k n := by cases h; rfl
theorem Mk.tab_of {C : Ctx} {G : Gh} {w : World} {σ : Sto} (hg : C.glob 6 = some (Go.Lib.pow10Tab.map fun z => V.int .u64 z)) (hS : SInv C.glob G w σ) : Go.Lib.TabIs Tryz.prog w "internal/strconv.uint64pow10" .u64 Go.Lib.pow10Tab := by
 obtain ⟨_, _, cv, el, fr, h1, h2⟩ := hS.gsz _ _ hg
 have hr := hS.glob _ _ hg
 have hn : Tryz.prog.globalNamed "internal/strconv.uint64pow10" = some 6 := by kernel_rfl
 show World.var? Tryz.prog w "internal/strconv.uint64pow10" = _
 unfold World.var?
 rw [hn, Option.bind_some, h1]
 simp only
 congr 1
 generalize hp : Value.pointer (some (⟨6, 0, none⟩ : Addr)) = p at hr
 generalize hes : (Go.Lib.pow10Tab.map fun z => V.int .u64 z) = es at hr h2
 cases hr with
 | eptr _ _ _ b off cs k1 k2 k3 k4 k5 =>
  injection hp with hp
  injection hp with hp
  injection hp with hb ho _
  simp only [Nat.add_zero] at ho
  subst hb
  subst ho
  apply Array.ext'
  apply List.ext_getElem?
  intro i
  have hlen : cv.toList.length = es.length := by simpa using h2
  by_cases hi : i < es.length
  ·have hci : i < cs.length := by rw [k2]; exact hi
   have hc := k4 i cs[i] (List.getElem?_eq_getElem hci)
   have hv : es[i]? = some (V.int .u64 (Go.Lib.pow10Tab[i]'(by rw [← hes] at hi; simpa using hi))) := by subst hes; simp
   have hrel := k5 i _ cs[i] hv (List.getElem?_eq_getElem hci)
   have he : cs[i] = .int .u64 (Go.Lib.pow10Tab[i]'(by rw [← hes] at hi; simpa using hi)) := int_of hrel
   have hcell := hc.1
   simp only [World.cell?, h1, Nat.zero_add, Option.isSome_none, Bool.false_eq_true, if_false] at hcell
   rw [Array.getElem?_toList, hcell, he]
   have hi' : i < Go.Lib.pow10Tab.length := by rw [← hes] at hi; simpa using hi
   simp [hi']
  ·have hi' : Go.Lib.pow10Tab.length ≤ i := by rw [← hes] at hi; simpa using hi
   rw [List.getElem?_eq_none (by omega), List.getElem?_eq_none (by simpa using hi')]
theorem itoaC_ok {C : Ctx} (hg : C.glob 6 = some (Go.Lib.pow10Tab.map fun z => V.int .u64 z)) (henter : ∀ (args : Array Value) (w : World), (callFunc 24 args).run Tryz.prog w = .ok (.enter 24 args) w) :
  CallOk Tryz.prog C (fun g args σ => if g = 24 then Mk.textA args σ else none) :=
 Mk.textC_ok henter fun n hn G w σ hS => Mk.itoa_ok n hn w (Mk.tab_of hg hS)
end Go.Ab
end
section
namespace Go.Proofs
open Go.RowKit Go.Ab
set_option maxRecDepth 100000
set_option maxHeartbeats 1000000
theorem Mk.dig_conv (u : Nat) (w : World) : (convert 61 9 (.slice (some ⟨w.heap.size, 0, none⟩) 1 1)).run Tryz.prog (w.alloc (.cells #[.int .u8 (48 + (u : Int) % 10)] 5)) = .ok (.string ⟨#[UInt8.ofNat (48 + u % 10)]⟩) (w.alloc (.cells #[.int .u8 (48 + (u : Int) % 10)] 5)) := by
 have h := run_convert_bytes_back (P := Tryz.prog) (w.alloc (.cells #[.int .u8 (48 + (u : Int) % 10)] 5)) 61 9 5 ⟨w.heap.size, 0, none⟩ 1 [UInt8.ofNat (48 + u % 10)] Tryz.underlying61 Tryz.underlying5 Tryz.underlying9 (fun j hj => by
  have hj0 : j = 0 := by simpa using hj
  subst hj0
  have : ((UInt8.ofNat (48 + u % 10)).toNat : Int) = 48 + (u : Int) % 10 := by
   rw [UInt8.toNat_ofNat']
   omega
  simp only [List.getElem_cons_zero, this]
  exact cell_new rfl)
 exact h
theorem dec_len : ∀ (k u : Nat), u ≤ k → (Lib.decDigits u).length ≤ u + 1
 | 0, u, h => by rw [Lib.decDigits, dif_pos (by omega)]; simp
 | k + 1, u, h => by
  rw [Lib.decDigits]
  split
  ·simp
  ·have := dec_len k (u / 10) (by omega)
   simp only [List.length_append, List.length_cons, List.length_nil]
   omega
theorem Mk.digits_ok : ∀ (k u : Nat), u ≤ k → u < 4611686018427387904 → ∀ w : World, Calls Tryz.prog 27 #[.int .i64 u] w (Mk.TextQ w (Lib.decDigits u)) := by
 intro k
 induction k with
 | zero =>
  intro u hk hu w
  have hcv := Mk.dig_conv u w
  have hlt : (u : Int) < 10 := by omega
  have hd : Lib.decDigits u = [UInt8.ofNat (48 + u % 10)] := by rw [Lib.decDigits, dif_pos (by omega), Nat.mod_eq_of_lt (by omega)]
  rw [hd]
  generalize UInt8.ofNat (48 + u % 10) = c at hcv
  clear hd
  go_enter Tryz.func27, Tryz.ntmps27
  go_wp2_with fail
  go_ret
  exact ⟨rfl, (Below.refl _ _).alloc (Nat.le_refl _) _⟩
 | succ k ih =>
  intro u hk hu w
  have hcv := Mk.dig_conv u w
  by_cases hlt : u < 10
  ·have hd : Lib.decDigits u = [UInt8.ofNat (48 + u % 10)] := by rw [Lib.decDigits, dif_pos (by omega), Nat.mod_eq_of_lt (by omega)]
   rw [hd]
   have hlt' : (u : Int) < 10 := by omega
   generalize UInt8.ofNat (48 + u % 10) = c at hcv
   clear hd ih
   go_enter Tryz.func27, Tryz.ntmps27
   go_wp2_with fail
   go_ret
   exact ⟨rfl, (Below.refl _ _).alloc (Nat.le_refl _) _⟩
  ·have hd : Lib.decDigits u = Lib.decDigits (u / 10) ++ [UInt8.ofNat (48 + u % 10)] := by rw [Lib.decDigits, dif_neg (by omega)]
   have hlt' : ¬ (u : Int) < 10 := by omega
   have hq := ih (u / 10) (by omega) (by omega)
   have e : ((u / 10 : Nat) : Int) = (u : Int) / 10 := by omega
   rw [e] at hq
   rw [hd]
   generalize UInt8.ofNat (48 + u % 10) = c at hcv
   have hlen := dec_len (u / 10) (u / 10) (Nat.le_refl _)
   have hlen' : (Lib.decDigits (u / 10)).length + 1 ≤ 9223372036854775807 := by omega
   clear hlen
   generalize Lib.decDigits (u / 10) = ds at hq hlen'
   clear ih e hd
   go_enter Tryz.func27, Tryz.ntmps27
   go_wp2_with (go_at_call 27; refine (hq _).mono ?_)
   rintro e w2 ⟨rfl, hB⟩
   have hB' : Hid (Below w.heap.size w w2) := ((Below.refl _ _).alloc (Nat.le_refl _) _).trans (hB.mono (by simp))
   clear hB hq hcv
   go_wp2_with fail
   go_ret
   refine ⟨?_, hB'.out⟩
   have : (⟨ds.toArray⟩ ++ ⟨#[c]⟩ : ByteArray) = ⟨(ds ++ [c]).toArray⟩ := by apply ByteArray.ext; simp
   rw [this]
   rfl
end Go.Proofs
namespace Go.Ab
open Go.RowKit Go.Proofs
theorem digitsC_ok {C : Ctx} (henter : ∀ (args : Array Value) (w : World), (callFunc 27 args).run Tryz.prog w = .ok (.enter 27 args) w) :
  CallOk Tryz.prog C (fun g args σ => if g = 27 then Mk.textA args σ else none) :=
 Mk.textC_ok henter fun n hn G w σ hS => Mk.digits_ok n n (Nat.le_refl _) hn w
end Go.Ab
end
section
namespace Go.Proofs
open Go.RowKit Go.Ab
set_option maxRecDepth 100000
set_option maxHeartbeats 1000000
def Mk.atoiRen : Go.Shelf.Ren where
 f := fun x => match x with
  | 129 => 99
  | 171 => 24
  | 172 => 34
  | 205 => 96
  | 243 => 42
  | 244 => 51
  | 245 => 52
  | 246 => 71
  | 247 => 76
  | 279 => 77
  | 280 => 78
  | 281 => 79
  | 282 => 80
  | 283 => 88
  | 284 => 89
  | 285 => 90
  | 286 => 91
  | 287 => 94
  | 316 => 95
  | 317 => 98
  | 318 => 100
  | 319 => 101
  | 320 => 102
  | 321 => 106
  | 322 => 107
  | 337 => 108
  | 338 => 109
  | n => n
 t := fun x => match x with
  | 0 => 0
  | 2 => 2
  | 3 => 3
  | 4 => 4
  | 5 => 5
  | 9 => 9
  | 20 => 20
  | 21 => 21
  | 37 => 61
  | 46 => 152
  | 51 => 161
  | 53 => 144
  | 75 => 29
  | 76 => 64
  | 80 => 66
  | 85 => 123
  | 127 => 86
  | 143 => 171
  | 145 => 173
  | 167 => 122
  | 168 => 125
  | 171 => 143
  | 173 => 147
  | 175 => 150
  | 210 => 155
  | 212 => 160
  | 213 => 162
  | 232 => 176
  | 233 => 177
  | n => n
 g := fun x => match x with
  | 15 => 3
  | 16 => 4
  | 17 => 6
  | 18 => 8
  | 19 => 9
  | n => n
theorem Mk.atoiLaid : LaysC.n172 Tryz.prog Mk.atoiRen where
 mixed := by kernel_rfl
 f129 := Tryz.func99.trans (congrArg some rfl)
 f171 := Tryz.func24.trans (congrArg some rfl)
 f172 := Tryz.func34.trans (congrArg some rfl)
 f205 := Tryz.func96.trans (congrArg some rfl)
 f243 := Tryz.func42.trans (congrArg some rfl)
 f244 := Tryz.func51.trans (congrArg some rfl)
 f245 := Tryz.func52.trans (congrArg some rfl)
 f246 := Tryz.func71.trans (congrArg some rfl)
 f247 := Tryz.func76.trans (congrArg some rfl)
 f279 := Tryz.func77.trans (congrArg some rfl)
 f280 := Tryz.func78.trans (congrArg some rfl)
 f281 := Tryz.func79.trans (congrArg some rfl)
 f282 := Tryz.func80.trans (congrArg some rfl)
 f283 := Tryz.func88.trans (congrArg some rfl)
 f284 := Tryz.func89.trans (congrArg some rfl)
 f285 := Tryz.func90.trans (congrArg some rfl)
 f286 := Tryz.func91.trans (congrArg some rfl)
 f287 := Tryz.func94.trans (congrArg some rfl)
 f316 := Tryz.func95.trans (congrArg some rfl)
 f317 := Tryz.func98.trans (congrArg some rfl)
 f318 := Tryz.func100.trans (congrArg some rfl)
 f319 := Tryz.func101.trans (congrArg some rfl)
 f320 := Tryz.func102.trans (congrArg some rfl)
 f321 := Tryz.func106.trans (congrArg some rfl)
 f322 := Tryz.func107.trans (congrArg some rfl)
 f337 := Tryz.func108.trans (congrArg some rfl)
 f338 := Tryz.func109.trans (congrArg some rfl)
 t0 := Tryz.underlying0
 a0 := fun _ => by kernel_rfl
 z0 := fun _ => by kernel_rfl
 v0 := fun _ => by kernel_rfl
 t2 := Tryz.underlying2
 a2 := fun _ => by kernel_rfl
 z2 := fun _ => by kernel_rfl
 v2 := fun _ => by kernel_rfl
 t3 := Tryz.underlying3
 a3 := fun _ => by kernel_rfl
 z3 := fun _ => by kernel_rfl
 v3 := fun _ => by kernel_rfl
 t4 := Tryz.underlying4
 a4 := fun _ => by kernel_rfl
 z4 := fun _ => by kernel_rfl
 v4 := fun _ => by kernel_rfl
 t5 := Tryz.underlying5
 a5 := fun _ => by kernel_rfl
 z5 := fun _ => by kernel_rfl
 v5 := fun _ => by kernel_rfl
 t9 := Tryz.underlying9
 a9 := fun _ => by kernel_rfl
 z9 := fun _ => by kernel_rfl
 v9 := fun _ => by kernel_rfl
 t20 := Tryz.underlying20
 a20 := fun _ => by kernel_rfl
 z20 := fun _ => by kernel_rfl
 v20 := fun _ => by kernel_rfl
 t21 := Tryz.underlying21
 a21 := fun _ => by kernel_rfl
 z21 := fun _ => by kernel_rfl
 v21 := fun _ => by kernel_rfl
 t37 := Tryz.underlying61
 a37 := fun _ => by kernel_rfl
 z37 := fun _ => by kernel_rfl
 v37 := fun _ => by kernel_rfl
 t46 := Tryz.underlying152
 a46 := fun _ => by kernel_rfl
 z46 := fun _ => by kernel_rfl
 v46 := fun _ => by kernel_rfl
 t51 := Tryz.underlying161
 a51 := fun _ => by kernel_rfl
 z51 := fun _ => by kernel_rfl
 v51 := fun _ => by kernel_rfl
 t53 := Tryz.underlying144
 a53 := fun _ => by kernel_rfl
 z53 := fun _ => by kernel_rfl
 v53 := fun _ => by kernel_rfl
 t75 := Tryz.underlying29
 a75 := fun _ => by kernel_rfl
 z75 := fun _ => by kernel_rfl
 v75 := fun _ => by kernel_rfl
 t76 := Tryz.underlying64
 a76 := fun _ => by kernel_rfl
 z76 := fun _ => by kernel_rfl
 v76 := fun _ => by kernel_rfl
 t85 := Tryz.underlying123
 a85 := fun _ => by kernel_rfl
 z85 := fun _ => by kernel_rfl
 v85 := fun _ => by kernel_rfl
 t127 := Tryz.underlying86
 a127 := fun _ => by kernel_rfl
 z127 := fun _ => by kernel_rfl
 v127 := fun _ => by kernel_rfl
 t143 := Tryz.underlying171
 a143 := fun _ => by kernel_rfl
 z143 := fun _ => by kernel_rfl
 v143 := fun _ => by kernel_rfl
 t145 := Tryz.underlying173
 a145 := fun _ => by kernel_rfl
 z145 := fun _ => by kernel_rfl
 v145 := fun _ => by kernel_rfl
 t167 := Tryz.underlying122
 a167 := fun _ => by kernel_rfl
 z167 := fun _ => by kernel_rfl
 v167 := fun _ => by kernel_rfl
 t168 := Tryz.underlying125
 a168 := fun _ => by kernel_rfl
 z168 := fun _ => by kernel_rfl
 v168 := fun _ => by kernel_rfl
 t171 := Tryz.underlying143
 a171 := fun _ => by kernel_rfl
 z171 := fun _ => by kernel_rfl
 v171 := fun _ => by kernel_rfl
 t173 := Tryz.underlying147
 a173 := fun _ => by kernel_rfl
 z173 := fun _ => by kernel_rfl
 v173 := fun _ => by kernel_rfl
 t175 := Tryz.underlying150
 a175 := fun _ => by kernel_rfl
 z175 := fun _ => by kernel_rfl
 v175 := fun _ => by kernel_rfl
 t210 := Tryz.underlying155
 a210 := fun _ => by kernel_rfl
 z210 := fun _ => by kernel_rfl
 v210 := fun _ => by kernel_rfl
 t212 := Tryz.underlying160
 a212 := fun _ => by kernel_rfl
 z212 := fun _ => by kernel_rfl
 v212 := fun _ => by kernel_rfl
 t213 := Tryz.underlying162
 a213 := fun _ => by kernel_rfl
 z213 := fun _ => by kernel_rfl
 t232 := Tryz.underlying176
 a232 := fun _ => by kernel_rfl
 z232 := fun _ => by kernel_rfl
 v232 := fun _ => by kernel_rfl
 t233 := Tryz.underlying177
 a233 := fun _ => by kernel_rfl
 z233 := fun _ => by kernel_rfl
 v233 := fun _ => by kernel_rfl
 g15 := by kernel_rfl
 g16 := by kernel_rfl
 g17 := by kernel_rfl
 g18 := by kernel_rfl
 g19 := by kernel_rfl
 t80 := Tryz.underlying66
 a80 := fun _ => by kernel_rfl
 z80 := fun _ => by kernel_rfl
 v80 := fun _ => by kernel_rfl
 i0 := by kernel_rfl
 i2 := by kernel_rfl
 i3 := by kernel_rfl
 i4 := by kernel_rfl
 i5 := by kernel_rfl
 i9 := by kernel_rfl
 i20 := by kernel_rfl
 i21 := by kernel_rfl
 i37 := by kernel_rfl
 i46 := by kernel_rfl
 i51 := by kernel_rfl
 i53 := by kernel_rfl
 i75 := by kernel_rfl
 i76 := by kernel_rfl
 i80 := by kernel_rfl
 i85 := by kernel_rfl
 i127 := by kernel_rfl
 i143 := by kernel_rfl
 i145 := by kernel_rfl
 i167 := by kernel_rfl
 i168 := by kernel_rfl
 i171 := by kernel_rfl
 i173 := by kernel_rfl
 i175 := by kernel_rfl
 i210 := by kernel_rfl
 i212 := by kernel_rfl
 i232 := by kernel_rfl
 i233 := by kernel_rfl
 m15 := by kernel_rfl
 m16 := by kernel_rfl
 m17 := by kernel_rfl
 m18 := by kernel_rfl
 m19 := by kernel_rfl
 c0 := by kernel_rfl
 c2 := by kernel_rfl
 c3 := by kernel_rfl
 c4 := by kernel_rfl
 c5 := by kernel_rfl
 c9 := by kernel_rfl
 c20 := by kernel_rfl
 c21 := by kernel_rfl
 c37 := by kernel_rfl
 c46 := by kernel_rfl
 c51 := by kernel_rfl
 c53 := by kernel_rfl
 c75 := by kernel_rfl
 c76 := by kernel_rfl
 c80 := by kernel_rfl
 c85 := by kernel_rfl
 c127 := by kernel_rfl
 c143 := by kernel_rfl
 c145 := by kernel_rfl
 c167 := by kernel_rfl
 c168 := by kernel_rfl
 c171 := by kernel_rfl
 c173 := by kernel_rfl
 c175 := by kernel_rfl
 c210 := by kernel_rfl
 c212 := by kernel_rfl
 c213 := by kernel_rfl
 c232 := by kernel_rfl
 c233 := by kernel_rfl
theorem Mk.bytes_below (w : World) (e : TypeId) (t : ByteArray) : Below w.heap.size w (Lib.bytesWorld w e t) := by
 rw [bytesWorld_alloc]
 exact ⟨rfl, rfl, rfl, by simp, fun i hi => heap_alloc_lt (w := w.drew) hi⟩
theorem Mk.atoi_ok (s : ByteArray) (hmax : s.size ≤ 281474976710656) (v : Int) (h : Lib.atoiAll s.data.toList = .ok v) (w : World) :
  Calls Tryz.prog 34 #[.string s] w fun e w' => e = .returned (.tuple #[.int .i64 v, .nilIface]) ∧ Below w.heap.size w w' := by
 refine (Any.strconv_Atoi_ok Mk.atoiLaid s (by omega) v h w).mono ?_
 rintro e w' ⟨rfl, rfl | ⟨t, rfl⟩⟩
 ·exact ⟨rfl, Below.refl _ _⟩
 ·exact ⟨rfl, Mk.bytes_below _ _ _⟩
theorem Mk.atoi_bad (s : ByteArray) (hmax : s.size ≤ 281474976710656) (h : Lib.atoiAll s.data.toList = Lib.atoiAll []) (ev : Value) (w : World) (hv : w.cell? ⟨3, 0, none⟩ = some ev) (hev : ev = .nilIface ∨ ∃ te pe, ev = .iface te pe) :
  Calls Tryz.prog 34 #[.string s] w fun e w' => (∃ N, e = .returned (.tuple #[.int .i64 0, .iface 125 (.pointer (some ⟨N, 0, none⟩))])) ∧ Below w.heap.size w w' := by
 refine (Any.strconv_Atoi_syntax Mk.atoiLaid s hmax h ev w hv hev).mono ?_
 rintro e w' ⟨N, rfl, _, _, hB⟩
 exact ⟨⟨N, rfl⟩, hB⟩
end Go.Proofs
end
section
namespace Go.Ab
open Go.RowKit Go.Proofs
set_option maxRecDepth 100000
def Mk.atoiR (s : ByteArray) : Option (List Cell) := match Go.Lib.atoiAll s.data.toList with
 | .ok v => some [(.int .i64 v, false), (.nilIface, false)]
 | .range => none
 | _ => some [(.int .i64 0, false), (.iface 125 .any, false)]
theorem Mk.atoi_else {e : Go.Lib.NumEnd Int} (h1 : ∀ v, e = .ok v → False) (h2 : e = .range → False) : e = Go.Lib.atoiAll [] := by
 cases e
 ·exact (h1 _ rfl).elim
 ·rfl
 ·exact (h2 rfl).elim
def Mk.atoiA (args : List Cell) (σ : Sto) : Option Res := match args with
 | [(.str s, _)] => if s.size ≤ 281474976710656 then (Mk.atoiR s).bind fun cs => some (.ret cs, σ) else none
 | _ => none
theorem atoiC_ok {C : Ctx} {te : TypeId} (hg : C.glob 3 = some [.iface te .any]) (henter : ∀ (args : Array Value) (w : World), (callFunc 34 args).run Tryz.prog w = .ok (.enter 34 args) w) :
  CallOk Tryz.prog C (fun g args σ => if g = 34 then Mk.atoiA args σ else none) := by
 intro g args σ r h0
 simp only at h0
 split at h0
 case isFalse => simp at h0
 rename_i hg'
 subst hg'
 refine ⟨henter, fun G w vals hS hcl hlen hv => ?_⟩
 unfold Mk.atoiA at h0
 split at h0
 case h_2 => simp at h0
 rename_i s o
 split at h0
 case isFalse => simp at h0
 rename_i hb
 obtain ⟨cs, h1, h2⟩ := Option.bind_eq_some_iff.1 h0
 obtain rfl := Option.some.inj h2
 obtain ⟨c, rfl⟩ : ∃ c, vals = [c] := by
  match vals, hlen with
  | [c], _ => exact ⟨c, rfl⟩
 have hr := (hv 0 _ c rfl rfl).1
 simp only at hr
 cases hr with
 | str =>
 unfold Mk.atoiR at h1
 split at h1
 ·rename_i v hv'
  obtain rfl := Option.some.inj h1
  refine (Mk.atoi_ok s hb v hv' w).mono ?_
  rintro e w' ⟨rfl, hB⟩
  obtain ⟨f1, f2⟩ := below_sinv hS hB
  refine ⟨G, f1, f2, [.int .i64 v, .nilIface], rfl, by simp, fun i c x hc hx => ?_⟩
  match i with
  | 0 => simp at hc hx; subst hc; subst hx; exact ⟨.int _ _, fun ho => by simp at ho⟩
  | 1 => simp at hc hx; subst hc; subst hx; exact ⟨.nilIface, fun ho => by simp at ho⟩
  | i + 2 => simp at hc
 ·simp at h1
 ·rename_i hv1 hv2
  have hv' := Mk.atoi_else hv1 hv2
  obtain rfl := Option.some.inj h1
  have hq : ∃ ev, w.cell? ⟨3, 0, none⟩ = some ev ∧ (ev = .nilIface ∨ ∃ te pe, ev = .iface te pe) := by
   have hr := hS.glob _ _ hg
   generalize hp : Value.pointer (some (⟨3, 0, none⟩ : Addr)) = p at hr
   generalize hes : [V.iface te V.any] = es at hr
   cases hr with
   | eptr _ _ _ b off cs k1 k2 k3 k4 k5 =>
    injection hp with hp
    injection hp with hp
    injection hp with hb ho _
    simp only [Nat.add_zero] at ho
    subst hb
    subst ho
    subst hes
    obtain ⟨c0, rfl⟩ : ∃ c0, cs = [c0] := by
     match cs, k2 with
     | [c0], _ => exact ⟨c0, rfl⟩
    refine ⟨c0, by have := (k4 0 c0 rfl).1; simpa using this, ?_⟩
    have := k5 0 _ c0 rfl rfl
    cases this with
    | iface _ _ c _ => exact .inr ⟨_, _, rfl⟩
  obtain ⟨ev, q1, q2⟩ := hq
  refine (Mk.atoi_bad s hb hv' ev w q1 q2).mono ?_
  rintro e w' ⟨⟨N, rfl⟩, hB⟩
  obtain ⟨f1, f2⟩ := below_sinv hS hB
  refine ⟨G, f1, f2, [.int .i64 0, .iface 125 (.pointer (some ⟨N, 0, none⟩))], rfl, by simp, fun i c x hc hx => ?_⟩
  match i with
  | 0 => simp at hc hx; subst hc; subst hx; exact ⟨.int _ _, fun ho => by simp at ho⟩
  | 1 => simp at hc hx; subst hc; subst hx; exact ⟨.iface _ _ _ (.any _ rfl), fun ho => by simp at ho⟩
  | i + 2 => simp at hc
end Go.Ab
end
section
namespace Go.Proofs
open Go.RowKit Go.Ab
set_option maxRecDepth 100000
set_option maxHeartbeats 1000000
def Mk.joinRen : Go.Shelf.Ren where
 f := fun x => match x with
  | 156 => 23
  | 165 => 41
  | 166 => 21
  | 169 => 22
  | 240 => 40
  | 241 => 70
  | 276 => 69
  | 277 => 87
  | n => n
 t := fun x => match x with
  | 0 => 0
  | 3 => 3
  | 4 => 4
  | 5 => 5
  | 9 => 9
  | 20 => 20
  | 31 => 40
  | 37 => 61
  | 70 => 60
  | 72 => 63
  | 75 => 29
  | 76 => 64
  | 80 => 66
  | 127 => 86
  | 164 => 104
  | n => n
 g := fun x => match x with
  | n => n
theorem Mk.joinLaid : Lays.n156 Tryz.prog Mk.joinRen where
 mixed := by kernel_rfl
 f156 := Tryz.func23.trans (congrArg some rfl)
 f165 := Tryz.func41.trans (congrArg some rfl)
 f166 := Tryz.func21.trans (congrArg some rfl)
 f169 := Tryz.func22.trans (congrArg some rfl)
 f240 := Tryz.func40.trans (congrArg some rfl)
 f241 := Tryz.func70.trans (congrArg some rfl)
 f276 := Tryz.func69.trans (congrArg some rfl)
 f277 := Tryz.func87.trans (congrArg some rfl)
 t0 := Tryz.underlying0
 a0 := fun _ => by kernel_rfl
 z0 := fun _ => by kernel_rfl
 v0 := fun _ => by kernel_rfl
 t3 := Tryz.underlying3
 a3 := fun _ => by kernel_rfl
 z3 := fun _ => by kernel_rfl
 v3 := fun _ => by kernel_rfl
 t4 := Tryz.underlying4
 a4 := fun _ => by kernel_rfl
 z4 := fun _ => by kernel_rfl
 v4 := fun _ => by kernel_rfl
 t9 := Tryz.underlying9
 a9 := fun _ => by kernel_rfl
 z9 := fun _ => by kernel_rfl
 v9 := fun _ => by kernel_rfl
 t20 := Tryz.underlying20
 a20 := fun _ => by kernel_rfl
 z20 := fun _ => by kernel_rfl
 v20 := fun _ => by kernel_rfl
 t31 := Tryz.underlying40
 a31 := fun _ => by kernel_rfl
 z31 := fun _ => by kernel_rfl
 v31 := fun _ => by kernel_rfl
 t37 := Tryz.underlying61
 a37 := fun _ => by kernel_rfl
 z37 := fun _ => by kernel_rfl
 v37 := fun _ => by kernel_rfl
 t70 := Tryz.underlying60
 a70 := fun _ => by kernel_rfl
 z70 := fun _ => by kernel_rfl
 v70 := fun _ => by kernel_rfl
 t72 := Tryz.underlying63
 a72 := fun _ => by kernel_rfl
 z72 := fun _ => by kernel_rfl
 v72 := fun _ => by kernel_rfl
 t75 := Tryz.underlying29
 a75 := fun _ => by kernel_rfl
 z75 := fun _ => by kernel_rfl
 v75 := fun _ => by kernel_rfl
 t76 := Tryz.underlying64
 a76 := fun _ => by kernel_rfl
 z76 := fun _ => by kernel_rfl
 v76 := fun _ => by kernel_rfl
 t127 := Tryz.underlying86
 a127 := fun _ => by kernel_rfl
 z127 := fun _ => by kernel_rfl
 v127 := fun _ => by kernel_rfl
 t164 := Tryz.underlying104
 a164 := fun _ => by kernel_rfl
 z164 := fun _ => by kernel_rfl
 v164 := fun _ => by kernel_rfl
theorem Mk.joinExtra : Builder.Extra Tryz.prog Mk.joinRen where
 sizeBuilder := by kernel_rfl
 liesBuilder := by kernel_rfl
 t5 := Tryz.underlying5
 a5 := fun _ => by kernel_rfl
 z5 := fun _ => by kernel_rfl
 v5 := fun _ => by kernel_rfl
 infoByte := by kernel_rfl
 cellsByte := by kernel_rfl
 sizeByte := by kernel_rfl
 neB5 := by decide
theorem Mk.join_ok (bk o c : Nat) (xs : List ByteArray) (sep : ByteArray) (w : World) (hcells : ∀ (j : Nat) x, xs[j]? = some x → w.cell? ⟨bk, o + j, none⟩ = some (.string x))
  (hbk : bk < w.heap.size) (hN : xs.length ≤ 140737488355328) (hcap : xs.length ≤ c) (hlen : (Lib.join (xs.map (·.data.toList)) sep.data.toList).length ≤ 140737488355328) :
  Calls Tryz.prog 23 #[.slice (some ⟨bk, o, none⟩) xs.length c, .string sep] w fun e w' => e = .returned (.string ⟨(Lib.join (xs.map (·.data.toList)) sep.data.toList).toArray⟩) ∧ Below w.heap.size w w' :=
 Any.strings_Join Mk.joinLaid Mk.joinExtra bk o c xs sep w hcells hbk hN hcap hlen
theorem Mk.join_none (a : Option Addr) (c : Nat) (sep : ByteArray) (w : World) :
  Calls Tryz.prog 23 #[.slice a 0 c, .string sep] w fun e w' => e = .returned (.string ⟨#[]⟩) ∧ w' = w :=
 Any.strings_Join_none Mk.joinLaid Mk.joinExtra a c sep w
end Go.Proofs
end
section
namespace Go.Ab
open Go.RowKit Go.Proofs
set_option maxRecDepth 100000
def Mk.strsV (xs : List ByteArray) : List (List V) := xs.map fun s => [.str s]
def Mk.strsOf : List (List V) → Option (List ByteArray)
 | [] => some []
 | [.str s] :: r => (Mk.strsOf r).bind fun xs => some (s :: xs)
 | _ => none
theorem Mk.strsOf_eq : ∀ (xs : List ByteArray), Mk.strsOf (Mk.strsV xs) = some xs
 | [] => rfl
 | x :: xs => by
  show (Mk.strsOf (Mk.strsV xs)).bind _ = _
  rw [Mk.strsOf_eq xs]
  rfl
theorem Mk.strsOf_inv : ∀ {es : List (List V)} {xs : List ByteArray}, Mk.strsOf es = some xs → es = Mk.strsV xs
 | [], xs, h => by obtain rfl := Option.some.inj h; rfl
 | e :: r, xs, h => by
  unfold Mk.strsOf at h
  split at h
  ·rename_i h0; cases h0
  ·rename_i s r' h0
   cases h0
   obtain ⟨ys, h1, h2⟩ := Option.bind_eq_some_iff.1 h
   obtain rfl := Option.some.inj h2
   rw [Mk.strsOf_inv h1]
   rfl
  ·simp at h
def Mk.joinB (xs : List ByteArray) (sep : ByteArray) : ByteArray := ⟨(Go.Lib.join (xs.map (·.data.toList)) sep.data.toList).toArray⟩
def Mk.joinA (args : List Cell) (σ : Sto) : Option Res := match args with
 | [(.slice 1 _ es, _), (.str sep, _)] => (Mk.strsOf es).bind fun xs => if xs.length ≤ 140737488355328 ∧ (Go.Lib.join (xs.map (·.data.toList)) sep.data.toList).length ≤ 140737488355328 then some (.ret [(.str (Mk.joinB xs sep), false)], σ) else none
 | _ => none
theorem Mk.joinA_eq {xs : List ByteArray} {sep : ByteArray} (h1 : xs.length ≤ 140737488355328) (h2 : (Go.Lib.join (xs.map (·.data.toList)) sep.data.toList).length ≤ 140737488355328) (e : TypeId) (o1 o2 : Bool) (σ : Sto) :
  Mk.joinA [(.slice 1 e (Mk.strsV xs), o1), (.str sep, o2)] σ = some (.ret [(.str (Mk.joinB xs sep), false)], σ) := by
 show (Mk.strsOf (Mk.strsV xs)).bind _ = _
 rw [Mk.strsOf_eq, Option.bind_some, if_pos ⟨h1, h2⟩]
theorem Mk.strs_cells {G : Gh} {w : World} {et : TypeId} {xs : List ByteArray} {c : Value} (wf : WF G w) (h : Rel G w (.slice 1 et (Mk.strsV xs)) c) :
  (xs = [] ∧ ∃ a cap, c = .slice a 0 cap) ∨ ∃ b off cap, c = .slice (some ⟨b, off, none⟩) xs.length cap ∧ b < w.heap.size ∧ xs.length ≤ cap ∧ ∀ (j : Nat) x, xs[j]? = some x → w.cell? ⟨b, off + j, none⟩ = some (.string x) := by
 generalize hes : Mk.strsV xs = es at h
 cases h with
 | snil =>
  left
  cases xs with
  | nil => exact ⟨rfl, none, 0, rfl⟩
  | cons x xs => simp [Mk.strsV] at hes
 | slice _ _ _ b off cap cs h1 h2 h3 h4 h5 h6 h7 =>
  have hl : es.length = xs.length := by rw [← hes]; simp [Mk.strsV]
  by_cases h0 : xs.length = 0
  ·left
   have : xs = [] := List.length_eq_zero_iff.1 h0
   subst this
   simp at hl
   subst hl
   exact ⟨rfl, _, _, rfl⟩
  ·right
   refine ⟨b, off, cap, by rw [hl], lim_lt wf (o := 0) (by omega), by omega, fun j x hx => ?_⟩
   have hj : j < cs.length := by have := (List.getElem?_eq_some_iff.1 hx).1; omega
   have hc := List.getElem?_eq_getElem hj
   have hlen := h5 j _ hc
   have h0' : (cs[j])[0]? = some ((cs[j])[0]'(by omega)) := List.getElem?_eq_getElem (by omega)
   obtain ⟨g1, g2⟩ := h6 j 0 _ _ hc h0'
   have he : es[j]? = some [.str x] := by rw [← hes]; simp [Mk.strsV, hx]
   have hr := h7 j 0 _ _ _ _ he hc rfl h0'
   rw [Nat.mul_one, Nat.add_zero] at g1
   rw [g1]
   generalize (cs[j])[0]'(by omega) = v at hr
   cases hr with
   | str => rfl
theorem joinC_ok {C : Ctx} (henter : ∀ (args : Array Value) (w : World), (callFunc 23 args).run Tryz.prog w = .ok (.enter 23 args) w) :
  CallOk Tryz.prog C (fun g args σ => if g = 23 then Mk.joinA args σ else none) := by
 intro g args σ r h0
 simp only at h0
 split at h0
 case isFalse => simp at h0
 rename_i hg
 subst hg
 refine ⟨henter, fun G w vals hS hcl hlen hv => ?_⟩
 unfold Mk.joinA at h0
 split at h0
 case h_2 => simp at h0
 rename_i et es o1 sep o2
 obtain ⟨xs, h1, h2⟩ := Option.bind_eq_some_iff.1 h0
 obtain rfl := Mk.strsOf_inv h1
 split at h2
 case isFalse => simp at h2
 rename_i hb
 obtain rfl := Option.some.inj h2
 obtain ⟨c, d, rfl⟩ : ∃ c d, vals = [c, d] := by
  match vals, hlen with
  | [c, d], _ => exact ⟨c, d, rfl⟩
 have hr := (hv 0 _ c rfl rfl).1
 have hr2 := (hv 1 _ d rfl rfl).1
 simp only at hr hr2
 cases hr2 with
 | str =>
 have fin : ∀ e w', e = Ending.returned (.string (Mk.joinB xs sep)) → Below w.heap.size w w' → ∃ G', Ext G w G' w' ∧ SInv C.glob G' w' σ ∧ EndRel G' w' (.ret [(.str (Mk.joinB xs sep), false)]) e := by
  rintro e w' rfl hB
  obtain ⟨f1, f2⟩ := below_sinv hS hB
  refine ⟨G, f1, f2, [.string (Mk.joinB xs sep)], rfl, by simp, fun i c x hc hx => ?_⟩
  match i with
  | 0 => simp at hc hx; subst hc; subst hx; exact ⟨.str _, fun ho => by simp at ho⟩
  | i + 1 => simp at hc
 rcases Mk.strs_cells hS.wf hr with ⟨rfl, a, cap, rfl⟩ | ⟨b, off, cap, rfl, q1, q2, q3⟩
 ·refine (Mk.join_none a cap sep w).mono ?_
  rintro e w' ⟨rfl, rfl⟩
  exact fin _ _ rfl (Below.refl _ _)
 ·refine (Mk.join_ok b off cap xs sep w q3 q1 hb.1 q2 hb.2).mono ?_
  rintro e w' ⟨rfl, hB⟩
  exact fin _ _ rfl hB
end Go.Ab
end
section
namespace Go.Ab
open Go.RowKit Go.Proofs
set_option maxRecDepth 100000
set_option maxHeartbeats 1000000
theorem insert_run {P : Program} {t k e : TypeId} (ht : P.underlying t = some (.map k e)) (hk : P.underlying k = some .string) {w : World} {b : Nat} {es : Array MapEntry} {clock : Nat} (hb : w.heap[b]? = some (.map es clock)) (s : ByteArray) (v : Value)
  (hno : Instr.findNow .string (.string s) es.toList 0 = some none) : (Instr.mapUpdate t (.map (some b)) (.string s) v).run P w = .ok () { w with heap := w.heap.setIfInBounds b (.map (es.push ⟨.string s, v, clock⟩) (clock + 1)) } := by
 have h1 : (Instr.checkKey false 10000 k (.string s)).run P w = .ok () w := MapKept.run_checkKey (k := .string s) hk trivial false 9999
 have h2 : (Instr.findKey k (.string s) es.toList).run P w = .ok none w := by
  rw [Instr.findKey, Sem.run_bind, run_underlying hk]
  simp only [Result.andThen, hno, Sem.run_pure]
 simp [Instr.mapUpdate, run_underlying ht, MapKept.run_getObj_map hb, h1, h2, MapKept.run_setObj_map _ hb, Result.andThen]
theorem alloc_set (w : World) (o o' : Obj) : { w.alloc o with heap := (w.alloc o).heap.setIfInBounds w.heap.size o' } = w.alloc o' := by
 have : ({ w.alloc o with heap := (w.alloc o).heap.setIfInBounds w.heap.size o' } : World).heap = (w.alloc o').heap := by
  show (w.heap.push o).setIfInBounds w.heap.size o' = w.heap.push o'
  apply Array.ext'
  simp
 show ({ w.alloc o with heap := (w.heap.push o).setIfInBounds w.heap.size o' } : World) = { w with heap := w.heap.push o' }
 have h2 : (w.heap.push o).setIfInBounds w.heap.size o' = w.heap.push o' := this
 rw [h2]
 rfl
def Mk.kAx : ByteArray := ByteArray.mk #[97, 120, 105, 111, 109]
def Mk.kDef : ByteArray := ByteArray.mk #[100, 101, 102]
def Mk.kInd : ByteArray := ByteArray.mk #[105, 110, 100, 117, 99, 116, 105, 118, 101]
def Mk.kindsL : List (ByteArray × Int) := [(Mk.kAx, 1), (Mk.kDef, 2), (Mk.kInd, 3)]
def Mk.kindsE : Array MapEntry := #[⟨.string Mk.kAx, .int .i64 1, 0⟩, ⟨.string Mk.kDef, .int .i64 2, 1⟩, ⟨.string Mk.kInd, .int .i64 3, 2⟩]
theorem Mk.kinds_ok (w : World) : Calls Tryz.prog 31 #[] w fun e w' => e = .returned (.map (some w.heap.size)) ∧ w' = w.alloc (.map Mk.kindsE 3) := by
 have hmm := @run_makeMap Tryz.prog
 go_enter Tryz.func31, Tryz.ntmps31
 have hst : ∀ (es : Array MapEntry) (clock : Nat) (s : ByteArray) (c : Int), Instr.findNow .string (.string s) es.toList 0 = some none →
   (Instr.mapUpdate 74 (.map (some w.heap.size)) (.string s) (.int .i64 c)).run Tryz.prog (w.alloc (.map es clock)) = .ok () (w.alloc (.map (es.push ⟨.string s, .int .i64 c, clock⟩) (clock + 1))) := by
  intro es clock s c hno
  rw [insert_run (P := Tryz.prog) Tryz.underlying74 Tryz.underlying9 (heap_alloc_new w _) s _ hno, alloc_set]
 have h1 := hst #[] 0 Mk.kAx 1 rfl
 have h2 := hst #[⟨.string Mk.kAx, .int .i64 1, 0⟩] 1 Mk.kDef 2 rfl
 have h3 := hst #[⟨.string Mk.kAx, .int .i64 1, 0⟩, ⟨.string Mk.kDef, .int .i64 2, 1⟩] 2 Mk.kInd 3 rfl
 simp only [Mk.kAx, Mk.kDef, Mk.kInd, List.push_toArray, List.nil_append, List.cons_append, Nat.reduceAdd] at h1 h2 h3
 go_wp2
 go_ret
 exact ⟨rfl, rfl⟩
theorem Mk.map_sinv {gl : Nat → Option (List V)} {G : Gh} {w : World} {σ : Sto} (h : SInv gl G w σ) (es : Array MapEntry) (clock : Nat) :
  Ext G w (G.new w 1 none) (w.alloc (.map es clock)) ∧ SInv gl (G.new w 1 none) (w.alloc (.map es clock)) σ := by
 have e := Ext.alloc h.wf (.map es clock) 1 none
 refine ⟨e, h.wf.alloc _ _ _, fun g cs hg => (h.glob g cs hg).mono e, h.N, fun b hb => ?_, fun b cs hb => ?_, h.gsz.mono e⟩
 ·obtain ⟨cv, fr, q1⟩ := h.typed b hb
  obtain ⟨_, _, _, _, q3, _⟩ := h.blk b σ[b] (List.getElem?_eq_getElem hb)
  exact ⟨cv, fr, (heap_alloc_lt (owner_lt h.wf q3)).trans q1⟩
 ·obtain ⟨cv, el, g1, g2, g3, g4, g5⟩ := h.blk b cs hb
  have hlt := owner_lt h.wf g3
  have hne : G.μ b ≠ w.heap.size := by omega
  refine ⟨cv, el, (heap_alloc_lt hlt).trans g1, g2, (upd_other _ _ hne).trans g3, (upd_other _ _ hne).trans g4, fun j c x hc hx => ?_⟩
  obtain ⟨e1, e2⟩ := g5 j c x hc hx
  refine ⟨e1.move e fun _ i hi => ?_, e2⟩
  have hl2 := owner_lt h.wf hi
  exact ⟨heap_alloc_lt hl2, upd_other _ _ (by omega), (upd_other _ _ (by omega)).trans hi⟩
def Mk.kindsA (args : List Cell) (σ : Sto) : Option Res := match args with
 | [] => some (.ret [(.map Mk.kindsL, false)], σ)
 | _ => none
theorem Mk.kinds_pure {C : Ctx} (hx : C.ext 31 = some Mk.kindsA) (g : FuncId) (hg : ([31] : List FuncId).contains g = true) :
  ∃ s, C.ext g = some s ∧ ∀ args vs, s args [] = some (.ret vs, []) → ∀ σ, s args σ = some (.ret vs, σ) := by
 have : g = 31 := by simpa using hg
 subst this
 refine ⟨_, hx, fun args vs h σ => ?_⟩
 unfold Mk.kindsA at h ⊢
 split at h
 ·obtain rfl : [(V.map Mk.kindsL, false)] = vs := by simpa using h
  rfl
 ·simp at h
theorem kindsC_ok {C : Ctx} (henter : ∀ (args : Array Value) (w : World), (callFunc 31 args).run Tryz.prog w = .ok (.enter 31 args) w) :
  CallOk Tryz.prog C (fun g args σ => if g = 31 then Mk.kindsA args σ else none) := by
 intro g args σ r h0
 simp only at h0
 split at h0
 case isFalse => simp at h0
 rename_i hg'
 subst hg'
 refine ⟨henter, fun G w vals hS hcl hlen hv => ?_⟩
 unfold Mk.kindsA at h0
 split at h0
 case h_2 => simp at h0
 obtain rfl := Option.some.inj h0
 obtain rfl : vals = [] := by simpa using hlen
 refine (Mk.kinds_ok w).mono ?_
 rintro e w' ⟨rfl, rfl⟩
 obtain ⟨f1, f2⟩ := Mk.map_sinv hS Mk.kindsE 3
 refine ⟨G.new w 1 none, f1, f2, [.map (some w.heap.size)], rfl, by simp, fun i c x hc hx => ?_⟩
 match i with
 | 0 =>
  simp at hc hx; subst hc; subst hx
  refine ⟨.map _ _ Mk.kindsE 3 (by show 0 < upd G.lim w.heap.size 1 w.heap.size; simp) ?_ rfl, fun ho => by simp at ho⟩
  unfold peek
  rw [heap_alloc_new]
 | i + 1 => simp at hc
end Go.Ab
end
section
namespace Go.Proofs
open Go.RowKit Go.Extern.Stop Go.Stop Go.Extern
theorem Mk.valueOf27 (t : Addr) (w : World) : (ReflectliteValue.unpack (.iface 84 (.pointer (some t)))).run Tryz.prog w
  = .ok (.agg #[.pointer (some ⟨10, 84, none⟩), .pointer (some ⟨w.heap.size, 0, none⟩), .int .u64 150]) (w.alloc (.cells #[.pointer (some t)] 84)) := by kernel_rfl
theorem Mk.type27 (a : Addr) (w : World) : (ReflectliteValue.methodAny (ReflectliteValue.valueError "reflectlite.Value.Type" 0) (fun t _ _ _ => ReflectliteType.toType t) #[.agg #[.pointer (some ⟨10, 84, none⟩), .pointer (some a), .int .u64 150]]).run Tryz.prog w
  = .ok (.iface 129 (.agg #[.pointer (some ⟨10, 84, none⟩)])) w := by kernel_rfl
theorem Mk.methodKind (h : Value) (w : World) : (Go.method 304 129 (.agg #[h]) "Kind").run Tryz.prog w = .ok (125, h) w := by kernel_rfl
theorem Mk.kind27 (w : World) : ((ReflectliteType.abiMethod fun t => (fun a : Nat => Value.int IntKind.u8 (a : Int)) <$> Rtype.kind t) #[.pointer (some ⟨10, 84, none⟩)]).run Tryz.prog w = .ok (.int .u8 22) w := by kernel_rfl
theorem Mk.kind25 (w : World) : ((ReflectliteType.abiMethod fun t => (fun a : Nat => Value.int IntKind.u8 (a : Int)) <$> Rtype.kind t) #[.pointer (some ⟨10, 49, none⟩)]).run Tryz.prog w = .ok (.int .u8 22) w := by kernel_rfl
theorem Mk.rlm (z : Sem Value) (f : TypeId → Addr → Nat → Nat → Sem Value) (v : Value) :
  ReflectliteValue.method z f #[v] = (do match ← ReflectliteValue.parts v with | none => z | some (t, a, fl) => f t a fl (fl % 32)) := rfl
theorem Mk.parts27 (a : Addr) (w : World) : (ReflectliteValue.parts (.agg #[.pointer (some ⟨10, 84, none⟩), .pointer (some a), .int .u64 150])).run Tryz.prog w = .ok (some (84, a, 150)) w := by kernel_rfl
theorem Mk.isNil27 (a p : Addr) (W : World) (ha : W.cell? a = some (.pointer (some p))) :
  (ReflectliteValue.method (ReflectliteValue.valueError "reflectlite.Value.IsNil" 0) ReflectliteValue.isNil #[.agg #[.pointer (some ⟨10, 84, none⟩), .pointer (some a), .int .u64 150]]).run Tryz.prog W = .ok (.bool false) W := by
 rw [Mk.rlm]
 simp only [Sem.run_bind, Mk.parts27, Result.andThen]
 simp [ReflectliteValue.isNil, loadVar, isAgg, underlying, Tryz.underlying84, ha, Result.andThen]
theorem Mk.methodElem (h : Value) (w : World) : (Go.method 304 129 (.agg #[h]) "Elem").run Tryz.prog w = .ok (140, .agg #[h]) w := by kernel_rfl
theorem Mk.methodImplements (h : Value) (w : World) : (Go.method 304 129 (.agg #[h]) "Implements").run Tryz.prog w = .ok (141, .agg #[h]) w := by kernel_rfl
theorem Mk.methodAssignableTo (h : Value) (w : World) : (Go.method 304 129 (.agg #[h]) "AssignableTo").run Tryz.prog w = .ok (138, .agg #[h]) w := by kernel_rfl
theorem Mk.elem27 (w : World) : (ReflectliteType.method ReflectliteType.elem #[.agg #[.pointer (some ⟨10, 84, none⟩)]]).run Tryz.prog w = .ok (.iface 129 (.agg #[.pointer (some ⟨10, 49, none⟩)])) w := by kernel_rfl
theorem Mk.implements25 (w : World) : (ReflectliteType.relation "Implements" ReflectliteType.implements_ #[.agg #[.pointer (some ⟨10, 49, none⟩)], .iface 129 (.agg #[.pointer (some ⟨10, 29, none⟩)])]).run Tryz.prog w = .ok (.bool true) w := by kernel_rfl
theorem Mk.typeOf25 (v : Value) (w : World) : (ReflectliteType.typeOf #[.iface 49 v]).run Tryz.prog w = .ok (.iface 129 (.agg #[.pointer (some ⟨10, 49, none⟩)])) w := by kernel_rfl
theorem Mk.assignable25 (w : World) : (ReflectliteType.relation "AssignableTo" ReflectliteType.assignableTo #[.agg #[.pointer (some ⟨10, 49, none⟩)], .iface 129 (.agg #[.pointer (some ⟨10, 49, none⟩)])]).run Tryz.prog w = .ok (.bool true) w := by kernel_rfl
theorem Mk.valueOf25 (e : Addr) (w : World) : (ReflectliteValue.unpack (.iface 49 (.pointer (some e)))).run Tryz.prog w
  = .ok (.agg #[.pointer (some ⟨10, 49, none⟩), .pointer (some ⟨w.heap.size, 0, none⟩), .int .u64 150]) (w.alloc (.cells #[.pointer (some e)] 49)) := by kernel_rfl
theorem Mk.elemOf27 (w : World) : (Rtype.elem? 84).run Tryz.prog w = .ok (some 49) w := by kernel_rfl
theorem Mk.mk25 (p : Addr) (w : World) : (ReflectliteValue.mk 49 p ReflectliteValue.flagAddr).run Tryz.prog w = .ok (.agg #[.pointer (some ⟨10, 49, none⟩), .pointer (some p), .int .u64 406]) w := by kernel_rfl
theorem Mk.elemV27 (a p : Addr) (W : World) (ha : W.cell? a = some (.pointer (some p))) :
  (ReflectliteValue.method (ReflectliteValue.valueError "reflectlite.Value.Elem" 0) ReflectliteValue.elem #[.agg #[.pointer (some ⟨10, 84, none⟩), .pointer (some a), .int .u64 150]]).run Tryz.prog W
   = .ok (.agg #[.pointer (some ⟨10, 49, none⟩), .pointer (some p), .int .u64 406]) W := by
 rw [Mk.rlm]
 simp only [Sem.run_bind, Mk.parts27, Result.andThen]
 simp [ReflectliteValue.elem, loadVar, isAgg, underlying, Tryz.underlying84, ha, Result.andThen, Mk.elemOf27, Mk.mk25]
theorem Mk.rls (v x : Value) : ReflectliteValue.set #[v, x] = (do
  let (some (dst, a, fl), some (src, b, _)) := (← ReflectliteValue.parts v, ← ReflectliteValue.parts x)
   | unsupported (.noEntry "extern/(internal/reflectlite.Value).Set.zeroValue")
  if fl / ReflectliteValue.flagAddr % 2 == 0 then unsupported (.noEntry "extern/(internal/reflectlite.Value).Set.unaddressable")
  let val ← loadVar src b
  if ← Rtype.directlyAssignable dst src then storeVar dst a val
  else if ← Rtype.implements dst src then
   if (← Rtype.kind src) == 20 then
    match val with
    | .nilIface => unsupported (.noEntry "extern/reflectlite: a nil value of one interface type handed on as a value of another")
    | _ => storeVar dst a val
   else storeVar dst a (.iface src val)
  else panicString ("reflectlite.Set: value of type " ++ (← Rtype.spelt src) ++ " is not assignable to type " ++ (← Rtype.spelt dst))
  pure (.tuple #[])) := rfl
theorem Mk.parts25a (a : Addr) (w : World) : (ReflectliteValue.parts (.agg #[.pointer (some ⟨10, 49, none⟩), .pointer (some a), .int .u64 406])).run Tryz.prog w = .ok (some (49, a, 406)) w := by kernel_rfl
theorem Mk.parts25 (a : Addr) (w : World) : (ReflectliteValue.parts (.agg #[.pointer (some ⟨10, 49, none⟩), .pointer (some a), .int .u64 150])).run Tryz.prog w = .ok (some (49, a, 150)) w := by kernel_rfl
theorem Mk.direct25 (w : World) : (Rtype.directlyAssignable 49 49).run Tryz.prog w = .ok true w := by kernel_rfl
theorem Mk.set25 (ta b e : Addr) (old : Value) (W : World) (hb : W.cell? b = some (.pointer (some e))) (ht : W.cell? ta = some old) (hf : W.frozen? ta = false) :
  (ReflectliteValue.set #[.agg #[.pointer (some ⟨10, 49, none⟩), .pointer (some ta), .int .u64 406], .agg #[.pointer (some ⟨10, 49, none⟩), .pointer (some b), .int .u64 150]]).run Tryz.prog W
   = .ok (.tuple #[]) (W.setCell ta (.pointer (some e))) := by
 rw [Mk.rls]
 simp only [Sem.run_bind, Mk.parts25a, Mk.parts25, Result.andThen]
 simp [ReflectliteValue.flagAddr, loadVar, isAgg, underlying, Tryz.underlying49, hb, Result.andThen, Mk.direct25, storeVar, Value.cells, storeCells, Addr.add]
 rw [run_store Tryz.prog W ta _ _ (by rfl)]
 simp [ht, hf]
set_option maxHeartbeats 4000000 in
theorem Mk.as_hit (e t : Addr) (old : Value) (w : World) (hg : w.cell? ⟨2, 0, none⟩ = some (.iface 129 (.agg #[.pointer (some ⟨10, 29, none⟩)]))) (ht0 : w.cell? t = some old) (hf0 : w.frozen? t = false) :
  Calls Tryz.prog 38 #[.iface 49 (.pointer (some e)), .iface 84 (.pointer (some t))] w fun ev w' => ev = .returned (.bool true) ∧ w' = ((((w.alloc (.cells #[.pointer (some t)] 84)).alloc (.cells #[.pointer (some ⟨10, 84, none⟩), .pointer (some ⟨w.heap.size, 0, none⟩), .int .u64 150] 107)).alloc (.cells #[.pointer (some ⟨10, 84, none⟩), .pointer (some ⟨w.heap.size, 0, none⟩), .int .u64 150] 107)).alloc (.cells #[.pointer (some e)] 49)).setCell t (.pointer (some e)) := by
 have h6 := @run_callFunc_extern Tryz.prog 64 _ (fun args => ReflectliteValue.unpack (args.getD 0 (.tuple #[]))) Tryz.func64 (by kernel_rfl) (by kernel_rfl) (by kernel_rfl) (by kernel_rfl)
 have h7 := @run_callFunc_extern Tryz.prog 65 _ (ReflectliteValue.methodAny (ReflectliteValue.valueError "reflectlite.Value.Type" 0) (fun t _ _ _ => ReflectliteType.toType t)) Tryz.func65 (by kernel_rfl) (by kernel_rfl) (by kernel_rfl) (by kernel_rfl)
 have h8 := @run_callFunc_extern Tryz.prog 66 _ (ReflectliteValue.method (ReflectliteValue.valueError "reflectlite.Value.IsNil" 0) ReflectliteValue.isNil) Tryz.func66 (by kernel_rfl) (by kernel_rfl) (by kernel_rfl) (by kernel_rfl)
 have h27 := @run_callFunc_extern Tryz.prog 125 _ (ReflectliteType.abiMethod fun t => do pure (.int .u8 (← Rtype.kind t))) Tryz.func125 (by kernel_rfl) (by kernel_rfl) (by kernel_rfl) (by kernel_rfl)
 have h37 := @run_callFunc_extern Tryz.prog 140 _ (ReflectliteType.method ReflectliteType.elem) Tryz.func140 (by kernel_rfl) (by kernel_rfl) (by kernel_rfl) (by kernel_rfl)
 have h38 := @run_callFunc_extern Tryz.prog 141 _ (ReflectliteType.relation "Implements" ReflectliteType.implements_) Tryz.func141 (by kernel_rfl) (by kernel_rfl) (by kernel_rfl) (by kernel_rfl)
 have h10 := @run_callFunc_extern Tryz.prog 84 _ ReflectliteType.typeOf Tryz.func84 (by kernel_rfl) (by kernel_rfl) (by kernel_rfl) (by kernel_rfl)
 have h35 := @run_callFunc_extern Tryz.prog 138 _ (ReflectliteType.relation "AssignableTo" ReflectliteType.assignableTo) Tryz.func138 (by kernel_rfl) (by kernel_rfl) (by kernel_rfl) (by kernel_rfl)
 have h11 := @run_callFunc_extern Tryz.prog 85 _ (ReflectliteValue.method (ReflectliteValue.valueError "reflectlite.Value.Elem" 0) ReflectliteValue.elem) Tryz.func85 (by kernel_rfl) (by kernel_rfl) (by kernel_rfl) (by kernel_rfl)
 have h12 := @run_callFunc_extern Tryz.prog 86 _ ReflectliteValue.set Tryz.func86 (by kernel_rfl) (by kernel_rfl) (by kernel_rfl) (by kernel_rfl)
 have tO := Mk.typeOf25
 have mA := Mk.methodAssignableTo
 have a25 := Mk.assignable25
 have v25 := Mk.valueOf25
 have f6 := Mk.valueOf27
 have f7 := Mk.type27
 have mK := Mk.methodKind
 have mE := Mk.methodElem
 have mI := Mk.methodImplements
 have k27 := Mk.kind27
 have k25 := Mk.kind25
 have e27 := Mk.elem27
 have i25 := Mk.implements25
 have n8 := Mk.isNil27 ⟨w.heap.size, 0, none⟩ t ((w.alloc (.cells #[.pointer (some t)] 84)).alloc (.cells #[.pointer (some ⟨10, 84, none⟩), .pointer (some ⟨w.heap.size, 0, none⟩), .int .u64 150] 107)) (by simp)
 have hlt : 2 < w.heap.size := by
  rcases Nat.lt_or_ge 2 w.heap.size with h | h
  ·exact h
  ·simp [World.cell?, Array.getElem?_eq_none h] at hg
 have hg2 : ((w.alloc (.cells #[.pointer (some t)] 84)).alloc (.cells #[.pointer (some ⟨10, 84, none⟩), .pointer (some ⟨w.heap.size, 0, none⟩), .int .u64 150] 107)).cell? ⟨2, 0, none⟩ = some (.iface 129 (.agg #[.pointer (some ⟨10, 29, none⟩)])) := by
  rw [World.cell?_alloc_lt _ _ ⟨2, 0, none⟩ (by simp; omega), World.cell?_alloc_lt _ _ ⟨2, 0, none⟩ hlt]; exact hg
 have htl : t.block < w.heap.size := by
  rcases Nat.lt_or_ge t.block w.heap.size with h | h
  ·exact h
  ·simp [World.cell?, Array.getElem?_eq_none h] at ht0
 have el := Mk.elemV27 ⟨w.heap.size, 0, none⟩ t (((w.alloc (.cells #[.pointer (some t)] 84)).alloc (.cells #[.pointer (some ⟨10, 84, none⟩), .pointer (some ⟨w.heap.size, 0, none⟩), .int .u64 150] 107)).alloc (.cells #[.pointer (some ⟨10, 84, none⟩), .pointer (some ⟨w.heap.size, 0, none⟩), .int .u64 150] 107)) (by rw [World.cell?_alloc_lt _ _ ⟨w.heap.size, 0, none⟩ (by simp; omega)]; simp)
 have st := Mk.set25 t ⟨w.heap.size + 1 + 1 + 1, 0, none⟩ e old ((((w.alloc (.cells #[.pointer (some t)] 84)).alloc (.cells #[.pointer (some ⟨10, 84, none⟩), .pointer (some ⟨w.heap.size, 0, none⟩), .int .u64 150] 107)).alloc (.cells #[.pointer (some ⟨10, 84, none⟩), .pointer (some ⟨w.heap.size, 0, none⟩), .int .u64 150] 107)).alloc (.cells #[.pointer (some e)] 49))
  (by rw [World.cell?_alloc_at _ _ _ _ (by simp)]; rfl)
  (by rw [World.cell?_alloc_lt _ _ t (by simp; omega), World.cell?_alloc_lt _ _ t (by simp; omega), World.cell?_alloc_lt _ _ t (by simp; omega), World.cell?_alloc_lt _ _ t htl]; exact ht0)
  (by rw [World.frozen?_alloc_old _ _ t (by simp; omega), World.frozen?_alloc_old _ _ t (by simp; omega), World.frozen?_alloc_old _ _ t (by simp; omega), World.frozen?_alloc_old _ _ t (Nat.ne_of_lt htl)]; exact hf0)
 go_enter Tryz.func38, Tryz.ntmps38
 go_wp2
 refine wp_loop_rounds 1 ?_
 rw [rounds_succ]
 go_wp2
 go_ret
 exact ⟨rfl, rfl⟩
end Go.Proofs
end
section
namespace Go.Proofs
open Go.RowKit Go.Ab
set_option maxRecDepth 100000
set_option maxHeartbeats 1000000
theorem Mk.code_nil (w : World) : Calls Tryz.prog 19 #[.nilIface] w fun e w' => e = .returned (.tuple #[.int .i64 0, .int .i64 0]) ∧ w' = w := by
 go_enter Tryz.func19, Tryz.ntmps19
 go_wp2
 refine bodyPost_ret (by simp [results, Tryz.results19, go_sem]; try rfl) rfl ?_
 exact ⟨rfl, rfl⟩
theorem Mk.code_hit (b : Nat) (c a : Int) (w : World) (hg : w.cell? ⟨2, 0, none⟩ = some (.iface 129 (.agg #[.pointer (some ⟨10, 29, none⟩)])))
  (h0 : w.cell? ⟨b, 0, none⟩ = some (.int .i64 c)) (h1 : w.cell? ⟨b, 1, none⟩ = some (.int .i64 a)) :
  Calls Tryz.prog 19 #[.iface 49 (.pointer (some ⟨b, 0, none⟩))] w fun e w' => e = .returned (.tuple #[.int .i64 c, .int .i64 a]) ∧ Below w.heap.size w w' := by
 have hlt : ∀ (p : Addr) (x : Value), w.cell? p = some x → p.block < w.heap.size := fun p x hx => by
  rcases Nat.lt_or_ge p.block w.heap.size with h | h
  ·exact h
  ·simp [World.cell?, Array.getElem?_eq_none h] at hx
 have hA := Mk.as_hit ⟨b, 0, none⟩ ⟨w.heap.size, 0, none⟩ (.pointer none) (w.alloc (.cells #[.pointer none] 49))
  (by rw [World.cell?_alloc_lt _ _ ⟨2, 0, none⟩ (hlt _ _ hg)]; exact hg) (by rw [World.cell?_alloc_at _ _ _ _ rfl]; rfl) (by simp only [World.frozen?, heap_alloc_new]; rfl)
 go_enter Tryz.func19, Tryz.ntmps19
 go_wp2_with (go_at_call 38; refine hA.mono ?_)
 clear hA
 rintro e w1 ⟨rfl, hw⟩
 have hB : Below w.heap.size w w1 := by
  rw [hw]
  refine Below.setCell (p := ⟨w.heap.size, 0, none⟩) ?_ (Nat.le_refl _) _
  refine Below.alloc ?_ (by simp; omega) _
  refine Below.alloc ?_ (by simp; omega) _
  refine Below.alloc ?_ (by simp; omega) _
  refine Below.alloc ?_ (by simp) _
  exact Below.alloc (Below.refl _ _) (Nat.le_refl _) _
 have k0 : w1.cell? ⟨b, 0, none⟩ = some (.int .i64 c) := (hB.cell (hlt _ _ h0)).trans h0
 have k1 : w1.cell? ⟨b, 1, none⟩ = some (.int .i64 a) := (hB.cell (hlt _ _ h1)).trans h1
 have kt : w1.cell? ⟨w.heap.size, 0, none⟩ = some (.pointer (some ⟨b, 0, none⟩)) := by
  rw [hw]
  refine World.cell?_setCell_same' _ _ _ ?_
  rw [World.cell?_alloc_lt _ _ ⟨w.heap.size, 0, none⟩ (by simp; omega), World.cell?_alloc_lt _ _ ⟨w.heap.size, 0, none⟩ (by simp; omega), World.cell?_alloc_lt _ _ ⟨w.heap.size, 0, none⟩ (by simp; omega), World.cell?_alloc_lt _ _ ⟨w.heap.size, 0, none⟩ (by simp), World.cell?_alloc_at _ _ _ _ rfl]
  rfl
 clear hw
 go_wp2
 go_region
 all_goals (go_wp2; refine bodyPost_ret (by simp [results, Tryz.results19, go_sem]; try rfl) rfl ?_; exact ⟨rfl, hB.os, hB.tape, hB.output, hB.size, hB.block⟩)
end Go.Proofs
namespace Go.Ab
open Go.RowKit Go.Proofs
theorem below_ext {gl : Nat → Option (List V)} {G : Gh} {w w' : World} {σ : Sto} (h : SInv gl G w σ) (hB : RowKit.Below w.heap.size w w') : Ext G w G w' ∧ SInv gl G w' σ := by
 have e : Ext G w G w' := ⟨Nat.le_refl _, fun _ _ => rfl, fun _ _ => rfl, fun _ => Nat.le_refl _, fun b o ho => peek_block (hB.block b (lim_lt h.wf ho)) o, hB.os, hB.tape, hB.output, hB.size, fun i hi ho => ⟨hB.block i hi, rfl, ho⟩⟩
 refine ⟨e, fun i hi => h.wf i (Nat.le_trans hB.size hi), fun g cs hg => (h.glob g cs hg).mono e, h.N, fun b hb => ?_, fun b cs hb => ?_, h.gsz.mono e⟩
 ·obtain ⟨cv, fr, q1⟩ := h.typed b hb
  obtain ⟨_, _, _, _, q3, _⟩ := h.blk b σ[b] (List.getElem?_eq_getElem hb)
  exact ⟨cv, fr, by rw [hB.block _ (owner_lt h.wf q3)]; exact q1⟩
 ·obtain ⟨cv, el, g1, g2, g3, g4, g5⟩ := h.blk b cs hb
  refine ⟨cv, el, by rw [hB.block _ (owner_lt h.wf g3)]; exact g1, g2, g3, g4, fun j c x hc hx => ?_⟩
  obtain ⟨e1, e2⟩ := g5 j c x hc hx
  exact ⟨e1.move e fun _ i hi => ⟨hB.block i (owner_lt h.wf hi), rfl, hi⟩, e2⟩
def Mk.hv : Value := .iface 129 (.agg #[.pointer (some ⟨10, 29, none⟩)])
def Mk.codeS (args : List Cell) (σ : Sto) : Option Res :=
 match args with
 | [(.nilIface, _)] => some (.ret [(.int .i64 0, false), (.int .i64 0, false)], σ)
 | [(.iface t (.ptr t' b o), _)] => if t = 49 ∧ t' = 33 ∧ o = 0 then (match σ[b]? with
  | some [(.int k c, _), (.int k' a, _)] => if k = .i64 ∧ k' = .i64 then some (.ret [(.int .i64 c, false), (.int .i64 a, false)], σ) else none
  | _ => none) else none
 | _ => none
theorem code_ok {C : Ctx} (hgl : C.glob 2 = some [.lit Mk.hv]) (henter : ∀ (args : Array Value) (w : World), (callFunc 19 args).run Tryz.prog w = .ok (.enter 19 args) w) :
  CallOk Tryz.prog C (fun g args σ => if g = 19 then Mk.codeS args σ else none) := by
 intro g args σ r h
 simp only at h
 split at h
 case isFalse => simp at h
 rename_i hg
 subst hg
 refine ⟨henter, fun G w vals hS hcl hlen hv => ?_⟩
 have hcell : w.cell? ⟨2, 0, none⟩ = some Mk.hv := by
  have hr := hS.glob 2 _ hgl
  generalize hp : Value.pointer (some ⟨2, 0, none⟩) = pv at hr
  cases hr with
  | eptr _ _ _ b off cs h1 h2 h3 h4 h5 =>
   obtain ⟨c, rfl⟩ : ∃ c, cs = [c] := by
    match cs, h2 with
    | [c], _ => exact ⟨c, rfl⟩
   have hc := h4 0 c rfl
   have hl := h5 0 _ c rfl rfl
   cases hl with
   | lit _ _ =>
    simp at hp
    obtain ⟨rfl, h0⟩ := hp
    obtain rfl : off = 0 := by omega
    exact hc.1
 unfold Mk.codeS at h
 split at h
 case h_3 => simp at h
 ·rename_i ow
  obtain rfl := Option.some.inj h
  obtain ⟨x, rfl⟩ : ∃ x, vals = [x] := by
   match vals, hlen with
   | [x], _ => exact ⟨x, rfl⟩
  have hx := (hv 0 _ x rfl rfl).1
  simp only at hx
  cases hx with
  | nilIface =>
  refine (Mk.code_nil w).mono fun en w' ⟨he, hw⟩ => ?_
  subst he; subst hw
  exact ⟨G, Ext.refl _ _, hS, end_two (.int _ _) (.int _ _)⟩
 ·rename_i t t' b o ow
  split at h
  case isFalse => simp at h
  rename_i hh
  obtain ⟨rfl, rfl, rfl⟩ := hh
  split at h
  case h_2 => simp at h
  rename_i k c o1 k' a o2 hb
  split at h
  case isFalse => simp at h
  rename_i hh
  obtain ⟨rfl, rfl⟩ := hh
  obtain rfl := Option.some.inj h
  obtain ⟨x, rfl⟩ : ∃ x, vals = [x] := by
   match vals, hlen with
   | [x], _ => exact ⟨x, rfl⟩
  have hx := (hv 0 _ x rfl rfl).1
  simp only at hx
  cases hx with
  | iface _ _ cx hcx =>
  cases hcx with
  | ptr _ _ _ hbN hty =>
  obtain ⟨cv, el, g1, g2, g3, g4, g5⟩ := hS.blk b _ hb
  simp only [List.length_cons, List.length_nil] at g2
  obtain ⟨y0, h0⟩ : ∃ y, cv[0]? = some y := ⟨cv[0], by simp [g2]⟩
  obtain ⟨y1, h1⟩ : ∃ y, cv[1]? = some y := ⟨cv[1], by simp [g2]⟩
  have r0 := (g5 0 _ y0 rfl h0).1.1
  have r1 := (g5 1 _ y1 rfl h1).1.1
  simp only at r0 r1
  cases r0
  cases r1
  refine (Mk.code_hit (G.μ b) c a w hcell (by simp only [World.cell?, g1]; simpa using h0) (by simp only [World.cell?, g1]; simpa using h1)).mono fun en w' ⟨he, hB⟩ => ?_
  subst he
  obtain ⟨f1, f2⟩ := below_ext hS hB
  exact ⟨G, f1, f2, end_two (.int _ _) (.int _ _)⟩
end Go.Ab
end
section
set_option maxRecDepth 100000
namespace Go.Ab.Mk
open Go.Proofs Go.Ab
open List (getD)
open IntKind (wrap)
def TL : List (TypeId × TI) := [
 (0, ⟨(.tuple 0), 1, 0, [V.any]⟩),
 (3, ⟨(.int .i64), 1, 8, [(V.int .i64 (0 : Int))]⟩),
 (4, ⟨.bool, 1, 1, [V.bool false]⟩),
 (5, ⟨(.int .u8), 1, 1, [(V.int .u8 (0 : Int))]⟩),
 (9, ⟨.string, 1, 16, [V.str ⟨#[]⟩]⟩),
 (20, ⟨.iface, 1, 16, [V.nilIface]⟩),
 (27, ⟨(.slice 47), 1, 24, [V.slice 15 47 []]⟩),
 (29, ⟨.iface, 1, 16, [V.nilIface]⟩),
 (33, ⟨(.struct [(0, 3), (1, 3)]), 2, 16, [(V.int .i64 (0 : Int)), (V.int .i64 (0 : Int))]⟩),
 (34, ⟨(.tuple 2), 1, 0, [V.any]⟩),
 (40, ⟨(.slice 9), 1, 24, [V.slice 1 9 []]⟩),
 (41, ⟨(.slice 92), 1, 24, [V.slice 3 92 []]⟩),
 (42, ⟨(.slice 44), 1, 24, [V.slice 5 44 []]⟩),
 (44, ⟨(.struct [(0, 3), (1, 3), (2, 9), (3, 41), (4, 42)]), 5, 80, [(V.int .i64 (0 : Int)), (V.int .i64 (0 : Int)), V.str ⟨#[]⟩, V.slice 3 92 [], V.slice 5 44 []]⟩),
 (45, ⟨(.slice 71), 1, 24, [V.slice 6 71 []]⟩),
 (47, ⟨(.struct [(0, 3), (1, 9), (2, 40), (3, 44), (8, 44), (13, 3), (14, 45)]), 15, 240, [(V.int .i64 (0 : Int)), V.str ⟨#[]⟩, V.slice 1 9 [], (V.int .i64 (0 : Int)), (V.int .i64 (0 : Int)), V.str ⟨#[]⟩, V.slice 3 92 [], V.slice 5 44 [], (V.int .i64 (0 : Int)), (V.int .i64 (0 : Int)), V.str ⟨#[]⟩, V.slice 3 92 [], V.slice 5 44 [], (V.int .i64 (0 : Int)), V.slice 6 71 []]⟩),
 (49, ⟨(.pointer 33), 1, 8, [V.nilp]⟩),
 (52, ⟨(.pointer 55), 1, 8, [V.nilp]⟩),
 (55, ⟨(.struct [(0, 9), (1, 3), (2, 9), (3, 3)]), 4, 48, [V.str ⟨#[]⟩, (V.int .i64 (0 : Int)), V.str ⟨#[]⟩, (V.int .i64 (0 : Int))]⟩),
 (60, ⟨(.pointer 63), 1, 8, [V.nilp]⟩),
 (61, ⟨(.slice 5), 1, 24, [V.slice 1 5 []]⟩),
 (63, ⟨(.struct [(0, 60), (1, 61)]), 2, 32, [V.nilp, V.slice 1 5 []]⟩),
 (64, ⟨(.tuple 2), 1, 0, [V.any]⟩),
 (71, ⟨(.struct [(0, 9), (1, 44)]), 6, 96, [V.str ⟨#[]⟩, (V.int .i64 (0 : Int)), (V.int .i64 (0 : Int)), V.str ⟨#[]⟩, V.slice 3 92 [], V.slice 5 44 []]⟩),
 (74, ⟨(.map 9 3), 1, 8, [V.any]⟩),
 (77, ⟨(.pointer 79), 1, 8, [V.nilp]⟩),
 (79, ⟨(.struct [(0, 9), (1, 3), (2, 33)]), 4, 40, [V.str ⟨#[]⟩, (V.int .i64 (0 : Int)), (V.int .i64 (0 : Int)), (V.int .i64 (0 : Int))]⟩),
 (80, ⟨(.tuple 3), 1, 0, [V.any]⟩),
 (92, ⟨(.struct [(0, 3), (1, 9), (2, 41)]), 3, 48, [(V.int .i64 (0 : Int)), V.str ⟨#[]⟩, V.slice 3 92 []]⟩),
 (94, ⟨.func, 1, 8, [V.nilFunc]⟩),
 (96, ⟨(.tuple 2), 1, 0, [V.any]⟩),
 (99, ⟨(.array 7 9), 7, 112, [V.str ⟨#[]⟩, V.str ⟨#[]⟩, V.str ⟨#[]⟩, V.str ⟨#[]⟩, V.str ⟨#[]⟩, V.str ⟨#[]⟩, V.str ⟨#[]⟩]⟩),
 (165, ⟨(.array 4 9), 4, 64, [V.str ⟨#[]⟩, V.str ⟨#[]⟩, V.str ⟨#[]⟩, V.str ⟨#[]⟩]⟩)]
noncomputable def parseFileH : Hints := { keep := fun i => [], lp := [3], roots := [(3, 3)], pureF := [31] }
noncomputable def parseFileC : Code := Tryz.f6.body.getD .skip
noncomputable def parseFileD : FDef := ⟨Tryz.f6, parseFileC, parseFileH⟩
noncomputable def declsFitH : Hints := { keep := fun i => if i = 0 then [0, 3, 4] else [], ep := [16], pureF := [31] }
noncomputable def declsFitC : Code := Tryz.f8.body.getD .skip
noncomputable def declsFitD : FDef := ⟨Tryz.f8, declsFitC, declsFitH⟩
noncomputable def fprintAllH : Hints := { keep := fun i => if i = 0 then [3, 6, 7, 8] else [], esc := [3], lp := [5], ep := [10], roots := [(5, 5)], pureF := [31] }
noncomputable def fprintAllC : Code := Tryz.f9.body.getD .skip
noncomputable def fprintAllD : FDef := ⟨Tryz.f9, fprintAllC, fprintAllH⟩
noncomputable def rprintFileH : Hints := { keep := fun i => if i = 0 then [0, 3, 4] else [], ep := [14], pureF := [31] }
noncomputable def rprintFileC : Code := Tryz.f10.body.getD .skip
noncomputable def rprintFileD : FDef := ⟨Tryz.f10, rprintFileC, rprintFileH⟩
noncomputable def fprintH : Hints := { keep := fun i => if i = 0 then [3, 51, 52, 53] else [], steal := [16, 29, 35, 44, 57], lp := [1, 5, 7, 9, 12, 17, 19, 26, 30, 36, 41, 45, 50, 58, 62], ep := [55], roots := [(1, 1), (5, 5), (7, 1), (9, 1), (12, 1), (17, 1), (19, 1), (26, 1), (30, 1), (36, 1), (41, 1), (45, 1), (50, 1), (58, 5), (62, 5)], ord := fun i => if i = 2 then List.range 11 else if i = 11 then List.range 13 else [], pureF := [31] }
noncomputable def fprintC : Code := Tryz.f11.body.getD .skip
noncomputable def fprintD : FDef := ⟨Tryz.f11, fprintC, fprintH⟩
noncomputable def sameDeclH : Hints := { keep := fun i => if i = 2 then [2, 3, 6, 114] else if i = 0 then [2, 3, 5, 88, 89, 90, 91, 92, 93, 94, 95, 96, 97, 98, 99, 100, 114] else [], lp := [2, 3, 10, 12, 16, 18, 23, 25, 30, 33, 39, 42, 48, 54, 59, 66, 72, 78, 88, 94, 102, 104, 107, 109], ep := [57, 62, 75, 76, 81, 82, 91, 92, 97, 98], roots := [(2, 2), (3, 3), (10, 2), (12, 3), (16, 2), (18, 3), (23, 2), (25, 3), (30, 2), (33, 3), (39, 2), (42, 3), (48, 2), (54, 2), (59, 3), (66, 2), (72, 2), (78, 3), (88, 2), (94, 3), (102, 2), (104, 3), (107, 2), (109, 3)], ord := fun i => if i = 6 then List.range 11 else if i = 11 then List.range 14 else if i = 12 then List.range 17 else [], pureF := [31] }
noncomputable def sameDeclC : Code := Tryz.f12.body.getD .skip
noncomputable def sameDeclD : FDef := ⟨Tryz.f12, sameDeclC, sameDeclH⟩
noncomputable def rprintDeclH : Hints := { keep := fun i => if i = 2 then [1, 3, 5] else if i = 0 then [1, 3, 4] else [], lp := [1, 6, 9, 13, 18, 29, 37, 41, 47, 51, 56, 61, 69, 77], ep := [32, 72, 73, 80, 81], roots := [(1, 1), (6, 1), (9, 1), (13, 1), (18, 1), (29, 1), (37, 1), (41, 1), (47, 1), (51, 1), (56, 1), (61, 1), (69, 1), (77, 1)], ord := fun i => if i = 22 then List.range 20 else [], pureF := [31] }
noncomputable def rprintDeclC : Code := Tryz.f13.body.getD .skip
noncomputable def rprintDeclD : FDef := ⟨Tryz.f13, rprintDeclC, rprintDeclH⟩
noncomputable def newScannerH : Hints := { keep := fun i => [], esc := [6], pureF := [31] }
noncomputable def newScannerC : Code := Tryz.f16.body.getD .skip
noncomputable def newScannerD : FDef := ⟨Tryz.f16, newScannerC, newScannerH⟩
noncomputable def freadH : Hints := { keep := fun i => if i = 3 then [0, 2, 3] else if i = 0 then [0, 2, 3, 55, 56] else [], steal := [14, 33, 86], lp := [2, 3, 15, 24, 32, 38, 41, 61, 66, 67, 73, 85, 94], roots := [(2, 2), (3, 3), (15, 3), (24, 3), (32, 3), (38, 3), (41, 3), (61, 3), (66, 3), (67, 3), (73, 3), (85, 3), (94, 3)], ord := fun i => if i = 2 then [7, 0, 1, 2, 3, 4, 5, 6, 8] else if i = 9 then List.range 8 else if i = 25 then [0, 1, 2, 4, 3, 5, 6, 7, 8, 9, 10] else [], pureF := [31] }
noncomputable def freadC : Code := Tryz.f17.body.getD .skip
noncomputable def freadD : FDef := ⟨Tryz.f17, freadC, freadH⟩
noncomputable def parseAnyH : Hints := { keep := fun i => if i = 0 then [3, 4, 5] else [], steal := [34], esc := [12], lp := [3, 9], roots := [(3, 3), (9, 9)], ord := fun i => if i = 9 then List.range 6 else [], pureF := [31] }
noncomputable def parseAnyC : Code := Tryz.f18.body.getD .skip
noncomputable def parseAnyD : FDef := ⟨Tryz.f18, parseAnyC, parseAnyH⟩
noncomputable def declFitsH : Hints := { keep := fun i => if i = 0 then [1, 5, 6] else [], lp := [1, 7, 10, 18, 27], ep := [30, 31], roots := [(1, 1), (7, 1), (10, 1), (18, 1), (27, 1)], pureF := [31] }
noncomputable def declFitsC : Code := Tryz.f20.body.getD .skip
noncomputable def declFitsD : FDef := ⟨Tryz.f20, declFitsC, declFitsH⟩
noncomputable def wstringH : Hints := { keep := fun i => [], steal := [12], pureF := [31] }
noncomputable def wstringC : Code := Tryz.f21.body.getD .skip
noncomputable def wstringD : FDef := ⟨Tryz.f21, wstringC, wstringH⟩
noncomputable def tprintH : Hints := { keep := fun i => [], esc := [3], lp := [1], roots := [(1, 1)], pureF := [31] }
noncomputable def tprintC : Code := Tryz.f25.body.getD .skip
noncomputable def tprintD : FDef := ⟨Tryz.f25, tprintC, tprintH⟩
noncomputable def sameTermH : Hints := { keep := fun i => [], lp := [2, 3], roots := [(2, 2), (3, 3)], pureF := [31] }
noncomputable def sameTermC : Code := Tryz.f26.body.getD .skip
noncomputable def sameTermD : FDef := ⟨Tryz.f26, sameTermC, sameTermH⟩
noncomputable def rprintTermH : Hints := { keep := fun i => if i = 2 then [1, 3, 5] else if i = 0 then [1, 3, 4] else [], lp := [1, 6, 9, 14, 19, 24, 28, 36, 44, 52], ep := [16, 39, 55], roots := [(1, 1), (6, 1), (9, 1), (14, 1), (19, 1), (24, 1), (28, 1), (36, 1), (44, 1), (52, 1)], pureF := [31] }
noncomputable def rprintTermC : Code := Tryz.f28.body.getD .skip
noncomputable def rprintTermD : FDef := ⟨Tryz.f28, rprintTermC, rprintTermH⟩
noncomputable def sstepH : Hints := { keep := fun i => [], ord := fun i => if i = 1 then List.range 10 else if i = 4 then List.range 10 else if i = 21 then List.range 19 else [], pureF := [31] }
noncomputable def sstepC : Code := Tryz.f29.body.getD .skip
noncomputable def sstepD : FDef := ⟨Tryz.f29, sstepC, sstepH⟩
noncomputable def stakeH : Hints := { keep := fun i => [], pureF := [31] }
noncomputable def stakeC : Code := Tryz.f30.body.getD .skip
noncomputable def stakeD : FDef := ⟨Tryz.f30, stakeC, stakeH⟩
noncomputable def sfailH : Hints := { keep := fun i => [], esc := [7], pureF := [31] }
noncomputable def sfailC : Code := Tryz.f32.body.getD .skip
noncomputable def sfailD : FDef := ⟨Tryz.f32, sfailC, sfailH⟩
noncomputable def snameH : Hints := { keep := fun i => [], pureF := [31] }
noncomputable def snameC : Code := Tryz.f33.body.getD .skip
noncomputable def snameD : FDef := ⟨Tryz.f33, snameC, snameH⟩
noncomputable def readH : Hints := { keep := fun i => if i = 3 then [0, 2, 8, 75, 76] else if i = 1 then [0, 2, 8, 9] else [], steal := [48, 67, 79], lp := [2, 8, 55, 60, 66, 72, 78, 84], roots := [(2, 2), (8, 8), (55, 8), (60, 8), (66, 8), (72, 8), (78, 8), (84, 8)], ord := fun i => if i = 9 then List.range 8 else if i = 21 then List.range 8 else if i = 26 then List.range 8 else [], pureF := [31] }
noncomputable def readC : Code := Tryz.f35.body.getD .skip
noncomputable def readD : FDef := ⟨Tryz.f35, readC, readH⟩
noncomputable def rtokenH : Hints := { keep := fun i => if i = 3 then [0, 5, 6] else if i = 5 then [0, 5, 6, 7, 148, 149, 150, 151, 154, 155, 156, 157, 158, 159, 160, 161, 162, 163, 164, 165, 166] else if i = 0 then [0, 5, 73, 74, 86, 87, 88, 89, 90, 91, 92, 105, 106, 107, 108, 109, 110, 120, 121, 122, 123, 124, 125, 126, 129, 130, 131, 132, 133, 134, 135, 148, 149, 150, 151, 154, 155, 156, 157, 158, 159, 160, 161, 162, 163, 164, 165, 166] else [], pureF := [31] }
noncomputable def rtokenC : Code := Tryz.f36.body.getD .skip
noncomputable def rtokenD : FDef := ⟨Tryz.f36, rtokenC, rtokenH⟩
noncomputable def rdeclH : Hints := { keep := fun i => if i = 3 then [0, 2, 6] else if i = 1 then [0, 2, 6, 73, 74, 77, 78, 79, 82, 83, 84, 87, 88, 89, 113, 114, 115, 116, 117, 118, 121, 122, 123] else [], steal := [19, 53, 138], lp := [2, 6, 10, 27, 30, 33, 38, 52, 58, 61, 99, 102, 103, 108, 109, 134, 137, 142], roots := [(2, 2), (6, 6), (10, 10), (27, 6), (30, 6), (33, 6), (38, 6), (52, 6), (58, 6), (61, 6), (99, 6), (102, 6), (103, 6), (108, 6), (109, 6), (134, 10), (137, 6), (142, 6)], ord := fun i => if i = 17 then List.range 8 else [], pureF := [31] }
noncomputable def rdeclC : Code := Tryz.f37.body.getD .skip
noncomputable def rdeclD : FDef := ⟨Tryz.f37, rdeclC, rdeclH⟩
noncomputable def levelsFitH : Hints := { keep := fun i => if i = 2 then [1, 5] else if i = 0 then [1, 3] else [], lp := [1, 8, 14, 23, 29], ep := [17, 32], roots := [(1, 1), (8, 1), (14, 1), (23, 1), (29, 1)], pureF := [31] }
noncomputable def levelsFitC : Code := Tryz.f39.body.getD .skip
noncomputable def levelsFitD : FDef := ⟨Tryz.f39, levelsFitC, levelsFitH⟩
noncomputable def twriteH : Hints := { keep := fun i => if i = 2 then [0, 46, 47, 48] else if i = 0 then [0, 3, 33, 34, 35] else [], lp := [3, 5, 7, 8, 12, 18, 24, 28, 32, 45], ep := [20, 37, 50], roots := [(3, 3), (5, 5), (7, 7), (8, 3), (12, 3), (18, 3), (24, 3), (28, 3), (32, 3), (45, 3)], pureF := [31] }
noncomputable def twriteC : Code := Tryz.f43.body.getD .skip
noncomputable def twriteD : FDef := ⟨Tryz.f43, twriteC, twriteH⟩
noncomputable def alikeH : Hints := { keep := fun i => if i = 2 then [2, 3, 4, 9] else if i = 0 then [2, 3, 4, 7] else [], lp := [3, 4, 11, 13, 17, 19, 24, 26, 31, 34, 40, 43, 49, 55, 60, 71, 76, 85, 91, 96], ep := [58, 63, 74, 79, 94, 99], roots := [(3, 3), (4, 4), (11, 3), (13, 4), (17, 3), (19, 4), (24, 3), (26, 4), (31, 3), (34, 4), (40, 3), (43, 4), (49, 3), (55, 3), (60, 4), (71, 3), (76, 4), (85, 3), (91, 3), (96, 4)], ord := fun i => if i = 6 then List.range 12 else if i = 8 then List.range 12 else if i = 14 then List.range 13 else [], pureF := [31] }
noncomputable def alikeC : Code := Tryz.f44.body.getD .skip
noncomputable def alikeD : FDef := ⟨Tryz.f44, alikeC, alikeH⟩
noncomputable def rprintH : Hints := { keep := fun i => [], lp := [1, 4, 10, 19, 21, 27, 34], ep := [12, 29, 36], roots := [(1, 1), (4, 1), (10, 1), (19, 1), (21, 1), (27, 1), (34, 1)], ord := fun i => if i = 11 then [0, 1, 2, 3, 4, 5, 6, 10, 11, 12, 13, 7, 8, 9, 14, 15, 16, 17] else [], pureF := [31] }
noncomputable def rprintC : Code := Tryz.f45.body.getD .skip
noncomputable def rprintD : FDef := ⟨Tryz.f45, rprintC, rprintH⟩
noncomputable def srunH : Hints := { keep := fun i => if i = 0 then [0, 1, 2] else [], pureF := [31] }
noncomputable def srunC : Code := Tryz.f46.body.getD .skip
noncomputable def srunD : FDef := ⟨Tryz.f46, srunC, srunH⟩
noncomputable def sblankH : Hints := { keep := fun i => [], pureF := [31] }
noncomputable def sblankC : Code := Tryz.f47.body.getD .skip
noncomputable def sblankD : FDef := ⟨Tryz.f47, sblankC, sblankH⟩
noncomputable def letterH : Hints := { keep := fun i => [], pureF := [31] }
noncomputable def letterC : Code := Tryz.f48.body.getD .skip
noncomputable def letterD : FDef := ⟨Tryz.f48, letterC, letterH⟩
noncomputable def snmbH : Hints := { keep := fun i => [], pureF := [31] }
noncomputable def snmbC : Code := Tryz.f49.body.getD .skip
noncomputable def snmbD : FDef := ⟨Tryz.f49, snmbC, snmbH⟩
noncomputable def digitH : Hints := { keep := fun i => [], pureF := [31] }
noncomputable def digitC : Code := Tryz.f50.body.getD .skip
noncomputable def digitD : FDef := ⟨Tryz.f50, digitC, digitH⟩
noncomputable def cutPrefixH : Hints := { keep := fun i => [], pureF := [31] }
noncomputable def cutPrefixC : Code := Tryz.f53.body.getD .skip
noncomputable def cutPrefixD : FDef := ⟨Tryz.f53, cutPrefixC, cutPrefixH⟩
noncomputable def indexH : Hints := { keep := fun i => if i = 0 then [0, 1, 7, 8] else [], ep := [14], pureF := [31] }
noncomputable def indexC : Code := Tryz.f54.body.getD .skip
noncomputable def indexD : FDef := ⟨Tryz.f54, indexC, indexH⟩
noncomputable def slevelH : Hints := { keep := fun i => [], steal := [35, 45], lp := [2, 3, 25, 28, 31, 34, 40, 41, 44, 50], roots := [(2, 2), (3, 3), (25, 3), (28, 3), (31, 3), (34, 3), (40, 3), (41, 3), (44, 3), (50, 3)], ord := fun i => if i = 17 then List.range 8 else if i = 19 then List.range 8 else [], pureF := [31] }
noncomputable def slevelC : Code := Tryz.f55.body.getD .skip
noncomputable def slevelD : FDef := ⟨Tryz.f55, slevelC, slevelH⟩
noncomputable def nameByteH : Hints := { keep := fun i => [], pureF := [31] }
noncomputable def nameByteC : Code := Tryz.f56.body.getD .skip
noncomputable def nameByteD : FDef := ⟨Tryz.f56, nameByteC, nameByteH⟩
noncomputable def rtakeH : Hints := { keep := fun i => [], pureF := [31] }
noncomputable def rtakeC : Code := Tryz.f57.body.getD .skip
noncomputable def rtakeD : FDef := ⟨Tryz.f57, rtakeC, rtakeH⟩
noncomputable def rfailH : Hints := { keep := fun i => [], pureF := [31] }
noncomputable def rfailC : Code := Tryz.f58.body.getD .skip
noncomputable def rfailD : FDef := ⟨Tryz.f58, rfailC, rfailH⟩
noncomputable def rnextH : Hints := { keep := fun i => [], pureF := [31] }
noncomputable def rnextC : Code := Tryz.f59.body.getD .skip
noncomputable def rnextD : FDef := ⟨Tryz.f59, rnextC, rnextH⟩
noncomputable def rnameH : Hints := { keep := fun i => [], pureF := [31] }
noncomputable def rnameC : Code := Tryz.f60.body.getD .skip
noncomputable def rnameD : FDef := ⟨Tryz.f60, rnameC, rnameH⟩
noncomputable def rpeekH : Hints := { keep := fun i => [], pureF := [31] }
noncomputable def rpeekC : Code := Tryz.f61.body.getD .skip
noncomputable def rpeekD : FDef := ⟨Tryz.f61, rpeekC, rpeekH⟩
noncomputable def numberH : Hints := { keep := fun i => if i = 0 then [0, 3, 4] else [], pureF := [31] }
noncomputable def numberC : Code := Tryz.f62.body.getD .skip
noncomputable def numberD : FDef := ⟨Tryz.f62, numberC, numberH⟩
noncomputable def rtermH : Hints := { keep := fun i => if i = 5 then [0, 2, 11, 12, 13] else if i = 3 then [0, 2, 11, 12] else if i = 0 then [0, 2, 6, 7, 9, 10, 105, 106, 107] else [], steal := [82, 87, 110, 124], lp := [2, 11, 86, 92, 97, 109, 115, 123, 129], ep := [68], roots := [(2, 2), (11, 11), (86, 11), (92, 11), (97, 11), (109, 11), (115, 11), (123, 11), (129, 11)], ord := fun i => if i = 25 then List.range 8 else if i = 31 then List.range 8 else if i = 37 then List.range 8 else [], pureF := [31] }
noncomputable def rtermC : Code := Tryz.f63.body.getD .skip
noncomputable def rtermD : FDef := ⟨Tryz.f63, rtermC, rtermH⟩
noncomputable def levelPartsH : Hints := { keep := fun i => if i = 0 then [1, 2, 5, 6] else [], lp := [2, 9, 20], ep := [23], roots := [(2, 2), (9, 2), (20, 2)], pureF := [31] }
noncomputable def levelPartsC : Code := Tryz.f68.body.getD .skip
noncomputable def levelPartsD : FDef := ⟨Tryz.f68, levelPartsC, levelPartsH⟩
noncomputable def printH : Hints := { keep := fun i => [], esc := [3], lp := [1], roots := [(1, 1)], pureF := [31] }
noncomputable def printC : Code := Tryz.f72.body.getD .skip
noncomputable def printD : FDef := ⟨Tryz.f72, printC, printH⟩
noncomputable def wbyteH : Hints := { keep := fun i => [], steal := [11], pureF := [31] }
noncomputable def wbyteC : Code := Tryz.f73.body.getD .skip
noncomputable def wbyteD : FDef := ⟨Tryz.f73, wbyteC, wbyteH⟩
noncomputable def sameLevelH : Hints := { keep := fun i => if i = 0 then [2, 3, 5] else [], lp := [2, 3, 7, 9, 13, 15, 20, 23, 29, 35, 40], ep := [38, 43], roots := [(2, 2), (3, 3), (7, 2), (9, 3), (13, 2), (15, 3), (20, 2), (23, 3), (29, 2), (35, 2), (40, 3)], ord := fun i => if i = 6 then List.range 12 else [], pureF := [31] }
noncomputable def sameLevelC : Code := Tryz.f74.body.getD .skip
noncomputable def sameLevelD : FDef := ⟨Tryz.f74, sameLevelC, sameLevelH⟩
noncomputable def cutPrefix1H : Hints := { keep := fun i => [], pureF := [31] }
noncomputable def cutPrefix1C : Code := Tryz.f81.body.getD .skip
noncomputable def cutPrefix1D : FDef := ⟨Tryz.f81, cutPrefix1C, cutPrefix1H⟩
noncomputable def isNameH : Hints := { keep := fun i => [], pureF := [31] }
noncomputable def isNameC : Code := Tryz.f82.body.getD .skip
noncomputable def isNameD : FDef := ⟨Tryz.f82, isNameC, isNameH⟩
noncomputable def rlevelH : Hints := { keep := fun i => [], steal := [68, 70, 79], lp := [2, 11, 69, 75, 78, 84], roots := [(2, 2), (11, 11), (69, 11), (75, 11), (78, 11), (84, 11)], ord := fun i => if i = 26 then List.range 8 else if i = 28 then List.range 8 else [], pureF := [31] }
noncomputable def rlevelC : Code := Tryz.f83.body.getD .skip
noncomputable def rlevelD : FDef := ⟨Tryz.f83, rlevelC, rlevelH⟩
noncomputable def writeH : Hints := { keep := fun i => if i = 1 then [0, 16, 17, 18] else [], lp := [3, 5, 6, 9, 15, 37], ep := [11, 20], roots := [(3, 3), (5, 5), (6, 3), (9, 3), (15, 3), (37, 3)], pureF := [31] }
noncomputable def writeC : Code := Tryz.f92.body.getD .skip
noncomputable def writeD : FDef := ⟨Tryz.f92, writeC, writeH⟩
noncomputable def hasPrefixH : Hints := { keep := fun i => [], pureF := [31] }
noncomputable def hasPrefixC : Code := Tryz.f97.body.getD .skip
noncomputable def hasPrefixD : FDef := ⟨Tryz.f97, hasPrefixC, hasPrefixH⟩
noncomputable def FL : List (FuncId × FDef) := [(6, parseFileD), (8, declsFitD), (9, fprintAllD), (10, rprintFileD), (11, fprintD), (12, sameDeclD), (13, rprintDeclD), (16, newScannerD), (17, freadD), (18, parseAnyD), (20, declFitsD), (21, wstringD), (25, tprintD), (26, sameTermD), (28, rprintTermD), (29, sstepD), (30, stakeD), (32, sfailD), (33, snameD), (35, readD), (36, rtokenD), (37, rdeclD), (39, levelsFitD), (43, twriteD), (44, alikeD), (45, rprintD), (46, srunD), (47, sblankD), (48, letterD), (49, snmbD), (50, digitD), (53, cutPrefixD), (54, indexD), (55, slevelD), (56, nameByteD), (57, rtakeD), (58, rfailD), (59, rnextD), (60, rnameD), (61, rpeekD), (62, numberD), (63, rtermD), (68, levelPartsD), (72, printD), (73, wbyteD), (74, sameLevelD), (81, cutPrefix1D), (82, isNameD), (83, rlevelD), (92, writeD), (97, hasPrefixD)]
noncomputable def C : Ctx := { T := look TL, glob := fun g => if g = 1 then some [V.str ⟨#[]⟩, V.str ⟨#[115, 111, 114, 116]⟩, V.str ⟨#[99, 111, 110, 115, 116]⟩, V.str ⟨#[97, 112, 112]⟩, V.str ⟨#[108, 97, 109]⟩, V.str ⟨#[112, 105]⟩, V.str ⟨#[108, 101, 116]⟩] else if g = 0 then some [V.slice 1 9 [[V.str ⟨#[]⟩], [V.str ⟨#[115, 111, 114, 116]⟩], [V.str ⟨#[99, 111, 110, 115, 116]⟩], [V.str ⟨#[97, 112, 112]⟩], [V.str ⟨#[108, 97, 109]⟩], [V.str ⟨#[112, 105]⟩], [V.str ⟨#[108, 101, 116]⟩]]] else if g = 7 then some [V.str ⟨#[]⟩, V.str ⟨#[115]⟩, V.str ⟨#[109, 97, 120]⟩, V.str ⟨#[105, 109, 97, 120]⟩] else if g = 6 then some (Go.Lib.pow10Tab.map fun z => V.int .u64 z) else if g = 3 then some [V.iface 171 V.any] else if g = 2 then some [V.lit Mk.hv] else none, ext := fun f => if f = 24 then some Mk.textA else if f = 27 then some Mk.textA else if f = 34 then some Mk.atoiA else if f = 23 then some Mk.joinA else if f = 31 then some Mk.kindsA else if f = 40 then some (copyCheckS 63) else if f = 22 then some (bldStringE 63 5) else none, fdef := lookF FL }
theorem typesOk : ∀ t i, C.T t = some i → TOk Tryz.prog t i := look_ok (by kernel_rfl)
theorem ctxOk : CtxOk Tryz.prog C where
 mixed := by kernel_rfl
 T := typesOk
 fdef := by
  refine lookF_ok (P := Tryz.prog) (Q := fun f d => Tryz.prog.funcs[f]? = some d.fn ∧ d.fn.body = some d.code ∧ (∀ (args : Array Value) (w : World), (callFunc f args).run Tryz.prog w = .ok (.enter f args) w)) (L := FL) ?_
  intro p hp
  simp only [FL, List.mem_cons, List.not_mem_nil, or_false] at hp
  rcases hp with rfl | rfl | rfl | rfl | rfl | rfl | rfl | rfl | rfl | rfl | rfl | rfl | rfl | rfl | rfl | rfl | rfl | rfl | rfl | rfl | rfl | rfl | rfl | rfl | rfl | rfl | rfl | rfl | rfl | rfl | rfl | rfl | rfl | rfl | rfl | rfl | rfl | rfl | rfl | rfl | rfl | rfl | rfl | rfl | rfl | rfl | rfl | rfl | rfl | rfl | rfl
  ·exact ⟨Tryz.func6, by kernel_rfl, fun args w => Tryz.call6 args w⟩
  ·exact ⟨Tryz.func8, by kernel_rfl, fun args w => Tryz.call8 args w⟩
  ·exact ⟨Tryz.func9, by kernel_rfl, fun args w => Tryz.call9 args w⟩
  ·exact ⟨Tryz.func10, by kernel_rfl, fun args w => Tryz.call10 args w⟩
  ·exact ⟨Tryz.func11, by kernel_rfl, fun args w => Tryz.call11 args w⟩
  ·exact ⟨Tryz.func12, by kernel_rfl, fun args w => Tryz.call12 args w⟩
  ·exact ⟨Tryz.func13, by kernel_rfl, fun args w => Tryz.call13 args w⟩
  ·exact ⟨Tryz.func16, by kernel_rfl, fun args w => Tryz.call16 args w⟩
  ·exact ⟨Tryz.func17, by kernel_rfl, fun args w => Tryz.call17 args w⟩
  ·exact ⟨Tryz.func18, by kernel_rfl, fun args w => Tryz.call18 args w⟩
  ·exact ⟨Tryz.func20, by kernel_rfl, fun args w => Tryz.call20 args w⟩
  ·exact ⟨Tryz.func21, by kernel_rfl, fun args w => Tryz.call21 args w⟩
  ·exact ⟨Tryz.func25, by kernel_rfl, fun args w => Tryz.call25 args w⟩
  ·exact ⟨Tryz.func26, by kernel_rfl, fun args w => Tryz.call26 args w⟩
  ·exact ⟨Tryz.func28, by kernel_rfl, fun args w => Tryz.call28 args w⟩
  ·exact ⟨Tryz.func29, by kernel_rfl, fun args w => Tryz.call29 args w⟩
  ·exact ⟨Tryz.func30, by kernel_rfl, fun args w => Tryz.call30 args w⟩
  ·exact ⟨Tryz.func32, by kernel_rfl, fun args w => Tryz.call32 args w⟩
  ·exact ⟨Tryz.func33, by kernel_rfl, fun args w => Tryz.call33 args w⟩
  ·exact ⟨Tryz.func35, by kernel_rfl, fun args w => Tryz.call35 args w⟩
  ·exact ⟨Tryz.func36, by kernel_rfl, fun args w => Tryz.call36 args w⟩
  ·exact ⟨Tryz.func37, by kernel_rfl, fun args w => Tryz.call37 args w⟩
  ·exact ⟨Tryz.func39, by kernel_rfl, fun args w => Tryz.call39 args w⟩
  ·exact ⟨Tryz.func43, by kernel_rfl, fun args w => Tryz.call43 args w⟩
  ·exact ⟨Tryz.func44, by kernel_rfl, fun args w => Tryz.call44 args w⟩
  ·exact ⟨Tryz.func45, by kernel_rfl, fun args w => Tryz.call45 args w⟩
  ·exact ⟨Tryz.func46, by kernel_rfl, fun args w => Tryz.call46 args w⟩
  ·exact ⟨Tryz.func47, by kernel_rfl, fun args w => Tryz.call47 args w⟩
  ·exact ⟨Tryz.func48, by kernel_rfl, fun args w => Tryz.call48 args w⟩
  ·exact ⟨Tryz.func49, by kernel_rfl, fun args w => Tryz.call49 args w⟩
  ·exact ⟨Tryz.func50, by kernel_rfl, fun args w => Tryz.call50 args w⟩
  ·exact ⟨Tryz.func53, by kernel_rfl, fun args w => Tryz.call53 args w⟩
  ·exact ⟨Tryz.func54, by kernel_rfl, fun args w => Tryz.call54 args w⟩
  ·exact ⟨Tryz.func55, by kernel_rfl, fun args w => Tryz.call55 args w⟩
  ·exact ⟨Tryz.func56, by kernel_rfl, fun args w => Tryz.call56 args w⟩
  ·exact ⟨Tryz.func57, by kernel_rfl, fun args w => Tryz.call57 args w⟩
  ·exact ⟨Tryz.func58, by kernel_rfl, fun args w => Tryz.call58 args w⟩
  ·exact ⟨Tryz.func59, by kernel_rfl, fun args w => Tryz.call59 args w⟩
  ·exact ⟨Tryz.func60, by kernel_rfl, fun args w => Tryz.call60 args w⟩
  ·exact ⟨Tryz.func61, by kernel_rfl, fun args w => Tryz.call61 args w⟩
  ·exact ⟨Tryz.func62, by kernel_rfl, fun args w => Tryz.call62 args w⟩
  ·exact ⟨Tryz.func63, by kernel_rfl, fun args w => Tryz.call63 args w⟩
  ·exact ⟨Tryz.func68, by kernel_rfl, fun args w => Tryz.call68 args w⟩
  ·exact ⟨Tryz.func72, by kernel_rfl, fun args w => Tryz.call72 args w⟩
  ·exact ⟨Tryz.func73, by kernel_rfl, fun args w => Tryz.call73 args w⟩
  ·exact ⟨Tryz.func74, by kernel_rfl, fun args w => Tryz.call74 args w⟩
  ·exact ⟨Tryz.func81, by kernel_rfl, fun args w => Tryz.call81 args w⟩
  ·exact ⟨Tryz.func82, by kernel_rfl, fun args w => Tryz.call82 args w⟩
  ·exact ⟨Tryz.func83, by kernel_rfl, fun args w => Tryz.call83 args w⟩
  ·exact ⟨Tryz.func92, by kernel_rfl, fun args w => Tryz.call92 args w⟩
  ·exact ⟨Tryz.func97, by kernel_rfl, fun args w => Tryz.call97 args w⟩
 pure := by
  refine lookF_ok (P := Tryz.prog) (Q := fun _ d => ∀ g, d.hints.pureF.contains g = true → ∃ s, C.ext g = some s ∧ ∀ args vs, s args [] = some (.ret vs, []) → ∀ σ, s args σ = some (.ret vs, σ)) (L := FL) ?_
  intro p hp
  simp only [FL, List.mem_cons, List.not_mem_nil, or_false] at hp
  rcases hp with rfl | rfl | rfl | rfl | rfl | rfl | rfl | rfl | rfl | rfl | rfl | rfl | rfl | rfl | rfl | rfl | rfl | rfl | rfl | rfl | rfl | rfl | rfl | rfl | rfl | rfl | rfl | rfl | rfl | rfl | rfl | rfl | rfl | rfl | rfl | rfl | rfl | rfl | rfl | rfl | rfl | rfl | rfl | rfl | rfl | rfl | rfl | rfl | rfl | rfl | rfl
  ·exact Mk.kinds_pure (by kernel_rfl)
  ·exact Mk.kinds_pure (by kernel_rfl)
  ·exact Mk.kinds_pure (by kernel_rfl)
  ·exact Mk.kinds_pure (by kernel_rfl)
  ·exact Mk.kinds_pure (by kernel_rfl)
  ·exact Mk.kinds_pure (by kernel_rfl)
  ·exact Mk.kinds_pure (by kernel_rfl)
  ·exact Mk.kinds_pure (by kernel_rfl)
  ·exact Mk.kinds_pure (by kernel_rfl)
  ·exact Mk.kinds_pure (by kernel_rfl)
  ·exact Mk.kinds_pure (by kernel_rfl)
  ·exact Mk.kinds_pure (by kernel_rfl)
  ·exact Mk.kinds_pure (by kernel_rfl)
  ·exact Mk.kinds_pure (by kernel_rfl)
  ·exact Mk.kinds_pure (by kernel_rfl)
  ·exact Mk.kinds_pure (by kernel_rfl)
  ·exact Mk.kinds_pure (by kernel_rfl)
  ·exact Mk.kinds_pure (by kernel_rfl)
  ·exact Mk.kinds_pure (by kernel_rfl)
  ·exact Mk.kinds_pure (by kernel_rfl)
  ·exact Mk.kinds_pure (by kernel_rfl)
  ·exact Mk.kinds_pure (by kernel_rfl)
  ·exact Mk.kinds_pure (by kernel_rfl)
  ·exact Mk.kinds_pure (by kernel_rfl)
  ·exact Mk.kinds_pure (by kernel_rfl)
  ·exact Mk.kinds_pure (by kernel_rfl)
  ·exact Mk.kinds_pure (by kernel_rfl)
  ·exact Mk.kinds_pure (by kernel_rfl)
  ·exact Mk.kinds_pure (by kernel_rfl)
  ·exact Mk.kinds_pure (by kernel_rfl)
  ·exact Mk.kinds_pure (by kernel_rfl)
  ·exact Mk.kinds_pure (by kernel_rfl)
  ·exact Mk.kinds_pure (by kernel_rfl)
  ·exact Mk.kinds_pure (by kernel_rfl)
  ·exact Mk.kinds_pure (by kernel_rfl)
  ·exact Mk.kinds_pure (by kernel_rfl)
  ·exact Mk.kinds_pure (by kernel_rfl)
  ·exact Mk.kinds_pure (by kernel_rfl)
  ·exact Mk.kinds_pure (by kernel_rfl)
  ·exact Mk.kinds_pure (by kernel_rfl)
  ·exact Mk.kinds_pure (by kernel_rfl)
  ·exact Mk.kinds_pure (by kernel_rfl)
  ·exact Mk.kinds_pure (by kernel_rfl)
  ·exact Mk.kinds_pure (by kernel_rfl)
  ·exact Mk.kinds_pure (by kernel_rfl)
  ·exact Mk.kinds_pure (by kernel_rfl)
  ·exact Mk.kinds_pure (by kernel_rfl)
  ·exact Mk.kinds_pure (by kernel_rfl)
  ·exact Mk.kinds_pure (by kernel_rfl)
  ·exact Mk.kinds_pure (by kernel_rfl)
  ·exact Mk.kinds_pure (by kernel_rfl)
end Go.Ab.Mk
end
section
set_option maxRecDepth 100000
namespace Go.Ab.Mk
open Go.Proofs Go.Ab
open List (getD)
open IntKind (wrap)
noncomputable def parseFileF (call : CallF) (b : ByteArray) (σ : Sto) : Option Res :=
 bif (decide ((b.size : Int) > (200000 : Int))) then
 some (.ret [(V.slice 15 47 [], true), ((V.agg [(V.int .i64 (2 : Int)), (V.int .i64 (0 : Int))]), false)], σ)
 else
 callK call 18 [(V.str b, false)] σ 2 (fun a c =>
 (grd (V.fits (getD a 1 cellD).1 true 2)).bind fun _ =>
 some (.ret [((getD a 0 cellD).1, false), (V.agg [V.cell (getD a 1 cellD).1 0, V.cell (getD a 1 cellD).1 1], false)], c)) pnK
noncomputable def parseFile (call : CallF) (n : Nat) (a : ByteArray) (σ : Sto) : Option Res := parseFileF call a σ
theorem parseFile_eqF (call : CallF) (n : Nat) (a : ByteArray) (σ : Sto) : afun C parseFileD call n [(V.str a, false)] σ =
  parseFileF call a σ := by kernel_rfl
theorem parseFile_eq (call : CallF) (n : Nat) (a : ByteArray) (σ : Sto) : afun C parseFileD call n [(V.str a, false)] σ = parseFile call n a σ := parseFile_eqF call n a σ
theorem parseFile_lim {n : Nat} {a : ByteArray} {b0 : Bool} {σ : Sto} {r : Res} (h : parseFile (lim C) n a σ = some r) : lim C 6 [(V.str a, b0)] σ = some r :=
 lim_of (d := parseFileD) (by kernel_rfl) (by kernel_rfl) n (show afun C parseFileD (lim C) n [(V.str a, false)] σ = some r from (parseFile_eq (lim C) n a σ).trans h)
noncomputable def declsFitk0 : List Nat := [0, 3, 4]
noncomputable def declsFits0 (call : CallF) (rec0 : LL → V → Int → RR) (b : LL) (c : V) (a : Int) (σ : Sto) : Option Res :=
 bif (decide (a < (b.length : Int))) then
 (V.asBool c).bind fun b1 =>
 bif b1 then
 (grd (decide (0 ≤ a) && decide (a < b.length))).bind fun _ =>
 callK call 20 [(V.agg [(getD (getD b a.toNat []) 0 V.any), (getD (getD b a.toNat []) 1 V.any), (getD (getD b a.toNat []) 2 V.any), (getD (getD b a.toNat []) 3 V.any), (getD (getD b a.toNat []) 4 V.any), (getD (getD b a.toNat []) 5 V.any), (getD (getD b a.toNat []) 6 V.any), (getD (getD b a.toNat []) 7 V.any), (getD (getD b a.toNat []) 8 V.any), (getD (getD b a.toNat []) 9 V.any), (getD (getD b a.toNat []) 10 V.any), (getD (getD b a.toNat []) 11 V.any), (getD (getD b a.toNat []) 12 V.any), (getD (getD b a.toNat []) 13 V.any), (getD (getD b a.toNat []) 14 V.any)], false)] σ 1 (fun d e =>
 rec0 b (getD d 0 cellD).1 (wrap .i64 (a + (1 : Int))) e) pnK
 else
 some (.ret [(c, false)], σ)
 else
 some (.ret [(c, false)], σ)
noncomputable def declsFitl0 (call : CallF) (n : Nat) : Nat → LL → V → Int → RR
 | 0 => fun _ _ _ _ => none
 | m + 1 => declsFits0 call (declsFitl0 call n m)
noncomputable def declsFitt0 (a : LL) (b : V) (c : Int) (σ : Sto) : St := ⟨[.val (V.slice 15 47 a) false, .dead, .dead, .val b false, .val (V.int .i64 c) false] ++ dd 15 [], nn 20 [], σ⟩
noncomputable def declsFitF (call : CallF) (L0 : LL → V → Int → RR) (a : LL) (σ : Sto) : Option Res :=
 L0 a (V.bool true) (0 : Int) σ
noncomputable def declsFit (call : CallF) (n : Nat) (a : LL) (σ : Sto) : Option Res := declsFitF call (declsFitl0 call n n) a σ
theorem declsFits0_eq (call : CallF) (n : Nat) (F0 : St → Option Res) (a : LL) (b : V) (c : Int) (σ : Sto) :
  aexec C declsFitH call n (cp [0,0,1,0,1,1] declsFitC) 0 (declsFitt0 a b c σ) (kloop declsFitk0 F0 (kblk 0 (kseq (fun st' => aexec C declsFitH call n (cp [1,1,1] declsFitC) 0 st' (kfin C declsFitD)) (kfin C declsFitD)))) =
  declsFits0 call (fun a b c σ => F0 (declsFitt0 a b c σ)) a b c σ := by kernel_rfl
theorem declsFitl0_eq (call : CallF) (n : Nat) : ∀ (m : Nat) (a : LL) (b : V) (c : Int) (σ : Sto),
  aloop (fun st K => aexec C declsFitH call n (cp [0,0,1,0,1,1] declsFitC) 0 st K) declsFitk0 m (declsFitt0 a b c σ) (kblk 0 (kseq (fun st' => aexec C declsFitH call n (cp [1,1,1] declsFitC) 0 st' (kfin C declsFitD)) (kfin C declsFitD))) = declsFitl0 call n m a b c σ
 | 0, a, b, c, σ => rfl
 | m + 1, a, b, c, σ => by
  rw [aloop, declsFits0_eq]
  simp only [declsFitl0_eq call n m]
  rfl
theorem declsFit_eqF (call : CallF) (n : Nat) (a : LL) (σ : Sto) : afun C declsFitD call n [(V.slice 15 47 a, false)] σ =
  declsFitF call (fun a b c σ => aloop (fun st K => aexec C declsFitH call n (cp [0,0,1,0,1,1] declsFitC) 0 st K) declsFitk0 n (declsFitt0 a b c σ) (kblk 0 (kseq (fun st' => aexec C declsFitH call n (cp [1,1,1] declsFitC) 0 st' (kfin C declsFitD)) (kfin C declsFitD)))) a σ := by kernel_rfl
theorem declsFit_eq (call : CallF) (n : Nat) (a : LL) (σ : Sto) : afun C declsFitD call n [(V.slice 15 47 a, false)] σ = declsFit call n a σ := by
 rw [declsFit_eqF]
 simp only [declsFitl0_eq]
 rfl
theorem declsFit_lim {n : Nat} {a : LL} {b0 : Bool} {σ : Sto} {r : Res} (h : declsFit (lim C) n a σ = some r) : lim C 8 [(V.slice 15 47 a, b0)] σ = some r :=
 lim_of (d := declsFitD) (by kernel_rfl) (by kernel_rfl) n (show afun C declsFitD (lim C) n [(V.slice 15 47 a, false)] σ = some r from (declsFit_eq (lim C) n a σ).trans h)
noncomputable def fprintAllk0 : List Nat := [3, 6, 7, 8]
noncomputable def fprintAlls0 (call : CallF) (rec0 : Nat → LL → Int → Int → RR) (c : Nat) (b : LL) (d a : Int) (σ : Sto) : Option Res :=
 bif (decide (a < d)) then
 (grd (decide (0 ≤ a) && decide (a < b.length))).bind fun _ =>
 callK call 11 [(V.agg [(getD (getD b a.toNat []) 0 V.any), (getD (getD b a.toNat []) 1 V.any), (getD (getD b a.toNat []) 2 V.any), (getD (getD b a.toNat []) 3 V.any), (getD (getD b a.toNat []) 4 V.any), (getD (getD b a.toNat []) 5 V.any), (getD (getD b a.toNat []) 6 V.any), (getD (getD b a.toNat []) 7 V.any), (getD (getD b a.toNat []) 8 V.any), (getD (getD b a.toNat []) 9 V.any), (getD (getD b a.toNat []) 10 V.any), (getD (getD b a.toNat []) 11 V.any), (getD (getD b a.toNat []) 12 V.any), (getD (getD b a.toNat []) 13 V.any), (getD (getD b a.toNat []) 14 V.any)], false)] σ 1 (fun e f =>
 (V.asStr (getD e 0 cellD).1).bind fun s4 =>
 (grd (strRoom s4 (ByteArray.mk #[10]))).bind fun _ =>
 callK call 21 [(V.ptr 63 c 0, false), (V.str (s4 ++ (ByteArray.mk #[10])), false)] f 2 (fun j g =>
 rec0 c b d (wrap .i64 (a + (1 : Int))) g) pnK) pnK
 else
 callK call 22 [(V.ptr 63 c 0, false)] σ 1 (fun h i =>
 some (.ret [((getD h 0 cellD).1, false)], i)) pnK
noncomputable def fprintAlll0 (call : CallF) (n : Nat) : Nat → Nat → LL → Int → Int → RR
 | 0 => fun _ _ _ _ _ => none
 | m + 1 => fprintAlls0 call (fprintAlll0 call n m)
noncomputable def fprintAllt0 (a : Nat) (b : LL) (c d : Int) (σ : Sto) : St := ⟨[.dead, .dead, .dead, .val (V.ptr 63 a 0) false, .dead, .dead, .val (V.slice 15 47 b) false, .val (V.int .i64 c) false, .val (V.int .i64 d) false] ++ dd 9 [], nn 18 [], σ⟩
noncomputable def fprintAllF (call : CallF) (L0 : Nat → LL → Int → Int → RR) (a : LL) (σ : Sto) : Option Res :=
 L0 (List.length σ) a (a.length : Int) (0 : Int) (σ ++ [[(V.nilp, false), (V.slice 1 5 [], true)]])
noncomputable def fprintAll (call : CallF) (n : Nat) (a : LL) (σ : Sto) : Option Res := fprintAllF call (fprintAlll0 call n n) a σ
theorem fprintAlls0_eq (call : CallF) (n : Nat) (F0 : St → Option Res) (a : Nat) (b : LL) (c d : Int) (σ : Sto) :
  aexec C fprintAllH call n (cp [0,0,1,0,1,1] fprintAllC) 0 (fprintAllt0 a b c d σ) (kloop fprintAllk0 F0 (kblk 0 (kseq (fun st' => aexec C fprintAllH call n (cp [1,1,1] fprintAllC) 0 st' (kfin C fprintAllD)) (kfin C fprintAllD)))) =
  fprintAlls0 call (fun a b c d σ => F0 (fprintAllt0 a b c d σ)) a b c d σ := by kernel_rfl
theorem fprintAlll0_eq (call : CallF) (n : Nat) : ∀ (m a : Nat) (b : LL) (c d : Int) (σ : Sto),
  aloop (fun st K => aexec C fprintAllH call n (cp [0,0,1,0,1,1] fprintAllC) 0 st K) fprintAllk0 m (fprintAllt0 a b c d σ) (kblk 0 (kseq (fun st' => aexec C fprintAllH call n (cp [1,1,1] fprintAllC) 0 st' (kfin C fprintAllD)) (kfin C fprintAllD))) = fprintAlll0 call n m a b c d σ
 | 0, a, b, c, d, σ => rfl
 | m + 1, a, b, c, d, σ => by
  rw [aloop, fprintAlls0_eq]
  simp only [fprintAlll0_eq call n m]
  rfl
theorem fprintAll_eqF (call : CallF) (n : Nat) (a : LL) (σ : Sto) : afun C fprintAllD call n [(V.slice 15 47 a, false)] σ =
  fprintAllF call (fun b c d e σ => aloop (fun st K => aexec C fprintAllH call n (cp [0,0,1,0,1,1] fprintAllC) 0 st K) fprintAllk0 n (fprintAllt0 b c d e σ) (kblk 0 (kseq (fun st' => aexec C fprintAllH call n (cp [1,1,1] fprintAllC) 0 st' (kfin C fprintAllD)) (kfin C fprintAllD)))) a σ := by kernel_rfl
theorem fprintAll_eq (call : CallF) (n : Nat) (a : LL) (σ : Sto) : afun C fprintAllD call n [(V.slice 15 47 a, false)] σ = fprintAll call n a σ := by
 rw [fprintAll_eqF]
 simp only [fprintAlll0_eq]
 rfl
theorem fprintAll_lim {n : Nat} {a : LL} {b0 : Bool} {σ : Sto} {r : Res} (h : fprintAll (lim C) n a σ = some r) : lim C 9 [(V.slice 15 47 a, b0)] σ = some r :=
 lim_of (d := fprintAllD) (by kernel_rfl) (by kernel_rfl) n (show afun C fprintAllD (lim C) n [(V.slice 15 47 a, false)] σ = some r from (fprintAll_eq (lim C) n a σ).trans h)
noncomputable def rprintFilek0 : List Nat := [0, 3, 4]
noncomputable def rprintFiles0 (call : CallF) (rec0 : LL → ByteArray → Int → RR) (b : LL) (c : ByteArray) (a : Int) (σ : Sto) : Option Res :=
 bif (decide (a < (b.length : Int))) then
 (grd (decide (0 ≤ a) && decide (a < b.length))).bind fun _ =>
 callK call 13 [(V.agg [(getD (getD b a.toNat []) 0 V.any), (getD (getD b a.toNat []) 1 V.any), (getD (getD b a.toNat []) 2 V.any), (getD (getD b a.toNat []) 3 V.any), (getD (getD b a.toNat []) 4 V.any), (getD (getD b a.toNat []) 5 V.any), (getD (getD b a.toNat []) 6 V.any), (getD (getD b a.toNat []) 7 V.any), (getD (getD b a.toNat []) 8 V.any), (getD (getD b a.toNat []) 9 V.any), (getD (getD b a.toNat []) 10 V.any), (getD (getD b a.toNat []) 11 V.any), (getD (getD b a.toNat []) 12 V.any), (getD (getD b a.toNat []) 13 V.any), (getD (getD b a.toNat []) 14 V.any)], false)] σ 1 (fun d e =>
 (V.asStr (getD d 0 cellD).1).bind fun s4 =>
 (grd (strRoom c s4)).bind fun _ =>
 (grd (strRoom (c ++ s4) (ByteArray.mk #[10]))).bind fun _ =>
 rec0 b ((c ++ s4) ++ (ByteArray.mk #[10])) (wrap .i64 (a + (1 : Int))) e) pnK
 else
 some (.ret [(V.str c, false)], σ)
noncomputable def rprintFilel0 (call : CallF) (n : Nat) : Nat → LL → ByteArray → Int → RR
 | 0 => fun _ _ _ _ => none
 | m + 1 => rprintFiles0 call (rprintFilel0 call n m)
noncomputable def rprintFilet0 (a : LL) (b : ByteArray) (c : Int) (σ : Sto) : St := ⟨[.val (V.slice 15 47 a) false, .dead, .dead, .val (V.str b) false, .val (V.int .i64 c) false] ++ dd 15 [], nn 20 [], σ⟩
noncomputable def rprintFileF (call : CallF) (L0 : LL → ByteArray → Int → RR) (a : LL) (σ : Sto) : Option Res :=
 L0 a (ByteArray.mk #[]) (0 : Int) σ
noncomputable def rprintFile (call : CallF) (n : Nat) (a : LL) (σ : Sto) : Option Res := rprintFileF call (rprintFilel0 call n n) a σ
theorem rprintFiles0_eq (call : CallF) (n : Nat) (F0 : St → Option Res) (a : LL) (b : ByteArray) (c : Int) (σ : Sto) :
  aexec C rprintFileH call n (cp [0,0,1,0,1,1] rprintFileC) 0 (rprintFilet0 a b c σ) (kloop rprintFilek0 F0 (kblk 0 (kseq (fun st' => aexec C rprintFileH call n (cp [1,1,1] rprintFileC) 0 st' (kfin C rprintFileD)) (kfin C rprintFileD)))) =
  rprintFiles0 call (fun a b c σ => F0 (rprintFilet0 a b c σ)) a b c σ := by kernel_rfl
theorem rprintFilel0_eq (call : CallF) (n : Nat) : ∀ (m : Nat) (a : LL) (b : ByteArray) (c : Int) (σ : Sto),
  aloop (fun st K => aexec C rprintFileH call n (cp [0,0,1,0,1,1] rprintFileC) 0 st K) rprintFilek0 m (rprintFilet0 a b c σ) (kblk 0 (kseq (fun st' => aexec C rprintFileH call n (cp [1,1,1] rprintFileC) 0 st' (kfin C rprintFileD)) (kfin C rprintFileD))) = rprintFilel0 call n m a b c σ
 | 0, a, b, c, σ => rfl
 | m + 1, a, b, c, σ => by
  rw [aloop, rprintFiles0_eq]
  simp only [rprintFilel0_eq call n m]
  rfl
theorem rprintFile_eqF (call : CallF) (n : Nat) (a : LL) (σ : Sto) : afun C rprintFileD call n [(V.slice 15 47 a, false)] σ =
  rprintFileF call (fun a b c σ => aloop (fun st K => aexec C rprintFileH call n (cp [0,0,1,0,1,1] rprintFileC) 0 st K) rprintFilek0 n (rprintFilet0 a b c σ) (kblk 0 (kseq (fun st' => aexec C rprintFileH call n (cp [1,1,1] rprintFileC) 0 st' (kfin C rprintFileD)) (kfin C rprintFileD)))) a σ := by kernel_rfl
theorem rprintFile_eq (call : CallF) (n : Nat) (a : LL) (σ : Sto) : afun C rprintFileD call n [(V.slice 15 47 a, false)] σ = rprintFile call n a σ := by
 rw [rprintFile_eqF]
 simp only [rprintFilel0_eq]
 rfl
theorem rprintFile_lim {n : Nat} {a : LL} {b0 : Bool} {σ : Sto} {r : Res} (h : rprintFile (lim C) n a σ = some r) : lim C 10 [(V.slice 15 47 a, b0)] σ = some r :=
 lim_of (d := rprintFileD) (by kernel_rfl) (by kernel_rfl) n (show afun C rprintFileD (lim C) n [(V.slice 15 47 a, false)] σ = some r from (rprintFile_eq (lim C) n a σ).trans h)
noncomputable def fprintk0 : List Nat := [3, 51, 52, 53]
noncomputable def fprints0 (call : CallF) (rec0 : LL → LL → Int → Int → RR) (c b : LL) (d a : Int) (σ : Sto) : Option Res :=
 bif (decide (a < d)) then
 (grd (decide (0 ≤ a) && decide (a < b.length))).bind fun _ =>
 (V.asStr (getD (getD b a.toNat []) 0 V.any)).bind fun s1 =>
 (grd (strRoom (ByteArray.mk #[40, 99, 116, 111, 114, 32]) s1)).bind fun _ =>
 (grd (strRoom ((ByteArray.mk #[40, 99, 116, 111, 114, 32]) ++ s1) (ByteArray.mk #[32]))).bind fun _ =>
 callK call 25 [(V.agg [(getD (getD b a.toNat []) 1 V.any), (getD (getD b a.toNat []) 2 V.any), (getD (getD b a.toNat []) 3 V.any), (getD (getD b a.toNat []) 4 V.any), (getD (getD b a.toNat []) 5 V.any)], false)] σ 1 (fun e f =>
 (V.asStr (getD e 0 cellD).1).bind fun s5 =>
 (grd (strRoom (((ByteArray.mk #[40, 99, 116, 111, 114, 32]) ++ s1) ++ (ByteArray.mk #[32])) s5)).bind fun _ =>
 (grd (strRoom ((((ByteArray.mk #[40, 99, 116, 111, 114, 32]) ++ s1) ++ (ByteArray.mk #[32])) ++ s5) (ByteArray.mk #[41]))).bind fun _ =>
 (grd (room (List.length c + 1))).bind fun _ =>
 rec0 (c ++ [[V.str (((((ByteArray.mk #[40, 99, 116, 111, 114, 32]) ++ s1) ++ (ByteArray.mk #[32])) ++ s5) ++ (ByteArray.mk #[41]))]]) b d (wrap .i64 (a + (1 : Int))) f) pnK
 else
 callK call 23 [(V.slice 1 9 c, false), (V.str ⟨#[32]⟩, false)] σ 1 (fun g h =>
 (V.asStr (getD g 0 cellD).1).bind fun s9 =>
 (grd (strRoom (ByteArray.mk #[40]) s9)).bind fun _ =>
 (grd (strRoom ((ByteArray.mk #[40]) ++ s9) (ByteArray.mk #[41]))).bind fun _ =>
 some (.ret [(V.str (((ByteArray.mk #[40]) ++ s9) ++ (ByteArray.mk #[41])), false)], h)) pnK
noncomputable def fprintl0 (call : CallF) (n : Nat) : Nat → LL → LL → Int → Int → RR
 | 0 => fun _ _ _ _ _ => none
 | m + 1 => fprints0 call (fprintl0 call n m)
noncomputable def fprintt0 (a b : LL) (c d : Int) (σ : Sto) : St := ⟨[.dead, .dead, .dead, .val (V.slice 1 9 a) true] ++ dd 47 ([.val (V.slice 6 71 b) false, .val (V.int .i64 c) false, .val (V.int .i64 d) false] ++ dd 20 []), nn 74 [], σ⟩
noncomputable def fprintF (call : CallF) (L0 : LL → LL → Int → Int → RR) (a : Int) (b : ByteArray) (y : LL) (g h : Int) (i : ByteArray) (j k : LL) (o p : Int) (q : ByteArray) (r s : LL) (z : Int) (c : LL) (σ : Sto) : Option Res :=
 (grd (decide (0 ≤ a) && decide (a ≤ (wrap .i64 (a + (1 : Int)))) && decide ((wrap .i64 (a + (1 : Int))) ≤ [[V.str ⟨#[]⟩], [V.str ⟨#[97, 120, 105, 111, 109]⟩], [V.str ⟨#[100, 101, 102]⟩], [V.str ⟨#[105, 110, 100, 117, 99, 116, 105, 118, 101]⟩]].length))).bind fun _ =>
 (grd (decide ((wrap .i64 (a + (1 : Int))) = (wrap .i64 (a + (1 : Int)))))).bind fun _ =>
 callK call 23 [(V.slice 1 9 y, false), (V.str ⟨#[32]⟩, false)] σ 1 (fun a0 t =>
 (V.asStr (getD a0 0 cellD).1).bind fun s4 =>
 (grd (strRoom (ByteArray.mk #[40]) s4)).bind fun _ =>
 (grd (strRoom ((ByteArray.mk #[40]) ++ s4) (ByteArray.mk #[41]))).bind fun _ =>
 (grd (room (List.length (([[V.str ⟨#[]⟩], [V.str ⟨#[97, 120, 105, 111, 109]⟩], [V.str ⟨#[100, 101, 102]⟩], [V.str ⟨#[105, 110, 100, 117, 99, 116, 105, 118, 101]⟩]].take (Int.toNat (wrap .i64 (a + (1 : Int))))).drop a.toNat) + 2))).bind fun _ =>
 bif (a == (3 : Int)) then
 callK call 24 [(V.int .i64 z, false)] t 1 (fun d a1 =>
 (grd ((V.fits (getD d 0 cellD).1 false 1 && true))).bind fun _ =>
 (grd (room (List.length ((([[V.str ⟨#[]⟩], [V.str ⟨#[97, 120, 105, 111, 109]⟩], [V.str ⟨#[100, 101, 102]⟩], [V.str ⟨#[105, 110, 100, 117, 99, 116, 105, 118, 101]⟩]].take (Int.toNat (wrap .i64 (a + (1 : Int))))).drop a.toNat) ++ [[V.str b], [V.str (((ByteArray.mk #[40]) ++ s4) ++ (ByteArray.mk #[41]))]]) + 1))).bind fun _ =>
 callK call 25 [(V.agg [V.int .i64 g, V.int .i64 h, V.str i, V.slice 3 92 j, V.slice 5 44 k], false)] a1 1 (fun e u =>
 (grd ((V.fits (getD e 0 cellD).1 false 1 && true))).bind fun _ =>
 (grd (room (List.length (((([[V.str ⟨#[]⟩], [V.str ⟨#[97, 120, 105, 111, 109]⟩], [V.str ⟨#[100, 101, 102]⟩], [V.str ⟨#[105, 110, 100, 117, 99, 116, 105, 118, 101]⟩]].take (Int.toNat (wrap .i64 (a + (1 : Int))))).drop a.toNat) ++ [[V.str b], [V.str (((ByteArray.mk #[40]) ++ s4) ++ (ByteArray.mk #[41]))]]) ++ [[(getD d 0 cellD).1]]) + 1))).bind fun _ =>
 bif (a == (2 : Int)) then
 callK call 25 [(V.agg [V.int .i64 o, V.int .i64 p, V.str q, V.slice 3 92 r, V.slice 5 44 s], false)] u 1 (fun v a2 =>
 (grd ((V.fits (getD v 0 cellD).1 false 1 && true))).bind fun _ =>
 (grd (room (List.length ((((([[V.str ⟨#[]⟩], [V.str ⟨#[97, 120, 105, 111, 109]⟩], [V.str ⟨#[100, 101, 102]⟩], [V.str ⟨#[105, 110, 100, 117, 99, 116, 105, 118, 101]⟩]].take (Int.toNat (wrap .i64 (a + (1 : Int))))).drop a.toNat) ++ [[V.str b], [V.str (((ByteArray.mk #[40]) ++ s4) ++ (ByteArray.mk #[41]))]]) ++ [[(getD d 0 cellD).1]]) ++ [[(getD e 0 cellD).1]]) + 1))).bind fun _ =>
 L0 (((((([[V.str ⟨#[]⟩], [V.str ⟨#[97, 120, 105, 111, 109]⟩], [V.str ⟨#[100, 101, 102]⟩], [V.str ⟨#[105, 110, 100, 117, 99, 116, 105, 118, 101]⟩]].take (Int.toNat (wrap .i64 (a + (1 : Int))))).drop a.toNat) ++ [[V.str b], [V.str (((ByteArray.mk #[40]) ++ s4) ++ (ByteArray.mk #[41]))]]) ++ [[(getD d 0 cellD).1]]) ++ [[(getD e 0 cellD).1]]) ++ [[(getD v 0 cellD).1]]) c (c.length : Int) (0 : Int) a2) pnK
 else
 L0 ((((([[V.str ⟨#[]⟩], [V.str ⟨#[97, 120, 105, 111, 109]⟩], [V.str ⟨#[100, 101, 102]⟩], [V.str ⟨#[105, 110, 100, 117, 99, 116, 105, 118, 101]⟩]].take (Int.toNat (wrap .i64 (a + (1 : Int))))).drop a.toNat) ++ [[V.str b], [V.str (((ByteArray.mk #[40]) ++ s4) ++ (ByteArray.mk #[41]))]]) ++ [[(getD d 0 cellD).1]]) ++ [[(getD e 0 cellD).1]]) c (c.length : Int) (0 : Int) u) pnK) pnK
 else
 callK call 25 [(V.agg [V.int .i64 g, V.int .i64 h, V.str i, V.slice 3 92 j, V.slice 5 44 k], false)] t 1 (fun f w =>
 (grd ((V.fits (getD f 0 cellD).1 false 1 && true))).bind fun _ =>
 (grd (room (List.length ((([[V.str ⟨#[]⟩], [V.str ⟨#[97, 120, 105, 111, 109]⟩], [V.str ⟨#[100, 101, 102]⟩], [V.str ⟨#[105, 110, 100, 117, 99, 116, 105, 118, 101]⟩]].take (Int.toNat (wrap .i64 (a + (1 : Int))))).drop a.toNat) ++ [[V.str b], [V.str (((ByteArray.mk #[40]) ++ s4) ++ (ByteArray.mk #[41]))]]) + 1))).bind fun _ =>
 bif (a == (2 : Int)) then
 callK call 25 [(V.agg [V.int .i64 o, V.int .i64 p, V.str q, V.slice 3 92 r, V.slice 5 44 s], false)] w 1 (fun x a3 =>
 (grd ((V.fits (getD x 0 cellD).1 false 1 && true))).bind fun _ =>
 (grd (room (List.length (((([[V.str ⟨#[]⟩], [V.str ⟨#[97, 120, 105, 111, 109]⟩], [V.str ⟨#[100, 101, 102]⟩], [V.str ⟨#[105, 110, 100, 117, 99, 116, 105, 118, 101]⟩]].take (Int.toNat (wrap .i64 (a + (1 : Int))))).drop a.toNat) ++ [[V.str b], [V.str (((ByteArray.mk #[40]) ++ s4) ++ (ByteArray.mk #[41]))]]) ++ [[(getD f 0 cellD).1]]) + 1))).bind fun _ =>
 L0 ((((([[V.str ⟨#[]⟩], [V.str ⟨#[97, 120, 105, 111, 109]⟩], [V.str ⟨#[100, 101, 102]⟩], [V.str ⟨#[105, 110, 100, 117, 99, 116, 105, 118, 101]⟩]].take (Int.toNat (wrap .i64 (a + (1 : Int))))).drop a.toNat) ++ [[V.str b], [V.str (((ByteArray.mk #[40]) ++ s4) ++ (ByteArray.mk #[41]))]]) ++ [[(getD f 0 cellD).1]]) ++ [[(getD x 0 cellD).1]]) c (c.length : Int) (0 : Int) a3) pnK
 else
 L0 (((([[V.str ⟨#[]⟩], [V.str ⟨#[97, 120, 105, 111, 109]⟩], [V.str ⟨#[100, 101, 102]⟩], [V.str ⟨#[105, 110, 100, 117, 99, 116, 105, 118, 101]⟩]].take (Int.toNat (wrap .i64 (a + (1 : Int))))).drop a.toNat) ++ [[V.str b], [V.str (((ByteArray.mk #[40]) ++ s4) ++ (ByteArray.mk #[41]))]]) ++ [[(getD f 0 cellD).1]]) c (c.length : Int) (0 : Int) w) pnK) pnK
noncomputable def fprint (call : CallF) (n : Nat) (a : Int) (b : ByteArray) (c : LL) (d e : Int) (f : ByteArray) (g h : LL) (i j : Int) (k : ByteArray) (o p : LL) (q : Int) (r : LL) (σ : Sto) : Option Res := fprintF call (fprintl0 call n n) a b c d e f g h i j k o p q r σ
theorem fprints0_eq (call : CallF) (n : Nat) (F0 : St → Option Res) (a b : LL) (c d : Int) (σ : Sto) :
  aexec C fprintH call n (cp [0,0,1,0,1,1,1,1,1,1] fprintC) 0 (fprintt0 a b c d σ) (kloop fprintk0 F0 (kblk 0 (kseq (fun st' => aexec C fprintH call n (cp [1,1,1,1,1,1,1] fprintC) 0 st' (kfin C fprintD)) (kfin C fprintD)))) =
  fprints0 call (fun a b c d σ => F0 (fprintt0 a b c d σ)) a b c d σ := by kernel_rfl
theorem fprintl0_eq (call : CallF) (n : Nat) : ∀ (m : Nat) (a b : LL) (c d : Int) (σ : Sto),
  aloop (fun st K => aexec C fprintH call n (cp [0,0,1,0,1,1,1,1,1,1] fprintC) 0 st K) fprintk0 m (fprintt0 a b c d σ) (kblk 0 (kseq (fun st' => aexec C fprintH call n (cp [1,1,1,1,1,1,1] fprintC) 0 st' (kfin C fprintD)) (kfin C fprintD))) = fprintl0 call n m a b c d σ
 | 0, a, b, c, d, σ => rfl
 | m + 1, a, b, c, d, σ => by
  rw [aloop, fprints0_eq]
  simp only [fprintl0_eq call n m]
  rfl
theorem fprint_eqF (call : CallF) (n : Nat) (a : Int) (b : ByteArray) (c : LL) (d e : Int) (f : ByteArray) (g h : LL) (i j : Int) (k : ByteArray) (o p : LL) (q : Int) (r : LL) (σ : Sto) : afun C fprintD call n [(V.agg [V.int .i64 a, V.str b, V.slice 1 9 c, V.int .i64 d, V.int .i64 e, V.str f, V.slice 3 92 g, V.slice 5 44 h, V.int .i64 i, V.int .i64 j, V.str k, V.slice 3 92 o, V.slice 5 44 p, V.int .i64 q, V.slice 6 71 r], false)] σ =
  fprintF call (fun s t u v σ => aloop (fun st K => aexec C fprintH call n (cp [0,0,1,0,1,1,1,1,1,1] fprintC) 0 st K) fprintk0 n (fprintt0 s t u v σ) (kblk 0 (kseq (fun st' => aexec C fprintH call n (cp [1,1,1,1,1,1,1] fprintC) 0 st' (kfin C fprintD)) (kfin C fprintD)))) a b c d e f g h i j k o p q r σ := by kernel_rfl
theorem fprint_eq (call : CallF) (n : Nat) (a : Int) (b : ByteArray) (c : LL) (d e : Int) (f : ByteArray) (g h : LL) (i j : Int) (k : ByteArray) (o p : LL) (q : Int) (r : LL) (σ : Sto) : afun C fprintD call n [(V.agg [V.int .i64 a, V.str b, V.slice 1 9 c, V.int .i64 d, V.int .i64 e, V.str f, V.slice 3 92 g, V.slice 5 44 h, V.int .i64 i, V.int .i64 j, V.str k, V.slice 3 92 o, V.slice 5 44 p, V.int .i64 q, V.slice 6 71 r], false)] σ = fprint call n a b c d e f g h i j k o p q r σ := by
 rw [fprint_eqF]
 simp only [fprintl0_eq]
 rfl
theorem fprint_lim {n : Nat} {a : Int} {b : ByteArray} {c : LL} {e : Int} {f : Int} {g : ByteArray} {i : LL} {j : LL} {k : Int} {o : Int} {p : ByteArray} {q : LL} {s : LL} {t : Int} {u : LL} {b0 : Bool} {σ : Sto} {r : Res} (h : fprint (lim C) n a b c e f g i j k o p q s t u σ = some r) : lim C 11 [(V.agg [V.int .i64 a, V.str b, V.slice 1 9 c, V.int .i64 e, V.int .i64 f, V.str g, V.slice 3 92 i, V.slice 5 44 j, V.int .i64 k, V.int .i64 o, V.str p, V.slice 3 92 q, V.slice 5 44 s, V.int .i64 t, V.slice 6 71 u], b0)] σ = some r :=
 lim_of (d := fprintD) (by kernel_rfl) (by kernel_rfl) n (show afun C fprintD (lim C) n [(V.agg [V.int .i64 a, V.str b, V.slice 1 9 c, V.int .i64 e, V.int .i64 f, V.str g, V.slice 3 92 i, V.slice 5 44 j, V.int .i64 k, V.int .i64 o, V.str p, V.slice 3 92 q, V.slice 5 44 s, V.int .i64 t, V.slice 6 71 u], false)] σ = some r from (fprint_eq (lim C) n a b c e f g i j k o p q s t u σ).trans h)
end Go.Ab.Mk
end
