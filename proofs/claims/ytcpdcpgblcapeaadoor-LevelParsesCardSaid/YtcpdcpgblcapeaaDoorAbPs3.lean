/- level.Parse: what it comes to, over the calls it makes; its own two cells are nobody's. -/
import Derived.Test.YtcpdcpgblcapeaaDoorAbPs2
import Derived.Test.YtcpdcpgblcapeaaDoorAbOp2
set_option linter.unusedSimpArgs false
set_option linter.unusedVariables false
set_option linter.deprecated false
namespace Go.Ab
open Go.RowKit Go.Proofs

/-- Only what the store holds stays held. -/
def Gh.bare (G : Gh) : Gh := { G with owner := fun i => match G.owner i with | some (.blk b) => some (.blk b) | some (.gc b o) => some (.gc b o) | _ => none }
section
variable {G : Gh} {w : World} {σ : Sto} {gl : Nat → Option (List V)}
theorem Gh.bare_none {i : Nat} (h : G.owner i = none) : G.bare.owner i = none := by simp [Gh.bare, h]
theorem Gh.bare_ext : Ext G w G.bare w :=
  ⟨Nat.le_refl _, fun _ _ => rfl, fun _ _ => rfl, fun _ => Nat.le_refl _, fun _ _ _ => rfl, rfl, rfl, rfl, Nat.le_refl _, fun _ _ h => ⟨rfl, rfl, Gh.bare_none h⟩⟩
theorem Gh.bare_clean (n : Nat) : Clean G.bare n := by
  intro i p hp
  simp only [Gh.bare] at hp
  split at hp
  · simp at hp; exact .inl ⟨_, hp.symm⟩
  · simp at hp; exact .inr (.inl ⟨_, _, hp.symm⟩)
  · simp at hp
theorem SInv.bare (h : SInv gl G w σ) : SInv gl G.bare w σ := by
  refine ⟨fun i hi => ⟨(h.wf i hi).1, Gh.bare_none (h.wf i hi).2⟩, fun g cs hg => (h.glob g cs hg).mono Gh.bare_ext, h.N, h.typed, fun b cs hbc => ?_⟩
  obtain ⟨cvv, el, g1, g2, g3, g4, g5⟩ := h.blk b cs hbc
  refine ⟨cvv, el, g1, g2, by show G.bare.owner (G.μ b) = _; simp [Gh.bare, g3], g4, fun j cc x hc hx => ?_⟩
  obtain ⟨e1, e2⟩ := g5 j cc x hc hx
  exact ⟨e1.move Gh.bare_ext fun _ i hi => ⟨rfl, rfl, by simp [Gh.bare, hi]⟩, e2⟩
end

/-- The parse's two cells: they lie there, nobody holds them, nothing of them is settled. -/
structure Kp (B : Nat) (G : Gh) (w : World) (x y : Array Value) : Prop where
  has : Mk.Has B x y w
  oa : G.owner B = none
  ob : G.owner (B + 1) = none
  la : G.lim B = 0
  lb : G.lim (B + 1) = 0
theorem Kp.lt {B : Nat} {G : Gh} {w : World} {x y : Array Value} (h : Kp B G w x y) : B + 1 < w.heap.size := by
  have := h.has.e
  exact (Array.getElem?_eq_some_iff.1 this).1
theorem Kp.ext {B : Nat} {G G' : Gh} {w w' : World} {x y : Array Value} (h : Kp B G w x y) (e : Ext G w G' w') : Kp B G' w' x y := by
  have hl := h.lt
  obtain ⟨a1, a2, a3⟩ := e.old B (by omega) h.oa
  obtain ⟨b1, b2, b3⟩ := e.old (B + 1) hl h.ob
  exact ⟨⟨by rw [a1]; exact h.has.l, by rw [b1]; exact h.has.e⟩, a3, b3, by rw [a2]; exact h.la, by rw [b2]; exact h.lb⟩

def slv (v : V) : Bool := match v with | .slice .. | .nils => true | _ => false
def Mk.zlvV : V := .agg [.int .i64 0, .str (ByteArray.mk #[]), .slice 3 31 []]
def Mk.lvV (k : Int) (n : ByteArray) (a : V) : V := .agg [.int .i64 k, .str n, a]
def Mk.asLv (v : V) : Option (Int × ByteArray × V) := match v with
  | .agg [.int .i64 k, .str n, a] => if slv a = true then some (k, n, a) else none
  | _ => none
theorem Mk.asLv_inv {v : V} {x : Int × ByteArray × V} (h : Mk.asLv v = some x) : v = Mk.lvV x.1 x.2.1 x.2.2 ∧ slv x.2.2 = true := by
  unfold Mk.asLv at h
  split at h
  · split at h
    · obtain rfl := Option.some.inj h; exact ⟨rfl, by assumption⟩
    · simp at h
  · simp at h
def fc2 : List Cell := [(.int .i64 2, false), (.int .i64 0, false)]
/-- What a panic that is caught comes to. -/
def Mk.caught (v : V) (σ : Sto) : Option Res := match v with
  | .iface t x => if t = 66 then some (.ret [(Mk.zlvV, false), (.iface 66 x, false)], σ) else none
  | _ => none
theorem Mk.caught_inv {v : V} {σ : Sto} {r : Res} (h : Mk.caught v σ = some r) : ∃ x, v = .iface 66 x ∧ r = (.ret [(Mk.zlvV, false), (.iface 66 x, false)], σ) := by
  unfold Mk.caught at h
  split at h
  · split at h
    · rename_i t x ht; subst ht; exact ⟨x, rfl, (Option.some.inj h).symm⟩
    · simp at h
  · simp at h
/-- The end's call. -/
def Mk.parse5 (l : V) : Option Res → Option Res
  | some (.ret [], σ) => some (.ret [(l, false), (.nilIface, false)], σ)
  | some (.pan v, σ) => Mk.caught v σ
  | _ => none
/-- The level's call. -/
def Mk.parse4 (call : CallF) (q : V) : Option Res → Option Res
  | some (.ret [(l, _)], σ) => (Mk.asLv l).bind fun _ => Mk.parse5 l (call 36 [(q, false)] σ)
  | some (.pan v, σ) => Mk.caught v σ
  | _ => none
/-- The scanner's call. -/
def Mk.parse3 (call : CallF) : Option Res → Option Res
  | some (.ret [(.ptr t b o, _)], σ) => Mk.parse4 call (.ptr t b o) (call 35 [(.ptr t b o, false)] σ)
  | _ => none
def Mk.parseS (call : CallF) (args : List Cell) (σ : Sto) : Option Res :=
  match args with
  | [(.str s, _)] =>
    if (s.size : Int) > 20000 then some (.ret [(Mk.zlvV, false), (.iface 66 (.ptr 33 σ.length 0), false)], σ ++ [fc2])
    else Mk.parse3 call (call 34 [(.str s, false)] σ)
  | _ => none

section
variable {C : Ctx} {call : CallF}

theorem rel_zlv (G : Gh) (w : World) : Rel G w Mk.zlvV (.agg #[.int .i64 0, .string (ByteArray.mk #[]), .slice none 0 0]) := by
  refine Rel.agg _ [.int .i64 0, .string (ByteArray.mk #[]), .slice none 0 0] rfl ?_ ?_
  · intro i x hx
    match i with
    | 0 => simp at hx; subst hx; rfl
    | 1 => simp at hx; subst hx; rfl
    | 2 => simp at hx; subst hx; rfl
    | i + 3 => simp at hx
  · intro i v x hv hx
    match i with
    | 0 => simp at hx hv; subst hx; subst hv; exact .int _ _
    | 1 => simp at hx hv; subst hx; subst hv; exact .str _
    | 2 => simp at hx hv; subst hx; subst hv; exact .snil _ _
    | i + 3 => simp at hx
theorem rel_lv {G : Gh} {w : World} {k : Int} {n : ByteArray} {a : V} {c : Value} (ha : slv a = true) (h : Rel G w (Mk.lvV k n a) c) : ∃ x0 x1 x2, c = .agg #[x0, x1, x2] ∧ Mk.Shp x0 x1 x2 := by
  cases h with
  | agg _ xs h1 h2 h3 =>
    obtain ⟨x0, x1, x2, rfl⟩ : ∃ x0 x1 x2, xs = [x0, x1, x2] := by
      match xs, h1 with
      | [x0, x1, x2], _ => exact ⟨x0, x1, x2, rfl⟩
    refine ⟨x0, x1, x2, rfl, ?_⟩
    have r0 := h3 0 _ _ rfl rfl
    have r1 := h3 1 _ _ rfl rfl
    have r2 := h3 2 _ _ rfl rfl
    cases r0
    cases r1
    unfold slv at ha
    split at ha
    · cases r2 <;> exact .mk _ _ _ _ _
    · cases r2; exact .mk _ _ _ _ _
    · simp at ha

/-- Two results, nobody's. -/
theorem end_two {G : Gh} {w : World} {v1 v2 : V} {c1 c2 : Value} (h1 : Rel G w v1 c1) (h2 : Rel G w v2 c2) : EndRel G w (.ret [(v1, false), (v2, false)]) (.returned (.tuple #[c1, c2])) := by
  refine ⟨[c1, c2], rfl, by simp, fun i c x hc hx => ?_⟩
  match i with
  | 0 => simp at hc hx; subst hc; subst hx; exact ⟨h1, fun ho => by simp at ho⟩
  | 1 => simp at hc hx; subst hc; subst hx; exact ⟨h2, fun ho => by simp at ho⟩
  | i + 2 => simp at hc

theorem parse_ok (hcall : CallOk Tryd.prog C call) (henter : ∀ (args : Array Value) (w : World), (callFunc 16 args).run Tryd.prog w = .ok (.enter 16 args) w) :
    CallOk Tryd.prog C (fun g args σ => if g = 16 then Mk.parseS call args σ else none) := by
  intro g args σ r h
  simp only at h
  split at h
  case isFalse => simp at h
  rename_i hg
  subst hg
  refine ⟨henter, fun G w vals hS hcl hlen hv => ?_⟩
  unfold Mk.parseS at h
  split at h
  case h_2 => simp at h
  rename_i s ow
  obtain ⟨x, rfl⟩ : ∃ x, vals = [x] := by
    match vals, hlen with
    | [x], _ => exact ⟨x, rfl⟩
  have hx := (hv 0 _ x rfl rfl).1
  simp only at hx
  cases hx with
  | str =>
  have I1 := ((sinv_inv hS).alloc (.cells #[.int .i64 0, .string (ByteArray.mk #[]), .slice none 0 0] 31) 0 none)
  have E1 := Ext.alloc hS.wf (.cells #[.int .i64 0, .string (ByteArray.mk #[]), .slice none 0 0] 31) 0 none
  split at h
  · rename_i hb
    obtain rfl := Option.some.inj h
    have I2 := I1.alloc (.cells #[.iface 66 (.pointer (some ⟨w.heap.size + 1 + 1, 0, none⟩))] 44) 0 none
    have E2 := Ext.alloc I1.sto.wf (.cells #[.iface 66 (.pointer (some ⟨w.heap.size + 1 + 1, 0, none⟩))] 44) 0 none
    obtain ⟨G3, E3, I3, n3, m3, t3⟩ := I2.newSto (C := { C with glob := C.glob }) fc2 #[.int .i64 2, .int .i64 0] 33 rfl (fun j c x hc hx => by
      match j with
      | 0 => simp [fc2] at hc hx; subst hc; subst hx; exact ⟨⟨.int _ _, fun ho => by simp at ho⟩, rfl⟩
      | 1 => simp [fc2] at hc hx; subst hc; subst hx; exact ⟨⟨.int _ _, fun ho => by simp at ho⟩, rfl⟩
      | j + 2 => simp [fc2] at hc)
    refine (Mk.parse_long s w hb).mono fun en w' ⟨he, hw⟩ => ?_
    subst he; subst hw
    refine ⟨G3, (E1.trans E2).trans E3, I3.sto, end_two (rel_zlv _ _) (.iface 66 _ _ ?_)⟩
    have hp := Rel.ptr (G := G3) (w := ((w.alloc (.cells #[.int .i64 0, .string (ByteArray.mk #[]), .slice none 0 0] 31)).alloc (.cells #[.iface 66 (.pointer (some ⟨w.heap.size + 1 + 1, 0, none⟩))] 44)).alloc (.cells #[.int .i64 2, .int .i64 0] 33)) 33 σ.length 0 (by rw [n3]; simp) t3
    have hm : G3.μ σ.length = w.heap.size + 1 + 1 := by rw [show σ.length = _ from rfl, m3]; simp
    rw [hm] at hp
    exact hp
  · rename_i hb
    have I2 := I1.alloc (.cells #[.nilIface] 44) 0 none
    have E2 := E1.trans (Ext.alloc I1.sto.wf (.cells #[.nilIface] 44) 0 none)
    have K1 : Kp w.heap.size ((G.new w 0 none).new (w.alloc (.cells #[.int .i64 0, .string (ByteArray.mk #[]), .slice none 0 0] 31)) 0 none)
        ((w.alloc (.cells #[.int .i64 0, .string (ByteArray.mk #[]), .slice none 0 0] 31)).alloc (.cells #[.nilIface] 44)) #[.int .i64 0, .string (ByteArray.mk #[]), .slice none 0 0] #[.nilIface] := by
      have hw0 := hS.wf w.heap.size (Nat.le_refl _)
      refine ⟨⟨?_, ?_⟩, ?_, ?_, ?_, ?_⟩
      · rw [heap_alloc_lt (by simp)]; exact heap_alloc_new _ _
      · have := heap_alloc_new (w.alloc (.cells #[.int .i64 0, .string (ByteArray.mk #[]), .slice none 0 0] 31)) (.cells #[.nilIface] 44)
        simpa using this
      · simp [Gh.new, upd]
      · simp [Gh.new, upd]
      · simp [Gh.new, upd]
      · simp [Gh.new, upd]
    have C1 : Clean ((G.new w 0 none).new (w.alloc (.cells #[.int .i64 0, .string (ByteArray.mk #[]), .slice none 0 0] 31)) 0 none) 1 := by
      intro i p hp
      simp only [Gh.new, upd] at hp
      split at hp
      · simp at hp
      · split at hp
        · simp at hp
        · exact hcl i p hp
    have S1 := I2.sto
    generalize hG1 : (G.new w 0 none).new (w.alloc (.cells #[.int .i64 0, .string (ByteArray.mk #[]), .slice none 0 0] 31)) 0 none = G1 at *
    have B1 := E2.toB (Nat.le_refl w.heap.size)
    generalize hr34 : call 34 [(.str s, false)] σ = r34 at h
    unfold Mk.parse3 at h
    split at h
    case h_2 => simp at h
    rename_i t b o ow3 σ3
    refine Mk.parse_short s w hb _ ?_
    refine ((hcall 34 _ _ _ hr34).2 G1 _ [.string s] S1 C1 rfl (fun i c x hc hx => by
      match i with
      | 0 => simp at hc hx; subst hc; subst hx; exact ⟨.str _, fun ho => by simp at ho⟩
      | i + 1 => simp at hc)).mono fun e w3 hh => ?_
    obtain ⟨G3, E3, S3, cs, hcl3, rfl, hrel⟩ := hh
    obtain ⟨c3, rfl⟩ : ∃ c, cs = [c] := by
      match cs, hcl3 with
      | [c], _ => exact ⟨c, rfl⟩
    have hp3 := (hrel 0 _ _ rfl rfl).1
    simp only at hp3
    have hp3' := hp3
    cases hp3 with
    | ptr _ _ _ hbN hty =>
    refine ⟨⟨G3.μ b, o, none⟩, by simp, ?_⟩
    have K3 := (K1.ext E3).ext (Gh.bare_ext (G := G3))
    have B3 := (B1.trans (E3.toB (by simp; omega))).trans ((Gh.bare_ext (G := G3)).toB (by have := K3.lt; omega))
    have S3' := S3.bare
    have R3 := hp3'.mono (Gh.bare_ext (G := G3) (w := w3))
    clear hp3' E3 S3 hrel
    generalize hr35 : call 35 [(.ptr t b o, false)] σ3 = r35 at h
    unfold Mk.parse4 at h
    split at h
    case h_3 => simp at h
    · rename_i l owl σ4
      obtain ⟨lx, hlx, h⟩ := bind2 h
      obtain ⟨rfl, hsl⟩ := Mk.asLv_inv hlx
      have H35 := (hcall 35 _ _ _ hr35).2 G3.bare w3 [.pointer (some ⟨G3.μ b, o, none⟩)] S3' (Gh.bare_clean _) rfl (fun i c x hc hx => by
        match i with
        | 0 => simp at hc hx; subst hc; subst hx; exact ⟨R3, fun ho => by simp at ho⟩
        | i + 1 => simp at hc)
      refine H35.mono fun e w4 hh => ?_
      obtain ⟨G4, E4, S4, cs, hcl4, rfl, hrel⟩ := hh
      obtain ⟨c4, rfl⟩ : ∃ c, cs = [c] := by
        match cs, hcl4 with
        | [c], _ => exact ⟨c, rfl⟩
      have hl4 := (hrel 0 _ _ rfl rfl).1
      simp only at hl4
      obtain ⟨x0, x1, x2, rfl, hshp⟩ := rel_lv hsl hl4
      have K4 := (K3.ext E4)
      have B4 := B3.trans (E4.toB (by have := K3.lt; omega))
      refine .inl ⟨x0, x1, x2, by simp, hshp, K4.has, fun w4' hn hhas => ?_⟩
      have K4' : Kp w.heap.size G4.bare w4' #[x0, x1, x2] #[.nilIface] := ⟨hhas, Gh.bare_none K4.oa, Gh.bare_none K4.ob, K4.la, K4.lb⟩
      have S4' := (hn.sinv K4.la K4.lb K4.oa K4.ob S4).bare
      have B4' := (B4.trans (hn.extB K4.la K4.lb (Nat.le_refl _) (by omega))).trans ((Gh.bare_ext (G := G4)).toB (by have := K4'.lt; omega))
      have R4 := (hn.rel K4.la K4.lb (R3.mono E4)).mono (Gh.bare_ext (G := G4) (w := w4'))
      have hl4' := (hn.rel K4.la K4.lb hl4).mono (Gh.bare_ext (G := G4) (w := w4'))
      generalize hr36 : call 36 [(.ptr t b o, false)] σ4 = r36 at h
      have H36 : ∀ r, call 36 [(.ptr t b o, false)] σ4 = some r → _ := fun r hr => (hcall 36 _ _ r hr).2 G4.bare w4' [.pointer (some ⟨G3.μ b, o, none⟩)] S4' (Gh.bare_clean _) rfl (fun i c x hc hx => by
        match i with
        | 0 => simp at hc hx; subst hc; subst hx; exact ⟨R4, fun ho => by simp at ho⟩
        | i + 1 => simp at hc)
      unfold Mk.parse5 at h
      split at h
      case h_3 => simp at h
      · rename_i σ5
        obtain rfl := Option.some.inj h
        refine (H36 _ hr36).mono fun e w5 hh => ?_
        obtain ⟨G5, E5, S5, cs, hcl5, rfl, hrel5⟩ := hh
        obtain rfl : cs = [] := List.length_eq_zero_iff.1 hcl5
        have K5 := K4'.ext E5
        have B5 := B4'.trans (E5.toB (by have := K4'.lt; omega))
        refine .inl ⟨by simp, K5.has, fun w6 hn6 => ⟨G5, (B5.trans (hn6.extB K5.la K5.lb (Nat.le_refl _) (by omega))).toExt, hn6.sinv K5.la K5.lb K5.oa K5.ob S5, ?_⟩⟩
        exact end_two (hn6.rel K5.la K5.lb (hl4'.mono E5)) .nilIface
      · rename_i v σ5
        obtain ⟨x, rfl, rfl⟩ := Mk.caught_inv h
        refine (H36 _ hr36).mono fun e w5 hh => ?_
        obtain ⟨G5, E5, S5, c5, rfl, hrel5⟩ := hh
        have K5 := K4'.ext E5
        have B5 := B4'.trans (E5.toB (by have := K4'.lt; omega))
        cases hrel5 with
        | iface _ _ cx hcx =>
        refine .inr ⟨cx, rfl, K5.has, fun w6 hn6 => ⟨G5, (B5.trans (hn6.extB K5.la K5.lb (Nat.le_refl _) (by omega))).toExt, hn6.sinv K5.la K5.lb K5.oa K5.ob S5, ?_⟩⟩
        exact end_two (rel_zlv _ _) (.iface _ _ _ (hn6.rel K5.la K5.lb hcx))
    · rename_i v σ4
      obtain ⟨x, rfl, rfl⟩ := Mk.caught_inv h
      have H35 := (hcall 35 _ _ _ hr35).2 G3.bare w3 [.pointer (some ⟨G3.μ b, o, none⟩)] S3' (Gh.bare_clean _) rfl (fun i c x hc hx => by
        match i with
        | 0 => simp at hc hx; subst hc; subst hx; exact ⟨R3, fun ho => by simp at ho⟩
        | i + 1 => simp at hc)
      refine H35.mono fun e w4 hh => ?_
      obtain ⟨G4, E4, S4, c4, rfl, hrel4⟩ := hh
      have K4 := (K3.ext E4)
      have B4 := B3.trans (E4.toB (by have := K3.lt; omega))
      cases hrel4 with
      | iface _ _ cx hcx =>
      refine .inr ⟨cx, rfl, K4.has, fun w6 hn6 => ⟨G4, (B4.trans (hn6.extB K4.la K4.lb (Nat.le_refl _) (by omega))).toExt, hn6.sinv K4.la K4.lb K4.oa K4.ob S4, ?_⟩⟩
      exact end_two (rel_zlv _ _) (.iface _ _ _ (hn6.rel K4.la K4.lb hcx))
end
end Go.Ab
