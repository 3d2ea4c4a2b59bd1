/- Maps from strings to whole numbers: what a block of memory holds, told as a function; the laws at the operations. -/
import Derived.Test.YtifoglinlcfelaaDoorAbLim
import Derived.Maps.RangeWalk
import Derived.Maps.OwnSet
import Derived.Maps.OwnOps
import Derived.Maps.Ext
import Derived.StringKeys
import Derived.Below
import Derived.WalkArith
set_option linter.unusedSimpArgs false
set_option linter.unusedVariables false
set_option linter.deprecated false
section
namespace Go.Ab
def bytesL (l : List UInt8) : List (List V) := l.map fun b => [.int .u8 b.toNat]
theorem bytesL_append (a b : List UInt8) : bytesL (a ++ b) = bytesL a ++ bytesL b := by simp [bytesL]
theorem bytesL_length (a : List UInt8) : (bytesL a).length = a.length := by simp [bytesL]
def unbyte : List V → Option UInt8
 | [.int .u8 n] => if 0 ≤ n ∧ n < 256 then some (UInt8.ofNat n.toNat) else none
 | _ => none
def unbytes : List (List V) → Option (List UInt8)
 | [] => some []
 | e :: es => (unbyte e).bind fun b => (unbytes es).bind fun l => some (b :: l)
theorem unbyte_byte (b : UInt8) : unbyte [.int .u8 b.toNat] = some b := by
 have h : (b.toNat : Int) < 256 := by have := b.toNat_lt; omega
 simp [unbyte, h]
theorem unbytes_bytesL : ∀ l, unbytes (bytesL l) = some l
 | [] => rfl
 | b :: l => by
  have := unbytes_bytesL l
  simp only [bytesL, List.map_cons] at *
  rw [unbytes, unbyte_byte]
  simp only [Option.bind_some]
  rw [this]; rfl
theorem unbyte_inv {e : List V} {b : UInt8} (h : unbyte e = some b) : e = [.int .u8 b.toNat] := by
 unfold unbyte at h
 split at h
 ·split at h
  ·rename_i n hn
   obtain rfl := Option.some.inj h
   have : (UInt8.ofNat n.toNat).toNat = n.toNat := by
    rw [UInt8.toNat_ofNat']; omega
   rw [this]
   congr 2
   omega
  ·simp at h
 ·simp at h
theorem unbytes_inv : ∀ {es : List (List V)} {l : List UInt8}, unbytes es = some l → es = bytesL l
 | [], l, h => by simp [unbytes] at h; subst h; rfl
 | e :: es, l, h => by
  simp only [unbytes] at h
  obtain ⟨b, hb, h⟩ := bind2 h
  obtain ⟨l', hl, h⟩ := bind2 h
  obtain rfl := Option.some.inj h
  rw [unbyte_inv hb, unbytes_inv hl]; rfl
def copyCheckS (T : TypeId) (args : List Cell) (σ : Sto) : Option Res :=
 match args with
 | [(.ptr t b 0, _)] => if t = T then (match σ[b]? with
  | some [(.nilp, _), c] => some (.ret [], σ.set b [(.ptr T b 0, false), c])
  | some [(.ptr t' b' 0, _), _] => if t' = T ∧ b' = b then some (.ret [], σ) else none
  | _ => none) else none
 | _ => none
def bldStringS (T e : TypeId) (args : List Cell) (σ : Sto) : Option Res :=
 match args with
 | [(.ptr t b 0, _)] => if t = T then (match σ[b]? with
  | some [_, (.slice 1 e' es, true)] => if e' = e ∧ es ≠ [] ∧ room es.length = true then (unbytes es).bind fun l => some (.ret [(.str ⟨l.toArray⟩, false)], σ) else none
  | _ => none) else none
 | _ => none
section
variable {P : Program} {C : Ctx}
theorem sinv_inv {gl : Nat → Option (List V)} {G : Gh} {w : World} {σ : Sto} (h : SInv gl G w σ) : Inv gl G (fun _ => 0) { tmps := #[], defers := [] } w { regs := [], locs := [], sto := σ } :=
 ⟨rfl, rfl, rfl, fun r x hx => by simp at hx, fun r cs hc => by simp at hc, h⟩
theorem copyCheck_ok (hC : CtxOk P C) {f : FuncId} {T : TypeId} (hcall : ∀ (args : Array Value) (w : World), (callFunc f args).run P w = .ok (.enter f args) w)
  (hused : ∀ (b : Nat) (w : World), w.cell? ⟨b, 0, none⟩ = some (.pointer (some ⟨b, 0, none⟩)) → Calls P f #[.pointer (some ⟨b, 0, none⟩)] w fun e w' => e = .returned (.tuple #[]) ∧ w' = w)
  (hfresh : ∀ (b : Nat) (w : World), w.cell? ⟨b, 0, none⟩ = some (.pointer none) → w.shape? b = some (T, 2) → w.frozen? ⟨b, 0, none⟩ = false →
   Calls P f #[.pointer (some ⟨b, 0, none⟩)] w fun e w' => e = .returned (.tuple #[]) ∧ w' = w.setCell ⟨b, 0, none⟩ (.pointer (some ⟨b, 0, none⟩))) :
  CallOk P C (fun g args σ => if g = f then copyCheckS T args σ else none) := by
 intro g args σ r h
 simp only at h
 split at h
 case isFalse => simp at h
 rename_i hg
 subst hg
 refine ⟨hcall, fun G w vals hS hcl hlen hv => ?_⟩
 unfold copyCheckS at h
 split at h
 case h_2 => simp at h
 rename_i t b ow
 split at h
 case isFalse => simp at h
 rename_i ht
 subst ht
 obtain ⟨x, rfl⟩ : ∃ x, vals = [x] := by
  match vals, hlen with
  | [x], _ => exact ⟨x, rfl⟩
 have hx := (hv 0 _ x rfl rfl).1
 simp only at hx
 cases hx with
 | ptr _ _ _ hbN hty =>
 have hend : EndRel G w (.ret []) (.returned (.tuple #[])) := ⟨[], rfl, by simp, by simp⟩
 split at h
 ·rename_i o0 c hb
  obtain rfl := Option.some.inj h
  have hblt : b < σ.length := (List.getElem?_eq_some_iff.1 hb).1
  have hB := hS.blk b _ hb
  obtain ⟨cv, el, g1, g2, g3, g4, g5⟩ := id hB
  obtain ⟨cv', fr', q1⟩ := hS.typed b hblt
  rw [g1] at q1
  obtain ⟨_, rfl, _⟩ : cv = cv' ∧ el = G.ty b ∧ (0, 0) = fr' := by simpa using q1
  simp only [List.length_cons, List.length_nil] at g2
  have hc0 : w.cell? ⟨G.μ b, 0, none⟩ = some (.pointer none) := by
   obtain ⟨y, hy⟩ : ∃ y, cv[0]? = some y := ⟨cv[0], by simp [g2]⟩
   have := (g5 0 _ y rfl hy).1.1
   cases this
   simp only [World.cell?, g1]
   simpa using hy
  have hsh : w.shape? (G.μ b) = some (t, 2) := by rw [← hty]; simp [World.shape?, g1, g2]
  have hfz : w.frozen? ⟨G.μ b, 0, none⟩ = false := by simp [World.frozen?, g1]
  refine (hfresh (G.μ b) w hc0 hsh hfz).mono fun e w' ⟨he, hw⟩ => ?_
  subst he; subst hw
  have hrel : Rel G w (.ptr t b 0) (.pointer (some ⟨G.μ b, 0, none⟩)) := .ptr _ _ _ hbN hty
  obtain ⟨w1, w2, w3, w4, w5⟩ := write_block (P := P) hS.wf hB (by simp) 0 [.pointer (some ⟨G.μ b, 0, none⟩)] [(.ptr t b 0, false)] rfl (by simp) (fun j c x hc hx => by
   match j with
   | 0 => simp at hc hx; subst hc; subst hx; exact ⟨⟨hrel, fun ho => by simp at ho⟩, rfl⟩
   | j + 1 => simp at hc)
  have htt : ∃ cv fr, (putCells w (G.μ b) 0 [.pointer (some ⟨G.μ b, 0, none⟩)]).heap[G.μ b]? = some (.cells cv (G.ty b) fr) := by
   rw [putCells_heap, if_pos rfl, g1]
   exact ⟨_, _, rfl⟩
  have hI := (sinv_inv hS).setSto (b := b) hblt w2 (w3 _ (by simp)) w4 w5 htt
  have hset : setCells [(V.nilp, o0), c] 0 [(V.ptr t b 0, false)] = [(V.ptr t b 0, false), c] := rfl
  refine ⟨G, w2, by have := hI.sto; rw [hset] at this; exact this, ⟨[], rfl, by simp, by simp⟩⟩
 ·rename_i t' b' o0 c hb
  split at h
  case isFalse => simp at h
  rename_i hh
  obtain ⟨rfl, rfl⟩ := hh
  obtain rfl := Option.some.inj h
  have hB := hS.blk b' _ hb
  obtain ⟨cv, el, g1, g2, g3, g4, g5⟩ := id hB
  simp only [List.length_cons, List.length_nil] at g2
  have hc0 : w.cell? ⟨G.μ b', 0, none⟩ = some (.pointer (some ⟨G.μ b', 0, none⟩)) := by
   obtain ⟨y, hy⟩ : ∃ y, cv[0]? = some y := ⟨cv[0], by simp [g2]⟩
   have := (g5 0 _ y rfl hy).1.1
   cases this
   simp only [World.cell?, g1]
   simpa using hy
  refine (hused (G.μ b') w hc0).mono fun e w' ⟨he, hw⟩ => ?_
  subst he; subst hw
  exact ⟨G, Ext.refl _ _, hS, hend⟩
 ·simp at h
theorem freeze_other (w : World) (g n : Nat) {i : Nat} (hi : i ≠ g) : (w.freeze ⟨g, 0, none⟩ n).heap[i]? = w.heap[i]? := by
 unfold World.freeze
 split
 ·rfl
 ·show (w.heap.modify g _)[i]? = _
  rw [Array.getElem?_modify, if_neg (fun h => hi h.symm)]
theorem freeze_at (w : World) (g n : Nat) {cv : Array Value} {e : TypeId} {fr : Nat × Nat} (h : w.heap[g]? = some (.cells cv e fr)) :
  ∃ fr', (w.freeze ⟨g, 0, none⟩ n).heap[g]? = some (.cells cv e fr') ∧ (fr'.2 ≤ fr.2 ∨ fr'.2 ≤ max fr.2 n) := by
 obtain ⟨lo, hi⟩ := fr
 unfold World.freeze
 split
 ·exact ⟨_, h, .inl (Nat.le_refl _)⟩
 ·have : (w.heap.modify g fun
    | .cells c elem (lo, hi) => .cells c elem (if lo == hi then (0, 0 + n) else (min lo 0, max hi (0 + n)))
    | o => o)[g]? = some (.cells cv e (if lo == hi then (0, 0 + n) else (min lo 0, max hi (0 + n)))) := by
   rw [Array.getElem?_modify, if_pos rfl, h]; rfl
  refine ⟨_, this, .inr ?_⟩
  split <;> simp <;> omega
theorem freeze_cell (w : World) (g n b o : Nat) {cv : Array Value} {e : TypeId} {fr : Nat × Nat} (h : w.heap[g]? = some (.cells cv e fr)) : (w.freeze ⟨g, 0, none⟩ n).cell? ⟨b, o, none⟩ = w.cell? ⟨b, o, none⟩ := by
 by_cases hb : b = g
 ·subst hb
  obtain ⟨fr', h1, _⟩ := freeze_at w b n h
  simp only [World.cell?, h, h1]
 ·simp only [World.cell?]
  rw [freeze_other w g n hb]
theorem SInv.freeze {gl : Nat → Option (List V)} {G : Gh} {w : World} {σ : Sto} (h : SInv gl G w σ) {g n : Nat} {b0 o0 : Nat} (ho : G.owner g = some (.gc b0 o0)) (hn : n ≤ G.lim g) {cv0 : Array Value} {e0 : TypeId} {fr0 : Nat × Nat} (hg0 : w.heap[g]? = some (.cells cv0 e0 fr0)) :
  Ext G w G (w.freeze ⟨g, 0, none⟩ n) ∧ SInv gl G (w.freeze ⟨g, 0, none⟩ n) σ := by
 have hsz : (w.freeze ⟨g, 0, none⟩ n).heap.size = w.heap.size := by
  unfold World.freeze; split <;> simp
 have hother : ∀ i, i ≠ g → (w.freeze ⟨g, 0, none⟩ n).heap[i]? = w.heap[i]? := fun i hi => freeze_other w g n hi
 have hos : (w.freeze ⟨g, 0, none⟩ n).os = w.os ∧ (w.freeze ⟨g, 0, none⟩ n).tape = w.tape ∧ (w.freeze ⟨g, 0, none⟩ n).output = w.output := by
  unfold World.freeze; split <;> exact ⟨rfl, rfl, rfl⟩
 have hE : Ext G w G (w.freeze ⟨g, 0, none⟩ n) := ⟨Nat.le_refl _, fun _ _ => rfl, fun _ _ => rfl, fun _ => Nat.le_refl _, fun b o _ => freeze_cell w g n b o hg0, hos.1, hos.2.1, hos.2.2, by rw [hsz]; exact Nat.le_refl _, fun i _ hi => ⟨hother i (by rintro rfl; rw [ho] at hi; simp at hi), rfl, hi⟩⟩
 have hown : ∀ (p : Place) (v : V) (c : Value), Own G w p v c → Own G (w.freeze ⟨g, 0, none⟩ n) p v c := by
  intro p v c hh
  unfold Own at *
  split at hh
  ·obtain ⟨h1, h2, h3, h4, cv, fr, h5, h6, h7⟩ := hh
   rename_i k e es a m cap
   refine ⟨h1, h2, h3, h4, cv, ?_⟩
   by_cases hg : a.block = g
   ·rw [hg] at h5 ⊢
    obtain ⟨fr', k1, k2⟩ := freeze_at w g n h5
    have : n ≤ m * k := by rw [← h4, hg]; exact hn
    exact ⟨fr', k1, h6, by omega⟩
   ·exact ⟨fr, by rw [hother _ hg]; exact h5, h6, h7⟩
  ·exact hh
  ·trivial
 refine ⟨hE, fun i hi => h.wf i (by rw [hsz] at hi; exact hi), fun g' cs hg => (h.glob g' cs hg).mono hE, h.N, fun b hb => ?_, fun b cs hb => ?_, h.gsz.mono hE⟩
 ·obtain ⟨cv, fr, q1⟩ := h.typed b hb
  obtain ⟨_, _, _, _, q3, _⟩ := h.blk b σ[b] (List.getElem?_eq_getElem hb)
  exact ⟨cv, fr, by rw [hother _ (fun hh => by rw [hh, ho] at q3; simp at q3)]; exact q1⟩
 ·obtain ⟨cv, el, g1, g2, g3, g4, g5⟩ := h.blk b cs hb
  exact ⟨cv, el, by rw [hother _ (fun hh => by rw [hh, ho] at g3; simp at g3)]; exact g1, g2, g3, g4, fun j c x hc hx => ⟨⟨(g5 j c x hc hx).1.1.mono hE, fun hf => hown _ _ _ ((g5 j c x hc hx).1.2 hf)⟩, (g5 j c x hc hx).2⟩⟩
theorem bldString_ok (hC : CtxOk P C) {f : FuncId} {T e : TypeId} (hcall : ∀ (args : Array Value) (w : World), (callFunc f args).run P w = .ok (.enter f args) w)
  (hstr : ∀ (b g cap cells : Nat) (l : List UInt8) (w : World), l ≠ [] → l.length ≤ cap → l.length ≤ cells → cap ≤ cells → w.cell? ⟨b, 1, none⟩ = some (.slice (some ⟨g, 0, none⟩) l.length cap) → w.shape? g = some (e, cells) → l.length ≤ 9223372036854775807 →
   (∀ j x, l[j]? = some x → w.cell? ⟨g, j, none⟩ = some (.int .u8 x.toNat)) →
   Calls P f #[.pointer (some ⟨b, 0, none⟩)] w fun en w' => en = .returned (.string ⟨l.toArray⟩) ∧ w' = w.drew.freeze ⟨g, 0, none⟩ l.length) :
  CallOk P C (fun g args σ => if g = f then bldStringS T e args σ else none) := by
 intro g args σ r h
 simp only at h
 split at h
 case isFalse => simp at h
 rename_i hg
 subst hg
 refine ⟨hcall, fun G w vals hS hcl hlen hv => ?_⟩
 unfold bldStringS at h
 split at h
 case h_2 => simp at h
 rename_i t b ow
 split at h
 case isFalse => simp at h
 rename_i ht
 subst ht
 obtain ⟨x, rfl⟩ : ∃ x, vals = [x] := by
  match vals, hlen with
  | [x], _ => exact ⟨x, rfl⟩
 have hx := (hv 0 _ x rfl rfl).1
 simp only at hx
 cases hx with
 | ptr _ _ _ hbN hty =>
 split at h
 case h_2 => simp at h
 rename_i c0 e' es hb
 split at h
 case isFalse => simp at h
 rename_i hh
 obtain ⟨rfl, hne, hroom⟩ := hh
 obtain ⟨l, hl, h⟩ := bind2 h
 obtain rfl := Option.some.inj h
 obtain rfl := unbytes_inv hl
 have hl0 : l ≠ [] := by rintro rfl; exact hne rfl
 have hB := hS.blk b _ hb
 obtain ⟨cv, el, g1, g2, g3, g4, g5⟩ := id hB
 simp only [List.length_cons, List.length_nil] at g2
 obtain ⟨y, hy⟩ : ∃ y, cv[1]? = some y := ⟨cv[1], by simp [g2]⟩
 obtain ⟨hcr, _⟩ := g5 1 _ y rfl hy
 obtain ⟨hr, hown⟩ := hcr
 have hown := hown rfl
 have hc1 : w.cell? ⟨G.μ b, 1, none⟩ = some y := by
  simp only [World.cell?, g1]
  simpa using hy
 rcases rel_slice hr with ⟨h0, _⟩ | ⟨gb, off, cap, cs, rfl, r1, r2, r3, r4, r5, r6, r7⟩
 ·have : l.length = 0 := by rw [← bytesL_length, h0]; rfl
  exact absurd (List.length_eq_zero_iff.1 this) hl0
 ·obtain ⟨o1, _, o3, o4, cv2, fr, o5, o6, o7⟩ := hown
  simp only at o1 o3 o4 o5
  subst o1
  simp only [bytesL_length, Nat.mul_one] at r1 r2 r3 o4 o6 o7
  rw [bytesL_length] at hc1
  have hcells : ∀ j z, l[j]? = some z → w.cell? ⟨gb, j, none⟩ = some (.int .u8 z.toNat) := by
   intro j z hz
   have hj : j < l.length := (List.getElem?_eq_some_iff.1 hz).1
   have he : (bytesL l)[j]? = some [V.int .u8 z.toNat] := by simp [bytesL, hz]
   obtain ⟨xr, hxr⟩ : ∃ xr, cs[j]? = some xr := ⟨cs[j], by rw [List.getElem?_eq_getElem]⟩
   have hlen1 := r5 j xr hxr
   obtain ⟨cc, rfl⟩ : ∃ cc, xr = [cc] := by
    match xr, hlen1 with
    | [cc], _ => exact ⟨cc, rfl⟩
   have hrel := r7 j 0 _ _ _ cc he hxr rfl rfl
   cases hrel
   have := (r6 j 0 _ _ hxr rfl).1
   simpa using this
  have hsh : w.shape? gb = some (e', cv2.size) := by simp [World.shape?, o5]
  have h63 : l.length ≤ 9223372036854775807 := by
   have := log2_bound (of_decide_eq_true hroom)
   rw [bytesL_length] at this
   omega
  refine (hstr (G.μ b) gb cap cv2.size l w hl0 r2 (by omega) o6 hc1 hsh h63 hcells).mono fun en w' ⟨he, hw⟩ => ?_
  subst he; subst hw
  have hS' : SInv C.glob G w.drew σ := (((sinv_inv hS).same (w' := w.drew) rfl rfl rfl rfl)).sto
  obtain ⟨f1, f2⟩ := hS'.freeze (g := gb) (n := l.length) o3 (by omega) (show w.drew.heap[gb]? = _ from o5)
  refine ⟨G, Ext.trans (w1 := w.drew) (Ext.same rfl rfl rfl rfl) f1, f2, [.string ⟨l.toArray⟩], rfl, by simp, fun i c x hc hx => ?_⟩
  match i with
  | 0 => simp at hc hx; subst hc; subst hx; exact ⟨.str _, fun ho => by simp at ho⟩
  | i + 1 => simp at hc
end
end Go.Ab
end
section
namespace Go.Ab
inductive Lv where
 | zero
 | succ (l : Lv)
 | max (a b : Lv)
 | imax (a b : Lv)
 | param (s : ByteArray)
 deriving Inhabited
def Lv.kind : Lv → Int
 | .zero => 0 | .succ _ => 1 | .max .. => 2 | .imax .. => 3 | .param _ => 4
def Lv.name : Lv → ByteArray
 | .param s => s
 | _ => ByteArray.mk #[]
def Lv.enc : Lv → List V
 | .zero => [.int .i64 0, .str (ByteArray.mk #[]), .slice 3 74 []]
 | .succ l => [.int .i64 1, .str (ByteArray.mk #[]), .slice 3 74 [l.enc]]
 | .max a b => [.int .i64 2, .str (ByteArray.mk #[]), .slice 3 74 [a.enc, b.enc]]
 | .imax a b => [.int .i64 3, .str (ByteArray.mk #[]), .slice 3 74 [a.enc, b.enc]]
 | .param s => [.int .i64 4, .str s, .slice 3 74 []]
def Lv.kids : Lv → List Lv
 | .succ l => [l]
 | .max a b => [a, b]
 | .imax a b => [a, b]
 | _ => []
def Lv.args (l : Lv) : List (List V) := l.kids.map Lv.enc
def Lv.size : Lv → Nat
 | .succ l => l.size + 1
 | .max a b => a.size + b.size + 1
 | .imax a b => a.size + b.size + 1
 | _ => 1
theorem Lv.size_pos (l : Lv) : 0 < l.size := by cases l <;> simp [Lv.size]
theorem Lv.enc_eq (l : Lv) : l.enc = [.int .i64 l.kind, .str l.name, .slice 3 74 l.args] := by cases l <;> rfl
theorem Lv.enc_len (l : Lv) : l.enc.length = 3 := by cases l <;> rfl
theorem Lv.cells (l : Lv) : V.agg [l.enc.getD 0 V.any, l.enc.getD 1 V.any, l.enc.getD 2 V.any] = V.agg [.int .i64 l.kind, .str l.name, .slice 3 74 l.args] := by rw [l.enc_eq]; rfl
theorem Lv.kid_size {l c : Lv} (h : c ∈ l.kids) : c.size < l.size := by
 cases l <;> simp [Lv.kids] at h
 ·subst h; simp [Lv.size]
 ·rcases h with rfl | rfl <;> simp [Lv.size] <;> omega
 ·rcases h with rfl | rfl <;> simp [Lv.size] <;> omega
theorem Lv.ind {P : Lv → Prop} (h : ∀ l, (∀ c ∈ l.kids, P c) → P l) : ∀ l, P l
 | .zero => h _ (by simp [Lv.kids])
 | .param _ => h _ (by simp [Lv.kids])
 | .succ l => h _ (by simp only [Lv.kids, List.mem_cons, List.not_mem_nil, or_false]; rintro c rfl; exact Lv.ind h c)
 | .max a b => h _ (by simp only [Lv.kids, List.mem_cons, List.not_mem_nil, or_false]; rintro c (rfl | rfl) <;> exact Lv.ind h _)
 | .imax a b => h _ (by simp only [Lv.kids, List.mem_cons, List.not_mem_nil, or_false]; rintro c (rfl | rfl) <;> exact Lv.ind h _)
def strs (ss : List ByteArray) : List (List V) := ss.map fun s => [.str s]
theorem wrap_nat {n : Nat} (h : n < 2 ^ 62) : IntKind.wrap .i64 (n : Int) = n := by
 unfold IntKind.wrap
 simp [IntKind.bits, IntKind.signed] <;> omega
theorem wrap_succ {n : Nat} (h : n < 2 ^ 61) : IntKind.wrap .i64 ((n : Int) + 1) = ((n + 1 : Nat) : Int) := by rw [← wrap_nat (n := n + 1) (by omega)]; simp
theorem strs_get {ps : List ByteArray} {i : Nat} (h : i < ps.length) : (strs ps).getD i [] = [V.str ps[i]] := by simp [strs, h]
theorem strs_length (ps : List ByteArray) : (strs ps).length = ps.length := by simp [strs]
theorem room_ok {n : Nat} (h : n < 2 ^ 34) : room n = true := by
 unfold room
 refine decide_eq_true ?_
 by_cases h0 : n = 0
 ·subst h0; simp
 ·have := (Nat.log2_lt (k := 34) h0).2 h
  omega
theorem callK_ret1 {call : CallF} {f : FuncId} {args : List Cell} {σ σ' : Sto} {K : List Cell → Sto → Option Res} {KP : V → Sto → Option Res} {c : Cell} (h : call f args σ = some (.ret [c], σ')) :
  callK call f args σ 1 K KP = K [c] σ' := callK_ret h rfl
theorem callK_ret0 {call : CallF} {f : FuncId} {args : List Cell} {σ σ' : Sto} {K : List Cell → Sto → Option Res} {KP : V → Sto → Option Res} (h : call f args σ = some (.ret [], σ')) :
  callK call f args σ 0 K KP = K [] σ' := callK_ret h rfl
theorem dlt {i n : Nat} (h : i < n) : decide ((i : Int) < (n : Int)) = true := by simpa using h
theorem dnlt {i n : Nat} (h : ¬ i < n) : decide ((i : Int) < (n : Int)) = false := by simpa using h
theorem d0 (i : Nat) : decide (0 ≤ (i : Int)) = true := by simp
theorem kid_get {L : List Lv} {i : Nat} {c : Lv} (hc : L[i]? = some c) : (L.map Lv.enc).getD (Int.toNat (i : Int)) [] = c.enc := by
 obtain ⟨h, rfl⟩ := List.getElem?_eq_some_iff.1 hc
 simp [h]
theorem drop_cons {α : Type} {L : List α} {i : Nat} {c : α} (hc : L[i]? = some c) : L.drop i = c :: L.drop (i + 1) := by
 obtain ⟨h, rfl⟩ := List.getElem?_eq_some_iff.1 hc
 exact List.drop_eq_getElem_cons h
theorem enc_inj : ∀ {a b : Lv}, a.enc = b.enc → a = b
 | .zero, b, h => by cases b <;> simp [Lv.enc] at h; rfl
 | .param s, b, h => by
  cases b <;> simp [Lv.enc] at h
  rw [h]
 | .succ a, b, h => by
  cases b <;> simp [Lv.enc] at h
  rw [enc_inj h]
 | .max a1 a2, b, h => by
  cases b <;> simp [Lv.enc] at h
  rw [enc_inj h.1, enc_inj h.2]
 | .imax a1 a2, b, h => by
  cases b <;> simp [Lv.enc] at h
  rw [enc_inj h.1, enc_inj h.2]
end Go.Ab
end
section
namespace Go.Ab
def kcheck : TK → TypeDesc → Bool
 | .bool, .bool => true
 | .int k, .int k' => decide (k = k')
 | .string, .string => true
 | .pointer e, .pointer e' => e == e'
 | .slice e, .slice e' => e == e'
 | .array n e, .array n' e' => n == n' && e == e'
 | .struct fs, .struct fields => fields.toList.map (fun f => (f.offset, f.type)) == fs
 | .iface, .interface _ => true
 | .func, .func .. => true
 | .map k e, .map k' e' => k == k' && e == e'
 | .tuple _, .tuple _ => true
 | .other, .struct _ => false
 | .other, .array .. => false
 | .other, .interface _ => false
 | .other, _ => true
 | _, _ => false
theorem kcheck_ok {k : TK} {d : TypeDesc} (h : kcheck k d = true) : KOk k d := by
 unfold kcheck at h
 split at h <;> simp_all [KOk]
def tcheck (P : Program) (t : TypeId) (i : TI) : Bool :=
  match P.info? t with
  | none => false
  | some info => info.size == i.size && info.bytes == i.bytes &&
    (match i.kind with
     | .tuple _ => true
     | _ => match info.zero with
       | none => false
       | some z => z.cells.toList.length == i.zero.length && i.zero.length == i.size && (i.zero.zip z.cells.toList).all fun p => zmatch p.1 p.2) &&
    (match P.underlying t with | none => false | some d => kcheck i.kind d)
theorem tcheck_ok {P : Program} {t : TypeId} {i : TI} (h : tcheck P t i = true) : TOk P t i := by
 unfold tcheck at h
 split at h
 ·simp at h
 ·rename_i info hinfo
  simp only [Bool.and_eq_true, beq_iff_eq] at h
  obtain ⟨⟨⟨h1, h2⟩, h3⟩, h4⟩ := h
  refine ⟨⟨info, hinfo, h1, h2⟩, ?_, ?_⟩
  ·split at h3
   ·rename_i n hn; exact .inl ⟨n, hn⟩
   ·split at h3
    ·simp at h3
    ·rename_i z hz
     simp only [Bool.and_eq_true, beq_iff_eq, List.all_eq_true] at h3
     obtain ⟨⟨g1, g2⟩, g3⟩ := h3
     refine .inr ⟨info, z, hinfo, hz, g1, g2, fun j v c hv hc => ?_⟩
     exact g3 (v, c) (List.mem_iff_getElem?.2 ⟨j, by rw [List.getElem?_zip_eq_some]; exact ⟨hv, hc⟩⟩)
  ·split at h4
   ·simp at h4
   ·rename_i d hd
    exact ⟨d, hd, kcheck_ok h4⟩
theorem look_ok {P : Program} : ∀ {L : List (TypeId × TI)}, L.all (fun p => tcheck P p.1 p.2) = true → ∀ t i, look L t = some i → TOk P t i
 | [], _, t, i, h => by simp [look] at h
 | (u, j) :: rest, hl, t, i, h => by
  simp only [List.all_cons, Bool.and_eq_true] at hl
  simp only [look] at h
  cases hb : Nat.beq u t with
  | true =>
   rw [hb] at h
   have := Nat.eq_of_beq_eq_true hb
   subst this
   simp only [cond_true, Option.some.injEq] at h
   subst h
   exact tcheck_ok hl.1
  | false =>
   rw [hb] at h
   exact look_ok hl.2 t i h
def lookF : List (FuncId × FDef) → FuncId → Option FDef
 | [], _ => none
 | (t, i) :: rest, u => bif Nat.beq t u then some i else lookF rest u
theorem lookF_ok {P : Program} {Q : FuncId → FDef → Prop} : ∀ {L : List (FuncId × FDef)}, (∀ p ∈ L, Q p.1 p.2) → ∀ f d, lookF L f = some d → Q f d
 | [], _, f, d, h => by simp [lookF] at h
 | (u, j) :: rest, hl, f, d, h => by
  simp only [lookF] at h
  cases hb : Nat.beq u f with
  | true =>
   rw [hb] at h
   have := Nat.eq_of_beq_eq_true hb
   subst this
   simp only [cond_true, Option.some.injEq] at h
   subst h
   exact hl _ (List.mem_cons_self ..)
  | false =>
   rw [hb] at h
   exact lookF_ok (P := P) (fun p hp => hl p (List.mem_cons_of_mem _ hp)) f d h
end Go.Ab
end
section
namespace Go.Ab
open Go.RowKit Go.Maps
abbrev Dm := DataW Unit
def keyL (s : ByteArray) : Lit := .string s.data.toList
theorem keyL_inj {s t : ByteArray} (h : keyL s = keyL t) : s = t := by
 have h1 : s.data.toList = t.data.toList := by simpa [keyL] using h
 apply ByteArray.ext
 exact Array.toList_inj.1 h1
theorem keyL_ne {s t : ByteArray} (h : s ≠ t) : keyL s ≠ keyL t := fun e => h (keyL_inj e)
theorem keyL_is (s : ByteArray) : WideAt.IsKeyLit (keyL s) := trivial
def Reads (D : Dm) (f : ByteArray → Option Nat) : Prop := ∀ s, match f s with
 | none => Maps.has D (keyL s) = false
 | some n => Maps.has D (keyL s) = true ∧ ∀ z, D.atKey (keyL s) z = .lit (.int .i64 (n : Int))
def upd1 (f : ByteArray → Option Nat) (s : ByteArray) (x : Option Nat) : ByteArray → Option Nat := fun q => if q = s then x else f q
theorem Reads.nil : Reads (.map []) (fun _ => none) := fun _ => rfl
theorem Reads.put {D : Dm} {f : ByteArray → Option Nat} (h : Reads D f) (hD : IsMap D) (s : ByteArray) (n : Nat) : Reads (D.put (keyL s) (.lit (.int .i64 (n : Int)))) (upd1 f s (some n)) := by
 intro q
 unfold upd1
 by_cases hq : q = s
 ·subst hq
  rw [if_pos rfl]
  exact ⟨has_put_same hD (keyL_is q) _, fun z => atKey_put_same hD (keyL_is q) _ z⟩
 ·rw [if_neg hq]
  have := h q
  cases hf : f q with
  | none => rw [hf] at this; show Maps.has _ _ = false; rw [has_put_other (keyL_ne hq)]; exact this
  | some m => rw [hf] at this; exact ⟨by rw [has_put_other (keyL_ne hq)]; exact this.1, fun z => by rw [atKey_put_other (keyL_ne hq)]; exact this.2 z⟩
theorem Reads.has {D : Dm} {f : ByteArray → Option Nat} (h : Reads D f) (s : ByteArray) : Maps.has D (keyL s) = (f s).isSome := by
 have := h s
 cases hf : f s with
 | none => rw [hf] at this; exact this
 | some n => rw [hf] at this; exact this.1
theorem Reads.look {D : Dm} {f : ByteArray → Option Nat} (h : Reads D f) {s : ByteArray} {c : Int} (hc : D.atKey (keyL s) (.lit (.int .i64 0)) = .lit (.int .i64 c)) : c = (((f s).getD 0 : Nat) : Int) := by
 have := h s
 cases hf : f s with
 | none =>
  rw [hf] at this
  rw [atKey_of_not_has this] at hc
  simp at hc
  exact hc.symm
 | some n =>
  rw [hf] at this
  rw [this.2] at hc
  simp at hc
  exact hc.symm
section
variable {P : Program} {k e t : TypeId}
def MapAt (P : Program) (k e : TypeId) (w : World) (b n : Nat) (f : ByteArray → Option Nat) : Prop := ∃ D : Dm, w.ownsMap P k (plainElem P e) b n D ∧ Reads D f
theorem MapAt.made (w : World) : MapAt P k e (w.alloc (.map #[] 0)) w.heap.size 0 (fun _ => none) := ⟨_, World.ownsMap_made w P k _, Reads.nil⟩
theorem MapAt.lt {w : World} {b n : Nat} {f : ByteArray → Option Nat} (h : MapAt P k e w b n f) : b < w.heap.size := by obtain ⟨D, h1, _⟩ := h; exact h1.lt
theorem MapAt.mono {w : World} {b n n' : Nat} {f : ByteArray → Option Nat} (h : MapAt P k e w b n f) (hn : n ≤ n') : MapAt P k e w b n' f := by obtain ⟨D, h1, h2⟩ := h; exact ⟨D, h1.mono hn, h2⟩
theorem MapAt.kept {w w' : World} {b n : Nat} {f : ByteArray → Option Nat} (h : MapAt P k e w b n f) (hb : w'.heap[b]? = w.heap[b]?) : MapAt P k e w' b n f := by
 obtain ⟨D, ⟨es, clock, h1, h2, h3, h4⟩, h5⟩ := h
 exact ⟨D, ⟨es, clock, hb.trans h1, h2, h3, h4⟩, h5⟩
theorem MapAt.alloc {w : World} {b n : Nat} {f : ByteArray → Option Nat} (h : MapAt P k e w b n f) (o : Obj) : MapAt P k e (w.alloc o) b n f := h.kept (Below.heap_alloc w o b h.lt)
theorem MapAt.drew {w : World} {b n : Nat} {f : ByteArray → Option Nat} (h : MapAt P k e w b n f) : MapAt P k e w.drew b n f := h.kept rfl
theorem MapAt.setCell {w : World} {b n : Nat} {f : ByteArray → Option Nat} (h : MapAt P k e w b n f) (p : Addr) (hp : b ≠ p.block) (u : Value) : MapAt P k e (w.setCell p u) b n f := h.kept (Below.heap_setCell w p u b hp)
variable (w : World) {ops : Array Oper} {rest : List Oper} {o : Oper} {a : Act} {Q : Exit → Act → World → Prop}
def RangeAt (P : Program) (k e : TypeId) (w : World) (b r n : Nat) (f : ByteArray → Option Nat) (left : ByteArray → Bool) (cnt : Nat) : Prop :=
 ∃ (D : Dm) (l : Lit → Bool), w.ranges P k (plainElem P e) b r n D l cnt ∧ Reads D f ∧ ∀ s, left s = l (keyL s)
theorem RangeAt.map {w : World} {b r n : Nat} {f : ByteArray → Option Nat} {left : ByteArray → Bool} {cnt : Nat} (h : RangeAt P k e w b r n f left cnt) : MapAt P k e w b n f := by obtain ⟨D, l, h1, h2, _⟩ := h; exact ⟨D, h1.owns, h2⟩
theorem RangeAt.ne {w : World} {b r n : Nat} {f : ByteArray → Option Nat} {left : ByteArray → Bool} {cnt : Nat} (h : RangeAt P k e w b r n f left cnt) : r ≠ b := by obtain ⟨D, l, h1, _⟩ := h; exact h1.ne
theorem RangeAt.lt {w : World} {b r n : Nat} {f : ByteArray → Option Nat} {left : ByteArray → Bool} {cnt : Nat} (h : RangeAt P k e w b r n f left cnt) : r < w.heap.size := by obtain ⟨D, l, h1, _⟩ := h; exact h1.lt
theorem RangeAt.kept {w w' : World} {row : Option Nat} {b r n : Nat} {f : ByteArray → Option Nat} {left : ByteArray → Bool} {cnt : Nat} (h : RangeAt P k e w b r n f left cnt) (hg : w.grownBy w' row) (hb : some b ≠ row) (hr : some r ≠ row) : RangeAt P k e w' b r n f left cnt := by
 obtain ⟨D, l, h1, h2, h3⟩ := h
 exact ⟨D, l, h1.kept hg hb hr, h2, h3⟩
end
theorem cell_new {w : World} {cs : Array Value} {t : TypeId} {fr : Nat × Nat} {b o : Nat} (hb : b = w.heap.size) : (w.alloc (.cells cs t fr)).cell? ⟨b, o, none⟩ = cs[o]? := by
 subst hb
 simp only [World.cell?, (MapKept.heap_alloc w (.cells cs t fr)).1]
 rfl
structure OffB (S : Nat → Prop) (w w' : World) : Prop where
 os : w'.os = w.os
 tape : w'.tape = w.tape
 output : w'.output = w.output
 size : w.heap.size ≤ w'.heap.size
 block : ∀ i, i < w.heap.size → ¬ S i → w'.heap[i]? = w.heap[i]?
section
variable {S T : Nat → Prop} {w w1 w2 : World}
theorem OffB.refl (S : Nat → Prop) (w : World) : OffB S w w := ⟨rfl, rfl, rfl, Nat.le_refl _, fun _ _ _ => rfl⟩
theorem OffB.trans (h : OffB S w w1) (k : OffB T w1 w2) (hT : ∀ i, i < w.heap.size → T i → S i) : OffB S w w2 :=
 ⟨k.os.trans h.os, k.tape.trans h.tape, k.output.trans h.output, Nat.le_trans h.size k.size, fun i hi hs => (k.block i (Nat.lt_of_lt_of_le hi h.size) (fun ht => hs (hT i hi ht))).trans (h.block i hi hs)⟩
theorem OffB.mono (h : OffB S w w1) (hT : ∀ i, i < w.heap.size → S i → T i) : OffB T w w1 := ⟨h.os, h.tape, h.output, h.size, fun i hi ht => h.block i hi fun hs => ht (hT i hi hs)⟩
theorem OffB.alloc (h : OffB S w w1) (o : Obj) : OffB S w (w1.alloc o) :=
 ⟨h.os, h.tape, h.output, by have := h.size; simp; omega, fun i hi hs => (Below.heap_alloc w1 o i (Nat.lt_of_lt_of_le hi h.size)).trans (h.block i hi hs)⟩
theorem OffB.drew (h : OffB S w w1) : OffB S w w1.drew := ⟨h.os, h.tape, h.output, h.size, h.block⟩
theorem OffB.setCell (h : OffB S w w1) (p : Addr) (hp : p.block < w.heap.size → S p.block) (u : Value) : OffB S w (w1.setCell p u) :=
 ⟨h.os, h.tape, h.output, by simp [World.setCell]; exact h.size, fun i hi hs => (Below.heap_setCell w1 p u i (fun e => hs (by subst e; exact hp hi))).trans (h.block i hi hs)⟩
theorem OffB.grown (h : OffB S w w1) {row : Option Nat} (k : w1.grownBy w2 row) (hr : ∀ b, row = some b → b < w.heap.size → S b) : OffB S w w2 :=
 ⟨k.os.trans h.os, k.tape.trans h.tape, k.output.trans h.output, Nat.le_trans h.size k.size, fun i hi hs => (k.block i (Nat.lt_of_lt_of_le hi h.size) (fun e => hs (hr i e.symm hi))).trans (h.block i hi hs)⟩
theorem OffB.below (h : OffB S w w1) {B : Nat} (hB : B ≤ w.heap.size) (hS : ∀ i, i < B → ¬ S i) : Below B w w1 := ⟨h.os, h.tape, h.output, h.size, fun i hi => h.block i (Nat.lt_of_lt_of_le hi hB) (hS i hi)⟩
theorem OffB.of_below {B : Nat} (h : Below B w w1) (hS : ∀ i, i < w.heap.size → B ≤ i → S i) : OffB S w w1 := ⟨h.os, h.tape, h.output, h.size, fun i hi hs => h.block i (by
 rcases Nat.lt_or_ge i B with hb | hb
 ·exact hb
 ·exact absurd (hS i hi hb) hs)⟩
theorem OffB.cell (h : OffB S w w1) {p : Addr} {x : Value} (hx : w.cell? p = some x) (hs : ¬ S p.block) : w1.cell? p = some x := by
 have hlt := World.block_lt_of_cell? _ _ hx
 rw [World.cell?_of_block (w := w) (h.block p.block hlt hs)]
 exact hx
theorem OffB.frozen (h : OffB S w w1) {p : Addr} (hlt : p.block < w.heap.size) (hs : ¬ S p.block) : w1.frozen? p = w.frozen? p := World.frozen?_of_block (w := w) (h.block p.block hlt hs)
theorem OffB.map {P : Program} {k e : TypeId} {b n : Nat} {f : ByteArray → Option Nat} (h : OffB S w w1) (hm : MapAt P k e w b n f) (hs : ¬ S b) : MapAt P k e w1 b n f := hm.kept (h.block b hm.lt hs)
end
end Go.Ab
end
