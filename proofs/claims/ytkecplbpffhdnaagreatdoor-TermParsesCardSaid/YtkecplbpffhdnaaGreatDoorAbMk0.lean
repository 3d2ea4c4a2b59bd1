/- strings.Builder's copyCheck and String: what they come to, over what the program's own functions are shown to do. Levels as trees, and how they are laid. What a context's tables must be: looked at by computation. AbMk0: printed by program: functions of the program, their code told as plain Lean, and the equations. -/
import Derived.Test.YtkecplbpffhdnaaGreatDoorAbLim
import Derived.Test.YtkecplbpffhdnaaGreatDoorProg
set_option linter.unusedSimpArgs false
set_option linter.unusedVariables false
set_option linter.deprecated false
section
namespace Go.Ab

def bytesL (l : List UInt8) : List (List V) := l.map fun b => [.int .u8 b.toNat]
theorem bytesV_eq (s : ByteArray) : bytesV s = bytesL s.data.toList := rfl
theorem bytesL_append (a b : List UInt8) : bytesL (a ++ b) = bytesL a ++ bytesL b := by simp [bytesL]
theorem bytesL_length (a : List UInt8) : (bytesL a).length = a.length := by simp [bytesL]

def unbyte : List V → Option UInt8
  | [.int .u8 n] => if 0 ≤ n ∧ n < 256 then some (UInt8.ofNat n.toNat) else none
  | _ => none
def unbytes : List (List V) → Option (List UInt8)
  | [] => some []
  | e :: es => (unbyte e).bind fun b => (unbytes es).bind fun l => some (b :: l)
theorem unbyte_byte (b : UInt8) : unbyte [.int .u8 b.toNat] = some b := by
  have h : (b.toNat : Int) < 256 := by have := b.toNat_lt; omega
  simp [unbyte, h]
theorem unbytes_bytesL : ∀ l, unbytes (bytesL l) = some l
  | [] => rfl
  | b :: l => by
    have := unbytes_bytesL l
    simp only [bytesL, List.map_cons] at *
    rw [unbytes, unbyte_byte]
    simp only [Option.bind_some]
    rw [this]; rfl
theorem unbyte_inv {e : List V} {b : UInt8} (h : unbyte e = some b) : e = [.int .u8 b.toNat] := by
  unfold unbyte at h
  split at h
  · split at h
    · rename_i n hn
      obtain rfl := Option.some.inj h
      have : (UInt8.ofNat n.toNat).toNat = n.toNat := by
        rw [UInt8.toNat_ofNat']; omega
      rw [this]
      congr 2
      omega
    · simp at h
  · simp at h
theorem unbytes_inv : ∀ {es : List (List V)} {l : List UInt8}, unbytes es = some l → es = bytesL l
  | [], l, h => by simp [unbytes] at h; subst h; rfl
  | e :: es, l, h => by
    simp only [unbytes] at h
    obtain ⟨b, hb, h⟩ := bind2 h
    obtain ⟨l', hl, h⟩ := bind2 h
    obtain rfl := Option.some.inj h
    rw [unbyte_inv hb, unbytes_inv hl]; rfl

def copyCheckS (T : TypeId) (args : List Cell) (σ : Sto) : Option Res :=
  match args with
  | [(.ptr t b 0, _)] => if t = T then (match σ[b]? with
    | some [(.nilp, _), c] => some (.ret [], σ.set b [(.ptr T b 0, false), c])
    | some [(.ptr t' b' 0, _), _] => if t' = T ∧ b' = b then some (.ret [], σ) else none
    | _ => none) else none
  | _ => none

def bldStringS (T e : TypeId) (args : List Cell) (σ : Sto) : Option Res :=
  match args with
  | [(.ptr t b 0, _)] => if t = T then (match σ[b]? with
    | some [_, (.slice 1 e' es, true)] => if e' = e ∧ es ≠ [] ∧ room es.length = true then (unbytes es).bind fun l => some (.ret [(.str ⟨l.toArray⟩, false)], σ) else none
    | _ => none) else none
  | _ => none

section
variable {P : Program} {C : Ctx}

theorem sinv_inv {gl : Nat → Option (List V)} {G : Gh} {w : World} {σ : Sto} (h : SInv gl G w σ) : Inv gl G (fun _ => 0) { tmps := #[], defers := [] } w { regs := [], locs := [], sto := σ } :=
  ⟨rfl, rfl, rfl, fun r x hx => by simp at hx, fun r cs hc => by simp at hc, h⟩

theorem copyCheck_ok (hC : CtxOk P C) {f : FuncId} {T : TypeId} (hcall : ∀ (args : Array Value) (w : World), (callFunc f args).run P w = .ok (.enter f args) w)
    (hused : ∀ (b : Nat) (w : World), w.cell? ⟨b, 0, none⟩ = some (.pointer (some ⟨b, 0, none⟩)) → Calls P f #[.pointer (some ⟨b, 0, none⟩)] w fun e w' => e = .returned (.tuple #[]) ∧ w' = w)
    (hfresh : ∀ (b : Nat) (w : World), w.cell? ⟨b, 0, none⟩ = some (.pointer none) → w.shape? b = some (T, 2) → w.frozen? ⟨b, 0, none⟩ = false →
      Calls P f #[.pointer (some ⟨b, 0, none⟩)] w fun e w' => e = .returned (.tuple #[]) ∧ w' = w.setCell ⟨b, 0, none⟩ (.pointer (some ⟨b, 0, none⟩))) :
    CallOk P C (fun g args σ => if g = f then copyCheckS T args σ else none) := by
  intro g args σ r h
  simp only at h
  split at h
  case isFalse => simp at h
  rename_i hg
  subst hg
  refine ⟨hcall, fun G w vals hS hcl hlen hv => ?_⟩
  unfold copyCheckS at h
  split at h
  case h_2 => simp at h
  rename_i t b ow
  split at h
  case isFalse => simp at h
  rename_i ht
  subst ht
  obtain ⟨x, rfl⟩ : ∃ x, vals = [x] := by
    match vals, hlen with
    | [x], _ => exact ⟨x, rfl⟩
  have hx := (hv 0 _ x rfl rfl).1
  simp only at hx
  cases hx with
  | ptr _ _ _ hbN hty =>
  have hend : EndRel G w (.ret []) (.returned (.tuple #[])) := ⟨[], rfl, by simp, by simp⟩
  split at h
  · rename_i o0 c hb
    obtain rfl := Option.some.inj h
    have hblt : b < σ.length := (List.getElem?_eq_some_iff.1 hb).1
    have hB := hS.blk b _ hb
    obtain ⟨cv, el, g1, g2, g3, g4, g5⟩ := id hB
    obtain ⟨cv', fr', q1⟩ := hS.typed b hblt
    rw [g1] at q1
    obtain ⟨_, rfl, _⟩ : cv = cv' ∧ el = G.ty b ∧ (0, 0) = fr' := by simpa using q1
    simp only [List.length_cons, List.length_nil] at g2
    have hc0 : w.cell? ⟨G.μ b, 0, none⟩ = some (.pointer none) := by
      obtain ⟨y, hy⟩ : ∃ y, cv[0]? = some y := ⟨cv[0], by simp [g2]⟩
      have := (g5 0 _ y rfl hy).1.1
      cases this
      simp only [World.cell?, g1]
      simpa using hy
    have hsh : w.shape? (G.μ b) = some (t, 2) := by rw [← hty]; simp [World.shape?, g1, g2]
    have hfz : w.frozen? ⟨G.μ b, 0, none⟩ = false := by simp [World.frozen?, g1]
    refine (hfresh (G.μ b) w hc0 hsh hfz).mono fun e w' ⟨he, hw⟩ => ?_
    subst he; subst hw
    have hrel : Rel G w (.ptr t b 0) (.pointer (some ⟨G.μ b, 0, none⟩)) := .ptr _ _ _ hbN hty
    obtain ⟨w1, w2, w3, w4, w5⟩ := write_block (P := P) hS.wf hB (by simp) 0 [.pointer (some ⟨G.μ b, 0, none⟩)] [(.ptr t b 0, false)] rfl (by simp) (fun j c x hc hx => by
      match j with
      | 0 => simp at hc hx; subst hc; subst hx; exact ⟨⟨hrel, fun ho => by simp at ho⟩, rfl⟩
      | j + 1 => simp at hc)
    have htt : ∃ cv fr, (putCells w (G.μ b) 0 [.pointer (some ⟨G.μ b, 0, none⟩)]).heap[G.μ b]? = some (.cells cv (G.ty b) fr) := by
      rw [putCells_heap, if_pos rfl, g1]
      exact ⟨_, _, rfl⟩
    have hI := (sinv_inv hS).setSto (b := b) hblt w2 (w3 _ (by simp)) w4 w5 htt
    have hset : setCells [(V.nilp, o0), c] 0 [(V.ptr t b 0, false)] = [(V.ptr t b 0, false), c] := rfl
    refine ⟨G, w2, by have := hI.sto; rw [hset] at this; exact this, ⟨[], rfl, by simp, by simp⟩⟩
  · rename_i t' b' o0 c hb
    split at h
    case isFalse => simp at h
    rename_i hh
    obtain ⟨rfl, rfl⟩ := hh
    obtain rfl := Option.some.inj h
    have hB := hS.blk b' _ hb
    obtain ⟨cv, el, g1, g2, g3, g4, g5⟩ := id hB
    simp only [List.length_cons, List.length_nil] at g2
    have hc0 : w.cell? ⟨G.μ b', 0, none⟩ = some (.pointer (some ⟨G.μ b', 0, none⟩)) := by
      obtain ⟨y, hy⟩ : ∃ y, cv[0]? = some y := ⟨cv[0], by simp [g2]⟩
      have := (g5 0 _ y rfl hy).1.1
      cases this
      simp only [World.cell?, g1]
      simpa using hy
    refine (hused (G.μ b') w hc0).mono fun e w' ⟨he, hw⟩ => ?_
    subst he; subst hw
    exact ⟨G, Ext.refl _ _, hS, hend⟩
  · simp at h

/-- A row is frozen that is held, as far as it is settled. -/
theorem freeze_other (w : World) (g n : Nat) {i : Nat} (hi : i ≠ g) : (w.freeze ⟨g, 0, none⟩ n).heap[i]? = w.heap[i]? := by
  unfold World.freeze
  split
  · rfl
  · show (w.heap.modify g _)[i]? = _
    rw [Array.getElem?_modify, if_neg (fun h => hi h.symm)]
theorem freeze_at (w : World) (g n : Nat) {cv : Array Value} {e : TypeId} {fr : Nat × Nat} (h : w.heap[g]? = some (.cells cv e fr)) :
    ∃ fr', (w.freeze ⟨g, 0, none⟩ n).heap[g]? = some (.cells cv e fr') ∧ (fr'.2 ≤ fr.2 ∨ fr'.2 ≤ max fr.2 n) := by
  obtain ⟨lo, hi⟩ := fr
  unfold World.freeze
  split
  · exact ⟨_, h, .inl (Nat.le_refl _)⟩
  · have : (w.heap.modify g fun
        | .cells c elem (lo, hi) => .cells c elem (if lo == hi then (0, 0 + n) else (min lo 0, max hi (0 + n)))
        | o => o)[g]? = some (.cells cv e (if lo == hi then (0, 0 + n) else (min lo 0, max hi (0 + n)))) := by
      rw [Array.getElem?_modify, if_pos rfl, h]; rfl
    refine ⟨_, this, .inr ?_⟩
    split <;> simp <;> omega
theorem freeze_cell (w : World) (g n b o : Nat) {cv : Array Value} {e : TypeId} {fr : Nat × Nat} (h : w.heap[g]? = some (.cells cv e fr)) : (w.freeze ⟨g, 0, none⟩ n).cell? ⟨b, o, none⟩ = w.cell? ⟨b, o, none⟩ := by
  by_cases hb : b = g
  · subst hb
    obtain ⟨fr', h1, _⟩ := freeze_at w b n h
    simp only [World.cell?, h, h1]
  · simp only [World.cell?]
    rw [freeze_other w g n hb]

theorem SInv.freeze {gl : Nat → Option (List V)} {G : Gh} {w : World} {σ : Sto} (h : SInv gl G w σ) {g n : Nat} {b0 o0 : Nat} (ho : G.owner g = some (.gc b0 o0)) (hn : n ≤ G.lim g) {cv0 : Array Value} {e0 : TypeId} {fr0 : Nat × Nat} (hg0 : w.heap[g]? = some (.cells cv0 e0 fr0)) :
    Ext G w G (w.freeze ⟨g, 0, none⟩ n) ∧ SInv gl G (w.freeze ⟨g, 0, none⟩ n) σ := by
  have hsz : (w.freeze ⟨g, 0, none⟩ n).heap.size = w.heap.size := by
    unfold World.freeze; split <;> simp
  have hother : ∀ i, i ≠ g → (w.freeze ⟨g, 0, none⟩ n).heap[i]? = w.heap[i]? := fun i hi => freeze_other w g n hi
  have hos : (w.freeze ⟨g, 0, none⟩ n).os = w.os ∧ (w.freeze ⟨g, 0, none⟩ n).tape = w.tape ∧ (w.freeze ⟨g, 0, none⟩ n).output = w.output := by
    unfold World.freeze; split <;> exact ⟨rfl, rfl, rfl⟩
  have hE : Ext G w G (w.freeze ⟨g, 0, none⟩ n) := ⟨Nat.le_refl _, fun _ _ => rfl, fun _ _ => rfl, fun _ => Nat.le_refl _, fun b o _ => freeze_cell w g n b o hg0, hos.1, hos.2.1, hos.2.2, by rw [hsz]; exact Nat.le_refl _, fun i _ hi => ⟨hother i (by rintro rfl; rw [ho] at hi; simp at hi), rfl, hi⟩⟩
  have hown : ∀ (p : Place) (v : V) (c : Value), Own G w p v c → Own G (w.freeze ⟨g, 0, none⟩ n) p v c := by
    intro p v c hh
    unfold Own at *
    split at hh
    · obtain ⟨h1, h2, h3, h4, cv, fr, h5, h6, h7⟩ := hh
      rename_i k e es a m cap
      refine ⟨h1, h2, h3, h4, cv, ?_⟩
      by_cases hg : a.block = g
      · rw [hg] at h5 ⊢
        obtain ⟨fr', k1, k2⟩ := freeze_at w g n h5
        have : n ≤ m * k := by rw [← h4, hg]; exact hn
        exact ⟨fr', k1, h6, by omega⟩
      · exact ⟨fr, by rw [hother _ hg]; exact h5, h6, h7⟩
    · exact hh
    · trivial
  refine ⟨hE, fun i hi => h.wf i (by rw [hsz] at hi; exact hi), fun g' cs hg => (h.glob g' cs hg).mono hE, h.N, fun b hb => ?_, fun b cs hb => ?_⟩
  · obtain ⟨cv, fr, q1⟩ := h.typed b hb
    obtain ⟨_, _, _, _, q3, _⟩ := h.blk b σ[b] (List.getElem?_eq_getElem hb)
    exact ⟨cv, fr, by rw [hother _ (fun hh => by rw [hh, ho] at q3; simp at q3)]; exact q1⟩
  · obtain ⟨cv, el, g1, g2, g3, g4, g5⟩ := h.blk b cs hb
    exact ⟨cv, el, by rw [hother _ (fun hh => by rw [hh, ho] at g3; simp at g3)]; exact g1, g2, g3, g4, fun j c x hc hx => ⟨⟨(g5 j c x hc hx).1.1.mono hE, fun hf => hown _ _ _ ((g5 j c x hc hx).1.2 hf)⟩, (g5 j c x hc hx).2⟩⟩

theorem bldString_ok (hC : CtxOk P C) {f : FuncId} {T e : TypeId} (hcall : ∀ (args : Array Value) (w : World), (callFunc f args).run P w = .ok (.enter f args) w)
    (hstr : ∀ (b g cap cells : Nat) (l : List UInt8) (w : World), l ≠ [] → l.length ≤ cap → l.length ≤ cells → cap ≤ cells → w.cell? ⟨b, 1, none⟩ = some (.slice (some ⟨g, 0, none⟩) l.length cap) → w.shape? g = some (e, cells) → l.length ≤ 9223372036854775807 →
      (∀ j x, l[j]? = some x → w.cell? ⟨g, j, none⟩ = some (.int .u8 x.toNat)) →
      Calls P f #[.pointer (some ⟨b, 0, none⟩)] w fun en w' => en = .returned (.string ⟨l.toArray⟩) ∧ w' = w.drew.freeze ⟨g, 0, none⟩ l.length) :
    CallOk P C (fun g args σ => if g = f then bldStringS T e args σ else none) := by
  intro g args σ r h
  simp only at h
  split at h
  case isFalse => simp at h
  rename_i hg
  subst hg
  refine ⟨hcall, fun G w vals hS hcl hlen hv => ?_⟩
  unfold bldStringS at h
  split at h
  case h_2 => simp at h
  rename_i t b ow
  split at h
  case isFalse => simp at h
  rename_i ht
  subst ht
  obtain ⟨x, rfl⟩ : ∃ x, vals = [x] := by
    match vals, hlen with
    | [x], _ => exact ⟨x, rfl⟩
  have hx := (hv 0 _ x rfl rfl).1
  simp only at hx
  cases hx with
  | ptr _ _ _ hbN hty =>
  split at h
  case h_2 => simp at h
  rename_i c0 e' es hb
  split at h
  case isFalse => simp at h
  rename_i hh
  obtain ⟨rfl, hne, hroom⟩ := hh
  obtain ⟨l, hl, h⟩ := bind2 h
  obtain rfl := Option.some.inj h
  obtain rfl := unbytes_inv hl
  have hl0 : l ≠ [] := by rintro rfl; exact hne rfl
  have hB := hS.blk b _ hb
  obtain ⟨cv, el, g1, g2, g3, g4, g5⟩ := id hB
  simp only [List.length_cons, List.length_nil] at g2
  obtain ⟨y, hy⟩ : ∃ y, cv[1]? = some y := ⟨cv[1], by simp [g2]⟩
  obtain ⟨hcr, _⟩ := g5 1 _ y rfl hy
  obtain ⟨hr, hown⟩ := hcr
  have hown := hown rfl
  have hc1 : w.cell? ⟨G.μ b, 1, none⟩ = some y := by
    simp only [World.cell?, g1]
    simpa using hy
  rcases rel_slice hr with ⟨h0, _⟩ | ⟨gb, off, cap, cs, rfl, r1, r2, r3, r4, r5, r6, r7⟩
  · have : l.length = 0 := by rw [← bytesL_length, h0]; rfl
    exact absurd (List.length_eq_zero_iff.1 this) hl0
  · obtain ⟨o1, _, o3, o4, cv2, fr, o5, o6, o7⟩ := hown
    simp only at o1 o3 o4 o5
    subst o1
    simp only [bytesL_length, Nat.mul_one] at r1 r2 r3 o4 o6 o7
    rw [bytesL_length] at hc1
    have hcells : ∀ j z, l[j]? = some z → w.cell? ⟨gb, j, none⟩ = some (.int .u8 z.toNat) := by
      intro j z hz
      have hj : j < l.length := (List.getElem?_eq_some_iff.1 hz).1
      have he : (bytesL l)[j]? = some [V.int .u8 z.toNat] := by simp [bytesL, hz]
      obtain ⟨xr, hxr⟩ : ∃ xr, cs[j]? = some xr := ⟨cs[j], by rw [List.getElem?_eq_getElem]⟩
      have hlen1 := r5 j xr hxr
      obtain ⟨cc, rfl⟩ : ∃ cc, xr = [cc] := by
        match xr, hlen1 with
        | [cc], _ => exact ⟨cc, rfl⟩
      have hrel := r7 j 0 _ _ _ cc he hxr rfl rfl
      cases hrel
      have := (r6 j 0 _ _ hxr rfl).1
      simpa using this
    have hsh : w.shape? gb = some (e', cv2.size) := by simp [World.shape?, o5]
    have h63 : l.length ≤ 9223372036854775807 := by
      have := log2_bound (of_decide_eq_true hroom)
      rw [bytesL_length] at this
      omega
    refine (hstr (G.μ b) gb cap cv2.size l w hl0 r2 (by omega) o6 hc1 hsh h63 hcells).mono fun en w' ⟨he, hw⟩ => ?_
    subst he; subst hw
    have hS' : SInv C.glob G w.drew σ := (((sinv_inv hS).same (w' := w.drew) rfl rfl rfl rfl)).sto
    obtain ⟨f1, f2⟩ := hS'.freeze (g := gb) (n := l.length) o3 (by omega) (show w.drew.heap[gb]? = _ from o5)
    refine ⟨G, Ext.trans (w1 := w.drew) (Ext.same rfl rfl rfl rfl) f1, f2, [.string ⟨l.toArray⟩], rfl, by simp, fun i c x hc hx => ?_⟩
    match i with
    | 0 => simp at hc hx; subst hc; subst hx; exact ⟨.str _, fun ho => by simp at ho⟩
    | i + 1 => simp at hc
end
end Go.Ab
end
section
namespace Go.Ab

inductive Lv where
  | zero
  | succ (l : Lv)
  | max (a b : Lv)
  | imax (a b : Lv)
  | param (s : ByteArray)
  deriving Inhabited

def Lv.kind : Lv → Int
  | .zero => 0 | .succ _ => 1 | .max .. => 2 | .imax .. => 3 | .param _ => 4
def Lv.name : Lv → ByteArray
  | .param s => s
  | _ => ByteArray.mk #[]
def Lv.enc : Lv → List V
  | .zero => [.int .i64 0, .str (ByteArray.mk #[]), .slice 3 90 []]
  | .succ l => [.int .i64 1, .str (ByteArray.mk #[]), .slice 3 90 [l.enc]]
  | .max a b => [.int .i64 2, .str (ByteArray.mk #[]), .slice 3 90 [a.enc, b.enc]]
  | .imax a b => [.int .i64 3, .str (ByteArray.mk #[]), .slice 3 90 [a.enc, b.enc]]
  | .param s => [.int .i64 4, .str s, .slice 3 90 []]
def Lv.kids : Lv → List Lv
  | .succ l => [l]
  | .max a b => [a, b]
  | .imax a b => [a, b]
  | _ => []
def Lv.args (l : Lv) : List (List V) := l.kids.map Lv.enc
def Lv.size : Lv → Nat
  | .succ l => l.size + 1
  | .max a b => a.size + b.size + 1
  | .imax a b => a.size + b.size + 1
  | _ => 1
theorem Lv.size_pos (l : Lv) : 0 < l.size := by cases l <;> simp [Lv.size]
theorem Lv.enc_eq (l : Lv) : l.enc = [.int .i64 l.kind, .str l.name, .slice 3 90 l.args] := by cases l <;> rfl
theorem Lv.enc_len (l : Lv) : l.enc.length = 3 := by cases l <;> rfl
/-- A level whose three cells are read one by one. -/
theorem Lv.cells (l : Lv) : V.agg [l.enc.getD 0 V.any, l.enc.getD 1 V.any, l.enc.getD 2 V.any] = V.agg [.int .i64 l.kind, .str l.name, .slice 3 90 l.args] := by rw [l.enc_eq]; rfl
theorem Lv.kid_size {l c : Lv} (h : c ∈ l.kids) : c.size < l.size := by
  cases l <;> simp [Lv.kids] at h
  · subst h; simp [Lv.size]
  · rcases h with rfl | rfl <;> simp [Lv.size] <;> omega
  · rcases h with rfl | rfl <;> simp [Lv.size] <;> omega
theorem Lv.ind {P : Lv → Prop} (h : ∀ l, (∀ c ∈ l.kids, P c) → P l) : ∀ l, P l
  | .zero => h _ (by simp [Lv.kids])
  | .param _ => h _ (by simp [Lv.kids])
  | .succ l => h _ (by simp only [Lv.kids, List.mem_cons, List.not_mem_nil, or_false]; rintro c rfl; exact Lv.ind h c)
  | .max a b => h _ (by simp only [Lv.kids, List.mem_cons, List.not_mem_nil, or_false]; rintro c (rfl | rfl) <;> exact Lv.ind h _)
  | .imax a b => h _ (by simp only [Lv.kids, List.mem_cons, List.not_mem_nil, or_false]; rintro c (rfl | rfl) <;> exact Lv.ind h _)

def strs (ss : List ByteArray) : List (List V) := ss.map fun s => [.str s]
def ints (ns : List Int) : List (List V) := ns.map fun n => [.int .i64 n]

theorem wrap_nat {n : Nat} (h : n < 2 ^ 62) : IntKind.wrap .i64 (n : Int) = n := by
  unfold IntKind.wrap
  simp [IntKind.bits, IntKind.signed] <;> omega
theorem wrap_succ {n : Nat} (h : n < 2 ^ 61) : IntKind.wrap .i64 ((n : Int) + 1) = ((n + 1 : Nat) : Int) := by rw [← wrap_nat (n := n + 1) (by omega)]; simp
theorem strs_get {ps : List ByteArray} {i : Nat} (h : i < ps.length) : (strs ps).getD i [] = [V.str ps[i]] := by simp [strs, h]
theorem ints_get {ns : List Int} {i : Nat} (h : i < ns.length) : (ints ns).getD i [] = [V.int .i64 ns[i]] := by simp [ints, h]
theorem strs_length (ps : List ByteArray) : (strs ps).length = ps.length := by simp [strs]
theorem ints_length (ps : List Int) : (ints ps).length = ps.length := by simp [ints]
theorem strs_append (ps qs : List ByteArray) : strs (ps ++ qs) = strs ps ++ strs qs := by simp [strs]
theorem room_ok {n : Nat} (h : n < 2 ^ 34) : room n = true := by
  unfold room
  refine decide_eq_true ?_
  by_cases h0 : n = 0
  · subst h0; simp
  · have := (Nat.log2_lt (k := 34) h0).2 h
    omega
theorem callK_ret1 {call : CallF} {f : FuncId} {args : List Cell} {σ σ' : Sto} {K : List Cell → Sto → Option Res} {KP : V → Sto → Option Res} {c : Cell} (h : call f args σ = some (.ret [c], σ')) :
    callK call f args σ 1 K KP = K [c] σ' := callK_ret h rfl
theorem callK_ret0 {call : CallF} {f : FuncId} {args : List Cell} {σ σ' : Sto} {K : List Cell → Sto → Option Res} {KP : V → Sto → Option Res} (h : call f args σ = some (.ret [], σ')) :
    callK call f args σ 0 K KP = K [] σ' := callK_ret h rfl
theorem dlt {i n : Nat} (h : i < n) : decide ((i : Int) < (n : Int)) = true := by simpa using h
theorem dnlt {i n : Nat} (h : ¬ i < n) : decide ((i : Int) < (n : Int)) = false := by simpa using h
theorem d0 (i : Nat) : decide (0 ≤ (i : Int)) = true := by simp
/-- A child is read. -/
theorem kid_get {L : List Lv} {i : Nat} {c : Lv} (hc : L[i]? = some c) : (L.map Lv.enc).getD (Int.toNat (i : Int)) [] = c.enc := by
  obtain ⟨h, rfl⟩ := List.getElem?_eq_some_iff.1 hc
  simp [h]
theorem drop_cons {α : Type} {L : List α} {i : Nat} {c : α} (hc : L[i]? = some c) : L.drop i = c :: L.drop (i + 1) := by
  obtain ⟨h, rfl⟩ := List.getElem?_eq_some_iff.1 hc
  exact List.drop_eq_getElem_cons h
end Go.Ab
end
section
namespace Go.Ab

def kcheck : TK → TypeDesc → Bool
  | .bool, .bool => true
  | .int k, .int k' => decide (k = k')
  | .string, .string => true
  | .pointer e, .pointer e' => e == e'
  | .slice e, .slice e' => e == e'
  | .array n e, .array n' e' => n == n' && e == e'
  | .struct fs, .struct fields => fields.toList.map (fun f => (f.offset, f.type)) == fs
  | .iface, .interface _ => true
  | .func, .func .. => true
  | .map k e, .map k' e' => k == k' && e == e'
  | .tuple _, .tuple _ => true
  | .other, .struct _ => false
  | .other, .array .. => false
  | .other, .interface _ => false
  | .other, _ => true
  | _, _ => false

theorem kcheck_ok {k : TK} {d : TypeDesc} (h : kcheck k d = true) : KOk k d := by
  unfold kcheck at h
  split at h <;> simp_all [KOk]

def tcheck (P : Program) (t : TypeId) (i : TI) : Bool :=
  match P.info? t with
  | none => false
  | some info => info.size == i.size && info.bytes == i.bytes &&
    (match i.kind with
     | .tuple _ => true
     | _ => match info.zero with
       | none => false
       | some z => z.cells.toList.length == i.zero.length && i.zero.length == i.size && (i.zero.zip z.cells.toList).all fun p => zmatch p.1 p.2) &&
    (match P.underlying t with | none => false | some d => kcheck i.kind d)

theorem tcheck_ok {P : Program} {t : TypeId} {i : TI} (h : tcheck P t i = true) : TOk P t i := by
  unfold tcheck at h
  split at h
  · simp at h
  · rename_i info hinfo
    simp only [Bool.and_eq_true, beq_iff_eq] at h
    obtain ⟨⟨⟨h1, h2⟩, h3⟩, h4⟩ := h
    refine ⟨⟨info, hinfo, h1, h2⟩, ?_, ?_⟩
    · split at h3
      · rename_i n hn; exact .inl ⟨n, hn⟩
      · split at h3
        · simp at h3
        · rename_i z hz
          simp only [Bool.and_eq_true, beq_iff_eq, List.all_eq_true] at h3
          obtain ⟨⟨g1, g2⟩, g3⟩ := h3
          refine .inr ⟨info, z, hinfo, hz, g1, g2, fun j v c hv hc => ?_⟩
          exact g3 (v, c) (List.mem_iff_getElem?.2 ⟨j, by rw [List.getElem?_zip_eq_some]; exact ⟨hv, hc⟩⟩)
    · split at h4
      · simp at h4
      · rename_i d hd
        exact ⟨d, hd, kcheck_ok h4⟩

theorem look_ok {P : Program} : ∀ {L : List (TypeId × TI)}, L.all (fun p => tcheck P p.1 p.2) = true → ∀ t i, look L t = some i → TOk P t i
  | [], _, t, i, h => by simp [look] at h
  | (u, j) :: rest, hl, t, i, h => by
    simp only [List.all_cons, Bool.and_eq_true] at hl
    simp only [look] at h
    cases hb : Nat.beq u t with
    | true =>
      rw [hb] at h
      have := Nat.eq_of_beq_eq_true hb
      subst this
      simp only [cond_true, Option.some.injEq] at h
      subst h
      exact tcheck_ok hl.1
    | false =>
      rw [hb] at h
      exact look_ok hl.2 t i h

/-- A table of functions. -/
def lookF : List (FuncId × FDef) → FuncId → Option FDef
  | [], _ => none
  | (t, i) :: rest, u => bif Nat.beq t u then some i else lookF rest u

theorem lookF_ok {P : Program} {Q : FuncId → FDef → Prop} : ∀ {L : List (FuncId × FDef)}, (∀ p ∈ L, Q p.1 p.2) → ∀ f d, lookF L f = some d → Q f d
  | [], _, f, d, h => by simp [lookF] at h
  | (u, j) :: rest, hl, f, d, h => by
    simp only [lookF] at h
    cases hb : Nat.beq u f with
    | true =>
      rw [hb] at h
      have := Nat.eq_of_beq_eq_true hb
      subst this
      simp only [cond_true, Option.some.injEq] at h
      subst h
      exact hl _ (List.mem_cons_self ..)
    | false =>
      rw [hb] at h
      exact lookF_ok (P := P) (fun p hp => hl p (List.mem_cons_of_mem _ hp)) f d h
end Go.Ab
end
section
set_option maxRecDepth 100000
namespace Go.Ab.Mk
open Go.Proofs Go.Ab
def TL : List (TypeId × TI) := [
  (0, ⟨(.tuple 0), 1, 0, [V.any]⟩),
  (2, ⟨(.int .i64), 1, 8, [(V.int .i64 (0 : Int))]⟩),
  (3, ⟨(.int .i64), 1, 8, [(V.int .i64 (0 : Int))]⟩),
  (4, ⟨.bool, 1, 1, [(V.bool false)]⟩),
  (5, ⟨(.int .u8), 1, 1, [(V.int .u8 (0 : Int))]⟩),
  (9, ⟨.string, 1, 16, [(V.str (ByteArray.mk #[]))]⟩),
  (20, ⟨.iface, 1, 16, [V.nilIface]⟩),
  (27, ⟨(.slice 90), 1, 24, [(V.slice 3 90 [])]⟩),
  (28, ⟨(.slice 30), 1, 24, [(V.slice 5 30 [])]⟩),
  (30, ⟨(.struct [(0, 3), (1, 3), (2, 9), (3, 27), (4, 28)]), 5, 80, [(V.int .i64 (0 : Int)), (V.int .i64 (0 : Int)), (V.str (ByteArray.mk #[])), (V.slice 3 90 []), (V.slice 5 30 [])]⟩),
  (32, ⟨.iface, 1, 16, [V.nilIface]⟩),
  (36, ⟨(.struct [(0, 3), (1, 3)]), 2, 16, [(V.int .i64 (0 : Int)), (V.int .i64 (0 : Int))]⟩),
  (49, ⟨(.slice 9), 1, 24, [(V.slice 1 9 [])]⟩),
  (54, ⟨(.pointer 36), 1, 8, [V.nilp]⟩),
  (57, ⟨(.pointer 69), 1, 8, [V.nilp]⟩),
  (60, ⟨(.pointer 62), 1, 8, [V.nilp]⟩),
  (62, ⟨(.struct [(0, 9), (1, 3), (2, 36)]), 4, 40, [(V.str (ByteArray.mk #[])), (V.int .i64 (0 : Int)), (V.int .i64 (0 : Int)), (V.int .i64 (0 : Int))]⟩),
  (69, ⟨(.struct [(0, 9), (1, 3), (2, 9), (3, 3)]), 4, 48, [(V.str (ByteArray.mk #[])), (V.int .i64 (0 : Int)), (V.str (ByteArray.mk #[])), (V.int .i64 (0 : Int))]⟩),
  (73, ⟨(.slice 5), 1, 24, [(V.slice 1 5 [])]⟩),
  (76, ⟨(.tuple 2), 1, 0, [V.any]⟩),
  (84, ⟨(.tuple 2), 1, 0, [V.any]⟩),
  (88, ⟨(.array 7 9), 7, 112, [(V.str (ByteArray.mk #[])), (V.str (ByteArray.mk #[])), (V.str (ByteArray.mk #[])), (V.str (ByteArray.mk #[])), (V.str (ByteArray.mk #[])), (V.str (ByteArray.mk #[])), (V.str (ByteArray.mk #[]))]⟩),
  (90, ⟨(.struct [(0, 3), (1, 9), (2, 27)]), 3, 48, [(V.int .i64 (0 : Int)), (V.str (ByteArray.mk #[])), (V.slice 3 90 [])]⟩),
  (92, ⟨(.tuple 3), 1, 0, [V.any]⟩),
  (107, ⟨.func, 1, 8, [V.nilFunc]⟩),
  (128, ⟨(.int .i64), 1, 8, [(V.int .i64 (0 : Int))]⟩),
  (129, ⟨(.tuple 2), 1, 0, [V.any]⟩)]
noncomputable def sameLevelH : Hints := { keep := fun i => if i = 0 then [2, 3, 5] else [], steal := [], esc := [], ownres := [], lp := [2, 3, 7, 9, 13, 15, 20, 23, 29, 35, 40], ep := [38, 43], roots := [(2, 2), (3, 3), (7, 2), (9, 3), (13, 2), (15, 3), (20, 2), (23, 3), (29, 2), (35, 2), (40, 3)], ord := fun i => if i = 6 then [0, 1, 2, 3, 4, 5, 6, 7, 8, 9, 10, 11] else [], own := [] }
noncomputable def sameLevelC : Code := Tryz.f56.body.getD .skip
noncomputable def sameLevelD : FDef := ⟨Tryz.f56, sameLevelC, sameLevelH⟩
noncomputable def rlevelH : Hints := { keep := fun i => [], steal := [68, 70, 79], esc := [], ownres := [], lp := [2, 11, 69, 75, 78, 84], ep := [], roots := [(2, 2), (11, 11), (69, 11), (75, 11), (78, 11), (84, 11)], ord := fun i => if i = 26 then [0, 1, 2, 3, 4, 5, 6, 7] else if i = 28 then [0, 1, 2, 3, 4, 5, 6, 7] else [], own := [] }
noncomputable def rlevelC : Code := Tryz.f51.body.getD .skip
noncomputable def rlevelD : FDef := ⟨Tryz.f51, rlevelC, rlevelH⟩
noncomputable def rdoneH : Hints := { keep := fun i => [], steal := [], esc := [], ownres := [], lp := [2], ep := [], roots := [(2, 2)], ord := fun i => [], own := [] }
noncomputable def rdoneC : Code := Tryz.f25.body.getD .skip
noncomputable def rdoneD : FDef := ⟨Tryz.f25, rdoneC, rdoneH⟩
noncomputable def rtokenH : Hints := { keep := fun i => if i = 3 then [0, 5, 6] else if i = 5 then [0, 5, 6, 7, 148, 149, 150, 151, 154, 155, 156, 157, 158, 159, 160, 161, 162, 163, 164, 165, 166] else if i = 0 then [0, 5, 73, 74, 86, 87, 88, 89, 90, 91, 92, 105, 106, 107, 108, 109, 110, 120, 121, 122, 123, 124, 125, 126, 129, 130, 131, 132, 133, 134, 135, 148, 149, 150, 151, 154, 155, 156, 157, 158, 159, 160, 161, 162, 163, 164, 165, 166] else [], steal := [], esc := [], ownres := [], lp := [], ep := [], roots := [], ord := fun i => [], own := [] }
noncomputable def rtokenC : Code := Tryz.f47.body.getD .skip
noncomputable def rtokenD : FDef := ⟨Tryz.f47, rtokenC, rtokenH⟩
noncomputable def isNameH : Hints := { keep := fun i => [], steal := [], esc := [], ownres := [], lp := [], ep := [], roots := [], ord := fun i => [], own := [] }
noncomputable def isNameC : Code := Tryz.f75.body.getD .skip
noncomputable def isNameD : FDef := ⟨Tryz.f75, isNameC, isNameH⟩
noncomputable def rnextH : Hints := { keep := fun i => [], steal := [], esc := [], ownres := [], lp := [], ep := [], roots := [], ord := fun i => [], own := [] }
noncomputable def rnextC : Code := Tryz.f49.body.getD .skip
noncomputable def rnextD : FDef := ⟨Tryz.f49, rnextC, rnextH⟩
noncomputable def rfailH : Hints := { keep := fun i => [], steal := [], esc := [], ownres := [], lp := [], ep := [], roots := [], ord := fun i => [], own := [] }
noncomputable def rfailC : Code := Tryz.f48.body.getD .skip
noncomputable def rfailD : FDef := ⟨Tryz.f48, rfailC, rfailH⟩
noncomputable def rtakeH : Hints := { keep := fun i => [], steal := [], esc := [], ownres := [], lp := [], ep := [], roots := [], ord := fun i => [], own := [] }
noncomputable def rtakeC : Code := Tryz.f54.body.getD .skip
noncomputable def rtakeD : FDef := ⟨Tryz.f54, rtakeC, rtakeH⟩
noncomputable def nameByteH : Hints := { keep := fun i => [], steal := [], esc := [], ownres := [], lp := [], ep := [], roots := [], ord := fun i => [], own := [] }
noncomputable def nameByteC : Code := Tryz.f74.body.getD .skip
noncomputable def nameByteD : FDef := ⟨Tryz.f74, nameByteC, nameByteH⟩
noncomputable def newScannerH : Hints := { keep := fun i => [], steal := [], esc := [6], ownres := [], lp := [], ep := [], roots := [], ord := fun i => [], own := [] }
noncomputable def newScannerC : Code := Tryz.f21.body.getD .skip
noncomputable def newScannerD : FDef := ⟨Tryz.f21, newScannerC, newScannerH⟩
noncomputable def slevelH : Hints := { keep := fun i => [], steal := [35, 45], esc := [], ownres := [], lp := [2, 3, 25, 28, 31, 34, 40, 41, 44, 50], ep := [], roots := [(2, 2), (3, 3), (25, 3), (28, 3), (31, 3), (34, 3), (40, 3), (41, 3), (44, 3), (50, 3)], ord := fun i => if i = 17 then [0, 1, 2, 3, 4, 5, 6, 7] else if i = 19 then [0, 1, 2, 3, 4, 5, 6, 7] else [], own := [] }
noncomputable def slevelC : Code := Tryz.f45.body.getD .skip
noncomputable def slevelD : FDef := ⟨Tryz.f45, slevelC, slevelH⟩
noncomputable def sendH : Hints := { keep := fun i => [], steal := [], esc := [], ownres := [], lp := [], ep := [], roots := [], ord := fun i => [], own := [] }
noncomputable def sendC : Code := Tryz.f23.body.getD .skip
noncomputable def sendD : FDef := ⟨Tryz.f23, sendC, sendH⟩
noncomputable def sstepH : Hints := { keep := fun i => [], steal := [], esc := [], ownres := [], lp := [], ep := [], roots := [], ord := fun i => if i = 1 then [0, 1, 2, 3, 4, 5, 6, 7, 8, 9] else if i = 4 then [0, 1, 2, 3, 4, 5, 6, 7, 8, 9] else if i = 21 then [0, 1, 2, 3, 4, 5, 6, 7, 8, 9, 10, 11, 12, 13, 14, 15, 16, 17, 18] else [], own := [] }
noncomputable def sstepC : Code := Tryz.f39.body.getD .skip
noncomputable def sstepD : FDef := ⟨Tryz.f39, sstepC, sstepH⟩
noncomputable def sfailH : Hints := { keep := fun i => [], steal := [], esc := [7], ownres := [], lp := [], ep := [], roots := [], ord := fun i => [], own := [] }
noncomputable def sfailC : Code := Tryz.f42.body.getD .skip
noncomputable def sfailD : FDef := ⟨Tryz.f42, sfailC, sfailH⟩
noncomputable def stakeH : Hints := { keep := fun i => [], steal := [], esc := [], ownres := [], lp := [], ep := [], roots := [], ord := fun i => [], own := [] }
noncomputable def stakeC : Code := Tryz.f43.body.getD .skip
noncomputable def stakeD : FDef := ⟨Tryz.f43, stakeC, stakeH⟩
noncomputable def snameH : Hints := { keep := fun i => [], steal := [], esc := [], ownres := [], lp := [], ep := [], roots := [], ord := fun i => [], own := [] }
noncomputable def snameC : Code := Tryz.f46.body.getD .skip
noncomputable def snameD : FDef := ⟨Tryz.f46, snameC, snameH⟩
noncomputable def srunH : Hints := { keep := fun i => if i = 0 then [0, 1, 2] else [], steal := [], esc := [], ownres := [], lp := [], ep := [], roots := [], ord := fun i => [], own := [] }
noncomputable def srunC : Code := Tryz.f66.body.getD .skip
noncomputable def srunD : FDef := ⟨Tryz.f66, srunC, srunH⟩
noncomputable def sblankH : Hints := { keep := fun i => [], steal := [], esc := [], ownres := [], lp := [], ep := [], roots := [], ord := fun i => [], own := [] }
noncomputable def sblankC : Code := Tryz.f67.body.getD .skip
noncomputable def sblankD : FDef := ⟨Tryz.f67, sblankC, sblankH⟩
noncomputable def letterH : Hints := { keep := fun i => [], steal := [], esc := [], ownres := [], lp := [], ep := [], roots := [], ord := fun i => [], own := [] }
noncomputable def letterC : Code := Tryz.f68.body.getD .skip
noncomputable def letterD : FDef := ⟨Tryz.f68, letterC, letterH⟩
noncomputable def snmbH : Hints := { keep := fun i => [], steal := [], esc := [], ownres := [], lp := [], ep := [], roots := [], ord := fun i => [], own := [] }
noncomputable def snmbC : Code := Tryz.f69.body.getD .skip
noncomputable def snmbD : FDef := ⟨Tryz.f69, snmbC, snmbH⟩
noncomputable def digitH : Hints := { keep := fun i => [], steal := [], esc := [], ownres := [], lp := [], ep := [], roots := [], ord := fun i => [], own := [] }
noncomputable def digitC : Code := Tryz.f70.body.getD .skip
noncomputable def digitD : FDef := ⟨Tryz.f70, digitC, digitH⟩
noncomputable def indexH : Hints := { keep := fun i => if i = 0 then [0, 1, 7, 8] else [], steal := [], esc := [], ownres := [], lp := [], ep := [14], roots := [], ord := fun i => [], own := [] }
noncomputable def indexC : Code := Tryz.f44.body.getD .skip
noncomputable def indexD : FDef := ⟨Tryz.f44, indexC, indexH⟩
noncomputable def readH : Hints := { keep := fun i => if i = 3 then [0, 2, 8, 75, 76] else if i = 1 then [0, 2, 8, 9] else [], steal := [48, 67, 79], esc := [], ownres := [], lp := [2, 8, 55, 60, 66, 72, 78, 84], ep := [], roots := [(2, 2), (8, 8), (55, 8), (60, 8), (66, 8), (72, 8), (78, 8), (84, 8)], ord := fun i => if i = 9 then [0, 1, 2, 3, 4, 5, 6, 7] else if i = 21 then [0, 1, 2, 3, 4, 5, 6, 7] else if i = 26 then [0, 1, 2, 3, 4, 5, 6, 7] else [], own := [] }
noncomputable def readC : Code := Tryz.f22.body.getD .skip
noncomputable def readD : FDef := ⟨Tryz.f22, readC, readH⟩
noncomputable def rtermH : Hints := { keep := fun i => if i = 5 then [0, 2, 11, 12, 13] else if i = 3 then [0, 2, 11, 12] else if i = 0 then [0, 2, 6, 7, 9, 10, 105, 106, 107] else [], steal := [82, 87, 110, 124], esc := [], ownres := [], lp := [2, 11, 86, 92, 97, 109, 115, 123, 129], ep := [68], roots := [(2, 2), (11, 11), (86, 11), (92, 11), (97, 11), (109, 11), (115, 11), (123, 11), (129, 11)], ord := fun i => if i = 25 then [0, 1, 2, 3, 4, 5, 6, 7] else if i = 31 then [0, 1, 2, 3, 4, 5, 6, 7] else if i = 37 then [0, 1, 2, 3, 4, 5, 6, 7] else [], own := [] }
noncomputable def rtermC : Code := Tryz.f24.body.getD .skip
noncomputable def rtermD : FDef := ⟨Tryz.f24, rtermC, rtermH⟩
noncomputable def parseTermH : Hints := { keep := fun i => [], steal := [], esc := [14], ownres := [], lp := [2, 3, 5, 6, 19], ep := [], roots := [(2, 2), (3, 3), (5, 5), (6, 6), (19, 6)], ord := fun i => if i = 7 then [0, 1, 2, 3] else if i = 8 then [0, 1, 2, 3] else [], own := [] }
noncomputable def parseTermC : Code := Tryz.f8.body.getD .skip
noncomputable def parseTermD : FDef := ⟨Tryz.f8, parseTermC, parseTermH⟩
noncomputable def sameTermH : Hints := { keep := fun i => [], steal := [], esc := [], ownres := [], lp := [2, 3], ep := [], roots := [(2, 2), (3, 3)], ord := fun i => [], own := [] }
noncomputable def sameTermC : Code := Tryz.f10.body.getD .skip
noncomputable def sameTermD : FDef := ⟨Tryz.f10, sameTermC, sameTermH⟩
noncomputable def alikeH : Hints := { keep := fun i => if i = 2 then [2, 3, 4, 9] else if i = 0 then [2, 3, 4, 7] else [], steal := [], esc := [], ownres := [], lp := [3, 4, 11, 13, 17, 19, 24, 26, 31, 34, 40, 43, 49, 55, 60, 71, 76, 85, 91, 96], ep := [58, 63, 74, 79, 94, 99], roots := [(3, 3), (4, 4), (11, 3), (13, 4), (17, 3), (19, 4), (24, 3), (26, 4), (31, 3), (34, 4), (40, 3), (43, 4), (49, 3), (55, 3), (60, 4), (71, 3), (76, 4), (85, 3), (91, 3), (96, 4)], ord := fun i => if i = 6 then [0, 1, 2, 3, 4, 5, 6, 7, 8, 9, 10, 11] else if i = 8 then [0, 1, 2, 3, 4, 5, 6, 7, 8, 9, 10, 11] else if i = 14 then [0, 1, 2, 3, 4, 5, 6, 7, 8, 9, 10, 11, 12] else [], own := [] }
noncomputable def alikeC : Code := Tryz.f27.body.getD .skip
noncomputable def alikeD : FDef := ⟨Tryz.f27, alikeC, alikeH⟩
noncomputable def cutPrefixH : Hints := { keep := fun i => [], steal := [], esc := [], ownres := [], lp := [], ep := [], roots := [], ord := fun i => [], own := [] }
noncomputable def cutPrefixC : Code := Tryz.f40.body.getD .skip
noncomputable def cutPrefixD : FDef := ⟨Tryz.f40, cutPrefixC, cutPrefixH⟩
noncomputable def cutPrefix1H : Hints := { keep := fun i => [], steal := [], esc := [], ownres := [], lp := [], ep := [], roots := [], ord := fun i => [], own := [] }
noncomputable def cutPrefix1C : Code := Tryz.f71.body.getD .skip
noncomputable def cutPrefix1D : FDef := ⟨Tryz.f71, cutPrefix1C, cutPrefix1H⟩
noncomputable def hasPrefixH : Hints := { keep := fun i => [], steal := [], esc := [], ownres := [], lp := [], ep := [], roots := [], ord := fun i => [], own := [] }
noncomputable def hasPrefixC : Code := Tryz.f87.body.getD .skip
noncomputable def hasPrefixD : FDef := ⟨Tryz.f87, hasPrefixC, hasPrefixH⟩
noncomputable def numberH : Hints := { keep := fun i => if i = 0 then [0, 3, 4] else [], steal := [], esc := [], ownres := [], lp := [], ep := [], roots := [], ord := fun i => [], own := [] }
noncomputable def numberC : Code := Tryz.f50.body.getD .skip
noncomputable def numberD : FDef := ⟨Tryz.f50, numberC, numberH⟩
noncomputable def rnameH : Hints := { keep := fun i => [], steal := [], esc := [], ownres := [], lp := [], ep := [], roots := [], ord := fun i => [], own := [] }
noncomputable def rnameC : Code := Tryz.f52.body.getD .skip
noncomputable def rnameD : FDef := ⟨Tryz.f52, rnameC, rnameH⟩
noncomputable def rpeekH : Hints := { keep := fun i => [], steal := [], esc := [], ownres := [], lp := [], ep := [], roots := [], ord := fun i => [], own := [] }
noncomputable def rpeekC : Code := Tryz.f53.body.getD .skip
noncomputable def rpeekD : FDef := ⟨Tryz.f53, rpeekC, rpeekH⟩
noncomputable def atoiH : Hints := { keep := fun i => [], steal := [], esc := [], ownres := [], lp := [], ep := [], roots := [], ord := fun i => [], own := [] }
noncomputable def atoiC : Code := Tryz.f41.body.getD .skip
noncomputable def atoiD : FDef := ⟨Tryz.f41, atoiC, atoiH⟩
noncomputable def iatoiH : Hints := { keep := fun i => if i = 0 then [5, 6, 47, 48, 49] else [], steal := [], esc := [], ownres := [], lp := [], ep := [51], roots := [], ord := fun i => [], own := [] }
noncomputable def iatoiC : Code := Tryz.f72.body.getD .skip
noncomputable def iatoiD : FDef := ⟨Tryz.f72, iatoiC, iatoiH⟩
noncomputable def FL : List (FuncId × FDef) := [(56, sameLevelD), (51, rlevelD), (25, rdoneD), (47, rtokenD), (75, isNameD), (49, rnextD), (48, rfailD), (54, rtakeD), (74, nameByteD), (21, newScannerD), (45, slevelD), (23, sendD), (39, sstepD), (42, sfailD), (43, stakeD), (46, snameD), (66, srunD), (67, sblankD), (68, letterD), (69, snmbD), (70, digitD), (44, indexD), (22, readD), (24, rtermD), (8, parseTermD), (10, sameTermD), (27, alikeD), (40, cutPrefixD), (71, cutPrefix1D), (87, hasPrefixD), (50, numberD), (52, rnameD), (53, rpeekD), (41, atoiD), (72, iatoiD)]
noncomputable def C : Ctx := { T := look TL, glob := fun g => if g = 0 then some [(V.str (ByteArray.mk #[])), (V.str (ByteArray.mk #[115, 111, 114, 116])), (V.str (ByteArray.mk #[99, 111, 110, 115, 116])), (V.str (ByteArray.mk #[97, 112, 112])), (V.str (ByteArray.mk #[108, 97, 109])), (V.str (ByteArray.mk #[112, 105])), (V.str (ByteArray.mk #[108, 101, 116]))] else if g = 1 then some [(V.slice 1 9 [[V.str (ByteArray.mk #[])], [V.str (ByteArray.mk #[115, 111, 114, 116])], [V.str (ByteArray.mk #[99, 111, 110, 115, 116])], [V.str (ByteArray.mk #[97, 112, 112])], [V.str (ByteArray.mk #[108, 97, 109])], [V.str (ByteArray.mk #[112, 105])], [V.str (ByteArray.mk #[108, 101, 116])]])] else if g = 2 then some [V.lit (Value.iface 135 (Value.agg #[Value.pointer (some ⟨10, 32, none⟩)]))] else none, ext := fun _ => none, fdef := lookF FL }
theorem typesOk : ∀ t i, C.T t = some i → TOk Tryz.prog t i := look_ok (by kernel_rfl)
theorem ctxOk : CtxOk Tryz.prog C where
  mixed := by kernel_rfl
  T := typesOk
  fdef := by
    refine lookF_ok (P := Tryz.prog) (Q := fun f d => Tryz.prog.funcs[f]? = some d.fn ∧ d.fn.body = some d.code ∧ (∀ (args : Array Value) (w : World), (callFunc f args).run Tryz.prog w = .ok (.enter f args) w)) (L := FL) ?_
    intro p hp
    simp only [FL, List.mem_cons, List.not_mem_nil, or_false] at hp
    rcases hp with rfl | rfl | rfl | rfl | rfl | rfl | rfl | rfl | rfl | rfl | rfl | rfl | rfl | rfl | rfl | rfl | rfl | rfl | rfl | rfl | rfl | rfl | rfl | rfl | rfl | rfl | rfl | rfl | rfl | rfl | rfl | rfl | rfl | rfl | rfl
    · exact ⟨Tryz.func56, by kernel_rfl, fun args w => Tryz.call56 args w⟩
    · exact ⟨Tryz.func51, by kernel_rfl, fun args w => Tryz.call51 args w⟩
    · exact ⟨Tryz.func25, by kernel_rfl, fun args w => Tryz.call25 args w⟩
    · exact ⟨Tryz.func47, by kernel_rfl, fun args w => Tryz.call47 args w⟩
    · exact ⟨Tryz.func75, by kernel_rfl, fun args w => Tryz.call75 args w⟩
    · exact ⟨Tryz.func49, by kernel_rfl, fun args w => Tryz.call49 args w⟩
    · exact ⟨Tryz.func48, by kernel_rfl, fun args w => Tryz.call48 args w⟩
    · exact ⟨Tryz.func54, by kernel_rfl, fun args w => Tryz.call54 args w⟩
    · exact ⟨Tryz.func74, by kernel_rfl, fun args w => Tryz.call74 args w⟩
    · exact ⟨Tryz.func21, by kernel_rfl, fun args w => Tryz.call21 args w⟩
    · exact ⟨Tryz.func45, by kernel_rfl, fun args w => Tryz.call45 args w⟩
    · exact ⟨Tryz.func23, by kernel_rfl, fun args w => Tryz.call23 args w⟩
    · exact ⟨Tryz.func39, by kernel_rfl, fun args w => Tryz.call39 args w⟩
    · exact ⟨Tryz.func42, by kernel_rfl, fun args w => Tryz.call42 args w⟩
    · exact ⟨Tryz.func43, by kernel_rfl, fun args w => Tryz.call43 args w⟩
    · exact ⟨Tryz.func46, by kernel_rfl, fun args w => Tryz.call46 args w⟩
    · exact ⟨Tryz.func66, by kernel_rfl, fun args w => Tryz.call66 args w⟩
    · exact ⟨Tryz.func67, by kernel_rfl, fun args w => Tryz.call67 args w⟩
    · exact ⟨Tryz.func68, by kernel_rfl, fun args w => Tryz.call68 args w⟩
    · exact ⟨Tryz.func69, by kernel_rfl, fun args w => Tryz.call69 args w⟩
    · exact ⟨Tryz.func70, by kernel_rfl, fun args w => Tryz.call70 args w⟩
    · exact ⟨Tryz.func44, by kernel_rfl, fun args w => Tryz.call44 args w⟩
    · exact ⟨Tryz.func22, by kernel_rfl, fun args w => Tryz.call22 args w⟩
    · exact ⟨Tryz.func24, by kernel_rfl, fun args w => Tryz.call24 args w⟩
    · exact ⟨Tryz.func8, by kernel_rfl, fun args w => Tryz.call8 args w⟩
    · exact ⟨Tryz.func10, by kernel_rfl, fun args w => Tryz.call10 args w⟩
    · exact ⟨Tryz.func27, by kernel_rfl, fun args w => Tryz.call27 args w⟩
    · exact ⟨Tryz.func40, by kernel_rfl, fun args w => Tryz.call40 args w⟩
    · exact ⟨Tryz.func71, by kernel_rfl, fun args w => Tryz.call71 args w⟩
    · exact ⟨Tryz.func87, by kernel_rfl, fun args w => Tryz.call87 args w⟩
    · exact ⟨Tryz.func50, by kernel_rfl, fun args w => Tryz.call50 args w⟩
    · exact ⟨Tryz.func52, by kernel_rfl, fun args w => Tryz.call52 args w⟩
    · exact ⟨Tryz.func53, by kernel_rfl, fun args w => Tryz.call53 args w⟩
    · exact ⟨Tryz.func41, by kernel_rfl, fun args w => Tryz.call41 args w⟩
    · exact ⟨Tryz.func72, by kernel_rfl, fun args w => Tryz.call72 args w⟩
end Go.Ab.Mk
end
