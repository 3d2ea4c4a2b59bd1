/- strings.Builder's copyCheck and String: what they come to, over what the program's own functions are shown to do. -/
import Derived.Test.YtcpdcpgblcapeaaDoorAbLim
set_option linter.unusedSimpArgs false
set_option linter.unusedVariables false
set_option linter.deprecated false
namespace Go.Ab

def bytesL (l : List UInt8) : List (List V) := l.map fun b => [.int .u8 b.toNat]
theorem bytesV_eq (s : ByteArray) : bytesV s = bytesL s.data.toList := rfl
theorem bytesL_append (a b : List UInt8) : bytesL (a ++ b) = bytesL a ++ bytesL b := by simp [bytesL]
theorem bytesL_length (a : List UInt8) : (bytesL a).length = a.length := by simp [bytesL]

def unbyte : List V → Option UInt8
  | [.int .u8 n] => if 0 ≤ n ∧ n < 256 then some (UInt8.ofNat n.toNat) else none
  | _ => none
def unbytes : List (List V) → Option (List UInt8)
  | [] => some []
  | e :: es => (unbyte e).bind fun b => (unbytes es).bind fun l => some (b :: l)
theorem unbyte_byte (b : UInt8) : unbyte [.int .u8 b.toNat] = some b := by
  have h : (b.toNat : Int) < 256 := by have := b.toNat_lt; omega
  simp [unbyte, h]
theorem unbytes_bytesL : ∀ l, unbytes (bytesL l) = some l
  | [] => rfl
  | b :: l => by
    have := unbytes_bytesL l
    simp only [bytesL, List.map_cons] at *
    rw [unbytes, unbyte_byte]
    simp only [Option.bind_some]
    rw [this]; rfl
theorem unbyte_inv {e : List V} {b : UInt8} (h : unbyte e = some b) : e = [.int .u8 b.toNat] := by
  unfold unbyte at h
  split at h
  · split at h
    · rename_i n hn
      obtain rfl := Option.some.inj h
      have : (UInt8.ofNat n.toNat).toNat = n.toNat := by
        rw [UInt8.toNat_ofNat']; omega
      rw [this]
      congr 2
      omega
    · simp at h
  · simp at h
theorem unbytes_inv : ∀ {es : List (List V)} {l : List UInt8}, unbytes es = some l → es = bytesL l
  | [], l, h => by simp [unbytes] at h; subst h; rfl
  | e :: es, l, h => by
    simp only [unbytes] at h
    obtain ⟨b, hb, h⟩ := bind2 h
    obtain ⟨l', hl, h⟩ := bind2 h
    obtain rfl := Option.some.inj h
    rw [unbyte_inv hb, unbytes_inv hl]; rfl

def copyCheckS (T : TypeId) (args : List Cell) (σ : Sto) : Option Res :=
  match args with
  | [(.ptr t b 0, _)] => if t = T then (match σ[b]? with
    | some [(.nilp, _), c] => some (.ret [], σ.set b [(.ptr T b 0, false), c])
    | some [(.ptr t' b' 0, _), _] => if t' = T ∧ b' = b then some (.ret [], σ) else none
    | _ => none) else none
  | _ => none

def bldStringS (T e : TypeId) (args : List Cell) (σ : Sto) : Option Res :=
  match args with
  | [(.ptr t b 0, _)] => if t = T then (match σ[b]? with
    | some [_, (.slice 1 e' es, true)] => if e' = e ∧ es ≠ [] ∧ room es.length = true then (unbytes es).bind fun l => some (.ret [(.str ⟨l.toArray⟩, false)], σ) else none
    | _ => none) else none
  | _ => none

section
variable {P : Program} {C : Ctx}

theorem sinv_inv {gl : Nat → Option (List V)} {G : Gh} {w : World} {σ : Sto} (h : SInv gl G w σ) : Inv gl G (fun _ => 0) { tmps := #[], defers := [] } w { regs := [], locs := [], sto := σ } :=
  ⟨rfl, rfl, rfl, fun r x hx => by simp at hx, fun r cs hc => by simp at hc, h⟩

theorem copyCheck_ok (hC : CtxOk P C) {f : FuncId} {T : TypeId} (hcall : ∀ (args : Array Value) (w : World), (callFunc f args).run P w = .ok (.enter f args) w)
    (hused : ∀ (b : Nat) (w : World), w.cell? ⟨b, 0, none⟩ = some (.pointer (some ⟨b, 0, none⟩)) → Calls P f #[.pointer (some ⟨b, 0, none⟩)] w fun e w' => e = .returned (.tuple #[]) ∧ w' = w)
    (hfresh : ∀ (b : Nat) (w : World), w.cell? ⟨b, 0, none⟩ = some (.pointer none) → w.shape? b = some (T, 2) → w.frozen? ⟨b, 0, none⟩ = false →
      Calls P f #[.pointer (some ⟨b, 0, none⟩)] w fun e w' => e = .returned (.tuple #[]) ∧ w' = w.setCell ⟨b, 0, none⟩ (.pointer (some ⟨b, 0, none⟩))) :
    CallOk P C (fun g args σ => if g = f then copyCheckS T args σ else none) := by
  intro g args σ r h
  simp only at h
  split at h
  case isFalse => simp at h
  rename_i hg
  subst hg
  refine ⟨hcall, fun G w vals hS hcl hlen hv => ?_⟩
  unfold copyCheckS at h
  split at h
  case h_2 => simp at h
  rename_i t b ow
  split at h
  case isFalse => simp at h
  rename_i ht
  subst ht
  obtain ⟨x, rfl⟩ : ∃ x, vals = [x] := by
    match vals, hlen with
    | [x], _ => exact ⟨x, rfl⟩
  have hx := (hv 0 _ x rfl rfl).1
  simp only at hx
  cases hx with
  | ptr _ _ _ hbN hty =>
  have hend : EndRel G w (.ret []) (.returned (.tuple #[])) := ⟨[], rfl, by simp, by simp⟩
  split at h
  · rename_i o0 c hb
    obtain rfl := Option.some.inj h
    have hblt : b < σ.length := (List.getElem?_eq_some_iff.1 hb).1
    have hB := hS.blk b _ hb
    obtain ⟨cv, el, g1, g2, g3, g4, g5⟩ := id hB
    obtain ⟨cv', fr', q1⟩ := hS.typed b hblt
    rw [g1] at q1
    obtain ⟨_, rfl, _⟩ : cv = cv' ∧ el = G.ty b ∧ (0, 0) = fr' := by simpa using q1
    simp only [List.length_cons, List.length_nil] at g2
    have hc0 : w.cell? ⟨G.μ b, 0, none⟩ = some (.pointer none) := by
      obtain ⟨y, hy⟩ : ∃ y, cv[0]? = some y := ⟨cv[0], by simp [g2]⟩
      have := (g5 0 _ y rfl hy).1.1
      cases this
      simp only [World.cell?, g1]
      simpa using hy
    have hsh : w.shape? (G.μ b) = some (t, 2) := by rw [← hty]; simp [World.shape?, g1, g2]
    have hfz : w.frozen? ⟨G.μ b, 0, none⟩ = false := by simp [World.frozen?, g1]
    refine (hfresh (G.μ b) w hc0 hsh hfz).mono fun e w' ⟨he, hw⟩ => ?_
    subst he; subst hw
    have hrel : Rel G w (.ptr t b 0) (.pointer (some ⟨G.μ b, 0, none⟩)) := .ptr _ _ _ hbN hty
    obtain ⟨w1, w2, w3, w4, w5⟩ := write_block (P := P) hS.wf hB (by simp) 0 [.pointer (some ⟨G.μ b, 0, none⟩)] [(.ptr t b 0, false)] rfl (by simp) (fun j c x hc hx => by
      match j with
      | 0 => simp at hc hx; subst hc; subst hx; exact ⟨⟨hrel, fun ho => by simp at ho⟩, rfl⟩
      | j + 1 => simp at hc)
    have htt : ∃ cv fr, (putCells w (G.μ b) 0 [.pointer (some ⟨G.μ b, 0, none⟩)]).heap[G.μ b]? = some (.cells cv (G.ty b) fr) := by
      rw [putCells_heap, if_pos rfl, g1]
      exact ⟨_, _, rfl⟩
    have hI := (sinv_inv hS).setSto (b := b) hblt w2 (w3 _ (by simp)) w4 w5 htt
    have hset : setCells [(V.nilp, o0), c] 0 [(V.ptr t b 0, false)] = [(V.ptr t b 0, false), c] := rfl
    refine ⟨G, w2, by have := hI.sto; rw [hset] at this; exact this, ⟨[], rfl, by simp, by simp⟩⟩
  · rename_i t' b' o0 c hb
    split at h
    case isFalse => simp at h
    rename_i hh
    obtain ⟨rfl, rfl⟩ := hh
    obtain rfl := Option.some.inj h
    have hB := hS.blk b' _ hb
    obtain ⟨cv, el, g1, g2, g3, g4, g5⟩ := id hB
    simp only [List.length_cons, List.length_nil] at g2
    have hc0 : w.cell? ⟨G.μ b', 0, none⟩ = some (.pointer (some ⟨G.μ b', 0, none⟩)) := by
      obtain ⟨y, hy⟩ : ∃ y, cv[0]? = some y := ⟨cv[0], by simp [g2]⟩
      have := (g5 0 _ y rfl hy).1.1
      cases this
      simp only [World.cell?, g1]
      simpa using hy
    refine (hused (G.μ b') w hc0).mono fun e w' ⟨he, hw⟩ => ?_
    subst he; subst hw
    exact ⟨G, Ext.refl _ _, hS, hend⟩
  · simp at h

/-- A row is frozen that is held, as far as it is settled. -/
theorem freeze_other (w : World) (g n : Nat) {i : Nat} (hi : i ≠ g) : (w.freeze ⟨g, 0, none⟩ n).heap[i]? = w.heap[i]? := by
  unfold World.freeze
  split
  · rfl
  · show (w.heap.modify g _)[i]? = _
    rw [Array.getElem?_modify, if_neg (fun h => hi h.symm)]
theorem freeze_at (w : World) (g n : Nat) {cv : Array Value} {e : TypeId} {fr : Nat × Nat} (h : w.heap[g]? = some (.cells cv e fr)) :
    ∃ fr', (w.freeze ⟨g, 0, none⟩ n).heap[g]? = some (.cells cv e fr') ∧ (fr'.2 ≤ fr.2 ∨ fr'.2 ≤ max fr.2 n) := by
  obtain ⟨lo, hi⟩ := fr
  unfold World.freeze
  split
  · exact ⟨_, h, .inl (Nat.le_refl _)⟩
  · have : (w.heap.modify g fun
        | .cells c elem (lo, hi) => .cells c elem (if lo == hi then (0, 0 + n) else (min lo 0, max hi (0 + n)))
        | o => o)[g]? = some (.cells cv e (if lo == hi then (0, 0 + n) else (min lo 0, max hi (0 + n)))) := by
      rw [Array.getElem?_modify, if_pos rfl, h]; rfl
    refine ⟨_, this, .inr ?_⟩
    split <;> simp <;> omega
theorem freeze_cell (w : World) (g n b o : Nat) {cv : Array Value} {e : TypeId} {fr : Nat × Nat} (h : w.heap[g]? = some (.cells cv e fr)) : (w.freeze ⟨g, 0, none⟩ n).cell? ⟨b, o, none⟩ = w.cell? ⟨b, o, none⟩ := by
  by_cases hb : b = g
  · subst hb
    obtain ⟨fr', h1, _⟩ := freeze_at w b n h
    simp only [World.cell?, h, h1]
  · simp only [World.cell?]
    rw [freeze_other w g n hb]

theorem SInv.freeze {gl : Nat → Option (List V)} {G : Gh} {w : World} {σ : Sto} (h : SInv gl G w σ) {g n : Nat} {b0 o0 : Nat} (ho : G.owner g = some (.gc b0 o0)) (hn : n ≤ G.lim g) {cv0 : Array Value} {e0 : TypeId} {fr0 : Nat × Nat} (hg0 : w.heap[g]? = some (.cells cv0 e0 fr0)) :
    Ext G w G (w.freeze ⟨g, 0, none⟩ n) ∧ SInv gl G (w.freeze ⟨g, 0, none⟩ n) σ := by
  have hsz : (w.freeze ⟨g, 0, none⟩ n).heap.size = w.heap.size := by
    unfold World.freeze; split <;> simp
  have hother : ∀ i, i ≠ g → (w.freeze ⟨g, 0, none⟩ n).heap[i]? = w.heap[i]? := fun i hi => freeze_other w g n hi
  have hos : (w.freeze ⟨g, 0, none⟩ n).os = w.os ∧ (w.freeze ⟨g, 0, none⟩ n).tape = w.tape ∧ (w.freeze ⟨g, 0, none⟩ n).output = w.output := by
    unfold World.freeze; split <;> exact ⟨rfl, rfl, rfl⟩
  have hE : Ext G w G (w.freeze ⟨g, 0, none⟩ n) := ⟨Nat.le_refl _, fun _ _ => rfl, fun _ _ => rfl, fun _ => Nat.le_refl _, fun b o _ => freeze_cell w g n b o hg0, hos.1, hos.2.1, hos.2.2, by rw [hsz]; exact Nat.le_refl _, fun i _ hi => ⟨hother i (by rintro rfl; rw [ho] at hi; simp at hi), rfl, hi⟩⟩
  have hown : ∀ (p : Place) (v : V) (c : Value), Own G w p v c → Own G (w.freeze ⟨g, 0, none⟩ n) p v c := by
    intro p v c hh
    unfold Own at *
    split at hh
    · obtain ⟨h1, h2, h3, h4, cv, fr, h5, h6, h7⟩ := hh
      rename_i k e es a m cap
      refine ⟨h1, h2, h3, h4, cv, ?_⟩
      by_cases hg : a.block = g
      · rw [hg] at h5 ⊢
        obtain ⟨fr', k1, k2⟩ := freeze_at w g n h5
        have : n ≤ m * k := by rw [← h4, hg]; exact hn
        exact ⟨fr', k1, h6, by omega⟩
      · exact ⟨fr, by rw [hother _ hg]; exact h5, h6, h7⟩
    · exact hh
    · trivial
  refine ⟨hE, fun i hi => h.wf i (by rw [hsz] at hi; exact hi), fun g' cs hg => (h.glob g' cs hg).mono hE, h.N, fun b hb => ?_, fun b cs hb => ?_⟩
  · obtain ⟨cv, fr, q1⟩ := h.typed b hb
    obtain ⟨_, _, _, _, q3, _⟩ := h.blk b σ[b] (List.getElem?_eq_getElem hb)
    exact ⟨cv, fr, by rw [hother _ (fun hh => by rw [hh, ho] at q3; simp at q3)]; exact q1⟩
  · obtain ⟨cv, el, g1, g2, g3, g4, g5⟩ := h.blk b cs hb
    exact ⟨cv, el, by rw [hother _ (fun hh => by rw [hh, ho] at g3; simp at g3)]; exact g1, g2, g3, g4, fun j c x hc hx => ⟨⟨(g5 j c x hc hx).1.1.mono hE, fun hf => hown _ _ _ ((g5 j c x hc hx).1.2 hf)⟩, (g5 j c x hc hx).2⟩⟩

theorem bldString_ok (hC : CtxOk P C) {f : FuncId} {T e : TypeId} (hcall : ∀ (args : Array Value) (w : World), (callFunc f args).run P w = .ok (.enter f args) w)
    (hstr : ∀ (b g cap cells : Nat) (l : List UInt8) (w : World), l ≠ [] → l.length ≤ cap → l.length ≤ cells → cap ≤ cells → w.cell? ⟨b, 1, none⟩ = some (.slice (some ⟨g, 0, none⟩) l.length cap) → w.shape? g = some (e, cells) → l.length ≤ 9223372036854775807 →
      (∀ j x, l[j]? = some x → w.cell? ⟨g, j, none⟩ = some (.int .u8 x.toNat)) →
      Calls P f #[.pointer (some ⟨b, 0, none⟩)] w fun en w' => en = .returned (.string ⟨l.toArray⟩) ∧ w' = w.drew.freeze ⟨g, 0, none⟩ l.length) :
    CallOk P C (fun g args σ => if g = f then bldStringS T e args σ else none) := by
  intro g args σ r h
  simp only at h
  split at h
  case isFalse => simp at h
  rename_i hg
  subst hg
  refine ⟨hcall, fun G w vals hS hcl hlen hv => ?_⟩
  unfold bldStringS at h
  split at h
  case h_2 => simp at h
  rename_i t b ow
  split at h
  case isFalse => simp at h
  rename_i ht
  subst ht
  obtain ⟨x, rfl⟩ : ∃ x, vals = [x] := by
    match vals, hlen with
    | [x], _ => exact ⟨x, rfl⟩
  have hx := (hv 0 _ x rfl rfl).1
  simp only at hx
  cases hx with
  | ptr _ _ _ hbN hty =>
  split at h
  case h_2 => simp at h
  rename_i c0 e' es hb
  split at h
  case isFalse => simp at h
  rename_i hh
  obtain ⟨rfl, hne, hroom⟩ := hh
  obtain ⟨l, hl, h⟩ := bind2 h
  obtain rfl := Option.some.inj h
  obtain rfl := unbytes_inv hl
  have hl0 : l ≠ [] := by rintro rfl; exact hne rfl
  have hB := hS.blk b _ hb
  obtain ⟨cv, el, g1, g2, g3, g4, g5⟩ := id hB
  simp only [List.length_cons, List.length_nil] at g2
  obtain ⟨y, hy⟩ : ∃ y, cv[1]? = some y := ⟨cv[1], by simp [g2]⟩
  obtain ⟨hcr, _⟩ := g5 1 _ y rfl hy
  obtain ⟨hr, hown⟩ := hcr
  have hown := hown rfl
  have hc1 : w.cell? ⟨G.μ b, 1, none⟩ = some y := by
    simp only [World.cell?, g1]
    simpa using hy
  rcases rel_slice hr with ⟨h0, _⟩ | ⟨gb, off, cap, cs, rfl, r1, r2, r3, r4, r5, r6, r7⟩
  · have : l.length = 0 := by rw [← bytesL_length, h0]; rfl
    exact absurd (List.length_eq_zero_iff.1 this) hl0
  · obtain ⟨o1, _, o3, o4, cv2, fr, o5, o6, o7⟩ := hown
    simp only at o1 o3 o4 o5
    subst o1
    simp only [bytesL_length, Nat.mul_one] at r1 r2 r3 o4 o6 o7
    rw [bytesL_length] at hc1
    have hcells : ∀ j z, l[j]? = some z → w.cell? ⟨gb, j, none⟩ = some (.int .u8 z.toNat) := by
      intro j z hz
      have hj : j < l.length := (List.getElem?_eq_some_iff.1 hz).1
      have he : (bytesL l)[j]? = some [V.int .u8 z.toNat] := by simp [bytesL, hz]
      obtain ⟨xr, hxr⟩ : ∃ xr, cs[j]? = some xr := ⟨cs[j], by rw [List.getElem?_eq_getElem]⟩
      have hlen1 := r5 j xr hxr
      obtain ⟨cc, rfl⟩ : ∃ cc, xr = [cc] := by
        match xr, hlen1 with
        | [cc], _ => exact ⟨cc, rfl⟩
      have hrel := r7 j 0 _ _ _ cc he hxr rfl rfl
      cases hrel
      have := (r6 j 0 _ _ hxr rfl).1
      simpa using this
    have hsh : w.shape? gb = some (e', cv2.size) := by simp [World.shape?, o5]
    have h63 : l.length ≤ 9223372036854775807 := by
      have := log2_bound (of_decide_eq_true hroom)
      rw [bytesL_length] at this
      omega
    refine (hstr (G.μ b) gb cap cv2.size l w hl0 r2 (by omega) o6 hc1 hsh h63 hcells).mono fun en w' ⟨he, hw⟩ => ?_
    subst he; subst hw
    have hS' : SInv C.glob G w.drew σ := (((sinv_inv hS).same (w' := w.drew) rfl rfl rfl rfl)).sto
    obtain ⟨f1, f2⟩ := hS'.freeze (g := gb) (n := l.length) o3 (by omega) (show w.drew.heap[gb]? = _ from o5)
    refine ⟨G, Ext.trans (w1 := w.drew) (Ext.same rfl rfl rfl rfl) f1, f2, [.string ⟨l.toArray⟩], rfl, by simp, fun i c x hc hx => ?_⟩
    match i with
    | 0 => simp at hc hx; subst hc; subst hx; exact ⟨.str _, fun ho => by simp at ho⟩
    | i + 1 => simp at hc
end
end Go.Ab
