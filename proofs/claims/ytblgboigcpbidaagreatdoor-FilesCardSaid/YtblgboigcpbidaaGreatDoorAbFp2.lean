/- file.Parse, walked over the calls it makes. -/
import Derived.Test.YtblgboigcpbidaaGreatDoorLvPu
import Derived.Test.YtblgboigcpbidaaGreatDoorLvTa
import Derived.Test.YtblgboigcpbidaaGreatDoorProg
import Derived.Test.YtblgboigcpbidaaGreatDoorAbBl
import Derived.WalkKit
import Derived.Defers
import Derived.Recover
import Derived.Laws.Pointers
import Derived.Laws.Externs
import Derived.Test.YtblgboigcpbidaaGreatDoorAbOps
import Derived.Deep.LoopGhost
import Derived.OwnWalk
import Derived.RegionTactic
import Derived.ChangeAlike
import Derived.Deep.RegionLaw
import Derived.Maps.AppendAt
set_option linter.unusedSimpArgs false
set_option linter.unusedVariables false
set_option linter.deprecated false
section
namespace Go.Ab.Mk
open Go.Proofs Go.Ab
structure NameOk (t : ByteArray) : Prop where
 pos : 0 < t.size
 few : t.size ≤ 40
 first : nmByte (byteAt t 0) true = true
 rest : ∀ i, 0 < i → i < t.size → nmByte (byteAt t i) false = true
theorem byteAt_ge {s : ByteArray} {i : Nat} (h : s.size ≤ i) : byteAt s i = 0 := by
 have h' : s.data.toList.length ≤ i := by rw [Array.length_toList]; exact h
 unfold byteAt
 rw [List.getD_eq_getElem?_getD, List.getElem?_eq_none h']
 rfl
theorem isNameV_no (t : ByteArray) (h : t.size = 0) : isNameV t = false := by
 have : t = ByteArray.mk #[] := by apply ByteArray.ext; exact Array.eq_empty_of_size_eq_zero h
 subst this
 simp [isNameV, isNo]
theorem tok_name {s : ByteArray} {p : Nat} (h : isNameV (tokV s p).t = true) : NameOk (tokV s p).t := by
  unfold tokV at h ⊢
  generalize scan isBlank s p = i at h ⊢
  unfold tokAt at h ⊢
  have no : isNameV (Tok.no i).t = false := isNameV_no _ rfl
  have no' : isNameV (ByteArray.mk #[]) = false := isNameV_no _ rfl
  by_cases hi : i < s.size
  case neg =>
    exfalso
    cases he : i == s.size with
    | true => rw [he, cond_true] at h; rw [no'] at h; simp at h
    | false =>
      have hb : byteAt s i = 0 := byteAt_ge (by omega)
      have e1 : nmByte 0 true = false := by decide
      have e2 : isDigit 0 = false := by decide
      rw [he, hb, e1, e2] at h
      simp only [cond_false, show ((0 : Int) == 40) = false from rfl, show ((0 : Int) == 41) = false from rfl, show ((0 : Int) == 35) = false from rfl, Bool.or_false, no] at h
      simp at h
  have he : (i == s.size) = false := by simp; omega
  rw [he] at h ⊢
  simp only [cond_false] at h ⊢
  have bx : ∀ q, i < q → q ≤ s.size → byteAt (s.extract i q) 0 = byteAt s i := fun q h1 h2 => by have := byteAt_ext (s := s) (i := i) (q := q) (j := 0) (by omega) h2; simpa using this
  have one : nmByte (byteAt s i) true = false → ∀ q, i < q → q ≤ s.size → isNameV (s.extract i q) = false := fun hn q h1 h2 => by
    unfold isNameV
    rw [bx q h1 h2, hn, Bool.and_false]
  cases h40 : byteAt s i == 40 with
  | true =>
    exfalso
    rw [h40, cond_true] at h
    rw [one (by rw [beq_iff_eq.1 h40]; decide) (i + 1) (by omega) (by omega)] at h
    simp at h
  | false =>
    rw [h40] at h
    simp only [cond_false] at h ⊢
    cases h41 : byteAt s i == 41 with
    | true =>
      exfalso
      rw [h41, cond_true] at h
      rw [one (by rw [beq_iff_eq.1 h41]; decide) (i + 1) (by omega) (by omega)] at h
      simp at h
    | false =>
      rw [h41] at h
      simp only [cond_false] at h ⊢
      cases hn : nmByte (byteAt s i) true with
      | true =>
        rw [hn, cond_true] at h
        simp only [cond_true]
        have g1 := le_scan (nmByte · false) s (i + 1)
        have g2 := scan_le (f := (nmByte · false)) (s := s) (i := i + 1) (by omega)
        have g3 := scan_all (f := (nmByte · false)) (s := s) _ (i + 1) rfl
        generalize scan (nmByte · false) s (i + 1) = q at h g1 g2 g3 ⊢
        unfold nmTok at h ⊢
        cases hq : decide (q - i > 40) with
        | true => rw [hq, cond_true, no] at h; simp at h
        | false =>
          simp only [cond_false]
          have hq' := of_decide_eq_false hq
          have hz : (s.extract i q).size = q - i := by rw [ByteArray.size_extract]; omega
          refine ⟨by omega, by omega, by rw [bx q (by omega) g2]; exact hn, fun j h1 h2 => ?_⟩
          rw [byteAt_ext (by omega) g2]
          exact g3 (i + j) (by omega) (by omega)
      | false =>
        exfalso
        rw [hn] at h
        simp only [cond_false] at h
        cases hd : (byteAt s i == 35 || isDigit (byteAt s i)) with
        | false => rw [hd, cond_false, no] at h; simp at h
        | true =>
          rw [hd, cond_true] at h
          have g1 := le_scan isDigit s (i + 1)
          have g2 := scan_le (f := isDigit) (s := s) (i := i + 1) (by omega)
          generalize scan isDigit s (i + 1) = q at h g1 g2
          simp only [numTok] at h
          generalize (bif byteAt s i == 35 then i + 1 else i) = d at h
          cases h1 : q == d
          · rw [h1, cond_false] at h
            cases h2 : decide (q - d > 5)
            · rw [h2, cond_false] at h
              cases h3 : (decide (q - d > 1) && byteAt s d == 48)
              · rw [h3, cond_false, one hn q (by omega) g2] at h; simp at h
              · rw [h3, cond_true, no] at h; simp at h
            · rw [h2, cond_true, no] at h; simp at h
          · rw [h1, cond_true, no] at h; simp at h
theorem rlevel_named (s : ByteArray) : ∀ (n : Nat) (st : RS), ∀ x ∈ (rlevelV n s st).1.pars, NameOk x
 | 0, st => by simp [rlevelV, Lv.pars]
 | n + 1, st => by
  have ih := rlevel_named s n
  unfold rlevelV
  cases st.c != 0
  case true => simp [Lv.pars]
  cases strIs (tokV s st.p).t [48]
  case true => simp [Lv.pars]
  cases h1 : isNameV (tokV s st.p).t
  case true =>
   intro x hx
   simp only [cond_false, cond_true, Lv.pars, List.mem_singleton] at hx
   subst hx
   exact tok_name h1
  cases strIs (tokV s st.p).t [40]
  case false => simp [Lv.pars]
  simp only [cond_false, cond_true, lvP]
  have two : ∀ (f : Lv → Lv → Lv) (st : RS), (∀ a b, (f a b).pars = a.pars ++ b.pars) → ∀ x ∈ (lv2 (rlevelV n s) s f st).1.pars, NameOk x := by
   intro f st hf x hx
   simp only [lv2, hf, List.mem_append] at hx
   rcases hx with hx | hx
   ·exact ih _ x hx
   ·exact ih _ x hx
  cases strIs (tokV s (rnextV s st).2.p).t [115]
  case true => exact ih _
  cases strIs (tokV s (rnextV s st).2.p).t [109, 97, 120]
  case true => exact two .max _ fun _ _ => rfl
  cases strIs (tokV s (rnextV s st).2.p).t [105, 109, 97, 120]
  case true => exact two .imax _ fun _ _ => rfl
  simp [Lv.pars]
def At (s : ByteArray) (p : Nat) (Y : List UInt8) : Prop := ∃ X, s = ba (X ++ Y) ∧ p = X.length
theorem At.byte {s : ByteArray} {p : Nat} {Y : List UInt8} (h : At s p Y) (j : Nat) : byteAt s (p + j) = ((Y.getD j 0).toNat : Int) := by
 obtain ⟨X, rfl, rfl⟩ := h
 simp [byteAt, ba, List.getD, List.getElem?_append_right]
theorem At.size {s : ByteArray} {p : Nat} {Y : List UInt8} (h : At s p Y) : s.size = p + Y.length := by
 obtain ⟨X, rfl, rfl⟩ := h
 simp [ba_size]
theorem At.drop {s : ByteArray} {p : Nat} {A Y : List UInt8} (h : At s p (A ++ Y)) : At s (p + A.length) Y := by
 obtain ⟨X, rfl, rfl⟩ := h
 exact ⟨X ++ A, by rw [List.append_assoc], by simp⟩
theorem At.ext {s : ByteArray} {p : Nat} {A Y : List UInt8} (h : At s p (A ++ Y)) : s.extract p (p + A.length) = ba A := by
 obtain ⟨X, rfl, rfl⟩ := h
 apply tl_inj
 rw [ByteArray.toList_eq, ByteArray.toList_eq, ByteArray.data_extract, Array.toList_extract]
 simp [ba]
theorem At.head {s : ByteArray} {p : Nat} {c : UInt8} {Y : List UInt8} (h : At s p (c :: Y)) : byteAt s p = (c.toNat : Int) := h.byte 0
theorem At.tail {s : ByteArray} {p : Nat} {c : UInt8} {Y : List UInt8} (h : At s p (c :: Y)) : At s (p + 1) Y := At.drop (A := [c]) h
def Sep (Z : List UInt8) : Prop := Z = [] ∨ ∃ c Z', Z = c :: Z' ∧ (c = 32 ∨ c = 41)
theorem Sep.stop {s : ByteArray} {q : Nat} {Z : List UInt8} (h : Sep Z) (ha : At s q Z) (f : Int → Bool) (h1 : f 32 = false) (h2 : f 41 = false) : ¬ (q < s.size ∧ f (byteAt s q) = true) := by
 rcases h with rfl | ⟨c, Z', rfl, hc⟩
 ·have := ha.size
  simp at this
  omega
 ·rintro ⟨_, hf⟩
  rw [ha.head] at hf
  rcases hc with rfl | rfl
  ·rw [show (((32 : UInt8).toNat : Nat) : Int) = 32 from rfl, h1] at hf; simp at hf
  ·rw [show (((41 : UInt8).toNat : Nat) : Int) = 41 from rfl, h2] at hf; simp at hf
theorem scan_to {f : Int → Bool} {s : ByteArray} {q : Nat} (hq : q ≤ s.size) (hs : ¬ (q < s.size ∧ f (byteAt s q) = true)) : ∀ (k i : Nat), i + k = q → (∀ j, i ≤ j → j < q → f (byteAt s j) = true) → scan f s i = q
 | 0, i, h, _ => by
  obtain rfl : i = q := by omega
  exact scan_stop hs
 | k + 1, i, h, ha => by
  rw [scan_go (by omega) (ha i (Nat.le_refl _) (by omega))]
  exact scan_to hq hs k (i + 1) (by omega) fun j h1 h2 => ha j (by omega) h2
theorem tok_blank {s : ByteArray} {p : Nat} {Y : List UInt8} (h : At s p (32 :: Y)) : tokV s p = tokV s (p + 1) := by
 have hz := h.size
 unfold tokV
 rw [scan_go (by simp at hz; omega) (by rw [h.head]; rfl)]
theorem tok_here {s : ByteArray} {p : Nat} (h : isBlank (byteAt s p) = false) : tokV s p = tokAt s p := by
 unfold tokV
 rw [scan_stop fun ⟨_, hf⟩ => by rw [h] at hf; simp at hf]
theorem ne_end {s : ByteArray} {p : Nat} {c : UInt8} {Y : List UInt8} (h : At s p (c :: Y)) : (p == s.size) = false := by
 have := h.size
 simp at this
 simp; omega
theorem tok_open {s : ByteArray} {p : Nat} {Y : List UInt8} (h : At s p (40 :: Y)) : tokV s p = ⟨ba [40], p, true⟩ := by
 rw [tok_here (by rw [h.head]; rfl)]
 have e : byteAt s p = 40 := h.head
 have ex : s.extract p (p + 1) = ba [40] := At.ext (A := [40]) h
 unfold tokAt
 rw [ne_end h, e, ex]
 rfl
theorem tok_close {s : ByteArray} {p : Nat} {Y : List UInt8} (h : At s p (41 :: Y)) : tokV s p = ⟨ba [41], p, true⟩ := by
 rw [tok_here (by rw [h.head]; rfl)]
 have e : byteAt s p = 41 := h.head
 have ex : s.extract p (p + 1) = ba [41] := At.ext (A := [41]) h
 unfold tokAt
 rw [ne_end h, e, ex]
 rfl
theorem tok_nought {s : ByteArray} {p : Nat} {Z : List UInt8} (h : At s p (48 :: Z)) (hZ : Sep Z) : tokV s p = ⟨ba [48], p, true⟩ := by
 rw [tok_here (by rw [h.head]; rfl)]
 have e : byteAt s p = 48 := h.head
 have ex : s.extract p (p + 1) = ba [48] := At.ext (A := [48]) h
 have hz := h.tail.size
 have sc : scan isDigit s (p + 1) = p + 1 := scan_stop (hZ.stop h.tail isDigit rfl rfl)
 unfold tokAt
 rw [ne_end h, e, sc]
 have e2 : ((p + 1) - p) = 1 := by omega
 simp only [cond_false, cond_true, numTok, e2, show ((48 : Int) == 40) = false from rfl, show ((48 : Int) == 41) = false from rfl, show nmByte 48 true = false from rfl, show isDigit 48 = true from rfl, Bool.or_true, show ((48 : Int) == 35) = false from rfl,
  show (p + 1 == p) = false by simp, show decide (1 > 5) = false from rfl, show decide (1 > 1) = false from rfl, Bool.false_and, ex]
theorem nm_facts {x : Int} (h : nmByte x true = true) : isBlank x = false ∧ (x == 40) = false ∧ (x == 41) = false := by
 simp only [nmByte, isLetter, Bool.not_true, Bool.false_and, Bool.or_false, Bool.or_eq_true, Bool.and_eq_true, decide_eq_true_eq, beq_iff_eq] at h
 simp only [isBlank, Bool.or_eq_false_iff, beq_eq_false_iff_ne]
 omega
theorem tok_word {s : ByteArray} {p : Nat} {w Z : List UInt8} (h : At s p (w ++ Z)) (hw : NameOk (ba w)) (hZ : Sep Z) : tokV s p = ⟨ba w, p, true⟩ := by
  have hpos := hw.pos
  have hfew := hw.few
  rw [ba_size] at hpos hfew
  have bw : ∀ j, j < w.length → byteAt s (p + j) = byteAt (ba w) j := by
    intro j hj
    rw [h.byte j]
    simp [byteAt, ba, List.getD, List.getElem?_append_left hj]
  have b0 : byteAt s p = byteAt (ba w) 0 := bw 0 hpos
  have hz := h.size
  rw [List.length_append] at hz
  obtain ⟨f1, f2, f3⟩ := nm_facts hw.first
  rw [tok_here (by rw [b0]; exact f1)]
  have sc : scan (nmByte · false) s (p + 1) = p + w.length := scan_to (by omega) (hZ.stop h.drop (nmByte · false) rfl rfl) (w.length - 1) (p + 1) (by omega) fun j h1 h2 => by
    have := bw (j - p) (by omega)
    rw [show p + (j - p) = j by omega] at this
    show nmByte (byteAt s j) false = true
    rw [this]
    exact hw.rest _ (by omega) (by rw [ba_size]; omega)
  have ex : s.extract p (p + w.length) = ba w := h.ext
  unfold tokAt
  rw [show (p == s.size) = false by simp; omega, b0, f2, f3, hw.first]
  simp only [cond_false, cond_true, sc, nmTok, show decide (p + w.length - p > 40) = false by simp; omega, ex]
theorem rnext_ok {s : ByteArray} {q p : Nat} {t : ByteArray} {a : Int} (h : tokV s q = ⟨t, p, true⟩) (ht : isNo t = false) : rnextV s ⟨q, 0, a⟩ = (t, ⟨p + t.size, 0, a⟩) := by
 unfold rnextV
 simp only [h, ht, Bool.not_true, Bool.or_self, cond_false, bne_self_eq_false]
theorem rtake_ok {s : ByteArray} {q p : Nat} {t w : ByteArray} {a : Int} (h : tokV s q = ⟨t, p, true⟩) (ht : t.toList = w.toList) : rtakeV s ⟨q, 0, a⟩ w = ⟨p + t.size, 0, a⟩ := by
 unfold rtakeV
 simp only [h, ht, beq_self_eq_true, Bool.not_true, Bool.or_self, cond_false, cond_true]
theorem strIs_bb {a b : List UInt8} : strIs (ba a) b = (a == b) := by
 unfold strIs
 rw [ByteArray.toList_eq, ByteArray.toList_eq]
 simp [ba]
theorem isNo_eq {a : List UInt8} : isNo (ba a) = (a == []) := by
 unfold isNo
 rw [ByteArray.toList_eq, ByteArray.toList_eq]
 simp [ba]
theorem nameOk_ne {w : List UInt8} (h : NameOk (ba w)) : w ≠ [] := by
 rintro rfl
 have := h.pos
 simp [ba_size] at this
theorem nameOk_is {w : List UInt8} (h : NameOk (ba w)) : isNameV (ba w) = true ∧ strIs (ba w) [48] = false := by
 refine ⟨?_, ?_⟩
 ·unfold isNameV
  rw [isNo_eq, h.first]
  simp [nameOk_ne h]
 ·rw [strIs_bb]
  cases hw : w == [48] with
  | false => rfl
  | true =>
   have := h.first
   rw [beq_iff_eq.1 hw] at this
   simp [show nmByte (byteAt (ba [48]) 0) true = false from rfl] at this
theorem word_s : NameOk (ba [115]) := ⟨by decide, by decide, rfl, fun i h1 h2 => by rw [ba_size] at h2; simp at h2; omega⟩
theorem word_max : NameOk (ba [109, 97, 120]) := ⟨by decide, by decide, rfl, fun i h1 h2 => by
 rw [ba_size] at h2
 have : i = 1 ∨ i = 2 := by simp at h2; omega
 rcases this with rfl | rfl <;> rfl⟩
theorem word_imax : NameOk (ba [105, 109, 97, 120]) := ⟨by decide, by decide, rfl, fun i h1 h2 => by
 rw [ba_size] at h2
 have : i = 1 ∨ i = 2 ∨ i = 3 := by simp at h2; omega
 rcases this with rfl | rfl | rfl <;> rfl⟩
theorem sep_close (Z : List UInt8) : Sep (41 :: Z) := .inr ⟨41, Z, rfl, .inr rfl⟩
theorem sep_blank (Z : List UInt8) : Sep (32 :: Z) := .inr ⟨32, Z, rfl, .inl rfl⟩
theorem open_noName : isNameV (ba [40]) = false := by unfold isNameV; rw [isNo_eq]; rfl
theorem rt_head {s : ByteArray} {q p : Nat} {w Y : List UInt8} {a : Int} (hw : NameOk (ba w)) (h : At s p (40 :: (w ++ 32 :: Y))) (hq : tokV s q = tokV s p) (n : Nat) :
  rlevelV (n + 1) s ⟨q, 0, a⟩ = lvP (rlevelV n s) s ⟨p + 1, 0, a⟩ ∧ tokV s (p + 1) = ⟨ba w, p + 1, true⟩ ∧ At s (p + 1 + w.length) (32 :: Y) := by
 have t0 := hq.trans (tok_open h)
 have hn := rnext_ok (a := a) t0 (by rw [isNo_eq]; rfl)
 have ht := tok_word h.tail hw (sep_blank Y)
 refine ⟨?_, ht, h.tail.drop⟩
 rw [rlevelV]
 simp only [t0, hn, bne_self_eq_false, cond_false, strIs_bb, show (([40] : List UInt8) == [48]) = false from rfl, open_noName, beq_self_eq_true, cond_true, ba_size]
 rfl
theorem rt : ∀ (l : Lv) (n : Nat) {s : ByteArray} {q p : Nat} {Z : List UInt8} {a : Int}, At s p (printL l ++ Z) → tokV s q = tokV s p → Sep Z → (∀ x ∈ l.pars, NameOk x) → l.size ≤ n →
  rlevelV n s ⟨q, 0, a⟩ = (l, ⟨p + (printL l).length, 0, a⟩)
 | l, 0, _, _, _, _, _, _, _, _, _, hn => by have := l.size_pos; omega
 | .zero, n + 1, s, q, p, Z, a, h, hq, hZ, hp, hn => by
  have t0 := hq.trans (tok_nought h hZ)
  rw [rlevelV]
  simp only [t0, bne_self_eq_false, cond_false, strIs_bb, beq_self_eq_true, cond_true, rnext_ok (a := a) t0 (by rw [isNo_eq]; rfl), ba_size, printL]
 | .param x, n + 1, s, q, p, Z, a, h, hq, hZ, hp, hn => by
  have hx : NameOk (ba x.data.toList) := by rw [ba_of]; exact hp x (by simp [Lv.pars])
  have key : ∀ w, NameOk (ba w) → At s p (w ++ Z) → rlevelV (n + 1) s ⟨q, 0, a⟩ = (.param (ba w), ⟨p + w.length, 0, a⟩) := by
   intro w hw h
   have t0 := hq.trans (tok_word h hw hZ)
   obtain ⟨i1, i2⟩ := nameOk_is hw
   have hno : isNo (ba w) = false := by rw [isNo_eq]; simp [nameOk_ne hw]
   rw [rlevelV]
   simp only [t0, bne_self_eq_false, cond_false, i2, i1, cond_true, rnext_ok (a := a) t0 hno, ba_size]
  have := key x.data.toList hx h
  rw [ba_of] at this
  exact this
 | .succ l, n + 1, s, q, p, Z, a, h, hq, hZ, hp, hn => by
  simp only [Lv.size] at hn
  have h' : At s p (40 :: ([115] ++ 32 :: (printL l ++ 41 :: Z))) := by
   have : (printL (.succ l) ++ Z : List UInt8) = 40 :: ([115] ++ 32 :: (printL l ++ 41 :: Z)) := by simp [printL]
   rw [← this]; exact h
  obtain ⟨e1, e2, e3⟩ := rt_head (a := a) word_s h' hq n
  have hn2 := rnext_ok (a := a) e2 (by rw [isNo_eq]; rfl)
  have h3 := rt l n (a := a) e3.tail (tok_blank e3) (sep_close Z) hp (by omega)
  have h4 := rtake_ok (w := ba [41]) (a := a) (tok_close e3.tail.drop) rfl
  rw [e1]
  unfold lvP lv1
  simp only [e2, strIs_bb, beq_self_eq_true, cond_true, hn2, ba_size, h3, h4]
  simp [printL]
  omega
 | .max x y, n + 1, s, q, p, Z, a, h, hq, hZ, hp, hn => by
  simp only [Lv.size] at hn
  have h' : At s p (40 :: ([109, 97, 120] ++ 32 :: (printL x ++ 32 :: (printL y ++ 41 :: Z)))) := by
   have : (printL (.max x y) ++ Z : List UInt8) = 40 :: ([109, 97, 120] ++ 32 :: (printL x ++ 32 :: (printL y ++ 41 :: Z))) := by simp [printL]
   rw [← this]; exact h
  obtain ⟨e1, e2, e3⟩ := rt_head (a := a) word_max h' hq n
  have hn2 := rnext_ok (a := a) e2 (by rw [isNo_eq]; rfl)
  have h3 := rt x n (a := a) e3.tail (tok_blank e3) (sep_blank _) (fun z hz => hp z (List.mem_append_left _ hz)) (by omega)
  have h5 := rt y n (a := a) e3.tail.drop.tail (tok_blank e3.tail.drop) (sep_close Z) (fun z hz => hp z (List.mem_append_right _ hz)) (by omega)
  have h4 := rtake_ok (w := ba [41]) (a := a) (tok_close e3.tail.drop.tail.drop) rfl
  rw [e1]
  unfold lvP lv2
  simp only [e2, strIs_bb, show (([109, 97, 120] : List UInt8) == [115]) = false from rfl, cond_false, beq_self_eq_true, cond_true, hn2, ba_size, h3, h5, h4]
  simp [printL]
  omega
 | .imax x y, n + 1, s, q, p, Z, a, h, hq, hZ, hp, hn => by
  simp only [Lv.size] at hn
  have h' : At s p (40 :: ([105, 109, 97, 120] ++ 32 :: (printL x ++ 32 :: (printL y ++ 41 :: Z)))) := by
   have : (printL (.imax x y) ++ Z : List UInt8) = 40 :: ([105, 109, 97, 120] ++ 32 :: (printL x ++ 32 :: (printL y ++ 41 :: Z))) := by simp [printL]
   rw [← this]; exact h
  obtain ⟨e1, e2, e3⟩ := rt_head (a := a) word_imax h' hq n
  have hn2 := rnext_ok (a := a) e2 (by rw [isNo_eq]; rfl)
  have h3 := rt x n (a := a) e3.tail (tok_blank e3) (sep_blank _) (fun z hz => hp z (List.mem_append_left _ hz)) (by omega)
  have h5 := rt y n (a := a) e3.tail.drop.tail (tok_blank e3.tail.drop) (sep_close Z) (fun z hz => hp z (List.mem_append_right _ hz)) (by omega)
  have h4 := rtake_ok (w := ba [41]) (a := a) (tok_close e3.tail.drop.tail.drop) rfl
  rw [e1]
  unfold lvP lv2
  simp only [e2, strIs_bb, show (([105, 109, 97, 120] : List UInt8) == [115]) = false from rfl, show (([105, 109, 97, 120] : List UInt8) == [109, 97, 120]) = false from rfl, cond_false, beq_self_eq_true, cond_true, hn2, ba_size, h3, h5, h4]
  simp [printL]
  omega
end Go.Ab.Mk
end
section
namespace Go.Ab.Mk
open Go.Proofs Go.Ab Go.Proofs.Mk
def _root_.Go.Ab.Lv.mass (l : Lv) : Nat := l.size + (printL l).length
def massL (ls : List Lv) : Nat := (ls.map fun l => l.mass + 1).sum
def Tm.mass : Tm → Nat
 | .var _ => 1
 | .sort l => l.mass + 1
 | .const s ls => s.size + massL ls + 1
 | .app a b => a.mass + b.mass + 1
 | .lam a b => a.mass + b.mass + 1
 | .pi a b => a.mass + b.mass + 1
 | .letin a b c => a.mass + b.mass + c.mass + 1
def LvRead (s : ByteArray) (l : Lv) : Prop := printL l ≠ [] ∧ ∀ x ∈ l.pars, 0 < x.size ∧ x.size ≤ s.size
structure TmRead (s : ByteArray) (p q : Nat) (t : Tm) : Prop where
 mass : t.mass ≤ 4 * (q - p)
 top : t.top < 100000
 all : ∀ l ∈ t.all, LvRead s l
theorem rlevel_read {s : ByteArray} {st : RS} (h : st.p ≤ s.size) (hc : (rlevelV (s.size + 1) s st).2.c = 0) : (rlevelV (s.size + 1) s st).1.mass ≤ 3 * ((rlevelV (s.size + 1) s st).2.p - st.p) ∧ LvRead s (rlevelV (s.size + 1) s st).1 := by
 have tk := rlevel_took s (s.size + 1) st h (.inr (by omega))
 obtain ⟨_, a1, a2, a3, a4⟩ := tk.ok hc
 exact ⟨by unfold Lv.mass; omega, a4, rlevel_names s _ st⟩
theorem rlvs_read (s : ByteArray) : ∀ (n : Nat) (st : RS), st.p ≤ s.size → (rlvsV n s st).2.c = 0 → massL (rlvsV n s st).1 ≤ 4 * ((rlvsV n s st).2.p - st.p) ∧ ∀ l ∈ (rlvsV n s st).1, LvRead s l
 | 0, st, h, _ => ⟨by simp [rlvsV, massL], fun l hl => by simp [rlvsV] at hl⟩
 | n + 1, st, h, hc => by
  unfold rlvsV at hc ⊢
  cases h1 : st.c != 0
  ·rw [h1] at hc
   cases h2 : strIs (tokV s st.p).t [41]
   ·rw [h2] at hc
    simp only [cond_false] at hc ⊢
    have g := rlevel_goes (s := s) (st := st) h
    have g2 := rlvs_gone s n (rlevelV (s.size + 1) s st).2 g.le
    obtain ⟨hc1, hp1⟩ := g2.ok hc
    obtain ⟨m1, m2⟩ := rlvs_read s n _ g.le hc
    obtain ⟨m3, m4⟩ := rlevel_read h hc1
    have := (g.ok hc1).2
    refine ⟨?_, fun l hl => ?_⟩
    ·have e : ∀ (x : Lv) (y : List Lv), massL (x :: y) = x.mass + 1 + massL y := fun x y => by simp [massL]
     rw [e]
     omega
    ·rcases List.mem_cons.1 hl with rfl | hl
     ·exact m4
     ·exact m2 l hl
   ·exact ⟨by simp [massL], fun l hl => by simp at hl⟩
  ·exact ⟨by simp [massL], fun l hl => by simp at hl⟩
theorem rname_read {s : ByteArray} {st : RS} (h : st.p ≤ s.size) (hc : (rnameV s st).2.c = 0) : (rnameV s st).1.size + st.p ≤ (rnameV s st).2.p := by
 obtain ⟨k1, k2, k3⟩ := tokV_ok s h
 unfold rnameV at hc ⊢
 simp only at hc ⊢
 cases hx : (bif !(tokV s st.p).ok || !isNameV (tokV s st.p).t then rfailV st (tokV s st.p).at_ else st).c != 0
 ·simp only [cond_false]
  omega
 ·rw [hx] at hc
  simp only [cond_true] at hc
  rw [hc] at hx
  simp at hx
theorem tm2_read {s : ByteArray} {rec : RS → Tm × RS} {f : Tm → Tm → Tm} (hf : ∀ a b, (f a b).mass = a.mass + b.mass + 1 ∧ (f a b).top = max a.top b.top ∧ (f a b).all = a.all ++ b.all) {st0 st : RS} (hp : st.p ≤ s.size) (hlt : st.c = 0 → st0.p < st.p)
  (hg : ∀ st', Gone s st st' → Goes s st' (rec st').2) (hr : ∀ st', Gone s st st' → (rec st').2.c = 0 → TmRead s st'.p (rec st').2.p (rec st').1) (hc : (tm2 rec s f st).2.c = 0) : TmRead s st0.p (tm2 rec s f st).2.p (tm2 rec s f st).1 := by
 have g0 := Gone.refl hp
 have g1 := hg st g0
 have k1 : Gone s st (rec st).2 := g1.gone
 have g2 := hg _ k1
 have k2 : Gone s st (rec (rec st).2).2 := k1.trans g2.gone
 have g3 := rtake_gone g2.le (ba [41])
 obtain ⟨c2, p3⟩ := g3.ok hc
 obtain ⟨c1, p2⟩ := g2.ok c2
 obtain ⟨c0, p1⟩ := g1.ok c1
 have r1 := hr st g0 c1
 have r2 := hr _ k1 c2
 have := hlt c0
 have m1 := r1.mass
 have m2 := r2.mass
 obtain ⟨f1, f2, f3⟩ := hf (rec st).1 (rec (rec st).2).1
 simp only [tm2] at p3 ⊢
 refine ⟨by rw [f1]; omega, by rw [f2]; exact Nat.max_lt.2 ⟨r1.top, r2.top⟩, fun l hl => ?_⟩
 rw [f3] at hl
 rcases List.mem_append.1 hl with hl | hl
 ·exact r1.all l hl
 ·exact r2.all l hl
theorem rterm_read (s : ByteArray) : ∀ (n : Nat) (st : RS), st.p ≤ s.size → (st.c ≠ 0 ∨ s.size - st.p < n) → (rtermV n s st).2.c = 0 → TmRead s st.p (rtermV n s st).2.p (rtermV n s st).1
 | 0, st, hp, hn, hc => by rcases hn with hn | hn; exact absurd hc hn; omega
 | n + 1, st, hp, hn, hc0 => by
  by_cases hc : st.c = 0
  case neg => rw [rterm_stuck hc] at hc0; exact absurd hc0 hc
  have hc' : (st.c != 0) = false := by simp [hc]
  have g1 := rnext_goes hp
  simp only [rtermV, hc', cond_false] at hc0 ⊢
  cases hbad : badTok (tokV s st.p)
  case true => rw [hbad] at hc0; exact absurd hc0 (rfail_c _ _)
  rw [hbad] at hc0
  cases h40 : strIs (tokV s st.p).t [40]
  case false =>
   rw [h40] at hc0
   simp only [cond_false] at hc0 ⊢
   have hlt := (g1.ok hc0).2
   refine ⟨by simp only [Tm.mass]; omega, ?_, fun l hl => by simp [Tm.all] at hl⟩
   simp only [badTok, h40, Bool.not_false, Bool.and_true, Bool.or_eq_false_iff, Bool.not_eq_false', Bool.not_eq_true', Bool.not_not] at hbad
   have hd := tok_num hp hbad.1 hbad.2.1 (by simpa using hbad.2.2)
   have hb := num_lt hd ((tokV s st.p).t.extract 1 (tokV s st.p).t.size).size 0 0 (by omega)
   have h5 := hd.few
   have h10 : 10 ^ ((tokV s st.p).t.extract 1 (tokV s st.p).t.size).size ≤ 10 ^ 5 := Nat.pow_le_pow_right (by omega) (by omega)
   simp only [Tm.top, numV]
   omega
  rw [h40] at hc0
  simp only [cond_true, cond_false, tmP] at hc0 ⊢
  cases hw : wordIx (tokV s (rnextV s st).2.p).t == 0
  case true => rw [hw] at hc0; exact absurd hc0 (rfail_c _ _)
  rw [hw] at hc0
  have g2 := g1.trans (rnext_goes g1.le).gone
  simp only [cond_false] at hc0 ⊢
  have hn2 : ∀ st', Goes s st st' → st'.c ≠ 0 ∨ s.size - st'.p < n := by
   intro st' h
   by_cases hz : st'.c = 0
   ·have := (h.ok hz).2
    have := h.le
    rcases hn with hn | hn
    ·exact absurd hc hn
    ·right; omega
   ·exact .inl hz
  generalize (rnextV s (rnextV s st).2).2 = st2 at g2 hc0 ⊢
  have hlt : st2.c = 0 → st.p < st2.p := fun h => (g2.ok h).2
  have hg : ∀ st', Gone s st2 st' → Goes s st' (rtermV n s st').2 := fun st' h => rterm_goes s n st' h.le (hn2 _ (g2.trans h))
  have hr : ∀ st', Gone s st2 st' → (rtermV n s st').2.c = 0 → TmRead s st'.p (rtermV n s st').2.p (rtermV n s st').1 := fun st' h h0 => rterm_read s n st' h.le (hn2 _ (g2.trans h)) h0
  unfold tmB at hc0 ⊢
  split at hc0
  ·have l1 := rlevel_goes g2.le
   have g3 := rtake_gone l1.le (ba [41])
   obtain ⟨c1, p1⟩ := g3.ok hc0
   obtain ⟨m1, m2⟩ := rlevel_read g2.le c1
   have := hlt (l1.ok c1).1
   have := (l1.ok c1).2
   simp only
   refine ⟨by simp only [Tm.mass]; omega, by simp [Tm.top], fun l hl => ?_⟩
   simp only [Tm.all, List.mem_singleton] at hl
   subst hl
   exact m2
  ·have l1 := rname_goes (s := s) g2.le
   have l2 := rlvs_gone s (s.size + 10) _ l1.le
   have g3 := rtake_gone l2.le (ba [41])
   obtain ⟨c2, p2⟩ := g3.ok hc0
   obtain ⟨c1, p1⟩ := l2.ok c2
   obtain ⟨m1, m2⟩ := rlvs_read s (s.size + 10) _ l1.le c2
   have m3 := rname_read g2.le c1
   have := hlt (l1.ok c1).1
   simp only
   refine ⟨by simp only [Tm.mass]; omega, by simp [Tm.top], fun l hl => m2 l hl⟩
  ·exact tm2_read (fun a b => ⟨rfl, rfl, rfl⟩) g2.le hlt hg hr hc0
  ·exact tm2_read (fun a b => ⟨rfl, rfl, rfl⟩) g2.le hlt hg hr hc0
  ·exact tm2_read (fun a b => ⟨rfl, rfl, rfl⟩) g2.le hlt hg hr hc0
  ·have g0 := Gone.refl g2.le
   have g1' := hg st2 g0
   have k1 : Gone s st2 (rtermV n s st2).2 := g1'.gone
   have g2' := hg _ k1
   have k2 : Gone s st2 (rtermV n s (rtermV n s st2).2).2 := k1.trans g2'.gone
   have g3' := hg _ k2
   have g4 := rtake_gone g3'.le (ba [41])
   obtain ⟨c3, p4⟩ := g4.ok hc0
   obtain ⟨c2, p3⟩ := g3'.ok c3
   obtain ⟨c1, p2⟩ := g2'.ok c2
   obtain ⟨c0, p1⟩ := g1'.ok c1
   have r1 := hr st2 g0 c1
   have r2 := hr _ k1 c2
   have r3 := hr _ k2 c3
   have := hlt c0
   have m1 := r1.mass
   have m2 := r2.mass
   have m3 := r3.mass
   simp only [tm3] at p4 ⊢
   refine ⟨by simp only [Tm.mass]; omega, by simp only [Tm.top]; exact Nat.max_lt.2 ⟨r1.top, Nat.max_lt.2 ⟨r2.top, r3.top⟩⟩, fun l hl => ?_⟩
   simp only [Tm.all] at hl
   rcases List.mem_append.1 hl with hl | hl
   ·exact r1.all l hl
   ·rcases List.mem_append.1 hl with hl | hl
    ·exact r2.all l hl
    ·exact r3.all l hl
theorem massL_len : ∀ ls : List Lv, ls.length ≤ massL ls
 | [] => by simp [massL]
 | l :: ls => by have := massL_len ls; simp only [massL, List.map_cons, List.sum_cons, List.length_cons] at this ⊢; omega
theorem wide_mass : ∀ t : Tm, t.wide ≤ t.mass
 | .var _ => by simp [Tm.wide, Tm.mass]
 | .sort _ => by simp [Tm.wide, Tm.mass]
 | .const s ls => by have := massL_len ls; simp only [Tm.wide, Tm.mass]; omega
 | .app a b => by have := wide_mass a; have := wide_mass b; simp only [Tm.wide, Tm.mass]; omega
 | .lam a b => by have := wide_mass a; have := wide_mass b; simp only [Tm.wide, Tm.mass]; omega
 | .pi a b => by have := wide_mass a; have := wide_mass b; simp only [Tm.wide, Tm.mass]; omega
 | .letin a b c => by have := wide_mass a; have := wide_mass b; have := wide_mass c; simp only [Tm.wide, Tm.mass]; omega
theorem dec_digits : ∀ (k n : Nat), n < 10 ^ (k + 1) → (Go.Lib.decDigits n).length ≤ k + 1
 | 0, n, h => by rw [Go.Lib.decDigits, dif_pos (by simpa using h)]; simp
 | k + 1, n, h => by
  rw [Go.Lib.decDigits]
  split
  ·simp
  ·have := dec_digits k (n / 10) (by rw [Nat.pow_succ] at h; omega)
   simp only [List.length_append, List.length_singleton]
   omega
theorem lvsL_mass : ∀ ls : List Lv, (lvsL ls).length ≤ massL ls
 | [] => by simp [lvsL]
 | l :: ls => by
  have := lvsL_mass ls
  rw [lvsL_cons]
  simp only [List.length_cons, List.length_append, massL, List.map_cons, List.sum_cons, Lv.mass] at this ⊢
  omega
theorem print_mass {k : Nat} : ∀ {t : Tm}, t.top < 10 ^ (k + 1) → (printT t).length ≤ (k + 10) * t.mass
 | .var n, h => by
  have := dec_digits k n h
  simp only [printT, Tm.mass, List.length_cons]; omega
 | .sort l, _ => by
  have h1 := lvsL_mass [l]
  have h2 : 10 * (l.mass + 1) ≤ (k + 10) * (l.mass + 1) := Nat.mul_le_mul_right _ (by omega)
  simp only [massL, List.map_cons, List.map_nil, List.sum_cons, List.sum_nil] at h1
  simp only [printT, Tm.mass, wsort, ksL, List.length_cons, List.length_append, List.length_nil, List.flatMap_nil]; omega
 | .const s ls, _ => by
  have h1 := lvsL_mass ls
  have h2 : 10 * (s.size + massL ls + 1) ≤ (k + 10) * (s.size + massL ls + 1) := Nat.mul_le_mul_right _ (by omega)
  have h3 : s.data.toList.length = s.size := Array.length_toList
  simp only [printT, Tm.mass, wconst, ksL, List.length_cons, List.length_append, List.length_nil, List.flatMap_nil]; omega
 | .app a b, h => by
  simp only [Tm.top] at h
  have h1 := print_mass (t := a) (k := k) (by omega)
  have h2 := print_mass (t := b) (k := k) (by omega)
  simp only [printT, Tm.mass, wapp, ksL, List.length_cons, List.length_append, List.length_nil, List.flatMap_cons, List.flatMap_nil, Nat.mul_add]; omega
 | .lam a b, h => by
  simp only [Tm.top] at h
  have h1 := print_mass (t := a) (k := k) (by omega)
  have h2 := print_mass (t := b) (k := k) (by omega)
  simp only [printT, Tm.mass, wlam, ksL, List.length_cons, List.length_append, List.length_nil, List.flatMap_cons, List.flatMap_nil, Nat.mul_add]; omega
 | .pi a b, h => by
  simp only [Tm.top] at h
  have h1 := print_mass (t := a) (k := k) (by omega)
  have h2 := print_mass (t := b) (k := k) (by omega)
  simp only [printT, Tm.mass, wpi, ksL, List.length_cons, List.length_append, List.length_nil, List.flatMap_cons, List.flatMap_nil, Nat.mul_add]; omega
 | .letin a b c, h => by
  simp only [Tm.top] at h
  have h1 := print_mass (t := a) (k := k) (by omega)
  have h2 := print_mass (t := b) (k := k) (by omega)
  have h3 := print_mass (t := c) (k := k) (by omega)
  simp only [printT, Tm.mass, wlet, ksL, List.length_cons, List.length_append, List.length_nil, List.flatMap_cons, List.flatMap_nil, Nat.mul_add]; omega
end Go.Ab.Mk
end
section
namespace Go.Ab.Mk
open Go.Proofs Go.Ab
open Go.Lib (decDigits)
structure TOk1 (t : Tm) : Prop where
 top : t.top < 100000
 lv : ∀ l ∈ t.all, ∀ x ∈ l.pars, NameOk x
def Tm.names : Tm → List ByteArray
 | .const s _ => [s]
 | .app a b => a.names ++ b.names
 | .lam a b => a.names ++ b.names
 | .pi a b => a.names ++ b.names
 | .letin a b c => a.names ++ (b.names ++ c.names)
 | _ => []
structure TOk (t : Tm) : Prop where
 top : t.top < 100000
 lv : ∀ l ∈ t.all, ∀ x ∈ l.pars, NameOk x
 names : ∀ x ∈ t.names, NameOk x
theorem rname_named {s : ByteArray} {st : RS} (hc : (rnameV s st).2.c = 0) : NameOk (rnameV s st).1 := by
 unfold rnameV at hc ⊢
 simp only at hc ⊢
 cases hx : (!(tokV s st.p).ok || !isNameV (tokV s st.p).t)
 ·rw [hx] at hc
  simp only [Bool.or_eq_false_iff, Bool.not_eq_false'] at hx
  simp only [cond_false] at hc ⊢
  cases h2 : st.c != 0
  ·simp only [cond_false]
   exact tok_name hx.2
  ·rw [h2] at hc
   simp only [cond_true] at hc
   rw [hc] at h2
   simp at h2
 ·rw [hx] at hc
  simp only [cond_true] at hc
  have hf : ((rfailV st (tokV s st.p).at_).c != 0) = true := by simpa using rfail_c st (tokV s st.p).at_
  rw [hf] at hc
  exact absurd hc (rfail_c _ _)
theorem rlvs_named (s : ByteArray) : ∀ (n : Nat) (st : RS), ∀ l ∈ (rlvsV n s st).1, ∀ x ∈ l.pars, NameOk x
 | 0, st, l, h => by simp [rlvsV] at h
 | n + 1, st, l, h => by
  unfold rlvsV at h
  cases h1 : st.c != 0
  ·rw [h1] at h
   cases h2 : strIs (tokV s st.p).t [41]
   ·rw [h2] at h
    simp only [cond_false] at h
    rcases List.mem_cons.1 h with rfl | h
    ·exact rlevel_named s _ _
    ·exact rlvs_named s n _ l h
   ·rw [h2] at h; simp at h
  ·rw [h1] at h; simp at h
structure Named (t : Tm) : Prop where
 lv : ∀ l ∈ t.all, ∀ x ∈ l.pars, NameOk x
 names : ∀ x ∈ t.names, NameOk x
theorem Named.leaf : Named (.var 0) := ⟨fun l hl => by simp [Tm.all] at hl, fun x hx => by simp [Tm.names] at hx⟩
theorem tm2_named {s : ByteArray} {rec : RS → Tm × RS} {f : Tm → Tm → Tm} (hf : ∀ a b, (f a b).all = a.all ++ b.all ∧ (f a b).names = a.names ++ b.names) {st : RS} (hp : st.p ≤ s.size)
  (hg : ∀ st', Gone s st st' → Goes s st' (rec st').2) (hr : ∀ st', Gone s st st' → (rec st').2.c = 0 → Named (rec st').1) (hc : (tm2 rec s f st).2.c = 0) : Named (tm2 rec s f st).1 := by
 have g0 := Gone.refl hp
 have g1 := hg st g0
 have k1 : Gone s st (rec st).2 := g1.gone
 have g2 := hg _ k1
 have g3 := rtake_gone g2.le (ba [41])
 obtain ⟨c2, _⟩ := g3.ok hc
 obtain ⟨c1, _⟩ := g2.ok c2
 have r1 := hr st g0 c1
 have r2 := hr _ k1 c2
 obtain ⟨f1, f2⟩ := hf (rec st).1 (rec (rec st).2).1
 simp only [tm2]
 refine ⟨fun l hl => ?_, fun l hl => ?_⟩
 ·rw [f1] at hl
  rcases List.mem_append.1 hl with hl | hl
  ·exact r1.lv l hl
  ·exact r2.lv l hl
 ·rw [f2] at hl
  rcases List.mem_append.1 hl with hl | hl
  ·exact r1.names l hl
  ·exact r2.names l hl
theorem rterm_named (s : ByteArray) : ∀ (n : Nat) (st : RS), st.p ≤ s.size → (st.c ≠ 0 ∨ s.size - st.p < n) → (rtermV n s st).2.c = 0 → Named (rtermV n s st).1
 | 0, st, hp, hn, hc => Named.leaf
 | n + 1, st, hp, hn, hc0 => by
  by_cases hc : st.c = 0
  case neg => rw [rterm_stuck hc]; exact Named.leaf
  have hc' : (st.c != 0) = false := by simp [hc]
  have g1 := rnext_goes hp
  simp only [rtermV, hc', cond_false] at hc0 ⊢
  cases hbad : badTok (tokV s st.p)
  case true => exact Named.leaf
  rw [hbad] at hc0
  cases h40 : strIs (tokV s st.p).t [40]
  case false => exact ⟨fun l hl => by simp [Tm.all] at hl, fun x hx => by simp [Tm.names] at hx⟩
  rw [h40] at hc0
  simp only [cond_true, cond_false, tmP] at hc0 ⊢
  cases hw : wordIx (tokV s (rnextV s st).2.p).t == 0
  case true => exact Named.leaf
  rw [hw] at hc0
  have g2 := g1.trans (rnext_goes g1.le).gone
  simp only [cond_false] at hc0 ⊢
  have hn2 : ∀ st', Goes s st st' → st'.c ≠ 0 ∨ s.size - st'.p < n := by
   intro st' h
   by_cases hz : st'.c = 0
   ·have := (h.ok hz).2
    have := h.le
    rcases hn with hn | hn
    ·exact absurd hc hn
    ·right; omega
   ·exact .inl hz
  generalize (rnextV s (rnextV s st).2).2 = st2 at g2 hc0 ⊢
  have hg : ∀ st', Gone s st2 st' → Goes s st' (rtermV n s st').2 := fun st' h => rterm_goes s n st' h.le (hn2 _ (g2.trans h))
  have hr : ∀ st', Gone s st2 st' → (rtermV n s st').2.c = 0 → Named (rtermV n s st').1 := fun st' h h0 => rterm_named s n st' h.le (hn2 _ (g2.trans h)) h0
  unfold tmB at hc0 ⊢
  split at hc0
  ·simp only
   refine ⟨fun l hl => ?_, fun x hx => by simp [Tm.names] at hx⟩
   simp only [Tm.all, List.mem_singleton] at hl
   subst hl
   exact rlevel_named s _ _
  ·have l1 := rname_goes (s := s) g2.le
   have l2 := rlvs_gone s (s.size + 10) _ l1.le
   have g3 := rtake_gone l2.le (ba [41])
   obtain ⟨c2, _⟩ := g3.ok hc0
   obtain ⟨c1, _⟩ := l2.ok c2
   simp only
   refine ⟨fun l hl => rlvs_named s _ _ l hl, fun x hx => ?_⟩
   simp only [Tm.names, List.mem_singleton] at hx
   subst hx
   exact rname_named c1
  ·exact tm2_named (fun a b => ⟨rfl, rfl⟩) g2.le hg hr hc0
  ·exact tm2_named (fun a b => ⟨rfl, rfl⟩) g2.le hg hr hc0
  ·exact tm2_named (fun a b => ⟨rfl, rfl⟩) g2.le hg hr hc0
  ·have g0 := Gone.refl g2.le
   have g1' := hg st2 g0
   have k1 : Gone s st2 (rtermV n s st2).2 := g1'.gone
   have g2' := hg _ k1
   have k2 : Gone s st2 (rtermV n s (rtermV n s st2).2).2 := k1.trans g2'.gone
   have g3' := hg _ k2
   have g4 := rtake_gone g3'.le (ba [41])
   obtain ⟨c3, _⟩ := g4.ok hc0
   obtain ⟨c2, _⟩ := g3'.ok c3
   obtain ⟨c1, _⟩ := g2'.ok c2
   have r1 := hr st2 g0 c1
   have r2 := hr _ k1 c2
   have r3 := hr _ k2 c3
   simp only [tm3]
   refine ⟨fun l hl => ?_, fun l hl => ?_⟩
   ·simp only [Tm.all] at hl
    rcases List.mem_append.1 hl with hl | hl
    ·exact r1.lv l hl
    ·rcases List.mem_append.1 hl with hl | hl
     ·exact r2.lv l hl
     ·exact r3.lv l hl
   ·simp only [Tm.names] at hl
    rcases List.mem_append.1 hl with hl | hl
    ·exact r1.names l hl
    ·rcases List.mem_append.1 hl with hl | hl
     ·exact r2.names l hl
     ·exact r3.names l hl
end Go.Ab.Mk
end
section
namespace Go.Ab
open Mk
structure Dc where
 kind : Nat
 name : ByteArray
 pars : List ByteArray
 type : Tm
 value : Tm
 arity : Nat
 ctors : List (ByteArray × Tm)
def Dc.parsV (d : Dc) : List (List V) := d.pars.map fun s => [.str s]
def Dc.ctorsV (d : Dc) : List (List V) := d.ctors.map fun c => .str c.1 :: c.2.enc
def Dc.enc (d : Dc) : List V := [.int .i64 d.kind, .str d.name, .slice 1 9 d.parsV] ++ d.type.enc ++ d.value.enc ++ [.int .i64 d.arity, .slice 6 71 d.ctorsV]
def Dc.val (d : Dc) : V := .agg d.enc
theorem Dc.enc_len (d : Dc) : d.enc.length = 15 := by
 simp [Dc.enc, Tm.enc_len]
end Go.Ab
end
section
namespace Go.Ab.Mk
open Go.Proofs Go.Ab
open Go.Lib (decDigits)
def waxiom : List UInt8 := [97, 120, 105, 111, 109]
def wdef : List UInt8 := [100, 101, 102]
def winduct : List UInt8 := [105, 110, 100, 117, 99, 116, 105, 118, 101]
def wctor : List UInt8 := [99, 116, 111, 114]
def kwL (k : Nat) : List UInt8 := match k with | 1 => waxiom | 2 => wdef | _ => winduct
def kindIx (t : ByteArray) : Nat := bif strIs t waxiom then 1 else bif strIs t wdef then 2 else bif strIs t winduct then 3 else 0
def rnamesV : Nat → ByteArray → RS → List ByteArray × RS
 | 0, _, st => ([], st)
 | n + 1, s, st =>
  bif st.c != 0 then ([], st) else
  bif strIs (tokV s st.p).t [41] then ([], st) else
  let x := rnameV s st
  let y := rnamesV n s x.2
  (x.1 :: y.1, y.2)
def badAr (k : Tok) : Bool := !k.ok || (isNo k.t || (!(isDigit (byteAt k.t 0)) || decide (k.t.size > 2)))
def rarityV (s : ByteArray) (st : RS) : Nat × RS :=
 bif st.c != 0 then (0, st) else
 bif badAr (tokV s st.p) then (0, rfailV st (tokV s st.p).at_) else (numV (tokV s st.p).t, (rnextV s st).2)
def rctorsV : Nat → ByteArray → RS → List (ByteArray × Tm) × RS
 | 0, _, st => ([], st)
 | n + 1, s, st =>
  bif st.c != 0 then ([], st) else
  bif !strIs (tokV s st.p).t [40] then ([], st) else
  let x := rnameV s (rtakeV s (rtakeV s st (ba [40])) (ba wctor))
  let t := rtermV (s.size + 1) s x.2
  let y := rctorsV n s (rtakeV s t.2 (ba [41]))
  ((x.1, t.1) :: y.1, y.2)
def dTail1 (s nm : ByteArray) (ps : List ByteArray) (st : RS) : Dc × RS :=
 (⟨1, nm, ps, (rtermV (s.size + 1) s st).1, .var 0, 0, []⟩, rtakeV s (rtermV (s.size + 1) s st).2 (ba [41]))
def dTail2 (s nm : ByteArray) (ps : List ByteArray) (st : RS) : Dc × RS :=
 (⟨2, nm, ps, (rtermV (s.size + 1) s st).1, (rtermV (s.size + 1) s (rtermV (s.size + 1) s st).2).1, 0, []⟩, rtakeV s (rtermV (s.size + 1) s (rtermV (s.size + 1) s st).2).2 (ba [41]))
def dTail4 (s nm : ByteArray) (ps : List ByteArray) (ar : Nat) (st : RS) : Dc × RS :=
 (⟨3, nm, ps, (rtermV (s.size + 1) s st).1, .var 0, ar, (rctorsV (s.size + 10) s (rtermV (s.size + 1) s st).2).1⟩, rtakeV s (rctorsV (s.size + 10) s (rtermV (s.size + 1) s st).2).2 (ba [41]))
def dTail3 (s nm : ByteArray) (ps : List ByteArray) (st : RS) : Dc × RS := dTail4 s nm ps (rarityV s st).1 (rarityV s st).2
def dTail (k : Nat) (s nm : ByteArray) (ps : List ByteArray) (st : RS) : Dc × RS := match k with | 1 => dTail1 s nm ps st | 2 => dTail2 s nm ps st | _ => dTail3 s nm ps st
def dNames (k : Nat) (s nm : ByteArray) (ps : List ByteArray) (x : List ByteArray × RS) : Dc × RS := dTail k s nm (ps ++ x.1) (rtakeV s x.2 (ba [41]))
def declK (k : Nat) (s : ByteArray) (st : RS) : Dc × RS := dNames k s (rnameV s st).1 [] (rnamesV (s.size + 10) s (rtakeV s (rnameV s st).2 (ba [40])))
def zeroDc : Dc := ⟨0, ByteArray.mk #[], [], .var 0, .var 0, 0, []⟩
def declW (s : ByteArray) (st : RS) : Dc × RS :=
 bif kindIx (tokV s st.p).t == 0 then (zeroDc, rfailV st (tokV s st.p).at_) else declK (kindIx (tokV s st.p).t) s (rnextV s st).2
def declV (s : ByteArray) (st : RS) : Dc × RS := declW s (rtakeV s st (ba [40]))
def declsV : Nat → ByteArray → RS → List Dc × RS
 | 0, _, st => ([], st)
 | n + 1, s, st =>
  bif st.c != 0 then ([], st) else
  bif (tokV s st.p).ok && isNo (tokV s st.p).t then ([], st) else
  ((declV s st).1 :: (declsV n s (declV s st).2).1, (declsV n s (declV s st).2).2)
def fparseV (s : ByteArray) : List Dc × Int × Int :=
 bif decide ((s.size : Int) > 200000) then ([], 2, 0) else
 bif (declsV (s.size + 2) s ⟨0, 0, 0⟩).2.c != 0 then ([], (declsV (s.size + 2) s ⟨0, 0, 0⟩).2.c, (declsV (s.size + 2) s ⟨0, 0, 0⟩).2.a) else ((declsV (s.size + 2) s ⟨0, 0, 0⟩).1, 0, 0)
theorem rname_stuck {s : ByteArray} {st : RS} (h : st.c ≠ 0) : rnameV s st = (ByteArray.mk #[], st) := by
 have h1 : (st.c == 0) = false := by simpa using h
 have h2 : (st.c != 0) = true := by simpa using h
 have : rfailV st (tokV s st.p).at_ = st := by unfold rfailV; rw [h1]; rfl
 unfold rnameV
 simp only [this]
 cases (!(tokV s st.p).ok || !isNameV (tokV s st.p).t) <;> simp only [cond_true, cond_false, h2]
theorem rnames_stuck {n : Nat} {s : ByteArray} {st : RS} (h : st.c ≠ 0) : rnamesV n s st = ([], st) := by
 cases n with
 | zero => rfl
 | succ n =>
  have h2 : (st.c != 0) = true := by simpa using h
  rw [rnamesV, h2]; rfl
theorem rctors_stuck {n : Nat} {s : ByteArray} {st : RS} (h : st.c ≠ 0) : rctorsV n s st = ([], st) := by
 cases n with
 | zero => rfl
 | succ n =>
  have h2 : (st.c != 0) = true := by simpa using h
  rw [rctorsV, h2]; rfl
theorem rarity_stuck {s : ByteArray} {st : RS} (h : st.c ≠ 0) : rarityV s st = (0, st) := by
 have h2 : (st.c != 0) = true := by simpa using h
 unfold rarityV
 rw [h2]; rfl
theorem dTail4_stuck {s nm : ByteArray} {ps : List ByteArray} {ar : Nat} {st : RS} (h : st.c ≠ 0) : (dTail4 s nm ps ar st).2 = st := by
 unfold dTail4
 rw [rterm_stuck h, rctors_stuck h, rtake_stuck h]
theorem dTail_stuck {k : Nat} {s nm : ByteArray} {ps : List ByteArray} {st : RS} (h : st.c ≠ 0) : (dTail k s nm ps st).2 = st := by
 unfold dTail
 split
 ·unfold dTail1; rw [rterm_stuck h, rtake_stuck h]
 ·unfold dTail2; rw [rterm_stuck h, rterm_stuck h, rtake_stuck h]
 ·unfold dTail3; rw [rarity_stuck h, dTail4_stuck h]
theorem dNames_stuck {k : Nat} {s nm : ByteArray} {ps : List ByteArray} {x : List ByteArray × RS} (h : x.2.c ≠ 0) : (dNames k s nm ps x).2 = x.2 := by
 unfold dNames
 rw [rtake_stuck h, dTail_stuck h]
theorem declK_stuck {k : Nat} {s : ByteArray} {st : RS} (h : st.c ≠ 0) : (declK k s st).2 = st := by
 unfold declK
 rw [rname_stuck h, rtake_stuck h, rnames_stuck h, dNames_stuck h]
theorem rfail_stuck {st : RS} {i : Nat} (h : st.c ≠ 0) : rfailV st i = st := by
 have h1 : (st.c == 0) = false := by simpa using h
 unfold rfailV; rw [h1]; rfl
theorem declW_stuck {s : ByteArray} {st : RS} (h : st.c ≠ 0) : (declW s st).2 = st := by
 unfold declW
 cases kindIx (tokV s st.p).t == 0
 ·rw [cond_false, rnext_stuck h, declK_stuck h]
 ·rw [cond_true, rfail_stuck h]
theorem rnames_gone (s : ByteArray) : ∀ (n : Nat) (st : RS), st.p ≤ s.size → Gone s st (rnamesV n s st).2
 | 0, st, h => Gone.refl h
 | n + 1, st, h => by
  unfold rnamesV
  cases st.c != 0
  ·cases strIs (tokV s st.p).t [41]
   ·exact (rname_goes h).gone.trans (rnames_gone s n _ (rname_goes h).le)
   ·exact Gone.refl h
  ·exact Gone.refl h
theorem rarity_gone {s : ByteArray} {st : RS} (h : st.p ≤ s.size) : Gone s st (rarityV s st).2 := by
 unfold rarityV
 cases st.c != 0
 ·cases badAr (tokV s st.p)
  ·exact (rnext_goes h).gone
  ·exact (rfail_gone h _).gone
 ·exact Gone.refl h
theorem rterm_goes1 {s : ByteArray} {st : RS} (h : st.p ≤ s.size) : Goes s st (rtermV (s.size + 1) s st).2 := rterm_goes s (s.size + 1) st h (.inr (by omega))
theorem rctors_gone (s : ByteArray) : ∀ (n : Nat) (st : RS), st.p ≤ s.size → Gone s st (rctorsV n s st).2
 | 0, st, h => Gone.refl h
 | n + 1, st, h => by
  unfold rctorsV
  cases st.c != 0
  ·cases !strIs (tokV s st.p).t [40]
   ·have g1 := (rtake_gone h (ba [40]))
    have g2 := g1.trans (rtake_gone g1.le (ba wctor))
    have g3 := g2.trans (rname_goes g2.le).gone
    have g4 := g3.trans (rterm_goes1 g3.le).gone
    have g5 := g4.trans (rtake_gone g4.le (ba [41]))
    exact g5.trans (rctors_gone s n _ g5.le)
   ·exact Gone.refl h
  ·exact Gone.refl h
theorem dTail4_gone {s nm : ByteArray} {ps : List ByteArray} {ar : Nat} {st : RS} (h : st.p ≤ s.size) : Goes s st (dTail4 s nm ps ar st).2 := by
 have g1 := rterm_goes1 h
 have g2 := g1.trans (rctors_gone s (s.size + 10) _ g1.le)
 exact g2.trans (rtake_gone g2.le _)
theorem dTail_gone {k : Nat} {s nm : ByteArray} {ps : List ByteArray} {st : RS} (h : st.p ≤ s.size) : Goes s st (dTail k s nm ps st).2 := by
 unfold dTail
 split
 ·have g1 := rterm_goes1 h
  exact g1.trans (rtake_gone g1.le _)
 ·have g1 := rterm_goes1 h
  have g2 := g1.trans (rterm_goes1 g1.le).gone
  exact g2.trans (rtake_gone g2.le _)
 ·have g0 := rarity_gone h
  have g1 := dTail4_gone (nm := nm) (ps := ps) (ar := (rarityV s st).1) g0.le
  exact ⟨g1.le, fun e => ⟨(g0.ok (g1.ok e).1).1, Nat.lt_of_le_of_lt (g0.ok (g1.ok e).1).2 (g1.ok e).2⟩⟩
theorem dNames_gone {k : Nat} {s nm : ByteArray} {ps : List ByteArray} {x : List ByteArray × RS} (h : x.2.p ≤ s.size) : Gone s x.2 (dNames k s nm ps x).2 := by
 have g1 := rtake_gone h (ba [41])
 exact g1.trans (dTail_gone g1.le).gone
theorem declK_goes {k : Nat} {s : ByteArray} {st : RS} (h : st.p ≤ s.size) : Goes s st (declK k s st).2 := by
 have g1 := rname_goes (s := s) h
 have g2 := g1.trans (rtake_gone g1.le (ba [40]))
 have g3 := g2.trans (rnames_gone s (s.size + 10) _ g2.le)
 exact g3.trans (dNames_gone g3.le)
theorem declW_goes {s : ByteArray} {st : RS} (h : st.p ≤ s.size) : Goes s st (declW s st).2 := by
 unfold declW
 cases kindIx (tokV s st.p).t == 0
 ·have g1 := rnext_goes h
  exact g1.trans (declK_goes g1.le).gone
 ·exact rfail_gone h _
theorem declV_goes {s : ByteArray} {st : RS} (h : st.p ≤ s.size) : Goes s st (declV s st).2 := by
 have g0 := rtake_gone h (ba [40])
 have g1 := declW_goes (s := s) g0.le
 exact ⟨g1.le, fun e => ⟨(g0.ok (g1.ok e).1).1, by have := (g0.ok (g1.ok e).1).2; have := (g1.ok e).2; unfold declV at *; omega⟩⟩
def parsL : List ByteArray → List UInt8
 | [] => []
 | x :: xs => x.data.toList ++ xs.flatMap fun y => 32 :: y.data.toList
def ctorL (c : ByteArray × Tm) : List UInt8 := 40 :: (wctor ++ 32 :: (c.1.data.toList ++ 32 :: (printT c.2 ++ [41])))
def ctorsL (cs : List (ByteArray × Tm)) : List UInt8 := cs.flatMap fun c => 32 :: ctorL c
def arL (d : Dc) : List UInt8 := if d.kind = 3 then 32 :: decDigits d.arity else []
def valL (d : Dc) : List UInt8 := if d.kind = 2 then 32 :: printT d.value else []
def prD (d : Dc) : List UInt8 :=
 40 :: (kwL d.kind ++ 32 :: (d.name.data.toList ++ 32 :: 40 :: (parsL d.pars ++ 41 :: (arL d ++ 32 :: (printT d.type ++ (valL d ++ (ctorsL d.ctors ++ [41])))))))
def prF (ds : List Dc) : List UInt8 := ds.flatMap fun d => prD d ++ [10]
structure TFine (t : Tm) : Prop where
 ok : TOk t
 wide : t.wide ≤ 1000000
 ne : ∀ l ∈ t.all, printL l ≠ []
theorem TFine.leaf : TFine (.var 0) := ⟨⟨by simp [Tm.top], fun l hl => by simp [Tm.all] at hl, fun l hl => by simp [Tm.names] at hl⟩, by simp [Tm.wide], fun l hl => by simp [Tm.all] at hl⟩
structure DOk (d : Dc) : Prop where
 kind : d.kind = 1 ∨ d.kind = 2 ∨ d.kind = 3
 name : NameOk d.name
 pars : ∀ x ∈ d.pars, NameOk x
 type : TFine d.type
 value : TFine d.value
 noval : d.kind ≠ 2 → d.value = .var 0
 noind : d.kind ≠ 3 → d.arity = 0 ∧ d.ctors = []
 arity : d.arity < 100
 ctors : ∀ c ∈ d.ctors, NameOk c.1 ∧ TFine c.2
theorem rterm_fine {s : ByteArray} {st : RS} (hs : s.size ≤ 200000) (h : st.p ≤ s.size) (hc : (rtermV (s.size + 1) s st).2.c = 0) :
  TFine (rtermV (s.size + 1) s st).1 ∧ (printT (rtermV (s.size + 1) s st).1).length + 56 * st.p ≤ 56 * (rtermV (s.size + 1) s st).2.p := by
 have r := rterm_read s (s.size + 1) st h (.inr (by omega)) hc
 have n := rterm_named s (s.size + 1) st h (.inr (by omega)) hc
 have g := rterm_goes1 (s := s) h
 have m := r.mass
 have w := wide_mass (rtermV (s.size + 1) s st).1
 have p := print_mass (t := (rtermV (s.size + 1) s st).1) (k := 4) r.top
 have := (g.ok hc).2
 have := g.le
 exact ⟨⟨⟨r.top, n.lv, n.names⟩, by omega, fun l hl => (r.all l hl).1⟩, by omega⟩
theorem flat_len (xs : List ByteArray) : ∀ {n : Nat}, (xs.map fun y : ByteArray => y.size + 1).sum = n → (xs.flatMap fun y : ByteArray => 32 :: y.data.toList).length = n := by
 induction xs with
 | nil => intro n h; simpa using h
 | cons x xs ih =>
  intro n h
  simp only [List.map_cons, List.sum_cons] at h
  have := ih rfl
  have hx : x.data.toList.length = x.size := Array.length_toList
  simp only [List.flatMap_cons, List.length_append, List.length_cons] at this ⊢
  omega
theorem parsL_len (xs : List ByteArray) : (parsL xs).length ≤ (xs.map fun y : ByteArray => y.size + 1).sum := by
 cases xs with
 | nil => simp [parsL]
 | cons x xs =>
  have := flat_len xs rfl
  have hx : x.data.toList.length = x.size := Array.length_toList
  simp only [parsL, List.length_append, List.map_cons, List.sum_cons] at this ⊢
  omega
theorem rnames_read (s : ByteArray) : ∀ (n : Nat) (st : RS), st.p ≤ s.size → (rnamesV n s st).2.c = 0 → (∀ x ∈ (rnamesV n s st).1, NameOk x) ∧ ((rnamesV n s st).1.map fun y : ByteArray => y.size + 1).sum + 2 * st.p ≤ 2 * (rnamesV n s st).2.p
 | 0, st, h, _ => ⟨fun x hx => by simp [rnamesV] at hx, by simp [rnamesV]⟩
 | n + 1, st, h, hc => by
  unfold rnamesV at hc ⊢
  cases h1 : st.c != 0
  ·rw [h1] at hc
   cases h2 : strIs (tokV s st.p).t [41]
   ·rw [h2] at hc
    simp only [cond_false] at hc ⊢
    have g := rname_goes (s := s) h
    obtain ⟨c1, p1⟩ := (rnames_gone s n _ g.le).ok hc
    obtain ⟨i1, i2⟩ := rnames_read s n _ g.le hc
    have r1 := rname_read h c1
    have r2 := (g.ok c1).2
    refine ⟨fun x hx => ?_, ?_⟩
    ·rcases List.mem_cons.1 hx with rfl | hx
     ·exact rname_named c1
     ·exact i1 x hx
    ·simp only [List.map_cons, List.sum_cons]
     omega
   ·exact ⟨fun x hx => by simp at hx, by simp⟩
  ·exact ⟨fun x hx => by simp at hx, by simp⟩
theorem take_read {s : ByteArray} {st : RS} {w : List UInt8} (h : st.p ≤ s.size) (hc : (rtakeV s st (ba w)).c = 0) : st.c = 0 ∧ st.p + w.length ≤ (rtakeV s st (ba w)).p := by
 obtain ⟨_, a⟩ := rtake_p (w := ba w) h
 obtain ⟨a1, a2, a3⟩ := a hc
 have := (tokV_ok s h).ge
 have hz : (tokV s st.p).t.size = w.length := strIs_size (by simpa [strIs] using a2)
 exact ⟨a1, by omega⟩
theorem rctors_read {s : ByteArray} (hs : s.size ≤ 200000) : ∀ (n : Nat) (st : RS), st.p ≤ s.size → (rctorsV n s st).2.c = 0 → (∀ c ∈ (rctorsV n s st).1, NameOk c.1 ∧ TFine c.2) ∧ (ctorsL (rctorsV n s st).1).length + 60 * st.p ≤ 60 * (rctorsV n s st).2.p
 | 0, st, h, _ => ⟨fun x hx => by simp [rctorsV] at hx, by simp [rctorsV, ctorsL]⟩
 | n + 1, st, h, hc => by
  unfold rctorsV at hc ⊢
  cases h1 : st.c != 0
  ·rw [h1] at hc
   cases h2 : !strIs (tokV s st.p).t [40]
   ·rw [h2] at hc
    simp only [cond_false] at hc ⊢
    have g1 := (rtake_gone h (ba [40]))
    have g2 := (rtake_gone g1.le (ba wctor))
    have g3 := (rname_goes (s := s) g2.le)
    have g4 := (rterm_goes1 g3.le)
    have g5 := (rtake_gone g4.le (ba [41]))
    obtain ⟨c5, p5⟩ := (rctors_gone s n _ g5.le).ok hc
    obtain ⟨i1, i2⟩ := rctors_read hs n _ g5.le hc
    obtain ⟨c4, p4⟩ := g5.ok c5
    obtain ⟨c3, p3⟩ := g4.ok c4
    obtain ⟨c2, p2⟩ := g3.ok c3
    obtain ⟨c1, p1⟩ := g2.ok c2
    have k1 := (take_read h c1).2
    have k2 := (take_read g1.le c2).2
    have k3 := rname_read g2.le c3
    obtain ⟨k4, k5⟩ := rterm_fine hs g3.le c4
    refine ⟨fun c hx => ?_, ?_⟩
    ·rcases List.mem_cons.1 hx with rfl | hx
     ·exact ⟨rname_named c3, k4⟩
     ·exact i1 c hx
    ·have hx : (rnameV s (rtakeV s (rtakeV s st (ba [40])) (ba wctor))).1.data.toList.length = (rnameV s (rtakeV s (rtakeV s st (ba [40])) (ba wctor))).1.size := Array.length_toList
     simp only [ctorsL, List.flatMap_cons, List.length_append, List.length_cons, ctorL, List.length_nil] at i2 ⊢
     simp only [List.length_cons, List.length_nil, wctor] at k1 k2 ⊢
     unfold wctor at *
     omega
   ·exact ⟨fun x hx => by simp at hx, by simp [ctorsL]⟩
  ·exact ⟨fun x hx => by simp at hx, by simp [ctorsL]⟩
theorem tok_dig {s : ByteArray} {p : Nat} (hp : p ≤ s.size) (hok : (tokV s p).ok = true) (h0 : isNo (tokV s p).t = false) (hd0 : isDigit (byteAt (tokV s p).t 0) = true) : Digits (tokV s p).t ∧ (1 < (tokV s p).t.size → byteAt (tokV s p).t 0 ≠ 48) := by
  have h1 := le_scan isBlank s p
  have h2 := scan_le (f := isBlank) hp
  unfold tokV at hok h0 hd0 ⊢
  generalize scan isBlank s p = i at h1 h2 hok h0 hd0 ⊢
  by_cases hi : i = s.size
  · have : tokAt s i = ⟨ByteArray.mk #[], i, true⟩ := by unfold tokAt; simp [hi]
    rw [this] at h0; simp [isNo] at h0
  · have hlt : i < s.size := by omega
    have hb : ∀ q, i + 1 ≤ q → q ≤ s.size → byteAt (s.extract i q) 0 = byteAt s i := fun q hq1 hq2 => byteAt_ext (by omega) hq2
    unfold tokAt at hok h0 hd0 ⊢
    have hib : (i == s.size) = false := by simpa using hi
    simp only [hib, cond_false] at hok h0 hd0 ⊢
    cases e40 : byteAt s i == 40
    case true =>
      simp only [e40, cond_true] at hok h0 hd0 ⊢
      rw [hb _ (Nat.le_refl _) (by omega), beq_iff_eq.1 e40] at hd0
      exact absurd hd0 (by decide)
    cases e41 : byteAt s i == 41
    case true =>
      simp only [e40, e41, cond_true, cond_false] at hok h0 hd0 ⊢
      rw [hb _ (Nat.le_refl _) (by omega), beq_iff_eq.1 e41] at hd0
      exact absurd hd0 (by decide)
    simp only [e40, e41, cond_false] at hok h0 hd0 ⊢
    cases enm : nmByte (byteAt s i) true
    case true =>
      simp only [enm, cond_true] at hok h0 hd0 ⊢
      have g1 := le_scan (nmByte · false) s (i + 1)
      have g2 := scan_le (f := (nmByte · false)) (s := s) (i := i + 1) (by omega)
      generalize scan (nmByte · false) s (i + 1) = q at g1 g2 hok h0 hd0 ⊢
      unfold nmTok at hok h0 hd0 ⊢
      cases e : decide (q - i > 40)
      · simp only [e, cond_false] at hok h0 hd0 ⊢
        rw [hb q g1 g2] at hd0
        simp only [nmByte, isLetter, Bool.not_true, Bool.false_and, Bool.or_false, Bool.or_eq_true, Bool.and_eq_true, decide_eq_true_eq, beq_iff_eq] at enm
        simp only [isDigit, Bool.and_eq_true, decide_eq_true_eq] at hd0
        omega
      · simp [e, Tok.no] at hok
    simp only [enm, cond_false] at hok h0 hd0 ⊢
    cases e35 : (byteAt s i == 35 || isDigit (byteAt s i))
    case false => simp [e35, Tok.no] at hok
    simp only [e35, cond_true] at hok h0 hd0 ⊢
    have g1 := le_scan isDigit s (i + 1)
    have g2 := scan_le (f := isDigit) (s := s) (i := i + 1) (by omega)
    have g3 := scan_all (f := isDigit) (s := s) _ (i + 1) rfl
    generalize scan isDigit s (i + 1) = q at g1 g2 g3 hok h0 hd0 ⊢
    simp only [numTok] at hok hd0 h0 ⊢
    have hne : byteAt s i ≠ 35 ∨ byteAt s i = 35 := by omega
    rcases hne with hne | h35
    · have c0 : (byteAt s i == 35) = false := by simpa using hne
      simp only [c0, cond_false] at hok hd0 h0 ⊢
      cases c1 : q == i
      · cases c2 : decide (q - i > 5)
        · cases c3 : (decide (q - i > 1) && byteAt s i == 48)
          · simp only [c1, c2, c3, cond_false] at hok hd0 h0 ⊢
            rw [hb q g1 g2] at hd0
            have hsz : (s.extract i q).size = q - i := by rw [ByteArray.size_extract]; omega
            simp at c1 c2
            refine ⟨⟨by rw [hsz]; omega, by rw [hsz]; omega, fun j hj => ?_⟩, fun h => ?_⟩
            · rw [hsz] at hj
              rw [byteAt_ext (by omega) g2]
              by_cases hj0 : j = 0
              · subst hj0; exact hd0
              · exact g3 _ (by omega) (by omega)
            · rw [hsz] at h
              rw [hb q g1 g2]
              simp only [Bool.and_eq_false_iff, decide_eq_false_iff_not, beq_eq_false_iff_ne] at c3
              rcases c3 with c3 | c3
              · omega
              · exact c3
          · simp [c1, c2, c3, Tok.no] at hok
        · simp [c1, c2, Tok.no] at hok
      · simp [c1, Tok.no] at hok
    · simp only [h35, beq_self_eq_true, cond_true] at hok hd0 h0 ⊢
      cases c1 : q == i + 1
      · cases c2 : decide (q - (i + 1) > 5)
        · cases c3 : (decide (q - (i + 1) > 1) && byteAt s (i + 1) == 48)
          · simp only [c1, c2, c3, cond_false] at hok hd0 h0 ⊢
            rw [hb q g1 g2, h35] at hd0
            exact absurd hd0 (by decide)
          · simp [c1, c2, c3, Tok.no] at hok
        · simp [c1, c2, Tok.no] at hok
      · simp [c1, Tok.no] at hok
theorem numFrom_ge (s : ByteArray) : ∀ (k i acc : Nat), s.size - i = k → acc * 10 ^ k ≤ numFrom s i acc
 | 0, i, acc, hk => by rw [numFrom_end (by omega)]; simp
 | k + 1, i, acc, hk => by
  rw [numFrom_go (by omega)]
  refine Nat.le_trans ?_ (numFrom_ge s k (i + 1) _ (by omega))
  rw [Nat.pow_succ, Nat.mul_comm (10 ^ k) 10, ← Nat.mul_assoc]
  exact Nat.mul_le_mul_right _ (by omega)
theorem num_two {t : ByteArray} (h : Digits t) (h0 : 1 < t.size → byteAt t 0 ≠ 48) : decide (t.size > 2) = decide (numV t > 99) := by
 have h1 := num_lt h t.size 0 0 rfl
 change numV t + 1 ≤ _ at h1
 by_cases hz : t.size > 2
 ·have h2 : numV t = numFrom t 1 ((byteAt t 0).toNat - 48) := by
   unfold numV
   rw [numFrom_go h.pos]
   congr 1
   omega
  have h3 := numFrom_ge t (t.size - 1) 1 ((byteAt t 0).toNat - 48) rfl
  obtain ⟨n, e1, e2, e3⟩ := h.byte (i := 0) h.pos
  have h5 := h0 (by omega)
  rw [e1] at h2 h3 h5
  have h6 : 1 ≤ (n : Int).toNat - 48 := by omega
  have h4 : 10 ^ 2 ≤ 10 ^ (t.size - 1) := Nat.pow_le_pow_right (by omega) (by omega)
  have h7 : 1 * 10 ^ (t.size - 1) ≤ ((n : Int).toNat - 48) * 10 ^ (t.size - 1) := Nat.mul_le_mul_right _ h6
  rw [decide_eq_true hz, decide_eq_true]
  rw [h2]
  omega
 ·have h4 : 10 ^ t.size ≤ 10 ^ 2 := Nat.pow_le_pow_right (by omega) (by omega)
  rw [decide_eq_false hz, decide_eq_false]
  omega
theorem rarity_lt {s : ByteArray} {st : RS} (h : st.p ≤ s.size) : (rarityV s st).1 < 100 := by
 unfold rarityV
 cases st.c != 0
 ·cases hb : badAr (tokV s st.p)
  ·simp only [cond_false]
   unfold badAr at hb
   simp only [Bool.or_eq_false_iff, Bool.not_eq_false'] at hb
   obtain ⟨d1, d2⟩ := tok_dig h hb.1 hb.2.1 hb.2.2.1
   have := num_two d1 d2
   rw [hb.2.2.2] at this
   have := of_decide_eq_false this.symm
   omega
  ·simp
 ·simp
theorem kindIx_le (t : ByteArray) : kindIx t ≤ 3 := by
 unfold kindIx
 cases strIs t waxiom <;> cases strIs t wdef <;> cases strIs t winduct <;> simp
theorem decDigits_two {n : Nat} (h : n < 100) : (decDigits n).length ≤ 2 := dec_digits 1 n (by simpa using h)
theorem kwL_len (k : Nat) : (kwL k).length ≤ 9 := by
 unfold kwL
 split <;> decide
theorem decl_read {s : ByteArray} (hs : s.size ≤ 200000) {st : RS} (h : st.p ≤ s.size) (hc : (declV s st).2.c = 0) : DOk (declV s st).1 ∧ (prD (declV s st).1).length + 60 * st.p ≤ 60 * (declV s st).2.p := by
 unfold declV at hc ⊢
 have g0 := rtake_gone h (ba [40])
 obtain ⟨c0, _⟩ := (declW_goes (s := s) g0.le).ok hc
 have k0 := (take_read h c0).2
 generalize rtakeV s st (ba [40]) = st1 at *
 unfold declW at hc ⊢
 cases hk : kindIx (tokV s st1.p).t == 0
 case true => rw [hk] at hc; exact absurd hc (rfail_c _ _)
 rw [hk] at hc
 simp only [cond_false] at hc ⊢
 have hk0 : kindIx (tokV s st1.p).t ≠ 0 := by simpa using hk
 have hk3 := kindIx_le (tokV s st1.p).t
 have g1 := rnext_goes g0.le
 have hg1 := g1.le
 obtain ⟨c1, _⟩ := (declK_goes (k := kindIx (tokV s st1.p).t) hg1).ok hc
 have k1 := (g1.ok c1).2
 generalize kindIx (tokV s st1.p).t = k at *
 generalize (rnextV s st1).2 = st2 at *
 unfold declK at hc ⊢
 have g2 := rname_goes (s := s) hg1
 have g3 := rtake_gone g2.le (ba [40])
 have g4 := rnames_gone s (s.size + 10) _ g3.le
 obtain ⟨c4, _⟩ := (dNames_gone (k := k) (nm := (rnameV s st2).1) (ps := []) g4.le).ok hc
 obtain ⟨c3, p4⟩ := g4.ok c4
 obtain ⟨c2, p3⟩ := g3.ok c3
 have p2 := (g2.ok c2).2
 have hname := rname_named c2
 have hname2 := rname_read hg1 c2
 have k3 := (take_read g2.le c3).2
 obtain ⟨n1, n2⟩ := rnames_read s (s.size + 10) _ g3.le c4
 have n3 := parsL_len (rnamesV (s.size + 10) s (rtakeV s (rnameV s st2).2 (ba [40]))).1
 have hx : (rnameV s st2).1.data.toList.length = (rnameV s st2).1.size := Array.length_toList
 have hg4 := g4.le
 generalize (rnamesV (s.size + 10) s (rtakeV s (rnameV s st2).2 (ba [40]))) = X at *
 generalize (rnameV s st2).1 = nm at *
 unfold dNames at hc ⊢
 have g5 := rtake_gone hg4 (ba [41])
 obtain ⟨c5, _⟩ := (dTail_gone (k := k) (nm := nm) (ps := [] ++ X.1) g5.le).ok hc
 have k5 := (take_read hg4 c5).2
 have hg5 := g5.le
 rw [List.nil_append] at hc ⊢
 simp only [List.length_singleton] at k0 k3 k5
 generalize rtakeV s X.2 (ba [41]) = st5 at *
 have hkw := kwL_len k
 have case1 : k = 1 ∨ k = 2 ∨ k = 3 := by omega
 rcases case1 with rfl | rfl | rfl
 ·simp only [dTail, dTail1] at hc ⊢
  obtain ⟨c6, k6⟩ := take_read (rterm_goes1 hg5).le hc
  obtain ⟨f1, f2⟩ := rterm_fine hs hg5 c6
  refine ⟨⟨.inl rfl, hname, n1, f1, TFine.leaf, fun _ => rfl, fun _ => ⟨rfl, rfl⟩, by simp, fun c hc => by simp at hc⟩, ?_⟩
  simp only [prD, arL, valL, ctorsL, List.flatMap_nil, List.length_cons, List.length_append, List.length_nil, show (1 : Nat) ≠ 3 by omega, show (1 : Nat) ≠ 2 by omega, if_false] at k6 ⊢
  omega
 ·simp only [dTail, dTail2] at hc ⊢
  obtain ⟨c7, k7⟩ := take_read (rterm_goes1 (rterm_goes1 hg5).le).le hc
  obtain ⟨c6, _⟩ := (rterm_goes1 (rterm_goes1 hg5).le).ok c7
  obtain ⟨f1, f2⟩ := rterm_fine hs hg5 c6
  obtain ⟨f3, f4⟩ := rterm_fine hs (rterm_goes1 hg5).le c7
  have := ((rterm_goes1 hg5).ok c6).2
  refine ⟨⟨.inr (.inl rfl), hname, n1, f1, f3, fun h => absurd rfl h, fun _ => ⟨rfl, rfl⟩, by simp, fun c hc => by simp at hc⟩, ?_⟩
  simp only [prD, arL, valL, ctorsL, List.flatMap_nil, List.length_cons, List.length_append, List.length_nil, show (2 : Nat) ≠ 3 by omega, if_true, if_false] at k7 ⊢
  omega
 ·simp only [dTail, dTail3, dTail4] at hc ⊢
  have ga := rarity_gone hg5
  have ha := rarity_lt (st := st5) hg5
  have gt := rterm_goes1 ga.le
  have gc := rctors_gone s (s.size + 10) _ gt.le
  obtain ⟨c8, k8⟩ := take_read gc.le hc
  obtain ⟨c7, p8⟩ := gc.ok c8
  obtain ⟨c6, p7⟩ := gt.ok c7
  have p6 := (ga.ok c6).2
  obtain ⟨f1, f2⟩ := rterm_fine hs ga.le c7
  obtain ⟨i1, i2⟩ := rctors_read hs (s.size + 10) _ gt.le c8
  have hd2 := decDigits_two ha
  refine ⟨⟨.inr (.inr rfl), hname, n1, f1, TFine.leaf, fun _ => rfl, fun h => absurd rfl h, ha, i1⟩, ?_⟩
  simp only [prD, arL, valL, List.length_cons, List.length_append, List.length_nil, show (3 : Nat) ≠ 2 by omega, if_true, if_false] at k8 ⊢
  omega
theorem decls_read {s : ByteArray} (hs : s.size ≤ 200000) : ∀ (n : Nat) (st : RS), st.p ≤ s.size → (declsV n s st).2.c = 0 → (∀ d ∈ (declsV n s st).1, DOk d) ∧ (prF (declsV n s st).1).length + 61 * st.p ≤ 61 * (declsV n s st).2.p ∧ (declsV n s st).2.p ≤ s.size ∧ st.p ≤ (declsV n s st).2.p ∧ st.c = 0 ∧ (declsV n s st).1.length + st.p ≤ (declsV n s st).2.p
 | 0, st, h, hc => ⟨fun d hd => by simp [declsV] at hd, by simp [declsV, prF], h, Nat.le_refl _, hc, by simp [declsV]⟩
 | n + 1, st, h, hc => by
  unfold declsV at hc ⊢
  cases h1 : st.c != 0
  ·have hc0 : st.c = 0 := by simpa using h1
   rw [h1] at hc
   cases h2 : (tokV s st.p).ok && isNo (tokV s st.p).t
   ·rw [h2] at hc
    simp only [cond_false] at hc ⊢
    have g := declV_goes (s := s) h
    obtain ⟨i1, i2, i3, i4, i5, i6⟩ := decls_read hs n _ g.le hc
    obtain ⟨r1, r2⟩ := decl_read hs h i5
    have := (g.ok i5).2
    refine ⟨fun d hd => ?_, ?_, i3, by omega, hc0, by simp only [List.length_cons]; omega⟩
    ·rcases List.mem_cons.1 hd with rfl | hd
     ·exact r1
     ·exact i1 d hd
    ·simp only [prF, List.flatMap_cons, List.length_append, List.length_cons, List.length_nil] at i2 ⊢
     omega
   ·exact ⟨fun d hd => by simp at hd, by simp [prF], h, Nat.le_refl _, hc0, by simp⟩
  ·rw [h1] at hc
   simp only [cond_true] at hc
   rw [hc] at h1; simp at h1
theorem fparse_read {s : ByteArray} (h : (fparseV s).2.1 = 0) : s.size ≤ 200000 ∧ (∀ d ∈ (fparseV s).1, DOk d) ∧ (prF (fparseV s).1).length ≤ 61 * s.size ∧ (fparseV s).1.length ≤ s.size := by
 unfold fparseV at *
 cases hb : decide ((s.size : Int) > 200000)
 ·rw [hb] at h
  have hb' : s.size ≤ 200000 := by have := of_decide_eq_false hb; omega
  simp only [cond_false] at h ⊢
  cases hd : (declsV (s.size + 2) s ⟨0, 0, 0⟩).2.c != 0
  ·simp only [cond_false]
   obtain ⟨i1, i2, i3, i4, i5, i6⟩ := decls_read hb' (s.size + 2) ⟨0, 0, 0⟩ (by simp) (by simpa using hd)
   refine ⟨hb', i1, ?_, ?_⟩
   ·simp only [Nat.mul_zero, Nat.add_zero] at i2
    omega
   ·simp only [Nat.add_zero] at i6
    omega
  ·rw [hd] at h
   simp only [cond_true] at h
   rw [h] at hd; simp at hd
 ·rw [hb] at h
  simp at h
end Go.Ab.Mk
end
section
namespace Go.Ab.Mk
open Go.Proofs Go.Ab
def Ends0 (s : ByteArray) (σ : Sto) (r : Nat) (B : Option Res) (st : RS) : Prop :=
 (∃ p, st = ⟨p, 0, 0⟩ ∧ B = some (.ret [], σ.set r ((stepV s p).cells s))) ∨
 (st.c = 1 ∧ ∃ cs, B = some (.pan (.iface 49 (.ptr 33 σ.length 0)), σ.set r cs ++ [fcell 1 st.a]))
section
variable {s : ByteArray} {σ : Sto} {r : Nat}
theorem Ends0.bind {f : FuncId} {args : List Cell} {σ0 : Sto} {y : V} {st : RS} {K : List Cell → Sto → Option Res} {G : RS → RS} (h : Ends0 s σ r (lim C f args σ0) st)
  (hK : ∀ p, st = ⟨p, 0, 0⟩ → Ends s σ r (K [] (σ.set r ((stepV s p).cells s))) y (G st)) (hG : st.c ≠ 0 → G st = st) :
  Ends s σ r (callK (lim C) f args σ0 0 K (fun v σ => some (.pan v, σ))) y (G st) := by
 rcases h with ⟨p, h1, h2⟩ | ⟨h1, cs, h2⟩
 ·rw [callK_ret0 h2]
  exact hK p h1
 ·right
  rw [hG (by rw [h1]; decide)]
  refine ⟨h1, cs, ?_⟩
  rw [callK_panic h2]
theorem ends_take (hs : s.size < 2 ^ 61) (hr : r < σ.length) {p : Nat} (hp : p ≤ s.size) {w : List UInt8} (hw : w ≠ []) (hw0 : w ≠ [0]) :
  Ends0 s σ r (lim C 30 [(.ptr 55 r 0, false), (.str (ba w), false)] (σ.set r ((stepV s p).cells s))) (rtakeV s ⟨p, 0, 0⟩ (ba w)) := by
 rcases stake_law hr hs hp hw hw0 with ⟨_, h2, h3⟩ | ⟨h1, h2⟩
 ·exact .inl ⟨_, h2, h3⟩
 ·exact .inr ⟨h1, _, h2⟩
theorem ends_next (hs : s.size < 2 ^ 61) (hr : r < σ.length) {p : Nat} (hp : p ≤ s.size) (h : (tokV s p).ok = true ∧ isNo (tokV s p).t = false) :
  Ends0 s σ r (lim C 29 [(.ptr 55 r 0, false)] (σ.set r ((stepV s p).cells s))) (rnextV s ⟨p, 0, 0⟩).2 := .inl ⟨_, rnext_at h, step_law' hr hs hp⟩
theorem close_end (hs : s.size < 2 ^ 61) (hr : r < σ.length) {p : Nat} (hp : p ≤ s.size) (y : V) :
  Ends s σ r (callK (lim C) 30 [(.ptr 55 r 0, false), (.str (ba [41]), false)] (σ.set r ((stepV s p).cells s)) 0 (fun _ σ => some (.ret [(y, false)], σ)) (fun v σ => some (.pan v, σ))) y (rtakeV s ⟨p, 0, 0⟩ (ba [41])) :=
 (ends_take hs hr hp (w := [41]) (by simp) (by simp)).bind (G := fun st => st) (fun p' h => .inl ⟨p', h, rfl⟩) (fun _ => rfl)
theorem ends_fail (hr : r < σ.length) {p : Nat} {n : Nat} {K : List Cell → Sto → Option Res} (y : V) :
  Ends s σ r (callK (lim C) 32 [(.ptr 55 r 0, false)] (σ.set r ((stepV s p).cells s)) n K (fun v σ => some (.pan v, σ))) y (rfailV ⟨p, 0, 0⟩ (tokV s p).at_) := by
 have h := sfail_law hr (s := s) (stepV s p)
 rw [step_pos] at h
 rw [callK_panic h]
 exact .inr ⟨by simp [rfailV], (stepV s p).cells s, by simp [rfailV]⟩
theorem ends_read (hs : s.size ≤ 200000) (hr : r < σ.length) {p : Nat} (hp : p ≤ s.size) :
  Ends s σ r (lim C 35 [(.ptr 55 r 0, false)] (σ.set r ((stepV s p).cells s))) (rtermV (s.size + 1) s ⟨p, 0, 0⟩).1.val (rtermV (s.size + 1) s ⟨p, 0, 0⟩).2 := read_law hs (s.size + 1) p σ r hr hp (by omega)
theorem dc_val (k : Nat) (nm : ByteArray) (ps : List ByteArray) (ty va : Tm) (ar : Nat) (cs : List (ByteArray × Tm)) : (Dc.mk k nm ps ty va ar cs).val =
  .agg [.int .i64 k, .str nm, .slice 1 9 (strs ps), .int .i64 ty.kind, .int .i64 ty.num, .str ty.name, .slice 3 92 (ty.lvs.map Lv.enc), .slice 5 44 ty.args,
   .int .i64 va.kind, .int .i64 va.num, .str va.name, .slice 3 92 (va.lvs.map Lv.enc), .slice 5 44 va.args, .int .i64 ar, .slice 6 71 (cs.map fun c => .str c.1 :: c.2.enc)] := by
 simp [Dc.val, Dc.enc, Tm.enc_eq, Dc.parsV, Dc.ctorsV, strs]
theorem tm_fits5 (t : Tm) : V.fits t.val true 5 = true := rfl
theorem str_fits (b : ByteArray) : V.fits (.str b) false 1 = true := rfl
theorem int_fits (k : IntKind) (b : Int) : V.fits (.int k b) false 1 = true := rfl
variable {N : Nat} {t0 : Int} {t1 : ByteArray} {t2 : List (List V)} {t3 t4 : Int} {t5 : ByteArray} {t6 t7 : List (List V)} {t8 t9 : Int} {t10 : ByteArray} {t11 t12 : List (List V)} {t13 : Int} {t14 : List (List V)}
theorem ctors_run (hs : s.size ≤ 200000) (hr : r < σ.length) {nm : ByteArray} {ps : List ByteArray} {ty va : Tm} {ar : Nat} : ∀ (m : Nat) (cs : List (ByteArray × Tm)) (p : Nat), p ≤ s.size → cs.length + (s.size - p) ≤ 200000 → s.size - p < m →
  Ends s σ r (freadl1 (lim C) N m r t0 t1 t2 t3 t4 t5 t6 t7 t8 t9 t10 t11 t12 t13 t14 3 (.str nm) (strs ps) (.int .i64 ty.kind) (.int .i64 ty.num) (.str ty.name) (.slice 3 92 (ty.lvs.map Lv.enc)) (.slice 5 44 ty.args) va.kind va.num va.name (va.lvs.map Lv.enc) va.args (.int .i64 ar) (cs.map fun c => .str c.1 :: c.2.enc) (σ.set r ((stepV s p).cells s)))
   (Dc.mk 3 nm ps ty va ar (cs ++ (rctorsV m s ⟨p, 0, 0⟩).1)).val (rtakeV s (rctorsV m s ⟨p, 0, 0⟩).2 (ba [41]))
 | 0, _, _, _, _, hm => by omega
 | m + 1, cs, p, hp, hb, hm => by
  have hs' : s.size < 2 ^ 61 := by omega
  show Ends s σ r (freads1 (lim C) (freadl1 (lim C) N m) r _ _ _ _ _ _ _ _ _ _ _ _ _ _ _ _ _ _ _ _ _ _ _ _ _ _ _ _ _ _ _) _ _
  unfold freads1
  have e40 : ∀ t : ByteArray, (t.toList == (ByteArray.mk #[40]).toList) = strIs t [40] := fun _ => rfl
  have e41 : ByteArray.mk #[41] = ba [41] := rfl
  have ec : ByteArray.mk #[99, 116, 111, 114] = ba wctor := rfl
  have tk := stepTok hp (w := [40]) (by simp) (by simp)
  simp only [sg2 hr, Option.bind_some, V.asStr, e40, tk, rctorsV, bne_self_eq_false, cond_false, e41, ec]
  cases h3 : strIs (tokV s p).t [40]
  case false =>
   simp only [Bool.not_false, cond_false, cond_true, List.append_nil]
   rw [dc_val]
   exact close_end hs' hr hp _
  simp only [Bool.not_true, cond_true, cond_false]
  have hok := strIs_ok hp (w := [40]) (by simp) h3
  have hnx : rtakeV s ⟨p, 0, 0⟩ (ba [40]) = (rnextV s ⟨p, 0, 0⟩).2 := by
   rcases stake_law hr hs' hp (w := [40]) (by simp) (by simp) with ⟨_, h2, _⟩ | ⟨h1, _⟩
   ·rw [h2, rnext_at hok]
   ·have h4 : ((tokV s p).t.toList == (ba [40]).toList) = true := h3
    unfold rtakeV at h1
    simp [hok.1, h4] at h1
  rw [hnx]
  have g0 := rnext_goes (s := s) (st := ⟨p, 0, 0⟩) hp
  refine (ends_next hs' hr hp hok).bind (G := fun st => rtakeV s (rctorsV m s (rtakeV s (rtermV (s.size + 1) s (rnameV s (rtakeV s st (ba wctor))).2).2 (ba [41]))).2 (ba [41])) (fun q hq => ?_) (fun hc => by rw [rtake_stuck hc, rname_stuck hc, rterm_stuck hc, rtake_stuck hc, rctors_stuck hc, rtake_stuck hc])
  rw [hq] at g0 ⊢
  have hlt := (g0.ok rfl).2
  simp only at hlt
  clear hq hnx
  have g1 := rtake_gone (s := s) (st := ⟨q, 0, 0⟩) g0.le (ba wctor)
  refine (ends_take hs' hr g0.le (w := wctor) (by decide) (by decide)).bind (G := fun st => rtakeV s (rctorsV m s (rtakeV s (rtermV (s.size + 1) s (rnameV s st).2).2 (ba [41]))).2 (ba [41])) (fun q1 hq => ?_) (fun hc => by rw [rname_stuck hc, rterm_stuck hc, rtake_stuck hc, rctors_stuck hc, rtake_stuck hc])
  rw [hq] at g1 ⊢
  have hl1 := (g1.ok rfl).2
  have hle1 := g1.le
  simp only at hl1 hle1
  clear hq g1
  have g2 := rname_goes (s := s) (st := ⟨q1, 0, 0⟩) hle1
  refine (ends_name hs' hr hle1).bind (G := fun st => rtakeV s (rctorsV m s (rtakeV s (rtermV (s.size + 1) s st).2 (ba [41]))).2 (ba [41])) (fun q2 hq => ?_) (fun hc => by rw [rterm_stuck hc, rtake_stuck hc, rctors_stuck hc, rtake_stuck hc])
  generalize (rnameV s ⟨q1, 0, 0⟩).1 = nm1
  rw [hq] at g2 ⊢
  have hl2 := (g2.ok rfl).2
  have hle2 := g2.le
  simp only at hl2 hle2
  clear hq g2
  have g3 := rterm_goes1 (s := s) (st := ⟨q2, 0, 0⟩) hle2
  refine (ends_read hs hr hle2).bind (G := fun st => rtakeV s (rctorsV m s (rtakeV s st (ba [41]))).2 (ba [41])) (fun q3 hq => ?_) (fun hc => by rw [rtake_stuck hc, rctors_stuck hc, rtake_stuck hc])
  generalize (rtermV (s.size + 1) s ⟨q2, 0, 0⟩).1 = ty1
  rw [hq] at g3 ⊢
  have hl3 := (g3.ok rfl).2
  have hle3 := g3.le
  simp only at hl3 hle3
  clear hq g3
  have hroom : room (List.length (List.map (fun c : ByteArray × Tm => V.str c.1 :: c.2.enc) cs) + 1) = true := room_ok (by simp; omega)
  simp only [List.getD_cons_zero, str_fits, tm_fits5, Bool.and_true, grd, cond_true, Option.bind_some, hroom]
  have g4 := rtake_gone (s := s) (st := ⟨q3, 0, 0⟩) hle3 (ba [41])
  refine (ends_take hs' hr hle3 (w := [41]) (by simp) (by simp)).bind (G := fun st => rtakeV s (rctorsV m s st).2 (ba [41])) (fun q4 hq => ?_) (fun hc => by rw [rctors_stuck hc, rtake_stuck hc])
  rw [hq] at g4 ⊢
  have hl4 := (g4.ok rfl).2
  have hle4 := g4.le
  simp only at hl4 hle4
  clear hq g4
  have ih := ctors_run hs hr (nm := nm) (ps := ps) (ty := ty) (va := va) (ar := ar) m (cs ++ [(nm1, ty1)]) q4 hle4 (by simp; omega) (by omega)
  have em : List.map (fun c : ByteArray × Tm => V.str c.1 :: c.2.enc) cs ++ [[V.str nm1, V.cell ty1.val 0, V.cell ty1.val 1, V.cell ty1.val 2, V.cell ty1.val 3, V.cell ty1.val 4]] = List.map (fun c : ByteArray × Tm => V.str c.1 :: c.2.enc) (cs ++ [(nm1, ty1)]) := by
   rw [List.map_append, List.map_cons, List.map_nil, ty1.enc_eq]
   rfl
  rw [em]
  rw [List.append_assoc] at ih
  exact ih
theorem tok_first {s : ByteArray} {p : Nat} (hp : p ≤ s.size) (h0 : isNo (tokV s p).t = false) : ∃ b, byteAt (tokV s p).t 0 = b ∧ (b = 40 ∨ b = 41 ∨ nmByte b true = true ∨ b = 35 ∨ isDigit b = true) := by
  have h1 := le_scan isBlank s p
  have h2 := scan_le (f := isBlank) hp
  unfold tokV at h0 ⊢
  generalize scan isBlank s p = i at h1 h2 h0 ⊢
  have hno : ∀ j, isNo (Tok.no j).t = true := fun j => by simp [Tok.no, isNo]
  by_cases hi : i = s.size
  · have : tokAt s i = ⟨ByteArray.mk #[], i, true⟩ := by unfold tokAt; simp [hi]
    rw [this] at h0; simp [isNo] at h0
  · have hlt : i < s.size := by omega
    have hb : ∀ q, i + 1 ≤ q → q ≤ s.size → byteAt (s.extract i q) 0 = byteAt s i := fun q hq1 hq2 => byteAt_ext (by omega) hq2
    refine ⟨byteAt s i, ?_⟩
    unfold tokAt at h0 ⊢
    have hib : (i == s.size) = false := by simpa using hi
    simp only [hib, cond_false] at h0 ⊢
    cases e40 : byteAt s i == 40
    case true => exact ⟨hb _ (Nat.le_refl _) (by omega), .inl (beq_iff_eq.1 e40)⟩
    cases e41 : byteAt s i == 41
    case true => exact ⟨hb _ (Nat.le_refl _) (by omega), .inr (.inl (beq_iff_eq.1 e41))⟩
    simp only [e40, e41, cond_false] at h0 ⊢
    cases enm : nmByte (byteAt s i) true
    case true =>
      simp only [enm, cond_true] at h0 ⊢
      have g1 := le_scan (nmByte · false) s (i + 1)
      have g2 := scan_le (f := (nmByte · false)) (s := s) (i := i + 1) (by omega)
      generalize scan (nmByte · false) s (i + 1) = q at g1 g2 h0 ⊢
      unfold nmTok at h0 ⊢
      cases e : decide (q - i > 40)
      · simp only [cond_false]
        exact ⟨hb q g1 g2, .inr (.inr (.inl trivial))⟩
      · rw [e, cond_true, hno] at h0; simp at h0
    simp only [enm, cond_false] at h0 ⊢
    cases e35 : (byteAt s i == 35 || isDigit (byteAt s i))
    case false => rw [e35, cond_false, hno] at h0; simp at h0
    simp only [e35, cond_true] at h0 ⊢
    have g1 := le_scan isDigit s (i + 1)
    have g2 := scan_le (f := isDigit) (s := s) (i := i + 1) (by omega)
    generalize scan isDigit s (i + 1) = q at g1 g2 h0 ⊢
    have hfin : byteAt s i = 35 ∨ isDigit (byteAt s i) = true := by simpa using e35
    simp only [numTok] at h0 ⊢
    generalize (bif byteAt s i == 35 then i + 1 else i) = d at h0 ⊢
    cases c1 : q == d
    · cases c2 : decide (q - d > 5)
      · cases c3 : (decide (q - d > 1) && byteAt s d == 48)
        · simp only [cond_false]
          exact ⟨hb q g1 g2, .inr (.inr (.inr hfin))⟩
        · rw [c1, c2, c3, cond_false, cond_false, cond_true, hno] at h0; simp at h0
      · rw [c1, c2, cond_false, cond_true, hno] at h0; simp at h0
    · rw [c1, cond_true, hno] at h0; simp at h0
theorem atoi_none {t : ByteArray} (ht : t.size ≤ 1000000) (h : t.size = 0 ∨ (isDigit (byteAt t 0) = false ∧ byteAt t 0 ≠ 43 ∧ byteAt t 0 ≠ 45)) (σ : Sto) : ∃ e, lim C 34 [(.str t, false)] σ = some (.ret [(.int .i64 0, false), (.iface e .any, false)], σ) := by
 have key : Go.Lib.atoiAll t.data.toList = Go.Lib.atoiAll [] := by
  cases hL : t.data.toList with
  | nil => rfl
  | cons c L =>
   have hz : t.size ≠ 0 := by
    have : t.data.toList.length = t.size := Array.length_toList
    rw [hL] at this; simp at this; omega
   obtain ⟨h1, h2, h3⟩ := h.resolve_left hz
   have hb : byteAt t 0 = (c.toNat : Int) := by rw [byteAt_get (by omega)]; simp [hL]
   rw [hb] at h1 h2 h3
   simp only [isDigit, Bool.and_eq_false_iff, decide_eq_false_iff_not] at h1
   have c1 : ¬ (c.toNat = 43 ∨ c.toNat = 45) := by omega
   have c2 : ¬ (48 ≤ c.toNat ∧ c.toNat ≤ 57) := by omega
   unfold Go.Lib.atoiAll
   simp only [if_neg c1]
   have hm : Go.Lib.parseMag (c :: L) = Go.Lib.parseMag [] := by
    unfold Go.Lib.parseMag
    rw [if_neg (by simp), if_pos rfl]
    simp only [Go.Lib.parseUint10, if_neg c2]
   rw [hm]
   rfl
 refine ⟨125, lim_ext (s := atoiA) (by kernel_rfl) ?_⟩
 simp only [atoiA, atoiR, key]
 rw [if_pos (by omega)]
 rfl
theorem arity_atoi {s : ByteArray} {p : Nat} (hs : s.size ≤ 200000) (hp : p ≤ s.size) (σ : Sto) :
  (badAr (tokV s p) = false ∧ (tokV s p).ok = true ∧ isNo (tokV s p).t = false ∧ numV (tokV s p).t ≤ 99 ∧ lim C 34 [(.str (stepV s p).tok, false)] σ = some (.ret [(.int .i64 (numV (tokV s p).t), false), (.nilIface, false)], σ)) ∨
  (badAr (tokV s p) = true ∧ ((∃ e, lim C 34 [(.str (stepV s p).tok, false)] σ = some (.ret [(.int .i64 0, false), (.iface e .any, false)], σ)) ∨
   ∃ n : Nat, 99 < n ∧ lim C 34 [(.str (stepV s p).tok, false)] σ = some (.ret [(.int .i64 n, false), (.nilIface, false)], σ))) := by
 have hsz := (tokV_ok s hp).le
 cases hok : (tokV s p).ok
 ·refine .inr ⟨by simp [badAr, hok], .inl ?_⟩
  have : (stepV s p).tok = ByteArray.mk #[0] := by unfold stepV stepOf; rw [hok]; rfl
  rw [this]
  exact atoi_none (by decide) (.inr ⟨rfl, by decide, by decide⟩) σ
 rw [step_tok hok]
 cases hno : isNo (tokV s p).t
 ·obtain ⟨b, hb, hbb⟩ := tok_first hp hno
  cases hd : isDigit b
  ·refine .inr ⟨by simp [badAr, hok, hno, hb, hd], .inl (atoi_none (by omega) (.inr ⟨by rw [hb]; exact hd, ?_⟩) σ)⟩
   rw [hb]
   rcases hbb with h | h | h | h | h
   ·omega
   ·omega
   ·simp only [nmByte, isLetter, Bool.not_true, Bool.false_and, Bool.or_false, Bool.or_eq_true, Bool.and_eq_true, decide_eq_true_eq, beq_iff_eq] at h
    omega
   ·omega
   ·rw [hd] at h; simp at h
  ·obtain ⟨d1, d2⟩ := tok_dig hp hok hno (by rw [hb]; exact hd)
   have h2 := num_two d1 d2
   have ha := atoi_law d1 σ
   by_cases h99 : numV (tokV s p).t > 99
   ·rw [decide_eq_true h99] at h2
    exact .inr ⟨by simp [badAr, hok, hno, hb, hd, h2], .inr ⟨_, h99, ha⟩⟩
   ·rw [decide_eq_false h99] at h2
    refine .inl ⟨?_, rfl, rfl, by omega, ha⟩
    unfold badAr
    rw [hok, hno, hb, hd, h2]
    rfl
 ·refine .inr ⟨by simp [badAr, hno], .inl (atoi_none (by omega) (.inl ?_) σ)⟩
  simp only [isNo, beq_iff_eq] at hno
  rw [ByteArray.toList_eq, ByteArray.toList_eq] at hno
  have : (tokV s p).t.data.toList.length = (tokV s p).t.size := Array.length_toList
  rw [hno] at this
  exact this.symm
theorem names_run (hs : s.size ≤ 200000) (hr : r < σ.length) {nm : ByteArray} {k : Nat} (hk : k = 1 ∨ k = 2 ∨ k = 3) (hN : N = s.size + 10) : ∀ (m : Nat) (ps : List ByteArray) (p : Nat), p ≤ s.size → ps.length + (s.size - p) ≤ 200000 → s.size - p < m →
  Ends s σ r (freadl0 (lim C) N m r t0 t1 t2 t3 t4 t5 t6 t7 t8 t9 t10 t11 t12 t13 t14 k (.str nm) (strs ps) 0 0 (ByteArray.mk #[]) [] [] 0 0 (ByteArray.mk #[]) [] [] 0 [] (σ.set r ((stepV s p).cells s)))
   (dNames k s nm ps (rnamesV m s ⟨p, 0, 0⟩)).1.val (dNames k s nm ps (rnamesV m s ⟨p, 0, 0⟩)).2
 | 0, _, _, _, _, hm => by omega
 | m + 1, ps, p, hp, hb, hm => by
  have hs' : s.size < 2 ^ 61 := by omega
  show Ends s σ r (freads0 (lim C) (freadl1 (lim C) N N) (freadl0 (lim C) N m) r _ _ _ _ _ _ _ _ _ _ _ _ _ _ _ _ _ _ _ _ _ _ _ _ _ _ _ _ _ _ _) _ _
  unfold freads0
  have e41' : ∀ t : ByteArray, (t.toList == (ba [41]).toList) = strIs t [41] := fun _ => rfl
  have e41 : ByteArray.mk #[41] = ba [41] := rfl
  have tk := stepTok hp (w := [41]) (by simp) (by simp)
  simp only [sg2 hr, Option.bind_some, V.asStr, e41', tk, rnamesV, bne_self_eq_false, cond_false, e41]
  cases h3 : strIs (tokV s p).t [41]
  case false =>
   simp only [Bool.not_false, cond_true, cond_false]
   have g2 := rname_goes (s := s) (st := ⟨p, 0, 0⟩) hp
   refine (ends_name hs' hr hp).bind (G := fun st => (dNames k s nm ps ((rnameV s ⟨p, 0, 0⟩).1 :: (rnamesV m s st).1, (rnamesV m s st).2)).2) (fun q hq => ?_) (fun hc => by rw [rnames_stuck hc]; exact dNames_stuck hc)
   generalize (rnameV s ⟨p, 0, 0⟩).1 = nm1
   rw [hq] at g2 ⊢
   have hl2 := (g2.ok rfl).2
   have hle2 := g2.le
   simp only at hl2 hle2
   have hroom : room (List.length (strs ps) + 1) = true := room_ok (by rw [strs_length]; omega)
   simp only [List.getD_cons_zero, str_fits, Bool.and_true, grd, cond_true, Option.bind_some, hroom]
   have ih := names_run hs hr (nm := nm) hk hN m (ps ++ [nm1]) q hle2 (by simp; omega) (by omega)
   have em : strs ps ++ [[V.str nm1]] = strs (ps ++ [nm1]) := by simp [strs]
   rw [em]
   have e2 : ∀ x : List ByteArray × RS, dNames k s nm (ps ++ [nm1]) x = dNames k s nm ps (nm1 :: x.1, x.2) := fun x => by unfold dNames; simp
   rw [e2] at ih
   exact ih
  simp only [Bool.not_true, cond_false, cond_true]
  have hok := strIs_ok hp (w := [41]) (by simp) h3
  have hnx : rtakeV s ⟨p, 0, 0⟩ (ba [41]) = (rnextV s ⟨p, 0, 0⟩).2 := by
   rcases stake_law hr hs' hp (w := [41]) (by simp) (by simp) with ⟨_, h2, _⟩ | ⟨h1, _⟩
   ·rw [h2, rnext_at hok]
   ·have h4 : ((tokV s p).t.toList == (ba [41]).toList) = true := h3
    unfold rtakeV at h1
    simp [hok.1, h4] at h1
  unfold dNames
  simp only [List.append_nil]
  rw [hnx]
  have g0 := rnext_goes (s := s) (st := ⟨p, 0, 0⟩) hp
  refine (ends_next hs' hr hp hok).bind (G := fun st => (dTail k s nm ps st).2) (fun q hq => ?_) (fun hc => dTail_stuck hc)
  rw [hq] at g0 ⊢
  have hle := g0.le
  have hlq := (g0.ok rfl).2
  simp only at hle hlq
  clear hq g0 hnx hok h3 tk
  have g1 := rterm_goes1 (s := s) (st := ⟨q, 0, 0⟩) hle
  rcases hk with rfl | rfl | rfl
  ·simp only [show (((1 : Nat) : Int) == 3) = false from rfl, show (((1 : Nat) : Int) == 2) = false from rfl, cond_false, dTail, dTail1]
   refine (ends_read hs hr hle).bind (G := fun st => rtakeV s st (ba [41])) (fun q1 hq => ?_) (fun hc => by rw [rtake_stuck hc])
   generalize (rtermV (s.size + 1) s ⟨q, 0, 0⟩).1 = ty
   rw [hq] at g1 ⊢
   simp only [List.getD_cons_zero, tm_fits5, grd, cond_true, Option.bind_some]
   rw [dc_val]
   exact close_end hs' hr g1.le _
  ·simp only [show (((2 : Nat) : Int) == 3) = false from rfl, show (((2 : Nat) : Int) == 2) = true from rfl, cond_false, cond_true, dTail, dTail2]
   refine (ends_read hs hr hle).bind (G := fun st => rtakeV s (rtermV (s.size + 1) s st).2 (ba [41])) (fun q1 hq => ?_) (fun hc => by rw [rterm_stuck hc, rtake_stuck hc])
   generalize (rtermV (s.size + 1) s ⟨q, 0, 0⟩).1 = ty
   rw [hq] at g1 ⊢
   have hle1 := g1.le
   simp only at hle1
   simp only [List.getD_cons_zero, tm_fits5, grd, cond_true, Option.bind_some]
   have g2 := rterm_goes1 (s := s) (st := ⟨q1, 0, 0⟩) hle1
   refine (ends_read hs hr hle1).bind (G := fun st => rtakeV s st (ba [41])) (fun q2 hq => ?_) (fun hc => by rw [rtake_stuck hc])
   generalize (rtermV (s.size + 1) s ⟨q1, 0, 0⟩).1 = va
   rw [hq] at g2 ⊢
   simp only [List.getD_cons_zero, tm_fits5, grd, cond_true, Option.bind_some]
   rw [dc_val]
   exact close_end hs' hr g2.le _
  ·simp only [show (((3 : Nat) : Int) == 3) = true from rfl, show (((3 : Nat) : Int) == 2) = false from rfl, cond_false, cond_true, dTail, dTail3]
   clear g1
   simp only [sg2 hr, Option.bind_some]
   rcases arity_atoi hs hle (σ.set r ((stepV s q).cells s)) with ⟨b1, b2, b3, b4, b5⟩ | ⟨b1, ⟨e, b5⟩ | ⟨n, b4, b5⟩⟩
   ·have hd : decide (((numV (tokV s q).t : Nat) : Int) > 99) = false := decide_eq_false (by omega)
    simp only [callK_ret2 b5, List.getD_cons_zero, List.getD_cons_succ, V.ifaceNil, Option.bind_some, Bool.not_true, cond_false, V.asInt, if_true, hd, int_fits, grd, cond_true]
    have har : rarityV s ⟨q, 0, 0⟩ = (numV (tokV s q).t, (rnextV s ⟨q, 0, 0⟩).2) := by
     unfold rarityV
     simp only [b1, bne_self_eq_false, cond_false]
    rw [har]
    have g0 := rnext_goes (s := s) (st := ⟨q, 0, 0⟩) hle
    refine (ends_next hs' hr hle ⟨b2, b3⟩).bind (G := fun st => (dTail4 s nm ps (numV (tokV s q).t) st).2) (fun q1 hq => ?_) (fun hc => dTail4_stuck hc)
    generalize numV (tokV s q).t = ar
    rw [hq] at g0 ⊢
    have hle1 := g0.le
    simp only at hle1
    have g1 := rterm_goes1 (s := s) (st := ⟨q1, 0, 0⟩) hle1
    simp only [dTail4]
    refine (ends_read hs hr hle1).bind (G := fun st => rtakeV s (rctorsV (s.size + 10) s st).2 (ba [41])) (fun q2 hq => ?_) (fun hc => by rw [rctors_stuck hc, rtake_stuck hc])
    generalize (rtermV (s.size + 1) s ⟨q1, 0, 0⟩).1 = ty
    rw [hq] at g1 ⊢
    have hle2 := g1.le
    simp only at hle2
    simp only [List.getD_cons_zero, tm_fits5, grd, cond_true, Option.bind_some]
    have hc := ctors_run (N := N) (t0 := t0) (t1 := t1) (t2 := t2) (t3 := t3) (t4 := t4) (t5 := t5) (t6 := t6) (t7 := t7) (t8 := t8) (t9 := t9) (t10 := t10) (t11 := t11) (t12 := t12) (t13 := t13) (t14 := t14) hs hr (nm := nm) (ps := ps) (ty := ty) (va := .var 0) (ar := ar) N [] q2 hle2 (by simp; omega) (by omega)
    rw [List.nil_append] at hc
    rw [← hN]
    exact hc
   ·simp only [callK_ret2 b5, List.getD_cons_zero, List.getD_cons_succ, V.ifaceNil, Option.bind_some, Bool.not_false, cond_true]
    have har : rarityV s ⟨q, 0, 0⟩ = (0, rfailV ⟨q, 0, 0⟩ (tokV s q).at_) := by
     unfold rarityV
     simp only [b1, bne_self_eq_false, cond_false, cond_true]
    rw [har, dTail4_stuck (rfail_c _ _)]
    exact ends_fail hr _
   ·have hd : decide (((n : Nat) : Int) > 99) = true := decide_eq_true (by omega)
    simp only [callK_ret2 b5, List.getD_cons_zero, List.getD_cons_succ, V.ifaceNil, Option.bind_some, Bool.not_true, cond_false, V.asInt, if_true, hd, cond_true]
    have har : rarityV s ⟨q, 0, 0⟩ = (0, rfailV ⟨q, 0, 0⟩ (tokV s q).at_) := by
     unfold rarityV
     simp only [b1, bne_self_eq_false, cond_false, cond_true]
    rw [har, dTail4_stuck (rfail_c _ _)]
    exact ends_fail hr _
end
theorem kinds_law : lim C 31 [] [] = some (.ret [(.map kindsL, false)], []) := lim_ext (s := kindsA) (by kernel_rfl) rfl
theorem kinds_look (t : ByteArray) : mapLook kindsL t = ((kindIx t : Nat) : Int) := by
 have e1 : (t.toList == kAx.toList) = strIs t waxiom := rfl
 have e2 : (t.toList == kDef.toList) = strIs t wdef := rfl
 have e3 : (t.toList == kInd.toList) = strIs t winduct := rfl
 simp only [kindsL, mapLook, e1, e2, e3, kindIx]
 cases strIs t waxiom <;> cases strIs t wdef <;> cases strIs t winduct <;> rfl
theorem kindIx_step {s : ByteArray} {p : Nat} (hp : p ≤ s.size) : kindIx (stepV s p).tok = kindIx (tokV s p).t := by
 have e : ∀ w : List UInt8, w ≠ [] → w ≠ [0] → strIs (stepV s p).tok w = strIs (tokV s p).t w := fun w h1 h2 => stepTok hp h1 h2
 unfold kindIx
 rw [e _ (by decide) (by decide), e _ (by decide) (by decide), e _ (by decide) (by decide)]
theorem kindIx_ok {s : ByteArray} {p : Nat} (hp : p ≤ s.size) (h : kindIx (tokV s p).t ≠ 0) : (tokV s p).ok = true ∧ isNo (tokV s p).t = false := by
 unfold kindIx at h
 cases h1 : strIs (tokV s p).t waxiom
 ·cases h2 : strIs (tokV s p).t wdef
  ·cases h3 : strIs (tokV s p).t winduct
   ·rw [h1, h2, h3] at h; exact absurd rfl h
   ·exact strIs_ok hp (by decide) h3
  ·exact strIs_ok hp (by decide) h2
 ·exact strIs_ok hp (by decide) h1
theorem fread_law {s : ByteArray} (hs : s.size ≤ 200000) {σ : Sto} {r : Nat} (hr : r < σ.length) {p : Nat} (hp : p ≤ s.size) :
  Ends s σ r (lim C 17 [(.ptr 55 r 0, false)] (σ.set r ((stepV s p).cells s))) (declV s ⟨p, 0, 0⟩).1.val (declV s ⟨p, 0, 0⟩).2 := by
 have hs' : s.size < 2 ^ 61 := by omega
 have key : ∀ {y st}, Ends s σ r (fread (lim C) (s.size + 10) r (σ.set r ((stepV s p).cells s))) y st → Ends s σ r (lim C 17 [(.ptr 55 r 0, false)] (σ.set r ((stepV s p).cells s))) y st := by
  intro y st h
  rcases h with ⟨q, h1, h2⟩ | ⟨h1, cs, h2⟩
  ·exact .inl ⟨q, h1, fread_lim (n := s.size + 10) h2⟩
  ·exact .inr ⟨h1, cs, fread_lim (n := s.size + 10) h2⟩
 refine key ?_
 clear key
 have e40 : ByteArray.mk #[40] = ba [40] := rfl
 unfold fread freadF declV
 simp only [e40]
 have g0 := rtake_gone (s := s) (st := ⟨p, 0, 0⟩) hp (ba [40])
 refine (ends_take hs' hr hp (w := [40]) (by simp) (by simp)).bind (G := fun st => (declW s st).2) (fun q hq => ?_) (fun hc => declW_stuck hc)
 rw [hq] at g0 ⊢
 have hle := g0.le
 simp only at hle
 clear hq g0
 have hpc : pcallR (lim C 31 [] []) = some [(.map kindsL, false)] := by rw [kinds_law]; rfl
 simp only [hpc, Option.bind_some, List.length_cons, List.length_nil, if_true, sg2 hr, List.getD_cons_zero, V.asMap, V.asStr, kinds_look, kindIx_step hle]
 unfold declW
 simp only
 by_cases hk0 : kindIx (tokV s q).t = 0
 ·simp only [hk0, Int.natCast_zero, beq_self_eq_true, cond_true]
  exact ends_fail hr _
 have hk0' : ((kindIx (tokV s q).t : Int) == 0) = false := by simp; omega
 have hk0'' : (kindIx (tokV s q).t == 0) = false := by simpa using hk0
 have hk3 := kindIx_le (tokV s q).t
 have hok := kindIx_ok hle hk0
 simp only [hk0', hk0'', cond_false]
 have g1 := rnext_goes (s := s) (st := ⟨q, 0, 0⟩) hle
 refine (ends_next hs' hr hle hok).bind (G := fun st => (declK (kindIx (tokV s q).t) s st).2) (fun q1 hq => ?_) (fun hc => declK_stuck hc)
 rw [hq] at g1 ⊢
 have hle1 := g1.le
 simp only at hle1
 generalize kindIx (tokV s q).t = k at *
 clear hq g1 hok
 unfold declK
 have g2 := rname_goes (s := s) (st := ⟨q1, 0, 0⟩) hle1
 refine (ends_name hs' hr hle1).bind (G := fun st => (dNames k s (rnameV s ⟨q1, 0, 0⟩).1 [] (rnamesV (s.size + 10) s (rtakeV s st (ba [40])))).2) (fun q2 hq => ?_) (fun hc => by rw [rtake_stuck hc, rnames_stuck hc, dNames_stuck hc])
 generalize (rnameV s ⟨q1, 0, 0⟩).1 = nm
 rw [hq] at g2 ⊢
 have hle2 := g2.le
 simp only at hle2
 clear hq g2
 simp only [List.getD_cons_zero, str_fits, grd, cond_true, Option.bind_some]
 have g3 := rtake_gone (s := s) (st := ⟨q2, 0, 0⟩) hle2 (ba [40])
 refine (ends_take hs' hr hle2 (w := [40]) (by simp) (by simp)).bind (G := fun st => (dNames k s nm [] (rnamesV (s.size + 10) s st)).2) (fun q3 hq => ?_) (fun hc => by rw [rnames_stuck hc, dNames_stuck hc])
 rw [hq] at g3 ⊢
 have hle3 := g3.le
 simp only at hle3
 exact names_run (N := s.size + 10) hs hr (nm := nm) (k := k) (by omega) rfl (s.size + 10) [] q3 hle3 (by simp; omega) (by omega)
end Go.Ab.Mk
end
section
namespace Go.Proofs
open Go.RowKit Go.Ab
set_option maxRecDepth 100000
set_option maxHeartbeats 1000000
theorem Mk.catch_idle (p : Addr) (w : World) :
  CallsD Tryz.prog 15 #[.pointer (some p)] .returning w fun e u' w' => e = .returned (.tuple #[]) ∧ u' = .returning ∧ w' = w := by
 refine callsD_of_wpS Tryz.func15 rfl fun c₀ cs hu => ?_
 apply wpS_seq
 apply wpS_region
 simp [wpOpsS, go_sem, recoverD, hu, Tryz.ntmps15, Exit.thenS]
 refine wpS_of_wp ?_
 go_wp2
 cases c₀
 simp_all [bodyPostS, results, Tryz.results15]
theorem Mk.catch_pan (p : Addr) (v : Value) (w : World) (x : Value) (hc : w.cell? p = some x) (hz : w.frozen? p = false) :
  CallsD Tryz.prog 15 #[.pointer (some p)] (.panicking [{ v := .iface 49 v, recovered := false }]) w fun e u' w' =>
   e = .returned (.tuple #[]) ∧ u' = .panicking [{ v := .iface 49 v, recovered := true }] ∧ w' = w.setCell p (.iface 49 v) := by
 have hta : (Instr.typeAssert (.iface 49 v) 20 49 true).run Tryz.prog w = .ok (.tuple #[v, .bool true]) w := by kernel_rfl
 refine callsD_of_wpS Tryz.func15 rfl fun c₀ cs hu => ?_
 apply wpS_seq
 apply wpS_region
 simp [wpOpsS, go_sem, recoverD, hu, Tryz.ntmps15, Exit.thenS]
 refine wpS_of_wp ?_
 go_wp2
 cases c₀
 simp_all [bodyPostS, results, Tryz.results15]
end Go.Proofs
end
section
namespace Go.Proofs
open Go.RowKit Go.Ab
set_option maxRecDepth 100000
set_option maxHeartbeats 1000000
theorem Mk.fclos_nil (p q : Addr) (u : FrameMode) (w : World) (hc : w.cell? p = some .nilIface) :
  CallsD Tryz.prog 14 #[.pointer (some p), .pointer (some q)] u w fun e u' w' => u' = u ∧ (e = .returned (.tuple #[]) ∧ w' = w) := by
 go_enter_d Tryz.func14, Tryz.ntmps14
 go_wp2
 go_end0
 exact ⟨rfl, rfl⟩
theorem Mk.fclos_err (p : Addr) (b : Nat) (u : FrameMode) (w : World) (v : Value) (cv : Array Value) (el : TypeId) (hc : w.cell? p = some (.iface 49 v)) (hb : w.heap[b]? = some (.cells cv el (0, 0))) (hs : cv.size = 1) :
  CallsD Tryz.prog 14 #[.pointer (some p), .pointer (some ⟨b, 0, none⟩)] u w fun e u' w' => u' = u ∧ (e = .returned (.tuple #[]) ∧ w' = w.setCell ⟨b, 0, none⟩ (.slice none 0 0)) := by
 obtain ⟨x0, rfl⟩ : ∃ x0, cv = #[x0] := by
  obtain ⟨l⟩ := cv
  match l, hs with
  | [x0], _ => exact ⟨x0, rfl⟩
 have h0 : w.cell? ⟨b, 0, none⟩ = some x0 := by simp [World.cell?, hb]
 have z0 : w.frozen? ⟨b, 0, none⟩ = false := by simp [World.frozen?, hb]
 go_enter_d Tryz.func14, Tryz.ntmps14
 go_wp2
 go_end0
 exact ⟨rfl, rfl⟩
theorem Mk.fparse_long (s : ByteArray) (w : World) (hb : (s.size : Int) > 200000) :
  Calls Tryz.prog 5 #[.string s] w fun en w' => en = .returned (.tuple #[.slice none 0 0, .iface 49 (.pointer (some ⟨w.heap.size + 1 + 1, 0, none⟩))]) ∧
   w' = ((w.alloc (.cells #[.slice none 0 0] 27)).alloc (.cells #[.iface 49 (.pointer (some ⟨w.heap.size + 1 + 1, 0, none⟩))] 29)).alloc (.cells #[.int .i64 2, .int .i64 0] 33) := by
 have hmf : ∀ (fn : Fn) (first cap : Array Value) (w : World), (Instr.makeFunc fn first cap).run Tryz.prog w = .ok (.func fn first cap) w := fun _ _ _ _ => rfl
 go_enter_defers Tryz.func5, Tryz.ntmps5
 go_wp2
 simp [bodyPostD, Leaves, settle, results, Tryz.results5, go_sem]
structure Mk.HasF (b : Nat) (x y : Value) (w : World) : Prop where
 l : w.heap[b]? = some (.cells #[x] 27 (0, 0))
 e : w.heap[b + 1]? = some (.cells #[y] 29 (0, 0))
theorem Mk.HasF.c0 {b : Nat} {x y : Value} {w : World} (h : Mk.HasF b x y w) : w.cell? ⟨b, 0, none⟩ = some x ∧ w.frozen? ⟨b, 0, none⟩ = false ∧ w.cell? ⟨b + 1, 0, none⟩ = some y ∧ w.frozen? ⟨b + 1, 0, none⟩ = false := by
 simp [World.cell?, World.frozen?, h.l, h.e]
theorem Mk.HasF.setE {b : Nat} {x y v : Value} {w : World} (h : Mk.HasF b x y w) : Mk.HasF b x v (w.setCell ⟨b + 1, 0, none⟩ v) := by
 refine ⟨?_, ?_⟩
 ·rw [heap_setCell_other _ _ _ _ (by simp)]; exact h.l
 ·rw [heap_setCell_same _ _ _ _ _ _ h.e]; rfl
theorem Mk.HasF.setL {b : Nat} {x y v : Value} {w : World} (h : Mk.HasF b x y w) : Mk.HasF b v y (w.setCell ⟨b, 0, none⟩ v) := by
 refine ⟨?_, ?_⟩
 ·rw [heap_setCell_same _ _ _ _ _ _ h.l]; rfl
 ·rw [heap_setCell_other _ _ _ _ (by simp)]; exact h.e
end Go.Proofs
end
section
namespace Go.Ab
open Go.RowKit Go.Proofs
set_option maxRecDepth 100000
set_option maxHeartbeats 2000000
def Mk.tokOf (σ : Sto) (b : Nat) : Option ByteArray := (σ[b]?).bind fun cs => (cs[2]?).bind fun c => c.1.asStr
def Mk.caughtF (v : V) (σ : Sto) : Option Res := match v with
 | .iface t x => if t = 49 then some (.ret [(.slice 15 47 [], false), (.iface 49 x, false)], σ) else none
 | _ => none
theorem Mk.caughtF_inv {v : V} {σ : Sto} {r : Res} (h : Mk.caughtF v σ = some r) : ∃ x, v = .iface 49 x ∧ r = (.ret [(.slice 15 47 [], false), (.iface 49 x, false)], σ) := by
 unfold Mk.caughtF at h
 split at h
 ·split at h
  ·rename_i t x ht; subst ht; exact ⟨x, rfl, (Option.some.inj h).symm⟩
  ·simp at h
 ·simp at h
def Mk.asDecl (v : V) : Option (List V) := match v with
 | .agg [.int .i64 k, .str n, p, .int .i64 k1, .int .i64 m1, .str n1, l1, a1, .int .i64 k2, .int .i64 m2, .str n2, l2, a2, .int .i64 ar, c] =>
  if (slv p && slv l1 && slv a1 && slv l2 && slv a2 && slv c) = true then some [.int .i64 k, .str n, p, .int .i64 k1, .int .i64 m1, .str n1, l1, a1, .int .i64 k2, .int .i64 m2, .str n2, l2, a2, .int .i64 ar, c] else none
 | _ => none
def Mk.floop (call : CallF) (t : TypeId) (b : Nat) : Nat → List (List V) → Sto → Option Res
 | 0, _, _ => none
 | n + 1, es, σ => (Mk.tokOf σ b).bind fun tok => if tok = ByteArray.mk #[] then some (.ret [(.slice 15 47 es, false), (.nilIface, false)], σ) else
  match call 17 [(.ptr t b 0, false)] σ with
  | some (.ret [(d, _)], σ') => (Mk.asDecl d).bind fun cs => if es.length < 1000000 then Mk.floop call t b n (es ++ [cs]) σ' else none
  | some (.pan v, σ') => Mk.caughtF v σ'
  | _ => none
def Mk.fparse1 (call : CallF) (n : Nat) : Option Res → Option Res
 | some (.ret [(.ptr t b o, _)], σ) => if o = 0 then Mk.floop call t b n [] σ else none
 | _ => none
def Mk.fparseS (call : CallF) (args : List Cell) (σ : Sto) : Option Res :=
 match args with
 | [(.str s, _)] =>
  if (s.size : Int) > 200000 then some (.ret [(.slice 15 47 [], false), (.iface 49 (.ptr 33 σ.length 0), false)], σ ++ [[(.int .i64 2, false), (.int .i64 0, false)]])
  else Mk.fparse1 call (s.size + 2) (call 16 [(.str s, false)] σ)
 | _ => none
inductive Mk.ShpD : List Value → Prop
 | mk (k : Int) (n : ByteArray) (p : Option Addr) (pl pc : Nat) (k1 m1 : Int) (n1 : ByteArray) (l1 : Option Addr) (ll1 lc1 : Nat) (a1 : Option Addr) (al1 ac1 : Nat)
   (k2 m2 : Int) (n2 : ByteArray) (l2 : Option Addr) (ll2 lc2 : Nat) (a2 : Option Addr) (al2 ac2 : Nat) (ar : Int) (c : Option Addr) (cl cc : Nat) :
   Mk.ShpD [.int .i64 k, .string n, .slice p pl pc, .int .i64 k1, .int .i64 m1, .string n1, .slice l1 ll1 lc1, .slice a1 al1 ac1, .int .i64 k2, .int .i64 m2, .string n2, .slice l2 ll2 lc2, .slice a2 al2 ac2, .int .i64 ar, .slice c cl cc]
theorem Mk.declInfo : (Tryz.prog.info? 47).map (fun i => (i.zero, i.size, i.bytes)) = some (some (.agg #[.int .i64 0, .string ⟨#[]⟩, .slice none 0 0, .int .i64 0, .int .i64 0, .string ⟨#[]⟩, .slice none 0 0, .slice none 0 0, .int .i64 0, .int .i64 0, .string ⟨#[]⟩, .slice none 0 0, .slice none 0 0, .int .i64 0, .slice none 0 0]), 15, 240) := by kernel_rfl
structure Mk.FpL (B : Nat) (dsv : Value) (n : Nat) (xs : List Value) (w : World) : Prop where
 has : Mk.HasF B dsv .nilIface w
 own : w.ownsRow (B + 2) 47 15 dsv n xs
 lt : B + 2 ≤ w.heap.size
structure Mk.Grew (B : Nat) (dsv dsv' : Value) (w w' : World) : Prop where
 os : w'.os = w.os
 tape : w'.tape = w.tape
 output : w'.output = w.output
 size : w.heap.size ≤ w'.heap.size
 heap : ∀ i, i < w.heap.size → i ≠ B → dsv.ownBlock ≠ some i → w'.heap[i]? = w.heap[i]?
 at_ : dsv'.ownBlock = dsv.ownBlock ∨ ∃ g, dsv'.ownBlock = some g ∧ w.heap.size ≤ g
def Mk.FpC (B : Nat) (dsv : Value) (n : Nat) (xs : List Value) (k : Nat) (IR : Nat → Value → Nat → List Value → World → Prop) (Q : Ending → World → Prop) (e : Ending) (w2 : World) : Prop :=
 (∃ x, Mk.ShpD x ∧ e = .returned (.agg x.toArray) ∧ Mk.FpL B dsv n xs w2 ∧ n < 1000000 ∧ ∃ k', k' < k ∧ Hid (∀ dsv' w', Mk.FpL B dsv' (n + 1) (xs ++ x) w' → Mk.Grew B dsv dsv' w2 w' → IR k' dsv' (n + 1) (xs ++ x) w')) ∨
 (∃ v, e = .panicked [{ v := .iface 49 v, recovered := false }] ∧ Mk.HasF B dsv .nilIface w2 ∧ Hid (∀ w', Near B (B + 1) w2 w' → Q (.returned (.tuple #[.slice none 0 0, .iface 49 v])) w'))
structure Mk.FpH (B : Nat) (q : Addr) (dsv : Value) (n : Nat) (xs : List Value) (k : Nat) (IR : Nat → Value → Nat → List Value → World → Prop) (Q : Ending → World → Prop) (w : World) (tok : ByteArray) : Prop where
 loop : Mk.FpL B dsv n xs w
 cell : w.cell? ⟨q.block, q.off + 2, none⟩ = some (.string tok)
 fin : tok = ByteArray.mk #[] → ∀ w', Near B (B + 1) w w' → Q (.returned (.tuple #[dsv, .nilIface])) w'
 next : tok ≠ ByteArray.mk #[] → Calls Tryz.prog 17 #[.pointer (some q)] w.drew (Mk.FpC B dsv n xs k IR Q)
theorem Mk.new_cells (w : World) (cs : List Value) (t : TypeId) : ∀ (j : Nat) (u : Value), cs[j]? = some u → (w.alloc (.cells cs.toArray t)).cell? ((⟨w.heap.size, 0, none⟩ : Addr).add j) = some u := by
 intro j u hj
 rw [Addr.add_lit, cell_new rfl, Nat.zero_add, ← hj]
 simp
theorem Mk.ShpD.one {x : List Value} (h : Mk.ShpD x) : ∀ u ∈ x, u.oneCell' = true := by
 cases h
 intro u hu
 simp only [List.mem_cons, List.not_mem_nil, or_false] at hu
 rcases hu with rfl | rfl | rfl | rfl | rfl | rfl | rfl | rfl | rfl | rfl | rfl | rfl | rfl | rfl | rfl <;> rfl
theorem Mk.HasF.ahead {B : Nat} {x y : Value} {w : World} (h : Mk.HasF B x y w) : ∀ o, (w.alloc o).cell? ⟨B, 0, none⟩ = some x := fun o => by
 rw [cell_old (Array.getElem?_eq_some_iff.1 h.l).1]
 exact h.c0.1
theorem Mk.own_shape {w : World} {base : Nat} {e : TypeId} {size : Nat} {v : Value} {n : Nat} {xs : List Value} (h : w.ownsRow base e size v n xs) : ∃ p l c, v = .slice p l c := by
 rcases h.2 with ⟨h, _⟩ | ⟨g, cap, cur, h, _⟩
 ·exact ⟨_, _, _, h⟩
 ·exact ⟨_, _, _, h⟩
theorem Mk.HasF.grow {B : Nat} {dsv y : Value} {n : Nat} {xs : List Value} {w2 w' : World} {o : Obj} (h : Mk.HasF B dsv y w2) (hown : w2.ownsRow (B + 2) 47 15 dsv n xs) (hg : (w2.alloc o).grownBy w' dsv.ownBlock) : Mk.HasF B dsv y w' := by
 have l1 := (Array.getElem?_eq_some_iff.1 h.l).1
 have l2 := (Array.getElem?_eq_some_iff.1 h.e).1
 have hne : ∀ k, dsv.ownBlock = some k → B + 2 ≤ k := fun k hk => (hown.lt k hk).1
 exact ⟨(hg.block B (by simp; omega) (fun e => by have := hne B e.symm; omega)).trans ((heap_alloc_lt l1).trans h.l), (hg.block (B + 1) (by simp; omega) (fun e => by have := hne (B + 1) e.symm; omega)).trans ((heap_alloc_lt l2).trans h.e)⟩
theorem Mk.FpL.next {B : Nat} {dsv dsv' : Value} {n : Nat} {xs x : List Value} {w2 w' : World} {o : Obj} (hL : Mk.FpL B dsv n xs w2) (ho : w'.ownsRow (B + 2) 47 15 dsv' (n + 1) (xs ++ x)) (hg : (w2.alloc o).grownBy w' dsv.ownBlock) (hat : dsv'.ownBlock = dsv.ownBlock ∨ dsv'.ownBlock = some (w2.alloc o).heap.size) :
  Mk.FpL B dsv' (n + 1) (xs ++ x) (w'.setCell ⟨B, 0, none⟩ dsv') ∧ Mk.Grew B dsv dsv' w2 (w'.setCell ⟨B, 0, none⟩ dsv') := by
 have hh : ∀ i, i ≠ B → (w'.setCell ⟨B, 0, none⟩ dsv').heap[i]? = w'.heap[i]? := fun i hi => by
  show (w'.heap.modify B _)[i]? = _
  rw [Array.getElem?_modify, if_neg (fun e => hi e.symm)]
 have hsz : (w'.setCell ⟨B, 0, none⟩ dsv').heap.size = w'.heap.size := by simp [World.setCell]
 have h1 := hg.size
 have h2 := hL.lt
 simp at h1
 refine ⟨⟨(Mk.HasF.grow hL.has hL.own hg).setL, ⟨ho.1, ?_⟩, by omega⟩, ⟨hg.os, hg.tape, hg.output, by omega, fun i hi hB hne => ?_, hat.elim .inl fun h => .inr ⟨_, h, by simp⟩⟩⟩
 ·rcases ho.2 with h | ⟨g, cap, cur, q1, q2, q3, q4⟩
  ·exact .inl h
  ·exact .inr ⟨g, cap, cur, q1, q2, (hh g (by omega)).trans q3, q4⟩
 ·rw [hh i hB, hg.block i (by simp; omega) (fun e => hne e.symm), heap_alloc_lt hi]
theorem step_append_own {P : Program} {ops : Array Oper} {o : Oper} {a : Act} {w : World} {K : Act → World → Prop} {Q : Exit → Act → World → Prop} {E : Prop} (hgd : o.guard = none) (s x : Operand) (t : TypeId)
  (ho : o.op = .call { callee := .builtin .append, args := #[s, x], argTypes := #[t, t] })
  (base : Nat) (e : TypeId) (i : TypeInfo) (z : Value) (size bytes : Nat) (ht : P.underlying t = some (.slice e)) (hi : P.info? e = some i) (hz : i.zero = some z)
  (hsize : i.size = size) (hby : i.bytes = bytes) (hzs : z.cells.size = size) (hsz : 0 < size)
  (v : Value) (n : Nat) (xs : List Value) (hs : a.eval s = v) (hown : w.ownsRow base e size v n xs)
  (ad : Addr) (m c : Nat) (news : List Value) (hx : a.eval x = .slice (some ad) m c) (hl : news.length = m * size) (hnews : ∀ j u, news[j]? = some u → w.cell? (ad.add j) = some u) (h1 : ∀ u ∈ news, u.oneCell' = true)
  (h63 : n + m ≤ maxLen) (hbytes : (n + m) * bytes ≤ 140737488355328) (hbase : base ≤ w.heap.size)
  (h : ∀ v' w', w'.ownsRow base e size v' (n + m) (xs ++ news) → w.grownBy w' v.ownBlock → (v' = .slice none 0 0 ↔ v = .slice none 0 0 ∧ m = 0) → (v'.ownBlock = v.ownBlock ∨ v'.ownBlock = some w.heap.size) → K (a.put o.dst v') w') :
  if Region.wanted o (yielded ops a.tmps) = true then Oper.wp P o a w K Q else E := by
 have hw : Region.wanted o (yielded ops a.tmps) = true := by simp [Region.wanted, hgd]
 rw [if_pos hw]
 obtain ⟨v', w', hr, h2, h3, h4, h5⟩ := run_append_own_at (P := P) w base t o.type e i z size bytes ht hi hz hsize hby hzs hsz v n xs hown ad m c news hl hnews h1 h63 hbytes hbase
 unfold Oper.wp execOp
 simp only [ho, resolve, invoke, builtin, Sem.run_bind, Sem.run_pure, Result.andThen_ok, List.map_toArray, List.map_cons, List.map_nil, hs, hx, hr]
 exact h v' w' h2 h3 h4 h5
theorem Mk.fpan {B : Nat} {dsv v : Value} {w2 : World} {Q : Ending → World → Prop} {tmps : Array Value} (hh : Mk.HasF B dsv .nilIface w2)
  (hq : ∀ w', Near B (B + 1) w2 w' → Q (.returned (.tuple #[.slice none 0 0, .iface 49 v])) w')
  (h2 : tmps[2]? = some (.pointer (some ⟨B, 0, none⟩))) (h3 : tmps[3]? = some (.pointer (some ⟨B + 1, 0, none⟩))) :
  bodyPostD Tryz.prog Tryz.f5 Q (.panic [{ v := .iface 49 v, recovered := false }]) { tmps := tmps, defers := [{ target := .fn (.func 15) #[], args := #[.pointer (some ⟨B + 1, 0, none⟩)] },
   { target := .fn (.func 14) #[.pointer (some ⟨B + 1, 0, none⟩), .pointer (some ⟨B, 0, none⟩)], args := #[] }] } w2 := by
 obtain ⟨_, _, c0, z0⟩ := hh.c0
 have hw : (w2.setCell ⟨B + 1, 0, none⟩ (.iface 49 v)).cell? ⟨B + 1, 0, none⟩ = some (.iface 49 v) := World.cell?_setCell_same' _ _ _ (by simp [c0])
 have hh1 := hh.setE (v := .iface 49 v)
 have hh2 := hh1.setL (v := .slice none 0 0)
 simp [bodyPostD, Leaves, settle, go_sem]
 refine ⟨15, _, ⟨rfl, rfl⟩, (Mk.catch_pan _ v w2 .nilIface c0 z0).mono ?_⟩
 rintro e u w5 ⟨rfl, rfl, rfl⟩
 simp
 refine ⟨14, _, ⟨rfl, rfl⟩, (Mk.fclos_err _ _ _ _ v _ 27 hw hh1.l rfl).mono ?_⟩
 rintro e u w5 ⟨rfl, rfl, rfl⟩
 have hn := ((Near.refl B (B + 1) w2).setCell ⟨B + 1, 0, none⟩ (.inr rfl) (.iface 49 v)).setCell ⟨B, 0, none⟩ (.inl rfl) (.slice none 0 0)
 have := hq _ hn
 generalize (w2.setCell ⟨B + 1, 0, none⟩ (.iface 49 v)).setCell ⟨B, 0, none⟩ (.slice none 0 0) = w6 at *
 obtain ⟨k0, _, k5, _⟩ := hh2.c0
 simp [Leaves, settle, results, Tryz.results5, go_sem, k0, k5, h2, h3]
 exact this
theorem Mk.fparse_short (s : ByteArray) (w : World) (hb : ¬ (s.size : Int) > 200000) (Q : Ending → World → Prop) (IR : Nat → Nat → Value → Nat → List Value → World → Prop) (k0 : Nat)
  (hnew : Calls Tryz.prog 16 #[.string s] ((w.alloc (.cells #[.slice none 0 0] 27)).alloc (.cells #[.nilIface] 29)) (fun e w3 => ∃ qb, e = .returned (.pointer (some ⟨qb, 0, none⟩)) ∧ IR qb k0 (.slice none 0 0) 0 [] w3))
  (hIR : ∀ qb k dsv n xs w', IR qb k dsv n xs w' → ∃ tok, Mk.FpH w.heap.size ⟨qb, 0, none⟩ dsv n xs k (IR qb) Q w' tok) :
  Calls Tryz.prog 5 #[.string s] w Q := by
 have hmf : ∀ (fn : Fn) (first cap : Array Value) (w : World), (Instr.makeFunc fn first cap).run Tryz.prog w = .ok (.func fn first cap) w := fun _ _ _ _ => rfl
 obtain ⟨i0, hi, hz0, hz1, hz2⟩ := info_parts Mk.declInfo
 have HI : Hid (∀ qb k dsv n xs w', IR qb k dsv n xs w' → ∃ tok, Mk.FpH w.heap.size ⟨qb, 0, none⟩ dsv n xs k (IR qb) Q w' tok) := hIR
 clear hIR
 go_enter_defers Tryz.func5, Tryz.ntmps5
 go_wp2_with (go_at_call 16; refine hnew.mono ?_; rintro e w3 ⟨qb, rfl, h3⟩; clear hnew)
 go_loopg [] k0 (fun k wr => ∃ dsv n xs, IR qb k dsv n xs wr)
 case atStart => exact ⟨_, _, _, h3⟩
 case round =>
  obtain ⟨dsv, n, xs, hk⟩ := hrel
  obtain ⟨tok, hH⟩ := HI.out _ _ _ _ _ _ hk
  clear h3 hk
  have ht := hH.cell
  simp only [Nat.zero_add] at ht
  obtain ⟨c1, z1, c2, z2⟩ := hH.loop.has.c0
  obtain ⟨dp, dl, dc, rfl⟩ : ∃ p l c, dsv = .slice p l c := by
   rcases hH.loop.own.2 with ⟨h, _⟩ | ⟨g, cap, cur, h, _⟩
   ·exact ⟨_, _, _, h⟩
   ·exact ⟨_, _, _, h⟩
  by_cases h0 : tok = ByteArray.mk #[]
  ·subst h0
   have HF : Hid (Mk.HasF w.heap.size (.slice dp dl dc) .nilIface wr ∧ ∀ w', Near w.heap.size (w.heap.size + 1) wr w' → Q (.returned (.tuple #[.slice dp dl dc, .nilIface])) w') := ⟨hH.loop.has, hH.fin rfl⟩
   clear hH
   go_wp2_with fail
   have hh2 := (HF.out.1.setL (v := .slice dp dl dc)).setE (v := .nilIface)
   have hn := ((Near.refl w.heap.size (w.heap.size + 1) wr).setCell ⟨w.heap.size, 0, none⟩ (.inl rfl) (.slice dp dl dc)).setCell ⟨w.heap.size + 1, 0, none⟩ (.inr rfl) .nilIface
   have hq := HF.out.2 _ hn
   generalize (wr.setCell ⟨w.heap.size, 0, none⟩ (.slice dp dl dc)).setCell ⟨w.heap.size + 1, 0, none⟩ .nilIface = w6 at *
   obtain ⟨k0', j0, k5, j5⟩ := hh2.c0
   simp [bodyPostD, Leaves, settle, go_sem]
   refine ⟨15, _, ⟨rfl, rfl⟩, (Mk.catch_idle _ _).mono ?_⟩
   rintro e u w7 ⟨rfl, rfl, rfl⟩
   simp
   refine ⟨14, _, ⟨rfl, rfl⟩, (Mk.fclos_nil _ _ _ _ k5).mono ?_⟩
   rintro e u w7 ⟨rfl, rfl, rfl⟩
   simp [Leaves, settle, results, Tryz.results5, go_sem, k0', k5]
   exact hq
  ·have hne : tok.toList.isEmpty = false := by
    rw [Go.ByteArray.toList_eq]
    cases ht' : tok.data.toList with
    | nil => exact absurd (ByteArray.ext (Array.toList_inj.1 ht')) h0
    | cons => rfl
   have hnx := hH.next h0
   clear hH
   go_wp2_with fail
   first
    | (go_region_law (first
      | (go_simp; refine hnx.mono ?_; rintro e w2 (⟨x, hx, rfl, hL, hn, k', hk', hgo⟩ | ⟨v, rfl, hh, hq⟩); rotate_left; exact Mk.fpan hh hq.out rfl rfl; obtain ⟨c1', z1', c2', z2'⟩ := hL.has.c0; have ka := Mk.HasF.ahead hL.has; obtain ⟨ek, en, ep, epl, epc, ek1, em1, en1, el1, ell1, elc1, ea1, eal1, eac1, ek2, em2, en2, el2, ell2, elc2, ea2, eal2, eac2, ear, ec, ecl, ecc⟩ := hx)
      | (refine step_append_own rfl _ _ 27 rfl (w.heap.size + 2) 47 i0 _ 15 240 Tryz.underlying27 hi hz0 hz1 hz2 rfl (by decide) _ _ _ rfl (hL.own.alloc _) ⟨w2.heap.size, 0, none⟩ 1 1 [.int .i64 ek, .string en, .slice ep epl epc, .int .i64 ek1, .int .i64 em1, .string en1, .slice el1 ell1 elc1, .slice ea1 eal1 eac1, .int .i64 ek2, .int .i64 em2, .string en2, .slice el2 ell2 elc2, .slice ea2 eal2 eac2, .int .i64 ear, .slice ec ecl ecc] rfl rfl (Mk.new_cells _ _ _) (Mk.ShpD.one (.mk ek en ep epl epc ek1 em1 en1 el1 ell1 elc1 ea1 eal1 eac1 ek2 em2 en2 el2 ell2 elc2 ea2 eal2 eac2 ear ec ecl ecc)) (by unfold maxLen; omega) (by omega) (by have := hL.lt; simp; omega) ?_; intro v' w' ho' hgr' hnil' hat'; obtain ⟨vp, vl, vc, rfl⟩ := Mk.own_shape ho'; have hGF := Mk.HasF.grow hL.has hL.own hgr'; obtain ⟨f1, y1, f2, y2⟩ := hGF.c0)))
    | fail
   all_goals
    clear hnx
    go_wp2_with fail
    go_roundg k'
    case measure => exact hk'
    case rel =>
     obtain ⟨g1, g2⟩ := Mk.FpL.next hL ho' hgr' hat'
     exact ⟨_, _, _, hgo.out _ _ g1 g2⟩
end Go.Ab
end
