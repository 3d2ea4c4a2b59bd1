/- The plain laws of the functions over levels: worth, index, contains, among, sameNames, sameLevel. The plain laws: parameters, printing, substitution. The plain laws: printing. The plain laws: substitution; a small number. The plain laws: the reader's tokens. The plain laws: the reader. -/
import Derived.Test.YtkecplbpffhdnaaGreatDoorAbMk0
import Derived.Test.YtkecplbpffhdnaaGreatDoorAbMk1
import Derived.Test.YtkecplbpffhdnaaGreatDoorAbMk2
import Derived.Test.YtkecplbpffhdnaaGreatDoorAbMk3
import Derived.Test.YtkecplbpffhdnaaGreatDoorAbMk4
set_option linter.unusedSimpArgs false
set_option linter.unusedVariables false
set_option linter.deprecated false
section
namespace Go.Ab.Mk
open Go.Proofs Go.Ab

/-- A parameter's value by the lists: the first that bears the name. -/
def pval (s : ByteArray) : List ByteArray → List Int → Int
  | p :: ps, n :: ns => if p.toList == s.toList then n else pval s ps ns
  | _, _ => 0

def rworthV (ps : List ByteArray) (ns : List Int) : Lv → Int
  | .zero => 0
  | .succ l => IntKind.wrap .i64 (rworthV ps ns l + 1)
  | .max a b => bif decide (rworthV ps ns b > rworthV ps ns a) then rworthV ps ns b else rworthV ps ns a
  | .imax a b => bif rworthV ps ns b == 0 then 0 else bif decide (rworthV ps ns b > rworthV ps ns a) then rworthV ps ns b else rworthV ps ns a
  | .param s => pval s ps ns

def idx (v : ByteArray) : List ByteArray → Nat → Int
  | [], _ => -1
  | p :: ps, i => if v.toList == p.toList then i else idx v ps (i + 1)

theorem index_loop (call : CallF) (n : Nat) {ps : List ByteArray} (hb : ps.length < 2 ^ 61) (v : ByteArray) (σ : Sto) :
    ∀ (m i : Nat), i ≤ ps.length → ps.length - i < m → indexl0 call n m (strs ps) v ps.length i σ = some (.ret [(.int .i64 (idx v (ps.drop i) i), false)], σ)
  | 0, i, _, hm => by omega
  | m + 1, i, hi, hm => by
    show indexs0 call (indexl0 call n m) (strs ps) v ps.length i σ = _
    unfold indexs0
    rw [strs_length]
    by_cases hlt : i < ps.length
    · rw [d0, dlt hlt, Int.toNat_natCast, strs_get hlt, List.drop_eq_getElem_cons hlt]
      simp only [cond_true, Bool.and_self, grd, Option.bind_some, List.getD_cons_zero, V.asStr, idx]
      cases hc : v.toList == ps[i].toList with
      | true => simp
      | false =>
        simp only [cond_false, wrap_succ (show i < 2 ^ 61 by omega), Bool.false_eq_true, if_false]
        exact index_loop call n hb v σ m (i + 1) (by omega) (by omega)
    · rw [dnlt hlt, List.drop_eq_nil_of_le (by omega)]
      simp [idx]
theorem index_law {ps : List ByteArray} (hb : ps.length < 2 ^ 61) (v : ByteArray) (σ : Sto) :
    lim C 44 [(.slice 1 9 (strs ps), false), (.str v, false)] σ = some (.ret [(.int .i64 (idx v ps 0), false)], σ) :=
  index_lim (n := ps.length + 1) <| by
    have := index_loop (lim C) (ps.length + 1) hb v σ (ps.length + 1) 0 (by omega) (by omega)
    simpa [index, indexF, strs_length] using this
theorem pval_idx (s : ByteArray) : ∀ (ps : List ByteArray) (ns : List Int) (i : Nat), ps.length = ns.length →
    (idx s ps i = -1 ∧ pval s ps ns = 0) ∨ ∃ j, j < ns.length ∧ idx s ps i = ((i + j : Nat) : Int) ∧ ns[j]? = some (pval s ps ns)
  | [], [], _, _ => .inl ⟨rfl, rfl⟩
  | [], _ :: _, _, h => by simp at h
  | _ :: _, [], _, h => by simp at h
  | p :: ps, n :: ns, i, h => by
    by_cases hc : s.toList = p.toList
    · exact .inr ⟨0, by simp, by simp [idx, hc], by simp [pval, hc]⟩
    · have hc' : ¬ p.toList = s.toList := fun e => hc e.symm
      rcases pval_idx s ps ns (i + 1) (by simpa using h) with ⟨h1, h2⟩ | ⟨j, h1, h2, h3⟩
      · exact .inl ⟨by simp [idx, hc, h1], by simp [pval, hc', h2]⟩
      · refine .inr ⟨j + 1, by simp; omega, ?_, ?_⟩
        · simp only [idx, beq_iff_eq, hc, if_false, h2]; congr 1; omega
        · simp only [pval, beq_iff_eq, hc', if_false, List.getElem?_cons_succ]; exact h3

def has (v : ByteArray) (ps : List ByteArray) : Bool := ps.any fun p => p.toList == v.toList
theorem sameLevel_loop (call : CallF) (n : Nat) {L : List Lv} (hb : L.length < 2 ^ 61) (k : Int) (nm : ByteArray) (σ : Sto)
    (h : ∀ c ∈ L, call 56 [(.agg [.int .i64 c.kind, .str c.name, .slice 3 90 c.args], false), (.agg [.int .i64 c.kind, .str c.name, .slice 3 90 c.args], false)] σ = some (.ret [(.bool true, false)], σ)) :
    ∀ (m i : Nat), i ≤ L.length → L.length - i < m → sameLevell0 call n m i k nm (L.map Lv.enc) k nm (L.map Lv.enc) σ = some (.ret [(.bool true, false)], σ)
  | 0, i, _, hm => by omega
  | m + 1, i, hi, hm => by
    show sameLevels0 call (sameLevell0 call n m) i k nm (L.map Lv.enc) k nm (L.map Lv.enc) σ = _
    unfold sameLevels0
    rw [List.length_map]
    by_cases hlt : i < L.length
    · have hc := List.getElem?_eq_getElem hlt
      rw [d0, dlt hlt, kid_get hc, L[i].cells]
      simp only [cond_true, Bool.and_self, grd, Option.bind_some, callK_ret1 (h _ (List.getElem_mem hlt)), wrap_succ (show i < 2 ^ 61 by omega), List.getD_cons_zero, V.asBool, Bool.not_true, cond_false]
      exact sameLevel_loop call n hb k nm σ h m (i + 1) (by omega) (by omega)
    · rw [dnlt hlt]; rfl
theorem kids_few (l : Lv) : l.kids.length ≤ 2 := by cases l <;> simp [Lv.kids]
theorem sameLevel_law (σ : Sto) : ∀ (l : Lv),
    lim C 56 [(.agg [.int .i64 l.kind, .str l.name, .slice 3 90 l.args], false), (.agg [.int .i64 l.kind, .str l.name, .slice 3 90 l.args], false)] σ = some (.ret [(.bool true, false)], σ) :=
  Lv.ind fun l ih => sameLevel_lim (n := 4) <| by
    have hf := kids_few l
    have := sameLevel_loop (lim C) 4 (L := l.kids) (by omega) l.kind l.name σ ih 4 0 (by omega) (by omega)
    simpa [sameLevel, sameLevelF, Lv.args] using this
end Go.Ab.Mk
end
section
namespace Go.Ab.Mk
open Go.Proofs Go.Ab

def rparamsV : Lv → List ByteArray → List ByteArray
  | .param s, ps => bif has s ps then ps else ps ++ [s]
  | .zero, ps => ps
  | .succ l, ps => rparamsV l ps
  | .max a b, ps => rparamsV b (rparamsV a ps)
  | .imax a b, ps => rparamsV b (rparamsV a ps)
theorem rparamsV_length : ∀ (l : Lv) (ps : List ByteArray), (rparamsV l ps).length ≤ ps.length + l.size
  | .param s, ps => by simp only [rparamsV]; cases has s ps <;> simp [Lv.size]
  | .zero, ps => by simp [rparamsV]
  | .succ l, ps => by have := rparamsV_length l ps; simp only [rparamsV, Lv.size]; omega
  | .max a b, ps => by have h1 := rparamsV_length a ps; have h2 := rparamsV_length b (rparamsV a ps); simp only [rparamsV, Lv.size]; omega
  | .imax a b, ps => by have h1 := rparamsV_length a ps; have h2 := rparamsV_length b (rparamsV a ps); simp only [rparamsV, Lv.size]; omega
def kidsV : List Lv → List ByteArray → List ByteArray
  | [], ps => ps
  | c :: L, ps => kidsV L (rparamsV c ps)
def sizes : List Lv → Nat
  | [] => 0
  | c :: L => c.size + sizes L
theorem sizes_le : ∀ l : Lv, sizes l.kids < l.size
  | .param s => by simp [Lv.kids, sizes, Lv.size]
  | .zero => by simp [Lv.kids, sizes, Lv.size]
  | .succ l => by simp [Lv.kids, sizes, Lv.size]
  | .max a b => by simp [Lv.kids, sizes, Lv.size] <;> omega
  | .imax a b => by simp [Lv.kids, sizes, Lv.size] <;> omega
theorem kidsV_eq : ∀ (l : Lv) (ps : List ByteArray), (∀ s, l ≠ .param s) → kidsV l.kids ps = rparamsV l ps
  | .param s, _, h => absurd rfl (h s)
  | .zero, _, _ => rfl
  | .succ _, _, _ => rfl
  | .max .., _, _ => rfl
  | .imax .., _, _ => rfl
theorem kind_ne {l : Lv} (h : ∀ s, l ≠ .param s) : (l.kind == (4 : Int)) = false := by cases l <;> first | rfl | exact absurd rfl (h _)
theorem idx_has (v : ByteArray) : ∀ (ps : List ByteArray) (i : Nat), decide (idx v ps i ≥ 0) = has v ps
  | [], i => rfl
  | p :: ps, i => by
    simp only [idx, has, List.any_cons]
    by_cases h : v.toList = p.toList
    · simp [h]
    · have h' : ¬ p.toList = v.toList := fun e => h e.symm
      have := idx_has v ps (i + 1)
      simp only [has] at this
      simp [h, h', ← this]

theorem memGet1 {σ : Sto} {t : TypeId} {b : Nat} {c : Cell} (h : σ[b]? = some [c]) : memGet σ (.ptr t b 0) false 1 = some c.1 := by simp [memGet, h, gather]
theorem memTake1 {σ : Sto} {t : TypeId} {b : Nat} {v : V} (h : σ[b]? = some [(v, true)]) : memTake σ (.ptr t b 0) = some (v, σ.set b [(v, false)]) := by
  simp only [memTake, h, Option.bind_some]; rfl
theorem memSet1 {σ : Sto} {t : TypeId} {b : Nat} {c d : Cell} (h : σ[b]? = some [c]) : memSet σ (.ptr t b 0) [d] = some (σ.set b [d]) := by
  simp only [memSet, h, Option.bind_some]; rfl
end Go.Ab.Mk
end
section
namespace Go.Ab.Mk
open Go.Proofs Go.Ab

/-- A string of bytes. -/
def ba (l : List UInt8) : ByteArray := ⟨l.toArray⟩
theorem ba_append (a b : List UInt8) : ba a ++ ba b = ba (a ++ b) := by
  apply ByteArray.ext
  simp [ba]
theorem ba_of (s : ByteArray) : ba s.data.toList = s := by
  apply ByteArray.ext
  simp [ba]
theorem ba_size (l : List UInt8) : (ba l).size = l.length := by simp [ba, ByteArray.size]
theorem bytesV_ba (l : List UInt8) : bytesV (ba l) = bytesL l := by simp [bytesV, ba, bytesL]
theorem strRoom_ok {x y : ByteArray} (h : x.size + y.size < 2 ^ 61) : strRoom x y = true := by
  unfold strRoom
  refine decide_eq_true ?_
  by_cases h0 : x.size + y.size = 0
  · rw [h0]; simp
  · have := (Nat.log2_lt (k := 61) h0).2 h
    omega

def printL : Lv → List UInt8
  | .zero => [48]
  | .succ l => [40, 115, 32] ++ printL l ++ [41]
  | .max a b => [40, 109, 97, 120, 32] ++ printL a ++ [32] ++ printL b ++ [41]
  | .imax a b => [40, 105, 109, 97, 120, 32] ++ printL a ++ [32] ++ printL b ++ [41]
  | .param s => s.data.toList

/-- A builder's cells: used or not; its bytes. -/
def bcell (b : Nat) (u : Bool) (L : List UInt8) : List Cell := [(bif u then .ptr 75 b 0 else .nilp, false), (.slice 1 5 (bytesL L), true)]
theorem memTakeB {σ : Sto} {t : TypeId} {b : Nat} {c : Cell} {v : V} (h : σ[b]? = some [c, (v, true)]) : memTake σ (.ptr t b 1) = some (v, σ.set b [c, (v, false)]) := by
  simp only [memTake, h, Option.bind_some]; rfl
theorem memSetB {σ : Sto} {t : TypeId} {b : Nat} {c c' d : Cell} (h : σ[b]? = some [c, c']) : memSet σ (.ptr t b 1) [d] = some (σ.set b [c, d]) := by
  simp only [memSet, h, Option.bind_some]; rfl
theorem callK_ret2 {call : CallF} {f : FuncId} {args : List Cell} {σ σ' : Sto} {K : List Cell → Sto → Option Res} {KP : V → Sto → Option Res} {c d : Cell} (h : call f args σ = some (.ret [c, d], σ')) :
    callK call f args σ 2 K KP = K [c, d] σ' := callK_ret h rfl
end Go.Ab.Mk
end
section
namespace Go.Ab.Mk
open Go.Proofs Go.Ab

def plv (s : ByteArray) : List ByteArray → List Lv → Lv
  | p :: ps, l :: ls => if p.toList == s.toList then l else plv s ps ls
  | _, _ => .param s
def substV (ps : List ByteArray) (ls : List Lv) : Lv → Lv
  | .zero => .zero
  | .succ l => .succ (substV ps ls l)
  | .max a b => .max (substV ps ls a) (substV ps ls b)
  | .imax a b => .imax (substV ps ls a) (substV ps ls b)
  | .param s => plv s ps ls
def encs (ls : List Lv) : List (List V) := ls.map Lv.enc
theorem substV_kids (ps : List ByteArray) (ls : List Lv) : ∀ (l : Lv), (∀ s, l ≠ .param s) → (substV ps ls l).kind = l.kind ∧ (substV ps ls l).name = l.name ∧ (substV ps ls l).kids = l.kids.map (substV ps ls)
  | .param s, h => absurd rfl (h s)
  | .zero, _ => ⟨rfl, rfl, rfl⟩
  | .succ _, _ => ⟨rfl, rfl, rfl⟩
  | .max .., _ => ⟨rfl, rfl, rfl⟩
  | .imax .., _ => ⟨rfl, rfl, rfl⟩
theorem plv_idx (s : ByteArray) : ∀ (ps : List ByteArray) (ls : List Lv) (i : Nat), ps.length = ls.length →
    (idx s ps i = -1 ∧ plv s ps ls = .param s) ∨ ∃ j, j < ls.length ∧ idx s ps i = ((i + j : Nat) : Int) ∧ ls[j]? = some (plv s ps ls)
  | [], [], _, _ => .inl ⟨rfl, rfl⟩
  | [], _ :: _, _, h => by simp at h
  | _ :: _, [], _, h => by simp at h
  | p :: ps, n :: ns, i, h => by
    by_cases hc : s.toList = p.toList
    · exact .inr ⟨0, by simp, by simp [idx, hc], by simp [plv, hc]⟩
    · have hc' : ¬ p.toList = s.toList := fun e => hc e.symm
      rcases plv_idx s ps ns (i + 1) (by simpa using h) with ⟨h1, h2⟩ | ⟨j, h1, h2, h3⟩
      · exact .inl ⟨by simp [idx, hc, h1], by simp [plv, hc', h2]⟩
      · refine .inr ⟨j + 1, by simp; omega, ?_, ?_⟩
        · simp only [idx, beq_iff_eq, hc, if_false, h2]; congr 1; omega
        · simp only [plv, beq_iff_eq, hc', if_false, List.getElem?_cons_succ]; exact h3
theorem fits_lv (l : Lv) : V.fits (.agg [.int .i64 l.kind, .str l.name, .slice 3 90 l.args]) true 3 = true := rfl
theorem cell_lv (l : Lv) : [V.cell (.agg [.int .i64 l.kind, .str l.name, .slice 3 90 l.args]) 0, V.cell (.agg [.int .i64 l.kind, .str l.name, .slice 3 90 l.args]) 1, V.cell (.agg [.int .i64 l.kind, .str l.name, .slice 3 90 l.args]) 2] = l.enc := by rw [l.enc_eq]; rfl

def limitV (n : Int) : Int := bif decide (n < 0) then Int.tmod (IntKind.wrap .i64 (0 - IntKind.wrap .i64 (n + 1))) 6 else Int.tmod n 6
end Go.Ab.Mk
end
section
namespace Go.Ab.Mk
open Go.Proofs Go.Ab

def isDigit (c : Int) : Bool := decide (48 ≤ c) && decide (c ≤ 57)
def isLetter (c : Int) : Bool := (decide (97 ≤ c) && decide (c ≤ 122)) || (decide (65 ≤ c) && decide (c ≤ 90)) || c == 95
def nmByte (c : Int) (first : Bool) : Bool := isLetter c || (!first && (isDigit c || c == 46 || c == 39))
def isBlank (c : Int) : Bool := c == 32 || c == 9 || c == 10

theorem nameByte_law (c : Int) (f : Bool) (σ : Sto) : lim C 74 [(.int .u8 c, false), (.bool f, false)] σ = some (.ret [(.bool (nmByte c f), false)], σ) :=
  nameByte_lim (n := 0) <| by
    simp only [nameByte, nameByteF, nmByte, isLetter, isDigit, ge_iff_le]
    cases decide (97 ≤ c) <;> cases decide (c ≤ 122) <;> cases decide (65 ≤ c) <;> cases decide (c ≤ 90) <;> cases c == 95 <;> cases f <;> cases decide (48 ≤ c) <;> cases decide (c ≤ 57) <;> cases c == 46 <;> cases c == 39 <;> rfl

/-- The first place from i on where f is false. -/
def scan (f : Int → Bool) (s : ByteArray) (i : Nat) : Nat :=
  if h : i < s.size then (bif f (byteAt s i) then scan f s (i + 1) else i) else i
termination_by s.size - i
theorem scan_go {f : Int → Bool} {s : ByteArray} {i : Nat} (h : i < s.size) (hf : f (byteAt s i) = true) : scan f s i = scan f s (i + 1) := by
  rw [scan, dif_pos h, hf]; rfl
theorem scan_stop {f : Int → Bool} {s : ByteArray} {i : Nat} (h : ¬ (i < s.size ∧ f (byteAt s i) = true)) : scan f s i = i := by
  rw [scan]
  split
  · rename_i hi
    cases hf : f (byteAt s i) with
    | true => exact absurd ⟨hi, hf⟩ h
    | false => rfl
  · rfl
theorem scan_ge (f : Int → Bool) (s : ByteArray) : ∀ (k i : Nat), s.size - i = k → i ≤ scan f s i ∧ (i ≤ s.size → scan f s i ≤ s.size)
  | k, i, hk => by
    by_cases h : i < s.size ∧ f (byteAt s i) = true
    · rw [scan_go h.1 h.2]
      have := scan_ge f s (k - 1) (i + 1) (by omega)
      omega
    · rw [scan_stop h]; omega
theorem le_scan (f : Int → Bool) (s : ByteArray) (i : Nat) : i ≤ scan f s i := (scan_ge f s _ i rfl).1
theorem scan_le {f : Int → Bool} {s : ByteArray} {i : Nat} (h : i ≤ s.size) : scan f s i ≤ s.size := (scan_ge f s _ i rfl).2 h
theorem scan_end (f : Int → Bool) (s : ByteArray) : ∀ (k i : Nat), s.size - i = k → ¬ (scan f s i < s.size ∧ f (byteAt s (scan f s i)) = true)
  | k, i, hk => by
    by_cases h : i < s.size ∧ f (byteAt s i) = true
    · rw [scan_go h.1 h.2]
      exact scan_end f s (k - 1) (i + 1) (by omega)
    · rw [scan_stop h]; exact h

structure Tok where
  t : ByteArray
  at_ : Nat
  ok : Bool
def Tok.no (i : Nat) : Tok := ⟨ByteArray.mk #[], i, false⟩
def Tok.cells (k : Tok) : List Cell := [(.str k.t, false), (.int .i64 k.at_, false), (.bool k.ok, false)]
/-- A row of digits from i on, that ends ahead of q. -/
def numTok (s : ByteArray) (i q : Nat) (c : Int) : Tok :=
  let d := bif c == 35 then i + 1 else i
  bif q == d then .no i else bif decide (q - d > 5) then .no i else bif (decide (q - d > 1) && byteAt s d == 48) then .no i else ⟨s.extract i q, i, true⟩
def nmTok (s : ByteArray) (i q : Nat) : Tok := bif decide (q - i > 40) then .no i else ⟨s.extract i q, i, true⟩
def tokAt (s : ByteArray) (i : Nat) : Tok :=
  bif i == s.size then ⟨ByteArray.mk #[], i, true⟩ else
  bif byteAt s i == 40 then ⟨s.extract i (i + 1), i, true⟩ else bif byteAt s i == 41 then ⟨s.extract i (i + 1), i, true⟩ else
  bif nmByte (byteAt s i) true then nmTok s i (scan (nmByte · false) s (i + 1)) else
  bif byteAt s i == 35 || isDigit (byteAt s i) then numTok s i (scan isDigit s (i + 1)) (byteAt s i) else .no i
def tokV (s : ByteArray) (p : Nat) : Tok := tokAt s (scan isBlank s p)

/-- The reader's cells. -/
def rst (s : ByteArray) (p : Nat) (c a : Int) : List Cell := [(.str s, false), (.int .i64 p, false), (.int .i64 c, false), (.int .i64 a, false)]
theorem rd0 {σ : Sto} {r : Nat} {s : ByteArray} {p : Nat} {c a : Int} (h : σ[r]? = some (rst s p c a)) (t : TypeId) : memGet σ (.ptr t r 0) false 1 = some (.str s) := by simp [memGet, h, gather, rst]
theorem rd1 {σ : Sto} {r : Nat} {s : ByteArray} {p : Nat} {c a : Int} (h : σ[r]? = some (rst s p c a)) (t : TypeId) : memGet σ (.ptr t r 1) false 1 = some (.int .i64 p) := by simp [memGet, h, gather, rst]
theorem rd2 {σ : Sto} {r : Nat} {s : ByteArray} {p : Nat} {c a : Int} (h : σ[r]? = some (rst s p c a)) (t : TypeId) : memGet σ (.ptr t r 2) false 1 = some (.int .i64 c) := by simp [memGet, h, gather, rst]
theorem wrap_sub {q i : Nat} (h : i ≤ q) (hq : q < 2 ^ 61) : IntKind.wrap .i64 ((q : Int) - (i : Int)) = ((q - i : Nat) : Int) := by
  rw [← wrap_nat (n := q - i) (by omega)]
  congr 1
  omega
theorem dgt (a b : Nat) : decide ((a : Int) > (b : Int)) = decide (a > b) := by simp
theorem beqN (a b : Nat) : ((a : Int) == (b : Int)) = (a == b) := by
  rw [Bool.eq_iff_iff, beq_iff_eq, beq_iff_eq]; omega
theorem bnd2 {i q n : Nat} (h1 : i ≤ q) (h2 : q ≤ n) : (decide ((i : Int) ≤ (q : Int)) && decide ((q : Int) ≤ (n : Int))) = true := by simp; omega
theorem bnd {i q n : Nat} (h1 : i ≤ q) (h2 : q ≤ n) : (decide (0 ≤ (i : Int)) && decide ((i : Int) ≤ (q : Int)) && decide ((q : Int) ≤ (n : Int))) = true := by simp; omega

theorem tokens1_step (call : CallF) (n m : Nat) {σ : Sto} {r : Nat} {s : ByteArray} {p : Nat} {c a : Int} (h : σ[r]? = some (rst s p c a)) (hs : s.size < 2 ^ 61)
    (hc : ∀ x, call 74 [(.int .u8 x, false), (.bool false, false)] σ = some (.ret [(.bool (nmByte x false), false)], σ)) {i q : Nat} (hi : i ≤ q) (hq : q ≤ s.size) :
    rtokenl1 call n (m + 1) r (.int .i64 i) q σ = bif decide (q < s.size) && nmByte (byteAt s q) false then rtokenl1 call n m r (.int .i64 i) (q + 1 : Nat) σ else some (.ret (nmTok s i q).cells, σ) := by
  show rtokens1 call (rtokenl1 call n m) r (.int .i64 i) q σ = _
  unfold rtokens1
  have h40 : ((40 : Int)) = ((40 : Nat) : Int) := rfl
  simp only [rd0 h, Option.bind_some, V.asStr, V.asInt, if_true, callK_ret1 (hc _), Int.toNat_natCast, List.getD_cons_zero, V.asBool, wrap_sub hi (show q < 2 ^ 61 by omega), h40, dgt, bnd hi hq, grd, cond_true, nmTok, Tok.cells, Tok.no]
  by_cases h1 : q < s.size
  · simp only [dlt h1, d0, cond_true, Bool.and_self, Option.bind_some, wrap_succ (show q < 2 ^ 61 by omega), decide_eq_true h1, Bool.true_and]
    cases nmByte (byteAt s q) false with
    | true => rfl
    | false => simp only [cond_false]; cases decide (q - i > 40) <;> rfl
  · simp only [dnlt h1, cond_false, decide_eq_false h1, Bool.false_and]
    cases decide (q - i > 40) <;> rfl
theorem tokens1_loop (call : CallF) (n : Nat) {σ : Sto} {r : Nat} {s : ByteArray} {p : Nat} {c a : Int} (h : σ[r]? = some (rst s p c a)) (hs : s.size < 2 ^ 61)
    (hc : ∀ x, call 74 [(.int .u8 x, false), (.bool false, false)] σ = some (.ret [(.bool (nmByte x false), false)], σ)) {i : Nat} :
    ∀ (m q : Nat), i ≤ q → q ≤ s.size → s.size - q < m → rtokenl1 call n m r (.int .i64 i) q σ = some (.ret (nmTok s i (scan (nmByte · false) s q)).cells, σ)
  | 0, q, _, _, hm => by omega
  | m + 1, q, hi, hq, hm => by
    rw [tokens1_step call n m h hs hc hi hq]
    by_cases h1 : q < s.size ∧ nmByte (byteAt s q) false = true
    · rw [scan_go (f := (nmByte · false)) h1.1 h1.2, decide_eq_true h1.1, h1.2]
      exact tokens1_loop call n h hs hc m (q + 1) (by omega) (by omega) (by omega)
    · rw [scan_stop (f := (nmByte · false)) h1]
      have : (decide (q < s.size) && nmByte (byteAt s q) false) = false := by
        cases hb : nmByte (byteAt s q) false <;> simp_all
      rw [this]; rfl

theorem tokens2_step (call : CallF) (n m : Nat) {σ : Sto} {r : Nat} {s : ByteArray} {p : Nat} {c a : Int} (h : σ[r]? = some (rst s p c a)) (hs : s.size < 2 ^ 61) {i q : Nat} (x : Int) (hi : i < q) (hq : q ≤ s.size) :
    rtokenl2 call n (m + 1) r (.int .i64 i) q x σ = bif decide (q < s.size) && isDigit (byteAt s q) then rtokenl2 call n m r (.int .i64 i) (q + 1 : Nat) x σ else some (.ret (numTok s i q x).cells, σ) := by
  show rtokens2 call (rtokenl2 call n m) r (.int .i64 i) q x σ = _
  unfold rtokens2
  have h5 : ((5 : Int)) = ((5 : Nat) : Int) := rfl
  have h1' : ((1 : Int)) = ((1 : Nat) : Int) := rfl
  have e48 : ∀ z : Int, decide (z ≥ 48) = decide (48 ≤ z) := fun _ => rfl
  have w1 : IntKind.wrap .i64 ((i : Int) + ((1 : Nat) : Int)) = ((i + 1 : Nat) : Int) := wrap_succ (show i < 2 ^ 61 by omega)
  have w2 : IntKind.wrap .i64 ((q : Int) + ((1 : Nat) : Int)) = ((q + 1 : Nat) : Int) := wrap_succ (show q < 2 ^ 61 by omega)
  simp only [rd0 h, Option.bind_some, V.asStr, V.asInt, if_true, Int.toNat_natCast, h5, h1', w1, w2, wrap_sub (show i ≤ q by omega) (show q < 2 ^ 61 by omega), wrap_sub (show i + 1 ≤ q by omega) (show q < 2 ^ 61 by omega), dgt, beqN, bnd2 (show i ≤ q by omega) hq, d0, Bool.true_and, decide_eq_true (show s.size > i by omega), grd, cond_true, e48, numTok, Tok.cells, Tok.no]
  by_cases h1 : q < s.size
  · simp only [decide_eq_true (show s.size > q from h1), cond_true, Option.bind_some, decide_eq_true h1, Bool.true_and, isDigit]
    by_cases hx : x == 35
    · by_cases hd : q = i + 1
      · subst hd
        cases decide (48 ≤ byteAt s (i + 1)) <;> cases decide (byteAt s (i + 1) ≤ 57) <;> simp [hx]
      · have hlt : i + 1 < s.size := by omega
        have hd' : (q == i + 1) = false := by simpa using hd
        simp only [decide_eq_true (show s.size > i + 1 from hlt), hx, cond_true, hd', cond_false, Option.bind_some]
        cases decide (48 ≤ byteAt s q) <;> cases decide (byteAt s q ≤ 57) <;> cases decide (q - (i + 1) > 5) <;> cases decide (q - (i + 1) > 1) <;> cases byteAt s (i + 1) == 48 <;> rfl
    · have hd' : (q == i) = false := by simp; omega
      simp only [hx, cond_false, hd', Option.bind_some]
      cases decide (48 ≤ byteAt s q) <;> cases decide (byteAt s q ≤ 57) <;> cases decide (q - i > 5) <;> cases decide (q - i > 1) <;> cases byteAt s i == 48 <;> rfl
  · simp only [decide_eq_false (show ¬ s.size > q from h1), cond_false, decide_eq_false h1, Bool.false_and]
    by_cases hx : x == 35
    · by_cases hd : q = i + 1
      · subst hd
        simp [hx]
      · have hlt : i + 1 < s.size := by omega
        have hd' : (q == i + 1) = false := by simpa using hd
        simp only [decide_eq_true (show s.size > i + 1 from hlt), hx, cond_true, hd', cond_false, Option.bind_some]
        cases decide (q - (i + 1) > 5) <;> cases decide (q - (i + 1) > 1) <;> cases byteAt s (i + 1) == 48 <;> rfl
    · have hd' : (q == i) = false := by simp; omega
      simp only [hx, cond_false, hd', Option.bind_some]
      cases decide (q - i > 5) <;> cases decide (q - i > 1) <;> cases byteAt s i == 48 <;> rfl
theorem tokens2_loop (call : CallF) (n : Nat) {σ : Sto} {r : Nat} {s : ByteArray} {p : Nat} {c a : Int} (h : σ[r]? = some (rst s p c a)) (hs : s.size < 2 ^ 61) {i : Nat} (x : Int) :
    ∀ (m q : Nat), i < q → q ≤ s.size → s.size - q < m → rtokenl2 call n m r (.int .i64 i) q x σ = some (.ret (numTok s i (scan isDigit s q) x).cells, σ)
  | 0, q, _, _, hm => by omega
  | m + 1, q, hi, hq, hm => by
    rw [tokens2_step call n m h hs x hi hq]
    by_cases h1 : q < s.size ∧ isDigit (byteAt s q) = true
    · rw [scan_go (f := isDigit) h1.1 h1.2, decide_eq_true h1.1, h1.2]
      exact tokens2_loop call n h hs x m (q + 1) (by omega) (by omega) (by omega)
    · rw [scan_stop (f := isDigit) h1]
      have : (decide (q < s.size) && isDigit (byteAt s q)) = false := by
        cases hb : isDigit (byteAt s q) <;> simp_all
      rw [this]; rfl

theorem tokens0_loop (call : CallF) (n : Nat) {σ : Sto} {r : Nat} {s : ByteArray} {p0 : Nat} {c a : Int} (h : σ[r]? = some (rst s p0 c a)) (hs : s.size < 2 ^ 61) (hn : s.size < n)
    (hc : ∀ x f, call 74 [(.int .u8 x, false), (.bool f, false)] σ = some (.ret [(.bool (nmByte x f), false)], σ)) :
    ∀ (m p : Nat), p ≤ s.size → s.size - p < m → rtokenl0 call n m r (.int .i64 p) σ = some (.ret (tokV s p).cells, σ)
  | 0, q, _, hm => by omega
  | m + 1, p, hp, hm => by
    show rtokens0 call (rtokenl1 call n n) (rtokenl2 call n n) (rtokenl0 call n m) r (.int .i64 p) σ = _
    unfold rtokens0
    have e48 : ∀ z : Int, decide (z ≥ 48) = decide (48 ≤ z) := fun _ => rfl
    simp only [rd0 h, Option.bind_some, V.asStr, V.asInt, if_true, Int.toNat_natCast, wrap_succ (show p < 2 ^ 61 by omega), d0, Bool.true_and, callK_ret1 (hc _ _), List.getD_cons_zero, V.asBool, beqN, e48]
    by_cases h1 : p < s.size
    · have hpe : (p == s.size) = false := by simp; omega
      have hb1 : ((decide ((p : Int) ≤ ((p + 1 : Nat) : Int))) && decide (((p + 1 : Nat) : Int) ≤ (s.size : Int))) = true := by simp; omega
      simp only [dlt h1, cond_true, grd, Option.bind_some, hpe, cond_false, hb1]
      by_cases hb : isBlank (byteAt s p) = true
      · rw [tokV, scan_go h1 hb, ← tokV]
        have ih := tokens0_loop call n h hs hn hc m (p + 1) (by omega) (by omega)
        simp only [isBlank, Bool.or_eq_true] at hb
        rw [ih]
        rcases hb with (hb | hb) | hb
        · simp only [hb, cond_true]
        · cases byteAt s p == 32 <;> simp only [hb, cond_true, cond_false]
        · cases byteAt s p == 32 <;> cases byteAt s p == 9 <;> simp only [hb, cond_true, cond_false]
      · rw [tokV, scan_stop (fun hh => hb hh.2)]
        have hb' : isBlank (byteAt s p) = false := by simpa using hb
        simp only [isBlank, Bool.or_eq_false_iff] at hb'
        obtain ⟨⟨b1, b2⟩, b3⟩ := hb'
        have l1 := tokens1_loop call n h hs (fun x => hc x false) (i := p) n (p + 1) (by omega) (by omega) (by omega)
        have l2 := tokens2_loop call n h hs (i := p) (byteAt s p) n (p + 1) (by omega) (by omega) (by omega)
        simp only [b1, b2, b3, cond_false, l1, l2, tokAt, hpe, isDigit]
        cases byteAt s p == 40 <;> cases byteAt s p == 41 <;> cases nmByte (byteAt s p) true <;> cases byteAt s p == 35 <;> cases decide (48 ≤ byteAt s p) <;> cases decide (byteAt s p ≤ 57) <;> rfl
    · have hpe : p = s.size := by omega
      rw [tokV, scan_stop (fun hh => h1 hh.1)]
      rw [dnlt h1]
      simp only [cond_false, hpe, beq_self_eq_true, cond_true, tokAt, Tok.cells]
theorem token_law {σ : Sto} {r : Nat} {s : ByteArray} {p : Nat} {c a : Int} (h : σ[r]? = some (rst s p c a)) (hs : s.size < 2 ^ 61) (hp : p ≤ s.size) :
    lim C 47 [(.ptr 62 r 0, false)] σ = some (.ret (tokV s p).cells, σ) :=
  rtoken_lim (n := s.size + 1) <| by
    have := tokens0_loop (lim C) (s.size + 1) h hs (by omega) (fun x f => nameByte_law x f σ) (s.size + 1) p hp (by omega)
    simp only [rtoken, rtokenF, rd1 h, Option.bind_some]
    exact this
end Go.Ab.Mk
end
section
namespace Go.Ab.Mk
open Go.Proofs Go.Ab

structure RS where
  p : Nat
  c : Int
  a : Int
def RS.cells (s : ByteArray) (st : RS) : List Cell := rst s st.p st.c st.a
def isNo (t : ByteArray) : Bool := t.toList == (ByteArray.mk #[]).toList
def rfailV (st : RS) (i : Nat) : RS := bif st.c == 0 then ⟨st.p, 1, i⟩ else st
def rnextV (s : ByteArray) (st : RS) : ByteArray × RS :=
  let k := tokV s st.p
  let st1 := bif !k.ok || isNo k.t then rfailV st k.at_ else st
  bif st1.c != 0 then (ByteArray.mk #[], st1) else (k.t, ⟨k.at_ + k.t.size, st1.c, st1.a⟩)
def rtakeV (s : ByteArray) (st : RS) (w : ByteArray) : RS :=
  let k := tokV s st.p
  let st1 := bif !k.ok || !(k.t.toList == w.toList) then rfailV st k.at_ else st
  bif st1.c == 0 then ⟨k.at_ + k.t.size, st1.c, st1.a⟩ else st1
def isNameV (t : ByteArray) : Bool := !isNo t && nmByte (byteAt t 0) true
def rdoneV (s : ByteArray) (st : RS) : RS :=
  let k := tokV s st.p
  bif !k.ok || !isNo k.t then rfailV st k.at_ else st

theorem isNo_size {t : ByteArray} (h : isNo t = false) : 0 < t.size := by
  rcases Nat.eq_zero_or_pos t.size with h0 | h0
  · have : t = ByteArray.mk #[] := by
      apply ByteArray.ext
      exact Array.eq_empty_of_size_eq_zero h0
    subst this
    simp [isNo] at h
  · exact h0

/-! Where tokens lie. -/
structure TokOk (s : ByteArray) (p : Nat) (k : Tok) : Prop where
  ge : p ≤ k.at_
  le : k.at_ + k.t.size ≤ s.size
  no : k.ok = false → isNo k.t = true
theorem ext_size (s : ByteArray) {i q : Nat} (h1 : i ≤ q) (h2 : q ≤ s.size) : i + (s.extract i q).size = q := by
  rw [ByteArray.size_extract]; omega
theorem tokV_ok (s : ByteArray) {p : Nat} (hp : p ≤ s.size) : TokOk s p (tokV s p) := by
  have h1 := le_scan isBlank s p
  have h2 := scan_le (f := isBlank) hp
  unfold tokV
  generalize scan isBlank s p = i at h1 h2
  unfold tokAt
  have e0 : isNo (ByteArray.mk #[]) = true := by simp [isNo]
  have s0 : (ByteArray.mk #[]).size = 0 := rfl
  have no : TokOk s p (Tok.no i) := ⟨h1, by simp [Tok.no]; omega, fun _ => e0⟩
  by_cases hi : i = s.size
  · subst hi
    simp only [beq_self_eq_true, cond_true]
    exact ⟨h1, by simp [s0], fun _ => e0⟩
  · have hib : (i == s.size) = false := by simpa using hi
    simp only [hib, cond_false]
    have one : TokOk s p ⟨s.extract i (i + 1), i, true⟩ := ⟨h1, by simp only; rw [ext_size s (by omega) (by omega)]; omega, by simp⟩
    have nm : ∀ q, i + 1 ≤ q → q ≤ s.size → TokOk s p (nmTok s i q) := by
      intro q hq1 hq2
      unfold nmTok
      cases decide (q - i > 40)
      · exact ⟨h1, by simp only [cond_false]; rw [ext_size s (by omega) hq2]; exact hq2, by simp⟩
      · exact no
    have num : ∀ q x, i + 1 ≤ q → q ≤ s.size → TokOk s p (numTok s i q x) := by
      intro q x hq1 hq2
      simp only [numTok]
      generalize (bif x == 35 then i + 1 else i) = d
      cases q == d
      · cases decide (q - d > 5)
        · cases (decide (q - d > 1) && byteAt s d == 48)
          · exact ⟨h1, by simp only [cond_false]; rw [ext_size s (by omega) hq2]; exact hq2, by simp⟩
          · exact no
        · exact no
      · exact no
    have g1 := le_scan (nmByte · false) s (i + 1)
    have g2 := scan_le (f := (nmByte · false)) (s := s) (i := i + 1) (by omega)
    have g3 := le_scan isDigit s (i + 1)
    have g4 := scan_le (f := isDigit) (s := s) (i := i + 1) (by omega)
    cases byteAt s i == 40
    · cases byteAt s i == 41
      · cases nmByte (byteAt s i) true
        · cases (byteAt s i == 35 || isDigit (byteAt s i))
          · exact no
          · exact num _ _ g3 g4
        · exact nm _ g1 g2
      · exact one
    · exact one

theorem rset_same {σ : Sto} {r : Nat} {s : ByteArray} {st : RS} (h : σ[r]? = some (st.cells s)) : σ.set r (st.cells s) = σ := by
  obtain ⟨_, h⟩ := List.getElem?_eq_some_iff.1 h
  rw [← h]; simp
theorem callK_ret3 {call : CallF} {f : FuncId} {args : List Cell} {σ σ' : Sto} {K : List Cell → Sto → Option Res} {KP : V → Sto → Option Res} {cs : List Cell} (h : call f args σ = some (.ret cs, σ')) (hl : cs.length = 3) :
    callK call f args σ 3 K KP = K cs σ' := callK_ret h hl
theorem tok0 (k : Tok) : (k.cells.getD 0 cellD).1 = .str k.t := rfl
theorem tok1 (k : Tok) : (k.cells.getD 1 cellD).1 = .int .i64 k.at_ := rfl
theorem tok2 (k : Tok) : (k.cells.getD 2 cellD).1 = .bool k.ok := rfl
theorem rset2 {σ : Sto} {r : Nat} {s : ByteArray} {st : RS} (h : σ[r]? = some (st.cells s)) (t : TypeId) (x y : Int) : memSet σ (.ptr t r 2) [(.int .i64 x, false), (.int .i64 y, false)] = some (σ.set r (RS.cells s ⟨st.p, x, y⟩)) := by
  simp only [memSet, h, Option.bind_some]; rfl
theorem rset1 {σ : Sto} {r : Nat} {s : ByteArray} {st : RS} (h : σ[r]? = some (st.cells s)) (t : TypeId) (x : Nat) : memSet σ (.ptr t r 1) [(.int .i64 x, false)] = some (σ.set r (RS.cells s ⟨x, st.c, st.a⟩)) := by
  simp only [memSet, h, Option.bind_some]; rfl

theorem rfail_law {σ : Sto} {r : Nat} {s : ByteArray} {st : RS} (h : σ[r]? = some (st.cells s)) (i : Nat) :
    lim C 48 [(.ptr 62 r 0, false), (.int .i64 i, false)] σ = some (.ret [], σ.set r ((rfailV st i).cells s)) :=
  rfail_lim (n := 0) <| by
    simp only [rfail, rfailF, rd2 h, Option.bind_some, V.asInt, if_true, rset2 h, rfailV]
    cases st.c == 0
    · simp only [cond_false, rset_same h]
    · rfl
theorem set_get {σ : Sto} {r : Nat} {x : List Cell} {y : List Cell} (h : σ[r]? = some x) : (σ.set r y)[r]? = some y := by
  obtain ⟨hl, _⟩ := List.getElem?_eq_some_iff.1 h
  simp [hl]
theorem wrap_add {a b : Nat} (h : a + b < 2 ^ 62) : IntKind.wrap .i64 ((a : Int) + (b : Int)) = ((a + b : Nat) : Int) := by
  rw [← wrap_nat h]; simp
theorem rnext_law {σ : Sto} {r : Nat} {s : ByteArray} {st : RS} (h : σ[r]? = some (st.cells s)) (hs : s.size < 2 ^ 61) (hp : st.p ≤ s.size) :
    lim C 49 [(.ptr 62 r 0, false)] σ = some (.ret [(.str (rnextV s st).1, false)], σ.set r ((rnextV s st).2.cells s)) :=
  rnext_lim (n := 0) <| by
    obtain ⟨hk1, hk2, hk3⟩ := tokV_ok s hp
    have ht := token_law h hs hp
    have hw : IntKind.wrap .i64 (((tokV s st.p).at_ : Int) + ((tokV s st.p).t.size : Int)) = (((tokV s st.p).at_ + (tokV s st.p).t.size : Nat) : Int) := wrap_add (by omega)
    have fin : ∀ st1 : RS, ∀ σ1 : Sto, σ1[r]? = some (st1.cells s) → st1.p = st.p → σ1 = σ.set r (st1.cells s) →
        (bif st1.c != 0 then some (End.ret [(V.str (ByteArray.mk #[]), false)], σ1) else
          (memSet σ1 (.ptr 62 r 1) [(.int .i64 (IntKind.wrap .i64 (((tokV s st.p).at_ : Int) + ((tokV s st.p).t.size : Int))), false)]).bind fun m => some (End.ret [(V.str (tokV s st.p).t, false)], m)) =
        some (.ret [(.str (bif st1.c != 0 then (ByteArray.mk #[], st1) else ((tokV s st.p).t, (⟨(tokV s st.p).at_ + (tokV s st.p).t.size, st1.c, st1.a⟩ : RS))).1, false)],
          σ.set r ((bif st1.c != 0 then (ByteArray.mk #[], st1) else ((tokV s st.p).t, (⟨(tokV s st.p).at_ + (tokV s st.p).t.size, st1.c, st1.a⟩ : RS))).2.cells s)) := by
      intro st1 σ1 h1 hp1 hσ
      rw [hw, rset1 h1]
      cases st1.c != 0
      · simp only [cond_false, Option.bind_some]
        rw [hσ, List.set_set]
      · simp only [cond_true]
        rw [hσ]
    simp only [rnext, rnextF, callK_ret3 ht rfl, tok0, tok1, tok2, V.asBool, V.asStr, V.asInt, if_true, Option.bind_some, rnextV]
    have hf := rfail_law h (tokV s st.p).at_
    have hg : (σ.set r ((rfailV st (tokV s st.p).at_).cells s))[r]? = some ((rfailV st (tokV s st.p).at_).cells s) := set_get h
    have e0 : ((tokV s st.p).t.toList == (ByteArray.mk #[]).toList) = isNo (tokV s st.p).t := rfl
    have hfp : (rfailV st (tokV s st.p).at_).p = st.p := by unfold rfailV; cases st.c == 0 <;> rfl
    rw [e0]
    cases hok : (tokV s st.p).ok
    · simp only [Bool.not_false, cond_true, Bool.true_or, callK_ret0 hf, rd2 hg, Option.bind_some, V.asInt, if_true]
      exact fin _ _ hg hfp rfl
    · simp only [Bool.not_true, cond_false, Bool.false_or]
      cases hno : isNo (tokV s st.p).t
      · simp only [cond_false, rd2 h, Option.bind_some, V.asInt, if_true]
        exact fin _ _ h rfl (rset_same h).symm
      · simp only [cond_true, callK_ret0 hf, rd2 hg, Option.bind_some, V.asInt, if_true]
        exact fin _ _ hg hfp rfl
theorem rtake_law {σ : Sto} {r : Nat} {s : ByteArray} {st : RS} (h : σ[r]? = some (st.cells s)) (hs : s.size < 2 ^ 61) (hp : st.p ≤ s.size) (w : ByteArray) :
    lim C 54 [(.ptr 62 r 0, false), (.str w, false)] σ = some (.ret [], σ.set r ((rtakeV s st w).cells s)) :=
  rtake_lim (n := 0) <| by
    obtain ⟨hk1, hk2, hk3⟩ := tokV_ok s hp
    have ht := token_law h hs hp
    have hw : IntKind.wrap .i64 (((tokV s st.p).at_ : Int) + ((tokV s st.p).t.size : Int)) = (((tokV s st.p).at_ + (tokV s st.p).t.size : Nat) : Int) := wrap_add (by omega)
    have fin : ∀ st1 : RS, ∀ σ1 : Sto, σ1[r]? = some (st1.cells s) → σ1 = σ.set r (st1.cells s) →
        (bif st1.c == 0 then
          (memSet σ1 (.ptr 62 r 1) [(.int .i64 (IntKind.wrap .i64 (((tokV s st.p).at_ : Int) + ((tokV s st.p).t.size : Int))), false)]).bind fun m => some (End.ret [], m) else some (End.ret [], σ1)) =
        some (.ret [], σ.set r ((bif st1.c == 0 then (⟨(tokV s st.p).at_ + (tokV s st.p).t.size, st1.c, st1.a⟩ : RS) else st1).cells s)) := by
      intro st1 σ1 h1 hσ
      rw [hw, rset1 h1]
      cases st1.c == 0
      · simp only [cond_false]
        rw [hσ]
      · simp only [cond_true, Option.bind_some]
        rw [hσ, List.set_set]
    simp only [rtake, rtakeF, callK_ret3 ht rfl, tok0, tok1, tok2, V.asBool, V.asStr, V.asInt, if_true, Option.bind_some, rtakeV]
    have hf := rfail_law h (tokV s st.p).at_
    have hg : (σ.set r ((rfailV st (tokV s st.p).at_).cells s))[r]? = some ((rfailV st (tokV s st.p).at_).cells s) := set_get h
    cases hok : (tokV s st.p).ok
    · simp only [Bool.not_false, cond_true, Bool.true_or, callK_ret0 hf, rd2 hg, Option.bind_some, V.asInt, if_true]
      exact fin _ _ hg rfl
    · simp only [Bool.not_true, cond_false, Bool.false_or]
      cases hno : ((tokV s st.p).t.toList == w.toList)
      · simp only [Bool.not_false, cond_true, callK_ret0 hf, rd2 hg, Option.bind_some, V.asInt, if_true]
        exact fin _ _ hg rfl
      · simp only [Bool.not_true, cond_false, rd2 h, Option.bind_some, V.asInt, if_true]
        exact fin _ _ h (rset_same h).symm
theorem isName_law (t : ByteArray) (σ : Sto) : lim C 75 [(.str t, false)] σ = some (.ret [(.bool (isNameV t), false)], σ) :=
  isName_lim (n := 0) <| by
    have e0 : (t.toList == (ByteArray.mk #[]).toList) = isNo t := rfl
    simp only [isName, isNameF, e0, isNameV]
    cases hno : isNo t
    · have := isNo_size hno
      have hz : decide ((0 : Int) < (t.size : Int)) = true := by simp; omega
      have hn := nameByte_law (byteAt t 0) true σ
      simp only [Bool.not_false, cond_true, hz, Int.toNat_zero, callK_ret1 hn, Bool.true_and]
      rfl
    · rfl
theorem rdone_law {σ : Sto} {r : Nat} {s : ByteArray} {st : RS} (h : σ[r]? = some (st.cells s)) (hs : s.size < 2 ^ 61) (hp : st.p ≤ s.size) :
    lim C 25 [(.ptr 62 r 0, false)] σ = some (.ret [(.agg [.int .i64 (rdoneV s st).c, .int .i64 (rdoneV s st).a], false)], σ.set r ((rdoneV s st).cells s)) :=
  rdone_lim (n := 0) <| by
    have ht := token_law h hs hp
    have fin : ∀ st1 : RS, ∀ σ1 : Sto, σ1[r]? = some (st1.cells s) → σ1 = σ.set r (st1.cells s) →
        ((memGet σ1 (V.ptr 62 r 2) true 2).bind fun m => (grd (V.fits m true 2)).bind fun _ => some (End.ret [((V.agg [(V.cell m 0), (V.cell m 1)]), false)], σ1)) =
        some (.ret [(.agg [.int .i64 st1.c, .int .i64 st1.a], false)], σ.set r (st1.cells s)) := by
      intro st1 σ1 h1 hσ
      have : memGet σ1 (V.ptr 62 r 2) true 2 = some (.agg [.int .i64 st1.c, .int .i64 st1.a]) := by simp only [memGet, h1, Option.bind_some]; rfl
      rw [this, hσ]; rfl
    simp only [rdone, rdoneF, callK_ret3 ht rfl, tok0, tok1, tok2, V.asBool, V.asStr, Option.bind_some, rdoneV]
    have hf := rfail_law h (tokV s st.p).at_
    have hg : (σ.set r ((rfailV st (tokV s st.p).at_).cells s))[r]? = some ((rfailV st (tokV s st.p).at_).cells s) := set_get h
    have e0 : ((tokV s st.p).t.toList == (ByteArray.mk #[]).toList) = isNo (tokV s st.p).t := rfl
    rw [e0]
    cases hok : (tokV s st.p).ok
    · simp only [Bool.not_false, cond_true, Bool.true_or, callK_ret0 hf]
      exact fin _ _ hg rfl
    · cases hno : isNo (tokV s st.p).t
      · simp only [Bool.not_true, cond_false, Bool.false_or, Bool.not_false, cond_true, callK_ret0 hf]
        exact fin _ _ hg rfl
      · simp only [Bool.not_true, cond_false, Bool.false_or]
        exact fin _ _ h (rset_same h).symm
end Go.Ab.Mk
end
