/- file.Parse's deferred call, walked; its way with too long a text. -/
import Derived.Test.YtblgboigcpbidaaDoorLvM10
import Derived.Test.YtblgboigcpbidaaDoorLvTa
import Derived.Test.YtblgboigcpbidaaDoorProg
import Derived.Test.YtblgboigcpbidaaDoorAbBl
import Derived.WalkKit
import Derived.Defers
import Derived.Recover
import Derived.Laws.Pointers
import Derived.Laws.Externs
set_option linter.unusedSimpArgs false
set_option linter.unusedVariables false
set_option linter.deprecated false
section
namespace Go.Ab.Mk
open Go.Proofs Go.Ab
open Go.Lib (decDigits)
theorem dd_lt {n : Nat} (h : n < 10) : decDigits n = [UInt8.ofNat (48 + n)] := by rw [decDigits, dif_pos h]
theorem dd_ge {n : Nat} (h : ¬ n < 10) : decDigits n = decDigits (n / 10) ++ [UInt8.ofNat (48 + n % 10)] := by rw [decDigits, dif_neg h]
theorem dig_nat {n : Nat} (h : n < 10) : (UInt8.ofNat (48 + n)).toNat = 48 + n := by rw [UInt8.toNat_ofNat']; omega
theorem dd_digit : ∀ (k n : Nat), n ≤ k → ∀ c ∈ decDigits n, 48 ≤ c.toNat ∧ c.toNat ≤ 57
 | 0, n, h, c, hc => by
  rw [dd_lt (by omega), List.mem_singleton] at hc
  subst hc
  rw [dig_nat (by omega)]; omega
 | k + 1, n, h, c, hc => by
  by_cases hn : n < 10
  ·rw [dd_lt hn, List.mem_singleton] at hc
   subst hc
   rw [dig_nat hn]; omega
  ·rw [dd_ge hn, List.mem_append, List.mem_singleton] at hc
   rcases hc with hc | rfl
   ·exact dd_digit k (n / 10) (by omega) c hc
   ·rw [dig_nat (by omega)]; omega
theorem dd_head : ∀ (k n : Nat), n ≤ k → 0 < n → ∃ c L, decDigits n = c :: L ∧ c.toNat ≠ 48
 | 0, n, h, h0 => by omega
 | k + 1, n, h, h0 => by
  by_cases hn : n < 10
  ·exact ⟨_, [], dd_lt hn, by rw [dig_nat hn]; omega⟩
  ·obtain ⟨c, L, h1, h2⟩ := dd_head k (n / 10) (by omega) (by omega)
   exact ⟨c, L ++ [UInt8.ofNat (48 + n % 10)], by rw [dd_ge hn, h1]; rfl, h2⟩
def listNum (L : List UInt8) (acc : Nat) : Nat := L.foldl (fun a c => 10 * a + (c.toNat - 48)) acc
theorem dd_listNum : ∀ (k n : Nat), n ≤ k → listNum (decDigits n) 0 = n
 | 0, n, h => by rw [dd_lt (by omega)]; simp only [listNum, List.foldl_cons, List.foldl_nil, dig_nat (show n < 10 by omega)]; omega
 | k + 1, n, h => by
  by_cases hn : n < 10
  ·rw [dd_lt hn]; simp only [listNum, List.foldl_cons, List.foldl_nil, dig_nat hn]; omega
  ·have := dd_listNum k (n / 10) (by omega)
   rw [dd_ge hn]
   simp only [listNum, List.foldl_append, List.foldl_cons, List.foldl_nil, dig_nat (show n % 10 < 10 by omega)] at this ⊢
   rw [this]
   omega
theorem byteAt_ba {L : List UInt8} {i : Nat} (h : i < L.length) : byteAt (ba L) i = ((L[i]).toNat : Int) := by simp [byteAt, ba, List.getD, h]
theorem numFrom_list (L : List UInt8) : ∀ (k i acc : Nat), L.length - i = k → numFrom (ba L) i acc = listNum (L.drop i) acc
 | 0, i, acc, hk => by rw [numFrom_end (by rw [ba_size]; omega), List.drop_eq_nil_of_le (by omega)]; rfl
 | k + 1, i, acc, hk => by
  have hi : i < L.length := by omega
  rw [numFrom_go (by rw [ba_size]; omega), numFrom_list L k (i + 1) _ (by omega), List.drop_eq_getElem_cons hi, byteAt_ba hi]
  rfl
theorem numV_dd (n : Nat) : numV (ba (decDigits n)) = n := by
 unfold numV
 rw [numFrom_list _ _ 0 0 rfl, List.drop_zero]
 exact dd_listNum n n (Nat.le_refl _)
theorem isDigit_of {c : UInt8} (h : 48 ≤ c.toNat ∧ c.toNat ≤ 57) : isDigit (c.toNat : Int) = true := by
 simp only [isDigit, Bool.and_eq_true, decide_eq_true_eq]; omega
theorem dd_pos (n : Nat) : 0 < (decDigits n).length := by
 by_cases hn : n < 10
 ·rw [dd_lt hn]; simp
 ·rw [dd_ge hn]; simp
theorem tok_hash {s : ByteArray} {p m : Nat} {Z : List UInt8} (h : At s p (35 :: decDigits m ++ Z)) (hZ : Sep Z) (hm : m < 100000) : tokV s p = ⟨ba (35 :: decDigits m), p, true⟩ := by
 have hlen := dec_digits 4 m (by simpa using hm)
 have hpos := dd_pos m
 have e : byteAt s p = 35 := At.head (Y := decDigits m ++ Z) h
 rw [tok_here (by rw [e]; rfl)]
 have ht : At s (p + 1) (decDigits m ++ Z) := At.tail (Y := decDigits m ++ Z) h
 have hz := ht.size
 rw [List.length_append] at hz
 have bw : ∀ j (hj : j < (decDigits m).length), byteAt s (p + 1 + j) = (((decDigits m)[j]).toNat : Int) := by
  intro j hj
  rw [ht.byte j]
  simp [List.getD, List.getElem?_append_left hj, hj]
 have sc : scan isDigit s (p + 1) = p + 1 + (decDigits m).length := scan_to (by omega) (hZ.stop ht.drop isDigit rfl rfl) _ (p + 1) rfl fun j h1 h2 => by
  have := bw (j - (p + 1)) (by omega)
  rw [show p + 1 + (j - (p + 1)) = j by omega] at this
  rw [this]
  exact isDigit_of (dd_digit m m (Nat.le_refl _) _ (List.getElem_mem _))
 have ex : s.extract p (p + 1 + (decDigits m).length) = ba (35 :: decDigits m) := by
  have := At.ext (A := 35 :: decDigits m) h
  rw [List.length_cons, show p + ((decDigits m).length + 1) = p + 1 + (decDigits m).length by omega] at this
  exact this
 have h48 : (decide ((decDigits m).length > 1) && byteAt s (p + 1) == 48) = false := by
  by_cases hl : (decDigits m).length > 1
  ·have hm0 : 0 < m := by
    rcases Nat.eq_zero_or_pos m with rfl | h0
    ·rw [dd_lt (by omega)] at hl; simp at hl
    ·exact h0
   obtain ⟨c, L, h1, h2⟩ := dd_head m m (Nat.le_refl _) hm0
   have := bw 0 (by omega)
   rw [Nat.add_zero] at this
   rw [this]
   simp only [h1, List.getElem_cons_zero]
   have : ((c.toNat : Int) == 48) = false := by rw [beq_eq_false_iff_ne]; omega
   rw [this, Bool.and_false]
  ·rw [decide_eq_false hl]; rfl
 have c1 : (p + 1 + (decDigits m).length == p + 1) = false := by rw [beq_eq_false_iff_ne]; omega
 have c2 : decide ((decDigits m).length > 5) = false := decide_eq_false (by omega)
 have c3 : p + 1 + (decDigits m).length - (p + 1) = (decDigits m).length := by omega
 unfold tokAt
 rw [ne_end (Y := decDigits m ++ Z) h, e, sc]
 simp only [cond_false, cond_true, numTok, show ((35 : Int) == 40) = false from rfl, show ((35 : Int) == 41) = false from rfl, show nmByte 35 true = false from rfl, show ((35 : Int) == 35) = true from rfl, Bool.true_or, c1, c3, c2, h48, ex]
theorem word_ok {w : List UInt8} (h0 : 0 < w.length) (h1 : w.length ≤ 40) (h2 : nmByte (byteAt (ba w) 0) true = true) (h3 : ∀ i, i < w.length → nmByte (byteAt (ba w) i) false = true) : NameOk (ba w) :=
 ⟨by rw [ba_size]; exact h0, by rw [ba_size]; exact h1, h2, fun i _ hi => h3 i (by rwa [ba_size] at hi)⟩
theorem w_sort : NameOk (ba wsort) := word_ok (by decide) (by decide) rfl (fun i hi => by
 have : i = 0 ∨ i = 1 ∨ i = 2 ∨ i = 3 := by simp only [wsort, List.length_cons, List.length_nil] at hi; omega
 rcases this with rfl | rfl | rfl | rfl <;> rfl)
theorem w_const : NameOk (ba wconst) := word_ok (by decide) (by decide) rfl (fun i hi => by
 have : i = 0 ∨ i = 1 ∨ i = 2 ∨ i = 3 ∨ i = 4 := by simp only [wconst, List.length_cons, List.length_nil] at hi; omega
 rcases this with rfl | rfl | rfl | rfl | rfl <;> rfl)
theorem w_app : NameOk (ba wapp) := word_ok (by decide) (by decide) rfl (fun i hi => by
 have : i = 0 ∨ i = 1 ∨ i = 2 := by simp only [wapp, List.length_cons, List.length_nil] at hi; omega
 rcases this with rfl | rfl | rfl <;> rfl)
theorem w_lam : NameOk (ba wlam) := word_ok (by decide) (by decide) rfl (fun i hi => by
 have : i = 0 ∨ i = 1 ∨ i = 2 := by simp only [wlam, List.length_cons, List.length_nil] at hi; omega
 rcases this with rfl | rfl | rfl <;> rfl)
theorem w_pi : NameOk (ba wpi) := word_ok (by decide) (by decide) rfl (fun i hi => by
 have : i = 0 ∨ i = 1 := by simp only [wpi, List.length_cons, List.length_nil] at hi; omega
 rcases this with rfl | rfl <;> rfl)
theorem w_let : NameOk (ba wlet) := word_ok (by decide) (by decide) rfl (fun i hi => by
 have : i = 0 ∨ i = 1 ∨ i = 2 := by simp only [wlet, List.length_cons, List.length_nil] at hi; omega
 rcases this with rfl | rfl | rfl <;> rfl)
theorem wIx : wordIx (ba wsort) = 1 ∧ wordIx (ba wconst) = 2 ∧ wordIx (ba wapp) = 3 ∧ wordIx (ba wlam) = 4 ∧ wordIx (ba wpi) = 5 ∧ wordIx (ba wlet) = 6 := by
 simp only [wordIx, strIs_ba]
 exact ⟨rfl, rfl, rfl, rfl, rfl, rfl⟩
theorem rname_ok {s : ByteArray} {q p : Nat} {w : List UInt8} {a : Int} (h : tokV s q = ⟨ba w, p, true⟩) (hw : NameOk (ba w)) : rnameV s ⟨q, 0, a⟩ = (ba w, ⟨p + w.length, 0, a⟩) := by
 unfold rnameV
 simp only [h, (nameOk_is hw).1, Bool.not_true, Bool.or_self, cond_false, bne_self_eq_false, ba_size]
theorem lv_tok {s : ByteArray} {p : Nat} {Z : List UInt8} : ∀ {l : Lv}, At s p (printL l ++ Z) → Sep Z → (∀ x ∈ l.pars, NameOk x) → strIs (tokV s p).t [41] = false
 | .zero, h, hZ, _ => by rw [tok_nought h hZ]; exact strIs_ba _ _
 | .param x, h, hZ, hp => by
  have hx : NameOk (ba x.data.toList) := by rw [ba_of]; exact hp x (by simp [Lv.pars])
  rw [tok_word h hx hZ, strIs_ba]
  cases hw : x.data.toList == [41] with
  | false => exact hw
  | true =>
   have := hx.first
   rw [beq_iff_eq.1 hw] at this
   simp [show nmByte (byteAt (ba [41]) 0) true = false from rfl] at this
 | .succ l, h, hZ, _ => by rw [tok_open (Y := ([115, 32] ++ printL l ++ [41] ++ Z)) (by simpa [printL] using h)]; exact strIs_ba _ _
 | .max x y, h, hZ, _ => by rw [tok_open (Y := ([109, 97, 120, 32] ++ printL x ++ [32] ++ printL y ++ [41] ++ Z)) (by simpa [printL] using h)]; exact strIs_ba _ _
 | .imax x y, h, hZ, _ => by rw [tok_open (Y := ([105, 109, 97, 120, 32] ++ printL x ++ [32] ++ printL y ++ [41] ++ Z)) (by simpa [printL] using h)]; exact strIs_ba _ _
theorem sep_lvs (ls : List Lv) (Z : List UInt8) : Sep (lvsL ls ++ 41 :: Z) := by
 cases ls with
 | nil => exact sep_close Z
 | cons l ls => rw [lvsL_cons]; exact sep_blank _
theorem rlvs_rt {s : ByteArray} {a : Int} {Z : List UInt8} : ∀ (ls : List Lv) (n p : Nat), At s p (lvsL ls ++ 41 :: Z) → (∀ l ∈ ls, ∀ x ∈ l.pars, NameOk x) → ls.length < n → rlvsV n s ⟨p, 0, a⟩ = (ls, ⟨p + (lvsL ls).length, 0, a⟩)
 | ls, 0, _, _, _, hn => by omega
 | [], n + 1, p, h, _, _ => by
  rw [rlvsV]
  simp only [tok_close (Y := Z) h, strIs_ba, bne_self_eq_false, cond_false, beq_self_eq_true, cond_true, lvsL_nil, List.length_nil, Nat.add_zero]
 | l :: ls, n + 1, p, h, hp, hn => by
  have h' : At s p (32 :: (printL l ++ (lvsL ls ++ 41 :: Z))) := by
   have : (lvsL (l :: ls) ++ 41 :: Z : List UInt8) = 32 :: (printL l ++ (lvsL ls ++ 41 :: Z)) := by rw [lvsL_cons]; simp
   rw [← this]; exact h
  have hl := hp l (List.mem_cons_self ..)
  have t1 := lv_tok h'.tail (sep_lvs ls Z) hl
  rw [← tok_blank h'] at t1
  have hz := h'.size
  simp only [List.length_cons, List.length_append] at hz
  have h1 := rt l (s.size + 1) (a := a) h'.tail (tok_blank h') (sep_lvs ls Z) hl (by have := size_print l hl; omega)
  have h2 := rlvs_rt (a := a) ls n (p + 1 + (printL l).length) h'.tail.drop (fun m hm => hp m (List.mem_cons_of_mem _ hm)) (by simp at hn; omega)
  rw [rlvsV]
  simp only [bne_self_eq_false, cond_false, t1, h1, h2, lvsL_cons, List.length_append, List.length_cons]
  simp
  omega
structure TOk1 (t : Tm) : Prop where
 top : t.top < 100000
 lv : ∀ l ∈ t.all, ∀ x ∈ l.pars, NameOk x
def Tm.names : Tm → List ByteArray
 | .const s _ => [s]
 | .app a b => a.names ++ b.names
 | .lam a b => a.names ++ b.names
 | .pi a b => a.names ++ b.names
 | .letin a b c => a.names ++ (b.names ++ c.names)
 | _ => []
structure TOk (t : Tm) : Prop where
 top : t.top < 100000
 lv : ∀ l ∈ t.all, ∀ x ∈ l.pars, NameOk x
 names : ∀ x ∈ t.names, NameOk x
theorem rt_headT {s : ByteArray} {q p : Nat} {w Y : List UInt8} {a : Int} (hw : NameOk (ba w)) (hY : Sep Y) (hk : wordIx (ba w) ≠ 0) (h : At s p (40 :: (w ++ Y))) (hq : tokV s q = tokV s p) (n : Nat) :
  rtermV (n + 1) s ⟨q, 0, a⟩ = tmB (rtermV n s) s (wordIx (ba w)) ⟨p + 1 + w.length, 0, a⟩ ∧ At s (p + 1 + w.length) Y := by
 have t0 := hq.trans (tok_open h)
 have hn := rnext_ok (a := a) t0 (by rw [isNo_eq]; rfl)
 have ht := tok_word h.tail hw hY
 have hno : isNo (ba w) = false := by rw [isNo_eq]; simp [nameOk_ne hw]
 have hn2 := rnext_ok (a := a) ht hno
 refine ⟨?_, h.tail.drop⟩
 have hbad : badTok ⟨ba [40], p, true⟩ = false := by
  simp only [badTok, isNo_eq, strIs_ba]
  rfl
 rw [rtermV]
 simp only [t0, hbad, bne_self_eq_false, cond_false, strIs_ba, beq_self_eq_true, cond_true, hn, ba_size, List.length_singleton]
 unfold tmP
 rw [ht]
 simp only [show (wordIx (ba w) == 0) = false by simpa using hk, cond_false, hn2, ba_size]
theorem rtT : ∀ (t : Tm) (n : Nat) {s : ByteArray} {q p : Nat} {Z : List UInt8} {a : Int}, At s p (printT t ++ Z) → tokV s q = tokV s p → Sep Z → TOk t → t.depth < n →
  rtermV n s ⟨q, 0, a⟩ = (t, ⟨p + (printT t).length, 0, a⟩)
 | t, 0, _, _, _, _, _, _, _, _, _, hn => by omega
 | .var m, n + 1, s, q, p, Z, a, h, hq, hZ, ok, hn => by
  have hm : m < 100000 := ok.top
  have t0 := hq.trans (tok_hash h hZ hm)
  have hno : isNo (ba (35 :: decDigits m)) = false := by rw [isNo_eq]; rfl
  have h40 : strIs (ba (35 :: decDigits m)) [40] = false := by rw [strIs_ba]; simp
  have hbad : badTok ⟨ba (35 :: decDigits m), p, true⟩ = false := by
   simp only [badTok, hno, h40]
   rfl
  have hx : (ba (35 :: decDigits m)).extract 1 (ba (35 :: decDigits m)).size = ba (decDigits m) := by
   have h0 : At (ba (35 :: decDigits m)) 1 (decDigits m ++ []) := ⟨[35], by simp, rfl⟩
   have := h0.ext
   rw [ba_size, List.length_cons, Nat.add_comm]
   exact this
  rw [ba_size] at hx
  rw [rtermV]
  simp only [t0, hbad, bne_self_eq_false, cond_false, h40, hx, numV_dd, rnext_ok (a := a) t0 hno, ba_size, printT]
 | .sort l, n + 1, s, q, p, Z, a, h, hq, hZ, ok, hn => by
  have h' : At s p (40 :: (wsort ++ 32 :: (printL l ++ 41 :: Z))) := by
   have : (printT (.sort l) ++ Z : List UInt8) = 40 :: (wsort ++ 32 :: (printL l ++ 41 :: Z)) := by simp [printT, lvsL, ksL]
   rw [← this]; exact h
  obtain ⟨e1, e2⟩ := rt_headT (a := a) w_sort (sep_blank _) (by rw [wIx.1]; decide) h' hq n
  have hl : ∀ x ∈ l.pars, NameOk x := ok.lv l (by simp [Tm.all])
  have hz := e2.size
  simp only [List.length_cons, List.length_append] at hz
  have h3 := rt l (s.size + 1) (a := a) e2.tail (tok_blank e2) (sep_close Z) hl (by have := size_print l hl; omega)
  have h4 := rtake_ok (w := ba [41]) (a := a) (tok_close e2.tail.drop) rfl
  rw [e1, wIx.1]
  simp only [tmB, h3, h4, ba_size]
  simp [printT, lvsL, ksL]
  omega
 | .const x ls, n + 1, s, q, p, Z, a, h, hq, hZ, ok, hn => by
  have key : ∀ w, NameOk (ba w) → At s p (40 :: (wconst ++ 32 :: (w ++ (lvsL ls ++ 41 :: Z)))) → rtermV (n + 1) s ⟨q, 0, a⟩ = (.const (ba w) ls, ⟨p + 1 + wconst.length + 1 + w.length + (lvsL ls).length + 1, 0, a⟩) := by
   intro w hw h'
   obtain ⟨e1, e2⟩ := rt_headT (a := a) w_const (sep_blank _) (by rw [wIx.2.1]; decide) h' hq n
   have t1 := (tok_blank e2).trans (tok_word e2.tail hw (sep_lvs ls Z))
   have h3 := rname_ok (a := a) t1 hw
   have e3 := e2.tail.drop
   have hz := e3.size
   have hlen : ls.length ≤ (lvsL ls).length := by
    clear h e1 e2 e3 hz t1 h3 h' hn ok
    induction ls with
    | nil => simp
    | cons l ls ih => rw [lvsL_cons]; simp only [List.length_cons, List.length_append]; omega
   rw [List.length_append] at hz
   have h4 := rlvs_rt (a := a) ls (s.size + 10) _ e3 (fun l hl => ok.lv l hl) (by omega)
   have h5 := rtake_ok (w := ba [41]) (a := a) (tok_close e3.drop) rfl
   rw [e1, wIx.2.1]
   simp only [tmB, h3, h4, h5, ba_size]
   simp
  have hx : NameOk (ba x.data.toList) := by rw [ba_of]; exact ok.names x (by simp [Tm.names])
  have := key x.data.toList hx (by
   have e : (printT (.const x ls) ++ Z : List UInt8) = 40 :: (wconst ++ 32 :: (x.data.toList ++ (lvsL ls ++ 41 :: Z))) := by simp [printT, ksL]
   rw [← e]; exact h)
  rw [this, ba_of]
  simp [printT, ksL]
  omega
 | .app x y, n + 1, s, q, p, Z, a, h, hq, hZ, ok, hn => by
  have h' : At s p (40 :: (wapp ++ 32 :: (printT x ++ 32 :: (printT y ++ 41 :: Z)))) := by
   have : (printT (.app x y) ++ Z : List UInt8) = 40 :: (wapp ++ 32 :: (printT x ++ 32 :: (printT y ++ 41 :: Z))) := by simp [printT, ksL]
   rw [← this]; exact h
  simp only [Tm.depth] at hn
  have hx : TOk x := ⟨by have := ok.top; simp only [Tm.top] at this; omega, fun l hl => ok.lv l (List.mem_append_left _ hl), fun l hl => ok.names l (List.mem_append_left _ hl)⟩
  have hy : TOk y := ⟨by have := ok.top; simp only [Tm.top] at this; omega, fun l hl => ok.lv l (List.mem_append_right _ hl), fun l hl => ok.names l (List.mem_append_right _ hl)⟩
  obtain ⟨e1, e2⟩ := rt_headT (a := a) w_app (sep_blank _) (by rw [wIx.2.2.1]; decide) h' hq n
  have h3 := rtT x n (a := a) e2.tail (tok_blank e2) (sep_blank _) hx (by omega)
  have h5 := rtT y n (a := a) e2.tail.drop.tail (tok_blank e2.tail.drop) (sep_close Z) hy (by omega)
  have h4 := rtake_ok (w := ba [41]) (a := a) (tok_close e2.tail.drop.tail.drop) rfl
  rw [e1, wIx.2.2.1]
  simp only [tmB, tm2, h3, h5, h4, ba_size]
  simp [printT, ksL]
  omega
 | .lam x y, n + 1, s, q, p, Z, a, h, hq, hZ, ok, hn => by
  have h' : At s p (40 :: (wlam ++ 32 :: (printT x ++ 32 :: (printT y ++ 41 :: Z)))) := by
   have : (printT (.lam x y) ++ Z : List UInt8) = 40 :: (wlam ++ 32 :: (printT x ++ 32 :: (printT y ++ 41 :: Z))) := by simp [printT, ksL]
   rw [← this]; exact h
  simp only [Tm.depth] at hn
  have hx : TOk x := ⟨by have := ok.top; simp only [Tm.top] at this; omega, fun l hl => ok.lv l (List.mem_append_left _ hl), fun l hl => ok.names l (List.mem_append_left _ hl)⟩
  have hy : TOk y := ⟨by have := ok.top; simp only [Tm.top] at this; omega, fun l hl => ok.lv l (List.mem_append_right _ hl), fun l hl => ok.names l (List.mem_append_right _ hl)⟩
  obtain ⟨e1, e2⟩ := rt_headT (a := a) w_lam (sep_blank _) (by rw [wIx.2.2.2.1]; decide) h' hq n
  have h3 := rtT x n (a := a) e2.tail (tok_blank e2) (sep_blank _) hx (by omega)
  have h5 := rtT y n (a := a) e2.tail.drop.tail (tok_blank e2.tail.drop) (sep_close Z) hy (by omega)
  have h4 := rtake_ok (w := ba [41]) (a := a) (tok_close e2.tail.drop.tail.drop) rfl
  rw [e1, wIx.2.2.2.1]
  simp only [tmB, tm2, h3, h5, h4, ba_size]
  simp [printT, ksL]
  omega
 | .pi x y, n + 1, s, q, p, Z, a, h, hq, hZ, ok, hn => by
  have h' : At s p (40 :: (wpi ++ 32 :: (printT x ++ 32 :: (printT y ++ 41 :: Z)))) := by
   have : (printT (.pi x y) ++ Z : List UInt8) = 40 :: (wpi ++ 32 :: (printT x ++ 32 :: (printT y ++ 41 :: Z))) := by simp [printT, ksL]
   rw [← this]; exact h
  simp only [Tm.depth] at hn
  have hx : TOk x := ⟨by have := ok.top; simp only [Tm.top] at this; omega, fun l hl => ok.lv l (List.mem_append_left _ hl), fun l hl => ok.names l (List.mem_append_left _ hl)⟩
  have hy : TOk y := ⟨by have := ok.top; simp only [Tm.top] at this; omega, fun l hl => ok.lv l (List.mem_append_right _ hl), fun l hl => ok.names l (List.mem_append_right _ hl)⟩
  obtain ⟨e1, e2⟩ := rt_headT (a := a) w_pi (sep_blank _) (by rw [wIx.2.2.2.2.1]; decide) h' hq n
  have h3 := rtT x n (a := a) e2.tail (tok_blank e2) (sep_blank _) hx (by omega)
  have h5 := rtT y n (a := a) e2.tail.drop.tail (tok_blank e2.tail.drop) (sep_close Z) hy (by omega)
  have h4 := rtake_ok (w := ba [41]) (a := a) (tok_close e2.tail.drop.tail.drop) rfl
  rw [e1, wIx.2.2.2.2.1]
  simp only [tmB, tm2, h3, h5, h4, ba_size]
  simp [printT, ksL]
  omega
 | .letin x y z, n + 1, s, q, p, Z, a, h, hq, hZ, ok, hn => by
  have h' : At s p (40 :: (wlet ++ 32 :: (printT x ++ 32 :: (printT y ++ 32 :: (printT z ++ 41 :: Z))))) := by
   have : (printT (.letin x y z) ++ Z : List UInt8) = 40 :: (wlet ++ 32 :: (printT x ++ 32 :: (printT y ++ 32 :: (printT z ++ 41 :: Z)))) := by simp [printT, ksL]
   rw [← this]; exact h
  simp only [Tm.depth] at hn
  have hx : TOk x := ⟨by have := ok.top; simp only [Tm.top] at this; omega, fun l hl => ok.lv l (List.mem_append_left _ hl), fun l hl => ok.names l (List.mem_append_left _ hl)⟩
  have hy : TOk y := ⟨by have := ok.top; simp only [Tm.top] at this; omega, fun l hl => ok.lv l (List.mem_append_right _ (List.mem_append_left _ hl)), fun l hl => ok.names l (List.mem_append_right _ (List.mem_append_left _ hl))⟩
  have hz : TOk z := ⟨by have := ok.top; simp only [Tm.top] at this; omega, fun l hl => ok.lv l (List.mem_append_right _ (List.mem_append_right _ hl)), fun l hl => ok.names l (List.mem_append_right _ (List.mem_append_right _ hl))⟩
  obtain ⟨e1, e2⟩ := rt_headT (a := a) w_let (sep_blank _) (by rw [wIx.2.2.2.2.2]; decide) h' hq n
  have h3 := rtT x n (a := a) e2.tail (tok_blank e2) (sep_blank _) hx (by omega)
  have h5 := rtT y n (a := a) e2.tail.drop.tail (tok_blank e2.tail.drop) (sep_blank _) hy (by omega)
  have h6 := rtT z n (a := a) e2.tail.drop.tail.drop.tail (tok_blank e2.tail.drop.tail.drop) (sep_close Z) hz (by omega)
  have h4 := rtake_ok (w := ba [41]) (a := a) (tok_close e2.tail.drop.tail.drop.tail.drop) rfl
  rw [e1, wIx.2.2.2.2.2]
  simp only [tmB, tm3, h3, h5, h6, h4, ba_size]
  simp [printT, ksL]
  omega
theorem depth_print : ∀ t : Tm, t.depth ≤ (printT t).length
 | .var _ => by simp [Tm.depth]
 | .sort _ => by simp [Tm.depth]
 | .const .. => by simp [Tm.depth]
 | .app a b => by have := depth_print a; have := depth_print b; simp only [Tm.depth, printT, ksL, List.length_cons, List.length_append, List.length_nil, List.flatMap_cons, List.flatMap_nil]; omega
 | .lam a b => by have := depth_print a; have := depth_print b; simp only [Tm.depth, printT, ksL, List.length_cons, List.length_append, List.length_nil, List.flatMap_cons, List.flatMap_nil]; omega
 | .pi a b => by have := depth_print a; have := depth_print b; simp only [Tm.depth, printT, ksL, List.length_cons, List.length_append, List.length_nil, List.flatMap_cons, List.flatMap_nil]; omega
 | .letin a b c => by have := depth_print a; have := depth_print b; have := depth_print c; simp only [Tm.depth, printT, ksL, List.length_cons, List.length_append, List.length_nil, List.flatMap_cons, List.flatMap_nil]; omega
theorem rname_named {s : ByteArray} {st : RS} (hc : (rnameV s st).2.c = 0) : NameOk (rnameV s st).1 := by
 unfold rnameV at hc ⊢
 simp only at hc ⊢
 cases hx : (!(tokV s st.p).ok || !isNameV (tokV s st.p).t)
 ·rw [hx] at hc
  simp only [Bool.or_eq_false_iff, Bool.not_eq_false'] at hx
  simp only [cond_false] at hc ⊢
  cases h2 : st.c != 0
  ·simp only [cond_false]
   exact tok_name hx.2
  ·rw [h2] at hc
   simp only [cond_true] at hc
   rw [hc] at h2
   simp at h2
 ·rw [hx] at hc
  simp only [cond_true] at hc
  have hf : ((rfailV st (tokV s st.p).at_).c != 0) = true := by simpa using rfail_c st (tokV s st.p).at_
  rw [hf] at hc
  exact absurd hc (rfail_c _ _)
theorem rlvs_named (s : ByteArray) : ∀ (n : Nat) (st : RS), ∀ l ∈ (rlvsV n s st).1, ∀ x ∈ l.pars, NameOk x
 | 0, st, l, h => by simp [rlvsV] at h
 | n + 1, st, l, h => by
  unfold rlvsV at h
  cases h1 : st.c != 0
  ·rw [h1] at h
   cases h2 : strIs (tokV s st.p).t [41]
   ·rw [h2] at h
    simp only [cond_false] at h
    rcases List.mem_cons.1 h with rfl | h
    ·exact rlevel_named s _ _
    ·exact rlvs_named s n _ l h
   ·rw [h2] at h; simp at h
  ·rw [h1] at h; simp at h
structure Named (t : Tm) : Prop where
 lv : ∀ l ∈ t.all, ∀ x ∈ l.pars, NameOk x
 names : ∀ x ∈ t.names, NameOk x
theorem Named.leaf : Named (.var 0) := ⟨fun l hl => by simp [Tm.all] at hl, fun x hx => by simp [Tm.names] at hx⟩
theorem tm2_named {s : ByteArray} {rec : RS → Tm × RS} {f : Tm → Tm → Tm} (hf : ∀ a b, (f a b).all = a.all ++ b.all ∧ (f a b).names = a.names ++ b.names) {st : RS} (hp : st.p ≤ s.size)
  (hg : ∀ st', Gone s st st' → Goes s st' (rec st').2) (hr : ∀ st', Gone s st st' → (rec st').2.c = 0 → Named (rec st').1) (hc : (tm2 rec s f st).2.c = 0) : Named (tm2 rec s f st).1 := by
 have g0 := Gone.refl hp
 have g1 := hg st g0
 have k1 : Gone s st (rec st).2 := g1.gone
 have g2 := hg _ k1
 have g3 := rtake_gone g2.le (ba [41])
 obtain ⟨c2, _⟩ := g3.ok hc
 obtain ⟨c1, _⟩ := g2.ok c2
 have r1 := hr st g0 c1
 have r2 := hr _ k1 c2
 obtain ⟨f1, f2⟩ := hf (rec st).1 (rec (rec st).2).1
 simp only [tm2]
 refine ⟨fun l hl => ?_, fun l hl => ?_⟩
 ·rw [f1] at hl
  rcases List.mem_append.1 hl with hl | hl
  ·exact r1.lv l hl
  ·exact r2.lv l hl
 ·rw [f2] at hl
  rcases List.mem_append.1 hl with hl | hl
  ·exact r1.names l hl
  ·exact r2.names l hl
theorem rterm_named (s : ByteArray) : ∀ (n : Nat) (st : RS), st.p ≤ s.size → (st.c ≠ 0 ∨ s.size - st.p < n) → (rtermV n s st).2.c = 0 → Named (rtermV n s st).1
 | 0, st, hp, hn, hc => Named.leaf
 | n + 1, st, hp, hn, hc0 => by
  by_cases hc : st.c = 0
  case neg => rw [rterm_stuck hc]; exact Named.leaf
  have hc' : (st.c != 0) = false := by simp [hc]
  have g1 := rnext_goes hp
  simp only [rtermV, hc', cond_false] at hc0 ⊢
  cases hbad : badTok (tokV s st.p)
  case true => exact Named.leaf
  rw [hbad] at hc0
  cases h40 : strIs (tokV s st.p).t [40]
  case false => exact ⟨fun l hl => by simp [Tm.all] at hl, fun x hx => by simp [Tm.names] at hx⟩
  rw [h40] at hc0
  simp only [cond_true, cond_false, tmP] at hc0 ⊢
  cases hw : wordIx (tokV s (rnextV s st).2.p).t == 0
  case true => exact Named.leaf
  rw [hw] at hc0
  have g2 := g1.trans (rnext_goes g1.le).gone
  simp only [cond_false] at hc0 ⊢
  have hn2 : ∀ st', Goes s st st' → st'.c ≠ 0 ∨ s.size - st'.p < n := by
   intro st' h
   by_cases hz : st'.c = 0
   ·have := (h.ok hz).2
    have := h.le
    rcases hn with hn | hn
    ·exact absurd hc hn
    ·right; omega
   ·exact .inl hz
  generalize (rnextV s (rnextV s st).2).2 = st2 at g2 hc0 ⊢
  have hg : ∀ st', Gone s st2 st' → Goes s st' (rtermV n s st').2 := fun st' h => rterm_goes s n st' h.le (hn2 _ (g2.trans h))
  have hr : ∀ st', Gone s st2 st' → (rtermV n s st').2.c = 0 → Named (rtermV n s st').1 := fun st' h h0 => rterm_named s n st' h.le (hn2 _ (g2.trans h)) h0
  unfold tmB at hc0 ⊢
  split at hc0
  ·simp only
   refine ⟨fun l hl => ?_, fun x hx => by simp [Tm.names] at hx⟩
   simp only [Tm.all, List.mem_singleton] at hl
   subst hl
   exact rlevel_named s _ _
  ·have l1 := rname_goes (s := s) g2.le
   have l2 := rlvs_gone s (s.size + 10) _ l1.le
   have g3 := rtake_gone l2.le (ba [41])
   obtain ⟨c2, _⟩ := g3.ok hc0
   obtain ⟨c1, _⟩ := l2.ok c2
   simp only
   refine ⟨fun l hl => rlvs_named s _ _ l hl, fun x hx => ?_⟩
   simp only [Tm.names, List.mem_singleton] at hx
   subst hx
   exact rname_named c1
  ·exact tm2_named (fun a b => ⟨rfl, rfl⟩) g2.le hg hr hc0
  ·exact tm2_named (fun a b => ⟨rfl, rfl⟩) g2.le hg hr hc0
  ·exact tm2_named (fun a b => ⟨rfl, rfl⟩) g2.le hg hr hc0
  ·have g0 := Gone.refl g2.le
   have g1' := hg st2 g0
   have k1 : Gone s st2 (rtermV n s st2).2 := g1'.gone
   have g2' := hg _ k1
   have k2 : Gone s st2 (rtermV n s (rtermV n s st2).2).2 := k1.trans g2'.gone
   have g3' := hg _ k2
   have g4 := rtake_gone g3'.le (ba [41])
   obtain ⟨c3, _⟩ := g4.ok hc0
   obtain ⟨c2, _⟩ := g3'.ok c3
   obtain ⟨c1, _⟩ := g2'.ok c2
   have r1 := hr st2 g0 c1
   have r2 := hr _ k1 c2
   have r3 := hr _ k2 c3
   simp only [tm3]
   refine ⟨fun l hl => ?_, fun l hl => ?_⟩
   ·simp only [Tm.all] at hl
    rcases List.mem_append.1 hl with hl | hl
    ·exact r1.lv l hl
    ·rcases List.mem_append.1 hl with hl | hl
     ·exact r2.lv l hl
     ·exact r3.lv l hl
   ·simp only [Tm.names] at hl
    rcases List.mem_append.1 hl with hl | hl
    ·exact r1.names l hl
    ·rcases List.mem_append.1 hl with hl | hl
     ·exact r2.names l hl
     ·exact r3.names l hl
end Go.Ab.Mk
end
section
namespace Go.Ab
open Mk
structure Dc where
 kind : Nat
 name : ByteArray
 pars : List ByteArray
 type : Tm
 value : Tm
 arity : Nat
 ctors : List (ByteArray × Tm)
def Dc.parsV (d : Dc) : List (List V) := d.pars.map fun s => [.str s]
def Dc.ctorsV (d : Dc) : List (List V) := d.ctors.map fun c => .str c.1 :: c.2.enc
def Dc.enc (d : Dc) : List V := [.int .i64 d.kind, .str d.name, .slice 1 9 d.parsV] ++ d.type.enc ++ d.value.enc ++ [.int .i64 d.arity, .slice 6 63 d.ctorsV]
def Dc.val (d : Dc) : V := .agg d.enc
theorem Dc.enc_len (d : Dc) : d.enc.length = 15 := by
 simp [Dc.enc, Tm.enc_len]
end Go.Ab
end
section
namespace Go.Ab.Mk
open Go.Proofs Go.Ab
open Go.Lib (decDigits)
def waxiom : List UInt8 := [97, 120, 105, 111, 109]
def wdef : List UInt8 := [100, 101, 102]
def winduct : List UInt8 := [105, 110, 100, 117, 99, 116, 105, 118, 101]
def wctor : List UInt8 := [99, 116, 111, 114]
def kwL (k : Nat) : List UInt8 := match k with | 1 => waxiom | 2 => wdef | _ => winduct
def kindIx (t : ByteArray) : Nat := bif strIs t waxiom then 1 else bif strIs t wdef then 2 else bif strIs t winduct then 3 else 0
def rnamesV : Nat → ByteArray → RS → List ByteArray × RS
 | 0, _, st => ([], st)
 | n + 1, s, st =>
  bif st.c != 0 then ([], st) else
  bif strIs (tokV s st.p).t [41] then ([], st) else
  let x := rnameV s st
  let y := rnamesV n s x.2
  (x.1 :: y.1, y.2)
def badAr (k : Tok) : Bool := !k.ok || (isNo k.t || (!(isDigit (byteAt k.t 0)) || decide (k.t.size > 2)))
def rarityV (s : ByteArray) (st : RS) : Nat × RS :=
 bif st.c != 0 then (0, st) else
 bif badAr (tokV s st.p) then (0, rfailV st (tokV s st.p).at_) else (numV (tokV s st.p).t, (rnextV s st).2)
def rctorsV : Nat → ByteArray → RS → List (ByteArray × Tm) × RS
 | 0, _, st => ([], st)
 | n + 1, s, st =>
  bif st.c != 0 then ([], st) else
  bif !strIs (tokV s st.p).t [40] then ([], st) else
  let x := rnameV s (rtakeV s (rtakeV s st (ba [40])) (ba wctor))
  let t := rtermV (s.size + 1) s x.2
  let y := rctorsV n s (rtakeV s t.2 (ba [41]))
  ((x.1, t.1) :: y.1, y.2)
def dTail1 (s nm : ByteArray) (ps : List ByteArray) (st : RS) : Dc × RS :=
 (⟨1, nm, ps, (rtermV (s.size + 1) s st).1, .var 0, 0, []⟩, rtakeV s (rtermV (s.size + 1) s st).2 (ba [41]))
def dTail2 (s nm : ByteArray) (ps : List ByteArray) (st : RS) : Dc × RS :=
 (⟨2, nm, ps, (rtermV (s.size + 1) s st).1, (rtermV (s.size + 1) s (rtermV (s.size + 1) s st).2).1, 0, []⟩, rtakeV s (rtermV (s.size + 1) s (rtermV (s.size + 1) s st).2).2 (ba [41]))
def dTail4 (s nm : ByteArray) (ps : List ByteArray) (ar : Nat) (st : RS) : Dc × RS :=
 (⟨3, nm, ps, (rtermV (s.size + 1) s st).1, .var 0, ar, (rctorsV (s.size + 10) s (rtermV (s.size + 1) s st).2).1⟩, rtakeV s (rctorsV (s.size + 10) s (rtermV (s.size + 1) s st).2).2 (ba [41]))
def dTail3 (s nm : ByteArray) (ps : List ByteArray) (st : RS) : Dc × RS := dTail4 s nm ps (rarityV s st).1 (rarityV s st).2
def dTail (k : Nat) (s nm : ByteArray) (ps : List ByteArray) (st : RS) : Dc × RS := match k with | 1 => dTail1 s nm ps st | 2 => dTail2 s nm ps st | _ => dTail3 s nm ps st
def dNames (k : Nat) (s nm : ByteArray) (ps : List ByteArray) (x : List ByteArray × RS) : Dc × RS := dTail k s nm (ps ++ x.1) (rtakeV s x.2 (ba [41]))
def declK (k : Nat) (s : ByteArray) (st : RS) : Dc × RS := dNames k s (rnameV s st).1 [] (rnamesV (s.size + 10) s (rtakeV s (rnameV s st).2 (ba [40])))
def zeroDc : Dc := ⟨0, ByteArray.mk #[], [], .var 0, .var 0, 0, []⟩
def declW (s : ByteArray) (st : RS) : Dc × RS :=
 bif kindIx (tokV s st.p).t == 0 then (zeroDc, rfailV st (tokV s st.p).at_) else declK (kindIx (tokV s st.p).t) s (rnextV s st).2
def declV (s : ByteArray) (st : RS) : Dc × RS := declW s (rtakeV s st (ba [40]))
def declsV : Nat → ByteArray → RS → List Dc × RS
 | 0, _, st => ([], st)
 | n + 1, s, st =>
  bif st.c != 0 then ([], st) else
  bif (tokV s st.p).ok && isNo (tokV s st.p).t then ([], st) else
  ((declV s st).1 :: (declsV n s (declV s st).2).1, (declsV n s (declV s st).2).2)
def fparseV (s : ByteArray) : List Dc × Int × Int :=
 bif decide ((s.size : Int) > 200000) then ([], 2, 0) else
 bif (declsV (s.size + 2) s ⟨0, 0, 0⟩).2.c != 0 then ([], (declsV (s.size + 2) s ⟨0, 0, 0⟩).2.c, (declsV (s.size + 2) s ⟨0, 0, 0⟩).2.a) else ((declsV (s.size + 2) s ⟨0, 0, 0⟩).1, 0, 0)
theorem rname_stuck {s : ByteArray} {st : RS} (h : st.c ≠ 0) : rnameV s st = (ByteArray.mk #[], st) := by
 have h1 : (st.c == 0) = false := by simpa using h
 have h2 : (st.c != 0) = true := by simpa using h
 have : rfailV st (tokV s st.p).at_ = st := by unfold rfailV; rw [h1]; rfl
 unfold rnameV
 simp only [this]
 cases (!(tokV s st.p).ok || !isNameV (tokV s st.p).t) <;> simp only [cond_true, cond_false, h2]
theorem rnames_stuck {n : Nat} {s : ByteArray} {st : RS} (h : st.c ≠ 0) : rnamesV n s st = ([], st) := by
 cases n with
 | zero => rfl
 | succ n =>
  have h2 : (st.c != 0) = true := by simpa using h
  rw [rnamesV, h2]; rfl
theorem rctors_stuck {n : Nat} {s : ByteArray} {st : RS} (h : st.c ≠ 0) : rctorsV n s st = ([], st) := by
 cases n with
 | zero => rfl
 | succ n =>
  have h2 : (st.c != 0) = true := by simpa using h
  rw [rctorsV, h2]; rfl
theorem rarity_stuck {s : ByteArray} {st : RS} (h : st.c ≠ 0) : rarityV s st = (0, st) := by
 have h2 : (st.c != 0) = true := by simpa using h
 unfold rarityV
 rw [h2]; rfl
theorem dTail4_stuck {s nm : ByteArray} {ps : List ByteArray} {ar : Nat} {st : RS} (h : st.c ≠ 0) : (dTail4 s nm ps ar st).2 = st := by
 unfold dTail4
 rw [rterm_stuck h, rctors_stuck h, rtake_stuck h]
theorem dTail_stuck {k : Nat} {s nm : ByteArray} {ps : List ByteArray} {st : RS} (h : st.c ≠ 0) : (dTail k s nm ps st).2 = st := by
 unfold dTail
 split
 ·unfold dTail1; rw [rterm_stuck h, rtake_stuck h]
 ·unfold dTail2; rw [rterm_stuck h, rterm_stuck h, rtake_stuck h]
 ·unfold dTail3; rw [rarity_stuck h, dTail4_stuck h]
theorem dNames_stuck {k : Nat} {s nm : ByteArray} {ps : List ByteArray} {x : List ByteArray × RS} (h : x.2.c ≠ 0) : (dNames k s nm ps x).2 = x.2 := by
 unfold dNames
 rw [rtake_stuck h, dTail_stuck h]
theorem declK_stuck {k : Nat} {s : ByteArray} {st : RS} (h : st.c ≠ 0) : (declK k s st).2 = st := by
 unfold declK
 rw [rname_stuck h, rtake_stuck h, rnames_stuck h, dNames_stuck h]
theorem rfail_stuck {st : RS} {i : Nat} (h : st.c ≠ 0) : rfailV st i = st := by
 have h1 : (st.c == 0) = false := by simpa using h
 unfold rfailV; rw [h1]; rfl
theorem declW_stuck {s : ByteArray} {st : RS} (h : st.c ≠ 0) : (declW s st).2 = st := by
 unfold declW
 cases kindIx (tokV s st.p).t == 0
 ·rw [cond_false, rnext_stuck h, declK_stuck h]
 ·rw [cond_true, rfail_stuck h]
theorem rnames_gone (s : ByteArray) : ∀ (n : Nat) (st : RS), st.p ≤ s.size → Gone s st (rnamesV n s st).2
 | 0, st, h => Gone.refl h
 | n + 1, st, h => by
  unfold rnamesV
  cases st.c != 0
  ·cases strIs (tokV s st.p).t [41]
   ·exact (rname_goes h).gone.trans (rnames_gone s n _ (rname_goes h).le)
   ·exact Gone.refl h
  ·exact Gone.refl h
theorem rarity_gone {s : ByteArray} {st : RS} (h : st.p ≤ s.size) : Gone s st (rarityV s st).2 := by
 unfold rarityV
 cases st.c != 0
 ·cases badAr (tokV s st.p)
  ·exact (rnext_goes h).gone
  ·exact (rfail_gone h _).gone
 ·exact Gone.refl h
theorem rterm_goes1 {s : ByteArray} {st : RS} (h : st.p ≤ s.size) : Goes s st (rtermV (s.size + 1) s st).2 := rterm_goes s (s.size + 1) st h (.inr (by omega))
theorem rctors_gone (s : ByteArray) : ∀ (n : Nat) (st : RS), st.p ≤ s.size → Gone s st (rctorsV n s st).2
 | 0, st, h => Gone.refl h
 | n + 1, st, h => by
  unfold rctorsV
  cases st.c != 0
  ·cases !strIs (tokV s st.p).t [40]
   ·have g1 := (rtake_gone h (ba [40]))
    have g2 := g1.trans (rtake_gone g1.le (ba wctor))
    have g3 := g2.trans (rname_goes g2.le).gone
    have g4 := g3.trans (rterm_goes1 g3.le).gone
    have g5 := g4.trans (rtake_gone g4.le (ba [41]))
    exact g5.trans (rctors_gone s n _ g5.le)
   ·exact Gone.refl h
  ·exact Gone.refl h
theorem dTail4_gone {s nm : ByteArray} {ps : List ByteArray} {ar : Nat} {st : RS} (h : st.p ≤ s.size) : Goes s st (dTail4 s nm ps ar st).2 := by
 have g1 := rterm_goes1 h
 have g2 := g1.trans (rctors_gone s (s.size + 10) _ g1.le)
 exact g2.trans (rtake_gone g2.le _)
theorem dTail_gone {k : Nat} {s nm : ByteArray} {ps : List ByteArray} {st : RS} (h : st.p ≤ s.size) : Goes s st (dTail k s nm ps st).2 := by
 unfold dTail
 split
 ·have g1 := rterm_goes1 h
  exact g1.trans (rtake_gone g1.le _)
 ·have g1 := rterm_goes1 h
  have g2 := g1.trans (rterm_goes1 g1.le).gone
  exact g2.trans (rtake_gone g2.le _)
 ·have g0 := rarity_gone h
  have g1 := dTail4_gone (nm := nm) (ps := ps) (ar := (rarityV s st).1) g0.le
  exact ⟨g1.le, fun e => ⟨(g0.ok (g1.ok e).1).1, Nat.lt_of_le_of_lt (g0.ok (g1.ok e).1).2 (g1.ok e).2⟩⟩
theorem dNames_gone {k : Nat} {s nm : ByteArray} {ps : List ByteArray} {x : List ByteArray × RS} (h : x.2.p ≤ s.size) : Gone s x.2 (dNames k s nm ps x).2 := by
 have g1 := rtake_gone h (ba [41])
 exact g1.trans (dTail_gone g1.le).gone
theorem declK_goes {k : Nat} {s : ByteArray} {st : RS} (h : st.p ≤ s.size) : Goes s st (declK k s st).2 := by
 have g1 := rname_goes (s := s) h
 have g2 := g1.trans (rtake_gone g1.le (ba [40]))
 have g3 := g2.trans (rnames_gone s (s.size + 10) _ g2.le)
 exact g3.trans (dNames_gone g3.le)
theorem declW_goes {s : ByteArray} {st : RS} (h : st.p ≤ s.size) : Goes s st (declW s st).2 := by
 unfold declW
 cases kindIx (tokV s st.p).t == 0
 ·have g1 := rnext_goes h
  exact g1.trans (declK_goes g1.le).gone
 ·exact rfail_gone h _
theorem declV_goes {s : ByteArray} {st : RS} (h : st.p ≤ s.size) : Goes s st (declV s st).2 := by
 have g0 := rtake_gone h (ba [40])
 have g1 := declW_goes (s := s) g0.le
 exact ⟨g1.le, fun e => ⟨(g0.ok (g1.ok e).1).1, by have := (g0.ok (g1.ok e).1).2; have := (g1.ok e).2; unfold declV at *; omega⟩⟩
def parsL : List ByteArray → List UInt8
 | [] => []
 | x :: xs => x.data.toList ++ xs.flatMap fun y => 32 :: y.data.toList
def ctorL (c : ByteArray × Tm) : List UInt8 := 40 :: (wctor ++ 32 :: (c.1.data.toList ++ 32 :: (printT c.2 ++ [41])))
def ctorsL (cs : List (ByteArray × Tm)) : List UInt8 := cs.flatMap fun c => 32 :: ctorL c
def arL (d : Dc) : List UInt8 := if d.kind = 3 then 32 :: decDigits d.arity else []
def valL (d : Dc) : List UInt8 := if d.kind = 2 then 32 :: printT d.value else []
def prD (d : Dc) : List UInt8 :=
 40 :: (kwL d.kind ++ 32 :: (d.name.data.toList ++ 32 :: 40 :: (parsL d.pars ++ 41 :: (arL d ++ 32 :: (printT d.type ++ (valL d ++ (ctorsL d.ctors ++ [41])))))))
def prF (ds : List Dc) : List UInt8 := ds.flatMap fun d => prD d ++ [10]
structure TFine (t : Tm) : Prop where
 ok : TOk t
 wide : t.wide ≤ 1000000
 ne : ∀ l ∈ t.all, printL l ≠ []
theorem TFine.leaf : TFine (.var 0) := ⟨⟨by simp [Tm.top], fun l hl => by simp [Tm.all] at hl, fun l hl => by simp [Tm.names] at hl⟩, by simp [Tm.wide], fun l hl => by simp [Tm.all] at hl⟩
structure DOk (d : Dc) : Prop where
 kind : d.kind = 1 ∨ d.kind = 2 ∨ d.kind = 3
 name : NameOk d.name
 pars : ∀ x ∈ d.pars, NameOk x
 type : TFine d.type
 value : TFine d.value
 noval : d.kind ≠ 2 → d.value = .var 0
 noind : d.kind ≠ 3 → d.arity = 0 ∧ d.ctors = []
 arity : d.arity < 100
 ctors : ∀ c ∈ d.ctors, NameOk c.1 ∧ TFine c.2
theorem rterm_fine {s : ByteArray} {st : RS} (hs : s.size ≤ 200000) (h : st.p ≤ s.size) (hc : (rtermV (s.size + 1) s st).2.c = 0) :
  TFine (rtermV (s.size + 1) s st).1 ∧ (printT (rtermV (s.size + 1) s st).1).length + 56 * st.p ≤ 56 * (rtermV (s.size + 1) s st).2.p := by
 have r := rterm_read s (s.size + 1) st h (.inr (by omega)) hc
 have n := rterm_named s (s.size + 1) st h (.inr (by omega)) hc
 have g := rterm_goes1 (s := s) h
 have m := r.mass
 have w := wide_mass (rtermV (s.size + 1) s st).1
 have p := print_mass (t := (rtermV (s.size + 1) s st).1) (k := 4) r.top
 have := (g.ok hc).2
 have := g.le
 exact ⟨⟨⟨r.top, n.lv, n.names⟩, by omega, fun l hl => (r.all l hl).1⟩, by omega⟩
theorem flat_len (xs : List ByteArray) : ∀ {n : Nat}, (xs.map fun y : ByteArray => y.size + 1).sum = n → (xs.flatMap fun y : ByteArray => 32 :: y.data.toList).length = n := by
 induction xs with
 | nil => intro n h; simpa using h
 | cons x xs ih =>
  intro n h
  simp only [List.map_cons, List.sum_cons] at h
  have := ih rfl
  have hx : x.data.toList.length = x.size := Array.length_toList
  simp only [List.flatMap_cons, List.length_append, List.length_cons] at this ⊢
  omega
theorem parsL_len (xs : List ByteArray) : (parsL xs).length ≤ (xs.map fun y : ByteArray => y.size + 1).sum := by
 cases xs with
 | nil => simp [parsL]
 | cons x xs =>
  have := flat_len xs rfl
  have hx : x.data.toList.length = x.size := Array.length_toList
  simp only [parsL, List.length_append, List.map_cons, List.sum_cons] at this ⊢
  omega
theorem rnames_read (s : ByteArray) : ∀ (n : Nat) (st : RS), st.p ≤ s.size → (rnamesV n s st).2.c = 0 → (∀ x ∈ (rnamesV n s st).1, NameOk x) ∧ ((rnamesV n s st).1.map fun y : ByteArray => y.size + 1).sum + 2 * st.p ≤ 2 * (rnamesV n s st).2.p
 | 0, st, h, _ => ⟨fun x hx => by simp [rnamesV] at hx, by simp [rnamesV]⟩
 | n + 1, st, h, hc => by
  unfold rnamesV at hc ⊢
  cases h1 : st.c != 0
  ·rw [h1] at hc
   cases h2 : strIs (tokV s st.p).t [41]
   ·rw [h2] at hc
    simp only [cond_false] at hc ⊢
    have g := rname_goes (s := s) h
    obtain ⟨c1, p1⟩ := (rnames_gone s n _ g.le).ok hc
    obtain ⟨i1, i2⟩ := rnames_read s n _ g.le hc
    have r1 := rname_read h c1
    have r2 := (g.ok c1).2
    refine ⟨fun x hx => ?_, ?_⟩
    ·rcases List.mem_cons.1 hx with rfl | hx
     ·exact rname_named c1
     ·exact i1 x hx
    ·simp only [List.map_cons, List.sum_cons]
     omega
   ·exact ⟨fun x hx => by simp at hx, by simp⟩
  ·exact ⟨fun x hx => by simp at hx, by simp⟩
theorem take_read {s : ByteArray} {st : RS} {w : List UInt8} (h : st.p ≤ s.size) (hc : (rtakeV s st (ba w)).c = 0) : st.c = 0 ∧ st.p + w.length ≤ (rtakeV s st (ba w)).p := by
 obtain ⟨_, a⟩ := rtake_p (w := ba w) h
 obtain ⟨a1, a2, a3⟩ := a hc
 have := (tokV_ok s h).ge
 have hz : (tokV s st.p).t.size = w.length := strIs_size (by simpa [strIs] using a2)
 exact ⟨a1, by omega⟩
theorem rctors_read {s : ByteArray} (hs : s.size ≤ 200000) : ∀ (n : Nat) (st : RS), st.p ≤ s.size → (rctorsV n s st).2.c = 0 → (∀ c ∈ (rctorsV n s st).1, NameOk c.1 ∧ TFine c.2) ∧ (ctorsL (rctorsV n s st).1).length + 60 * st.p ≤ 60 * (rctorsV n s st).2.p
 | 0, st, h, _ => ⟨fun x hx => by simp [rctorsV] at hx, by simp [rctorsV, ctorsL]⟩
 | n + 1, st, h, hc => by
  unfold rctorsV at hc ⊢
  cases h1 : st.c != 0
  ·rw [h1] at hc
   cases h2 : !strIs (tokV s st.p).t [40]
   ·rw [h2] at hc
    simp only [cond_false] at hc ⊢
    have g1 := (rtake_gone h (ba [40]))
    have g2 := (rtake_gone g1.le (ba wctor))
    have g3 := (rname_goes (s := s) g2.le)
    have g4 := (rterm_goes1 g3.le)
    have g5 := (rtake_gone g4.le (ba [41]))
    obtain ⟨c5, p5⟩ := (rctors_gone s n _ g5.le).ok hc
    obtain ⟨i1, i2⟩ := rctors_read hs n _ g5.le hc
    obtain ⟨c4, p4⟩ := g5.ok c5
    obtain ⟨c3, p3⟩ := g4.ok c4
    obtain ⟨c2, p2⟩ := g3.ok c3
    obtain ⟨c1, p1⟩ := g2.ok c2
    have k1 := (take_read h c1).2
    have k2 := (take_read g1.le c2).2
    have k3 := rname_read g2.le c3
    obtain ⟨k4, k5⟩ := rterm_fine hs g3.le c4
    refine ⟨fun c hx => ?_, ?_⟩
    ·rcases List.mem_cons.1 hx with rfl | hx
     ·exact ⟨rname_named c3, k4⟩
     ·exact i1 c hx
    ·have hx : (rnameV s (rtakeV s (rtakeV s st (ba [40])) (ba wctor))).1.data.toList.length = (rnameV s (rtakeV s (rtakeV s st (ba [40])) (ba wctor))).1.size := Array.length_toList
     simp only [ctorsL, List.flatMap_cons, List.length_append, List.length_cons, ctorL, List.length_nil] at i2 ⊢
     simp only [List.length_cons, List.length_nil, wctor] at k1 k2 ⊢
     unfold wctor at *
     omega
   ·exact ⟨fun x hx => by simp at hx, by simp [ctorsL]⟩
  ·exact ⟨fun x hx => by simp at hx, by simp [ctorsL]⟩
theorem tok_dig {s : ByteArray} {p : Nat} (hp : p ≤ s.size) (hok : (tokV s p).ok = true) (h0 : isNo (tokV s p).t = false) (hd0 : isDigit (byteAt (tokV s p).t 0) = true) : Digits (tokV s p).t ∧ (1 < (tokV s p).t.size → byteAt (tokV s p).t 0 ≠ 48) := by
  have h1 := le_scan isBlank s p
  have h2 := scan_le (f := isBlank) hp
  unfold tokV at hok h0 hd0 ⊢
  generalize scan isBlank s p = i at h1 h2 hok h0 hd0 ⊢
  by_cases hi : i = s.size
  · have : tokAt s i = ⟨ByteArray.mk #[], i, true⟩ := by unfold tokAt; simp [hi]
    rw [this] at h0; simp [isNo] at h0
  · have hlt : i < s.size := by omega
    have hb : ∀ q, i + 1 ≤ q → q ≤ s.size → byteAt (s.extract i q) 0 = byteAt s i := fun q hq1 hq2 => byteAt_ext (by omega) hq2
    unfold tokAt at hok h0 hd0 ⊢
    have hib : (i == s.size) = false := by simpa using hi
    simp only [hib, cond_false] at hok h0 hd0 ⊢
    cases e40 : byteAt s i == 40
    case true =>
      simp only [e40, cond_true] at hok h0 hd0 ⊢
      rw [hb _ (Nat.le_refl _) (by omega), beq_iff_eq.1 e40] at hd0
      exact absurd hd0 (by decide)
    cases e41 : byteAt s i == 41
    case true =>
      simp only [e40, e41, cond_true, cond_false] at hok h0 hd0 ⊢
      rw [hb _ (Nat.le_refl _) (by omega), beq_iff_eq.1 e41] at hd0
      exact absurd hd0 (by decide)
    simp only [e40, e41, cond_false] at hok h0 hd0 ⊢
    cases enm : nmByte (byteAt s i) true
    case true =>
      simp only [enm, cond_true] at hok h0 hd0 ⊢
      have g1 := le_scan (nmByte · false) s (i + 1)
      have g2 := scan_le (f := (nmByte · false)) (s := s) (i := i + 1) (by omega)
      generalize scan (nmByte · false) s (i + 1) = q at g1 g2 hok h0 hd0 ⊢
      unfold nmTok at hok h0 hd0 ⊢
      cases e : decide (q - i > 40)
      · simp only [e, cond_false] at hok h0 hd0 ⊢
        rw [hb q g1 g2] at hd0
        simp only [nmByte, isLetter, Bool.not_true, Bool.false_and, Bool.or_false, Bool.or_eq_true, Bool.and_eq_true, decide_eq_true_eq, beq_iff_eq] at enm
        simp only [isDigit, Bool.and_eq_true, decide_eq_true_eq] at hd0
        omega
      · simp [e, Tok.no] at hok
    simp only [enm, cond_false] at hok h0 hd0 ⊢
    cases e35 : (byteAt s i == 35 || isDigit (byteAt s i))
    case false => simp [e35, Tok.no] at hok
    simp only [e35, cond_true] at hok h0 hd0 ⊢
    have g1 := le_scan isDigit s (i + 1)
    have g2 := scan_le (f := isDigit) (s := s) (i := i + 1) (by omega)
    have g3 := scan_all (f := isDigit) (s := s) _ (i + 1) rfl
    generalize scan isDigit s (i + 1) = q at g1 g2 g3 hok h0 hd0 ⊢
    simp only [numTok] at hok hd0 h0 ⊢
    have hne : byteAt s i ≠ 35 ∨ byteAt s i = 35 := by omega
    rcases hne with hne | h35
    · have c0 : (byteAt s i == 35) = false := by simpa using hne
      simp only [c0, cond_false] at hok hd0 h0 ⊢
      cases c1 : q == i
      · cases c2 : decide (q - i > 5)
        · cases c3 : (decide (q - i > 1) && byteAt s i == 48)
          · simp only [c1, c2, c3, cond_false] at hok hd0 h0 ⊢
            rw [hb q g1 g2] at hd0
            have hsz : (s.extract i q).size = q - i := by rw [ByteArray.size_extract]; omega
            simp at c1 c2
            refine ⟨⟨by rw [hsz]; omega, by rw [hsz]; omega, fun j hj => ?_⟩, fun h => ?_⟩
            · rw [hsz] at hj
              rw [byteAt_ext (by omega) g2]
              by_cases hj0 : j = 0
              · subst hj0; exact hd0
              · exact g3 _ (by omega) (by omega)
            · rw [hsz] at h
              rw [hb q g1 g2]
              simp only [Bool.and_eq_false_iff, decide_eq_false_iff_not, beq_eq_false_iff_ne] at c3
              rcases c3 with c3 | c3
              · omega
              · exact c3
          · simp [c1, c2, c3, Tok.no] at hok
        · simp [c1, c2, Tok.no] at hok
      · simp [c1, Tok.no] at hok
    · simp only [h35, beq_self_eq_true, cond_true] at hok hd0 h0 ⊢
      cases c1 : q == i + 1
      · cases c2 : decide (q - (i + 1) > 5)
        · cases c3 : (decide (q - (i + 1) > 1) && byteAt s (i + 1) == 48)
          · simp only [c1, c2, c3, cond_false] at hok hd0 h0 ⊢
            rw [hb q g1 g2, h35] at hd0
            exact absurd hd0 (by decide)
          · simp [c1, c2, c3, Tok.no] at hok
        · simp [c1, c2, Tok.no] at hok
      · simp [c1, Tok.no] at hok
theorem numFrom_ge (s : ByteArray) : ∀ (k i acc : Nat), s.size - i = k → acc * 10 ^ k ≤ numFrom s i acc
 | 0, i, acc, hk => by rw [numFrom_end (by omega)]; simp
 | k + 1, i, acc, hk => by
  rw [numFrom_go (by omega)]
  refine Nat.le_trans ?_ (numFrom_ge s k (i + 1) _ (by omega))
  rw [Nat.pow_succ, Nat.mul_comm (10 ^ k) 10, ← Nat.mul_assoc]
  exact Nat.mul_le_mul_right _ (by omega)
theorem num_two {t : ByteArray} (h : Digits t) (h0 : 1 < t.size → byteAt t 0 ≠ 48) : decide (t.size > 2) = decide (numV t > 99) := by
 have h1 := num_lt h t.size 0 0 rfl
 change numV t + 1 ≤ _ at h1
 by_cases hz : t.size > 2
 ·have h2 : numV t = numFrom t 1 ((byteAt t 0).toNat - 48) := by
   unfold numV
   rw [numFrom_go h.pos]
   congr 1
   omega
  have h3 := numFrom_ge t (t.size - 1) 1 ((byteAt t 0).toNat - 48) rfl
  obtain ⟨n, e1, e2, e3⟩ := h.byte (i := 0) h.pos
  have h5 := h0 (by omega)
  rw [e1] at h2 h3 h5
  have h6 : 1 ≤ (n : Int).toNat - 48 := by omega
  have h4 : 10 ^ 2 ≤ 10 ^ (t.size - 1) := Nat.pow_le_pow_right (by omega) (by omega)
  have h7 : 1 * 10 ^ (t.size - 1) ≤ ((n : Int).toNat - 48) * 10 ^ (t.size - 1) := Nat.mul_le_mul_right _ h6
  rw [decide_eq_true hz, decide_eq_true]
  rw [h2]
  omega
 ·have h4 : 10 ^ t.size ≤ 10 ^ 2 := Nat.pow_le_pow_right (by omega) (by omega)
  rw [decide_eq_false hz, decide_eq_false]
  omega
theorem rarity_lt {s : ByteArray} {st : RS} (h : st.p ≤ s.size) : (rarityV s st).1 < 100 := by
 unfold rarityV
 cases st.c != 0
 ·cases hb : badAr (tokV s st.p)
  ·simp only [cond_false]
   unfold badAr at hb
   simp only [Bool.or_eq_false_iff, Bool.not_eq_false'] at hb
   obtain ⟨d1, d2⟩ := tok_dig h hb.1 hb.2.1 hb.2.2.1
   have := num_two d1 d2
   rw [hb.2.2.2] at this
   have := of_decide_eq_false this.symm
   omega
  ·simp
 ·simp
theorem kindIx_le (t : ByteArray) : kindIx t ≤ 3 := by
 unfold kindIx
 cases strIs t waxiom <;> cases strIs t wdef <;> cases strIs t winduct <;> simp
theorem decDigits_two {n : Nat} (h : n < 100) : (decDigits n).length ≤ 2 := dec_digits 1 n (by simpa using h)
theorem kwL_len (k : Nat) : (kwL k).length ≤ 9 := by
 unfold kwL
 split <;> decide
theorem decl_read {s : ByteArray} (hs : s.size ≤ 200000) {st : RS} (h : st.p ≤ s.size) (hc : (declV s st).2.c = 0) : DOk (declV s st).1 ∧ (prD (declV s st).1).length + 60 * st.p ≤ 60 * (declV s st).2.p := by
 unfold declV at hc ⊢
 have g0 := rtake_gone h (ba [40])
 obtain ⟨c0, _⟩ := (declW_goes (s := s) g0.le).ok hc
 have k0 := (take_read h c0).2
 generalize rtakeV s st (ba [40]) = st1 at *
 unfold declW at hc ⊢
 cases hk : kindIx (tokV s st1.p).t == 0
 case true => rw [hk] at hc; exact absurd hc (rfail_c _ _)
 rw [hk] at hc
 simp only [cond_false] at hc ⊢
 have hk0 : kindIx (tokV s st1.p).t ≠ 0 := by simpa using hk
 have hk3 := kindIx_le (tokV s st1.p).t
 have g1 := rnext_goes g0.le
 have hg1 := g1.le
 obtain ⟨c1, _⟩ := (declK_goes (k := kindIx (tokV s st1.p).t) hg1).ok hc
 have k1 := (g1.ok c1).2
 generalize kindIx (tokV s st1.p).t = k at *
 generalize (rnextV s st1).2 = st2 at *
 unfold declK at hc ⊢
 have g2 := rname_goes (s := s) hg1
 have g3 := rtake_gone g2.le (ba [40])
 have g4 := rnames_gone s (s.size + 10) _ g3.le
 obtain ⟨c4, _⟩ := (dNames_gone (k := k) (nm := (rnameV s st2).1) (ps := []) g4.le).ok hc
 obtain ⟨c3, p4⟩ := g4.ok c4
 obtain ⟨c2, p3⟩ := g3.ok c3
 have p2 := (g2.ok c2).2
 have hname := rname_named c2
 have hname2 := rname_read hg1 c2
 have k3 := (take_read g2.le c3).2
 obtain ⟨n1, n2⟩ := rnames_read s (s.size + 10) _ g3.le c4
 have n3 := parsL_len (rnamesV (s.size + 10) s (rtakeV s (rnameV s st2).2 (ba [40]))).1
 have hx : (rnameV s st2).1.data.toList.length = (rnameV s st2).1.size := Array.length_toList
 have hg4 := g4.le
 generalize (rnamesV (s.size + 10) s (rtakeV s (rnameV s st2).2 (ba [40]))) = X at *
 generalize (rnameV s st2).1 = nm at *
 unfold dNames at hc ⊢
 have g5 := rtake_gone hg4 (ba [41])
 obtain ⟨c5, _⟩ := (dTail_gone (k := k) (nm := nm) (ps := [] ++ X.1) g5.le).ok hc
 have k5 := (take_read hg4 c5).2
 have hg5 := g5.le
 rw [List.nil_append] at hc ⊢
 simp only [List.length_singleton] at k0 k3 k5
 generalize rtakeV s X.2 (ba [41]) = st5 at *
 have hkw := kwL_len k
 have case1 : k = 1 ∨ k = 2 ∨ k = 3 := by omega
 rcases case1 with rfl | rfl | rfl
 ·simp only [dTail, dTail1] at hc ⊢
  obtain ⟨c6, k6⟩ := take_read (rterm_goes1 hg5).le hc
  obtain ⟨f1, f2⟩ := rterm_fine hs hg5 c6
  refine ⟨⟨.inl rfl, hname, n1, f1, TFine.leaf, fun _ => rfl, fun _ => ⟨rfl, rfl⟩, by simp, fun c hc => by simp at hc⟩, ?_⟩
  simp only [prD, arL, valL, ctorsL, List.flatMap_nil, List.length_cons, List.length_append, List.length_nil, show (1 : Nat) ≠ 3 by omega, show (1 : Nat) ≠ 2 by omega, if_false] at k6 ⊢
  omega
 ·simp only [dTail, dTail2] at hc ⊢
  obtain ⟨c7, k7⟩ := take_read (rterm_goes1 (rterm_goes1 hg5).le).le hc
  obtain ⟨c6, _⟩ := (rterm_goes1 (rterm_goes1 hg5).le).ok c7
  obtain ⟨f1, f2⟩ := rterm_fine hs hg5 c6
  obtain ⟨f3, f4⟩ := rterm_fine hs (rterm_goes1 hg5).le c7
  have := ((rterm_goes1 hg5).ok c6).2
  refine ⟨⟨.inr (.inl rfl), hname, n1, f1, f3, fun h => absurd rfl h, fun _ => ⟨rfl, rfl⟩, by simp, fun c hc => by simp at hc⟩, ?_⟩
  simp only [prD, arL, valL, ctorsL, List.flatMap_nil, List.length_cons, List.length_append, List.length_nil, show (2 : Nat) ≠ 3 by omega, if_true, if_false] at k7 ⊢
  omega
 ·simp only [dTail, dTail3, dTail4] at hc ⊢
  have ga := rarity_gone hg5
  have ha := rarity_lt (st := st5) hg5
  have gt := rterm_goes1 ga.le
  have gc := rctors_gone s (s.size + 10) _ gt.le
  obtain ⟨c8, k8⟩ := take_read gc.le hc
  obtain ⟨c7, p8⟩ := gc.ok c8
  obtain ⟨c6, p7⟩ := gt.ok c7
  have p6 := (ga.ok c6).2
  obtain ⟨f1, f2⟩ := rterm_fine hs ga.le c7
  obtain ⟨i1, i2⟩ := rctors_read hs (s.size + 10) _ gt.le c8
  have hd2 := decDigits_two ha
  refine ⟨⟨.inr (.inr rfl), hname, n1, f1, TFine.leaf, fun _ => rfl, fun h => absurd rfl h, ha, i1⟩, ?_⟩
  simp only [prD, arL, valL, List.length_cons, List.length_append, List.length_nil, show (3 : Nat) ≠ 2 by omega, if_true, if_false] at k8 ⊢
  omega
theorem decls_read {s : ByteArray} (hs : s.size ≤ 200000) : ∀ (n : Nat) (st : RS), st.p ≤ s.size → (declsV n s st).2.c = 0 → (∀ d ∈ (declsV n s st).1, DOk d) ∧ (prF (declsV n s st).1).length + 61 * st.p ≤ 61 * (declsV n s st).2.p ∧ (declsV n s st).2.p ≤ s.size ∧ st.p ≤ (declsV n s st).2.p ∧ st.c = 0 ∧ (declsV n s st).1.length + st.p ≤ (declsV n s st).2.p
 | 0, st, h, hc => ⟨fun d hd => by simp [declsV] at hd, by simp [declsV, prF], h, Nat.le_refl _, hc, by simp [declsV]⟩
 | n + 1, st, h, hc => by
  unfold declsV at hc ⊢
  cases h1 : st.c != 0
  ·have hc0 : st.c = 0 := by simpa using h1
   rw [h1] at hc
   cases h2 : (tokV s st.p).ok && isNo (tokV s st.p).t
   ·rw [h2] at hc
    simp only [cond_false] at hc ⊢
    have g := declV_goes (s := s) h
    obtain ⟨i1, i2, i3, i4, i5, i6⟩ := decls_read hs n _ g.le hc
    obtain ⟨r1, r2⟩ := decl_read hs h i5
    have := (g.ok i5).2
    refine ⟨fun d hd => ?_, ?_, i3, by omega, hc0, by simp only [List.length_cons]; omega⟩
    ·rcases List.mem_cons.1 hd with rfl | hd
     ·exact r1
     ·exact i1 d hd
    ·simp only [prF, List.flatMap_cons, List.length_append, List.length_cons, List.length_nil] at i2 ⊢
     omega
   ·exact ⟨fun d hd => by simp at hd, by simp [prF], h, Nat.le_refl _, hc0, by simp⟩
  ·rw [h1] at hc
   simp only [cond_true] at hc
   rw [hc] at h1; simp at h1
theorem fparse_read {s : ByteArray} (h : (fparseV s).2.1 = 0) : s.size ≤ 200000 ∧ (∀ d ∈ (fparseV s).1, DOk d) ∧ (prF (fparseV s).1).length ≤ 61 * s.size ∧ (fparseV s).1.length ≤ s.size := by
 unfold fparseV at *
 cases hb : decide ((s.size : Int) > 200000)
 ·rw [hb] at h
  have hb' : s.size ≤ 200000 := by have := of_decide_eq_false hb; omega
  simp only [cond_false] at h ⊢
  cases hd : (declsV (s.size + 2) s ⟨0, 0, 0⟩).2.c != 0
  ·simp only [cond_false]
   obtain ⟨i1, i2, i3, i4, i5, i6⟩ := decls_read hb' (s.size + 2) ⟨0, 0, 0⟩ (by simp) (by simpa using hd)
   refine ⟨hb', i1, ?_, ?_⟩
   ·simp only [Nat.mul_zero, Nat.add_zero] at i2
    omega
   ·simp only [Nat.add_zero] at i6
    omega
  ·rw [hd] at h
   simp only [cond_true] at h
   rw [h] at hd; simp at hd
 ·rw [hb] at h
  simp at h
theorem w_axiom : NameOk (ba waxiom) := word_ok (by decide) (by decide) rfl (fun i hi => by
 have : i = 0 ∨ i = 1 ∨ i = 2 ∨ i = 3 ∨ i = 4 := by simp only [waxiom, List.length_cons, List.length_nil] at hi; omega
 rcases this with rfl | rfl | rfl | rfl | rfl <;> rfl)
theorem w_def : NameOk (ba wdef) := word_ok (by decide) (by decide) rfl (fun i hi => by
 have : i = 0 ∨ i = 1 ∨ i = 2 := by simp only [wdef, List.length_cons, List.length_nil] at hi; omega
 rcases this with rfl | rfl | rfl <;> rfl)
theorem w_ctor : NameOk (ba wctor) := word_ok (by decide) (by decide) rfl (fun i hi => by
 have : i = 0 ∨ i = 1 ∨ i = 2 ∨ i = 3 := by simp only [wctor, List.length_cons, List.length_nil] at hi; omega
 rcases this with rfl | rfl | rfl | rfl <;> rfl)
theorem w_induct : NameOk (ba winduct) := word_ok (by decide) (by decide) rfl (fun i hi => by
 have : i = 0 ∨ i = 1 ∨ i = 2 ∨ i = 3 ∨ i = 4 ∨ i = 5 ∨ i = 6 ∨ i = 7 ∨ i = 8 := by simp only [winduct, List.length_cons, List.length_nil] at hi; omega
 rcases this with rfl | rfl | rfl | rfl | rfl | rfl | rfl | rfl | rfl <;> rfl)
theorem kwL_ok (k : Nat) : NameOk (ba (kwL k)) := by
 unfold kwL
 split
 ·exact w_axiom
 ·exact w_def
 ·exact w_induct
theorem kindIx_kw {k : Nat} (h : k = 1 ∨ k = 2 ∨ k = 3) : kindIx (ba (kwL k)) = k := by
 rcases h with rfl | rfl | rfl <;> (simp only [kindIx, kwL, strIs_ba]; rfl)
theorem tok_digits {s : ByteArray} {p m : Nat} {Z : List UInt8} (h : At s p (decDigits m ++ Z)) (hZ : Sep Z) (hm : m < 100000) : tokV s p = ⟨ba (decDigits m), p, true⟩ := by
 have hlen := dec_digits 4 m (by simpa using hm)
 have hpos := dd_pos m
 have hz := h.size
 rw [List.length_append] at hz
 have bw : ∀ j (hj : j < (decDigits m).length), byteAt s (p + j) = (((decDigits m)[j]).toNat : Int) := by
  intro j hj
  rw [h.byte j]
  simp [List.getD, List.getElem?_append_left hj, hj]
 have dg : ∀ j (hj : j < (decDigits m).length), 48 ≤ (decDigits m)[j].toNat ∧ (decDigits m)[j].toNat ≤ 57 := fun j hj => dd_digit m m (Nat.le_refl _) _ (List.getElem_mem _)
 have e0 := bw 0 hpos
 rw [Nat.add_zero] at e0
 have d0 := dg 0 hpos
 generalize hc : ((decDigits m)[0].toNat : Int) = c at e0
 have d1 : 48 ≤ c ∧ c ≤ 57 := by omega
 have hbl : isBlank c = false := by simp only [isBlank, Bool.or_eq_false_iff, beq_eq_false_iff_ne]; omega
 rw [tok_here (by rw [e0]; exact hbl)]
 have sc : scan isDigit s (p + 1) = p + (decDigits m).length := scan_to (by omega) (hZ.stop h.drop isDigit rfl rfl) ((decDigits m).length - 1) (p + 1) (by omega) fun j h1 h2 => by
  have := bw (j - p) (by omega)
  rw [show p + (j - p) = j by omega] at this
  rw [this]
  exact isDigit_of (dg _ (by omega))
 have ex : s.extract p (p + (decDigits m).length) = ba (decDigits m) := h.ext
 have h48 : (decide ((decDigits m).length > 1) && byteAt s p == 48) = false := by
  by_cases hl : (decDigits m).length > 1
  ·have hm0 : 0 < m := by
    rcases Nat.eq_zero_or_pos m with rfl | h0
    ·rw [dd_lt (by omega)] at hl; simp at hl
    ·exact h0
   obtain ⟨c', L, h1, h2⟩ := dd_head m m (Nat.le_refl _) hm0
   rw [e0, ← hc]
   simp only [h1, List.getElem_cons_zero]
   have : ((c'.toNat : Int) == 48) = false := by rw [beq_eq_false_iff_ne]; omega
   rw [this, Bool.and_false]
  ·rw [decide_eq_false hl]; rfl
 have c1 : (p + (decDigits m).length == p) = false := by rw [beq_eq_false_iff_ne]; omega
 have c2 : decide ((decDigits m).length > 5) = false := decide_eq_false (by omega)
 have c3 : p + (decDigits m).length - p = (decDigits m).length := by omega
 have x1 : (c == 40) = false := by rw [beq_eq_false_iff_ne]; omega
 have x2 : (c == 41) = false := by rw [beq_eq_false_iff_ne]; omega
 have x3 : nmByte c true = false := by
  simp only [nmByte, isLetter, Bool.not_true, Bool.false_and, Bool.or_false, Bool.or_eq_false_iff, Bool.and_eq_false_iff, decide_eq_false_iff_not, beq_eq_false_iff_ne]; omega
 have x4 : isDigit c = true := by simp only [isDigit, Bool.and_eq_true, decide_eq_true_eq]; omega
 have x5 : (c == 35) = false := by rw [beq_eq_false_iff_ne]; omega
 rw [e0] at h48
 unfold tokAt
 rw [show (p == s.size) = false by simp; omega, e0, sc]
 simp only [cond_false, cond_true, Bool.or_true, x1, x2, x3, x4, x5, numTok, c1, c3, c2, e0, h48, ex]
theorem tok_line {s : ByteArray} {p : Nat} {Y : List UInt8} (h : At s p (10 :: Y)) : tokV s p = tokV s (p + 1) := by
 have hz := h.size
 unfold tokV
 rw [scan_go (by simp at hz; omega) (by rw [h.head]; rfl)]
theorem sep_flat (xs : List ByteArray) (Z : List UInt8) : Sep ((xs.flatMap fun y => 32 :: y.data.toList) ++ 41 :: Z) := by
 cases xs with
 | nil => exact sep_close Z
 | cons x xs => exact sep_blank _
theorem rnames_rt {s : ByteArray} {a : Int} {Z : List UInt8} : ∀ (xs : List ByteArray) (n q p : Nat), At s p (parsL xs ++ 41 :: Z) → tokV s q = tokV s p → (∀ x ∈ xs, NameOk x) → xs.length < n →
  ∃ q', rnamesV n s ⟨q, 0, a⟩ = (xs, ⟨q', 0, a⟩) ∧ tokV s q' = ⟨ba [41], p + (parsL xs).length, true⟩
 | xs, 0, _, _, _, _, _, hn => by omega
 | [], n + 1, q, p, h, hq, _, _ => by
  have t := hq.trans (tok_close (Y := Z) h)
  refine ⟨q, ?_, t⟩
  rw [rnamesV]
  simp only [t, strIs_ba, bne_self_eq_false, cond_false, beq_self_eq_true, cond_true]
 | x :: xs, n + 1, q, p, h, hq, hp, hn => by
  have hx : NameOk (ba x.data.toList) := by rw [ba_of]; exact hp x (List.mem_cons_self ..)
  have key : ∀ w, NameOk (ba w) → At s p (w ++ ((xs.flatMap fun y => 32 :: y.data.toList) ++ 41 :: Z)) → ∃ q', rnamesV (n + 1) s ⟨q, 0, a⟩ = (ba w :: xs, ⟨q', 0, a⟩) ∧ tokV s q' = ⟨ba [41], p + (w ++ xs.flatMap fun y => 32 :: y.data.toList).length, true⟩ := by
   intro w hw h'
   have t := hq.trans (tok_word h' hw (sep_flat xs Z))
   have h41 : strIs (ba w) [41] = false := by
    rw [strIs_ba]
    cases hw' : w == [41] with
    | false => rfl
    | true =>
     have := hw.first
     rw [beq_iff_eq.1 hw'] at this
     simp [show nmByte (byteAt (ba [41]) 0) true = false from rfl] at this
   have h1 := rname_ok (a := a) t hw
   have ht := h'.drop
   obtain ⟨q', r1, r2⟩ : ∃ q', rnamesV n s ⟨p + w.length, 0, a⟩ = (xs, ⟨q', 0, a⟩) ∧ tokV s q' = ⟨ba [41], p + (w ++ xs.flatMap fun y => 32 :: y.data.toList).length, true⟩ := by
    cases xs with
    | nil =>
     obtain ⟨q', r1, r2⟩ := rnames_rt (a := a) [] n _ _ ht rfl (fun x hx => by simp at hx) (by simp at hn ⊢; omega)
     exact ⟨q', r1, by rw [r2]; simp [parsL]⟩
    | cons y ys =>
     have ht' : At s (p + w.length) (32 :: (parsL (y :: ys) ++ 41 :: Z)) := by simpa [parsL] using ht
     obtain ⟨q', r1, r2⟩ := rnames_rt (a := a) (y :: ys) n _ _ ht'.tail (tok_blank ht') (fun x hx => hp x (List.mem_cons_of_mem _ hx)) (by simp at hn ⊢; omega)
     refine ⟨q', r1, ?_⟩
     rw [r2]
     simp [parsL]
     omega
   refine ⟨q', ?_, r2⟩
   rw [rnamesV]
   simp only [t, h41, bne_self_eq_false, cond_false, h1, r1]
  obtain ⟨q', r1, r2⟩ := key x.data.toList hx (by simpa [parsL] using h)
  rw [ba_of] at r1
  exact ⟨q', r1, r2⟩
theorem sep_ctors (cs : List (ByteArray × Tm)) (Z : List UInt8) : Sep (ctorsL cs ++ 41 :: Z) := by
 cases cs with
 | nil => exact sep_close Z
 | cons x xs => exact sep_blank _
theorem rtT1 {t : Tm} {s : ByteArray} {q p : Nat} {Z : List UInt8} {a : Int} (h : At s p (printT t ++ Z)) (hq : tokV s q = tokV s p) (hZ : Sep Z) (ok : TOk t) : rtermV (s.size + 1) s ⟨q, 0, a⟩ = (t, ⟨p + (printT t).length, 0, a⟩) :=
 rtT t _ h hq hZ ok (by have := depth_print t; have := h.size; rw [List.length_append] at this; omega)
theorem rctors_rt {s : ByteArray} {a : Int} {Z : List UInt8} : ∀ (cs : List (ByteArray × Tm)) (n p : Nat), At s p (ctorsL cs ++ 41 :: Z) → (∀ c ∈ cs, NameOk c.1 ∧ TFine c.2) → cs.length < n →
  rctorsV n s ⟨p, 0, a⟩ = (cs, ⟨p + (ctorsL cs).length, 0, a⟩)
 | cs, 0, _, _, _, hn => by omega
 | [], n + 1, p, h, _, _ => by
  have t := tok_close (Y := Z) h
  rw [rctorsV]
  simp only [t, strIs_ba, bne_self_eq_false, cond_false, show (([41] : List UInt8) == [40]) = false from rfl, Bool.not_false, cond_true, ctorsL, List.flatMap_nil, List.length_nil, Nat.add_zero]
 | (x, t) :: cs, n + 1, p, h, hp, hn => by
  obtain ⟨hx', ht'⟩ := hp (x, t) (List.mem_cons_self ..)
  simp only at hx' ht'
  have hx : NameOk (ba x.data.toList) := by rw [ba_of]; exact hx'
  have key : ∀ w, NameOk (ba w) → At s p (32 :: 40 :: (wctor ++ 32 :: (w ++ 32 :: (printT t ++ 41 :: (ctorsL cs ++ 41 :: Z))))) → rctorsV (n + 1) s ⟨p, 0, a⟩ = ((ba w, t) :: cs, ⟨p + 1 + 1 + wctor.length + 1 + w.length + 1 + (printT t).length + 1 + (ctorsL cs).length, 0, a⟩) := by
   intro w hw h'
   have t0 := (tok_blank h').trans (tok_open h'.tail)
   have e1 := rtake_ok (w := ba [40]) (a := a) t0 rfl
   have e2 := rtake_ok (w := ba wctor) (a := a) (tok_word h'.tail.tail w_ctor (sep_blank _)) rfl
   have h2 := h'.tail.tail.drop
   have e3 := rname_ok (a := a) ((tok_blank h2).trans (tok_word h2.tail hw (sep_blank _))) hw
   have h3 := h2.tail.drop
   have e4 := rtT1 (a := a) h3.tail (tok_blank h3) (sep_close _) ht'.ok
   have h4 := h3.tail.drop
   have e5 := rtake_ok (w := ba [41]) (a := a) (tok_close h4) rfl
   have h5 := rctors_rt (a := a) cs n _ h4.tail (fun c hc => hp c (List.mem_cons_of_mem _ hc)) (by simp at hn; omega)
   simp only [ba_size, List.length_singleton] at e1 e2 e5
   rw [rctorsV]
   simp only [t0, strIs_ba, bne_self_eq_false, cond_false, beq_self_eq_true, Bool.not_true, e1, e2, e3, e4, e5, h5]
  have := key x.data.toList hx (by simpa [ctorsL, ctorL] using h)
  rw [this, ba_of]
  simp only [Prod.mk.injEq, RS.mk.injEq, and_true, true_and]
  simp [ctorsL, ctorL]
  omega
theorem rarity_rt {s : ByteArray} {p m : Nat} {a : Int} {Z : List UInt8} (h : At s p (32 :: (decDigits m ++ Z))) (hZ : Sep Z) (hm : m < 100) : rarityV s ⟨p, 0, a⟩ = (m, ⟨p + 1 + (decDigits m).length, 0, a⟩) := by
 have t0 := (tok_blank h).trans (tok_digits h.tail hZ (by omega))
 have hno : isNo (ba (decDigits m)) = false := by
  rw [isNo_eq]
  have := dd_pos m
  cases hd : decDigits m with
  | nil => rw [hd] at this; simp at this
  | cons => rfl
 have hd0 : isDigit (byteAt (ba (decDigits m)) 0) = true := by
  rw [byteAt_ba (dd_pos m)]
  exact isDigit_of (dd_digit m m (Nat.le_refl _) _ (List.getElem_mem _))
 have hl := decDigits_two hm
 have hbad : badAr ⟨ba (decDigits m), p + 1, true⟩ = false := by
  unfold badAr
  simp only [hno, hd0, ba_size, Bool.not_true, Bool.false_or, decide_eq_false_iff_not]
  omega
 unfold rarityV
 simp only [t0, hbad, bne_self_eq_false, cond_false, numV_dd, rnext_ok (a := a) t0 hno, ba_size]
theorem rtD {d : Dc} (ok : DOk d) {s : ByteArray} {q p : Nat} {Z : List UInt8} {a : Int} (h : At s p (prD d ++ Z)) (hq : tokV s q = tokV s p) : declV s ⟨q, 0, a⟩ = (d, ⟨p + (prD d).length, 0, a⟩) := by
 have hnm : NameOk (ba d.name.data.toList) := by rw [ba_of]; exact ok.name
 have hlen : d.pars.length ≤ (parsL d.pars).length + 1 := by
  have key : ∀ xs : List ByteArray, xs.length ≤ (xs.flatMap fun y => 32 :: y.data.toList).length := fun xs => by
   induction xs with
   | nil => simp
   | cons x xs ih => simp only [List.flatMap_cons, List.length_append, List.length_cons]; omega
  cases d.pars with
  | nil => simp
  | cons x xs => have := key xs; simp only [parsL, List.length_cons, List.length_append]; omega
 have hclen : d.ctors.length ≤ (ctorsL d.ctors).length := by
  have key : ∀ cs : List (ByteArray × Tm), cs.length ≤ (ctorsL cs).length := fun cs => by
   induction cs with
   | nil => simp
   | cons x xs ih => simp only [ctorsL, List.flatMap_cons, List.length_append, List.length_cons] at ih ⊢; omega
  exact key _
 have h' : At s p (40 :: (kwL d.kind ++ 32 :: (d.name.data.toList ++ 32 :: 40 :: (parsL d.pars ++ 41 :: (arL d ++ 32 :: (printT d.type ++ (valL d ++ (ctorsL d.ctors ++ 41 :: Z)))))))) := by simpa [prD] using h
 have hz := h'.size
 simp only [List.length_cons, List.length_append] at hz
 have t0 := hq.trans (tok_open h')
 have e1 := rtake_ok (w := ba [40]) (a := a) t0 rfl
 have t1 := tok_word h'.tail (kwL_ok d.kind) (sep_blank _)
 have hno : isNo (ba (kwL d.kind)) = false := by rw [isNo_eq]; simp [nameOk_ne (kwL_ok d.kind)]
 have e2 := rnext_ok (a := a) t1 hno
 have h2 := h'.tail.drop
 have e3 := rname_ok (a := a) ((tok_blank h2).trans (tok_word h2.tail hnm (sep_blank _))) hnm
 have h3 := h2.tail.drop
 have e4 := rtake_ok (w := ba [40]) (a := a) ((tok_blank h3).trans (tok_open h3.tail)) rfl
 have h4 := h3.tail.tail
 obtain ⟨q', e5, t5⟩ := rnames_rt (a := a) d.pars (s.size + 10) _ _ h4 rfl ok.pars (by omega)
 have e6 := rtake_ok (w := ba [41]) (a := a) t5 rfl
 have h5 := h4.drop.tail
 simp only [ba_size, List.length_singleton] at e1 e2 e4 e6
 have hk0 : (d.kind == 0) = false := by rw [beq_eq_false_iff_ne]; rcases ok.kind with h | h | h <;> omega
 have hk : kindIx (tokV s (p + 1)).t = d.kind := by rw [t1]; exact kindIx_kw ok.kind
 unfold declV
 rw [e1]
 unfold declW
 simp only [hk, hk0, cond_false, e2]
 unfold declK
 rw [e3]
 simp only [e4, e5]
 unfold dNames
 simp only [List.nil_append, e6, ba_of]
 clear e1 e2 e3 e4 e5 e6 t0 t1 h2 h3 h4 t5 hk
 have hlenD : (prD d).length = 1 + (kwL d.kind).length + 1 + d.name.data.toList.length + 2 + (parsL d.pars).length + 1 + ((arL d).length + 1 + (printT d.type).length + (valL d).length + (ctorsL d.ctors).length + 1) := by
  simp only [prD, List.length_cons, List.length_append, List.length_nil]; omega
 rw [hlenD]
 generalize hP : p + 1 + (kwL d.kind).length + 1 + d.name.data.toList.length + 1 + 1 + (parsL d.pars).length + 1 = P at *
 have hfin : p + (1 + (kwL d.kind).length + 1 + d.name.data.toList.length + 2 + (parsL d.pars).length + 1 + ((arL d).length + 1 + (printT d.type).length + (valL d).length + (ctorsL d.ctors).length + 1)) = P + ((arL d).length + 1 + (printT d.type).length + (valL d).length + (ctorsL d.ctors).length + 1) := by omega
 rw [hfin]
 clear hfin hlenD hP
 obtain ⟨kd, nm, ps, ty, va, ar, cs⟩ := d
 have o1 := ok.noval
 have o2 := ok.noind
 have o3 := ok.type.ok
 have o4 := ok.value.ok
 have o5 := ok.arity
 have o6 := ok.ctors
 simp only at o1 o2 o3 o4 o5 o6 h5 hclen hz ⊢
 rcases ok.kind with hkk | hkk | hkk
 ·simp only at hkk
  subst hkk
  obtain rfl := o1 (by omega)
  obtain ⟨rfl, rfl⟩ := o2 (by omega)
  have h6 : At s P (32 :: (printT ty ++ 41 :: Z)) := by simpa [arL, valL, ctorsL] using h5
  have f1 := rtT1 (a := a) h6.tail (tok_blank h6) (sep_close _) o3
  have f2 := rtake_ok (w := ba [41]) (a := a) (tok_close h6.tail.drop) rfl
  simp only [ba_size, List.length_singleton] at f2
  simp only [dTail, dTail1, f1, f2, Prod.mk.injEq, RS.mk.injEq, true_and, and_true]
  simp [arL, valL, ctorsL]
  omega
 ·simp only at hkk
  subst hkk
  obtain ⟨rfl, rfl⟩ := o2 (by omega)
  have h6 : At s P (32 :: (printT ty ++ 32 :: (printT va ++ 41 :: Z))) := by simpa [arL, valL, ctorsL] using h5
  have f1 := rtT1 (a := a) h6.tail (tok_blank h6) (sep_blank _) o3
  have h7 := h6.tail.drop
  have f3 := rtT1 (a := a) h7.tail (tok_blank h7) (sep_close _) o4
  have f2 := rtake_ok (w := ba [41]) (a := a) (tok_close h7.tail.drop) rfl
  simp only [ba_size, List.length_singleton] at f2
  simp only [dTail, dTail2, f1, f3, f2, Prod.mk.injEq, RS.mk.injEq, true_and, and_true]
  simp [arL, valL, ctorsL]
  omega
 ·simp only at hkk
  subst hkk
  obtain rfl := o1 (by omega)
  have h6 : At s P (32 :: (decDigits ar ++ 32 :: (printT ty ++ (ctorsL cs ++ 41 :: Z)))) := by simpa [arL, valL] using h5
  have f0 := rarity_rt (a := a) h6 (sep_blank _) o5
  have h7 := h6.tail.drop
  have f1 := rtT1 (a := a) h7.tail (tok_blank h7) (sep_ctors _ _) o3
  have h8 := h7.tail.drop
  have f3 := rctors_rt (a := a) cs (s.size + 10) _ h8 o6 (by omega)
  have f2 := rtake_ok (w := ba [41]) (a := a) (tok_close h8.drop) rfl
  simp only [ba_size, List.length_singleton] at f2
  simp only [dTail, dTail3, dTail4, f0, f1, f3, f2, Prod.mk.injEq, RS.mk.injEq, true_and, and_true]
  simp [arL, valL]
  omega
theorem rtF {s : ByteArray} {a : Int} : ∀ (ds : List Dc) (n q p : Nat), At s p (prF ds) → tokV s q = tokV s p → (∀ d ∈ ds, DOk d) → ds.length < n → ∃ p', declsV n s ⟨q, 0, a⟩ = (ds, ⟨p', 0, a⟩)
 | ds, 0, _, _, _, _, _, hn => by omega
 | [], n + 1, q, p, h, hq, _, _ => by
  have t := hq.trans (tok_end h)
  have hno : isNo (ba []) = true := by rw [isNo_eq]; rfl
  refine ⟨q, ?_⟩
  rw [declsV]
  simp only [t, hno, bne_self_eq_false, cond_false, Bool.and_self, cond_true]
 | d :: ds, n + 1, q, p, h, hq, hp, hn => by
  have h' : At s p (prD d ++ 10 :: prF ds) := by simpa [prF] using h
  have t0 : tokV s q = ⟨ba [40], p, true⟩ := hq.trans (tok_open (Y := (kwL d.kind ++ 32 :: (d.name.data.toList ++ 32 :: 40 :: (parsL d.pars ++ 41 :: (arL d ++ 32 :: (printT d.type ++ (valL d ++ (ctorsL d.ctors ++ [41]))))))) ++ 10 :: prF ds) (by simpa [prD] using h'))
  have hno : isNo (ba [40]) = false := by rw [isNo_eq]; rfl
  have e1 := rtD (hp d (List.mem_cons_self ..)) (a := a) h' hq
  have h2 := h'.drop
  obtain ⟨p', e2⟩ := rtF (a := a) ds n (p + (prD d).length) (p + (prD d).length + 1) h2.tail (tok_line h2) (fun x hx => hp x (List.mem_cons_of_mem _ hx)) (by simp at hn; omega)
  refine ⟨p', ?_⟩
  rw [declsV]
  simp only [t0, hno, bne_self_eq_false, cond_false, Bool.and_false, e1, e2]
theorem fparse_print {ds : List Dc} (h : ∀ d ∈ ds, DOk d) (hb : (prF ds).length ≤ 200000) : fparseV (ba (prF ds)) = (ds, 0, 0) := by
 have h0 : At (ba (prF ds)) 0 (prF ds) := ⟨[], by simp, rfl⟩
 have hl : ds.length ≤ (prF ds).length := by
  clear h hb h0
  induction ds with
  | nil => simp
  | cons d ds ih => simp only [prF, List.flatMap_cons, List.length_append, List.length_cons, List.length_nil] at ih ⊢; omega
 obtain ⟨p', e⟩ := rtF (a := 0) ds ((ba (prF ds)).size + 2) 0 0 h0 rfl h (by rw [ba_size]; omega)
 have hz : decide (((ba (prF ds)).size : Int) > 200000) = false := decide_eq_false (by rw [ba_size]; omega)
 unfold fparseV
 rw [hz]
 simp only [cond_false, e, bne_self_eq_false]
end Go.Ab.Mk
end
section
namespace Go.Ab.Mk
open Go.Proofs Go.Ab
def Ends0 (s : ByteArray) (σ : Sto) (r : Nat) (B : Option Res) (st : RS) : Prop :=
 (∃ p, st = ⟨p, 0, 0⟩ ∧ B = some (.ret [], σ.set r ((stepV s p).cells s))) ∨
 (st.c = 1 ∧ ∃ cs, B = some (.pan (.iface 32 (.ptr 34 σ.length 0)), σ.set r cs ++ [fcell 1 st.a]))
section
variable {s : ByteArray} {σ : Sto} {r : Nat}
theorem Ends0.bind {f : FuncId} {args : List Cell} {σ0 : Sto} {y : V} {st : RS} {K : List Cell → Sto → Option Res} {G : RS → RS} (h : Ends0 s σ r (lim C f args σ0) st)
  (hK : ∀ p, st = ⟨p, 0, 0⟩ → Ends s σ r (K [] (σ.set r ((stepV s p).cells s))) y (G st)) (hG : st.c ≠ 0 → G st = st) :
  Ends s σ r (callK (lim C) f args σ0 0 K (fun v σ => some (.pan v, σ))) y (G st) := by
 rcases h with ⟨p, h1, h2⟩ | ⟨h1, cs, h2⟩
 ·rw [callK_ret0 h2]
  exact hK p h1
 ·right
  rw [hG (by rw [h1]; decide)]
  refine ⟨h1, cs, ?_⟩
  rw [callK_panic h2]
theorem ends_take (hs : s.size < 2 ^ 61) (hr : r < σ.length) {p : Nat} (hp : p ≤ s.size) {w : List UInt8} (hw : w ≠ []) (hw0 : w ≠ [0]) :
  Ends0 s σ r (lim C 14 [(.ptr 40 r 0, false), (.str (ba w), false)] (σ.set r ((stepV s p).cells s))) (rtakeV s ⟨p, 0, 0⟩ (ba w)) := by
 rcases stake_law hr hs hp hw hw0 with ⟨_, h2, h3⟩ | ⟨h1, h2⟩
 ·exact .inl ⟨_, h2, h3⟩
 ·exact .inr ⟨h1, _, h2⟩
theorem ends_next (hs : s.size < 2 ^ 61) (hr : r < σ.length) {p : Nat} (hp : p ≤ s.size) (h : (tokV s p).ok = true ∧ isNo (tokV s p).t = false) :
  Ends0 s σ r (lim C 13 [(.ptr 40 r 0, false)] (σ.set r ((stepV s p).cells s))) (rnextV s ⟨p, 0, 0⟩).2 := .inl ⟨_, rnext_at h, step_law' hr hs hp⟩
theorem close_end (hs : s.size < 2 ^ 61) (hr : r < σ.length) {p : Nat} (hp : p ≤ s.size) (y : V) :
  Ends s σ r (callK (lim C) 14 [(.ptr 40 r 0, false), (.str (ba [41]), false)] (σ.set r ((stepV s p).cells s)) 0 (fun _ σ => some (.ret [(y, false)], σ)) (fun v σ => some (.pan v, σ))) y (rtakeV s ⟨p, 0, 0⟩ (ba [41])) :=
 (ends_take hs hr hp (w := [41]) (by simp) (by simp)).bind (G := fun st => st) (fun p' h => .inl ⟨p', h, rfl⟩) (fun _ => rfl)
theorem ends_fail (hr : r < σ.length) {p : Nat} {n : Nat} {K : List Cell → Sto → Option Res} (y : V) :
  Ends s σ r (callK (lim C) 16 [(.ptr 40 r 0, false)] (σ.set r ((stepV s p).cells s)) n K (fun v σ => some (.pan v, σ))) y (rfailV ⟨p, 0, 0⟩ (tokV s p).at_) := by
 have h := sfail_law hr (s := s) (stepV s p)
 rw [step_pos] at h
 rw [callK_panic h]
 exact .inr ⟨by simp [rfailV], (stepV s p).cells s, by simp [rfailV]⟩
theorem ends_read (hs : s.size ≤ 200000) (hr : r < σ.length) {p : Nat} (hp : p ≤ s.size) :
  Ends s σ r (lim C 19 [(.ptr 40 r 0, false)] (σ.set r ((stepV s p).cells s))) (rtermV (s.size + 1) s ⟨p, 0, 0⟩).1.val (rtermV (s.size + 1) s ⟨p, 0, 0⟩).2 := read_law hs (s.size + 1) p σ r hr hp (by omega)
theorem dc_val (k : Nat) (nm : ByteArray) (ps : List ByteArray) (ty va : Tm) (ar : Nat) (cs : List (ByteArray × Tm)) : (Dc.mk k nm ps ty va ar cs).val =
  .agg [.int .i64 k, .str nm, .slice 1 9 (strs ps), .int .i64 ty.kind, .int .i64 ty.num, .str ty.name, .slice 3 76 (ty.lvs.map Lv.enc), .slice 5 45 ty.args,
   .int .i64 va.kind, .int .i64 va.num, .str va.name, .slice 3 76 (va.lvs.map Lv.enc), .slice 5 45 va.args, .int .i64 ar, .slice 6 63 (cs.map fun c => .str c.1 :: c.2.enc)] := by
 simp [Dc.val, Dc.enc, Tm.enc_eq, Dc.parsV, Dc.ctorsV, strs]
theorem tm_fits5 (t : Tm) : V.fits t.val true 5 = true := rfl
theorem str_fits (b : ByteArray) : V.fits (.str b) false 1 = true := rfl
theorem int_fits (k : IntKind) (b : Int) : V.fits (.int k b) false 1 = true := rfl
variable {N : Nat} {t0 : Int} {t1 : ByteArray} {t2 : List (List V)} {t3 t4 : Int} {t5 : ByteArray} {t6 t7 : List (List V)} {t8 t9 : Int} {t10 : ByteArray} {t11 t12 : List (List V)} {t13 : Int} {t14 : List (List V)}
theorem ctors_run (hs : s.size ≤ 200000) (hr : r < σ.length) {nm : ByteArray} {ps : List ByteArray} {ty va : Tm} {ar : Nat} : ∀ (m : Nat) (cs : List (ByteArray × Tm)) (p : Nat), p ≤ s.size → cs.length + (s.size - p) ≤ 200000 → s.size - p < m →
  Ends s σ r (freadl1 (lim C) N m r t0 t1 t2 t3 t4 t5 t6 t7 t8 t9 t10 t11 t12 t13 t14 3 (.str nm) (strs ps) (.int .i64 ty.kind) (.int .i64 ty.num) (.str ty.name) (.slice 3 76 (ty.lvs.map Lv.enc)) (.slice 5 45 ty.args) va.kind va.num va.name (va.lvs.map Lv.enc) va.args (.int .i64 ar) (cs.map fun c => .str c.1 :: c.2.enc) (σ.set r ((stepV s p).cells s)))
   (Dc.mk 3 nm ps ty va ar (cs ++ (rctorsV m s ⟨p, 0, 0⟩).1)).val (rtakeV s (rctorsV m s ⟨p, 0, 0⟩).2 (ba [41]))
 | 0, _, _, _, _, hm => by omega
 | m + 1, cs, p, hp, hb, hm => by
  have hs' : s.size < 2 ^ 61 := by omega
  show Ends s σ r (freads1 (lim C) (freadl1 (lim C) N m) r _ _ _ _ _ _ _ _ _ _ _ _ _ _ _ _ _ _ _ _ _ _ _ _ _ _ _ _ _ _ _) _ _
  unfold freads1
  have e40 : ∀ t : ByteArray, (t.toList == (ByteArray.mk #[40]).toList) = strIs t [40] := fun _ => rfl
  have e41 : ByteArray.mk #[41] = ba [41] := rfl
  have ec : ByteArray.mk #[99, 116, 111, 114] = ba wctor := rfl
  have tk := stepTok hp (w := [40]) (by simp) (by simp)
  simp only [sg2 hr, Option.bind_some, V.asStr, e40, tk, rctorsV, bne_self_eq_false, cond_false, e41, ec]
  cases h3 : strIs (tokV s p).t [40]
  case false =>
   simp only [Bool.not_false, cond_false, cond_true, List.append_nil]
   rw [dc_val]
   exact close_end hs' hr hp _
  simp only [Bool.not_true, cond_true, cond_false]
  have hok := strIs_ok hp (w := [40]) (by simp) h3
  have hnx : rtakeV s ⟨p, 0, 0⟩ (ba [40]) = (rnextV s ⟨p, 0, 0⟩).2 := by
   rcases stake_law hr hs' hp (w := [40]) (by simp) (by simp) with ⟨_, h2, _⟩ | ⟨h1, _⟩
   ·rw [h2, rnext_at hok]
   ·have h4 : ((tokV s p).t.toList == (ba [40]).toList) = true := h3
    unfold rtakeV at h1
    simp [hok.1, h4] at h1
  rw [hnx]
  have g0 := rnext_goes (s := s) (st := ⟨p, 0, 0⟩) hp
  refine (ends_next hs' hr hp hok).bind (G := fun st => rtakeV s (rctorsV m s (rtakeV s (rtermV (s.size + 1) s (rnameV s (rtakeV s st (ba wctor))).2).2 (ba [41]))).2 (ba [41])) (fun q hq => ?_) (fun hc => by rw [rtake_stuck hc, rname_stuck hc, rterm_stuck hc, rtake_stuck hc, rctors_stuck hc, rtake_stuck hc])
  rw [hq] at g0 ⊢
  have hlt := (g0.ok rfl).2
  simp only at hlt
  clear hq hnx
  have g1 := rtake_gone (s := s) (st := ⟨q, 0, 0⟩) g0.le (ba wctor)
  refine (ends_take hs' hr g0.le (w := wctor) (by decide) (by decide)).bind (G := fun st => rtakeV s (rctorsV m s (rtakeV s (rtermV (s.size + 1) s (rnameV s st).2).2 (ba [41]))).2 (ba [41])) (fun q1 hq => ?_) (fun hc => by rw [rname_stuck hc, rterm_stuck hc, rtake_stuck hc, rctors_stuck hc, rtake_stuck hc])
  rw [hq] at g1 ⊢
  have hl1 := (g1.ok rfl).2
  have hle1 := g1.le
  simp only at hl1 hle1
  clear hq g1
  have g2 := rname_goes (s := s) (st := ⟨q1, 0, 0⟩) hle1
  refine (ends_name hs' hr hle1).bind (G := fun st => rtakeV s (rctorsV m s (rtakeV s (rtermV (s.size + 1) s st).2 (ba [41]))).2 (ba [41])) (fun q2 hq => ?_) (fun hc => by rw [rterm_stuck hc, rtake_stuck hc, rctors_stuck hc, rtake_stuck hc])
  generalize (rnameV s ⟨q1, 0, 0⟩).1 = nm1
  rw [hq] at g2 ⊢
  have hl2 := (g2.ok rfl).2
  have hle2 := g2.le
  simp only at hl2 hle2
  clear hq g2
  have g3 := rterm_goes1 (s := s) (st := ⟨q2, 0, 0⟩) hle2
  refine (ends_read hs hr hle2).bind (G := fun st => rtakeV s (rctorsV m s (rtakeV s st (ba [41]))).2 (ba [41])) (fun q3 hq => ?_) (fun hc => by rw [rtake_stuck hc, rctors_stuck hc, rtake_stuck hc])
  generalize (rtermV (s.size + 1) s ⟨q2, 0, 0⟩).1 = ty1
  rw [hq] at g3 ⊢
  have hl3 := (g3.ok rfl).2
  have hle3 := g3.le
  simp only at hl3 hle3
  clear hq g3
  have hroom : room (List.length (List.map (fun c : ByteArray × Tm => V.str c.1 :: c.2.enc) cs) + 1) = true := room_ok (by simp; omega)
  simp only [List.getD_cons_zero, str_fits, tm_fits5, Bool.and_true, grd, cond_true, Option.bind_some, hroom]
  have g4 := rtake_gone (s := s) (st := ⟨q3, 0, 0⟩) hle3 (ba [41])
  refine (ends_take hs' hr hle3 (w := [41]) (by simp) (by simp)).bind (G := fun st => rtakeV s (rctorsV m s st).2 (ba [41])) (fun q4 hq => ?_) (fun hc => by rw [rctors_stuck hc, rtake_stuck hc])
  rw [hq] at g4 ⊢
  have hl4 := (g4.ok rfl).2
  have hle4 := g4.le
  simp only at hl4 hle4
  clear hq g4
  have ih := ctors_run hs hr (nm := nm) (ps := ps) (ty := ty) (va := va) (ar := ar) m (cs ++ [(nm1, ty1)]) q4 hle4 (by simp; omega) (by omega)
  have em : List.map (fun c : ByteArray × Tm => V.str c.1 :: c.2.enc) cs ++ [[V.str nm1, V.cell ty1.val 0, V.cell ty1.val 1, V.cell ty1.val 2, V.cell ty1.val 3, V.cell ty1.val 4]] = List.map (fun c : ByteArray × Tm => V.str c.1 :: c.2.enc) (cs ++ [(nm1, ty1)]) := by
   rw [List.map_append, List.map_cons, List.map_nil, ty1.enc_eq]
   rfl
  rw [em]
  rw [List.append_assoc] at ih
  exact ih
theorem tok_first {s : ByteArray} {p : Nat} (hp : p ≤ s.size) (h0 : isNo (tokV s p).t = false) : ∃ b, byteAt (tokV s p).t 0 = b ∧ (b = 40 ∨ b = 41 ∨ nmByte b true = true ∨ b = 35 ∨ isDigit b = true) := by
  have h1 := le_scan isBlank s p
  have h2 := scan_le (f := isBlank) hp
  unfold tokV at h0 ⊢
  generalize scan isBlank s p = i at h1 h2 h0 ⊢
  have hno : ∀ j, isNo (Tok.no j).t = true := fun j => by simp [Tok.no, isNo]
  by_cases hi : i = s.size
  · have : tokAt s i = ⟨ByteArray.mk #[], i, true⟩ := by unfold tokAt; simp [hi]
    rw [this] at h0; simp [isNo] at h0
  · have hlt : i < s.size := by omega
    have hb : ∀ q, i + 1 ≤ q → q ≤ s.size → byteAt (s.extract i q) 0 = byteAt s i := fun q hq1 hq2 => byteAt_ext (by omega) hq2
    refine ⟨byteAt s i, ?_⟩
    unfold tokAt at h0 ⊢
    have hib : (i == s.size) = false := by simpa using hi
    simp only [hib, cond_false] at h0 ⊢
    cases e40 : byteAt s i == 40
    case true => exact ⟨hb _ (Nat.le_refl _) (by omega), .inl (beq_iff_eq.1 e40)⟩
    cases e41 : byteAt s i == 41
    case true => exact ⟨hb _ (Nat.le_refl _) (by omega), .inr (.inl (beq_iff_eq.1 e41))⟩
    simp only [e40, e41, cond_false] at h0 ⊢
    cases enm : nmByte (byteAt s i) true
    case true =>
      simp only [enm, cond_true] at h0 ⊢
      have g1 := le_scan (nmByte · false) s (i + 1)
      have g2 := scan_le (f := (nmByte · false)) (s := s) (i := i + 1) (by omega)
      generalize scan (nmByte · false) s (i + 1) = q at g1 g2 h0 ⊢
      unfold nmTok at h0 ⊢
      cases e : decide (q - i > 40)
      · simp only [cond_false]
        exact ⟨hb q g1 g2, .inr (.inr (.inl trivial))⟩
      · rw [e, cond_true, hno] at h0; simp at h0
    simp only [enm, cond_false] at h0 ⊢
    cases e35 : (byteAt s i == 35 || isDigit (byteAt s i))
    case false => rw [e35, cond_false, hno] at h0; simp at h0
    simp only [e35, cond_true] at h0 ⊢
    have g1 := le_scan isDigit s (i + 1)
    have g2 := scan_le (f := isDigit) (s := s) (i := i + 1) (by omega)
    generalize scan isDigit s (i + 1) = q at g1 g2 h0 ⊢
    have hfin : byteAt s i = 35 ∨ isDigit (byteAt s i) = true := by simpa using e35
    simp only [numTok] at h0 ⊢
    generalize (bif byteAt s i == 35 then i + 1 else i) = d at h0 ⊢
    cases c1 : q == d
    · cases c2 : decide (q - d > 5)
      · cases c3 : (decide (q - d > 1) && byteAt s d == 48)
        · simp only [cond_false]
          exact ⟨hb q g1 g2, .inr (.inr (.inr hfin))⟩
        · rw [c1, c2, c3, cond_false, cond_false, cond_true, hno] at h0; simp at h0
      · rw [c1, c2, cond_false, cond_true, hno] at h0; simp at h0
    · rw [c1, cond_true, hno] at h0; simp at h0
theorem atoi_none {t : ByteArray} (ht : t.size ≤ 1000000) (h : t.size = 0 ∨ (isDigit (byteAt t 0) = false ∧ byteAt t 0 ≠ 43 ∧ byteAt t 0 ≠ 45)) (σ : Sto) : ∃ e, lim C 18 [(.str t, false)] σ = some (.ret [(.int .i64 0, false), (.iface e .any, false)], σ) := by
 have key : Go.Lib.atoiAll t.data.toList = Go.Lib.atoiAll [] := by
  cases hL : t.data.toList with
  | nil => rfl
  | cons c L =>
   have hz : t.size ≠ 0 := by
    have : t.data.toList.length = t.size := Array.length_toList
    rw [hL] at this; simp at this; omega
   obtain ⟨h1, h2, h3⟩ := h.resolve_left hz
   have hb : byteAt t 0 = (c.toNat : Int) := by rw [byteAt_get (by omega)]; simp [hL]
   rw [hb] at h1 h2 h3
   simp only [isDigit, Bool.and_eq_false_iff, decide_eq_false_iff_not] at h1
   have c1 : ¬ (c.toNat = 43 ∨ c.toNat = 45) := by omega
   have c2 : ¬ (48 ≤ c.toNat ∧ c.toNat ≤ 57) := by omega
   unfold Go.Lib.atoiAll
   simp only [if_neg c1]
   have hm : Go.Lib.parseMag (c :: L) = Go.Lib.parseMag [] := by
    unfold Go.Lib.parseMag
    rw [if_neg (by simp), if_pos rfl]
    simp only [Go.Lib.parseUint10, if_neg c2]
   rw [hm]
   rfl
 refine ⟨85, lim_ext (s := atoiA) (by kernel_rfl) ?_⟩
 simp only [atoiA, atoiR, key]
 rw [if_pos (by omega)]
 rfl
theorem arity_atoi {s : ByteArray} {p : Nat} (hs : s.size ≤ 200000) (hp : p ≤ s.size) (σ : Sto) :
  (badAr (tokV s p) = false ∧ (tokV s p).ok = true ∧ isNo (tokV s p).t = false ∧ numV (tokV s p).t ≤ 99 ∧ lim C 18 [(.str (stepV s p).tok, false)] σ = some (.ret [(.int .i64 (numV (tokV s p).t), false), (.nilIface, false)], σ)) ∨
  (badAr (tokV s p) = true ∧ ((∃ e, lim C 18 [(.str (stepV s p).tok, false)] σ = some (.ret [(.int .i64 0, false), (.iface e .any, false)], σ)) ∨
   ∃ n : Nat, 99 < n ∧ lim C 18 [(.str (stepV s p).tok, false)] σ = some (.ret [(.int .i64 n, false), (.nilIface, false)], σ))) := by
 have hsz := (tokV_ok s hp).le
 cases hok : (tokV s p).ok
 ·refine .inr ⟨by simp [badAr, hok], .inl ?_⟩
  have : (stepV s p).tok = ByteArray.mk #[0] := by unfold stepV stepOf; rw [hok]; rfl
  rw [this]
  exact atoi_none (by decide) (.inr ⟨rfl, by decide, by decide⟩) σ
 rw [step_tok hok]
 cases hno : isNo (tokV s p).t
 ·obtain ⟨b, hb, hbb⟩ := tok_first hp hno
  cases hd : isDigit b
  ·refine .inr ⟨by simp [badAr, hok, hno, hb, hd], .inl (atoi_none (by omega) (.inr ⟨by rw [hb]; exact hd, ?_⟩) σ)⟩
   rw [hb]
   rcases hbb with h | h | h | h | h
   ·omega
   ·omega
   ·simp only [nmByte, isLetter, Bool.not_true, Bool.false_and, Bool.or_false, Bool.or_eq_true, Bool.and_eq_true, decide_eq_true_eq, beq_iff_eq] at h
    omega
   ·omega
   ·rw [hd] at h; simp at h
  ·obtain ⟨d1, d2⟩ := tok_dig hp hok hno (by rw [hb]; exact hd)
   have h2 := num_two d1 d2
   have ha := atoi_law d1 σ
   by_cases h99 : numV (tokV s p).t > 99
   ·rw [decide_eq_true h99] at h2
    exact .inr ⟨by simp [badAr, hok, hno, hb, hd, h2], .inr ⟨_, h99, ha⟩⟩
   ·rw [decide_eq_false h99] at h2
    refine .inl ⟨?_, rfl, rfl, by omega, ha⟩
    unfold badAr
    rw [hok, hno, hb, hd, h2]
    rfl
 ·refine .inr ⟨by simp [badAr, hno], .inl (atoi_none (by omega) (.inl ?_) σ)⟩
  simp only [isNo, beq_iff_eq] at hno
  rw [ByteArray.toList_eq, ByteArray.toList_eq] at hno
  have : (tokV s p).t.data.toList.length = (tokV s p).t.size := Array.length_toList
  rw [hno] at this
  exact this.symm
theorem names_run (hs : s.size ≤ 200000) (hr : r < σ.length) {nm : ByteArray} {k : Nat} (hk : k = 1 ∨ k = 2 ∨ k = 3) (hN : N = s.size + 10) : ∀ (m : Nat) (ps : List ByteArray) (p : Nat), p ≤ s.size → ps.length + (s.size - p) ≤ 200000 → s.size - p < m →
  Ends s σ r (freadl0 (lim C) N m r t0 t1 t2 t3 t4 t5 t6 t7 t8 t9 t10 t11 t12 t13 t14 k (.str nm) (strs ps) 0 0 (ByteArray.mk #[]) [] [] 0 0 (ByteArray.mk #[]) [] [] 0 [] (σ.set r ((stepV s p).cells s)))
   (dNames k s nm ps (rnamesV m s ⟨p, 0, 0⟩)).1.val (dNames k s nm ps (rnamesV m s ⟨p, 0, 0⟩)).2
 | 0, _, _, _, _, hm => by omega
 | m + 1, ps, p, hp, hb, hm => by
  have hs' : s.size < 2 ^ 61 := by omega
  show Ends s σ r (freads0 (lim C) (freadl1 (lim C) N N) (freadl0 (lim C) N m) r _ _ _ _ _ _ _ _ _ _ _ _ _ _ _ _ _ _ _ _ _ _ _ _ _ _ _ _ _ _ _) _ _
  unfold freads0
  have e41' : ∀ t : ByteArray, (t.toList == (ba [41]).toList) = strIs t [41] := fun _ => rfl
  have e41 : ByteArray.mk #[41] = ba [41] := rfl
  have tk := stepTok hp (w := [41]) (by simp) (by simp)
  simp only [sg2 hr, Option.bind_some, V.asStr, e41', tk, rnamesV, bne_self_eq_false, cond_false, e41]
  cases h3 : strIs (tokV s p).t [41]
  case false =>
   simp only [Bool.not_false, cond_true, cond_false]
   have g2 := rname_goes (s := s) (st := ⟨p, 0, 0⟩) hp
   refine (ends_name hs' hr hp).bind (G := fun st => (dNames k s nm ps ((rnameV s ⟨p, 0, 0⟩).1 :: (rnamesV m s st).1, (rnamesV m s st).2)).2) (fun q hq => ?_) (fun hc => by rw [rnames_stuck hc]; exact dNames_stuck hc)
   generalize (rnameV s ⟨p, 0, 0⟩).1 = nm1
   rw [hq] at g2 ⊢
   have hl2 := (g2.ok rfl).2
   have hle2 := g2.le
   simp only at hl2 hle2
   have hroom : room (List.length (strs ps) + 1) = true := room_ok (by rw [strs_length]; omega)
   simp only [List.getD_cons_zero, str_fits, Bool.and_true, grd, cond_true, Option.bind_some, hroom]
   have ih := names_run hs hr (nm := nm) hk hN m (ps ++ [nm1]) q hle2 (by simp; omega) (by omega)
   have em : strs ps ++ [[V.str nm1]] = strs (ps ++ [nm1]) := by simp [strs]
   rw [em]
   have e2 : ∀ x : List ByteArray × RS, dNames k s nm (ps ++ [nm1]) x = dNames k s nm ps (nm1 :: x.1, x.2) := fun x => by unfold dNames; simp
   rw [e2] at ih
   exact ih
  simp only [Bool.not_true, cond_false, cond_true]
  have hok := strIs_ok hp (w := [41]) (by simp) h3
  have hnx : rtakeV s ⟨p, 0, 0⟩ (ba [41]) = (rnextV s ⟨p, 0, 0⟩).2 := by
   rcases stake_law hr hs' hp (w := [41]) (by simp) (by simp) with ⟨_, h2, _⟩ | ⟨h1, _⟩
   ·rw [h2, rnext_at hok]
   ·have h4 : ((tokV s p).t.toList == (ba [41]).toList) = true := h3
    unfold rtakeV at h1
    simp [hok.1, h4] at h1
  unfold dNames
  simp only [List.append_nil]
  rw [hnx]
  have g0 := rnext_goes (s := s) (st := ⟨p, 0, 0⟩) hp
  refine (ends_next hs' hr hp hok).bind (G := fun st => (dTail k s nm ps st).2) (fun q hq => ?_) (fun hc => dTail_stuck hc)
  rw [hq] at g0 ⊢
  have hle := g0.le
  have hlq := (g0.ok rfl).2
  simp only at hle hlq
  clear hq g0 hnx hok h3 tk
  have g1 := rterm_goes1 (s := s) (st := ⟨q, 0, 0⟩) hle
  rcases hk with rfl | rfl | rfl
  ·simp only [show (((1 : Nat) : Int) == 3) = false from rfl, show (((1 : Nat) : Int) == 2) = false from rfl, cond_false, dTail, dTail1]
   refine (ends_read hs hr hle).bind (G := fun st => rtakeV s st (ba [41])) (fun q1 hq => ?_) (fun hc => by rw [rtake_stuck hc])
   generalize (rtermV (s.size + 1) s ⟨q, 0, 0⟩).1 = ty
   rw [hq] at g1 ⊢
   simp only [List.getD_cons_zero, tm_fits5, grd, cond_true, Option.bind_some]
   rw [dc_val]
   exact close_end hs' hr g1.le _
  ·simp only [show (((2 : Nat) : Int) == 3) = false from rfl, show (((2 : Nat) : Int) == 2) = true from rfl, cond_false, cond_true, dTail, dTail2]
   refine (ends_read hs hr hle).bind (G := fun st => rtakeV s (rtermV (s.size + 1) s st).2 (ba [41])) (fun q1 hq => ?_) (fun hc => by rw [rterm_stuck hc, rtake_stuck hc])
   generalize (rtermV (s.size + 1) s ⟨q, 0, 0⟩).1 = ty
   rw [hq] at g1 ⊢
   have hle1 := g1.le
   simp only at hle1
   simp only [List.getD_cons_zero, tm_fits5, grd, cond_true, Option.bind_some]
   have g2 := rterm_goes1 (s := s) (st := ⟨q1, 0, 0⟩) hle1
   refine (ends_read hs hr hle1).bind (G := fun st => rtakeV s st (ba [41])) (fun q2 hq => ?_) (fun hc => by rw [rtake_stuck hc])
   generalize (rtermV (s.size + 1) s ⟨q1, 0, 0⟩).1 = va
   rw [hq] at g2 ⊢
   simp only [List.getD_cons_zero, tm_fits5, grd, cond_true, Option.bind_some]
   rw [dc_val]
   exact close_end hs' hr g2.le _
  ·simp only [show (((3 : Nat) : Int) == 3) = true from rfl, show (((3 : Nat) : Int) == 2) = false from rfl, cond_false, cond_true, dTail, dTail3]
   clear g1
   simp only [sg2 hr, Option.bind_some]
   rcases arity_atoi hs hle (σ.set r ((stepV s q).cells s)) with ⟨b1, b2, b3, b4, b5⟩ | ⟨b1, ⟨e, b5⟩ | ⟨n, b4, b5⟩⟩
   ·have hd : decide (((numV (tokV s q).t : Nat) : Int) > 99) = false := decide_eq_false (by omega)
    simp only [callK_ret2 b5, List.getD_cons_zero, List.getD_cons_succ, V.ifaceNil, Option.bind_some, Bool.not_true, cond_false, V.asInt, if_true, hd, int_fits, grd, cond_true]
    have har : rarityV s ⟨q, 0, 0⟩ = (numV (tokV s q).t, (rnextV s ⟨q, 0, 0⟩).2) := by
     unfold rarityV
     simp only [b1, bne_self_eq_false, cond_false]
    rw [har]
    have g0 := rnext_goes (s := s) (st := ⟨q, 0, 0⟩) hle
    refine (ends_next hs' hr hle ⟨b2, b3⟩).bind (G := fun st => (dTail4 s nm ps (numV (tokV s q).t) st).2) (fun q1 hq => ?_) (fun hc => dTail4_stuck hc)
    generalize numV (tokV s q).t = ar
    rw [hq] at g0 ⊢
    have hle1 := g0.le
    simp only at hle1
    have g1 := rterm_goes1 (s := s) (st := ⟨q1, 0, 0⟩) hle1
    simp only [dTail4]
    refine (ends_read hs hr hle1).bind (G := fun st => rtakeV s (rctorsV (s.size + 10) s st).2 (ba [41])) (fun q2 hq => ?_) (fun hc => by rw [rctors_stuck hc, rtake_stuck hc])
    generalize (rtermV (s.size + 1) s ⟨q1, 0, 0⟩).1 = ty
    rw [hq] at g1 ⊢
    have hle2 := g1.le
    simp only at hle2
    simp only [List.getD_cons_zero, tm_fits5, grd, cond_true, Option.bind_some]
    have hc := ctors_run (N := N) (t0 := t0) (t1 := t1) (t2 := t2) (t3 := t3) (t4 := t4) (t5 := t5) (t6 := t6) (t7 := t7) (t8 := t8) (t9 := t9) (t10 := t10) (t11 := t11) (t12 := t12) (t13 := t13) (t14 := t14) hs hr (nm := nm) (ps := ps) (ty := ty) (va := .var 0) (ar := ar) N [] q2 hle2 (by simp; omega) (by omega)
    rw [List.nil_append] at hc
    rw [← hN]
    exact hc
   ·simp only [callK_ret2 b5, List.getD_cons_zero, List.getD_cons_succ, V.ifaceNil, Option.bind_some, Bool.not_false, cond_true]
    have har : rarityV s ⟨q, 0, 0⟩ = (0, rfailV ⟨q, 0, 0⟩ (tokV s q).at_) := by
     unfold rarityV
     simp only [b1, bne_self_eq_false, cond_false, cond_true]
    rw [har, dTail4_stuck (rfail_c _ _)]
    exact ends_fail hr _
   ·have hd : decide (((n : Nat) : Int) > 99) = true := decide_eq_true (by omega)
    simp only [callK_ret2 b5, List.getD_cons_zero, List.getD_cons_succ, V.ifaceNil, Option.bind_some, Bool.not_true, cond_false, V.asInt, if_true, hd, cond_true]
    have har : rarityV s ⟨q, 0, 0⟩ = (0, rfailV ⟨q, 0, 0⟩ (tokV s q).at_) := by
     unfold rarityV
     simp only [b1, bne_self_eq_false, cond_false, cond_true]
    rw [har, dTail4_stuck (rfail_c _ _)]
    exact ends_fail hr _
end
theorem kinds_law : lim C 15 [] [] = some (.ret [(.map kindsL, false)], []) := lim_ext (s := kindsA) (by kernel_rfl) rfl
theorem kinds_look (t : ByteArray) : mapLook kindsL t = ((kindIx t : Nat) : Int) := by
 have e1 : (t.toList == kAx.toList) = strIs t waxiom := rfl
 have e2 : (t.toList == kDef.toList) = strIs t wdef := rfl
 have e3 : (t.toList == kInd.toList) = strIs t winduct := rfl
 simp only [kindsL, mapLook, e1, e2, e3, kindIx]
 cases strIs t waxiom <;> cases strIs t wdef <;> cases strIs t winduct <;> rfl
theorem kindIx_step {s : ByteArray} {p : Nat} (hp : p ≤ s.size) : kindIx (stepV s p).tok = kindIx (tokV s p).t := by
 have e : ∀ w : List UInt8, w ≠ [] → w ≠ [0] → strIs (stepV s p).tok w = strIs (tokV s p).t w := fun w h1 h2 => stepTok hp h1 h2
 unfold kindIx
 rw [e _ (by decide) (by decide), e _ (by decide) (by decide), e _ (by decide) (by decide)]
theorem kindIx_ok {s : ByteArray} {p : Nat} (hp : p ≤ s.size) (h : kindIx (tokV s p).t ≠ 0) : (tokV s p).ok = true ∧ isNo (tokV s p).t = false := by
 unfold kindIx at h
 cases h1 : strIs (tokV s p).t waxiom
 ·cases h2 : strIs (tokV s p).t wdef
  ·cases h3 : strIs (tokV s p).t winduct
   ·rw [h1, h2, h3] at h; exact absurd rfl h
   ·exact strIs_ok hp (by decide) h3
  ·exact strIs_ok hp (by decide) h2
 ·exact strIs_ok hp (by decide) h1
theorem fread_law {s : ByteArray} (hs : s.size ≤ 200000) {σ : Sto} {r : Nat} (hr : r < σ.length) {p : Nat} (hp : p ≤ s.size) :
  Ends s σ r (lim C 9 [(.ptr 40 r 0, false)] (σ.set r ((stepV s p).cells s))) (declV s ⟨p, 0, 0⟩).1.val (declV s ⟨p, 0, 0⟩).2 := by
 have hs' : s.size < 2 ^ 61 := by omega
 have key : ∀ {y st}, Ends s σ r (fread (lim C) (s.size + 10) r (σ.set r ((stepV s p).cells s))) y st → Ends s σ r (lim C 9 [(.ptr 40 r 0, false)] (σ.set r ((stepV s p).cells s))) y st := by
  intro y st h
  rcases h with ⟨q, h1, h2⟩ | ⟨h1, cs, h2⟩
  ·exact .inl ⟨q, h1, fread_lim (n := s.size + 10) h2⟩
  ·exact .inr ⟨h1, cs, fread_lim (n := s.size + 10) h2⟩
 refine key ?_
 clear key
 have e40 : ByteArray.mk #[40] = ba [40] := rfl
 unfold fread freadF declV
 simp only [e40]
 have g0 := rtake_gone (s := s) (st := ⟨p, 0, 0⟩) hp (ba [40])
 refine (ends_take hs' hr hp (w := [40]) (by simp) (by simp)).bind (G := fun st => (declW s st).2) (fun q hq => ?_) (fun hc => declW_stuck hc)
 rw [hq] at g0 ⊢
 have hle := g0.le
 simp only at hle
 clear hq g0
 have hpc : pcallR (lim C 15 [] []) = some [(.map kindsL, false)] := by rw [kinds_law]; rfl
 simp only [hpc, Option.bind_some, List.length_cons, List.length_nil, if_true, sg2 hr, List.getD_cons_zero, V.asMap, V.asStr, kinds_look, kindIx_step hle]
 unfold declW
 simp only
 by_cases hk0 : kindIx (tokV s q).t = 0
 ·simp only [hk0, Int.natCast_zero, beq_self_eq_true, cond_true]
  exact ends_fail hr _
 have hk0' : ((kindIx (tokV s q).t : Int) == 0) = false := by simp; omega
 have hk0'' : (kindIx (tokV s q).t == 0) = false := by simpa using hk0
 have hk3 := kindIx_le (tokV s q).t
 have hok := kindIx_ok hle hk0
 simp only [hk0', hk0'', cond_false]
 have g1 := rnext_goes (s := s) (st := ⟨q, 0, 0⟩) hle
 refine (ends_next hs' hr hle hok).bind (G := fun st => (declK (kindIx (tokV s q).t) s st).2) (fun q1 hq => ?_) (fun hc => declK_stuck hc)
 rw [hq] at g1 ⊢
 have hle1 := g1.le
 simp only at hle1
 generalize kindIx (tokV s q).t = k at *
 clear hq g1 hok
 unfold declK
 have g2 := rname_goes (s := s) (st := ⟨q1, 0, 0⟩) hle1
 refine (ends_name hs' hr hle1).bind (G := fun st => (dNames k s (rnameV s ⟨q1, 0, 0⟩).1 [] (rnamesV (s.size + 10) s (rtakeV s st (ba [40])))).2) (fun q2 hq => ?_) (fun hc => by rw [rtake_stuck hc, rnames_stuck hc, dNames_stuck hc])
 generalize (rnameV s ⟨q1, 0, 0⟩).1 = nm
 rw [hq] at g2 ⊢
 have hle2 := g2.le
 simp only at hle2
 clear hq g2
 simp only [List.getD_cons_zero, str_fits, grd, cond_true, Option.bind_some]
 have g3 := rtake_gone (s := s) (st := ⟨q2, 0, 0⟩) hle2 (ba [40])
 refine (ends_take hs' hr hle2 (w := [40]) (by simp) (by simp)).bind (G := fun st => (dNames k s nm [] (rnamesV (s.size + 10) s st)).2) (fun q3 hq => ?_) (fun hc => by rw [rnames_stuck hc, dNames_stuck hc])
 rw [hq] at g3 ⊢
 have hle3 := g3.le
 simp only at hle3
 exact names_run (N := s.size + 10) hs hr (nm := nm) (k := k) (by omega) rfl (s.size + 10) [] q3 hle3 (by simp; omega) (by omega)
end Go.Ab.Mk
end
section
namespace Go.Proofs
open Go.RowKit Go.Ab
set_option maxRecDepth 100000
set_option maxHeartbeats 1000000
theorem Mk.catch_idle (p : Addr) (w : World) :
  CallsD Tryd.prog 7 #[.pointer (some p)] .returning w fun e u' w' => e = .returned (.tuple #[]) ∧ u' = .returning ∧ w' = w := by
 refine callsD_of_wpS Tryd.func7 rfl fun c₀ cs hu => ?_
 apply wpS_seq
 apply wpS_region
 simp [wpOpsS, go_sem, recoverD, hu, Tryd.ntmps7, Exit.thenS]
 refine wpS_of_wp ?_
 go_wp2
 cases c₀
 simp_all [bodyPostS, results, Tryd.results7]
theorem Mk.catch_pan (p : Addr) (v : Value) (w : World) (x : Value) (hc : w.cell? p = some x) (hz : w.frozen? p = false) :
  CallsD Tryd.prog 7 #[.pointer (some p)] (.panicking [{ v := .iface 32 v, recovered := false }]) w fun e u' w' =>
   e = .returned (.tuple #[]) ∧ u' = .panicking [{ v := .iface 32 v, recovered := true }] ∧ w' = w.setCell p (.iface 32 v) := by
 have hta : (Instr.typeAssert (.iface 32 v) 20 32 true).run Tryd.prog w = .ok (.tuple #[v, .bool true]) w := by kernel_rfl
 refine callsD_of_wpS Tryd.func7 rfl fun c₀ cs hu => ?_
 apply wpS_seq
 apply wpS_region
 simp [wpOpsS, go_sem, recoverD, hu, Tryd.ntmps7, Exit.thenS]
 refine wpS_of_wp ?_
 go_wp2
 cases c₀
 simp_all [bodyPostS, results, Tryd.results7]
end Go.Proofs
end
section
namespace Go.Proofs
open Go.RowKit Go.Ab
set_option maxRecDepth 100000
set_option maxHeartbeats 1000000
theorem Mk.fclos_nil (p q : Addr) (u : FrameMode) (w : World) (hc : w.cell? p = some .nilIface) :
  CallsD Tryd.prog 6 #[.pointer (some p), .pointer (some q)] u w fun e u' w' => u' = u ∧ (e = .returned (.tuple #[]) ∧ w' = w) := by
 go_enter_d Tryd.func6, Tryd.ntmps6
 go_wp2
 go_end0
 exact ⟨rfl, rfl⟩
theorem Mk.fclos_err (p : Addr) (b : Nat) (u : FrameMode) (w : World) (v : Value) (cv : Array Value) (el : TypeId) (hc : w.cell? p = some (.iface 32 v)) (hb : w.heap[b]? = some (.cells cv el (0, 0))) (hs : cv.size = 1) :
  CallsD Tryd.prog 6 #[.pointer (some p), .pointer (some ⟨b, 0, none⟩)] u w fun e u' w' => u' = u ∧ (e = .returned (.tuple #[]) ∧ w' = w.setCell ⟨b, 0, none⟩ (.slice none 0 0)) := by
 obtain ⟨x0, rfl⟩ : ∃ x0, cv = #[x0] := by
  obtain ⟨l⟩ := cv
  match l, hs with
  | [x0], _ => exact ⟨x0, rfl⟩
 have h0 : w.cell? ⟨b, 0, none⟩ = some x0 := by simp [World.cell?, hb]
 have z0 : w.frozen? ⟨b, 0, none⟩ = false := by simp [World.frozen?, hb]
 go_enter_d Tryd.func6, Tryd.ntmps6
 go_wp2
 go_end0
 exact ⟨rfl, rfl⟩
theorem Mk.fparse_long (s : ByteArray) (w : World) (hb : (s.size : Int) > 200000) :
  Calls Tryd.prog 4 #[.string s] w fun en w' => en = .returned (.tuple #[.slice none 0 0, .iface 32 (.pointer (some ⟨w.heap.size + 1 + 1, 0, none⟩))]) ∧
   w' = ((w.alloc (.cells #[.slice none 0 0] 23)).alloc (.cells #[.iface 32 (.pointer (some ⟨w.heap.size + 1 + 1, 0, none⟩))] 25)).alloc (.cells #[.int .i64 2, .int .i64 0] 34) := by
 have hmf : ∀ (fn : Fn) (first cap : Array Value) (w : World), (Instr.makeFunc fn first cap).run Tryd.prog w = .ok (.func fn first cap) w := fun _ _ _ _ => rfl
 go_enter_defers Tryd.func4, Tryd.ntmps4
 go_wp2
 simp [bodyPostD, Leaves, settle, results, Tryd.results4, go_sem]
structure Mk.HasF (b : Nat) (x y : Value) (w : World) : Prop where
 l : w.heap[b]? = some (.cells #[x] 23 (0, 0))
 e : w.heap[b + 1]? = some (.cells #[y] 25 (0, 0))
theorem Mk.HasF.c0 {b : Nat} {x y : Value} {w : World} (h : Mk.HasF b x y w) : w.cell? ⟨b, 0, none⟩ = some x ∧ w.frozen? ⟨b, 0, none⟩ = false ∧ w.cell? ⟨b + 1, 0, none⟩ = some y ∧ w.frozen? ⟨b + 1, 0, none⟩ = false := by
 simp [World.cell?, World.frozen?, h.l, h.e]
theorem Mk.HasF.setE {b : Nat} {x y v : Value} {w : World} (h : Mk.HasF b x y w) : Mk.HasF b x v (w.setCell ⟨b + 1, 0, none⟩ v) := by
 refine ⟨?_, ?_⟩
 ·rw [heap_setCell_other _ _ _ _ (by simp)]; exact h.l
 ·rw [heap_setCell_same _ _ _ _ _ _ h.e]; rfl
theorem Mk.HasF.setL {b : Nat} {x y v : Value} {w : World} (h : Mk.HasF b x y w) : Mk.HasF b v y (w.setCell ⟨b, 0, none⟩ v) := by
 refine ⟨?_, ?_⟩
 ·rw [heap_setCell_same _ _ _ _ _ _ h.l]; rfl
 ·rw [heap_setCell_other _ _ _ _ (by simp)]; exact h.e
end Go.Proofs
end
