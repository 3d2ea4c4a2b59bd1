/- Levels as trees, and how they are laid. -/
import Derived.Test.YtcpdcpgblcapeaaDoorAbExt
set_option linter.unusedSimpArgs false
set_option linter.unusedVariables false
set_option linter.deprecated false
namespace Go.Ab

inductive Lv where
  | zero
  | succ (l : Lv)
  | max (a b : Lv)
  | imax (a b : Lv)
  | param (s : ByteArray)
  deriving Inhabited

def Lv.kind : Lv → Int
  | .zero => 0 | .succ _ => 1 | .max .. => 2 | .imax .. => 3 | .param _ => 4
def Lv.name : Lv → ByteArray
  | .param s => s
  | _ => ByteArray.mk #[]
def Lv.enc : Lv → List V
  | .zero => [.int .i64 0, .str (ByteArray.mk #[]), .slice 3 31 []]
  | .succ l => [.int .i64 1, .str (ByteArray.mk #[]), .slice 3 31 [l.enc]]
  | .max a b => [.int .i64 2, .str (ByteArray.mk #[]), .slice 3 31 [a.enc, b.enc]]
  | .imax a b => [.int .i64 3, .str (ByteArray.mk #[]), .slice 3 31 [a.enc, b.enc]]
  | .param s => [.int .i64 4, .str s, .slice 3 31 []]
def Lv.kids : Lv → List Lv
  | .succ l => [l]
  | .max a b => [a, b]
  | .imax a b => [a, b]
  | _ => []
def Lv.args (l : Lv) : List (List V) := l.kids.map Lv.enc
def Lv.size : Lv → Nat
  | .succ l => l.size + 1
  | .max a b => a.size + b.size + 1
  | .imax a b => a.size + b.size + 1
  | _ => 1
theorem Lv.size_pos (l : Lv) : 0 < l.size := by cases l <;> simp [Lv.size]
theorem Lv.enc_eq (l : Lv) : l.enc = [.int .i64 l.kind, .str l.name, .slice 3 31 l.args] := by cases l <;> rfl
theorem Lv.enc_len (l : Lv) : l.enc.length = 3 := by cases l <;> rfl
/-- A level whose three cells are read one by one. -/
theorem Lv.cells (l : Lv) : V.agg [l.enc.getD 0 V.any, l.enc.getD 1 V.any, l.enc.getD 2 V.any] = V.agg [.int .i64 l.kind, .str l.name, .slice 3 31 l.args] := by rw [l.enc_eq]; rfl
theorem Lv.kid_size {l c : Lv} (h : c ∈ l.kids) : c.size < l.size := by
  cases l <;> simp [Lv.kids] at h
  · subst h; simp [Lv.size]
  · rcases h with rfl | rfl <;> simp [Lv.size] <;> omega
  · rcases h with rfl | rfl <;> simp [Lv.size] <;> omega
theorem Lv.ind {P : Lv → Prop} (h : ∀ l, (∀ c ∈ l.kids, P c) → P l) : ∀ l, P l
  | .zero => h _ (by simp [Lv.kids])
  | .param _ => h _ (by simp [Lv.kids])
  | .succ l => h _ (by simp only [Lv.kids, List.mem_cons, List.not_mem_nil, or_false]; rintro c rfl; exact Lv.ind h c)
  | .max a b => h _ (by simp only [Lv.kids, List.mem_cons, List.not_mem_nil, or_false]; rintro c (rfl | rfl) <;> exact Lv.ind h _)
  | .imax a b => h _ (by simp only [Lv.kids, List.mem_cons, List.not_mem_nil, or_false]; rintro c (rfl | rfl) <;> exact Lv.ind h _)

def strs (ss : List ByteArray) : List (List V) := ss.map fun s => [.str s]
def ints (ns : List Int) : List (List V) := ns.map fun n => [.int .i64 n]

theorem wrap_nat {n : Nat} (h : n < 2 ^ 62) : IntKind.wrap .i64 (n : Int) = n := by
  unfold IntKind.wrap
  simp [IntKind.bits, IntKind.signed] <;> omega
theorem wrap_succ {n : Nat} (h : n < 2 ^ 61) : IntKind.wrap .i64 ((n : Int) + 1) = ((n + 1 : Nat) : Int) := by rw [← wrap_nat (n := n + 1) (by omega)]; simp
theorem strs_get {ps : List ByteArray} {i : Nat} (h : i < ps.length) : (strs ps).getD i [] = [V.str ps[i]] := by simp [strs, h]
theorem ints_get {ns : List Int} {i : Nat} (h : i < ns.length) : (ints ns).getD i [] = [V.int .i64 ns[i]] := by simp [ints, h]
theorem strs_length (ps : List ByteArray) : (strs ps).length = ps.length := by simp [strs]
theorem ints_length (ps : List Int) : (ints ps).length = ps.length := by simp [ints]
theorem strs_append (ps qs : List ByteArray) : strs (ps ++ qs) = strs ps ++ strs qs := by simp [strs]
theorem room_ok {n : Nat} (h : n < 2 ^ 34) : room n = true := by
  unfold room
  refine decide_eq_true ?_
  by_cases h0 : n = 0
  · subst h0; simp
  · have := (Nat.log2_lt (k := 34) h0).2 h
    omega
theorem callK_ret1 {call : CallF} {f : FuncId} {args : List Cell} {σ σ' : Sto} {K : List Cell → Sto → Option Res} {KP : V → Sto → Option Res} {c : Cell} (h : call f args σ = some (.ret [c], σ')) :
    callK call f args σ 1 K KP = K [c] σ' := callK_ret h rfl
theorem callK_ret0 {call : CallF} {f : FuncId} {args : List Cell} {σ σ' : Sto} {K : List Cell → Sto → Option Res} {KP : V → Sto → Option Res} (h : call f args σ = some (.ret [], σ')) :
    callK call f args σ 0 K KP = K [] σ' := callK_ret h rfl
theorem dlt {i n : Nat} (h : i < n) : decide ((i : Int) < (n : Int)) = true := by simpa using h
theorem dnlt {i n : Nat} (h : ¬ i < n) : decide ((i : Int) < (n : Int)) = false := by simpa using h
theorem d0 (i : Nat) : decide (0 ≤ (i : Int)) = true := by simp
/-- A child is read. -/
theorem kid_get {L : List Lv} {i : Nat} {c : Lv} (hc : L[i]? = some c) : (L.map Lv.enc).getD (Int.toNat (i : Int)) [] = c.enc := by
  obtain ⟨h, rfl⟩ := List.getElem?_eq_some_iff.1 hc
  simp [h]
theorem drop_cons {α : Type} {L : List α} {i : Nat} {c : α} (hc : L[i]? = some c) : L.drop i = c :: L.drop (i + 1) := by
  obtain ⟨h, rfl⟩ := List.getElem?_eq_some_iff.1 hc
  exact List.drop_eq_getElem_cons h
end Go.Ab
