/- The plain laws: printing. -/
import Derived.Test.YtcpdcpgblcapeaaDoorLvB
set_option linter.unusedSimpArgs false
set_option linter.unusedVariables false
set_option linter.deprecated false
namespace Go.Ab.Mk
open Go.Proofs Go.Ab

/-- A string of bytes. -/
def ba (l : List UInt8) : ByteArray := ⟨l.toArray⟩
theorem ba_append (a b : List UInt8) : ba a ++ ba b = ba (a ++ b) := by
  apply ByteArray.ext
  simp [ba]
theorem ba_of (s : ByteArray) : ba s.data.toList = s := by
  apply ByteArray.ext
  simp [ba]
theorem ba_size (l : List UInt8) : (ba l).size = l.length := by simp [ba, ByteArray.size]
theorem bytesV_ba (l : List UInt8) : bytesV (ba l) = bytesL l := by simp [bytesV, ba, bytesL]
theorem strRoom_ok {x y : ByteArray} (h : x.size + y.size < 2 ^ 61) : strRoom x y = true := by
  unfold strRoom
  refine decide_eq_true ?_
  by_cases h0 : x.size + y.size = 0
  · rw [h0]; simp
  · have := (Nat.log2_lt (k := 61) h0).2 h
    omega

def printL : Lv → List UInt8
  | .zero => [48]
  | .succ l => [40, 115, 32] ++ printL l ++ [41]
  | .max a b => [40, 109, 97, 120, 32] ++ printL a ++ [32] ++ printL b ++ [41]
  | .imax a b => [40, 105, 109, 97, 120, 32] ++ printL a ++ [32] ++ printL b ++ [41]
  | .param s => s.data.toList

theorem rprint_law (σ : Sto) : ∀ (l : Lv), (printL l).length < 2 ^ 60 →
    lim C 19 [(.agg [.int .i64 l.kind, .str l.name, .slice 3 31 l.args], false)] σ = some (.ret [(.str (ba (printL l)), false)], σ)
  | .zero, _ => rprint_lim (n := 0) rfl
  | .param s, _ => rprint_lim (n := 0) <| by simp [rprint, rprintF, Lv.kind, Lv.name, printL, ba_of]
  | .succ l, hb => rprint_lim (n := 0) <| by
    simp only [printL, List.length_append, List.length_cons, List.length_nil] at hb
    have h1 := rprint_law σ l (by omega)
    simp only [rprint, rprintF, Lv.kind, Lv.args, Lv.kids, List.map_cons, List.map_nil, Int.reduceBEq, cond_false, cond_true]
    have hc : V.agg [List.getD (List.getD [l.enc] (Int.toNat (0 : Int)) []) 0 V.any, List.getD (List.getD [l.enc] (Int.toNat (0 : Int)) []) 1 V.any, List.getD (List.getD [l.enc] (Int.toNat (0 : Int)) []) 2 V.any] = V.agg [.int .i64 l.kind, .str l.name, .slice 3 31 l.args] := l.cells
    rw [hc, callK_ret1 h1]
    have e1 : ByteArray.mk #[40, 115, 32] = ba [40, 115, 32] := rfl
    have e2 : ByteArray.mk #[41] = ba [41] := rfl
    simp only [e1, e2, List.getD_cons_zero, V.asStr, Option.bind_some, ba_append, printL]
    rw [strRoom_ok (by simp [ba_size]; omega), strRoom_ok (by simp [ba_size]; omega)]
    rfl
  | .max a b, hb => rprint_lim (n := 0) <| by
    simp only [printL, List.length_append, List.length_cons, List.length_nil] at hb
    have h1 := rprint_law σ a (by omega)
    have h2 := rprint_law σ b (by omega)
    simp only [rprint, rprintF, Lv.kind, Lv.args, Lv.kids, List.map_cons, List.map_nil, Int.reduceBEq, cond_false, cond_true]
    have hc : V.agg [List.getD (List.getD [a.enc, b.enc] (Int.toNat (0 : Int)) []) 0 V.any, List.getD (List.getD [a.enc, b.enc] (Int.toNat (0 : Int)) []) 1 V.any, List.getD (List.getD [a.enc, b.enc] (Int.toNat (0 : Int)) []) 2 V.any] = V.agg [.int .i64 a.kind, .str a.name, .slice 3 31 a.args] := a.cells
    have hd : V.agg [List.getD (List.getD [a.enc, b.enc] (Int.toNat (1 : Int)) []) 0 V.any, List.getD (List.getD [a.enc, b.enc] (Int.toNat (1 : Int)) []) 1 V.any, List.getD (List.getD [a.enc, b.enc] (Int.toNat (1 : Int)) []) 2 V.any] = V.agg [.int .i64 b.kind, .str b.name, .slice 3 31 b.args] := b.cells
    have e1 : ByteArray.mk #[40] = ba [40] := rfl
    have e2 : ByteArray.mk #[41] = ba [41] := rfl
    have e3 : ByteArray.mk #[32] = ba [32] := rfl
    have e4 : ByteArray.mk #[109, 97, 120] = ba [109, 97, 120] := rfl
    simp only [hc, hd, callK_ret1 h1, callK_ret1 h2, e1, e2, e3, e4, List.getD_cons_zero, V.asStr, Option.bind_some, ba_append, printL]
    repeat rw [strRoom_ok (by simp [ba_size] <;> omega)]
    rfl
  | .imax a b, hb => rprint_lim (n := 0) <| by
    simp only [printL, List.length_append, List.length_cons, List.length_nil] at hb
    have h1 := rprint_law σ a (by omega)
    have h2 := rprint_law σ b (by omega)
    simp only [rprint, rprintF, Lv.kind, Lv.args, Lv.kids, List.map_cons, List.map_nil, Int.reduceBEq, cond_false, cond_true]
    have hc : V.agg [List.getD (List.getD [a.enc, b.enc] (Int.toNat (0 : Int)) []) 0 V.any, List.getD (List.getD [a.enc, b.enc] (Int.toNat (0 : Int)) []) 1 V.any, List.getD (List.getD [a.enc, b.enc] (Int.toNat (0 : Int)) []) 2 V.any] = V.agg [.int .i64 a.kind, .str a.name, .slice 3 31 a.args] := a.cells
    have hd : V.agg [List.getD (List.getD [a.enc, b.enc] (Int.toNat (1 : Int)) []) 0 V.any, List.getD (List.getD [a.enc, b.enc] (Int.toNat (1 : Int)) []) 1 V.any, List.getD (List.getD [a.enc, b.enc] (Int.toNat (1 : Int)) []) 2 V.any] = V.agg [.int .i64 b.kind, .str b.name, .slice 3 31 b.args] := b.cells
    have e1 : ByteArray.mk #[40] = ba [40] := rfl
    have e2 : ByteArray.mk #[41] = ba [41] := rfl
    have e3 : ByteArray.mk #[32] = ba [32] := rfl
    have e4 : ByteArray.mk #[105, 109, 97, 120] = ba [105, 109, 97, 120] := rfl
    simp only [hc, hd, callK_ret1 h1, callK_ret1 h2, e1, e2, e3, e4, List.getD_cons_zero, V.asStr, Option.bind_some, ba_append, printL]
    repeat rw [strRoom_ok (by simp [ba_size] <;> omega)]
    rfl

/-- A builder's cells: used or not; its bytes. -/
def bcell (b : Nat) (u : Bool) (L : List UInt8) : List Cell := [(bif u then .ptr 63 b 0 else .nilp, false), (.slice 1 5 (bytesL L), true)]
theorem copyCheck_law {σ : Sto} {b : Nat} {u : Bool} {L : List UInt8} (h : σ[b]? = some (bcell b u L)) : lim C 57 [(.ptr 63 b 0, false)] σ = some (.ret [], σ.set b (bcell b true L)) := by
  refine lim_ext (s := copyCheckS 63) (by kernel_rfl) ?_
  obtain ⟨hlt, hget⟩ := List.getElem?_eq_some_iff.1 h
  cases u with
  | false =>
    simp only [copyCheckS, if_true]
    rw [h]
    rfl
  | true =>
    simp only [copyCheckS, if_true]
    rw [h]
    have : σ.set b (bcell b true L) = σ := by rw [← hget]; simp
    simp only [bcell, cond_true, and_self, if_true]
    exact congrArg (fun x => some (End.ret [], x)) this.symm
theorem memTakeB {σ : Sto} {t : TypeId} {b : Nat} {c : Cell} {v : V} (h : σ[b]? = some [c, (v, true)]) : memTake σ (.ptr t b 1) = some (v, σ.set b [c, (v, false)]) := by
  simp only [memTake, h, Option.bind_some]; rfl
theorem memSetB {σ : Sto} {t : TypeId} {b : Nat} {c c' d : Cell} (h : σ[b]? = some [c, c']) : memSet σ (.ptr t b 1) [d] = some (σ.set b [c, d]) := by
  simp only [memSet, h, Option.bind_some]; rfl
theorem wstring_law {σ : Sto} {b : Nat} {u : Bool} {L : List UInt8} (h : σ[b]? = some (bcell b u L)) (s : List UInt8) (hr : L.length + s.length < 2 ^ 34) :
    lim C 48 [(.ptr 63 b 0, false), (.str (ba s), false)] σ = some (.ret [(.int .i64 s.length, false), (.nilIface, false)], σ.set b (bcell b true (L ++ s))) :=
  wstring_lim (n := 0) <| by
    obtain ⟨hlt, hget⟩ := List.getElem?_eq_some_iff.1 h
    simp only [wstring, wstringF, callK_ret0 (copyCheck_law h)]
    rw [memTakeB (c := (.ptr 63 b 0, false)) (v := .slice 1 5 (bytesL L)) (by simp [hlt, bcell])]
    simp only [Option.bind_some, V.asSlice, and_self, if_true]
    rw [bytesL_length, ba_size, room_ok hr]
    rw [memSetB (c := (.ptr 63 b 0, false)) (c' := (.slice 1 5 (bytesL L), false)) (by simp [hlt])]
    simp only [grd, cond_true, Option.bind_some, List.set_set, bytesV_ba, ← bytesL_append]
    rfl
theorem wbyte_law {σ : Sto} {b : Nat} {u : Bool} {L : List UInt8} (h : σ[b]? = some (bcell b u L)) (c : UInt8) (hr : L.length + 1 < 2 ^ 34) :
    lim C 49 [(.ptr 63 b 0, false), (.int .u8 (c.toNat : Int), false)] σ = some (.ret [(.nilIface, false)], σ.set b (bcell b true (L ++ [c]))) :=
  wbyte_lim (n := 0) <| by
    obtain ⟨hlt, hget⟩ := List.getElem?_eq_some_iff.1 h
    simp only [wbyte, wbyteF, callK_ret0 (copyCheck_law h)]
    rw [memTakeB (c := (.ptr 63 b 0, false)) (v := .slice 1 5 (bytesL L)) (by simp [hlt, bcell])]
    simp only [Option.bind_some, V.asSlice, and_self, if_true]
    rw [bytesL_length, room_ok hr]
    rw [memSetB (c := (.ptr 63 b 0, false)) (c' := (.slice 1 5 (bytesL L), false)) (by simp [hlt])]
    simp only [grd, cond_true, Option.bind_some, List.set_set, bcell, bytesL_append]
    rfl
theorem callK_ret2 {call : CallF} {f : FuncId} {args : List Cell} {σ σ' : Sto} {K : List Cell → Sto → Option Res} {KP : V → Sto → Option Res} {c d : Cell} (h : call f args σ = some (.ret [c, d], σ')) :
    callK call f args σ 2 K KP = K [c, d] σ' := callK_ret h rfl
end Go.Ab.Mk
