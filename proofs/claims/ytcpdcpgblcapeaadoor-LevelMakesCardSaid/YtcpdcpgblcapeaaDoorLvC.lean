/- The plain laws: printing. -/
import Derived.Test.YtcpdcpgblcapeaaDoorLvB
set_option linter.unusedSimpArgs false
set_option linter.unusedVariables false
set_option linter.deprecated false
namespace Go.Ab.Mk
open Go.Proofs Go.Ab

/-- A string of bytes. -/
def ba (l : List UInt8) : ByteArray := ⟨l.toArray⟩
theorem ba_append (a b : List UInt8) : ba a ++ ba b = ba (a ++ b) := by
  apply ByteArray.ext
  simp [ba]
theorem ba_of (s : ByteArray) : ba s.data.toList = s := by
  apply ByteArray.ext
  simp [ba]
theorem ba_size (l : List UInt8) : (ba l).size = l.length := by simp [ba, ByteArray.size]
theorem bytesV_ba (l : List UInt8) : bytesV (ba l) = bytesL l := by simp [bytesV, ba, bytesL]
theorem strRoom_ok {x y : ByteArray} (h : x.size + y.size < 2 ^ 61) : strRoom x y = true := by
  unfold strRoom
  refine decide_eq_true ?_
  by_cases h0 : x.size + y.size = 0
  · rw [h0]; simp
  · have := (Nat.log2_lt (k := 61) h0).2 h
    omega

def printL : Lv → List UInt8
  | .zero => [48]
  | .succ l => [40, 115, 32] ++ printL l ++ [41]
  | .max a b => [40, 109, 97, 120, 32] ++ printL a ++ [32] ++ printL b ++ [41]
  | .imax a b => [40, 105, 109, 97, 120, 32] ++ printL a ++ [32] ++ printL b ++ [41]
  | .param s => s.data.toList

theorem rprint_law (σ : Sto) : ∀ (l : Lv), (printL l).length < 2 ^ 60 →
    lim C 19 [(.agg [.int .i64 l.kind, .str l.name, .slice 3 31 l.args], false)] σ = some (.ret [(.str (ba (printL l)), false)], σ)
  | .zero, _ => rprint_lim (n := 0) rfl
  | .param s, _ => rprint_lim (n := 0) <| by simp [rprint, rprintF, Lv.kind, Lv.name, printL, ba_of]
  | .succ l, hb => rprint_lim (n := 0) <| by
    simp only [printL, List.length_append, List.length_cons, List.length_nil] at hb
    have h1 := rprint_law σ l (by omega)
    simp only [rprint, rprintF, Lv.kind, Lv.args, Lv.kids, List.map_cons, List.map_nil, Int.reduceBEq, cond_false, cond_true]
    have hc : V.agg [List.getD (List.getD [l.enc] (Int.toNat (0 : Int)) []) 0 V.any, List.getD (List.getD [l.enc] (Int.toNat (0 : Int)) []) 1 V.any, List.getD (List.getD [l.enc] (Int.toNat (0 : Int)) []) 2 V.any] = V.agg [.int .i64 l.kind, .str l.name, .slice 3 31 l.args] := l.cells
    rw [hc, callK_ret1 h1]
    have e1 : ByteArray.mk #[40, 115, 32] = ba [40, 115, 32] := rfl
    have e2 : ByteArray.mk #[41] = ba [41] := rfl
    simp only [e1, e2, List.getD_cons_zero, V.asStr, Option.bind_some, ba_append, printL]
    rw [strRoom_ok (by simp [ba_size]; omega), strRoom_ok (by simp [ba_size]; omega)]
    rfl
  | .max a b, hb => rprint_lim (n := 0) <| by
    simp only [printL, List.length_append, List.length_cons, List.length_nil] at hb
    have h1 := rprint_law σ a (by omega)
    have h2 := rprint_law σ b (by omega)
    simp only [rprint, rprintF, Lv.kind, Lv.args, Lv.kids, List.map_cons, List.map_nil, Int.reduceBEq, cond_false, cond_true]
    have hc : V.agg [List.getD (List.getD [a.enc, b.enc] (Int.toNat (0 : Int)) []) 0 V.any, List.getD (List.getD [a.enc, b.enc] (Int.toNat (0 : Int)) []) 1 V.any, List.getD (List.getD [a.enc, b.enc] (Int.toNat (0 : Int)) []) 2 V.any] = V.agg [.int .i64 a.kind, .str a.name, .slice 3 31 a.args] := a.cells
    have hd : V.agg [List.getD (List.getD [a.enc, b.enc] (Int.toNat (1 : Int)) []) 0 V.any, List.getD (List.getD [a.enc, b.enc] (Int.toNat (1 : Int)) []) 1 V.any, List.getD (List.getD [a.enc, b.enc] (Int.toNat (1 : Int)) []) 2 V.any] = V.agg [.int .i64 b.kind, .str b.name, .slice 3 31 b.args] := b.cells
    have e1 : ByteArray.mk #[40] = ba [40] := rfl
    have e2 : ByteArray.mk #[41] = ba [41] := rfl
    have e3 : ByteArray.mk #[32] = ba [32] := rfl
    have e4 : ByteArray.mk #[109, 97, 120] = ba [109, 97, 120] := rfl
    simp only [hc, hd, callK_ret1 h1, callK_ret1 h2, e1, e2, e3, e4, List.getD_cons_zero, V.asStr, Option.bind_some, ba_append, printL]
    repeat rw [strRoom_ok (by simp [ba_size] <;> omega)]
    rfl
  | .imax a b, hb => rprint_lim (n := 0) <| by
    simp only [printL, List.length_append, List.length_cons, List.length_nil] at hb
    have h1 := rprint_law σ a (by omega)
    have h2 := rprint_law σ b (by omega)
    simp only [rprint, rprintF, Lv.kind, Lv.args, Lv.kids, List.map_cons, List.map_nil, Int.reduceBEq, cond_false, cond_true]
    have hc : V.agg [List.getD (List.getD [a.enc, b.enc] (Int.toNat (0 : Int)) []) 0 V.any, List.getD (List.getD [a.enc, b.enc] (Int.toNat (0 : Int)) []) 1 V.any, List.getD (List.getD [a.enc, b.enc] (Int.toNat (0 : Int)) []) 2 V.any] = V.agg [.int .i64 a.kind, .str a.name, .slice 3 31 a.args] := a.cells
    have hd : V.agg [List.getD (List.getD [a.enc, b.enc] (Int.toNat (1 : Int)) []) 0 V.any, List.getD (List.getD [a.enc, b.enc] (Int.toNat (1 : Int)) []) 1 V.any, List.getD (List.getD [a.enc, b.enc] (Int.toNat (1 : Int)) []) 2 V.any] = V.agg [.int .i64 b.kind, .str b.name, .slice 3 31 b.args] := b.cells
    have e1 : ByteArray.mk #[40] = ba [40] := rfl
    have e2 : ByteArray.mk #[41] = ba [41] := rfl
    have e3 : ByteArray.mk #[32] = ba [32] := rfl
    have e4 : ByteArray.mk #[105, 109, 97, 120] = ba [105, 109, 97, 120] := rfl
    simp only [hc, hd, callK_ret1 h1, callK_ret1 h2, e1, e2, e3, e4, List.getD_cons_zero, V.asStr, Option.bind_some, ba_append, printL]
    repeat rw [strRoom_ok (by simp [ba_size] <;> omega)]
    rfl

/-- A builder's cells: used or not; its bytes. -/
def bcell (b : Nat) (u : Bool) (L : List UInt8) : List Cell := [(bif u then .ptr 63 b 0 else .nilp, false), (.slice 1 5 (bytesL L), true)]
theorem copyCheck_law {σ : Sto} {b : Nat} {u : Bool} {L : List UInt8} (h : σ[b]? = some (bcell b u L)) : lim C 57 [(.ptr 63 b 0, false)] σ = some (.ret [], σ.set b (bcell b true L)) := by
  refine lim_ext (s := copyCheckS 63) (by kernel_rfl) ?_
  obtain ⟨hlt, hget⟩ := List.getElem?_eq_some_iff.1 h
  cases u with
  | false =>
    simp only [copyCheckS, if_true]
    rw [h]
    rfl
  | true =>
    simp only [copyCheckS, if_true]
    rw [h]
    have : σ.set b (bcell b true L) = σ := by rw [← hget]; simp
    simp only [bcell, cond_true, and_self, if_true]
    exact congrArg (fun x => some (End.ret [], x)) this.symm
theorem memTakeB {σ : Sto} {t : TypeId} {b : Nat} {c : Cell} {v : V} (h : σ[b]? = some [c, (v, true)]) : memTake σ (.ptr t b 1) = some (v, σ.set b [c, (v, false)]) := by
  simp only [memTake, h, Option.bind_some]; rfl
theorem memSetB {σ : Sto} {t : TypeId} {b : Nat} {c c' d : Cell} (h : σ[b]? = some [c, c']) : memSet σ (.ptr t b 1) [d] = some (σ.set b [c, d]) := by
  simp only [memSet, h, Option.bind_some]; rfl
theorem wstring_law {σ : Sto} {b : Nat} {u : Bool} {L : List UInt8} (h : σ[b]? = some (bcell b u L)) (s : List UInt8) (hr : L.length + s.length < 2 ^ 34) :
    lim C 48 [(.ptr 63 b 0, false), (.str (ba s), false)] σ = some (.ret [(.int .i64 s.length, false), (.nilIface, false)], σ.set b (bcell b true (L ++ s))) :=
  wstring_lim (n := 0) <| by
    obtain ⟨hlt, hget⟩ := List.getElem?_eq_some_iff.1 h
    simp only [wstring, wstringF, callK_ret0 (copyCheck_law h)]
    rw [memTakeB (c := (.ptr 63 b 0, false)) (v := .slice 1 5 (bytesL L)) (by simp [hlt, bcell])]
    simp only [Option.bind_some, V.asSlice, and_self, if_true]
    rw [bytesL_length, ba_size, room_ok hr]
    rw [memSetB (c := (.ptr 63 b 0, false)) (c' := (.slice 1 5 (bytesL L), false)) (by simp [hlt])]
    simp only [grd, cond_true, Option.bind_some, List.set_set, bytesV_ba, ← bytesL_append]
    rfl
theorem wbyte_law {σ : Sto} {b : Nat} {u : Bool} {L : List UInt8} (h : σ[b]? = some (bcell b u L)) (c : UInt8) (hr : L.length + 1 < 2 ^ 34) :
    lim C 49 [(.ptr 63 b 0, false), (.int .u8 (c.toNat : Int), false)] σ = some (.ret [(.nilIface, false)], σ.set b (bcell b true (L ++ [c]))) :=
  wbyte_lim (n := 0) <| by
    obtain ⟨hlt, hget⟩ := List.getElem?_eq_some_iff.1 h
    simp only [wbyte, wbyteF, callK_ret0 (copyCheck_law h)]
    rw [memTakeB (c := (.ptr 63 b 0, false)) (v := .slice 1 5 (bytesL L)) (by simp [hlt, bcell])]
    simp only [Option.bind_some, V.asSlice, and_self, if_true]
    rw [bytesL_length, room_ok hr]
    rw [memSetB (c := (.ptr 63 b 0, false)) (c' := (.slice 1 5 (bytesL L), false)) (by simp [hlt])]
    simp only [grd, cond_true, Option.bind_some, List.set_set, bcell, bytesL_append]
    rfl
theorem callK_ret2 {call : CallF} {f : FuncId} {args : List Cell} {σ σ' : Sto} {K : List Cell → Sto → Option Res} {KP : V → Sto → Option Res} {c d : Cell} (h : call f args σ = some (.ret [c, d], σ')) :
    callK call f args σ 2 K KP = K [c, d] σ' := callK_ret h rfl

def kidsL : List Lv → List UInt8
  | [] => [41]
  | c :: L => 32 :: (printL c ++ kidsL L)
theorem write_loop (call : CallF) (n : Nat) {L : List Lv} (hb : L.length < 2 ^ 61) (b : Nat)
    (h1 : ∀ (σ : Sto) (X : List UInt8) (c : UInt8), σ[b]? = some (bcell b true X) → X.length + 1 < 2 ^ 34 → call 49 [(.ptr 63 b 0, false), (.int .u8 (c.toNat : Int), false)] σ = some (.ret [(.nilIface, false)], σ.set b (bcell b true (X ++ [c]))))
    (h : ∀ d ∈ L, ∀ (σ : Sto) (X : List UInt8), σ[b]? = some (bcell b true X) → X.length + (printL d).length < 2 ^ 34 →
      call 30 [(.ptr 63 b 0, false), (.agg [.int .i64 d.kind, .str d.name, .slice 3 31 d.args], false)] σ = some (.ret [], σ.set b (bcell b true (X ++ printL d)))) :
    ∀ (m i : Nat) (X : List UInt8) (σ : Sto), i ≤ L.length → L.length - i < m → X.length + (kidsL (L.drop i)).length < 2 ^ 34 → σ[b]? = some (bcell b true X) →
      writel0 call n m b (L.map Lv.enc) L.length i σ = some (.ret [], σ.set b (bcell b true (X ++ kidsL (L.drop i))))
  | 0, i, _, _, _, hm, _, _ => by omega
  | m + 1, i, X, σ, hi, hm, hs, hσ => by
    show writes0 call (writel0 call n m) b (L.map Lv.enc) L.length i σ = _
    unfold writes0
    rw [List.length_map]
    obtain ⟨hblt, hget⟩ := List.getElem?_eq_some_iff.1 hσ
    by_cases hlt : i < L.length
    · have hc := List.getElem?_eq_getElem hlt
      rw [drop_cons hc] at hs
      simp only [kidsL, List.length_cons, List.length_append] at hs
      have e1 : call 49 [(.ptr 63 b 0, false), (.int .u8 32, false)] σ = some (.ret [(.nilIface, false)], σ.set b (bcell b true (X ++ [32]))) := h1 σ X 32 hσ (by omega)
      have e2 := h _ (List.getElem_mem hlt) (σ.set b (bcell b true (X ++ [32]))) (X ++ [32]) (by simp [hblt]) (by simp; omega)
      rw [d0, dlt hlt, kid_get hc, L[i].cells, drop_cons hc]
      simp only [cond_true, Bool.and_self, grd, Option.bind_some, callK_ret1 e1, callK_ret0 e2, wrap_succ (show i < 2 ^ 61 by omega), kidsL]
      rw [write_loop call n hb b h1 h m (i + 1) (X ++ [32] ++ printL L[i]) _ (by omega) (by omega) (by simp; omega) (by simp [hblt])]
      simp [List.set_set]
    · rw [dnlt hlt, List.drop_eq_nil_of_le (by omega)]
      rw [List.drop_eq_nil_of_le (by omega)] at hs
      simp only [kidsL, List.length_cons, List.length_nil] at hs
      have e1 : call 49 [(.ptr 63 b 0, false), (.int .u8 41, false)] σ = some (.ret [(.nilIface, false)], σ.set b (bcell b true (X ++ [41]))) := h1 σ X 41 hσ (by omega)
      simp only [cond_false, callK_ret1 e1, kidsL]
theorem write_law (b : Nat) : ∀ (l : Lv) (σ : Sto) (u : Bool) (X : List UInt8), σ[b]? = some (bcell b u X) → X.length + (printL l).length < 2 ^ 34 →
    lim C 30 [(.ptr 63 b 0, false), (.agg [.int .i64 l.kind, .str l.name, .slice 3 31 l.args], false)] σ = some (.ret [], σ.set b (bcell b true (X ++ printL l))) :=
  Lv.ind fun l ih σ u X hσ hb => write_lim (n := 4) <| by
    obtain ⟨hblt, hget⟩ := List.getElem?_eq_some_iff.1 hσ
    have hlen : (l.args.length : Int) = (l.kids.length : Int) := by simp [Lv.args]
    have loop := fun (X : List UInt8) (σ : Sto) (h1 : X.length + (kidsL l.kids).length < 2 ^ 34) (h2 : σ[b]? = some (bcell b true X)) =>
      write_loop (lim C) 4 (L := l.kids) (by have := kids_few l; omega) b (fun σ X c h1 h2 => wbyte_law h1 c h2) (fun d hd σ X h1 h2 => ih d hd σ true X h1 h2) 4 0 X σ (by omega) (by have := kids_few l; omega) (by simpa using h1) h2
    simp only [List.drop_zero] at loop
    cases l with
    | zero =>
      have h1 := wstring_law hσ [48] (by simpa [printL] using hb)
      have e1 : ByteArray.mk #[48] = ba [48] := rfl
      simp only [write, writeF, Lv.kind, beq_self_eq_true, cond_true, e1, callK_ret2 h1, printL]
    | param s =>
      have h1 := wstring_law hσ s.data.toList (by simpa [printL] using hb)
      rw [ba_of] at h1
      simp only [write, writeF, Lv.kind, Lv.name, callK_ret2 h1, printL]
      rfl
    | succ l =>
      have h1 := wstring_law hσ [40, 115] (by simp [printL] at hb ⊢; omega)
      have h2 := loop (X ++ [40, 115]) (σ.set b (bcell b true (X ++ [40, 115]))) (by simp [Lv.kids, kidsL, printL] at hb ⊢; omega) (by simp [hblt])
      have e1 : ByteArray.mk #[40] = ba [40] := rfl
      have e2 : ByteArray.mk #[115] = ba [115] := rfl
      have hm : (memGet [] (V.eptr 4 [(V.str (ByteArray.mk #[])), (V.str (ByteArray.mk #[115])), (V.str (ByteArray.mk #[109, 97, 120])), (V.str (ByteArray.mk #[105, 109, 97, 120]))] (0 + Int.toNat (1 : Int) * 1)) false 1) = some (V.str (ba [115])) := rfl
      have hr : strRoom (ba [40]) (ba [115]) = true := strRoom_ok (by simp [ba_size])
      have h1' : callK (lim C) 48 [(.ptr 63 b 0, false), (.str (ba ([40] ++ [115])), false)] σ 2 = fun K KP => K [(.int .i64 ([40, 115] : List UInt8).length, false), (.nilIface, false)] (σ.set b (bcell b true (X ++ [40, 115]))) := by
        funext K KP; exact callK_ret2 h1
      simp only [write, writeF, Lv.kind, Int.reduceBEq, cond_false, hm, e1, Option.bind_some, V.asStr, hr, ba_append, h1']
      rw [hlen]
      simp only [Lv.args]
      refine Eq.trans (show _ = _ from h2) ?_
      simp [List.set_set, Lv.kids, kidsL, printL]
    | max x y =>
      have h1 := wstring_law hσ [40, 109, 97, 120] (by simp [printL] at hb ⊢; omega)
      have h2 := loop (X ++ [40, 109, 97, 120]) (σ.set b (bcell b true (X ++ [40, 109, 97, 120]))) (by simp [Lv.kids, kidsL, printL] at hb ⊢; omega) (by simp [hblt])
      have e1 : ByteArray.mk #[40] = ba [40] := rfl
      have hm : (memGet [] (V.eptr 4 [(V.str (ByteArray.mk #[])), (V.str (ByteArray.mk #[115])), (V.str (ByteArray.mk #[109, 97, 120])), (V.str (ByteArray.mk #[105, 109, 97, 120]))] (0 + Int.toNat (2 : Int) * 1)) false 1) = some (V.str (ba [109, 97, 120])) := rfl
      have hr : strRoom (ba [40]) (ba [109, 97, 120]) = true := strRoom_ok (by simp [ba_size])
      have h1' : callK (lim C) 48 [(.ptr 63 b 0, false), (.str (ba ([40] ++ [109, 97, 120])), false)] σ 2 = fun K KP => K [(.int .i64 ([40, 109, 97, 120] : List UInt8).length, false), (.nilIface, false)] (σ.set b (bcell b true (X ++ [40, 109, 97, 120]))) := by
        funext K KP; exact callK_ret2 h1
      simp only [write, writeF, Lv.kind, Int.reduceBEq, cond_false, hm, e1, Option.bind_some, V.asStr, hr, ba_append, h1']
      rw [hlen]
      simp only [Lv.args]
      refine Eq.trans (show _ = _ from h2) ?_
      simp [List.set_set, Lv.kids, kidsL, printL]
    | imax x y =>
      have h1 := wstring_law hσ [40, 105, 109, 97, 120] (by simp [printL] at hb ⊢; omega)
      have h2 := loop (X ++ [40, 105, 109, 97, 120]) (σ.set b (bcell b true (X ++ [40, 105, 109, 97, 120]))) (by simp [Lv.kids, kidsL, printL] at hb ⊢; omega) (by simp [hblt])
      have e1 : ByteArray.mk #[40] = ba [40] := rfl
      have hm : (memGet [] (V.eptr 4 [(V.str (ByteArray.mk #[])), (V.str (ByteArray.mk #[115])), (V.str (ByteArray.mk #[109, 97, 120])), (V.str (ByteArray.mk #[105, 109, 97, 120]))] (0 + Int.toNat (3 : Int) * 1)) false 1) = some (V.str (ba [105, 109, 97, 120])) := rfl
      have hr : strRoom (ba [40]) (ba [105, 109, 97, 120]) = true := strRoom_ok (by simp [ba_size])
      have h1' : callK (lim C) 48 [(.ptr 63 b 0, false), (.str (ba ([40] ++ [105, 109, 97, 120])), false)] σ 2 = fun K KP => K [(.int .i64 ([40, 105, 109, 97, 120] : List UInt8).length, false), (.nilIface, false)] (σ.set b (bcell b true (X ++ [40, 105, 109, 97, 120]))) := by
        funext K KP; exact callK_ret2 h1
      simp only [write, writeF, Lv.kind, Int.reduceBEq, cond_false, hm, e1, Option.bind_some, V.asStr, hr, ba_append, h1']
      rw [hlen]
      simp only [Lv.args]
      refine Eq.trans (show _ = _ from h2) ?_
      simp [List.set_set, Lv.kids, kidsL, printL]
theorem print_law (σ : Sto) (l : Lv) (hne : printL l ≠ []) (hb : (printL l).length < 2 ^ 33) :
    lim C 15 [(.agg [.int .i64 l.kind, .str l.name, .slice 3 31 l.args], false)] σ = some (.ret [(.str (ba (printL l)), false)], σ ++ [bcell σ.length true (printL l)]) :=
  print_lim (n := 0) <| by
    have h1 := write_law σ.length l (σ ++ [bcell σ.length false []]) false [] (by simp) (by simp; omega)
    have hset : (σ ++ [bcell σ.length false []]).set σ.length (bcell σ.length true ([] ++ printL l)) = σ ++ [bcell σ.length true (printL l)] := by
      rw [List.set_append_right _ _ (Nat.le_refl _)]; simp
    rw [hset] at h1
    have h2 : lim C 31 [(.ptr 63 σ.length 0, false)] (σ ++ [bcell σ.length true (printL l)]) = some (.ret [(.str (ba (printL l)), false)], σ ++ [bcell σ.length true (printL l)]) := by
      refine lim_ext (s := bldStringS 63 5) (by kernel_rfl) ?_
      simp only [bldStringS, if_true]
      rw [show (σ ++ [bcell σ.length true (printL l)])[σ.length]? = some (bcell σ.length true (printL l)) by simp]
      have hn : bytesL (printL l) ≠ [] := by
        intro h0
        have := bytesL_length (printL l)
        rw [h0] at this
        exact hne (List.length_eq_zero_iff.1 this.symm)
      simp only [bcell, cond_true]
      rw [if_pos ⟨trivial, hn, by rw [bytesL_length]; exact room_ok (by omega)⟩, unbytes_bytesL]
      rfl
    have e0 : [(V.nilp, false), ((V.slice 1 5 []), true)] = bcell σ.length false [] := rfl
    simp only [print, printF, e0, callK_ret0 h1, callK_ret1 h2]
    rfl
end Go.Ab.Mk
