/- Functions and calls as a whole. What the printed functions are made of. Without fuel: what a call comes to at any depth of fuel, as one function; a function's run over it is met at some depth. -/
import Derived.Test.YtkecplbpffhdnaaGreatDoorAbCode
import Derived.KernelRfl
set_option linter.unusedSimpArgs false
set_option linter.unusedVariables false
set_option linter.deprecated false
section
namespace Go.Ab
section
variable {P : Program} {C : Ctx} {H : Hints} {call : CallF}

/-- The results, read one by one: each token goes to the result's place. -/
theorem resCells_sound (hC : CtxOk P C) : ∀ (rs : List ResultVar) (k : Nat) (st : St) (vs : List Cell) (G : Gh) (lam : Nat → Nat) (a : Act) (w : World), resCells C st rs = some vs → Inv C.glob G lam a w st →
    ∃ (G' : Gh) (cs : List Value), (rs.mapM (fun (r : ResultVar) => match r with | .tmp t => (pure (a.tmps.getD t undef) : Sem Value) | .cell ad t => do loadVar t (← asAddr (a.tmps.getD ad undef)))).run P w = .ok cs w ∧ cs.length = vs.length ∧ Ext G w G' w ∧ SInv C.glob G' w st.sto ∧ G'.N = G.N ∧
      (∀ i p, G'.owner i = some p → G.owner i = some p ∨ ∃ j, k ≤ j ∧ p = .res j) ∧ (∀ i j, G.owner i = some (.res j) → j < k → G'.owner i = some (.res j) ∧ G'.lim i = G.lim i) ∧
      ∀ (i : Nat) c x, vs[i]? = some c → cs[i]? = some x → CRel G' w (.res (k + i)) c x
  | [], k, st, vs, G, lam, a, w, h, hI => by
    simp [resCells] at h
    subst h
    exact ⟨G, [], by simp, rfl, Ext.refl _ _, hI.sto, rfl, fun i p hp => .inl hp, fun i j hj _ => ⟨hj, rfl⟩, by simp⟩
  | .tmp t :: rest, k, st, vs, G, lam, a, w, h, hI => by
    simp only [resCells] at h
    split at h
    · rename_i v ow hv
      obtain ⟨vs', h1, h2⟩ := bind2 h
      obtain rfl := Option.some.inj h2
      have hr := eval_reg hI t
      rw [hv] at hr
      have hcl := hI.clear [t]
      -- the token goes to the result's place
      have tok : ∃ G1, Ext G w G1 w ∧ Inv C.glob G1 lam a w (st.clear [t]) ∧ G1.N = G.N ∧ CRel G1 w (.res k) (v, ow) (a.tmps.getD t undef) ∧
          (∀ i p, G1.owner i = some p → G.owner i = some p ∨ p = .res k) ∧ (∀ i j, G.owner i = some (.res j) → j < k → G1.owner i = some (.res j) ∧ G1.lim i = G.lim i) := by
        cases ow with
        | false => exact ⟨G, Ext.refl _ _, hcl, rfl, ⟨hr.1, fun ho => by simp at ho⟩, fun i p hp => .inl hp, fun i j hj _ => ⟨hj, rfl⟩⟩
        | true =>
          have ho := hr.2 rfl
          have hnf := clear_not_flagged (st := st) [t] t (by simp)
          by_cases hd : ∃ (kk : Nat) (et : TypeId) (es : List (List V)) (ad : Addr) (n cap : Nat), v = V.slice kk et es ∧ a.eval (.tmp t) = .slice (some ad) n cap
          · obtain ⟨kk, et, es, ad, n, cap, rfl, hev⟩ := hd
            rw [hev] at ho
            obtain ⟨q1, q2, q3, q4, q5⟩ := ho
            · let G1 : Gh := { G with owner := upd G.owner ad.block (some (.res k)) }
              have hE : Ext G w G1 w := ⟨Nat.le_refl _, fun _ _ => rfl, fun _ _ => rfl, fun _ => Nat.le_refl _, fun _ _ _ => rfl, rfl, rfl, rfl, Nat.le_refl _, fun i _ hi => ⟨rfl, rfl, by
                show upd G.owner ad.block _ i = none
                rw [upd_other]
                · exact hi
                · rintro rfl; rw [q3] at hi; simp at hi⟩⟩
              refine ⟨G1, hE, ?_, rfl, ⟨rel_owner hr.1 _, fun _ => ?_⟩, fun i p hp => ?_, fun i j hj hjk => ⟨?_, rfl⟩⟩
              · refine hcl.move hE ⟨fun i p hp hf => ⟨rfl, rfl, ?_⟩⟩ (fun i hi => ⟨(hI.sto.wf i hi).1, ?_⟩) rfl
                · show upd G.owner ad.block _ i = some p
                  rw [upd_other]
                  · exact hp
                  · rintro rfl
                    rw [q3] at hp
                    obtain rfl := Option.some.inj hp
                    rcases hf with hf | ⟨r, hr⟩ | ⟨b, hb⟩
                    · exact hnf hf
                    · simp at hr
                    · simp at hb
                · show upd G.owner ad.block _ i = none
                  rw [upd_other]
                  · exact (hI.sto.wf i hi).2
                  · rintro rfl; rw [(hI.sto.wf _ hi).2] at q3; simp at q3
              · have hev' : a.tmps.getD t undef = .slice (some ad) n cap := hev
                rw [hev']
                exact ⟨q1, q2, by show upd G.owner _ _ _ = _; simp, q4, q5⟩
              · have hp' : upd G.owner ad.block (some (.res k)) i = some p := hp
                by_cases hi : i = ad.block
                · subst hi; simp at hp'; exact .inr hp'.symm
                · rw [upd_other _ _ hi] at hp'; exact .inl hp'
              · show upd G.owner ad.block _ i = _
                rw [upd_other]
                · exact hj
                · rintro rfl; rw [q3] at hj; simp at hj
          · refine ⟨G, Ext.refl _ _, hcl, rfl, ⟨hr.1, fun _ => ?_⟩, fun i p hp => .inl hp, fun i j hj _ => ⟨hj, rfl⟩⟩
            have hev' : a.tmps.getD t undef = a.eval (.tmp t) := rfl
            rw [hev']
            unfold Own at ho ⊢
            split at ho
            · rename_i kk et es ad n cap hvv heq
              exact absurd ⟨kk, et, es, ad, n, cap, hvv, heq⟩ hd
            · exact ho
            · trivial
      obtain ⟨G1, t1, t2, t3, t4, t5, t6⟩ := tok
      obtain ⟨G', cs, e1, e2, e3, e4, e5, e6, e7, e8⟩ := resCells_sound hC rest (k + 1) _ vs' G1 lam a w h1 t2
      refine ⟨G', a.tmps.getD t undef :: cs, ?_, by simp [e2], t1.trans e3, e4, e5.trans t3, fun i p hp => ?_, fun i j hj hjk => ?_, fun i c x hc hx => ?_⟩
      · simp only [List.mapM_cons, Sem.run_bind, Sem.run_pure, Result.andThen_ok]
        rw [e1]
        rfl
      · rcases e6 i p hp with hh | ⟨j, hj, rfl⟩
        · rcases t5 i p hh with hh | rfl
          · exact .inl hh
          · exact .inr ⟨k, Nat.le_refl _, rfl⟩
        · exact .inr ⟨j, by omega, rfl⟩
      · obtain ⟨u1, u2⟩ := t6 i j hj hjk
        obtain ⟨u3, u4⟩ := e7 i j u1 (by omega)
        exact ⟨u3, u4.trans u2⟩
      · cases i with
        | zero =>
          simp at hc hx
          subst hc; subst hx
          have := t4.move e3 fun _ i hi => ⟨rfl, (e7 i k hi (by omega)).2, (e7 i k hi (by omega)).1⟩
          simpa using this
        | succ i =>
          simp at hc hx
          have := e8 i c x hc hx
          rw [show k + 1 + i = k + (i + 1) by omega] at this
          exact this
    · simp at h
  | .cell ad t :: rest, k, st, vs, G, lam, a, w, h, hI => by
    simp only [resCells] at h
    obtain ⟨i, hi, h⟩ := bind2 h
    have hT := hC.T t i hi
    have fin : ∀ v vs', resCells C st rest = some vs' → vs = (v, false) :: vs' → ∀ b o x, a.tmps.getD ad undef = .pointer (some ⟨b, o, none⟩) → (loadVar t ⟨b, o, none⟩).run P w = .ok x w → Rel G w v x →
        ∃ (G' : Gh) (cs : List Value), ((ResultVar.cell ad t :: rest).mapM (fun (r : ResultVar) => match r with | .tmp t => (pure (a.tmps.getD t undef) : Sem Value) | .cell ad t => do loadVar t (← asAddr (a.tmps.getD ad undef)))).run P w = .ok cs w ∧ cs.length = vs.length ∧ Ext G w G' w ∧ SInv C.glob G' w st.sto ∧ G'.N = G.N ∧
        (∀ i p, G'.owner i = some p → G.owner i = some p ∨ ∃ j, k ≤ j ∧ p = .res j) ∧ (∀ i j, G.owner i = some (.res j) → j < k → G'.owner i = some (.res j) ∧ G'.lim i = G.lim i) ∧
        ∀ (i : Nat) c x, vs[i]? = some c → cs[i]? = some x → CRel G' w (.res (k + i)) c x := by
      intro v vs' h1 hvs b o x hp hrun hrel
      obtain ⟨G', cs, e1, e2, e3, e4, e5, e6, e7, e8⟩ := resCells_sound hC rest (k + 1) _ vs' G lam a w h1 hI
      subst hvs
      refine ⟨G', x :: cs, ?_, by simp [e2], e3, e4, e5, fun i p hp => ?_, fun i j hj hjk => e7 i j hj (by omega), fun i c y hc hy => ?_⟩
      · have hl : ((match (ResultVar.cell ad t) with | .tmp t => (pure (a.tmps.getD t undef) : Sem Value) | .cell ad t => do loadVar t (← asAddr (a.tmps.getD ad undef)))).run P w = .ok x w := by
          simp only [Sem.run_bind, hp, asAddr, Sem.run_pure, Result.andThen_ok, hrun]
        rw [List.mapM_cons, Sem.run_bind, hl, Result.andThen_ok, Sem.run_bind, e1]
        rfl
      · rcases e6 i p hp with hh | ⟨j, hj, rfl⟩
        · exact .inl hh
        · exact .inr ⟨j, by omega, rfl⟩
      · cases i with
        | zero =>
          simp at hc hy
          subst hc; subst hy
          exact ⟨hrel.mono e3, fun ho => by simp at ho⟩
        | succ i =>
          simp at hc hy
          have := e8 i c y hc hy
          rw [show k + 1 + i = k + (i + 1) by omega] at this
          exact this
    split at h
    · rename_i r o hr
      obtain ⟨v, hv, h1⟩ := bind2 h
      obtain ⟨vs', h2, h3⟩ := bind2 h1
      have hp := eval_reg hI ad
      rw [hr] at hp
      obtain ⟨x, e1, e2⟩ := gather_rel (P := P) hT (locs_ok hI r) hv
      exact fin v vs' h2 (Option.some.inj h3).symm _ _ x hp e1 e2
    · rename_i p ow hr
      obtain ⟨v, hv, h1⟩ := bind2 h
      obtain ⟨vs', h2, h3⟩ := bind2 h1
      have hp := eval_reg hI ad
      rw [hr] at hp
      obtain ⟨x, e1, e2⟩ := memGet_run hC hI hi hp.1 hv
      have hpt : ∃ b o, a.tmps.getD ad undef = .pointer (some ⟨b, o, none⟩) := by
        have hp1 := hp.1
        have hev : a.eval (.tmp ad) = a.tmps.getD ad undef := rfl
        rw [hev] at hp1
        cases p with
        | ptr tt b o => generalize a.tmps.getD ad undef = q at hp1; cases hp1; exact ⟨_, _, rfl⟩
        | eptr kk e o => generalize a.tmps.getD ad undef = q at hp1; cases hp1; exact ⟨_, _, rfl⟩
        | _ => simp [memGet] at hv
      obtain ⟨b, o, hb⟩ := hpt
      have hev : a.eval (.tmp ad) = .pointer (some ⟨b, o, none⟩) := hb
      rw [hev] at e1
      simp only [Instr.loadAt, Instr.sureAddr, Sem.run_bind, Sem.run_pure, Result.andThen_ok] at e1
      exact fin v vs' h2 (Option.some.inj h3).symm b o x hb e1 e2
    · simp at h

theorem afun_sound (hC : CtxOk P C) (hcall : CallOk P C call) {f : FuncId} {d : FDef} (hf : P.funcs[f]? = some d.fn) (hbody : d.fn.body = some d.code) {n : Nat} {args : List Cell} {σ : Sto} {r : Res} (h : afun C d call n args σ = some r)
    (G : Gh) (w : World) (vals : List Value) (hS : SInv C.glob G w σ) (hcl : Clean G args.length) (hlen : vals.length = args.length) (hv : ∀ (i : Nat) c x, args[i]? = some c → vals[i]? = some x → CRel G w (.reg i) c x) :
    Calls P f vals.toArray w fun en w' => ∃ G', Ext G w G' w' ∧ SInv C.glob G' w' r.2 ∧ EndRel G' w' r.1 en := by
  simp only [afun] at h
  split at h
  · rename_i hle
    obtain ⟨ex, st, h1, h2⟩ := aexec_sound hC hcall n d.code 0 _ _ r h
    refine calls_of_wp hf hbody ?_
    let a0 : Act := { tmps := vals.toArray ++ Array.replicate (d.fn.ntmps - vals.toArray.size) undef, defers := [] }
    have hI : Inv C.glob G (fun _ => 0) a0 w { regs := args.map (fun c => RV.val c.1 c.2) ++ List.replicate (d.fn.ntmps - args.length) .dead, locs := List.replicate d.fn.ntmps [], sto := σ } := by
      refine ⟨rfl, by simp [a0, hlen], by simp; omega, fun i x hx => ?_, fun i cs hc hne => ?_, hS⟩
      · by_cases hi : i < args.length
        · rw [List.getElem?_append_left (by simpa using hi), List.getElem?_map, Option.map_eq_some_iff] at hx
          obtain ⟨c, hc, rfl⟩ := hx
          have hi' : i < vals.length := by omega
          have := hv i c vals[i] hc (List.getElem?_eq_getElem hi')
          have hg : a0.tmps.getD i undef = vals[i] := by
            simp only [a0, Array.getD_eq_getD_getElem?]
            rw [Array.getElem?_append_left (by simpa using hi')]
            simp [hi']
          rw [hg]
          exact this
        · rw [List.getElem?_append_right (by simp; omega)] at hx
          obtain ⟨_, hx⟩ := List.getElem?_eq_some_iff.1 hx
          simp at hx
          subst hx
          trivial
      · obtain ⟨_, hc⟩ := List.getElem?_eq_some_iff.1 hc
        simp at hc
        exact absurd hc hne
    have hw := h2 G _ a0 w hI
    refine wp_mono hw fun e a' w' hq => ?_
    have finish : (e = .normal ∨ e = .ret) → (∃ vs, resCells C st d.fn.results.toList = some vs ∧ r = (.ret vs, st.sto)) → (∃ G' lam', Ext G w G' w' ∧ Inv C.glob G' lam' a' w' st) → bodyPost P d.fn (fun en w' => ∃ G', Ext G w G' w' ∧ SInv C.glob G' w' r.2 ∧ EndRel G' w' r.1 en) e a' w' := by
      rintro he ⟨vs, hvs, rfl⟩ ⟨G1, lam1, x1, i1⟩
      obtain ⟨G', cs, e1, e2, e3, e4, e5, e6, e7, e8⟩ := resCells_sound hC d.fn.results.toList 0 st vs G1 lam1 a' w' hvs i1
      have hres : (results d.fn a'.tmps).run P w' = .ok (if h : cs.toArray.size = 1 then cs.toArray[0] else .tuple cs.toArray) w' := by
        unfold results
        rw [Sem.run_bind, Array.mapM_eq_mapM_toList]
        simp only [Sem.run_map]
        exact congrArg (fun z : Result (List Value) => (z.andThen fun a w' => Result.ok a.toArray w').andThen fun a w' => Sem.run P (pure (if h : a.size = 1 then a[0] else Value.tuple a)) w') e1
      have hpost : a'.defers = [] ∧ ∃ v, (results d.fn a'.tmps).run P w' = .ok v w' ∧ ∃ G', Ext G w G' w' ∧ SInv C.glob G' w' st.sto ∧ EndRel G' w' (.ret vs) (.returned v) := by
        refine ⟨i1.defers, _, hres, ?_⟩
        -- what is kept: the store's and the results' holdings
        let G2 : Gh := { G' with owner := fun i => match G'.owner i with | some (.blk b) => some (.blk b) | some (.gc b j) => some (.gc b j) | some (.res j) => some (.res j) | _ => none }
        have hE : Ext G' w' G2 w' := ⟨Nat.le_refl _, fun _ _ => rfl, fun _ _ => rfl, fun _ => Nat.le_refl _, fun _ _ _ => rfl, rfl, rfl, rfl, Nat.le_refl _, fun i _ hi => ⟨rfl, rfl, by simp [G2, hi]⟩⟩
        refine ⟨G2, (x1.trans e3).trans hE, ⟨fun i hi => ⟨(e4.wf i hi).1, by simp [G2, (e4.wf i hi).2]⟩, fun g cs hg => (e4.glob g cs hg).mono hE, e4.N, e4.typed, fun b cs hb => ?_⟩, cs, e2, rfl, fun i c x hc hx => ?_⟩
        · obtain ⟨cv, el, g1, g2, g3, g4, g5⟩ := e4.blk b cs hb
          refine ⟨cv, el, g1, g2, ?_, g4, fun j c x hc hx => ⟨(g5 j c x hc hx).1.move hE fun _ i hi => ⟨rfl, rfl, by simp [G2, hi]⟩, (g5 j c x hc hx).2⟩⟩
          show (match G'.owner (G'.μ b) with | some (Place.blk b) => some (Place.blk b) | some (Place.gc b j) => some (Place.gc b j) | some (Place.res j) => some (Place.res j) | _ => none) = some (Place.blk b)
          rw [g3]
        · have := e8 i c x hc hx
          rw [Nat.zero_add] at this
          exact this.move hE fun _ i hi => ⟨rfl, rfl, by simp [G2, hi]⟩
      rcases he with rfl | rfl <;> exact hpost
    cases ex with
    | normal =>
      obtain ⟨rfl, hh⟩ := hq
      simp only [kfin] at h1
      obtain ⟨vs, hvs, h1⟩ := bind2 h1
      exact finish (.inl rfl) ⟨vs, hvs, (Option.some.inj h1).symm⟩ hh
    | ret =>
      obtain ⟨rfl, hh⟩ := hq
      simp only [kfin] at h1
      obtain ⟨vs, hvs, h1⟩ := bind2 h1
      exact finish (.inr rfl) ⟨vs, hvs, (Option.some.inj h1).symm⟩ hh
    | pan v =>
      obtain ⟨c, G', rfl, q1, q2, q3, q4⟩ := hq
      simp only [kfin] at h1
      obtain rfl := Option.some.inj h1
      exact ⟨q4, G', q2, q3, c, rfl, q1⟩
    | exit i => simp [kfin] at h1
  · simp at h

/-- The contracts that are proved by hand. -/
def ExtOk (P : Program) (C : Ctx) : Prop := ∀ f s, C.ext f = some s → CallOk P C (fun g args σ => if g = f then s args σ else none)

theorem mask_length (own : List Nat) : ∀ (i : Nat) (cs : List Cell), (maskArgs own i cs).length = cs.length
  | _, [] => rfl
  | i, c :: cs => by simp [maskArgs, mask_length own (i + 1) cs]
theorem mask_get (own : List Nat) : ∀ (i : Nat) (cs : List Cell) (j : Nat) (c : Cell), (maskArgs own i cs)[j]? = some c → ∃ b, cs[j]? = some b ∧ c.1 = b.1 ∧ (c.2 = true → b.2 = true)
  | i, [], j, c, h => by simp [maskArgs] at h
  | i, b :: cs, 0, c, h => by
    simp only [maskArgs, List.getElem?_cons_zero, Option.some.injEq] at h
    subst h
    exact ⟨b, rfl, rfl, fun h => by simp at h; exact h.2⟩
  | i, b :: cs, j + 1, c, h => by
    simp only [maskArgs, List.getElem?_cons_succ] at h
    simpa using mask_get own (i + 1) cs j c h

theorem acall_sound (hC : CtxOk P C) (hX : ExtOk P C) : ∀ n, CallOk P C (acall C n)
  | 0 => fun f args σ r h => by simp [acall] at h
  | n + 1 => fun f args σ r h => by
    simp only [acall] at h
    split at h
    · rename_i s hs
      have := hX f s hs f args σ r (by simp [h])
      exact this
    · split at h
      · rename_i d hd
        obtain ⟨h1, h2, h3⟩ := hC.fdef f d hd
        exact ⟨h3, fun G w vals hS hcl hl hv => afun_sound hC (acall_sound hC hX n) h1 h2 h G w vals hS (by rw [mask_length]; exact hcl) (by rw [mask_length]; exact hl) fun i c x hc hx => by
          obtain ⟨b, e1, e2, e3⟩ := mask_get _ _ _ _ _ hc
          have := hv i b x e1 hx
          exact ⟨by rw [e2]; exact this.1, fun ho => by rw [e2]; exact this.2 (e3 ho)⟩⟩
      · simp at h
end
end Go.Ab
end
section
namespace Go.Ab

def codeL : Code → Code
  | .seq a _ => a
  | .cond _ a _ => a
  | .block _ b => b
  | .loop b => b
  | c => c
def codeR : Code → Code
  | .seq _ b => b
  | .cond _ _ b => b
  | c => c

/-- A call, and what goes on behind it. -/
def callK (call : CallF) (f : FuncId) (args : List Cell) (σ : Sto) (n : Nat) (K : List Cell → Sto → Option Res) (KP : V → Sto → Option Res) : Option Res :=
  match call f args σ with
  | none => none
  | some r => match r.1 with
    | .ret vs => if vs.length = n then K vs r.2 else none
    | .pan v => KP v r.2

theorem callK_ret {call : CallF} {f : FuncId} {args : List Cell} {σ σ' : Sto} {n : Nat} {K : List Cell → Sto → Option Res} {KP : V → Sto → Option Res} {vs : List Cell} (h : call f args σ = some (.ret vs, σ')) (hn : vs.length = n) :
    callK call f args σ n K KP = K vs σ' := by simp [callK, h, hn]
theorem callK_pan {call : CallF} {f : FuncId} {args : List Cell} {σ σ' : Sto} {n : Nat} {K : List Cell → Sto → Option Res} {KP : V → Sto → Option Res} {v : V} (h : call f args σ = some (.pan v, σ')) :
    callK call f args σ n K KP = KP v σ' := by simp [callK, h]

/-- A table of types. -/
def look : List (TypeId × TI) → TypeId → Option TI
  | [], _ => none
  | (t, i) :: rest, u => bif Nat.beq t u then some i else look rest u
end Go.Ab
end
section
namespace Go.Ab

/-- What the limit says, the family says from some place on. -/
def Conv {α : Type} (x : Nat → Option α) (l : Option α) : Prop := ∀ r, l = some r → ∃ k, ∀ j, k ≤ j → x j = some r

theorem Conv.none {α : Type} (x : Nat → Option α) : Conv x none := fun r h => by simp at h
theorem Conv.const {α : Type} (l : Option α) : Conv (fun _ => l) l := fun r h => ⟨0, fun _ _ => h⟩
theorem Conv.bindC {α β : Type} (o : Option α) {g : Nat → α → Option β} {f : α → Option β} (h : ∀ a, Conv (fun k => g k a) (f a)) : Conv (fun k => o.bind (g k)) (o.bind f) := by
  cases o with
  | none => exact Conv.none _
  | some a => exact h a
theorem Conv.bind {α β : Type} {o : Nat → Option α} {ol : Option α} {g : Nat → α → Option β} {f : α → Option β} (ho : Conv o ol) (h : ∀ a, Conv (fun k => g k a) (f a)) : Conv (fun k => (o k).bind (g k)) (ol.bind f) := by
  intro r hr
  cases hol : ol with
  | none => simp [hol] at hr
  | some a =>
    rw [hol] at hr
    obtain ⟨k1, h1⟩ := ho a hol
    obtain ⟨k2, h2⟩ := h a r hr
    exact ⟨max k1 k2, fun j hj => by show (o j).bind (g j) = _; rw [h1 j (by omega)]; exact h2 j (by omega)⟩
theorem Conv.ite {α : Type} (p : Prop) [Decidable p] {a b : Nat → Option α} {al bl : Option α} (ha : Conv a al) (hb : Conv b bl) : Conv (fun k => if p then a k else b k) (if p then al else bl) := by
  by_cases hp : p
  · simp only [if_pos hp]; exact ha
  · simp only [if_neg hp]; exact hb
theorem Conv.cond {α : Type} (p : Bool) {a b : Nat → Option α} {al bl : Option α} (ha : Conv a al) (hb : Conv b bl) : Conv (fun k => bif p then a k else b k) (bif p then al else bl) := by
  cases p
  · exact hb
  · exact ha

section
variable {C : Ctx} {H : Hints} {ck : Nat → CallF} {cl : CallF}

theorem apply_conv (hc : ∀ f a σ, Conv (fun k => ck k f a σ) (cl f a σ)) (dst : Option Nat) (st : St) {Ks : Nat → Out → Option Res} {Kl : Out → Option Res} (hK : ∀ o, Conv (fun k => Ks k o) (Kl o)) (e : Eff) :
    Conv (fun k => apply H (ck k) dst st (Ks k) e) (apply H cl dst st Kl e) := by
  cases e with
  | val x => exact hK _
  | getL r o n agg steal =>
    simp only [apply]
    refine Conv.ite _ ?_ ?_
    · exact Conv.ite _ (Conv.ite _ (hK _) (Conv.none _)) (Conv.none _)
    · exact Conv.bindC _ fun v => hK _
  | setL r o cs => exact Conv.ite _ (hK _) (Conv.none _)
  | newL cs =>
    cases dst with
    | none => exact Conv.none _
    | some d => exact Conv.ite _ (hK _) (Conv.none _)
  | getS p n agg => exact Conv.bindC _ fun v => hK _
  | takeS p => exact Conv.bindC _ fun v => hK _
  | setS p cs => exact Conv.bindC _ fun v => hK _
  | newS t cs =>
    cases dst with
    | none => exact Conv.none _
    | some d => exact hK _
  | tupTake r i =>
    simp only [apply]
    split
    · split
      · exact hK _
      · exact Conv.none _
    · exact Conv.none _
  | call f args n =>
    intro r hr
    simp only [apply] at hr ⊢
    split at hr
    · simp at hr
    · rename_i r1 hr1
      obtain ⟨k1, h1⟩ := hc f args st.sto r1 hr1
      have hrest : Conv (fun k => match r1.1 with
          | .ret vs => if vs.length = n then (grd (toksOk H dst n vs)).bind fun _ => Ks k (.next ({ st with sto := r1.2 }.put dst (resV H dst n vs))) else none
          | .pan v => Ks k (.pan v { st with sto := r1.2 })) (match r1.1 with
          | .ret vs => if vs.length = n then (grd (toksOk H dst n vs)).bind fun _ => Kl (.next ({ st with sto := r1.2 }.put dst (resV H dst n vs))) else none
          | .pan v => Kl (.pan v { st with sto := r1.2 })) := by
        split
        · exact Conv.ite _ (Conv.bindC _ fun _ => hK _) (Conv.none _)
        · exact hK _
      obtain ⟨k2, h2⟩ := hrest r hr
      refine ⟨max k1 k2, fun j hj => ?_⟩
      have h3 : ck j f args st.sto = some r1 := h1 j (by omega)
      rw [h3]
      exact h2 j (by omega)
  | pan v => exact hK _

theorem aop_conv (hc : ∀ f a σ, Conv (fun k => ck k f a σ) (cl f a σ)) (o : Oper) (st : St) {Ks : Nat → Out → Option Res} {Kl : Out → Option Res} (hK : ∀ o, Conv (fun k => Ks k o) (Kl o)) :
    Conv (fun k => aop C H (ck k) o st (Ks k)) (aop C H cl o st Kl) := by
  simp only [aop, actK_eq]
  exact Conv.bindC _ fun e => apply_conv hc _ _ hK e

theorem aops_conv (hc : ∀ f a σ, Conv (fun k => ck k f a σ) (cl f a σ)) (dr : Option (List (List Nat))) (ops : Array Oper) :
    ∀ (l : List Nat) (st : St) {Ks : Nat → Out → Option Res} {Kl : Out → Option Res} (_ : ∀ o, Conv (fun k => Ks k o) (Kl o)), Conv (fun k => aops C H (ck k) dr ops l st (Ks k)) (aops C H cl dr ops l st Kl)
  | [], st, Ks, Kl, hK => hK _
  | i :: rest, st, Ks, Kl, hK => by
    have step : ∀ (o : Oper) (st : St), Conv (fun k => aop C H (ck k) o st fun out => match out with | .next st => aops C H (ck k) dr ops rest st (Ks k) | .pan v st => (grd (panOk dr i rest)).bind fun _ => Ks k (.pan v st))
        (aop C H cl o st fun out => match out with | .next st => aops C H cl dr ops rest st Kl | .pan v st => (grd (panOk dr i rest)).bind fun _ => Kl (.pan v st)) := by
      intro o st
      refine aop_conv hc o st fun out => ?_
      cases out with
      | next st => exact aops_conv hc dr ops rest st hK
      | pan v st => exact Conv.bindC _ fun _ => hK _
    simp only [aops]
    split
    · exact Conv.none _
    · refine Conv.bindC _ fun _ => ?_
      split
      · exact step _ _
      · split
        · exact Conv.none _
        · split
          · refine Conv.bindC _ fun b => Conv.cond _ ?_ ?_
            · exact Conv.ite _ (step _ _) (aops_conv hc dr ops rest _ hK)
            · exact Conv.ite _ (aops_conv hc dr ops rest _ hK) (step _ _)
          · exact aops_conv hc dr ops rest _ hK
          · exact Conv.none _

theorem aloop_conv {body : Nat → St → (Ex → St → Option Res) → Option Res} {bodyl : St → (Ex → St → Option Res) → Option Res} (keep : List Nat)
    (hb : ∀ st (Ks : Nat → Ex → St → Option Res) (Kl : Ex → St → Option Res), (∀ ex st, Conv (fun k => Ks k ex st) (Kl ex st)) → Conv (fun k => body k st (Ks k)) (bodyl st Kl)) :
    ∀ (n : Nat) (ns : Nat → Nat) (_ : ∃ k0, ∀ k, k0 ≤ k → n ≤ ns k) (st : St) (Ks : Nat → Ex → St → Option Res) (Kl : Ex → St → Option Res), (∀ ex st, Conv (fun k => Ks k ex st) (Kl ex st)) →
      Conv (fun k => aloop (body k) keep (ns k) st (Ks k)) (aloop bodyl keep n st Kl)
  | 0, ns, hn, st, Ks, Kl, hK => Conv.none _
  | n + 1, ns, ⟨k0, hn⟩, st, Ks, Kl, hK => by
    have key : Conv (fun k => body k st (kloop keep (fun st' => aloop (body k) keep (ns k - 1) st' (Ks k)) (Ks k))) (bodyl st (kloop keep (fun st' => aloop bodyl keep n st' Kl) Kl)) := by
      refine hb st (fun k => kloop keep (fun st' => aloop (body k) keep (ns k - 1) st' (Ks k)) (Ks k)) _ fun ex st' => ?_
      cases ex with
      | normal => exact aloop_conv keep hb n (fun k => ns k - 1) ⟨k0, fun k hk => by have := hn k hk; omega⟩ _ Ks Kl hK
      | exit i => exact hK _ _
      | ret => exact hK _ _
      | pan v => exact hK _ _
    intro r hr
    obtain ⟨k1, h1⟩ := key r hr
    refine ⟨max k0 k1, fun j hj => ?_⟩
    have h2 := hn j (by omega)
    obtain ⟨m, hm⟩ : ∃ m, ns j = m + 1 := ⟨ns j - 1, by omega⟩
    have h3 : body j st (kloop keep (fun st' => aloop (body j) keep (ns j - 1) st' (Ks j)) (Ks j)) = some r := h1 j (by omega)
    show aloop (body j) keep (ns j) st (Ks j) = some r
    rw [hm] at h3 ⊢
    exact h3

theorem aexec_conv (hc : ∀ f a σ, Conv (fun k => ck k f a σ) (cl f a σ)) {n : Nat} {ns : Nat → Nat} (hn : ∃ k0, ∀ k, k0 ≤ k → n ≤ ns k) :
    ∀ (c : Code) (id : Nat) (st : St) (Ks : Nat → Ex → St → Option Res) (Kl : Ex → St → Option Res), (∀ ex st, Conv (fun k => Ks k ex st) (Kl ex st)) →
      Conv (fun k => aexec C H (ck k) (ns k) c id st (Ks k)) (aexec C H cl n c id st Kl)
  | .skip, _, st, Ks, Kl, hK => hK _ _
  | .label l, _, st, Ks, Kl, hK => hK _ _
  | .region id ops draw, _, st, Ks, Kl, hK => by
    have fin : ∀ out, Conv (fun k => match out with | Out.next st => Ks k .normal st | .pan v st => Ks k (.pan v) st) (match out with | .next st => Kl .normal st | .pan v st => Kl (.pan v) st) := by
      intro out
      cases out <;> exact hK _ _
    simp only [aexec]
    refine Conv.ite _ ?_ ?_
    · exact Conv.bindC _ fun _ => aops_conv hc _ _ _ _ fin
    · exact aops_conv hc _ _ _ _ fin
  | .seq x y, id, st, Ks, Kl, hK => by
    simp only [aexec]
    refine aexec_conv hc hn x 0 st (fun k => kseq (fun st' => aexec C H (ck k) (ns k) y 0 st' (Ks k)) (Ks k)) _ fun ex st' => ?_
    cases ex with
    | normal => exact aexec_conv hc hn y 0 st' Ks Kl hK
    | exit i => exact hK _ _
    | ret => exact hK _ _
    | pan v => exact hK _ _
  | .cond c x y, id, st, Ks, Kl, hK => by
    simp only [aexec]
    split
    · split
      · exact Conv.bindC _ fun b => Conv.cond _ (aexec_conv hc hn x 0 _ Ks Kl hK) (aexec_conv hc hn y 0 _ Ks Kl hK)
      · exact Conv.none _
    · exact Conv.ite _ (aexec_conv hc hn x 0 _ Ks Kl hK) (aexec_conv hc hn y 0 _ Ks Kl hK)
    · exact Conv.none _
  | .block i body, id, st, Ks, Kl, hK => by
    simp only [aexec]
    refine aexec_conv hc hn body i st (fun k => kblk i (Ks k)) _ fun ex st' => ?_
    cases ex with
    | normal => exact hK _ _
    | exit j => simp only [kblk]; exact Conv.ite _ (hK _ _) (hK _ _)
    | ret => exact hK _ _
    | pan v => exact hK _ _
  | .loop body, id, st, Ks, Kl, hK => by
    simp only [aexec]
    exact aloop_conv (body := fun k st K => aexec C H (ck k) (ns k) body 0 st K) (H.keep id) (fun st Ks Kl hK => aexec_conv hc hn body 0 st Ks Kl hK) n ns hn _ Ks Kl hK
  | .exit i, id, st, Ks, Kl, hK => hK _ _
  | .ret, id, st, Ks, Kl, hK => hK _ _
  | .rangeFunc .., id, st, Ks, Kl, hK => Conv.none _
  | .scope .., id, st, Ks, Kl, hK => Conv.none _
  | .goto _, id, st, Ks, Kl, hK => Conv.none _
  | .refuse _, id, st, Ks, Kl, hK => Conv.none _

theorem afun_conv (hc : ∀ f a σ, Conv (fun k => ck k f a σ) (cl f a σ)) {n : Nat} {ns : Nat → Nat} (hn : ∃ k0, ∀ k, k0 ≤ k → n ≤ ns k) (d : FDef) (args : List Cell) (σ : Sto) :
    Conv (fun k => afun C d (ck k) (ns k) args σ) (afun C d cl n args σ) := by
  simp only [afun]
  exact Conv.ite _ (aexec_conv hc hn _ _ _ (fun _ => kfin C d) (kfin C d) fun ex st => Conv.const _) (Conv.none _)

theorem acall_mono1 : ∀ (n m : Nat) (f : FuncId) (args : List Cell) (σ : Sto) (r : Res), n ≤ m → acall C n f args σ = some r → acall C m f args σ = some r
  | 0, m, f, args, σ, r, hm, h => by simp [acall] at h
  | n + 1, 0, f, args, σ, r, hm, h => by omega
  | n + 1, m + 1, f, args, σ, r, hm, h => by
    simp only [acall] at h ⊢
    split
    · rename_i s hs
      rw [hs] at h
      exact h
    · rename_i hs
      rw [hs] at h
      simp only at h
      split
      · rename_i d hd
        rw [hd] at h
        simp only at h
        obtain ⟨k, hk⟩ := afun_conv (ck := fun _ => acall C m) (ns := fun _ => m) (fun f a σ r hr => ⟨0, fun j _ => acall_mono1 n m f a σ r (by omega) hr⟩) ⟨0, fun k _ => (by omega : n ≤ m)⟩ d (maskArgs d.hints.own 0 args) σ r h
        exact hk k (Nat.le_refl _)
      · rename_i hd
        rw [hd] at h
        simp at h

/-- What a call comes to, at whatever depth. -/
noncomputable def lim (C : Ctx) : CallF := fun f args σ => open Classical in if h : ∃ r n, acall C n f args σ = some r then some h.choose else none

theorem lim_iff {f : FuncId} {args : List Cell} {σ : Sto} {r : Res} : lim C f args σ = some r ↔ ∃ n, acall C n f args σ = some r := by
  unfold lim
  constructor
  · intro h
    split at h
    · rename_i hx
      obtain rfl := Option.some.inj h
      exact hx.choose_spec
    · simp at h
  · rintro ⟨n, hn⟩
    have hx : ∃ r n, acall C n f args σ = some r := ⟨r, n, hn⟩
    rw [dif_pos hx]
    obtain ⟨m, hm⟩ := hx.choose_spec
    have h1 := acall_mono1 n (max n m) f args σ r (by omega) hn
    have h2 := acall_mono1 m (max n m) f args σ _ (by omega) hm
    exact h2.symm.trans h1

theorem lim_conv (f : FuncId) (a : List Cell) (σ : Sto) : Conv (fun k => acall C k f a σ) (lim C f a σ) := by
  intro r hr
  obtain ⟨n, hn⟩ := lim_iff.1 hr
  exact ⟨n, fun j hj => acall_mono1 n j f a σ r hj hn⟩

/-- A function's own run, over the limit. -/
theorem lim_of {f : FuncId} {d : FDef} (hx : C.ext f = none) (hd : C.fdef f = some d) (n : Nat) {args : List Cell} {σ : Sto} {r : Res} (h : afun C d (lim C) n (maskArgs d.hints.own 0 args) σ = some r) : lim C f args σ = some r := by
  obtain ⟨k, hk⟩ := afun_conv (ck := acall C) (ns := id) (n := n) lim_conv ⟨n, fun k hk => hk⟩ d (maskArgs d.hints.own 0 args) σ r h
  exact lim_iff.2 ⟨k + 1, by simp only [acall, hx, hd]; exact hk k (Nat.le_refl _)⟩
theorem lim_ext {f : FuncId} {s : List Cell → Sto → Option Res} (hx : C.ext f = some s) {args : List Cell} {σ : Sto} {r : Res} (h : s args σ = some r) : lim C f args σ = some r :=
  lim_iff.2 ⟨1, by simp only [acall, hx]; exact h⟩

theorem lim_ok {P : Program} (hC : CtxOk P C) (hX : ExtOk P C) : CallOk P C (lim C) := by
  intro f args σ r h
  obtain ⟨n, hn⟩ := lim_iff.1 h
  exact acall_sound hC hX n f args σ r hn
end
end Go.Ab
end
