/- How abstract states stand to real ones: relations, and how they are carried along. -/
import Derived.Test.YtcpdcpgblcapeaaDoorAbBase
import Derived.Laws.Sem
import Derived.Laws.World
set_option linter.unusedSimpArgs false
set_option linter.unusedVariables false
set_option linter.deprecated false
namespace Go.Ab

inductive Place where
  | reg (r : Nat) | tup (r i : Nat) | lc (r o : Nat) | gc (b o : Nat) | box (r : Nat) | blk (b : Nat) | res (i : Nat)
  deriving DecidableEq

/-- What the proof knows of memory: which block stands for an abstract one, how many cells of a block are settled, who holds a block. -/
structure Gh where
  N : Nat
  μ : Nat → Nat
  lim : Nat → Nat
  owner : Nat → Option Place
  ty : Nat → TypeId

def upd {α : Type} (f : Nat → α) (i : Nat) (x : α) : Nat → α := fun j => if j = i then x else f j
@[simp] theorem upd_same {α : Type} (f : Nat → α) (i : Nat) (x : α) : upd f i x i = x := by simp [upd]
theorem upd_other {α : Type} (f : Nat → α) {i j : Nat} (x : α) (h : j ≠ i) : upd f i x j = f j := by simp [upd, h]

inductive Rel (G : Gh) (w : World) : V → Value → Prop
  | any (c : Value) : c.oneCell' = true → Rel G w .any c
  | bool (b : Bool) : Rel G w (.bool b) (.bool b)
  | int (k : IntKind) (n : Int) : Rel G w (.int k n) (.int k n)
  | str (s : ByteArray) : Rel G w (.str s) (.string s)
  | nilp : Rel G w .nilp (.pointer none)
  | ptr (t : TypeId) (b o : Nat) : b < G.N → G.ty b = t → Rel G w (.ptr t b o) (.pointer (some ⟨G.μ b, o, none⟩))
  | eptr (k : Nat) (e : List V) (o b off : Nat) (cs : List Value) : e.length = k → cs.length = k → off + k ≤ G.lim b →
      (∀ (i : Nat) (c : Value), cs[i]? = some c → w.cell? ⟨b, off + i, none⟩ = some c ∧ c.oneCell' = true) →
      (∀ (i : Nat) (v : V) (c : Value), e[i]? = some v → cs[i]? = some c → Rel G w v c) → Rel G w (.eptr k e o) (.pointer (some ⟨b, off + o, none⟩))
  | nils : Rel G w .nils (.slice none 0 0)
  | snil (k : Nat) (e : TypeId) : Rel G w (.slice k e []) (.slice none 0 0)
  | slice (k : Nat) (et : TypeId) (es : List (List V)) (b off c : Nat) (cs : List (List Value)) : cs.length = es.length → es.length ≤ c → off + es.length * k ≤ G.lim b →
      (∀ (i : Nat) (e : List V), es[i]? = some e → e.length = k) → (∀ (i : Nat) (x : List Value), cs[i]? = some x → x.length = k) →
      (∀ (i j : Nat) (x : List Value) (c : Value), cs[i]? = some x → x[j]? = some c → w.cell? ⟨b, off + i * k + j, none⟩ = some c ∧ c.oneCell' = true) →
      (∀ (i j : Nat) (e : List V) (x : List Value) (v : V) (c : Value), es[i]? = some e → cs[i]? = some x → e[j]? = some v → x[j]? = some c → Rel G w v c) →
      Rel G w (.slice k et es) (.slice (some ⟨b, off, none⟩) es.length c)
  | func (fn : Fn) (first cap : List V) (f c : List Value) : f.length = first.length → c.length = cap.length →
      (∀ (i : Nat) (v : V) (x : Value), first[i]? = some v → f[i]? = some x → Rel G w v x) → (∀ (i : Nat) (v : V) (x : Value), cap[i]? = some v → c[i]? = some x → Rel G w v x) →
      Rel G w (.func fn first cap) (.func fn f.toArray c.toArray)
  | nilFunc : Rel G w .nilFunc .nilFunc
  | iface (t : TypeId) (v : V) (c : Value) : Rel G w v c → Rel G w (.iface t v) (.iface t c)
  | nilIface : Rel G w .nilIface .nilIface
  | lit (c : Value) : c.oneCell' = true → Rel G w (.lit c) c
  | agg (cs : List V) (xs : List Value) : xs.length = cs.length → (∀ (i : Nat) (x : Value), xs[i]? = some x → x.oneCell' = true) → (∀ (i : Nat) (v : V) (x : Value), cs[i]? = some v → xs[i]? = some x → Rel G w v x) → Rel G w (.agg cs) (.agg xs.toArray)

/-- From one moment to a later one. -/
structure Ext (G : Gh) (w : World) (G' : Gh) (w' : World) : Prop where
  N : G.N ≤ G'.N
  μ : ∀ b, b < G.N → G'.μ b = G.μ b
  ty : ∀ b, b < G.N → G'.ty b = G.ty b
  lim : ∀ b, G.lim b ≤ G'.lim b
  cell : ∀ b o, o < G.lim b → w'.cell? ⟨b, o, none⟩ = w.cell? ⟨b, o, none⟩
  os : w'.os = w.os
  tape : w'.tape = w.tape
  output : w'.output = w.output
  size : w.heap.size ≤ w'.heap.size
  old : ∀ i, i < w.heap.size → G.owner i = none → w'.heap[i]? = w.heap[i]? ∧ G'.lim i = G.lim i ∧ G'.owner i = none

theorem Ext.refl (G : Gh) (w : World) : Ext G w G w :=
  ⟨Nat.le_refl _, fun _ _ => rfl, fun _ _ => rfl, fun _ => Nat.le_refl _, fun _ _ _ => rfl, rfl, rfl, rfl, Nat.le_refl _, fun _ _ h => ⟨rfl, rfl, h⟩⟩

theorem Ext.trans {G G1 G2 : Gh} {w w1 w2 : World} (h : Ext G w G1 w1) (k : Ext G1 w1 G2 w2) : Ext G w G2 w2 where
  N := Nat.le_trans h.N k.N
  μ b hb := (k.μ b (Nat.lt_of_lt_of_le hb h.N)).trans (h.μ b hb)
  ty b hb := (k.ty b (Nat.lt_of_lt_of_le hb h.N)).trans (h.ty b hb)
  lim b := Nat.le_trans (h.lim b) (k.lim b)
  cell b o ho := (k.cell b o (Nat.lt_of_lt_of_le ho (h.lim b))).trans (h.cell b o ho)
  os := k.os.trans h.os
  tape := k.tape.trans h.tape
  output := k.output.trans h.output
  size := Nat.le_trans h.size k.size
  old i hi ho := by
    obtain ⟨a1, a2, a3⟩ := h.old i hi ho
    obtain ⟨b1, b2, b3⟩ := k.old i (Nat.lt_of_lt_of_le hi h.size) a3
    exact ⟨b1.trans a1, b2.trans a2, b3⟩

theorem Rel.mono {G G' : Gh} {w w' : World} (x : Ext G w G' w') {v : V} {c : Value} (h : Rel G w v c) : Rel G' w' v c := by
  induction h with
  | any c h => exact .any c h
  | bool b => exact .bool b
  | int k n => exact .int k n
  | str s => exact .str s
  | nilp => exact .nilp
  | ptr t b o hb ht => rw [← x.μ b hb]; exact .ptr t b o (Nat.lt_of_lt_of_le hb x.N) ((x.ty b hb).trans ht)
  | eptr k e o b off cs h1 h2 h3 h4 _ ih =>
    refine .eptr k e o b off cs h1 h2 (Nat.le_trans h3 (x.lim b)) (fun i c hc => ?_) ih
    rw [x.cell b (off + i) (by have := (List.getElem?_eq_some_iff.1 hc).1; omega)]; exact h4 i c hc
  | nils => exact .nils
  | snil k e => exact .snil k e
  | slice k et es b off c cs h1 h2 h3 h4 h5 h6 _ ih =>
    refine .slice k et es b off c cs h1 h2 (Nat.le_trans h3 (x.lim b)) h4 h5 (fun i j y c hy hc => ?_) ih
    rw [x.cell b _ (by
      have hi := (List.getElem?_eq_some_iff.1 hy).1
      have hj := (List.getElem?_eq_some_iff.1 hc).1
      rw [h5 i y hy] at hj
      have : (i + 1) * k ≤ es.length * k := Nat.mul_le_mul_right k (by omega)
      rw [Nat.succ_mul] at this
      omega)]
    exact h6 i j y c hy hc
  | func fn first cap f c h1 h2 _ _ ih1 ih2 => exact .func fn first cap f c h1 h2 ih1 ih2
  | nilFunc => exact .nilFunc
  | iface t v c _ ih => exact .iface t v c ih
  | nilIface => exact .nilIface
  | agg cs xs h1 h2 _ ih => exact .agg cs xs h1 h2 ih
  | lit c h => exact .lit c h

/-- No row. -/
def Tight : Value → Prop
  | .slice (some _) _ _ => False
  | _ => True

def Own (G : Gh) (w : World) (p : Place) (v : V) (c : Value) : Prop :=
  match v, c with
  | .slice k e _, .slice (some a) n cap => a.off = 0 ∧ a.spot = none ∧ G.owner a.block = some p ∧ G.lim a.block = n * k ∧
      ∃ cv fr, w.heap[a.block]? = some (.cells cv e fr) ∧ cap * k ≤ cv.size ∧ fr.2 ≤ n * k
  | .agg cs, .agg xs => ∀ (i k : Nat) (e : TypeId) (x : Value), cs[i]? = some (.slice k e []) → xs[i]? = some x → Tight x
  | _, _ => True

def CRel (G : Gh) (w : World) (p : Place) (c : Cell) (x : Value) : Prop := Rel G w c.1 x ∧ (c.2 = true → Own G w p c.1 x)

theorem Own.move {G G' : Gh} {w w' : World} {p q : Place} {v : V} {c : Value} (h : Own G w p v c)
    (hp : ∀ i, G.owner i = some p → w'.heap[i]? = w.heap[i]? ∧ G'.lim i = G.lim i ∧ G'.owner i = some q) : Own G' w' q v c := by
  unfold Own at *
  split at h
  · obtain ⟨h1, h2, h3, h4, cv, fr, h5, h6, h7⟩ := h
    obtain ⟨a1, a2, a3⟩ := hp _ h3
    exact ⟨h1, h2, a3, by rw [a2]; exact h4, cv, fr, by rw [a1]; exact h5, h6, h7⟩
  · exact h
  · trivial

theorem CRel.move {G G' : Gh} {w w' : World} {p : Place} {c : Cell} {x : Value} (h : CRel G w p c x) (e : Ext G w G' w')
    (hp : c.2 = true → ∀ i, G.owner i = some p → w'.heap[i]? = w.heap[i]? ∧ G'.lim i = G.lim i ∧ G'.owner i = some p) : CRel G' w' p c x :=
  ⟨h.1.mono e, fun ho => (h.2 ho).move (hp ho)⟩

/-- A block that stands for abstract cells. -/
def BlkOk (G : Gh) (w : World) (r : Nat) (p : Place) (q : Nat → Place) (cs : List Cell) : Prop :=
  ∃ cv el, w.heap[r]? = some (.cells cv el (0, 0)) ∧ cv.size = cs.length ∧ G.owner r = some p ∧ G.lim r = 0 ∧
    ∀ (j : Nat) c x, cs[j]? = some c → cv[j]? = some x → CRel G w (q j) c x ∧ x.oneCell' = true

def WF (G : Gh) (w : World) : Prop := ∀ i, w.heap.size ≤ i → G.lim i = 0 ∧ G.owner i = none

structure SInv (gl : Nat → Option (List V)) (G : Gh) (w : World) (σ : Sto) : Prop where
  wf : WF G w
  glob : ∀ (g : Nat) (cs : List V), gl g = some cs → Rel G w (.eptr cs.length cs 0) (.pointer (some ⟨g, 0, none⟩))
  N : G.N = σ.length
  typed : ∀ b, b < σ.length → ∃ cv fr, w.heap[G.μ b]? = some (.cells cv (G.ty b) fr)
  blk : ∀ (b : Nat) (cs : List Cell), σ[b]? = some cs → BlkOk G w (G.μ b) (.blk b) (fun j => .gc b j) cs

def RRel (G : Gh) (lam : Nat → Nat) (w : World) (r : Nat) (x : RV) (c : Value) : Prop :=
  match x with
  | .dead => True
  | .val v o => CRel G w (.reg r) (v, o) c
  | .lptr r' o => c = .pointer (some ⟨lam r', o, none⟩)
  | .tup cs => ∃ xs : List Value, c = .tuple xs.toArray ∧ xs.length = cs.length ∧ ∀ i y v, cs[i]? = some y → xs[i]? = some v → CRel G w (.tup r i) y v

structure Inv (gl : Nat → Option (List V)) (G : Gh) (lam : Nat → Nat) (a : Act) (w : World) (st : St) : Prop where
  defers : a.defers = []
  len : a.tmps.size = st.regs.length
  lenl : st.locs.length = st.regs.length
  regs : ∀ r x, st.regs[r]? = some x → RRel G lam w r x (a.tmps.getD r undef)
  locs : ∀ r cs, st.locs[r]? = some cs → cs ≠ [] → BlkOk G w (lam r) (.box r) (fun j => .lc r j) cs
  sto : SInv gl G w st.sto

/-- Which places hold a token. -/
def St.flagged (st : St) : Place → Prop
  | .reg r => ∃ v, st.regs[r]? = some (.val v true)
  | .tup r i => ∃ cs v, st.regs[r]? = some (.tup cs) ∧ cs[i]? = some (v, true)
  | .lc r j => ∃ cs v, st.locs[r]? = some cs ∧ cs[j]? = some (v, true)
  | .gc b j => ∃ cs v, st.sto[b]? = some cs ∧ cs[j]? = some (v, true)
  | _ => False

/-- The blocks that stand for cells stay; so do the blocks of the places that hold tokens. -/
structure Keeps (G : Gh) (w : World) (G' : Gh) (w' : World) (fl : Place → Prop) : Prop where
  blocks : ∀ i p, G.owner i = some p → fl p → w'.heap[i]? = w.heap[i]? ∧ G'.lim i = G.lim i ∧ G'.owner i = some p

theorem BlkOk.move {G G' : Gh} {w w' : World} {r : Nat} {p : Place} {q : Nat → Place} {cs : List Cell} {fl : Place → Prop} (h : BlkOk G w r p q cs) (e : Ext G w G' w') (k : Keeps G w G' w' fl)
    (hp : fl p) (hq : ∀ j v, cs[j]? = some (v, true) → fl (q j)) : BlkOk G' w' r p q cs := by
  obtain ⟨cv, el, h1, h2, h3, h4, h5⟩ := h
  obtain ⟨a1, a2, a3⟩ := k.blocks r p h3 hp
  refine ⟨cv, el, by rw [a1]; exact h1, h2, a3, by rw [a2]; exact h4, fun j c x hc hx => ⟨(h5 j c x hc hx).1.move e fun ho i hi => ?_, (h5 j c x hc hx).2⟩⟩
  obtain ⟨v, o⟩ := c
  simp only at ho
  subst ho
  exact k.blocks i _ hi (hq j v hc)

theorem RRel.move {G G' : Gh} {lam : Nat → Nat} {w w' : World} {r : Nat} {x : RV} {c : Value} {fl : Place → Prop} (h : RRel G lam w r x c) (e : Ext G w G' w') (k : Keeps G w G' w' fl)
    (h1 : ∀ v, x = .val v true → fl (.reg r)) (h2 : ∀ cs i v, x = .tup cs → cs[i]? = some (v, true) → fl (.tup r i)) : RRel G' lam w' r x c := by
  cases x with
  | dead => trivial
  | val v o => exact CRel.move h e fun ho i hi => k.blocks i _ hi (h1 v (by simp only at ho; rw [ho]))
  | lptr r' o => exact h
  | tup cs =>
    obtain ⟨xs, g1, g2, g3⟩ := h
    refine ⟨xs, g1, g2, fun i y v hy hv => (g3 i y v hy hv).move e fun ho j hj => ?_⟩
    obtain ⟨y, o⟩ := y
    simp only at ho
    subst ho
    exact k.blocks j _ hj (h2 cs i y rfl hy)

theorem SInv.move {gl : Nat → Option (List V)} {G G' : Gh} {w w' : World} {σ : Sto} {fl : Place → Prop} (h : SInv gl G w σ) (e : Ext G w G' w') (k : Keeps G w G' w' fl) (wf : WF G' w') (hN : G'.N = G.N)
    (hb' : ∀ b, b < σ.length → fl (.blk b)) (hq : ∀ b cs j v, σ[b]? = some cs → cs[j]? = some (v, true) → fl (.gc b j)) : SInv gl G' w' σ := by
  refine ⟨wf, fun g cs hg => (h.glob g cs hg).mono e, hN.trans h.N, fun b hb => ?_, fun b cs hb => ?_⟩
  · obtain ⟨cv, fr, h1⟩ := h.typed b hb
    obtain ⟨_, _, _, _, h3, _⟩ := h.blk b σ[b] (List.getElem?_eq_getElem hb)
    have hlt : b < G.N := by rw [h.N]; exact hb
    rw [e.μ b hlt, e.ty b hlt]
    exact ⟨cv, fr, by rw [(k.blocks _ _ h3 (hb' b hb)).1]; exact h1⟩
  have hlt : b < G.N := by rw [h.N]; exact (List.getElem?_eq_some_iff.1 hb).1
  rw [e.μ b hlt]
  exact (h.blk b cs hb).move e k (hb' b (by rw [← h.N]; exact hlt)) (fun j v hv => hq b cs j v hb hv)

/-- The whole state is carried along, if what holds tokens and what stands for cells is left alone. -/
theorem Inv.move {gl : Nat → Option (List V)} {G G' : Gh} {lam : Nat → Nat} {a : Act} {w w' : World} {st : St} (h : Inv gl G lam a w st) (e : Ext G w G' w') (k : Keeps G w G' w' (fun p => st.flagged p ∨ (∃ r, p = .box r) ∨ ∃ b, p = .blk b)) (wf : WF G' w') (hN : G'.N = G.N) : Inv gl G' lam a w' st where
  defers := h.defers
  len := h.len
  lenl := h.lenl
  regs r x hx := (h.regs r x hx).move e k (fun v hv => .inl ⟨v, hv ▸ hx⟩) (fun cs i v hv hi => .inl ⟨cs, v, hv ▸ hx, hi⟩)
  locs r cs hc hne := (h.locs r cs hc hne).move e k (.inr (.inl ⟨r, rfl⟩)) (fun j v hv => .inl ⟨cs, v, hc, hv⟩)
  sto := h.sto.move e k wf hN (fun b _ => .inr (.inr ⟨b, rfl⟩)) (fun b cs j v hb hv => .inl ⟨cs, v, hb, hv⟩)

/-- Another world with the same memory. -/
theorem Ext.same {G : Gh} {w w' : World} (hh : w'.heap = w.heap) (h1 : w'.os = w.os) (h2 : w'.tape = w.tape) (h3 : w'.output = w.output) : Ext G w G w' where
  N := Nat.le_refl _
  μ _ _ := rfl
  ty _ _ := rfl
  lim _ := Nat.le_refl _
  cell b o _ := by simp [World.cell?, hh]
  os := h1
  tape := h2
  output := h3
  size := by rw [hh]; exact Nat.le_refl _
  old i _ ho := ⟨by rw [hh], rfl, ho⟩
theorem Keeps.same {G : Gh} {w w' : World} {fl : Place → Prop} (hh : w'.heap = w.heap) : Keeps G w G w' fl := ⟨fun i p hp _ => ⟨by rw [hh], rfl, hp⟩⟩
theorem Inv.same {gl : Nat → Option (List V)} {G : Gh} {lam : Nat → Nat} {a : Act} {w w' : World} {st : St} (h : Inv gl G lam a w st) (hh : w'.heap = w.heap) (h1 : w'.os = w.os) (h2 : w'.tape = w.tape) (h3 : w'.output = w.output) : Inv gl G lam a w' st :=
  h.move (Ext.same hh h1 h2 h3) (Keeps.same hh) (fun i hi => h.sto.wf i (by rw [hh] at hi; exact hi)) rfl

end Go.Ab
