/- Print of a term by the reference. -/
import Derived.Test.YtcjofhikcokhfaaGreatDoorAbMp
import Derived.Test.YtcjofhikcokhfaaGreatDoorLvM5
import Derived.Test.YtcjofhikcokhfaaGreatDoorLvD
import Derived.Test.YtcjofhikcokhfaaGreatDoorLvKg
set_option linter.unusedSimpArgs false
set_option linter.unusedVariables false
set_option linter.deprecated false
section
namespace Go.Ab
def Lv.val (v:ByteArray→Nat):Lv→Nat
 |.zero=>0
 |.succ l=>l.val v+1
 |.max a b=>Nat.max (a.val v) (b.val v)
 |.imax a b=>if b.val v=0 then 0 else Nat.max (a.val v) (b.val v)
 |.param s=>v s
def Lv.aT:Lv→List ByteArray
 |.zero=>[]
 |.succ l=>l.aT
 |.max a b=>a.aT++b.aT
 |.imax a b=>a.aT++b.aT
 |.param s=>[s]
def Lv.Mf:Lv→Nat
 |.zero=>0
 |.succ l=>l.Mf+1
 |.max a b=>a.Mf+b.Mf
 |.imax a b=>a.Mf+b.Mf
 |.param _=>0
def one (os:ByteArray→Bool) (p:ByteArray):Nat:=if os p then 1 else 0
structure Fits (zs os:ByteArray→Bool) (v:ByteArray→Nat):Prop where
 z:∀p,zs p=true→v p=0
 o:∀p,os p=true→1≤v p
theorem Fits.one {zs os:ByteArray→Bool} {v:ByteArray→Nat} (h:Fits zs os v) (p:ByteArray):Go.Ab.one os p≤v p:=by
 unfold Go.Ab.one
 split
 ·rename_i hp;exact h.o p hp
 ·omega
structure Fm where
 n:Nat
 f:ByteArray→Option Nat
structure Fm.Is (F:Fm) (os:ByteArray→Bool) (v:ByteArray→Nat) (x:Nat):Prop where
 n:F.n≤x
 le:∀p k,F.f p=some k→k+v p≤x+one os p
 at_:x=F.n∨∃p k,F.f p=some k∧k+v p=x+one os p
structure ac2 (l:Lv) (zs os:ByteArray→Bool) (F:Fm):Prop where
 ge:∀p k,F.f p=some k→k≤F.n
 one:∀p k,F.f p=some k→os p=true→1≤k
 par:∀p k,F.f p=some k→p∈l.aT∧zs p=false
 top:F.n≤l.Mf+1
 val:∀v,Fits zs os v→F.Is os v (l.val v)
def Fm.nil:Fm:=⟨0,fun _=>none⟩
def Hi (up:Nat):Option Nat→Option Nat→Option Nat
 |a,none=>a
 |none,some b=>some (b+up)
 |some a,some b=>some (Nat.max a (b+up))
def Fm.join (F G:Fm) (up:Nat):Fm:=⟨Nat.max F.n (G.n+up),fun p=>Hi up (F.f p) (G.f p)⟩
theorem kT {up:Nat} {a b:Option Nat} {k:Nat} (h:Hi up a b=some k):a=some k∨∃y,b=some y∧k=y+up:=by
 match a,b with
 |a,none=>exact .inl h
 |none,some b=>simp[Hi]at h;exact .inr ⟨b,rfl,h.symm⟩
 |some a,some b=>
  simp only[Hi,Option.some.injEq]at h
  rcases Nat.le_total a (b+up)with h1|h1
  ·rw[show Nat.max a (b+up)=b+up from Nat.max_eq_right h1]at h
   exact .inr ⟨b,rfl,h.symm⟩
  ·rw[show Nat.max a (b+up)=a from Nat.max_eq_left h1]at h
   exact .inl (by rw[h])
theorem Pt {up:Nat} {a b:Option Nat} {x:Nat} (h:a=some x):∃k,Hi up a b=some k∧x≤k:=by
 subst h
 cases b with
 |none=>exact⟨x,rfl,Nat.le_refl _⟩
 |some b=>exact⟨_,rfl,Nat.le_max_left _ _⟩
theorem Mg {up:Nat} {a b:Option Nat} {y:Nat} (h:b=some y):∃k,Hi up a b=some k∧y+up≤k:=by
 subst h
 cases a with
 |none=>exact⟨y+up,rfl,Nat.le_refl _⟩
 |some a=>exact⟨_,rfl,Nat.le_max_right _ _⟩
theorem Fm.Is.join {F G:Fm} {os:ByteArray→Bool} {v:ByteArray→Nat} {x y:Nat} (hv:∀p,one os p≤v p) (h:F.Is os v x) (k:G.Is os v y) (up:Nat):(F.join G up).Is os v (Nat.max x (y+up)):=by
 have m1:x≤Nat.max x (y+up):=Nat.le_max_left _ _
 have m2:y+up≤Nat.max x (y+up):=Nat.le_max_right _ _
 refine⟨Nat.max_le.2 ⟨Nat.le_trans h.n m1,Nat.le_trans (Nat.add_le_add_right k.n _) m2⟩,fun p c hp=>?_,?_⟩
 ·rcases kT hp with hp|⟨b,hb,rfl⟩
  ·have:=h.le p c hp;omega
  ·have:=k.le p b hb;omega
 ·rcases Nat.le_total x (y+up)with hxy|hxy
  ·rw[show Nat.max x (y+up)=y+up from Nat.max_eq_right hxy]
   rcases k.at_ with h1|⟨p,c,h1,h2⟩
   ·left
    have:=h.n
    show y+up=Nat.max F.n (G.n+up)
    rw[show Nat.max F.n (G.n+up)=G.n+up from Nat.max_eq_right (by omega),h1]
   ·obtain⟨c',h3,h4⟩:=Mg (up:=up) (a:=F.f p) h1
    right
    refine⟨p,c',h3,?_⟩
    rcases kT h3 with h5|⟨b,h5,h6⟩
    ·have:=h.le p c' h5;have:=hv p;omega
    ·rw[h1]at h5
     obtain rfl:=Option.some.inj h5
     omega
  ·rw[show Nat.max x (y+up)=x from Nat.max_eq_left hxy]
   rcases h.at_ with h1|⟨p,c,h1,h2⟩
   ·left
    have:=k.n
    show x=Nat.max F.n (G.n+up)
    rw[show Nat.max F.n (G.n+up)=F.n from Nat.max_eq_left (by omega),h1]
   ·obtain⟨c',h3,h4⟩:=Pt (up:=up) (b:=G.f p) h1
    right
    refine⟨p,c',h3,?_⟩
    rcases kT h3 with h5|⟨b,h5,h6⟩
    ·rw[h1]at h5
     obtain rfl:=Option.some.inj h5
     omega
    ·have:=k.le p b h5;have:=hv p;omega
theorem Fm.abC (os:ByteArray→Bool) (v:ByteArray→Nat):Fm.nil.Is os v 0:=⟨Nat.le_refl _,fun _ _ h=>by simp[Fm.nil]at h,.inl rfl⟩
structure Part (l:Lv) (zs os:ByteArray→Bool) (F:Fm) (val:(ByteArray→Nat)→Nat) (top:Nat):Prop where
 ge:∀p k,F.f p=some k→k≤F.n
 one:∀p k,F.f p=some k→os p=true→1≤k
 par:∀p k,F.f p=some k→p∈l.aT∧zs p=false
 top:F.n≤top
 val:∀v,Fits zs os v→F.Is os v (val v)
theorem Part.nil (l:Lv) (zs os:ByteArray→Bool):Part l zs os Fm.nil (fun _=>0) 0:=
 ⟨fun _ _ h=>by simp[Fm.nil]at h,fun _ _ h=>by simp[Fm.nil]at h,fun _ _ h=>by simp[Fm.nil]at h,Nat.le_refl _,fun v _=>Fm.abC os v⟩
theorem Part.join {l c:Lv} {zs os:ByteArray→Bool} {F G:Fm} {val:(ByteArray→Nat)→Nat} {top abD:Nat} (h:Part l zs os F val top) (k:ac2 c zs os G) (hc:∀p∈c.aT,p∈l.aT) (up:Nat)
  (JN:top≤abD) (XO:c.Mf+1+up≤abD):Part l zs os (F.join G up) (fun v=>Nat.max (val v) (c.val v+up)) abD:=by
 refine⟨fun p x hp=>?_,fun p x hp ho=>?_,fun p x hp=>?_,?_,fun v hv=>(h.val v hv).join (fun p=>hv.one p) (k.val v hv) up⟩
 ·have m1:F.n≤Nat.max F.n (G.n+up):=Nat.le_max_left _ _
  have m2:G.n+up≤Nat.max F.n (G.n+up):=Nat.le_max_right _ _
  show x≤Nat.max F.n (G.n+up)
  rcases kT hp with hp|⟨b,hb,rfl⟩
  ·have:=h.ge p x hp;omega
  ·have:=k.ge p b hb;omega
 ·rcases kT hp with hp|⟨b,hb,rfl⟩
  ·exact h.one p x hp ho
  ·have:=k.one p b hb ho;omega
 ·rcases kT hp with hp|⟨b,hb,rfl⟩
  ·exact h.par p x hp
  ·exact⟨hc p (k.par p b hb).1,(k.par p b hb).2⟩
 ·have:=h.top
  have:=k.top
  exact Nat.max_le.2 ⟨by omega,by omega⟩
theorem Part.ok {l:Lv} {zs os:ByteArray→Bool} {F:Fm} {val:(ByteArray→Nat)→Nat} {top:Nat} (h:Part l zs os F val top) (ht:top≤l.Mf+1) (hv:∀v,Fits zs os v→val v=l.val v):ac2 l zs os F:=
 ⟨h.ge,h.one,h.par,Nat.le_trans h.top ht,fun v k=>by rw[←hv v k];exact h.val v k⟩
def Fm.leq (F G:Fm):Prop:=(∀p k,F.f p=some k→∃m,G.f p=some m∧k≤m)∧F.n≤G.n
def aej (os:ByteArray→Bool) (B:Nat) (p:ByteArray):ByteArray→Nat:=fun q=>if q=p then B else one os q
def Lv.Leq (a b:Lv):Prop:=∀v,a.val v≤b.val v
end Go.Ab
end
section
namespace Go.Ab.Mk
open Go.Proofs Go.Ab
theorem abE {s t:ByteArray} (h:s.toList=t.toList):s=t:=by
 rw[ByteArray.toList_eq,ByteArray.toList_eq]at h
 apply ByteArray.ext
 exact Array.toList_inj.1 h
def vd (B d:Nat):Nat:=if d=0 then 0 else if d=1 then 1 else B
theorem WK (s:ByteArray) (p:Nat):(aB s p).t.size≤s.size:=by
  have h0:(ByteArray.mk #[]).size=0:=rfl
  have he:∀i q,(s.extract i q).size≤s.size:=fun i q=>by rw[ByteArray.size_extract];omega
  have he0:(ByteArray.mk #[]).size≤s.size:=by rw[h0];exact Nat.zero_le _
  unfold aB lH
  generalize scan eQ s p=i
  cases i==s.size
  · simp only[cond_false]
    cases av s i==40
    · cases av s i==41
      · cases cn (av s i) true
        · cases (av s i==35||isDigit (av s i))
          · exact he0
          · simp only[cond_false,cond_true,lW]
            generalize (bif av s i==35 then i+1 else i)=d
            cases scan isDigit s (i+1)==d
            · cases decide (scan isDigit s (i+1) - d>5)
              · cases (decide (scan isDigit s (i+1) - d>1)&&av s d==48)
                · exact he _ _
                · exact he0
              · exact he0
            · exact he0
        · simp only[cond_false,cond_true,sR]
          cases decide (scan (cn · false) s (i+1) - i>40)
          · exact he _ _
          · exact he0
      · exact he _ _
    · exact he _ _
  · exact he0
theorem yG (s:ByteArray):∀(n:Nat) (st:RS),∀x∈(bq n s st).1.aT,0<x.size∧x.size≤s.size
 |0,st=>by simp[bq,Lv.aT]
 |n+1,st=>by
  have ih:=yG s n
  unfold bq
  cases st.c != 0
  case true=>simp[Lv.aT]
  cases aJ (aB s st.p).t [48]
  case true=>simp[Lv.aT]
  cases h1:dz (aB s st.p).t
  case true=>
   intro x hx
   simp only[cond_false,cond_true,Lv.aT,List.mem_singleton]at hx
   subst hx
   simp only[dz,Bool.and_eq_true,Bool.not_eq_true']at h1
   exact⟨gL h1.1,WK s st.p⟩
  cases aJ (aB s st.p).t [40]
  case false=>simp[Lv.aT]
  simp only[cond_false,cond_true,Zd]
  have two:∀(f:Lv→Lv→Lv) (st:RS),(∀a b,(f a b).aT=a.aT++b.aT)→∀x∈(Xh (bq n s) s f st).1.aT,0<x.size∧x.size≤s.size:=by
   intro f st hf x hx
   simp only[Xh,hf,List.mem_append]at hx
   rcases hx with hx|hx
   ·exact ih _ x hx
   ·exact ih _ x hx
  cases aJ (aB s (aI s st).2.p).t [115]
  case true=>exact ih _
  cases aJ (aB s (aI s st).2.p).t [109,97,120]
  case true=>exact two .max _ fun _ _=>rfl
  cases aJ (aB s (aI s st).2.p).t [105,109,97,120]
  case true=>exact two .imax _ fun _ _=>rfl
  simp[Lv.aT]
end Go.Ab.Mk
end
section
namespace Go.Ab.Mk
open Go.Proofs Go.Ab
structure ew (t:ByteArray):Prop where
 pos:0<t.size
 few:t.size≤40
 first:cn (av t 0) true=true
 rest:∀i,0<i→i<t.size→cn (av t i) false=true
theorem SX {s:ByteArray} {i:Nat} (h:s.size≤i):av s i=0:=by
 have h':s.data.toList.length≤i:=by rw[Array.length_toList];exact h
 unfold av
 rw[List.getD_eq_getElem?_getD,List.getElem?_eq_none h']
 rfl
theorem EV (t:ByteArray) (h:t.size=0):dz t=false:=by
 have:t=ByteArray.mk #[]:=by apply ByteArray.ext;exact Array.eq_empty_of_size_eq_zero h
 subst this
 simp[dz,gh]
theorem Mh {s:ByteArray} {p:Nat} (h:dz (aB s p).t=true):ew (aB s p).t:=by
  unfold aB at h ⊢
  generalize scan eQ s p=i at h ⊢
  unfold lH at h ⊢
  have no:dz (Tok.no i).t=false:=EV _ rfl
  have no':dz (ByteArray.mk #[])=false:=EV _ rfl
  by_cases hi:i<s.size
  case neg=>
    exfalso
    cases he:i==s.size with
    |true=>rw[he,cond_true]at h;rw[no']at h;simp at h
    |false=>
     have hb:av s i=0:=SX (by omega)
     have e1:cn 0 true=false:=by decide
     have e2:isDigit 0=false:=by decide
     rw[he,hb,e1,e2]at h
     simp only[cond_false,show((0:Int)==40)=false from rfl,show((0:Int)==41)=false from rfl,show((0:Int)==35)=false from rfl,Bool.or_false,no]at h
     simp at h
  have he:(i==s.size)=false:=by simp;omega
  rw[he]at h ⊢
  simp only[cond_false]at h ⊢
  have bx:∀q,i<q→q≤s.size→av (s.extract i q) 0=av s i:=fun q h1 h2=>by have:=jl (s:=s) (i:=i) (q:=q) (j:=0) (by omega) h2;simpa using this
  have one:cn (av s i) true=false→∀q,i<q→q≤s.size→dz (s.extract i q)=false:=fun hn q h1 h2=>by
    unfold dz
    rw[bx q h1 h2,hn,Bool.and_false]
  cases Ti:av s i==40 with
  |true=>
   exfalso
   rw[Ti,cond_true]at h
   rw[one (by rw[beq_iff_eq.1 Ti];decide) (i+1) (by omega) (by omega)]at h
   simp at h
  |false=>
   rw[Ti]at h
   simp only[cond_false]at h ⊢
   cases h41:av s i==41 with
   |true=>
    exfalso
    rw[h41,cond_true]at h
    rw[one (by rw[beq_iff_eq.1 h41];decide) (i+1) (by omega) (by omega)]at h
    simp at h
   |false=>
    rw[h41]at h
    simp only[cond_false]at h ⊢
    cases hn:cn (av s i) true with
    |true=>
     rw[hn,cond_true]at h
     simp only[cond_true]
     have g1:=j6 (cn · false) s (i+1)
     have g2:=j7 (f:=(cn · false)) (s:=s) (i:=i+1) (by omega)
     have g3:=yC (f:=(cn · false)) (s:=s) _ (i+1) rfl
     generalize scan (cn · false) s (i+1)=q at h g1 g2 g3 ⊢
     unfold sR at h ⊢
     cases hq:decide (q - i>40)with
     |true=>rw[hq,cond_true,no]at h;simp at h
     |false=>
      simp only[cond_false]
      have hq':=of_decide_eq_false hq
      have hz:(s.extract i q).size=q - i:=by rw[ByteArray.size_extract];omega
      refine⟨by omega,by omega,by rw[bx q (by omega) g2];exact hn,fun j h1 h2=>?_⟩
      rw[jl (by omega) g2]
      exact g3 (i+j) (by omega) (by omega)
    |false=>
     exfalso
     rw[hn]at h
     simp only[cond_false]at h
     cases hd:(av s i==35||isDigit (av s i))with
     |false=>rw[hd,cond_false,no]at h;simp at h
     |true=>
      rw[hd,cond_true]at h
      have g1:=j6 isDigit s (i+1)
      have g2:=j7 (f:=isDigit) (s:=s) (i:=i+1) (by omega)
      generalize scan isDigit s (i+1)=q at h g1 g2
      simp only[lW]at h
      generalize (bif av s i==35 then i+1 else i)=d at h
      cases h1:q==d
      · rw[h1,cond_false]at h
        cases h2:decide (q - d>5)
        · rw[h2,cond_false]at h
          cases h3:(decide (q - d>1)&&av s d==48)
          · rw[h3,cond_false,one hn q (by omega) g2]at h;simp at h
          · rw[h3,cond_true,no]at h;simp at h
        · rw[h2,cond_true,no]at h;simp at h
      · rw[h1,cond_true,no]at h;simp at h
theorem qG (s:ByteArray):∀(n:Nat) (st:RS),∀x∈(bq n s st).1.aT,ew x
 |0,st=>by simp[bq,Lv.aT]
 |n+1,st=>by
  have ih:=qG s n
  unfold bq
  cases st.c != 0
  case true=>simp[Lv.aT]
  cases aJ (aB s st.p).t [48]
  case true=>simp[Lv.aT]
  cases h1:dz (aB s st.p).t
  case true=>
   intro x hx
   simp only[cond_false,cond_true,Lv.aT,List.mem_singleton]at hx
   subst hx
   exact Mh h1
  cases aJ (aB s st.p).t [40]
  case false=>simp[Lv.aT]
  simp only[cond_false,cond_true,Zd]
  have two:∀(f:Lv→Lv→Lv) (st:RS),(∀a b,(f a b).aT=a.aT++b.aT)→∀x∈(Xh (bq n s) s f st).1.aT,ew x:=by
   intro f st hf x hx
   simp only[Xh,hf,List.mem_append]at hx
   rcases hx with hx|hx
   ·exact ih _ x hx
   ·exact ih _ x hx
  cases aJ (aB s (aI s st).2.p).t [115]
  case true=>exact ih _
  cases aJ (aB s (aI s st).2.p).t [109,97,120]
  case true=>exact two .max _ fun _ _=>rfl
  cases aJ (aB s (aI s st).2.p).t [105,109,97,120]
  case true=>exact two .imax _ fun _ _=>rfl
  simp[Lv.aT]
def At (s:ByteArray) (p:Nat) (Y:List UInt8):Prop:=∃X,s=ba (X++Y)∧p=X.length
theorem At.byte {s:ByteArray} {p:Nat} {Y:List UInt8} (h:At s p Y) (j:Nat):av s (p+j)=((Y.getD j 0).toNat:Int):=by
 obtain⟨X,rfl,rfl⟩:=h
 simp[av,ba,List.getD,List.getElem?_append_right]
theorem At.size {s:ByteArray} {p:Nat} {Y:List UInt8} (h:At s p Y):s.size=p+Y.length:=by
 obtain⟨X,rfl,rfl⟩:=h
 simp[iI]
theorem At.drop {s:ByteArray} {p:Nat} {A Y:List UInt8} (h:At s p (A++Y)):At s (p+A.length) Y:=by
 obtain⟨X,rfl,rfl⟩:=h
 exact⟨X++A,by rw[List.append_assoc],by simp⟩
theorem At.ext {s:ByteArray} {p:Nat} {A Y:List UInt8} (h:At s p (A++Y)):s.extract p (p+A.length)=ba A:=by
 obtain⟨X,rfl,rfl⟩:=h
 apply abE
 rw[ByteArray.toList_eq,ByteArray.toList_eq,ByteArray.data_extract,Array.toList_extract]
 simp[ba]
theorem At.head {s:ByteArray} {p:Nat} {c:UInt8} {Y:List UInt8} (h:At s p (c::Y)):av s p=(c.toNat:Int):=h.byte 0
theorem At.tail {s:ByteArray} {p:Nat} {c:UInt8} {Y:List UInt8} (h:At s p (c::Y)):At s (p+1) Y:=At.drop (A:=[c]) h
def Sep (Z:List UInt8):Prop:=Z=[]∨∃c Z',Z=c::Z'∧(c=32∨c=41)
theorem Sep.stop {s:ByteArray} {q:Nat} {Z:List UInt8} (h:Sep Z) (ha:At s q Z) (f:Int→Bool) (h1:f 32=false) (h2:f 41=false):¬(q<s.size∧f (av s q)=true):=by
 rcases h with rfl|⟨c,Z',rfl,hc⟩
 ·have:=ha.size
  simp at this
  omega
 ·rintro⟨_,hf⟩
  rw[ha.head]at hf
  rcases hc with rfl|rfl
  ·rw[show(((32:UInt8).toNat:Nat):Int)=32 from rfl,h1]at hf;simp at hf
  ·rw[show(((41:UInt8).toNat:Nat):Int)=41 from rfl,h2]at hf;simp at hf
theorem Qz {f:Int→Bool} {s:ByteArray} {q:Nat} (hq:q≤s.size) (hs:¬(q<s.size∧f (av s q)=true)):∀(k i:Nat),i+k=q→(∀j,i≤j→j<q→f (av s j)=true)→scan f s i=q
 |0,i,h,_=>by
  obtain rfl:i=q:=by omega
  exact iJ hs
 |k+1,i,h,ha=>by
  rw[qC (by omega) (ha i (Nat.le_refl _) (by omega))]
  exact Qz hq hs k (i+1) (by omega) fun j h1 h2=>ha j (by omega) h2
theorem py {s:ByteArray} {p:Nat} {Y:List UInt8} (h:At s p (32::Y)):aB s p=aB s (p+1):=by
 have hz:=h.size
 unfold aB
 rw[qC (by simp at hz;omega) (by rw[h.head];rfl)]
theorem yH {s:ByteArray} {p:Nat} (h:eQ (av s p)=false):aB s p=lH s p:=by
 unfold aB
 rw[iJ fun⟨_,hf⟩=>by rw[h]at hf;simp at hf]
theorem Pu {s:ByteArray} {p:Nat} {c:UInt8} {Y:List UInt8} (h:At s p (c::Y)):(p==s.size)=false:=by
 have:=h.size
 simp at this
 simp;omega
theorem WL {s:ByteArray} {p:Nat} {Y:List UInt8} (h:At s p (40::Y)):aB s p=⟨ba [40],p,true⟩:=by
 rw[yH (by rw[h.head];rfl)]
 have e:av s p=40:=h.head
 have ex:s.extract p (p+1)=ba [40]:=At.ext (A:=[40]) h
 unfold lH
 rw[Pu h,e,ex]
 rfl
theorem Az {s:ByteArray} {p:Nat} {Y:List UInt8} (h:At s p (41::Y)):aB s p=⟨ba [41],p,true⟩:=by
 rw[yH (by rw[h.head];rfl)]
 have e:av s p=41:=h.head
 have ex:s.extract p (p+1)=ba [41]:=At.ext (A:=[41]) h
 unfold lH
 rw[Pu h,e,ex]
 rfl
theorem Pv {s:ByteArray} {p:Nat} {Z:List UInt8} (h:At s p (48::Z)) (hZ:Sep Z):aB s p=⟨ba [48],p,true⟩:=by
 rw[yH (by rw[h.head];rfl)]
 have e:av s p=48:=h.head
 have ex:s.extract p (p+1)=ba [48]:=At.ext (A:=[48]) h
 have hz:=h.tail.size
 have sc:scan isDigit s (p+1)=p+1:=iJ (hZ.stop h.tail isDigit rfl rfl)
 unfold lH
 rw[Pu h,e,sc]
 have e2:((p+1) - p)=1:=by omega
 simp only[cond_false,cond_true,lW,e2,show((48:Int)==40)=false from rfl,show((48:Int)==41)=false from rfl,show cn 48 true=false from rfl,show isDigit 48=true from rfl,Bool.or_true,show((48:Int)==35)=false from rfl,
  show(p+1==p)=false by simp,show decide (1>5)=false from rfl,show decide (1>1)=false from rfl,Bool.false_and,ex]
theorem WM {x:Int} (h:cn x true=true):eQ x=false∧(x==40)=false∧(x==41)=false:=by
 simp only[cn,yv,Bool.not_true,Bool.false_and,Bool.or_false,Bool.or_eq_true,Bool.and_eq_true,decide_eq_true_eq,beq_iff_eq]at h
 simp only[eQ,Bool.or_eq_false_iff,beq_eq_false_iff_ne]
 omega
theorem Mi {s:ByteArray} {p:Nat} {w Z:List UInt8} (h:At s p (w++Z)) (hw:ew (ba w)) (hZ:Sep Z):aB s p=⟨ba w,p,true⟩:=by
  have Tz:=hw.pos
  have ad9:=hw.few
  rw[iI]at Tz ad9
  have bw:∀j,j<w.length→av s (p+j)=av (ba w) j:=by
    intro j hj
    rw[h.byte j]
    simp[av,ba,List.getD,List.getElem?_append_left hj]
  have b0:av s p=av (ba w) 0:=bw 0 Tz
  have hz:=h.size
  rw[List.length_append]at hz
  obtain⟨f1,f2,f3⟩:=WM hw.first
  rw[yH (by rw[b0];exact f1)]
  have sc:scan (cn · false) s (p+1)=p+w.length:=Qz (by omega) (hZ.stop h.drop (cn · false) rfl rfl) (w.length - 1) (p+1) (by omega) fun j h1 h2=>by
    have:=bw (j - p) (by omega)
    rw[show p+(j - p)=j by omega]at this
    show cn (av s j) false=true
    rw[this]
    exact hw.rest _ (by omega) (by rw[iI];omega)
  have ex:s.extract p (p+w.length)=ba w:=h.ext
  unfold lH
  rw[show(p==s.size)=false by simp;omega,b0,f2,f3,hw.first]
  simp only[cond_false,cond_true,sc,sR,show decide (p+w.length - p>40)=false by simp;omega,ex]
theorem pz {s:ByteArray} {q p:Nat} {t:ByteArray} {a:Int} (h:aB s q=⟨t,p,true⟩) (ht:gh t=false):aI s ⟨q,0,a⟩=(t,⟨p+t.size,0,a⟩):=by
 unfold aI
 simp only[h,ht,Bool.not_true,Bool.or_self,cond_false,bne_self_eq_false]
theorem EW {s:ByteArray} {q p:Nat} {t w:ByteArray} {a:Int} (h:aB s q=⟨t,p,true⟩) (ht:t.toList=w.toList):bG s ⟨q,0,a⟩ w=⟨p+t.size,0,a⟩:=by
 unfold bG
 simp only[h,ht,beq_self_eq_true,Bool.not_true,Bool.or_self,cond_false,cond_true]
theorem pA {a b:List UInt8}:aJ (ba a) b=(a==b):=by
 unfold aJ
 rw[ByteArray.toList_eq,ByteArray.toList_eq]
 simp[ba]
theorem nW {a:List UInt8}:gh (ba a)=(a==[]):=by
 unfold gh
 rw[ByteArray.toList_eq,ByteArray.toList_eq]
 simp[ba]
theorem Hj {w:List UInt8} (h:ew (ba w)):w≠[]:=by
 rintro rfl
 have:=h.pos
 simp[iI]at this
theorem SY {w:List UInt8} (h:ew (ba w)):dz (ba w)=true∧aJ (ba w) [48]=false:=by
 refine⟨?_,?_⟩
 ·unfold dz
  rw[nW,h.first]
  simp[Hj h]
 ·rw[pA]
  cases hw:w==[48]with
  |false=>rfl
  |true=>
   have:=h.first
   rw[beq_iff_eq.1 hw]at this
   simp[show cn (av (ba [48]) 0) true=false from rfl]at this
theorem abF:ew (ba [115]):=⟨by decide,by decide,rfl,fun i h1 h2=>by rw[iI]at h2;simp at h2;omega⟩
theorem WN:ew (ba [109,97,120]):=⟨by decide,by decide,rfl,fun i h1 h2=>by
 rw[iI]at h2
 have:i=1∨i=2:=by simp at h2;omega
 rcases this with rfl|rfl<;>rfl⟩
theorem SZ:ew (ba [105,109,97,120]):=⟨by decide,by decide,rfl,fun i h1 h2=>by
 rw[iI]at h2
 have:i=1∨i=2∨i=3:=by simp at h2;omega
 rcases this with rfl|rfl|rfl<;>rfl⟩
theorem AA (Z:List UInt8):Sep (41::Z):=.inr ⟨41,Z,rfl,.inr rfl⟩
theorem AB (Z:List UInt8):Sep (32::Z):=.inr ⟨32,Z,rfl,.inl rfl⟩
theorem Mj:dz (ba [40])=false:=by unfold dz;rw[nW];rfl
theorem JH {s:ByteArray} {q p:Nat} {w Y:List UInt8} {a:Int} (hw:ew (ba w)) (h:At s p (40::(w++32::Y))) (hq:aB s q=aB s p) (n:Nat):
  bq (n+1) s ⟨q,0,a⟩=Zd (bq n s) s ⟨p+1,0,a⟩∧aB s (p+1)=⟨ba w,p+1,true⟩∧At s (p+1+w.length) (32::Y):=by
 have t0:=hq.trans (WL h)
 have hn:=pz (a:=a) t0 (by rw[nW];rfl)
 have ht:=Mi h.tail hw (AB Y)
 refine⟨?_,ht,h.tail.drop⟩
 rw[bq]
 simp only[t0,hn,bne_self_eq_false,cond_false,pA,show(([40]:List UInt8)==[48])=false from rfl,Mj,beq_self_eq_true,cond_true,iI]
 rfl
theorem rt:∀(l:Lv) (n:Nat) {s:ByteArray} {q p:Nat} {Z:List UInt8} {a:Int},At s p (bX l++Z)→aB s q=aB s p→Sep Z→(∀x∈l.aT,ew x)→l.size≤n→
  bq n s ⟨q,0,a⟩=(l,⟨p+(bX l).length,0,a⟩)
 |l,0,_,_,_,_,_,_,_,_,_,hn=>by have:=l.size_pos;omega
 |.zero,n+1,s,q,p,Z,a,h,hq,hZ,hp,hn=>by
  have t0:=hq.trans (Pv h hZ)
  rw[bq]
  simp only[t0,bne_self_eq_false,cond_false,pA,beq_self_eq_true,cond_true,pz (a:=a) t0 (by rw[nW];rfl),iI,bX]
 |.param x,n+1,s,q,p,Z,a,h,hq,hZ,hp,hn=>by
  have hx:ew (ba x.data.toList):=by rw[Z3];exact hp x (by simp[Lv.aT])
  have key:∀w,ew (ba w)→At s p (w++Z)→bq (n+1) s ⟨q,0,a⟩=(.param (ba w),⟨p+w.length,0,a⟩):=by
   intro w hw h
   have t0:=hq.trans (Mi h hw hZ)
   obtain⟨i1,i2⟩:=SY hw
   have wQ:gh (ba w)=false:=by rw[nW];simp[Hj hw]
   rw[bq]
   simp only[t0,bne_self_eq_false,cond_false,i2,i1,cond_true,pz (a:=a) t0 wQ,iI]
  have:=key x.data.toList hx h
  rw[Z3]at this
  exact this
 |.succ l,n+1,s,q,p,Z,a,h,hq,hZ,hp,hn=>by
  simp only[Lv.size]at hn
  have h':At s p (40::([115]++32::(bX l++41::Z))):=by
   have:(bX (.succ l)++Z:List UInt8)=40::([115]++32::(bX l++41::Z)):=by simp[bX]
   rw[←this];exact h
  obtain⟨e1,e2,e3⟩:=JH (a:=a) abF h' hq n
  have pR:=pz (a:=a) e2 (by rw[nW];rfl)
  have h3:=rt l n (a:=a) e3.tail (py e3) (AA Z) hp (by omega)
  have h4:=EW (w:=ba [41]) (a:=a) (Az e3.tail.drop) rfl
  rw[e1]
  unfold Zd lv1
  simp only[e2,pA,beq_self_eq_true,cond_true,pR,iI,h3,h4]
  simp[bX]
  omega
 |.max x y,n+1,s,q,p,Z,a,h,hq,hZ,hp,hn=>by
  simp only[Lv.size]at hn
  have h':At s p (40::([109,97,120]++32::(bX x++32::(bX y++41::Z)))):=by
   have:(bX (.max x y)++Z:List UInt8)=40::([109,97,120]++32::(bX x++32::(bX y++41::Z))):=by simp[bX]
   rw[←this];exact h
  obtain⟨e1,e2,e3⟩:=JH (a:=a) WN h' hq n
  have pR:=pz (a:=a) e2 (by rw[nW];rfl)
  have h3:=rt x n (a:=a) e3.tail (py e3) (AB _) (fun z hz=>hp z (List.mem_append_left _ hz)) (by omega)
  have h5:=rt y n (a:=a) e3.tail.drop.tail (py e3.tail.drop) (AA Z) (fun z hz=>hp z (List.mem_append_right _ hz)) (by omega)
  have h4:=EW (w:=ba [41]) (a:=a) (Az e3.tail.drop.tail.drop) rfl
  rw[e1]
  unfold Zd Xh
  simp only[e2,pA,show(([109,97,120]:List UInt8)==[115])=false from rfl,cond_false,beq_self_eq_true,cond_true,pR,iI,h3,h5,h4]
  simp[bX]
  omega
 |.imax x y,n+1,s,q,p,Z,a,h,hq,hZ,hp,hn=>by
  simp only[Lv.size]at hn
  have h':At s p (40::([105,109,97,120]++32::(bX x++32::(bX y++41::Z)))):=by
   have:(bX (.imax x y)++Z:List UInt8)=40::([105,109,97,120]++32::(bX x++32::(bX y++41::Z))):=by simp[bX]
   rw[←this];exact h
  obtain⟨e1,e2,e3⟩:=JH (a:=a) SZ h' hq n
  have pR:=pz (a:=a) e2 (by rw[nW];rfl)
  have h3:=rt x n (a:=a) e3.tail (py e3) (AB _) (fun z hz=>hp z (List.mem_append_left _ hz)) (by omega)
  have h5:=rt y n (a:=a) e3.tail.drop.tail (py e3.tail.drop) (AA Z) (fun z hz=>hp z (List.mem_append_right _ hz)) (by omega)
  have h4:=EW (w:=ba [41]) (a:=a) (Az e3.tail.drop.tail.drop) rfl
  rw[e1]
  unfold Zd Xh
  simp only[e2,pA,show(([105,109,97,120]:List UInt8)==[115])=false from rfl,show(([105,109,97,120]:List UInt8)==[109,97,120])=false from rfl,cond_false,beq_self_eq_true,cond_true,pR,iI,h3,h5,h4]
  simp[bX]
  omega
end Go.Ab.Mk
end
section
namespace Go.Ab.Mk
open Go.Proofs Go.Ab
end Go.Ab.Mk
end
section
namespace Go.Ab.Mk
open Go.Proofs Go.Ab Go.Proofs.Mk
def Tm.word:Tm→List UInt8
 |.var _=>[]
 |.sort _=>nz
 |.const ..=>jm
 |.app ..=>wL
 |.lam ..=>wM
 |.pi ..=>Pp
 |.bE ..=>wN
def BJ (ls:List Lv):List UInt8:=ls.flatMap fun l=>32::bX l
def Ke (ks:List (List UInt8)):List UInt8:=ks.flatMap (fun k=>32::k)++[41]
def cX:Tm→List UInt8
 |.var n=>35::Go.Lib.decDigits n
 |.sort l=>40::nz++BJ [l]++Ke []
 |.const s ls=>40::jm++32::s.data.toList++BJ ls++Ke []
 |.app a b=>40::wL++Ke [cX a,cX b]
 |.lam a b=>40::wM++Ke [cX a,cX b]
 |.pi a b=>40::Pp++Ke [cX a,cX b]
 |.bE a b c=>40::wN++Ke [cX a,cX b,cX c]
theorem CG (t:Tm) (h:t.kind≠0):cX t=40::t.word++(if t.kind=2 then 32::t.name.data.toList else[])++BJ t.bK++Ke (t.kids.map cX):=by
 cases t with
 |var=>exact absurd rfl h
 |sort=>simp[cX,Tm.word,Tm.kind,Tm.bK,Tm.kids]
 |const=>simp[cX,Tm.word,Tm.kind,Tm.bK,Tm.kids,Tm.name]
 |app=>simp[cX,Tm.word,Tm.kind,Tm.bK,Tm.kids,BJ]
 |lam=>simp[cX,Tm.word,Tm.kind,Tm.bK,Tm.kids,BJ]
 |pi=>simp[cX,Tm.word,Tm.kind,Tm.bK,Tm.kids,BJ]
 |bE=>simp[cX,Tm.word,Tm.kind,Tm.bK,Tm.kids,BJ]
def Tm.all:Tm→List Lv
 |.sort l=>[l]
 |.const _ ls=>ls
 |.app a b=>a.all++b.all
 |.lam a b=>a.all++b.all
 |.pi a b=>a.all++b.all
 |.bE a b c=>a.all++(b.all++c.all)
 |_=>[]
theorem S0 (l:Lv) (ls:List Lv):BJ (l::ls)=32::bX l++BJ ls:=by simp[BJ]
end Go.Ab.Mk
end
section
namespace Go.Ab.Mk
open Go.Proofs Go.Ab Go.Proofs.Mk
def _root_.Go.Ab.Lv.dM (l:Lv):Nat:=l.size+(bX l).length
def kn (ls:List Lv):Nat:=(ls.map fun l=>l.dM+1).sum
def Tm.dM:Tm→Nat
 |.var _=>1
 |.sort l=>l.dM+1
 |.const s ls=>s.size+kn ls+1
 |.app a b=>a.dM+b.dM+1
 |.lam a b=>a.dM+b.dM+1
 |.pi a b=>a.dM+b.dM+1
 |.bE a b c=>a.dM+b.dM+c.dM+1
def Pw (s:ByteArray) (l:Lv):Prop:=bX l≠[]∧∀x∈l.aT,0<x.size∧x.size≤s.size
structure JI (s:ByteArray) (p q:Nat) (t:Tm):Prop where
 dM:t.dM≤4*(q - p)
 top:t.top<100000
 all:∀l∈t.all,Pw s l
theorem Bo {s:ByteArray} {st:RS} (h:st.p≤s.size) (hc:(bq (s.size+1) s st).2.c=0):(bq (s.size+1) s st).1.dM≤3*((bq (s.size+1) s st).2.p - st.p)∧Pw s (bq (s.size+1) s st).1:=by
 have tk:=il s (s.size+1) st h (.inr (by omega))
 obtain⟨_,a1,a2,a3,a4⟩:=tk.ok hc
 exact⟨by unfold Lv.dM;omega,a4,yG s _ st⟩
theorem Hk (s:ByteArray):∀(n:Nat) (st:RS),st.p≤s.size→(jE n s st).2.c=0→kn (jE n s st).1≤4*((jE n s st).2.p - st.p)∧∀l∈(jE n s st).1,Pw s l
 |0,st,h,_=>⟨by simp[jE,kn],fun l hl=>by simp[jE]at hl⟩
 |n+1,st,h,hc=>by
  unfold jE at hc ⊢
  cases h1:st.c != 0
  ·rw[h1]at hc
   cases h2:aJ (aB s st.p).t [41]
   ·rw[h2]at hc
    simp only[cond_false]at hc ⊢
    have g:=im (s:=s) (st:=st) h
    have g2:=pv s n (bq (s.size+1) s st).2 g.le
    obtain⟨kt,E9⟩:=g2.ok hc
    obtain⟨m1,m2⟩:=Hk s n _ g.le hc
    obtain⟨m3,m4⟩:=Bo h kt
    have:=(g.ok kt).2
    refine⟨?_,fun l hl=>?_⟩
    ·have e:∀(x:Lv) (y:List Lv),kn (x::y)=x.dM+1+kn y:=fun x y=>by simp[kn]
     rw[e]
     omega
    ·rcases List.mem_cons.1 hl with rfl|hl
     ·exact m4
     ·exact m2 l hl
   ·exact⟨by simp[kn],fun l hl=>by simp at hl⟩
  ·exact⟨by simp[kn],fun l hl=>by simp at hl⟩
theorem qH {s:ByteArray} {st:RS} (h:st.p≤s.size) (hc:(df s st).2.c=0):(df s st).1.size+st.p≤(df s st).2.p:=by
 obtain⟨k1,k2,k3⟩:=er s h
 unfold df at hc ⊢
 simp only at hc ⊢
 cases hx:(bif !(aB s st.p).ok||!dz (aB s st.p).t then cE st (aB s st.p).at_ else st).c != 0
 ·simp only[cond_false]
  omega
 ·rw[hx]at hc
  simp only[cond_true]at hc
  rw[hc]at hx
  simp at hx
theorem EX {s:ByteArray} {rec:RS→Tm×RS} {f:Tm→Tm→Tm} (hf:∀a b,(f a b).dM=a.dM+b.dM+1∧(f a b).top=max a.top b.top∧(f a b).all=a.all++b.all) {st0 st:RS} (hp:st.p≤s.size) (aG:st.c=0→st0.p<st.p)
  (hg:∀cN,fK s st cN→iR s cN (rec cN).2) (hr:∀cN,fK s st cN→(rec cN).2.c=0→JI s cN.p (rec cN).2.p (rec cN).1) (hc:(SR rec s f st).2.c=0):JI s st0.p (SR rec s f st).2.p (SR rec s f st).1:=by
 have g0:=fK.refl hp
 have g1:=hg st g0
 have k1:fK s st (rec st).2:=g1.gone
 have g2:=hg _ k1
 have k2:fK s st (rec (rec st).2).2:=k1.trans g2.gone
 have g3:=bk g2.le (ba [41])
 obtain⟨c2,p3⟩:=g3.ok hc
 obtain⟨c1,p2⟩:=g2.ok c2
 obtain⟨c0,p1⟩:=g1.ok c1
 have r1:=hr st g0 c1
 have r2:=hr _ k1 c2
 have:=aG c0
 have m1:=r1.dM
 have m2:=r2.dM
 obtain⟨f1,f2,f3⟩:=hf (rec st).1 (rec (rec st).2).1
 simp only[SR]at p3 ⊢
 refine⟨by rw[f1];omega,by rw[f2];exact Nat.max_lt.2 ⟨r1.top,r2.top⟩,fun l hl=>?_⟩
 rw[f3]at hl
 rcases List.mem_append.1 hl with hl|hl
 ·exact r1.all l hl
 ·exact r2.all l hl
theorem EY (s:ByteArray):∀(n:Nat) (st:RS),st.p≤s.size→(st.c≠0∨s.size - st.p<n)→(aN n s st).2.c=0→JI s st.p (aN n s st).2.p (aN n s st).1
 |0,st,hp,hn,hc=>by rcases hn with hn|hn;exact absurd hc hn;omega
 |n+1,st,hp,hn,lQ=>by
  by_cases hc:st.c=0
  case neg=>rw[lI hc]at lQ;exact absurd lQ hc
  have tb:(st.c != 0)=false:=by simp[hc]
  have g1:=eg hp
  simp only[aN,tb,cond_false]at lQ ⊢
  cases Ml:Ax (aB s st.p)
  case true=>rw[Ml]at lQ;exact absurd lQ (iZ _ _)
  rw[Ml]at lQ
  cases Ti:aJ (aB s st.p).t [40]
  case false=>
   rw[Ti]at lQ
   simp only[cond_false]at lQ ⊢
   have aG:=(g1.ok lQ).2
   refine⟨by simp only[Tm.dM];omega,?_,fun l hl=>by simp[Tm.all]at hl⟩
   simp only[Ax,Ti,Bool.not_false,Bool.and_true,Bool.or_eq_false_iff,Bool.not_eq_false',Bool.not_eq_true',Bool.not_not]at Ml
   have hd:=Qy hp Ml.1 Ml.2.1 (by simpa using Ml.2.2)
   have hb:=Pn hd ((aB s st.p).t.extract 1 (aB s st.p).t.size).size 0 0 (by omega)
   have h5:=hd.few
   have h10:10^((aB s st.p).t.extract 1 (aB s st.p).t.size).size≤10^5:=Nat.pow_le_pow_right (by omega) (by omega)
   simp only[Tm.top,BI]
   omega
  rw[Ti]at lQ
  simp only[cond_true,cond_false,tmP]at lQ ⊢
  cases hw:gQ (aB s (aI s st).2.p).t==0
  case true=>rw[hw]at lQ;exact absurd lQ (iZ _ _)
  rw[hw]at lQ
  have g2:=g1.trans (eg g1.le).gone
  simp only[cond_false]at lQ ⊢
  have pR:∀cN,iR s st cN→cN.c≠0∨s.size - cN.p<n:=by
   intro cN h
   by_cases hz:cN.c=0
   ·have:=(h.ok hz).2
    have:=h.le
    rcases hn with hn|hn
    ·exact absurd hc hn
    ·right;omega
   ·exact .inl hz
  generalize (aI s (aI s st).2).2=dH at g2 lQ ⊢
  have aG:dH.c=0→st.p<dH.p:=fun h=>(g2.ok h).2
  have hg:∀cN,fK s dH cN→iR s cN (aN n s cN).2:=fun cN h=>fj s n cN h.le (pR _ (g2.trans h))
  have hr:∀cN,fK s dH cN→(aN n s cN).2.c=0→JI s cN.p (aN n s cN).2.p (aN n s cN).1:=fun cN h h0=>EY s n cN h.le (pR _ (g2.trans h)) h0
  unfold tmB at lQ ⊢
  split at lQ
  ·have l1:=im g2.le
   have g3:=bk l1.le (ba [41])
   obtain⟨c1,p1⟩:=g3.ok lQ
   obtain⟨m1,m2⟩:=Bo g2.le c1
   have:=aG (l1.ok c1).1
   have:=(l1.ok c1).2
   simp only
   refine⟨by simp only[Tm.dM];omega,by simp[Tm.top],fun l hl=>?_⟩
   simp only[Tm.all,List.mem_singleton]at hl
   subst hl
   exact m2
  ·have l1:=dO (s:=s) g2.le
   have l2:=pv s (s.size+10) _ l1.le
   have g3:=bk l2.le (ba [41])
   obtain⟨c2,p2⟩:=g3.ok lQ
   obtain⟨c1,p1⟩:=l2.ok c2
   obtain⟨m1,m2⟩:=Hk s (s.size+10) _ l1.le c2
   have m3:=qH g2.le c1
   have:=aG (l1.ok c1).1
   simp only
   refine⟨by simp only[Tm.dM];omega,by simp[Tm.top],fun l hl=>m2 l hl⟩
  ·exact EX (fun a b=>⟨rfl,rfl,rfl⟩) g2.le aG hg hr lQ
  ·exact EX (fun a b=>⟨rfl,rfl,rfl⟩) g2.le aG hg hr lQ
  ·exact EX (fun a b=>⟨rfl,rfl,rfl⟩) g2.le aG hg hr lQ
  ·have g0:=fK.refl g2.le
   have g1':=hg dH g0
   have k1:fK s dH (aN n s dH).2:=g1'.gone
   have g2':=hg _ k1
   have k2:fK s dH (aN n s (aN n s dH).2).2:=k1.trans g2'.gone
   have g3':=hg _ k2
   have g4:=bk g3'.le (ba [41])
   obtain⟨c3,p4⟩:=g4.ok lQ
   obtain⟨c2,p3⟩:=g3'.ok c3
   obtain⟨c1,p2⟩:=g2'.ok c2
   obtain⟨c0,p1⟩:=g1'.ok c1
   have r1:=hr dH g0 c1
   have r2:=hr _ k1 c2
   have r3:=hr _ k2 c3
   have:=aG c0
   have m1:=r1.dM
   have m2:=r2.dM
   have m3:=r3.dM
   simp only[tm3]at p4 ⊢
   refine⟨by simp only[Tm.dM];omega,by simp only[Tm.top];exact Nat.max_lt.2 ⟨r1.top,Nat.max_lt.2 ⟨r2.top,r3.top⟩⟩,fun l hl=>?_⟩
   simp only[Tm.all]at hl
   rcases List.mem_append.1 hl with hl|hl
   ·exact r1.all l hl
   ·rcases List.mem_append.1 hl with hl|hl
    ·exact r2.all l hl
    ·exact r3.all l hl
theorem Hl:∀ls:List Lv,ls.length≤kn ls
 |[]=>by simp[kn]
 |l::ls=>by have:=Hl ls;simp only[kn,List.map_cons,List.sum_cons,List.length_cons]at this ⊢;omega
theorem gM:∀t:Tm,t.wide≤t.dM
 |.var _=>by simp[Tm.wide,Tm.dM]
 |.sort _=>by simp[Tm.wide,Tm.dM]
 |.const s ls=>by have:=Hl ls;simp only[Tm.wide,Tm.dM];omega
 |.app a b=>by have:=gM a;have:=gM b;simp only[Tm.wide,Tm.dM];omega
 |.lam a b=>by have:=gM a;have:=gM b;simp only[Tm.wide,Tm.dM];omega
 |.pi a b=>by have:=gM a;have:=gM b;simp only[Tm.wide,Tm.dM];omega
 |.bE a b c=>by have:=gM a;have:=gM b;have:=gM c;simp only[Tm.wide,Tm.dM];omega
theorem wP:∀(k n:Nat),n<10^(k+1)→(Go.Lib.decDigits n).length≤k+1
 |0,n,h=>by rw[Go.Lib.decDigits,dif_pos (by simpa using h)];simp
 |k+1,n,h=>by
  rw[Go.Lib.decDigits]
  split
  ·simp
  ·have:=wP k (n / 10) (by rw[Nat.pow_succ]at h;omega)
   simp only[List.length_append,List.length_singleton]
   omega
theorem AD:∀ls:List Lv,(BJ ls).length≤kn ls
 |[]=>by simp[BJ]
 |l::ls=>by
  have:=AD ls
  rw[S0]
  simp only[List.length_cons,List.length_append,kn,List.map_cons,List.sum_cons,Lv.dM]at this ⊢
  omega
theorem fS {k:Nat}:∀{t:Tm},t.top<10^(k+1)→(cX t).length≤(k+10)*t.dM
 |.var n,h=>by
  have:=wP k n h
  simp only[cX,Tm.dM,List.length_cons];omega
 |.sort l,_=>by
  have h1:=AD [l]
  have h2:10*(l.dM+1)≤(k+10)*(l.dM+1):=Nat.mul_le_mul_right _ (by omega)
  simp only[kn,List.map_cons,List.map_nil,List.sum_cons,List.sum_nil]at h1
  simp only[cX,Tm.dM,nz,Ke,List.length_cons,List.length_append,List.length_nil,List.flatMap_nil];omega
 |.const s ls,_=>by
  have h1:=AD ls
  have h2:10*(s.size+kn ls+1)≤(k+10)*(s.size+kn ls+1):=Nat.mul_le_mul_right _ (by omega)
  have h3:s.data.toList.length=s.size:=Array.length_toList
  simp only[cX,Tm.dM,jm,Ke,List.length_cons,List.length_append,List.length_nil,List.flatMap_nil];omega
 |.app a b,h=>by
  simp only[Tm.top]at h
  have h1:=fS (t:=a) (k:=k) (by omega)
  have h2:=fS (t:=b) (k:=k) (by omega)
  simp only[cX,Tm.dM,wL,Ke,List.length_cons,List.length_append,List.length_nil,List.flatMap_cons,List.flatMap_nil,Nat.mul_add];omega
 |.lam a b,h=>by
  simp only[Tm.top]at h
  have h1:=fS (t:=a) (k:=k) (by omega)
  have h2:=fS (t:=b) (k:=k) (by omega)
  simp only[cX,Tm.dM,wM,Ke,List.length_cons,List.length_append,List.length_nil,List.flatMap_cons,List.flatMap_nil,Nat.mul_add];omega
 |.pi a b,h=>by
  simp only[Tm.top]at h
  have h1:=fS (t:=a) (k:=k) (by omega)
  have h2:=fS (t:=b) (k:=k) (by omega)
  simp only[cX,Tm.dM,Pp,Ke,List.length_cons,List.length_append,List.length_nil,List.flatMap_cons,List.flatMap_nil,Nat.mul_add];omega
 |.bE a b c,h=>by
  simp only[Tm.top]at h
  have h1:=fS (t:=a) (k:=k) (by omega)
  have h2:=fS (t:=b) (k:=k) (by omega)
  have h3:=fS (t:=c) (k:=k) (by omega)
  simp only[cX,Tm.dM,wN,Ke,List.length_cons,List.length_append,List.length_nil,List.flatMap_cons,List.flatMap_nil,Nat.mul_add];omega
end Go.Ab.Mk
end
section
namespace Go.Ab.Mk
open Go.Proofs Go.Ab
open Go.Lib (decDigits)
structure aeI (t:Tm):Prop where
 top:t.top<100000
 lv:∀l∈t.all,∀x∈l.aT,ew x
def Tm.names:Tm→List ByteArray
 |.const s _=>[s]
 |.app a b=>a.names++b.names
 |.lam a b=>a.names++b.names
 |.pi a b=>a.names++b.names
 |.bE a b c=>a.names++(b.names++c.names)
 |_=>[]
structure Mw (t:Tm):Prop where
 top:t.top<100000
 lv:∀l∈t.all,∀x∈l.aT,ew x
 names:∀x∈t.names,ew x
theorem nX {s:ByteArray} {st:RS} (hc:(df s st).2.c=0):ew (df s st).1:=by
 unfold df at hc ⊢
 simp only at hc ⊢
 cases hx:(!(aB s st.p).ok||!dz (aB s st.p).t)
 ·rw[hx]at hc
  simp only[Bool.or_eq_false_iff,Bool.not_eq_false']at hx
  simp only[cond_false]at hc ⊢
  cases h2:st.c != 0
  ·simp only[cond_false]
   exact Mh hx.2
  ·rw[h2]at hc
   simp only[cond_true]at hc
   rw[hc]at h2
   simp at h2
 ·rw[hx]at hc
  simp only[cond_true]at hc
  have hf:((cE st (aB s st.p).at_).c != 0)=true:=by simpa using iZ st (aB s st.p).at_
  rw[hf]at hc
  exact absurd hc (iZ _ _)
theorem EZ (s:ByteArray):∀(n:Nat) (st:RS),∀l∈(jE n s st).1,∀x∈l.aT,ew x
 |0,st,l,h=>by simp[jE]at h
 |n+1,st,l,h=>by
  unfold jE at h
  cases h1:st.c != 0
  ·rw[h1]at h
   cases h2:aJ (aB s st.p).t [41]
   ·rw[h2]at h
    simp only[cond_false]at h
    rcases List.mem_cons.1 h with rfl|h
    ·exact qG s _ _
    ·exact EZ s n _ l h
   ·rw[h2]at h;simp at h
  ·rw[h1]at h;simp at h
structure vi (t:Tm):Prop where
 lv:∀l∈t.all,∀x∈l.aT,ew x
 names:∀x∈t.names,ew x
theorem vi.leaf:vi (.var 0):=⟨fun l hl=>by simp[Tm.all]at hl,fun x hx=>by simp[Tm.names]at hx⟩
theorem AE {s:ByteArray} {rec:RS→Tm×RS} {f:Tm→Tm→Tm} (hf:∀a b,(f a b).all=a.all++b.all∧(f a b).names=a.names++b.names) {st:RS} (hp:st.p≤s.size)
  (hg:∀cN,fK s st cN→iR s cN (rec cN).2) (hr:∀cN,fK s st cN→(rec cN).2.c=0→vi (rec cN).1) (hc:(SR rec s f st).2.c=0):vi (SR rec s f st).1:=by
 have g0:=fK.refl hp
 have g1:=hg st g0
 have k1:fK s st (rec st).2:=g1.gone
 have g2:=hg _ k1
 have g3:=bk g2.le (ba [41])
 obtain⟨c2,_⟩:=g3.ok hc
 obtain⟨c1,_⟩:=g2.ok c2
 have r1:=hr st g0 c1
 have r2:=hr _ k1 c2
 obtain⟨f1,f2⟩:=hf (rec st).1 (rec (rec st).2).1
 simp only[SR]
 refine⟨fun l hl=>?_,fun l hl=>?_⟩
 ·rw[f1]at hl
  rcases List.mem_append.1 hl with hl|hl
  ·exact r1.lv l hl
  ·exact r2.lv l hl
 ·rw[f2]at hl
  rcases List.mem_append.1 hl with hl|hl
  ·exact r1.names l hl
  ·exact r2.names l hl
theorem Bp (s:ByteArray):∀(n:Nat) (st:RS),st.p≤s.size→(st.c≠0∨s.size - st.p<n)→(aN n s st).2.c=0→vi (aN n s st).1
 |0,st,hp,hn,hc=>vi.leaf
 |n+1,st,hp,hn,lQ=>by
  by_cases hc:st.c=0
  case neg=>rw[lI hc];exact vi.leaf
  have tb:(st.c != 0)=false:=by simp[hc]
  have g1:=eg hp
  simp only[aN,tb,cond_false]at lQ ⊢
  cases Ml:Ax (aB s st.p)
  case true=>exact vi.leaf
  rw[Ml]at lQ
  cases Ti:aJ (aB s st.p).t [40]
  case false=>exact⟨fun l hl=>by simp[Tm.all]at hl,fun x hx=>by simp[Tm.names]at hx⟩
  rw[Ti]at lQ
  simp only[cond_true,cond_false,tmP]at lQ ⊢
  cases hw:gQ (aB s (aI s st).2.p).t==0
  case true=>exact vi.leaf
  rw[hw]at lQ
  have g2:=g1.trans (eg g1.le).gone
  simp only[cond_false]at lQ ⊢
  have pR:∀cN,iR s st cN→cN.c≠0∨s.size - cN.p<n:=by
   intro cN h
   by_cases hz:cN.c=0
   ·have:=(h.ok hz).2
    have:=h.le
    rcases hn with hn|hn
    ·exact absurd hc hn
    ·right;omega
   ·exact .inl hz
  generalize (aI s (aI s st).2).2=dH at g2 lQ ⊢
  have hg:∀cN,fK s dH cN→iR s cN (aN n s cN).2:=fun cN h=>fj s n cN h.le (pR _ (g2.trans h))
  have hr:∀cN,fK s dH cN→(aN n s cN).2.c=0→vi (aN n s cN).1:=fun cN h h0=>Bp s n cN h.le (pR _ (g2.trans h)) h0
  unfold tmB at lQ ⊢
  split at lQ
  ·simp only
   refine⟨fun l hl=>?_,fun x hx=>by simp[Tm.names]at hx⟩
   simp only[Tm.all,List.mem_singleton]at hl
   subst hl
   exact qG s _ _
  ·have l1:=dO (s:=s) g2.le
   have l2:=pv s (s.size+10) _ l1.le
   have g3:=bk l2.le (ba [41])
   obtain⟨c2,_⟩:=g3.ok lQ
   obtain⟨c1,_⟩:=l2.ok c2
   simp only
   refine⟨fun l hl=>EZ s _ _ l hl,fun x hx=>?_⟩
   simp only[Tm.names,List.mem_singleton]at hx
   subst hx
   exact nX c1
  ·exact AE (fun a b=>⟨rfl,rfl⟩) g2.le hg hr lQ
  ·exact AE (fun a b=>⟨rfl,rfl⟩) g2.le hg hr lQ
  ·exact AE (fun a b=>⟨rfl,rfl⟩) g2.le hg hr lQ
  ·have g0:=fK.refl g2.le
   have g1':=hg dH g0
   have k1:fK s dH (aN n s dH).2:=g1'.gone
   have g2':=hg _ k1
   have k2:fK s dH (aN n s (aN n s dH).2).2:=k1.trans g2'.gone
   have g3':=hg _ k2
   have g4:=bk g3'.le (ba [41])
   obtain⟨c3,_⟩:=g4.ok lQ
   obtain⟨c2,_⟩:=g3'.ok c3
   obtain⟨c1,_⟩:=g2'.ok c2
   have r1:=hr dH g0 c1
   have r2:=hr _ k1 c2
   have r3:=hr _ k2 c3
   simp only[tm3]
   refine⟨fun l hl=>?_,fun l hl=>?_⟩
   ·simp only[Tm.all]at hl
    rcases List.mem_append.1 hl with hl|hl
    ·exact r1.lv l hl
    ·rcases List.mem_append.1 hl with hl|hl
     ·exact r2.lv l hl
     ·exact r3.lv l hl
   ·simp only[Tm.names]at hl
    rcases List.mem_append.1 hl with hl|hl
    ·exact r1.names l hl
    ·rcases List.mem_append.1 hl with hl|hl
     ·exact r2.names l hl
     ·exact r3.names l hl
end Go.Ab.Mk
end
section
namespace Go.Ab.Mk
open Go.Proofs Go.Ab
open Go.Lib (decDigits)
def yY:List UInt8:=[97,120,105,111,109]
def Q3:List UInt8:=[100,101,102]
def tj:List UInt8:=[105,110,100,117,99,116,105,118,101]
def jQ:List UInt8:=[99,116,111,114]
def kwL (k:Nat):List UInt8:=match k with|1=>yY|2=>Q3|_=>tj
def oh (t:ByteArray):Nat:=bif aJ t yY then 1 else bif aJ t Q3 then 2 else bif aJ t tj then 3 else 0
def eu:Nat→ByteArray→RS→List ByteArray×RS
 |0,_,st=>([],st)
 |n+1,s,st=>
  bif st.c != 0 then([],st)else
  bif aJ (aB s st.p).t [41]then([],st)else
  let x:=df s st
  let y:=eu n s x.2
  (x.1::y.1,y.2)
def pB (k:Tok):Bool:=!k.ok||(gh k.t||(!(isDigit (av k.t 0))||decide (k.t.size>2)))
def dp (s:ByteArray) (st:RS):Nat×RS:=
 bif st.c != 0 then(0,st)else
 bif pB (aB s st.p)then(0,cE st (aB s st.p).at_)else(BI (aB s st.p).t,(aI s st).2)
def eG:Nat→ByteArray→RS→List (ByteArray×Tm)×RS
 |0,_,st=>([],st)
 |n+1,s,st=>
  bif st.c != 0 then([],st)else
  bif !aJ (aB s st.p).t [40]then([],st)else
  let x:=df s (bG s (bG s st (ba [40])) (ba jQ))
  let t:=aN (s.size+1) s x.2
  let y:=eG n s (bG s t.2 (ba [41]))
  ((x.1,t.1)::y.1,y.2)
def Px (s nm:ByteArray) (ps:List ByteArray) (st:RS):Dc×RS:=
 (⟨1,nm,ps,(aN (s.size+1) s st).1,.var 0,0,[]⟩,bG s (aN (s.size+1) s st).2 (ba [41]))
def Py (s nm:ByteArray) (ps:List ByteArray) (st:RS):Dc×RS:=
 (⟨2,nm,ps,(aN (s.size+1) s st).1,(aN (s.size+1) s (aN (s.size+1) s st).2).1,0,[]⟩,bG s (aN (s.size+1) s (aN (s.size+1) s st).2).2 (ba [41]))
def jn (s nm:ByteArray) (ps:List ByteArray) (ar:Nat) (st:RS):Dc×RS:=
 (⟨3,nm,ps,(aN (s.size+1) s st).1,.var 0,ar,(eG (s.size+10) s (aN (s.size+1) s st).2).1⟩,bG s (eG (s.size+10) s (aN (s.size+1) s st).2).2 (ba [41]))
def Pz (s nm:ByteArray) (ps:List ByteArray) (st:RS):Dc×RS:=jn s nm ps (dp s st).1 (dp s st).2
def lJ (k:Nat) (s nm:ByteArray) (ps:List ByteArray) (st:RS):Dc×RS:=match k with|1=>Px s nm ps st|2=>Py s nm ps st|_=>Pz s nm ps st
def ir (k:Nat) (s nm:ByteArray) (ps:List ByteArray) (x:List ByteArray×RS):Dc×RS:=lJ k s nm (ps++x.1) (bG s x.2 (ba [41]))
def CA (k:Nat) (s:ByteArray) (st:RS):Dc×RS:=ir k s (df s st).1 [] (eu (s.size+10) s (bG s (df s st).2 (ba [40])))
def TQ:Dc:=⟨0,ByteArray.mk #[],[],.var 0,.var 0,0,[]⟩
def Kb (s:ByteArray) (st:RS):Dc×RS:=
 bif oh (aB s st.p).t==0 then(TQ,cE st (aB s st.p).at_)else CA (oh (aB s st.p).t) s (aI s st).2
def dQ (s:ByteArray) (st:RS):Dc×RS:=Kb s (bG s st (ba [40]))
def cS:Nat→ByteArray→RS→List Dc×RS
 |0,_,st=>([],st)
 |n+1,s,st=>
  bif st.c != 0 then([],st)else
  bif (aB s st.p).ok&&gh (aB s st.p).t then([],st)else
  ((dQ s st).1::(cS n s (dQ s st).2).1,(cS n s (dQ s st).2).2)
def dx (s:ByteArray):List Dc×Int×Int:=
 bif decide ((s.size:Int)>200000)then([],2,0)else
 bif (cS (s.size+2) s ⟨0,0,0⟩).2.c != 0 then([],(cS (s.size+2) s ⟨0,0,0⟩).2.c,(cS (s.size+2) s ⟨0,0,0⟩).2.a)else((cS (s.size+2) s ⟨0,0,0⟩).1,0,0)
theorem JJ {n:Nat} {s:ByteArray} {st:RS} (h:st.c≠0):eu n s st=([],st):=by
 cases n with
 |zero=>rfl
 |succ n=>
  have h2:(st.c != 0)=true:=by simpa using h
  rw[eu,h2];rfl
theorem yI {n:Nat} {s:ByteArray} {st:RS} (h:st.c≠0):eG n s st=([],st):=by
 cases n with
 |zero=>rfl
 |succ n=>
  have h2:(st.c != 0)=true:=by simpa using h
  rw[eG,h2];rfl
theorem yJ {s:ByteArray} {st:RS} (h:st.c≠0):dp s st=(0,st):=by
 have h2:(st.c != 0)=true:=by simpa using h
 unfold dp
 rw[h2];rfl
theorem mA {s nm:ByteArray} {ps:List ByteArray} {ar:Nat} {st:RS} (h:st.c≠0):(jn s nm ps ar st).2=st:=by
 unfold jn
 rw[lI h,yI h,Mc h]
theorem Mm {st:RS} {i:Nat} (h:st.c≠0):cE st i=st:=by
 have h1:(st.c==0)=false:=by simpa using h
 unfold cE;rw[h1];rfl
theorem nY (s:ByteArray):∀(n:Nat) (st:RS),st.p≤s.size→fK s st (eu n s st).2
 |0,st,h=>fK.refl h
 |n+1,st,h=>by
  unfold eu
  cases st.c != 0
  ·cases aJ (aB s st.p).t [41]
   ·exact(dO h).gone.trans (nY s n _ (dO h).le)
   ·exact fK.refl h
  ·exact fK.refl h
theorem Bq {s:ByteArray} {st:RS} (h:st.p≤s.size):fK s st (dp s st).2:=by
 unfold dp
 cases st.c != 0
 ·cases pB (aB s st.p)
  ·exact(eg h).gone
  ·exact(kS h _).gone
 ·exact fK.refl h
theorem cA {s:ByteArray} {st:RS} (h:st.p≤s.size):iR s st (aN (s.size+1) s st).2:=fj s (s.size+1) st h (.inr (by omega))
theorem nZ (s:ByteArray):∀(n:Nat) (st:RS),st.p≤s.size→fK s st (eG n s st).2
 |0,st,h=>fK.refl h
 |n+1,st,h=>by
  unfold eG
  cases st.c != 0
  ·cases !aJ (aB s st.p).t [40]
   ·have g1:=(bk h (ba [40]))
    have g2:=g1.trans (bk g1.le (ba jQ))
    have g3:=g2.trans (dO g2.le).gone
    have g4:=g3.trans (cA g3.le).gone
    have g5:=g4.trans (bk g4.le (ba [41]))
    exact g5.trans (nZ s n _ g5.le)
   ·exact fK.refl h
  ·exact fK.refl h
theorem Mn {s nm:ByteArray} {ps:List ByteArray} {ar:Nat} {st:RS} (h:st.p≤s.size):iR s st (jn s nm ps ar st).2:=by
 have g1:=cA h
 have g2:=g1.trans (nZ s (s.size+10) _ g1.le)
 exact g2.trans (bk g2.le _)
theorem E0 {k:Nat} {s nm:ByteArray} {ps:List ByteArray} {st:RS} (h:st.p≤s.size):iR s st (lJ k s nm ps st).2:=by
 unfold lJ
 split
 ·have g1:=cA h
  exact g1.trans (bk g1.le _)
 ·have g1:=cA h
  have g2:=g1.trans (cA g1.le).gone
  exact g2.trans (bk g2.le _)
 ·have g0:=Bq h
  have g1:=Mn (nm:=nm) (ps:=ps) (ar:=(dp s st).1) g0.le
  exact⟨g1.le,fun e=>⟨(g0.ok (g1.ok e).1).1,Nat.lt_of_le_of_lt (g0.ok (g1.ok e).1).2 (g1.ok e).2⟩⟩
theorem Br {k:Nat} {s nm:ByteArray} {ps:List ByteArray} {x:List ByteArray×RS} (h:x.2.p≤s.size):fK s x.2 (ir k s nm ps x).2:=by
 have g1:=bk h (ba [41])
 exact g1.trans (E0 g1.le).gone
theorem E3 {k:Nat} {s:ByteArray} {st:RS} (h:st.p≤s.size):iR s st (CA k s st).2:=by
 have g1:=dO (s:=s) h
 have g2:=g1.trans (bk g1.le (ba [40]))
 have g3:=g2.trans (nY s (s.size+10) _ g2.le)
 exact g3.trans (Br g3.le)
theorem E4 {s:ByteArray} {st:RS} (h:st.p≤s.size):iR s st (Kb s st).2:=by
 unfold Kb
 cases oh (aB s st.p).t==0
 ·have g1:=eg h
  exact g1.trans (E3 g1.le).gone
 ·exact kS h _
theorem CE {s:ByteArray} {st:RS} (h:st.p≤s.size):iR s st (dQ s st).2:=by
 have g0:=bk h (ba [40])
 have g1:=E4 (s:=s) g0.le
 exact⟨g1.le,fun e=>⟨(g0.ok (g1.ok e).1).1,by have:=(g0.ok (g1.ok e).1).2;have:=(g1.ok e).2;unfold dQ at*;omega⟩⟩
def xi:List ByteArray→List UInt8
 |[]=>[]
 |x::xs=>x.data.toList++xs.flatMap fun y=>32::y.data.toList
def Kf (c:ByteArray×Tm):List UInt8:=40::(jQ++32::(c.1.data.toList++32::(cX c.2++[41])))
def ia (cs:List (ByteArray×Tm)):List UInt8:=cs.flatMap fun c=>32::Kf c
def arL (d:Dc):List UInt8:=if d.kind=3 then 32::decDigits d.arity else[]
def MT (d:Dc):List UInt8:=if d.kind=2 then 32::cX d.value else[]
def Kh (d:Dc):List UInt8:=
 40::(kwL d.kind++32::(d.name.data.toList++32::40::(xi d.aT++41::(arL d++32::(cX d.type++(MT d++(ia d.ctors++[41])))))))
def Ki (ds:List Dc):List UInt8:=ds.flatMap fun d=>Kh d++[10]
structure qM (t:Tm):Prop where
 ok:Mw t
 wide:t.wide≤1000000
 ne:∀l∈t.all,bX l≠[]
 dM:t.dM≤1000000
theorem qM.leaf:qM (.var 0):=⟨⟨by simp[Tm.top],fun l hl=>by simp[Tm.all]at hl,fun l hl=>by simp[Tm.names]at hl⟩,by simp[Tm.wide],fun l hl=>by simp[Tm.all]at hl,by simp[Tm.dM]⟩
structure S7 (d:Dc):Prop where
 kind:d.kind=1∨d.kind=2∨d.kind=3
 name:ew d.name
 aT:∀x∈d.aT,ew x
 type:qM d.type
 value:qM d.value
 aek:d.kind≠2→d.value=.var 0
 abO:d.kind≠3→d.arity=0∧d.ctors=[]
 arity:d.arity<100
 ctors:∀c∈d.ctors,ew c.1∧qM c.2
theorem nA {s:ByteArray} {st:RS} (hs:s.size≤200000) (h:st.p≤s.size) (hc:(aN (s.size+1) s st).2.c=0):
  qM (aN (s.size+1) s st).1∧(cX (aN (s.size+1) s st).1).length+56*st.p≤56*(aN (s.size+1) s st).2.p:=by
 have r:=EY s (s.size+1) st h (.inr (by omega)) hc
 have n:=Bp s (s.size+1) st h (.inr (by omega)) hc
 have g:=cA (s:=s) h
 have m:=r.dM
 have w:=gM (aN (s.size+1) s st).1
 have p:=fS (t:=(aN (s.size+1) s st).1) (k:=4) r.top
 have:=(g.ok hc).2
 have:=g.le
 exact⟨⟨⟨r.top,n.lv,n.names⟩,by omega,fun l hl=>(r.all l hl).1,by omega⟩,by omega⟩
theorem WO (xs:List ByteArray):∀{n:Nat},(xs.map fun y:ByteArray=>y.size+1).sum=n→(xs.flatMap fun y:ByteArray=>32::y.data.toList).length=n:=by
 induction xs with
 |nil=>intro n h;simpa using h
 |cons x xs ih=>
  intro n h
  simp only[List.map_cons,List.sum_cons]at h
  have:=ih rfl
  have hx:x.data.toList.length=x.size:=Array.length_toList
  simp only[List.flatMap_cons,List.length_append,List.length_cons]at this ⊢
  omega
theorem S1 (xs:List ByteArray):(xi xs).length≤(xs.map fun y:ByteArray=>y.size+1).sum:=by
 cases xs with
 |nil=>simp[xi]
 |cons x xs=>
  have:=WO xs rfl
  have hx:x.data.toList.length=x.size:=Array.length_toList
  simp only[xi,List.length_append,List.map_cons,List.sum_cons]at this ⊢
  omega
theorem Bs (s:ByteArray):∀(n:Nat) (st:RS),st.p≤s.size→(eu n s st).2.c=0→(∀x∈(eu n s st).1,ew x)∧((eu n s st).1.map fun y:ByteArray=>y.size+1).sum+2*st.p≤2*(eu n s st).2.p
 |0,st,h,_=>⟨fun x hx=>by simp[eu]at hx,by simp[eu]⟩
 |n+1,st,h,hc=>by
  unfold eu at hc ⊢
  cases h1:st.c != 0
  ·rw[h1]at hc
   cases h2:aJ (aB s st.p).t [41]
   ·rw[h2]at hc
    simp only[cond_false]at hc ⊢
    have g:=dO (s:=s) h
    obtain⟨c1,p1⟩:=(nY s n _ g.le).ok hc
    obtain⟨i1,i2⟩:=Bs s n _ g.le hc
    have r1:=qH h c1
    have r2:=(g.ok c1).2
    refine⟨fun x hx=>?_,?_⟩
    ·rcases List.mem_cons.1 hx with rfl|hx
     ·exact nX c1
     ·exact i1 x hx
    ·simp only[List.map_cons,List.sum_cons]
     omega
   ·exact⟨fun x hx=>by simp at hx,by simp⟩
  ·exact⟨fun x hx=>by simp at hx,by simp⟩
theorem iK {s:ByteArray} {st:RS} {w:List UInt8} (h:st.p≤s.size) (hc:(bG s st (ba w)).c=0):st.c=0∧st.p+w.length≤(bG s st (ba w)).p:=by
 obtain⟨_,a⟩:=JE (w:=ba w) h
 obtain⟨a1,a2,a3⟩:=a hc
 have:=(er s h).ge
 have hz:(aB s st.p).t.size=w.length:=fR (by simpa[aJ]using a2)
 exact⟨a1,by omega⟩
theorem Bt {s:ByteArray} (hs:s.size≤200000):∀(n:Nat) (st:RS),st.p≤s.size→(eG n s st).2.c=0→(∀c∈(eG n s st).1,ew c.1∧qM c.2)∧(ia (eG n s st).1).length+60*st.p≤60*(eG n s st).2.p
 |0,st,h,_=>⟨fun x hx=>by simp[eG]at hx,by simp[eG,ia]⟩
 |n+1,st,h,hc=>by
  unfold eG at hc ⊢
  cases h1:st.c != 0
  ·rw[h1]at hc
   cases h2:!aJ (aB s st.p).t [40]
   ·rw[h2]at hc
    simp only[cond_false]at hc ⊢
    have g1:=(bk h (ba [40]))
    have g2:=(bk g1.le (ba jQ))
    have g3:=(dO (s:=s) g2.le)
    have g4:=(cA g3.le)
    have g5:=(bk g4.le (ba [41]))
    obtain⟨c5,p5⟩:=(nZ s n _ g5.le).ok hc
    obtain⟨i1,i2⟩:=Bt hs n _ g5.le hc
    obtain⟨c4,p4⟩:=g5.ok c5
    obtain⟨c3,p3⟩:=g4.ok c4
    obtain⟨c2,p2⟩:=g3.ok c3
    obtain⟨c1,p1⟩:=g2.ok c2
    have k1:=(iK h c1).2
    have k2:=(iK g1.le c2).2
    have k3:=qH g2.le c3
    obtain⟨k4,k5⟩:=nA hs g3.le c4
    refine⟨fun c hx=>?_,?_⟩
    ·rcases List.mem_cons.1 hx with rfl|hx
     ·exact⟨nX c3,k4⟩
     ·exact i1 c hx
    ·have hx:(df s (bG s (bG s st (ba [40])) (ba jQ))).1.data.toList.length=(df s (bG s (bG s st (ba [40])) (ba jQ))).1.size:=Array.length_toList
     simp only[ia,List.flatMap_cons,List.length_append,List.length_cons,Kf,List.length_nil]at i2 ⊢
     simp only[List.length_cons,List.length_nil,jQ]at k1 k2 ⊢
     unfold jQ at*
     omega
   ·exact⟨fun x hx=>by simp at hx,by simp[ia]⟩
  ·exact⟨fun x hx=>by simp at hx,by simp[ia]⟩
theorem QA {s:ByteArray} {p:Nat} (hp:p≤s.size) (eY:(aB s p).ok=true) (h0:gh (aB s p).t=false) (wS:isDigit (av (aB s p).t 0)=true):sU (aB s p).t∧(1<(aB s p).t.size→av (aB s p).t 0≠48):=by
  have h1:=j6 eQ s p
  have h2:=j7 (f:=eQ) hp
  unfold aB at eY h0 wS ⊢
  generalize scan eQ s p=i at h1 h2 eY h0 wS ⊢
  by_cases hi:i=s.size
  · have:lH s i=⟨ByteArray.mk #[],i,true⟩:=by unfold lH;simp[hi]
    rw[this]at h0;simp[gh]at h0
  · have aG:i<s.size:=by omega
    have hb:∀q,i+1≤q→q≤s.size→av (s.extract i q) 0=av s i:=fun q hq1 Uv=>jl (by omega) Uv
    unfold lH at eY h0 wS ⊢
    have hib:(i==s.size)=false:=by simpa using hi
    simp only[hib,cond_false]at eY h0 wS ⊢
    cases Ka:av s i==40
    case true=>
      simp only[Ka,cond_true]at eY h0 wS ⊢
      rw[hb _ (Nat.le_refl _) (by omega),beq_iff_eq.1 Ka]at wS
      exact absurd wS (by decide)
    cases Hf:av s i==41
    case true=>
      simp only[Ka,Hf,cond_true,cond_false]at eY h0 wS ⊢
      rw[hb _ (Nat.le_refl _) (by omega),beq_iff_eq.1 Hf]at wS
      exact absurd wS (by decide)
    simp only[Ka,Hf,cond_false]at eY h0 wS ⊢
    cases enm:cn (av s i) true
    case true=>
      simp only[enm,cond_true]at eY h0 wS ⊢
      have g1:=j6 (cn · false) s (i+1)
      have g2:=j7 (f:=(cn · false)) (s:=s) (i:=i+1) (by omega)
      generalize scan (cn · false) s (i+1)=q at g1 g2 eY h0 wS ⊢
      unfold sR at eY h0 wS ⊢
      cases e:decide (q - i>40)
      · simp only[e,cond_false]at eY h0 wS ⊢
        rw[hb q g1 g2]at wS
        simp only[cn,yv,Bool.not_true,Bool.false_and,Bool.or_false,Bool.or_eq_true,Bool.and_eq_true,decide_eq_true_eq,beq_iff_eq]at enm
        simp only[isDigit,Bool.and_eq_true,decide_eq_true_eq]at wS
        omega
      · simp[e,Tok.no]at eY
    simp only[enm,cond_false]at eY h0 wS ⊢
    cases e35:(av s i==35||isDigit (av s i))
    case false=>simp[e35,Tok.no]at eY
    simp only[e35,cond_true]at eY h0 wS ⊢
    have g1:=j6 isDigit s (i+1)
    have g2:=j7 (f:=isDigit) (s:=s) (i:=i+1) (by omega)
    have g3:=yC (f:=isDigit) (s:=s) _ (i+1) rfl
    generalize scan isDigit s (i+1)=q at g1 g2 g3 eY h0 wS ⊢
    simp only[lW]at eY wS h0 ⊢
    have eJ:av s i≠35∨av s i=35:=by omega
    rcases eJ with eJ|Aw
    · have c0:(av s i==35)=false:=by simpa using eJ
      simp only[c0,cond_false]at eY wS h0 ⊢
      cases c1:q==i
      · cases c2:decide (q - i>5)
        · cases c3:(decide (q - i>1)&&av s i==48)
          · simp only[c1,c2,c3,cond_false]at eY wS h0 ⊢
            rw[hb q g1 g2]at wS
            have iM:(s.extract i q).size=q - i:=by rw[ByteArray.size_extract];omega
            simp at c1 c2
            refine⟨⟨by rw[iM];omega,by rw[iM];omega,fun j hj=>?_⟩,fun h=>?_⟩
            · rw[iM]at hj
              rw[jl (by omega) g2]
              by_cases hj0:j=0
              · subst hj0;exact wS
              · exact g3 _ (by omega) (by omega)
            · rw[iM]at h
              rw[hb q g1 g2]
              simp only[Bool.and_eq_false_iff,decide_eq_false_iff_not,beq_eq_false_iff_ne]at c3
              rcases c3 with c3|c3
              · omega
              · exact c3
          · simp[c1,c2,c3,Tok.no]at eY
        · simp[c1,c2,Tok.no]at eY
      · simp[c1,Tok.no]at eY
    · simp only[Aw,beq_self_eq_true,cond_true]at eY wS h0 ⊢
      cases c1:q==i+1
      · cases c2:decide (q - (i+1)>5)
        · cases c3:(decide (q - (i+1)>1)&&av s (i+1)==48)
          · simp only[c1,c2,c3,cond_false]at eY wS h0 ⊢
            rw[hb q g1 g2,Aw]at wS
            exact absurd wS (by decide)
          · simp[c1,c2,c3,Tok.no]at eY
        · simp[c1,c2,Tok.no]at eY
      · simp[c1,Tok.no]at eY
theorem E5 (s:ByteArray):∀(k i acc:Nat),s.size - i=k→acc*10^k≤j8 s i acc
 |0,i,acc,hk=>by rw[sS (by omega)];simp
 |k+1,i,acc,hk=>by
  rw[qF (by omega)]
  refine Nat.le_trans ?_ (E5 s k (i+1) _ (by omega))
  rw[Nat.pow_succ,Nat.mul_comm (10^k) 10,←Nat.mul_assoc]
  exact Nat.mul_le_mul_right _ (by omega)
theorem Zh {t:ByteArray} (h:sU t) (h0:1<t.size→av t 0≠48):decide (t.size>2)=decide (BI t>99):=by
 have h1:=Pn h t.size 0 0 rfl
 change BI t+1≤_ at h1
 by_cases hz:t.size>2
 ·have h2:BI t=j8 t 1 ((av t 0).toNat - 48):=by
   unfold BI
   rw[qF h.pos]
   congr 1
   omega
  have h3:=E5 t (t.size - 1) 1 ((av t 0).toNat - 48) rfl
  obtain⟨n,e1,e2,e3⟩:=h.byte (i:=0) h.pos
  have h5:=h0 (by omega)
  rw[e1]at h2 h3 h5
  have h6:1≤(n:Int).toNat - 48:=by omega
  have h4:10^2≤10^(t.size - 1):=Nat.pow_le_pow_right (by omega) (by omega)
  have h7:1*10^(t.size - 1)≤((n:Int).toNat - 48)*10^(t.size - 1):=Nat.mul_le_mul_right _ h6
  rw[decide_eq_true hz,decide_eq_true]
  rw[h2]
  omega
 ·have h4:10^t.size≤10^2:=Nat.pow_le_pow_right (by omega) (by omega)
  rw[decide_eq_false hz,decide_eq_false]
  omega
theorem S2 {s:ByteArray} {st:RS} (h:st.p≤s.size):(dp s st).1<100:=by
 unfold dp
 cases st.c != 0
 ·cases hb:pB (aB s st.p)
  ·simp only[cond_false]
   unfold pB at hb
   simp only[Bool.or_eq_false_iff,Bool.not_eq_false']at hb
   obtain⟨d1,d2⟩:=QA h hb.1 hb.2.1 hb.2.2.1
   have:=Zh d1 d2
   rw[hb.2.2.2]at this
   have:=of_decide_eq_false this.symm
   omega
  ·simp
 ·simp
theorem S3 (t:ByteArray):oh t≤3:=by
 unfold oh
 cases aJ t yY<;>cases aJ t Q3<;>cases aJ t tj<;>simp
theorem decDigits_two {n:Nat} (h:n<100):(decDigits n).length≤2:=wP 1 n (by simpa using h)
theorem Zi (k:Nat):(kwL k).length≤9:=by
 unfold kwL
 split<;>decide
theorem S4 {s:ByteArray} (hs:s.size≤200000) {st:RS} (h:st.p≤s.size) (hc:(dQ s st).2.c=0):S7 (dQ s st).1∧(Kh (dQ s st).1).length+60*st.p≤60*(dQ s st).2.p:=by
 unfold dQ at hc ⊢
 have g0:=bk h (ba [40])
 obtain⟨c0,_⟩:=(E4 (s:=s) g0.le).ok hc
 have k0:=(iK h c0).2
 generalize bG s st (ba [40])=eI at*
 unfold Kb at hc ⊢
 cases hk:oh (aB s eI.p).t==0
 case true=>rw[hk]at hc;exact absurd hc (iZ _ _)
 rw[hk]at hc
 simp only[cond_false]at hc ⊢
 have hk0:oh (aB s eI.p).t≠0:=by simpa using hk
 have lL:=S3 (aB s eI.p).t
 have g1:=eg g0.le
 have By:=g1.le
 obtain⟨c1,_⟩:=(E3 (k:=oh (aB s eI.p).t) By).ok hc
 have k1:=(g1.ok c1).2
 generalize oh (aB s eI.p).t=k at*
 generalize (aI s eI).2=dH at*
 unfold CA at hc ⊢
 have g2:=dO (s:=s) By
 have g3:=bk g2.le (ba [40])
 have g4:=nY s (s.size+10) _ g3.le
 obtain⟨c4,_⟩:=(Br (k:=k) (nm:=(df s dH).1) (ps:=[]) g4.le).ok hc
 obtain⟨c3,p4⟩:=g4.ok c4
 obtain⟨c2,p3⟩:=g3.ok c3
 have p2:=(g2.ok c2).2
 have WQ:=nX c2
 have aeb:=qH By c2
 have k3:=(iK g2.le c3).2
 obtain⟨n1,n2⟩:=Bs s (s.size+10) _ g3.le c4
 have n3:=S1 (eu (s.size+10) s (bG s (df s dH).2 (ba [40]))).1
 have hx:(df s dH).1.data.toList.length=(df s dH).1.size:=Array.length_toList
 have hg4:=g4.le
 generalize (eu (s.size+10) s (bG s (df s dH).2 (ba [40])))=X at*
 generalize (df s dH).1=nm at*
 unfold ir at hc ⊢
 have g5:=bk hg4 (ba [41])
 obtain⟨c5,_⟩:=(E0 (k:=k) (nm:=nm) (ps:=[]++X.1) g5.le).ok hc
 have k5:=(iK hg4 c5).2
 have Th:=g5.le
 rw[List.nil_append]at hc ⊢
 simp only[List.length_singleton]at k0 k3 k5
 generalize bG s X.2 (ba [41])=st5 at*
 have hkw:=Zi k
 have ac3:k=1∨k=2∨k=3:=by omega
 rcases ac3 with rfl|rfl|rfl
 ·simp only[lJ,Px]at hc ⊢
  obtain⟨c6,k6⟩:=iK (cA Th).le hc
  obtain⟨f1,f2⟩:=nA hs Th c6
  refine⟨⟨.inl rfl,WQ,n1,f1,qM.leaf,fun _=>rfl,fun _=>⟨rfl,rfl⟩,by simp,fun c hc=>by simp at hc⟩,?_⟩
  simp only[Kh,arL,MT,ia,List.flatMap_nil,List.length_cons,List.length_append,List.length_nil,show(1:Nat)≠3 by omega,show(1:Nat)≠2 by omega,if_false]at k6 ⊢
  omega
 ·simp only[lJ,Py]at hc ⊢
  obtain⟨c7,k7⟩:=iK (cA (cA Th).le).le hc
  obtain⟨c6,_⟩:=(cA (cA Th).le).ok c7
  obtain⟨f1,f2⟩:=nA hs Th c6
  obtain⟨f3,f4⟩:=nA hs (cA Th).le c7
  have:=((cA Th).ok c6).2
  refine⟨⟨.inr (.inl rfl),WQ,n1,f1,f3,fun h=>absurd rfl h,fun _=>⟨rfl,rfl⟩,by simp,fun c hc=>by simp at hc⟩,?_⟩
  simp only[Kh,arL,MT,ia,List.flatMap_nil,List.length_cons,List.length_append,List.length_nil,show(2:Nat)≠3 by omega,if_true,if_false]at k7 ⊢
  omega
 ·simp only[lJ,Pz,jn]at hc ⊢
  have ga:=Bq Th
  have ha:=S2 (st:=st5) Th
  have gt:=cA ga.le
  have gc:=nZ s (s.size+10) _ gt.le
  obtain⟨c8,k8⟩:=iK gc.le hc
  obtain⟨c7,p8⟩:=gc.ok c8
  obtain⟨c6,p7⟩:=gt.ok c7
  have p6:=(ga.ok c6).2
  obtain⟨f1,f2⟩:=nA hs ga.le c7
  obtain⟨i1,i2⟩:=Bt hs (s.size+10) _ gt.le c8
  have Tp:=decDigits_two ha
  refine⟨⟨.inr (.inr rfl),WQ,n1,f1,qM.leaf,fun _=>rfl,fun h=>absurd rfl h,ha,i1⟩,?_⟩
  simp only[Kh,arL,MT,List.length_cons,List.length_append,List.length_nil,show(3:Nat)≠2 by omega,if_true,if_false]at k8 ⊢
  omega
theorem E6 {s:ByteArray} (hs:s.size≤200000):∀(n:Nat) (st:RS),st.p≤s.size→(cS n s st).2.c=0→(∀d∈(cS n s st).1,S7 d)∧(Ki (cS n s st).1).length+61*st.p≤61*(cS n s st).2.p∧(cS n s st).2.p≤s.size∧st.p≤(cS n s st).2.p∧st.c=0∧(cS n s st).1.length+st.p≤(cS n s st).2.p
 |0,st,h,hc=>⟨fun d hd=>by simp[cS]at hd,by simp[cS,Ki],h,Nat.le_refl _,hc,by simp[cS]⟩
 |n+1,st,h,hc=>by
  unfold cS at hc ⊢
  cases h1:st.c != 0
  ·have lQ:st.c=0:=by simpa using h1
   rw[h1]at hc
   cases h2:(aB s st.p).ok&&gh (aB s st.p).t
   ·rw[h2]at hc
    simp only[cond_false]at hc ⊢
    have g:=CE (s:=s) h
    obtain⟨i1,i2,i3,i4,i5,i6⟩:=E6 hs n _ g.le hc
    obtain⟨r1,r2⟩:=S4 hs h i5
    have:=(g.ok i5).2
    refine⟨fun d hd=>?_,?_,i3,by omega,lQ,by simp only[List.length_cons];omega⟩
    ·rcases List.mem_cons.1 hd with rfl|hd
     ·exact r1
     ·exact i1 d hd
    ·simp only[Ki,List.flatMap_cons,List.length_append,List.length_cons,List.length_nil]at i2 ⊢
     omega
   ·exact⟨fun d hd=>by simp at hd,by simp[Ki],h,Nat.le_refl _,lQ,by simp⟩
  ·rw[h1]at hc
   simp only[cond_true]at hc
   rw[hc]at h1;simp at h1
theorem Kj {s:ByteArray} (h:(dx s).2.1=0):s.size≤200000∧(∀d∈(dx s).1,S7 d)∧(Ki (dx s).1).length≤61*s.size∧(dx s).1.length≤s.size:=by
 unfold dx at*
 cases hb:decide ((s.size:Int)>200000)
 ·rw[hb]at h
  have jI:s.size≤200000:=by have:=of_decide_eq_false hb;omega
  simp only[cond_false]at h ⊢
  cases hd:(cS (s.size+2) s ⟨0,0,0⟩).2.c != 0
  ·simp only[cond_false]
   obtain⟨i1,i2,i3,i4,i5,i6⟩:=E6 jI (s.size+2) ⟨0,0,0⟩ (by simp) (by simpa using hd)
   refine⟨jI,i1,?_,?_⟩
   ·simp only[Nat.mul_zero,Nat.add_zero]at i2
    omega
   ·simp only[Nat.add_zero]at i6
    omega
  ·rw[hd]at h
   simp only[cond_true]at h
   rw[h]at hd;simp at hd
 ·rw[hb]at h
  simp at h
end Go.Ab.Mk
end
section
namespace Go.Ab.Mk
open Go.Proofs Go.Ab
theorem HU (k:Nat) (nm:ByteArray) (ps:List ByteArray) (ty va:Tm) (ar:Nat) (cs:List (ByteArray×Tm)):(Dc.mk k nm ps ty va ar cs).val=
  .agg [.int .i64 k,.str nm,.slice 1 9 (strs ps),.int .i64 ty.kind,.int .i64 ty.num,.str ty.name,.slice 3 120 (ty.bK.map Lv.enc),.slice 5 53 ty.args,
   .int .i64 va.kind,.int .i64 va.num,.str va.name,.slice 3 120 (va.bK.map Lv.enc),.slice 5 53 va.args,.int .i64 ar,.slice 6 60 (cs.map fun c=>.str c.1::c.2.enc)]:=by
 simp[Dc.val,Dc.enc,Tm.aX,Dc.ch,Dc.aY,strs]
theorem yK (t:Tm):V.fits t.val true 5=true:=rfl
theorem CB (b:ByteArray):V.fits (.str b) false 1=true:=rfl
theorem WR (k:IntKind) (b:Int):V.fits (.int k b) false 1=true:=rfl
theorem CF {cs:List (ByteArray×Tm)} {i:Nat} (h:i<cs.length):(cs.map fun c:ByteArray×Tm=>V.str c.1::c.2.enc).getD (Int.toNat (i:Int)) []=V.str cs[i].1::cs[i].2.enc:=by simp[h]
theorem F9 (x:ByteArray) (t:Tm):V.agg [(V.str x::t.enc).getD 1 V.any,(V.str x::t.enc).getD 2 V.any,(V.str x::t.enc).getD 3 V.any,(V.str x::t.enc).getD 4 V.any,(V.str x::t.enc).getD 5 V.any]=t.val:=by rw[t.aX];rfl
end Go.Ab.Mk
end
section
namespace Go.Ab.Mk
open Go.Proofs Go.Ab
theorem S5 {s:ByteArray} {st:RS} (hp:st.p≤s.size) (hc:st.c=0):((Hg s st).toList==(ByteArray.mk #[40]).toList)=aJ (aB s st.p).t [40]:=by
 unfold Hg
 have e:∀t:ByteArray,(t.toList==(ByteArray.mk #[40]).toList)=aJ t [40]:=fun _=>rfl
 rw[e]
 cases hk:(aB s st.p).ok
 ·have h1:=(er s hp).no hk
  have:aJ (aB s st.p).t [40]=false:=by
   cases h2:aJ (aB s st.p).t [40]with
   |false=>rfl
   |true=>have:=(Mb hp (by simp) h2).1;rw[hk]at this;simp at this
  rw[this,hc]
  simp only[Bool.false_and,cond_false]
  rw[aJ,ByteArray.toList_eq,ByteArray.toList_eq];rfl
 ·simp[hc]
section
variable {N r:Nat} {s:ByteArray} {t0:Int} {t1:ByteArray} {t2:List (List V)} {t3 t4:Int} {t5:ByteArray} {t6 t7:List (List V)} {t8 t9:Int} {t10:ByteArray} {t11 t12:List (List V)} {t13:Int} {t14:List (List V)}
theorem E7 (hs:s.size≤200000) {nm:ByteArray} {ps:List ByteArray} {ty va:Tm} {ar:Nat}:∀(m:Nat) (cs:List (ByteArray×Tm)) (st:RS) (σ:az),σ[r]?=some (st.cells s)→st.p≤s.size→((st.c≠0∧0<m)∨(cs.length+(s.size - st.p)≤200000∧s.size - st.p+1<m))→
  mh (ah C) N m r t0 t1 t2 t3 t4 t5 t6 t7 t8 t9 t10 t11 t12 t13 t14 3 (.str nm) (strs ps) (.int .i64 ty.kind) (.int .i64 ty.num) (.str ty.name) (.slice 3 120 (ty.bK.map Lv.enc)) (.slice 5 53 ty.args) va.kind va.num va.name (va.bK.map Lv.enc) va.args (.int .i64 ar) (cs.map fun c=>.str c.1::c.2.enc) σ=
   some (.ret [((Dc.mk 3 nm ps ty va ar (cs++(eG m s st).1)).val,false)],σ.set r ((bG s (eG m s st).2 (ba [41])).cells s))
 |0,_,_,_,_,_,hm=>by omega
 |m+1,cs,st,σ,h,hp,hm=>by
  have n8:s.size<2^61:=by omega
  rw[show mh (ah C) N (m+1)=xL (ah C) (mh (ah C) N m)from rfl]
  unfold xL cj bb aE aM dG ae aF jq bQ iz aq
  have Hf:ByteArray.mk #[41]=ba [41]:=rfl
  have ec:ByteArray.mk #[99,116,111,114]=ba jQ:=rfl
  have e3:((3:Int)==3)=true:=rfl
  have ht:=dY h n8 hp (ba [41])
  simp only[e3,cond_true,F8 h,Option.bind_some,V.asInt,if_true]
  by_cases hc:st.c=0
  case neg=>
   have h1:(st.c==0)=false:=by simpa using hc
   rw[yI hc]
   simp only[h1,cond_false,Hf,bm ht,List.append_nil]
   rw[HU]
   rfl
  have JO:=Ay h n8 hp
  obtain⟨hb,hm⟩:cs.length+(s.size - st.p)≤200000∧s.size - st.p+1<m+1:=by
   rcases hm with hm|hm
   ·exact absurd hc hm.1
   ·exact hm
  have h1:(st.c==0)=true:=by simpa using hc
  have h2:(st.c != 0)=false:=by simp[hc]
  simp only[h1,cond_true,ab JO,List.getD_cons_zero,V.di,Option.bind_some,S5 hp hc,eG,h2,cond_false]
  cases h3:aJ (aB s st.p).t [40]
  case false=>
   simp only[cond_false,Bool.not_false,cond_true,Hf,bm ht,List.append_nil]
   rw[HU]
   rfl
  simp only[Bool.not_true,cond_true,cond_false,Hf,ec]
  have Ka:ByteArray.mk #[40]=ba [40]:=rfl
  rw[Ka]
  have g1:=bk hp (ba [40])
  have x1:=dY h n8 hp (ba [40])
  have y1:=aS (y:=(bG s st (ba [40])).cells s) h
  have tk1:(bG s st (ba [40])).c=0→st.p<(bG s st (ba [40])).p:=fun h0=>by
   have:=(iK (w:=[40]) hp h0).2
   simp only[List.length_singleton]at this
   omega
  generalize bG s st (ba [40])=s1 at*
  have g2:=g1.trans (bk g1.le (ba jQ))
  have x2:=dY y1 n8 g1.le (ba jQ)
  have tk2:(bG s s1 (ba jQ)).c=0→st.p<(bG s s1 (ba jQ)).p:=fun h0=>by
   have h1:=(bk g1.le (ba jQ)).ok h0
   have:=tk1 h1.1
   have:=h1.2
   omega
  rw[List.set_set]at x2
  have y2:=aS (y:=(bG s s1 (ba jQ)).cells s) h
  generalize bG s s1 (ba jQ)=s2 at*
  have q3:=dO (s:=s) g2.le
  have g3:=g2.trans q3.gone
  have x3:=tn y2 n8 g2.le
  rw[List.set_set]at x3
  have y3:=aS (y:=(df s s2).2.cells s) h
  generalize df s s2=n3 at*
  have q4:=cA g3.le
  have g4:=g3.trans q4.gone
  have x4:=px hs (s.size+1) n3.2 _ y3 g3.le (.inr (by omega))
  rw[List.set_set]at x4
  have y4:=aS (y:=(aN (s.size+1) s n3.2).2.cells s) h
  generalize aN (s.size+1) s n3.2=m4 at*
  have q5:=bk g4.le (ba [41])
  have g5:=g4.trans q5
  have x5:=dY y4 n8 g4.le (ba [41])
  rw[List.set_set]at x5
  have y5:=aS (y:=(bG s m4.2 (ba [41])).cells s) h
  generalize bG s m4.2 (ba [41])=s5 at*
  have cC:room (List.length (List.map (fun c:ByteArray×Tm=>V.str c.1::c.2.enc) cs)+1)=true:=cF (by simp;omega)
  simp only[bm x1,bm x2,ab x3,List.getD_cons_zero,CB,Bool.and_true,bz,cond_true,Option.bind_some,ab x4,yK,bm x5,cC]
  have em:List.map (fun c:ByteArray×Tm=>V.str c.1::c.2.enc) cs++[[V.str n3.1,V.cell m4.1.val 0,V.cell m4.1.val 1,V.cell m4.1.val 2,V.cell m4.1.val 3,V.cell m4.1.val 4]]=List.map (fun c:ByteArray×Tm=>V.str c.1::c.2.enc) (cs++[(n3.1,m4.1)]):=by
   rw[List.map_append,List.map_cons,List.map_nil,m4.1.aX]
   rfl
  rw[em]
  have ih:=E7 hs (nm:=nm) (ps:=ps) (ty:=ty) (va:=va) (ar:=ar) m (cs++[(n3.1,m4.1)]) s5 _ y5 g5.le (by
   by_cases hz:s5.c=0
   ·right
    have h4:=(q5.ok hz)
    have h3:=(q4.ok h4.1)
    have h2:=(q3.ok h3.1)
    have h1:=tk2 h2.1
    have:=h4.2
    have:=h3.2
    have:=h2.2
    have:=g5.le
    refine⟨by rw[List.length_append];simp only[List.length_cons,List.length_nil];omega,by omega⟩
   ·exact .inl ⟨hz,by omega⟩)
  rw[List.append_assoc,List.set_set]at ih
  exact ih
theorem PA {k:Nat} (hs:s.size≤200000) {nm:ByteArray} {ps:List ByteArray} {st:RS} {σ:az} (h:σ[r]?=some (st.cells s)) (hp:st.p≤s.size) {K:List Cell→az→Option aQ} {KP:V→az→Option aQ}
  (hK:∀(σ:az) (st:RS),σ[r]?=some (st.cells s)→st.p≤s.size→∃cs:List V,cs.length=15∧K [] σ=some (.ret [(.agg cs,false)],σ.set r ((lJ k s nm ps st).2.cells s))∧((lJ k s nm ps st).2.c=0→V.agg cs=(lJ k s nm ps st).1.val)):
  ∃cs:List V,cs.length=15∧aA (ah C) 160 [(.ptr 202 r 0,false),(.str (ba [41]),false)] σ 0 K KP=some (.ret [(.agg cs,false)],σ.set r ((ir k s nm ps ([],st)).2.cells s))∧((ir k s nm ps ([],st)).2.c=0→V.agg cs=(ir k s nm ps ([],st)).1.val):=by
 have n8:s.size<2^61:=by omega
 have ht:=dY h n8 hp (ba [41])
 obtain⟨cs,h1,h2,h3⟩:=hK _ _ (aS (y:=(bG s st (ba [41])).cells s) h) (bk hp (ba [41])).le
 rw[List.set_set]at h2
 refine⟨cs,h1,?_,?_⟩
 ·rw[bm ht,h2]
  unfold ir
  rw[List.append_nil]
 ·unfold ir
  rw[List.append_nil]
  exact h3
theorem HK (d:Dc):d.enc=
  [.int .i64 d.kind,.str d.name,.slice 1 9 (strs d.aT),.int .i64 d.type.kind,.int .i64 d.type.num,.str d.type.name,.slice 3 120 (d.type.bK.map Lv.enc),.slice 5 53 d.type.args,
   .int .i64 d.value.kind,.int .i64 d.value.num,.str d.value.name,.slice 3 120 (d.value.bK.map Lv.enc),.slice 5 53 d.value.args,.int .i64 d.arity,.slice 6 60 (d.ctors.map fun c=>.str c.1::c.2.enc)]:=by
 simp[Dc.enc,Tm.aX,Dc.ch,Dc.aY,strs]
theorem JK {k:Int} {m:Nat} {σ eM:az} {a1:V} {a2:List (List V)} {a3 a4 a5 a6 a7:V} {a8 a9:Int} {a10:ByteArray} {a11 a12:List (List V)} {a13:V} {a14:List (List V)} (hk:(k==3)=false) (h:ah C 160 [(.ptr 202 r 0,false),(.str (ba [41]),false)] σ=some (.ret [],eM)):
  mh (ah C) N (m+1) r t0 t1 t2 t3 t4 t5 t6 t7 t8 t9 t10 t11 t12 t13 t14 k a1 a2 a3 a4 a5 a6 a7 a8 a9 a10 a11 a12 a13 a14 σ=
   some (.ret [(.agg [.int .i64 k,a1,.slice 1 9 a2,a3,a4,a5,a6,a7,.int .i64 a8,.int .i64 a9,.str a10,.slice 3 120 a11,.slice 5 53 a12,a13,.slice 6 60 a14],false)],eM):=by
 rw[show mh (ah C) N (m+1)=xL (ah C) (mh (ah C) N m)from rfl]
 unfold xL cj bb aE aM dG ae aF jq bQ iz aq
 have Hf:ByteArray.mk #[41]=ba [41]:=rfl
 simp only[hk,cond_false,Hf,bm h]
theorem JL {k:Int} {m:Nat} {σ eM:az} {a1:V} {a2:List (List V)} {a3 a4 a5 a6 a7 a8 a9 a10 a11 a12 a13:V} {a14:List (List V)} (hk:(k==3)=false) (h:ah C 160 [(.ptr 202 r 0,false),(.str (ba [41]),false)] σ=some (.ret [],eM)):
  ud (ah C) N (m+1) r t0 t1 t2 t3 t4 t5 t6 t7 t8 t9 t10 t11 t12 t13 t14 k a1 a2 a3 a4 a5 a6 a7 a8 a9 a10 a11 a12 a13 a14 σ=
   some (.ret [(.agg [.int .i64 k,a1,.slice 1 9 a2,a3,a4,a5,a6,a7,a8,a9,a10,a11,a12,a13,.slice 6 60 a14],false)],eM):=by
 rw[show ud (ah C) N (m+1)=IZ (ah C) (ud (ah C) N m)from rfl]
 unfold IZ cj bb aE aM dG ae aF jq bQ iz aq
 have Hf:ByteArray.mk #[41]=ba [41]:=rfl
 simp only[hk,cond_false,Hf,bm h]
theorem CC (hs:s.size≤200000) {nm:ByteArray} {k:Nat} (hk:k=1∨k=2∨k=3) (hN:N=s.size+10):∀(m:Nat) (ps:List ByteArray) (st:RS) (σ:az),σ[r]?=some (st.cells s)→st.p≤s.size→((st.c≠0∧0<m)∨(ps.length+(s.size - st.p)≤200000∧s.size - st.p+1<m))→
    ∃cs:List V,cs.length=15∧pM (ah C) N m r t0 t1 t2 t3 t4 t5 t6 t7 t8 t9 t10 t11 t12 t13 t14 k (.str nm) (strs ps) 0 0 (ByteArray.mk #[]) [] [] 0 0 (ByteArray.mk #[]) [] [] 0 [] σ=
     some (.ret [(.agg cs,false)],σ.set r ((ir k s nm ps (eu m s st)).2.cells s))∧((ir k s nm ps (eu m s st)).2.c=0→V.agg cs=(ir k s nm ps (eu m s st)).1.val)
  |0,_,_,_,_,_,hm=>by omega
  |m+1,ps,st,σ,h,hp,hm=>by
   have n8:s.size<2^61:=by omega
   show ∃cs:List V,_∧I0 (ah C) (ud (ah C) N N) (mh (ah C) N N) (pM (ah C) N m) r _ _ _ _ _ _ _ _ _ _ _ _ _ _ _ _ _ _ _ _ _ _ _ _ _ _ _ _ _ _ σ=_∧_
   unfold I0 UR cj bb aE aM dG ae jq iz aF aH aq dS W2 bQ cR aP
   have Hf:ByteArray.mk #[41]=ba [41]:=rfl
   have rest:∀{K:List Cell→az→Option aQ} {KP:V→az→Option aQ},(∀(σ:az) (st:RS),σ[r]?=some (st.cells s)→st.p≤s.size→∃cs:List V,cs.length=15∧K [] σ=some (.ret [(.agg cs,false)],σ.set r ((lJ k s nm ps st).2.cells s))∧((lJ k s nm ps st).2.c=0→V.agg cs=(lJ k s nm ps st).1.val))→
       ∃cs:List V,cs.length=15∧aA (ah C) 160 [(.ptr 202 r 0,false),(.str (ba [41]),false)] σ 0 K KP=some (.ret [(.agg cs,false)],σ.set r ((ir k s nm ps ([],st)).2.cells s))∧((ir k s nm ps ([],st)).2.c=0→V.agg cs=(ir k s nm ps ([],st)).1.val):=fun hK=>PA hs h hp hK
   have ac4:(st.c=0∧aJ (aB s st.p).t [41]=false)∨(st.c=0∧aJ (aB s st.p).t [41]=true)∨st.c≠0:=by
     by_cases hc:st.c=0
     · cases h3:aJ (aB s st.p).t [41]
       · exact .inl ⟨hc,rfl⟩
       · exact .inr (.inl ⟨hc,rfl⟩)
     · exact .inr (.inr hc)
   have JO:=Ay h n8 hp
   rcases ac4 with⟨hc,h3⟩|HL
   · obtain⟨hb,hm⟩:ps.length+(s.size - st.p)≤200000∧s.size - st.p+1<m+1:=by
       rcases hm with hm|hm
       · exact absurd hc hm.1
       · exact hm
     have h1:(st.c==0)=true:=by simpa using hc
     have h2:(st.c != 0)=false:=by simp[hc]
     have q3:=dO (s:=s) (st:=st) hp
     have x3:=tn h n8 hp
     have y3:=aS (y:=(df s st).2.cells s) h
     have cC:room (List.length (strs ps)+1)=true:=cF (by rw[cw];omega)
     simp only[F8 h,Option.bind_some,V.asInt,if_true,h1,cond_true,ab JO,List.getD_cons_zero,V.di,wO hp hc,h3,Bool.not_false,ab x3,CB,Bool.and_true,bz,cC,eu,h2,cond_false]
     generalize df s st=n3 at*
     have em:strs ps++[[V.str n3.1]]=strs (ps++[n3.1]):=by simp[strs]
     rw[em]
     have ih:=CC hs (nm:=nm) hk hN m (ps++[n3.1]) n3.2 _ y3 q3.le (by
       by_cases hz:n3.2.c=0
       · right
         have:=(q3.ok hz).2
         have:=q3.le
         refine⟨by rw[List.length_append];simp only[List.length_cons,List.length_nil];omega,by omega⟩
       · exact .inl ⟨hz,by omega⟩)
     have e2:∀x:List ByteArray×RS,ir k s nm (ps++[n3.1]) x=ir k s nm ps (n3.1::x.1,x.2):=fun x=>by unfold ir;simp
     rw[e2,List.set_set]at ih
     exact ih
   have hr:eu (m+1) s st=([],st):=by
     rcases HL with⟨hc,h3⟩|hc
     · have h2:(st.c != 0)=false:=by simp[hc]
       simp only[eu,h2,cond_false,h3,cond_true]
     · exact JJ hc
   rw[hr]
   clear hm hr
   obtain⟨N',rfl⟩:∃N',N=N'+1:=⟨N - 1,by omega⟩
   rcases HL with⟨hc,h3⟩|hc
   all_goals
     first
       |(have h1:(st.c==0)=true:=by simpa using hc
         simp only[F8 h,Option.bind_some,V.asInt,if_true,h1,cond_true,ab JO,List.getD_cons_zero,V.di,wO hp hc,h3,Bool.not_true,cond_false])
       |(have h1:(st.c==0)=false:=by simpa using hc
         simp only[F8 h,Option.bind_some,V.asInt,if_true,h1,cond_false])
     refine rest ?_
     clear rest JO hc
     intro σ2 dH h2 TM
     have q1:=cA (s:=s) (st:=dH) TM
     have x1:=px hs (s.size+1) dH _ h2 TM (.inr (by omega))
     have y1:=aS (y:=(aN (s.size+1) s dH).2.cells s) h2
     have k12:(((1:Nat):Int)==2)=false:=rfl
     have k13:(((1:Nat):Int)==3)=false:=rfl
     have k22:(((2:Nat):Int)==2)=true:=rfl
     have k23:(((2:Nat):Int)==3)=false:=rfl
     have k32:(((3:Nat):Int)==2)=false:=rfl
     have k33:(((3:Nat):Int)==3)=true:=rfl
     rcases hk with rfl|rfl|rfl
     · have x2:=dY y1 n8 q1.le (ba [41])
       rw[List.set_set]at x2
       generalize Ie:aN (s.size+1) s dH=ty at*
       refine⟨(lJ 1 s nm ps dH).1.enc,Dc.pN _,?_,fun _=>rfl⟩
       simp only[k13,k12,cond_false,ab x1,List.getD_cons_zero,yK,bz,cond_true,Option.bind_some]
       refine(JK k13 x2).trans ?_
       simp only[lJ,Px,Ie]
       rw[HK]
       rfl
     · have q2:=cA (s:=s) (st:=(aN (s.size+1) s dH).2) q1.le
       have x2:=px hs (s.size+1) _ _ y1 q1.le (.inr (by omega))
       have y2:=aS (y:=(aN (s.size+1) s (aN (s.size+1) s dH).2).2.cells s) h2
       rw[List.set_set]at x2
       have x3:=dY y2 n8 q2.le (ba [41])
       rw[List.set_set]at x3
       generalize Ie:aN (s.size+1) s dH=ty at*
       generalize hva:aN (s.size+1) s ty.2=va at*
       refine⟨(lJ 2 s nm ps dH).1.enc,Dc.pN _,?_,fun _=>rfl⟩
       simp only[k23,k22,cond_false,cond_true,ab x1,List.getD_cons_zero,yK,bz,Option.bind_some,ab x2]
       refine(JL k23 x3).trans ?_
       simp only[lJ,Py,Ie,hva]
       rw[HK]
       rfl
     · clear x1 y1 q1
       have ht:=fZ h2 n8 TM
       have hf:=iy h2 (aB s dH.p).at_
       simp only[k33,cond_true,bM ht rfl,Cz,Fj,Kc,V.asBool,Option.bind_some,V.di,lJ,Pz]
       have bad:pB (aB s dH.p)=true→(jn s nm ps (dp s dH).1 (dp s dH).2).2=cE dH (aB s dH.p).at_:=by
         intro hb
         by_cases hc:dH.c=0
         · have Xq:(dH.c != 0)=false:=by simp[hc]
           have xp:dp s dH=(0,cE dH (aB s dH.p).at_):=by
             unfold dp
             simp only[hb,Xq,cond_false,cond_true]
           rw[xp,mA (iZ _ _)]
         · rw[yJ hc,mA hc,Mm hc]
       have fin:∀(cs:List V),cs.length=15→pB (aB s dH.p)=true→∀{KP:V→az→Option aQ},∃ta:List V,ta.length=15∧aA (ah C) 161 [(.ptr 202 r 0,false),(.int .i64 (aB s dH.p).at_,false)] σ2 0 (fun _ σ=>some (.ret [(.agg cs,false)],σ)) KP=some (.ret [(.agg ta,false)],σ2.set r ((jn s nm ps (dp s dH).1 (dp s dH).2).2.cells s))∧((jn s nm ps (dp s dH).1 (dp s dH).2).2.c=0→V.agg ta=(jn s nm ps (dp s dH).1 (dp s dH).2).1.val):=by
         intro cs hl hb KP
         rw[bad hb]
         exact⟨cs,hl,by rw[bm hf],fun h0=>absurd h0 (iZ _ _)⟩
       cases eY:(aB s dH.p).ok
       case false=>
         simp only[Bool.not_false,cond_true]
         exact fin _ (by simp) (by simp[pB,eY])
       simp only[Bool.not_true,cond_false]
       have eno:((aB s dH.p).t.toList==(ByteArray.mk #[]).toList)=gh (aB s dH.p).t:=rfl
       rw[eno]
       cases wQ:gh (aB s dH.p).t
       case true=>
         simp only[cond_true]
         exact fin _ (by simp) (by simp[pB,wQ])
       have hz:=gL wQ
       have hz':decide ((0:Int)<((aB s dH.p).t.size:Int))=true:=by simp;omega
       simp only[cond_false,hz',bz,show decide (0≤(0:Int))=true from rfl,Bool.and_self,cond_true,Option.bind_some,Int.toNat_zero]
       by_cases b48:av (aB s dH.p).t 0<48
       case pos=>
         rw[decide_eq_true b48]
         simp only[cond_true]
         exact fin _ (by simp) (by simp only[pB,eY,wQ,isDigit,Bool.not_true,Bool.false_or,Bool.or_eq_true,Bool.not_eq_true',Bool.and_eq_false_iff,decide_eq_false_iff_not];left;left;omega)
       rw[decide_eq_false b48]
       simp only[cond_false]
       by_cases b57:av (aB s dH.p).t 0>57
       case pos=>
         rw[decide_eq_true b57]
         simp only[cond_true]
         exact fin _ (by simp) (by simp only[pB,eY,wQ,isDigit,Bool.not_true,Bool.false_or,Bool.or_eq_true,Bool.not_eq_true',Bool.and_eq_false_iff,decide_eq_false_iff_not];left;right;omega)
       rw[decide_eq_false b57]
       simp only[cond_false]
       have hdg:isDigit (av (aB s dH.p).t 0)=true:=by simp only[isDigit,Bool.and_eq_true,decide_eq_true_eq];omega
       by_cases b2:(aB s dH.p).t.size>2
       case pos=>
         rw[show decide (((aB s dH.p).t.size:Int)>2)=true from decide_eq_true (by omega)]
         simp only[cond_true]
         exact fin _ (by simp) (by simp[pB,b2])
       rw[show decide (((aB s dH.p).t.size:Int)>2)=false from decide_eq_false (by omega)]
       simp only[cond_false]
       have hb:pB (aB s dH.p)=false:=by simp[pB,eY,wQ,hdg,b2]
       obtain⟨d1,_⟩:=QA TM eY wQ hdg
       have BQ:(jn s nm ps (dp s dH).1 (dp s dH).2).2=(jn s nm ps (BI (aB s dH.p).t) (aI s dH).2).2∧((jn s nm ps (dp s dH).1 (dp s dH).2).2.c=0→jn s nm ps (dp s dH).1 (dp s dH).2=jn s nm ps (BI (aB s dH.p).t) (aI s dH).2):=by
         by_cases hc:dH.c=0
         · have Xq:(dH.c != 0)=false:=by simp[hc]
           have xp:dp s dH=(BI (aB s dH.p).t,(aI s dH).2):=by
             unfold dp
             simp only[hb,Xq,cond_false]
           rw[xp]
           exact⟨rfl,fun _=>rfl⟩
         · rw[yJ hc,Bi hc,mA hc,mA hc]
           exact⟨rfl,fun h0=>absurd h0 hc⟩
       rw[BQ.1]
       have q1:=eg (s:=s) (st:=dH) TM
       have x1:=mB h2 n8 TM
       have y1:=aS (y:=(aI s dH).2.cells s) h2
       generalize aI s dH=n1 at*
       have xn:=ES d1 (σ2.set r (n1.2.cells s))
       have q2:=cA (s:=s) (st:=n1.2) q1.le
       have x2:=px hs (s.size+1) n1.2 _ y1 q1.le (.inr (by omega))
       rw[List.set_set]at x2
       have y2:=aS (y:=(aN (s.size+1) s n1.2).2.cells s) h2
       have e4:∀ar,jn s nm ps ar n1.2=(⟨3,nm,ps,(aN (s.size+1) s n1.2).1,.var 0,ar,(eG (s.size+10) s (aN (s.size+1) s n1.2).2).1⟩,bG s (eG (s.size+10) s (aN (s.size+1) s n1.2).2).2 (ba [41])):=fun _=>rfl
       rw[e4]at BQ ⊢
       simp only[ab x1,List.getD_cons_zero,ab xn,WR,cond_true,Option.bind_some,ab x2,yK,k32,cond_false]
       generalize BI (aB s dH.p).t=ar at*
       generalize aN (s.size+1) s n1.2=ty at*
       have x3:=E7 (N:=N'+1) (t0:=t0) (t1:=t1) (t2:=t2) (t3:=t3) (t4:=t4) (t5:=t5) (t6:=t6) (t7:=t7) (t8:=t8) (t9:=t9) (t10:=t10) (t11:=t11) (t12:=t12) (t13:=t13) (t14:=t14) hs (nm:=nm) (ps:=ps) (ty:=ty.1) (va:=.var 0) (ar:=ar) (N'+1) [] ty.2 _ y2 q2.le (.inr ⟨by simp;omega,by omega⟩)
       rw[List.nil_append,List.set_set,hN]at x3
       rw[hN]
       refine⟨(Dc.mk 3 nm ps ty.1 (.var 0) ar (eG (s.size+10) s ty.2).1).enc,Dc.pN _,x3,fun h0=>?_⟩
       rw[BQ.2 (by rw[BQ.1];exact h0)]
       rfl
end
end Go.Ab.Mk
end
section
namespace Go.Ab.Mk
open Go.Proofs Go.Ab
theorem qW {N:Nat} {L:List Lv} (hb:L.length<2^60) {most:Int} {k:Int} {nm:ByteArray} {σ:az}
  (h:∀c∈L,∀most:Int,∃n:Int,ah C 73 [(.agg [.int .i64 c.kind,.str c.name,.slice 3 120 c.args],false),(.int .i64 most,false)] σ=some (.ret [(.int .i64 n,false)],σ)):
  ∀(m i:Nat) (v:Int),i≤L.length→L.length - i<m→∃n:Int,iG (ah C) N m most v i k nm (L.map Lv.enc) σ=some (.ret [(.int .i64 n,false)],σ)
 |0,i,_,_,hm=>by omega
 |m+1,i,v,hi,hm=>by
  show ∃n:Int,jU (ah C) (iG (ah C) N m) _ _ _ _ _ _ σ=_
  unfold jU bo aE aF ak aP bb ae bp aq
  rw[List.length_map]
  by_cases aG:i<L.length
  ·rw[eD aG,cond_true]
   cases decide (v≤most)with
   |false=>exact⟨v,rfl⟩
   |true=>
    obtain⟨x,hx⟩:=h _ (List.getElem_mem aG) (IntKind.wrap .i64 (most - v))
    obtain⟨n,hn⟩:=qW (N:=N) hb h m (i+1) (IntKind.wrap .i64 (v+x)) (by omega) (by omega)
    refine⟨n,?_⟩
    rw[cond_true,d0,jk aG,fU]
    simp only[Bool.and_self,bz,cond_true,Option.bind_some]
    refine(ab hx).trans ?_
    simp only[List.getD_cons_zero,V.asInt,if_true,Option.bind_some,aw (show i<2^61 by omega)]
    exact hn
  ·rw[cQ aG];exact⟨v,rfl⟩
theorem E8 (σ:az):∀(l:Lv) (most:Int),∃n:Int,ah C 73 [(.agg [.int .i64 l.kind,.str l.name,.slice 3 120 l.args],false),(.int .i64 most,false)] σ=some (.ret [(.int .i64 n,false)],σ):=
 Lv.ind fun l ih most=>by
  have h2:=jV l
  obtain⟨n,hn⟩:=qW (N:=10) (L:=l.kids) (by omega) (most:=most) (k:=l.kind) (nm:=l.name) (σ:=σ) ih 10 0 1 (by omega) (by omega)
  exact⟨n,sh (n:=10) hn⟩
theorem qX {N:Nat} {L:List Tm} (hb:L.length<2^60) {k a:Int} {nm:ByteArray} {t3:List (List V)} {σ:az}
  (h:∀c∈L,∃b:Bool,ah C 45 [(c.val,false)] σ=some (.ret [(.bool b,false)],σ)):
  ∀(m i:Nat),i≤L.length→L.length - i<m→∃b:Bool,jr (ah C) N m i k a nm t3 (L.map Tm.enc) σ=some (.ret [(.bool b,false)],σ)
 |0,i,_,hm=>by omega
 |m+1,i,hi,hm=>by
  show ∃b:Bool,sf (ah C) (jr (ah C) N m) _ _ _ _ _ _ σ=_
  unfold sf bo aE aM bJ cB ae aq bp
  rw[List.length_map]
  by_cases aG:i<L.length
  ·obtain⟨x,hx⟩:=h _ (List.getElem_mem aG)
   obtain⟨n,hn⟩:=qX (N:=N) hb (k:=k) (a:=a) (nm:=nm) (t3:=t3) h m (i+1) (by omega) (by omega)
   cases x with
   |false=>
    refine⟨false,?_⟩
    rw[eD aG,cond_true,d0,dB aG,bf]
    simp only[Bool.and_self,bz,cond_true,Option.bind_some]
    exact(ab hx).trans rfl
   |true=>
    refine⟨n,?_⟩
    rw[eD aG,cond_true,d0,dB aG,bf]
    simp only[Bool.and_self,bz,cond_true,Option.bind_some]
    refine(ab hx).trans ?_
    simp only[List.getD_cons_zero,V.asBool,Option.bind_some,Bool.not_true,cond_false,aw (show i<2^61 by omega)]
    exact hn
  ·rw[cQ aG];exact⟨true,rfl⟩
theorem qY {N:Nat} {L:List Lv} (hb:L.length<2^60) {k a:Int} {nm:ByteArray} {t4:List (List V)} {σ:az}
  (h:∃b:Bool,jr (ah C) N N 0 k a nm (L.map Lv.enc) t4 σ=some (.ret [(.bool b,false)],σ)):
  ∀(m i:Nat),i≤L.length→L.length - i<m→∃b:Bool,nL (ah C) N m i k a nm (L.map Lv.enc) t4 σ=some (.ret [(.bool b,false)],σ)
 |0,i,_,hm=>by omega
 |m+1,i,hi,hm=>by
  show ∃b:Bool,sg (ah C) (jr (ah C) N N) (nL (ah C) N m) _ _ _ _ _ _ σ=_
  unfold sg bo aE aF ak aP bb ae aq bp
  rw[List.length_map]
  by_cases aG:i<L.length
  ·obtain⟨x,hx⟩:=E8 σ L[i] 300
   obtain⟨n,hn⟩:=qY (N:=N) hb h m (i+1) (by omega) (by omega)
   rw[eD aG,cond_true,d0,jk aG,fU]
   simp only[Bool.and_self,bz,cond_true,Option.bind_some]
   rw[ab hx]
   simp only[List.getD_cons_zero,V.asInt,if_true,Option.bind_some,aw (show i<2^61 by omega)]
   cases decide (x>300)with
   |true=>exact⟨false,rfl⟩
   |false=>exact⟨n,hn⟩
  ·rw[cQ aG];exact h
theorem kU (σ:az):∀(t:Tm),t.wide<2^32→∃b:Bool,ah C 45 [(t.val,false)] σ=some (.ret [(.bool b,false)],σ):=
 Tm.ind fun t ih hw=>by
  have hk:=B7 t
  have hl:=Ah t
  obtain⟨n,hn⟩:=qY (N:=t.wide+10) (L:=t.bK) (by omega) (k:=t.kind) (a:=t.num) (nm:=t.name) (t4:=t.args) (σ:=σ)
   (qX (N:=t.wide+10) (L:=t.kids) (by omega) (fun c hc=>ih c hc (by have:=jW hc;omega)) (t.wide+10) 0 (by omega) (by omega)) (t.wide+10) 0 (by omega) (by omega)
  exact⟨n,FF (n:=t.wide+10) hn⟩
end Go.Ab.Mk
end
section
namespace Go.Ab.Mk
open Go.Proofs Go.Ab Go.Proofs.Mk
end Go.Ab.Mk
end
