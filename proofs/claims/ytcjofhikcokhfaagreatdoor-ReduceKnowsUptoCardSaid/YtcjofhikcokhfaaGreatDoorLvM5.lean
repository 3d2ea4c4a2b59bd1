/- Spine, Apply, Levels: by the program and by the reference. -/
import Derived.Test.YtcjofhikcokhfaaGreatDoorLvD
import Derived.Laws.Strings
import Derived.Test.YtcjofhikcokhfaaGreatDoorAbMp
set_option linter.unusedSimpArgs false
set_option linter.unusedVariables false
set_option linter.deprecated false
section
namespace Go.Ab.Mk
open Go.Proofs Go.Ab
def isDigit (c:Int):Bool:=decide (48≤c)&&decide (c≤57)
def yv (c:Int):Bool:=(decide (97≤c)&&decide (c≤122))||(decide (65≤c)&&decide (c≤90))||c==95
def cn (c:Int) (first:Bool):Bool:=yv c||(!first&&(isDigit c||c==46||c==39))
def eQ (c:Int):Bool:=c==32||c==9||c==10
theorem yw (c:Int) (f:Bool) (σ:az):ah C 159 [(.int .u8 c,false),(.bool f,false)] σ=some (.ret [(.bool (cn c f),false)],σ):=
 I5 (n:=0) <| by
  simp only[Lk,aq,cn,yv,isDigit,ge_iff_le]
  cases decide (97≤c)<;>cases decide (c≤122)<;>cases decide (65≤c)<;>cases decide (c≤90)<;>cases c==95<;>cases f<;>cases decide (48≤c)<;>cases decide (c≤57)<;>cases c==46<;>cases c==39<;>rfl
def scan (f:Int→Bool) (s:ByteArray) (i:Nat):Nat:=
 if h:i<s.size then(bif f (av s i)then scan f s (i+1)else i)else i
termination_by s.size - i
theorem qC {f:Int→Bool} {s:ByteArray} {i:Nat} (h:i<s.size) (hf:f (av s i)=true):scan f s i=scan f s (i+1):=by
 rw[scan,dif_pos h,hf];rfl
theorem iJ {f:Int→Bool} {s:ByteArray} {i:Nat} (h:¬(i<s.size∧f (av s i)=true)):scan f s i=i:=by
 rw[scan]
 split
 ·rename_i hi
  cases hf:f (av s i)with
  |true=>exact absurd ⟨hi,hf⟩ h
  |false=>rfl
 ·rfl
theorem Jz (f:Int→Bool) (s:ByteArray):∀(k i:Nat),s.size - i=k→i≤scan f s i∧(i≤s.size→scan f s i≤s.size)
 |k,i,hk=>by
  by_cases h:i<s.size∧f (av s i)=true
  ·rw[qC h.1 h.2]
   have:=Jz f s (k - 1) (i+1) (by omega)
   omega
  ·rw[iJ h];omega
theorem j6 (f:Int→Bool) (s:ByteArray) (i:Nat):i≤scan f s i:=(Jz f s _ i rfl).1
theorem j7 {f:Int→Bool} {s:ByteArray} {i:Nat} (h:i≤s.size):scan f s i≤s.size:=(Jz f s _ i rfl).2 h
structure Tok where
 t:ByteArray
 at_:Nat
 ok:Bool
def Tok.no (i:Nat):Tok:=⟨ByteArray.mk #[],i,false⟩
def Tok.cells (k:Tok):List Cell:=[(.str k.t,false),(.int .i64 k.at_,false),(.bool k.ok,false)]
def lW (s:ByteArray) (i q:Nat) (c:Int):Tok:=
 let d:=bif c==35 then i+1 else i
 bif q==d then .no i else bif decide (q - d>5)then .no i else bif (decide (q - d>1)&&av s d==48)then .no i else⟨s.extract i q,i,true⟩
def sR (s:ByteArray) (i q:Nat):Tok:=bif decide (q - i>40)then .no i else⟨s.extract i q,i,true⟩
def lH (s:ByteArray) (i:Nat):Tok:=
  bif i==s.size then⟨ByteArray.mk #[],i,true⟩else
  bif av s i==40 then⟨s.extract i (i+1),i,true⟩else bif av s i==41 then⟨s.extract i (i+1),i,true⟩else
  bif cn (av s i) true then sR s i (scan (cn · false) s (i+1))else
  bif av s i==35||isDigit (av s i)then lW s i (scan isDigit s (i+1)) (av s i)else .no i
def aB (s:ByteArray) (p:Nat):Tok:=lH s (scan eQ s p)
def MS (s:ByteArray) (p:Nat) (c a:Int):List Cell:=[(.str s,false),(.int .i64 p,false),(.int .i64 c,false),(.int .i64 a,false)]
theorem rd0 {σ:az} {r:Nat} {s:ByteArray} {p:Nat} {c a:Int} (h:σ[r]?=some (MS s p c a)) (t:TypeId):bu σ (.ptr t r 0) false 1=some (.str s):=by simp[bu,h,dX,MS]
theorem rd1 {σ:az} {r:Nat} {s:ByteArray} {p:Nat} {c a:Int} (h:σ[r]?=some (MS s p c a)) (t:TypeId):bu σ (.ptr t r 1) false 1=some (.int .i64 p):=by simp[bu,h,dX,MS]
theorem F8 {σ:az} {r:Nat} {s:ByteArray} {p:Nat} {c a:Int} (h:σ[r]?=some (MS s p c a)) (t:TypeId):bu σ (.ptr t r 2) false 1=some (.int .i64 c):=by simp[bu,h,dX,MS]
theorem EN {q i:Nat} (h:i≤q) (hq:q<2^61):IntKind.wrap .i64 ((q:Int) - (i:Int))=((q - i:Nat):Int):=by
 rw[←sw (n:=q - i) (by omega)]
 congr 1
 omega
theorem dgt (a b:Nat):decide ((a:Int)>(b:Int))=decide (a>b):=by simp
theorem Zc (a b:Nat):((a:Int)==(b:Int))=(a==b):=by
 rw[Bool.eq_iff_iff,beq_iff_eq,beq_iff_eq];omega
theorem ad5 {i q n:Nat} (h1:i≤q) (h2:q≤n):(decide ((i:Int)≤(q:Int))&&decide ((q:Int)≤(n:Int)))=true:=by simp;omega
theorem bnd {i q n:Nat} (h1:i≤q) (h2:q≤n):(decide (0≤(i:Int))&&decide ((i:Int)≤(q:Int))&&decide ((q:Int)≤(n:Int)))=true:=by simp;omega
theorem JC (call:af) (n m:Nat) {σ:az} {r:Nat} {s:ByteArray} {p:Nat} {c a:Int} (h:σ[r]?=some (MS s p c a)) (hs:s.size<2^61)
  (hc:∀x,call 159 [(.int .u8 x,false),(.bool false,false)] σ=some (.ret [(.bool (cn x false),false)],σ)) {i q:Nat} (hi:i≤q) (hq:q≤s.size):
  ni call n (m+1) r (.int .i64 i) q σ=bif decide (q<s.size)&&cn (av s q) false then ni call n m r (.int .i64 i) (q+1:Nat) σ else some (.ret (sR s i q).cells,σ):=by
 show DH call (ni call n m) r (.int .i64 i) q σ=_
 unfold DH cj dG dS aE aF cB ae bp bb dc
 have Ti:((40:Int))=((40:Nat):Int):=rfl
 simp only[rd0 h,Option.bind_some,V.di,V.asInt,if_true,ab (hc _),Int.toNat_natCast,List.getD_cons_zero,V.asBool,EN hi (show q<2^61 by omega),Ti,dgt,bnd hi hq,bz,cond_true,sR,Tok.cells,Tok.no]
 by_cases h1:q<s.size
 ·simp only[eD h1,d0,cond_true,Bool.and_self,Option.bind_some,aw (show q<2^61 by omega),decide_eq_true h1,Bool.true_and]
  cases cn (av s q) false with
  |true=>rfl
  |false=>simp only[cond_false];cases decide (q - i>40)<;>rfl
 ·simp only[cQ h1,cond_false,decide_eq_false h1,Bool.false_and]
  cases decide (q - i>40)<;>rfl
theorem yx (call:af) (n:Nat) {σ:az} {r:Nat} {s:ByteArray} {p:Nat} {c a:Int} (h:σ[r]?=some (MS s p c a)) (hs:s.size<2^61)
    (hc:∀x,call 159 [(.int .u8 x,false),(.bool false,false)] σ=some (.ret [(.bool (cn x false),false)],σ)) {i:Nat}:
    ∀(m q:Nat),i≤q→q≤s.size→s.size - q<m→ni call n m r (.int .i64 i) q σ=some (.ret (sR s i (scan (cn · false) s q)).cells,σ)
  |0,q,_,_,hm=>by omega
  |m+1,q,hi,hq,hm=>by
   rw[JC call n m h hs hc hi hq]
   by_cases h1:q<s.size∧cn (av s q) false=true
   · rw[qC (f:=(cn · false)) h1.1 h1.2,decide_eq_true h1.1,h1.2]
     exact yx call n h hs hc m (q+1) (by omega) (by omega) (by omega)
   · rw[iJ (f:=(cn · false)) h1]
     have:(decide (q<s.size)&&cn (av s q) false)=false:=by
       cases hb:cn (av s q) false<;>simp_all
     rw[this];rfl
theorem JD (call:af) (n m:Nat) {σ:az} {r:Nat} {s:ByteArray} {p:Nat} {c a:Int} (h:σ[r]?=some (MS s p c a)) (hs:s.size<2^61) {i q:Nat} (x:Int) (hi:i<q) (hq:q≤s.size):
  nj call n (m+1) r (.int .i64 i) q x σ=bif decide (q<s.size)&&isDigit (av s q)then nj call n m r (.int .i64 i) (q+1:Nat) x σ else some (.ret (lW s i q x).cells,σ):=by
 show DI call (nj call n m) r (.int .i64 i) q x σ=_
 unfold DI cj dG dS bp bb dc
 have h5:((5:Int))=((5:Nat):Int):=rfl
 have h1':((1:Int))=((1:Nat):Int):=rfl
 have e48:∀z:Int,decide (z≥48)=decide (48≤z):=fun _=>rfl
 have w1:IntKind.wrap .i64 ((i:Int)+((1:Nat):Int))=((i+1:Nat):Int):=aw (show i<2^61 by omega)
 have w2:IntKind.wrap .i64 ((q:Int)+((1:Nat):Int))=((q+1:Nat):Int):=aw (show q<2^61 by omega)
 simp only[rd0 h,Option.bind_some,V.di,V.asInt,if_true,Int.toNat_natCast,h5,h1',w1,w2,EN (show i≤q by omega) (show q<2^61 by omega),EN (show i+1≤q by omega) (show q<2^61 by omega),dgt,Zc,ad5 (show i≤q by omega) hq,d0,Bool.true_and,decide_eq_true (show s.size>i by omega),bz,cond_true,e48,lW,Tok.cells,Tok.no]
 by_cases h1:q<s.size
 ·simp only[decide_eq_true (show s.size>q from h1),cond_true,Option.bind_some,decide_eq_true h1,Bool.true_and,isDigit]
  by_cases hx:x==35
  ·by_cases hd:q=i+1
   ·subst hd
    cases decide (48≤av s (i+1))<;>cases decide (av s (i+1)≤57)<;>simp[hx]
   ·have aG:i+1<s.size:=by omega
    have D5:(q==i+1)=false:=by simpa using hd
    simp only[decide_eq_true (show s.size>i+1 from aG),hx,cond_true,D5,cond_false,Option.bind_some]
    cases decide (48≤av s q)<;>cases decide (av s q≤57)<;>cases decide (q - (i+1)>5)<;>cases decide (q - (i+1)>1)<;>cases av s (i+1)==48<;>rfl
  ·have D5:(q==i)=false:=by simp;omega
   simp only[hx,cond_false,D5,Option.bind_some]
   cases decide (48≤av s q)<;>cases decide (av s q≤57)<;>cases decide (q - i>5)<;>cases decide (q - i>1)<;>cases av s i==48<;>rfl
 ·simp only[decide_eq_false (show ¬s.size>q from h1),cond_false,decide_eq_false h1,Bool.false_and]
  by_cases hx:x==35
  ·by_cases hd:q=i+1
   ·subst hd
    simp[hx]
   ·have aG:i+1<s.size:=by omega
    have D5:(q==i+1)=false:=by simpa using hd
    simp only[decide_eq_true (show s.size>i+1 from aG),hx,cond_true,D5,cond_false,Option.bind_some]
    cases decide (q - (i+1)>5)<;>cases decide (q - (i+1)>1)<;>cases av s (i+1)==48<;>rfl
  ·have D5:(q==i)=false:=by simp;omega
   simp only[hx,cond_false,D5,Option.bind_some]
   cases decide (q - i>5)<;>cases decide (q - i>1)<;>cases av s i==48<;>rfl
theorem yy (call:af) (n:Nat) {σ:az} {r:Nat} {s:ByteArray} {p:Nat} {c a:Int} (h:σ[r]?=some (MS s p c a)) (hs:s.size<2^61) {i:Nat} (x:Int):
  ∀(m q:Nat),i<q→q≤s.size→s.size - q<m→nj call n m r (.int .i64 i) q x σ=some (.ret (lW s i (scan isDigit s q) x).cells,σ)
 |0,q,_,_,hm=>by omega
 |m+1,q,hi,hq,hm=>by
  rw[JD call n m h hs x hi hq]
  by_cases h1:q<s.size∧isDigit (av s q)=true
  ·rw[qC (f:=isDigit) h1.1 h1.2,decide_eq_true h1.1,h1.2]
   exact yy call n h hs x m (q+1) (by omega) (by omega) (by omega)
  ·rw[iJ (f:=isDigit) h1]
   have:(decide (q<s.size)&&isDigit (av s q))=false:=by
    cases hb:isDigit (av s q)<;>simp_all
   rw[this];rfl
theorem yz (call:af) (n:Nat) {σ:az} {r:Nat} {s:ByteArray} {p0:Nat} {c a:Int} (h:σ[r]?=some (MS s p0 c a)) (hs:s.size<2^61) (hn:s.size<n)
  (hc:∀x f,call 159 [(.int .u8 x,false),(.bool f,false)] σ=some (.ret [(.bool (cn x f),false)],σ)):
  ∀(m p:Nat),p≤s.size→s.size - p<m→xK call n m r (.int .i64 p) σ=some (.ret (aB s p).cells,σ)
 |0,q,_,hm=>by omega
 |m+1,p,hp,hm=>by
  show DJ call (ni call n n) (nj call n n) (xK call n m) r (.int .i64 p) σ=_
  unfold DJ cj dG bb dS aP bp dc aE aF cB ae
  have e48:∀z:Int,decide (z≥48)=decide (48≤z):=fun _=>rfl
  simp only[rd0 h,Option.bind_some,V.di,V.asInt,if_true,Int.toNat_natCast,aw (show p<2^61 by omega),d0,Bool.true_and,ab (hc _ _),List.getD_cons_zero,V.asBool,Zc,e48]
  by_cases h1:p<s.size
  ·have hpe:(p==s.size)=false:=by simp;omega
   have jc:((decide ((p:Int)≤((p+1:Nat):Int)))&&decide (((p+1:Nat):Int)≤(s.size:Int)))=true:=by simp;omega
   simp only[eD h1,cond_true,bz,Option.bind_some,hpe,cond_false,jc]
   by_cases hb:eQ (av s p)=true
   ·rw[aB,qC h1 hb,←aB]
    have ih:=yz call n h hs hn hc m (p+1) (by omega) (by omega)
    simp only[eQ,Bool.or_eq_true]at hb
    rw[ih]
    rcases hb with(hb|hb)|hb
    ·simp only[hb,cond_true]
    ·cases av s p==32<;>simp only[hb,cond_true,cond_false]
    ·cases av s p==32<;>cases av s p==9<;>simp only[hb,cond_true,cond_false]
   ·rw[aB,iJ (fun hh=>hb hh.2)]
    have jI:eQ (av s p)=false:=by simpa using hb
    simp only[eQ,Bool.or_eq_false_iff]at jI
    obtain⟨⟨b1,b2⟩,b3⟩:=jI
    have l1:=yx call n h hs (fun x=>hc x false) (i:=p) n (p+1) (by omega) (by omega) (by omega)
    have l2:=yy call n h hs (i:=p) (av s p) n (p+1) (by omega) (by omega) (by omega)
    simp only[b1,b2,b3,cond_false,l1,l2,lH,hpe,isDigit]
    cases av s p==40<;>cases av s p==41<;>cases cn (av s p) true<;>cases av s p==35<;>cases decide (48≤av s p)<;>cases decide (av s p≤57)<;>rfl
  ·have hpe:p=s.size:=by omega
   rw[aB,iJ (fun hh=>h1 hh.1)]
   rw[cQ h1]
   simp only[cond_false,hpe,beq_self_eq_true,cond_true,lH,Tok.cells]
theorem fZ {σ:az} {r:Nat} {s:ByteArray} {p:Nat} {c a:Int} (h:σ[r]?=some (MS s p c a)) (hs:s.size<2^61) (hp:p≤s.size):
  ah C 112 [(.ptr 202 r 0,false)] σ=some (.ret (aB s p).cells,σ):=
 On (n:=s.size+1) <| by
  have:=yz (ah C) (s.size+1) h hs (by omega) (fun x f=>yw x f σ) (s.size+1) p hp (by omega)
  simp only[Om,cj,rd1 h,Option.bind_some]
  exact this
end Go.Ab.Mk
end
section
namespace Go.Ab.Mk
open Go.Proofs Go.Ab
structure RS where
 p:Nat
 c:Int
 a:Int
def RS.cells (s:ByteArray) (st:RS):List Cell:=MS s st.p st.c st.a
def gh (t:ByteArray):Bool:=t.toList==(ByteArray.mk #[]).toList
def cE (st:RS) (i:Nat):RS:=bif st.c==0 then⟨st.p,1,i⟩else st
def aI (s:ByteArray) (st:RS):ByteArray×RS:=
 let k:=aB s st.p
 let eI:=bif !k.ok||gh k.t then cE st k.at_ else st
 bif eI.c != 0 then(ByteArray.mk #[],eI)else(k.t,⟨k.at_+k.t.size,eI.c,eI.a⟩)
def bG (s:ByteArray) (st:RS) (w:ByteArray):RS:=
 let k:=aB s st.p
 let eI:=bif !k.ok||!(k.t.toList==w.toList)then cE st k.at_ else st
 bif eI.c==0 then⟨k.at_+k.t.size,eI.c,eI.a⟩else eI
def dz (t:ByteArray):Bool:=!gh t&&cn (av t 0) true
theorem gL {t:ByteArray} (h:gh t=false):0<t.size:=by
 rcases Nat.eq_zero_or_pos t.size with h0|h0
 ·have:t=ByteArray.mk #[]:=by
   apply ByteArray.ext
   exact Array.eq_empty_of_size_eq_zero h0
  subst this
  simp[gh]at h
 ·exact h0
structure Ma (s:ByteArray) (p:Nat) (k:Tok):Prop where
 ge:p≤k.at_
 le:k.at_+k.t.size≤s.size
 no:k.ok=false→gh k.t=true
theorem EO (s:ByteArray) {i q:Nat} (h1:i≤q) (h2:q≤s.size):i+(s.extract i q).size=q:=by
 rw[ByteArray.size_extract];omega
theorem er (s:ByteArray) {p:Nat} (hp:p≤s.size):Ma s p (aB s p):=by
  have h1:=j6 eQ s p
  have h2:=j7 (f:=eQ) hp
  unfold aB
  generalize scan eQ s p=i at h1 h2
  unfold lH
  have e0:gh (ByteArray.mk #[])=true:=by simp[gh]
  have s0:(ByteArray.mk #[]).size=0:=rfl
  have no:Ma s p (Tok.no i):=⟨h1,by simp[Tok.no];omega,fun _=>e0⟩
  by_cases hi:i=s.size
  · subst hi
    simp only[beq_self_eq_true,cond_true]
    exact⟨h1,by simp[s0],fun _=>e0⟩
  · have hib:(i==s.size)=false:=by simpa using hi
    simp only[hib,cond_false]
    have one:Ma s p ⟨s.extract i (i+1),i,true⟩:=⟨h1,by simp only;rw[EO s (by omega) (by omega)];omega,by simp⟩
    have nm:∀q,i+1≤q→q≤s.size→Ma s p (sR s i q):=by
      intro q hq1 Uv
      unfold sR
      cases decide (q - i>40)
      · exact⟨h1,by simp only[cond_false];rw[EO s (by omega) Uv];exact Uv,by simp⟩
      · exact no
    have num:∀q x,i+1≤q→q≤s.size→Ma s p (lW s i q x):=by
      intro q x hq1 Uv
      simp only[lW]
      generalize (bif x==35 then i+1 else i)=d
      cases q==d
      · cases decide (q - d>5)
        · cases (decide (q - d>1)&&av s d==48)
          · exact⟨h1,by simp only[cond_false];rw[EO s (by omega) Uv];exact Uv,by simp⟩
          · exact no
        · exact no
      · exact no
    have g1:=j6 (cn · false) s (i+1)
    have g2:=j7 (f:=(cn · false)) (s:=s) (i:=i+1) (by omega)
    have g3:=j6 isDigit s (i+1)
    have g4:=j7 (f:=isDigit) (s:=s) (i:=i+1) (by omega)
    cases av s i==40
    · cases av s i==41
      · cases cn (av s i) true
        · cases (av s i==35||isDigit (av s i))
          · exact no
          · exact num _ _ g3 g4
        · exact nm _ g1 g2
      · exact one
    · exact one
theorem kA {σ:az} {r:Nat} {s:ByteArray} {st:RS} (h:σ[r]?=some (st.cells s)):σ.set r (st.cells s)=σ:=by
 obtain⟨_,h⟩:=List.getElem?_eq_some_iff.1 h
 rw[←h];simp
theorem bM {call:af} {f:FuncId} {args:List Cell} {σ eM:az} {K:List Cell→az→Option aQ} {KP:V→az→Option aQ} {cs:List Cell} (h:call f args σ=some (.ret cs,eM)) (hl:cs.length=3):
  aA call f args σ 3 K KP=K cs eM:=ui h hl
theorem Cz (k:Tok):(k.cells.getD 0 bZ).1=.str k.t:=rfl
theorem Fj (k:Tok):(k.cells.getD 1 bZ).1=.int .i64 k.at_:=rfl
theorem Kc (k:Tok):(k.cells.getD 2 bZ).1=.bool k.ok:=rfl
theorem acX {σ:az} {r:Nat} {s:ByteArray} {st:RS} (h:σ[r]?=some (st.cells s)) (t:TypeId) (x y:Int):aV σ (.ptr t r 2) [(.int .i64 x,false),(.int .i64 y,false)]=some (σ.set r (RS.cells s ⟨st.p,x,y⟩)):=by
 simp only[aV,h,Option.bind_some];rfl
theorem WH {σ:az} {r:Nat} {s:ByteArray} {st:RS} (h:σ[r]?=some (st.cells s)) (t:TypeId) (x:Nat):aV σ (.ptr t r 1) [(.int .i64 x,false)]=some (σ.set r (RS.cells s ⟨x,st.c,st.a⟩)):=by
 simp only[aV,h,Option.bind_some];rfl
theorem iy {σ:az} {r:Nat} {s:ByteArray} {st:RS} (h:σ[r]?=some (st.cells s)) (i:Nat):
  ah C 161 [(.ptr 202 r 0,false),(.int .i64 i,false)] σ=some (.ret [],σ.set r ((cE st i).cells s)):=
 RM (n:=0) <| by
  simp only[ZO,cj,bb,aP,F8 h,Option.bind_some,V.asInt,if_true,acX h,cE]
  cases st.c==0
  ·simp only[cond_false,kA h]
  ·rfl
theorem aS {σ:az} {r:Nat} {x:List Cell} {y:List Cell} (h:σ[r]?=some x):(σ.set r y)[r]?=some y:=by
 obtain⟨hl,_⟩:=List.getElem?_eq_some_iff.1 h
 simp[hl]
theorem wrap_add {a b:Nat} (h:a+b<2^62):IntKind.wrap .i64 ((a:Int)+(b:Int))=((a+b:Nat):Int):=by
 rw[←sw h];simp
theorem mB {σ:az} {r:Nat} {s:ByteArray} {st:RS} (h:σ[r]?=some (st.cells s)) (hs:s.size<2^61) (hp:st.p≤s.size):
  ah C 162 [(.ptr 202 r 0,false)] σ=some (.ret [(.str (aI s st).1,false)],σ.set r ((aI s st).2.cells s)):=
 RN (n:=0) <| by
  obtain⟨jG,lK,lL⟩:=er s hp
  have ht:=fZ h hs hp
  have hw:IntKind.wrap .i64 (((aB s st.p).at_:Int)+((aB s st.p).t.size:Int))=(((aB s st.p).at_+(aB s st.p).t.size:Nat):Int):=wrap_add (by omega)
  have fin:∀eI:RS,∀jH:az,jH[r]?=some (eI.cells s)→eI.p=st.p→jH=σ.set r (eI.cells s)→
    (bif eI.c != 0 then some (End.ret [(V.str (ByteArray.mk #[]),false)],jH)else
     (aV jH (.ptr 202 r 1) [(.int .i64 (IntKind.wrap .i64 (((aB s st.p).at_:Int)+((aB s st.p).t.size:Int))),false)]).bind fun m=>some (End.ret [(V.str (aB s st.p).t,false)],m))=
    some (.ret [(.str (bif eI.c != 0 then(ByteArray.mk #[],eI)else((aB s st.p).t,(⟨(aB s st.p).at_+(aB s st.p).t.size,eI.c,eI.a⟩:RS))).1,false)],
     σ.set r ((bif eI.c != 0 then(ByteArray.mk #[],eI)else((aB s st.p).t,(⟨(aB s st.p).at_+(aB s st.p).t.size,eI.c,eI.a⟩:RS))).2.cells s)):=by
   intro eI jH h1 E9 wR
   rw[hw,WH h1]
   cases eI.c != 0
   ·simp only[cond_false,Option.bind_some]
    rw[wR,List.set_set]
   ·simp only[cond_true]
    rw[wR]
  simp only[ZP,aE,aM,aF,aH,cj,bb,aq,dG,ae,aP,bM ht rfl,Cz,Fj,Kc,V.asBool,V.di,V.asInt,if_true,Option.bind_some,aI]
  have hf:=iy h (aB s st.p).at_
  have hg:(σ.set r ((cE st (aB s st.p).at_).cells s))[r]?=some ((cE st (aB s st.p).at_).cells s):=aS h
  have e0:((aB s st.p).t.toList==(ByteArray.mk #[]).toList)=gh (aB s st.p).t:=rfl
  have hfp:(cE st (aB s st.p).at_).p=st.p:=by unfold cE;cases st.c==0<;>rfl
  rw[e0]
  cases eY:(aB s st.p).ok
  ·simp only[Bool.not_false,cond_true,Bool.true_or,bm hf,F8 hg,Option.bind_some,V.asInt,if_true]
   exact fin _ _ hg hfp rfl
  ·simp only[Bool.not_true,cond_false,Bool.false_or]
   cases wQ:gh (aB s st.p).t
   ·simp only[cond_false,F8 h,Option.bind_some,V.asInt,if_true]
    exact fin _ _ h rfl (kA h).symm
   ·simp only[cond_true,bm hf,F8 hg,Option.bind_some,V.asInt,if_true]
    exact fin _ _ hg hfp rfl
theorem dY {σ:az} {r:Nat} {s:ByteArray} {st:RS} (h:σ[r]?=some (st.cells s)) (hs:s.size<2^61) (hp:st.p≤s.size) (w:ByteArray):
  ah C 160 [(.ptr 202 r 0,false),(.str w,false)] σ=some (.ret [],σ.set r ((bG s st w).cells s)):=
 RL (n:=0) <| by
  obtain⟨jG,lK,lL⟩:=er s hp
  have ht:=fZ h hs hp
  have hw:IntKind.wrap .i64 (((aB s st.p).at_:Int)+((aB s st.p).t.size:Int))=(((aB s st.p).at_+(aB s st.p).t.size:Nat):Int):=wrap_add (by omega)
  have fin:∀eI:RS,∀jH:az,jH[r]?=some (eI.cells s)→jH=σ.set r (eI.cells s)→
    (bif eI.c==0 then
     (aV jH (.ptr 202 r 1) [(.int .i64 (IntKind.wrap .i64 (((aB s st.p).at_:Int)+((aB s st.p).t.size:Int))),false)]).bind fun m=>some (End.ret [],m)else some (End.ret [],jH))=
    some (.ret [],σ.set r ((bif eI.c==0 then(⟨(aB s st.p).at_+(aB s st.p).t.size,eI.c,eI.a⟩:RS)else eI).cells s)):=by
   intro eI jH h1 wR
   rw[hw,WH h1]
   cases eI.c==0
   ·simp only[cond_false]
    rw[wR]
   ·simp only[cond_true,Option.bind_some]
    rw[wR,List.set_set]
  simp only[ZN,aE,aM,aF,aH,cj,bb,dG,ae,aP,bM ht rfl,Cz,Fj,Kc,V.asBool,V.di,V.asInt,if_true,Option.bind_some,bG]
  have hf:=iy h (aB s st.p).at_
  have hg:(σ.set r ((cE st (aB s st.p).at_).cells s))[r]?=some ((cE st (aB s st.p).at_).cells s):=aS h
  cases eY:(aB s st.p).ok
  ·simp only[Bool.not_false,cond_true,Bool.true_or,bm hf,F8 hg,Option.bind_some,V.asInt,if_true]
   exact fin _ _ hg rfl
  ·simp only[Bool.not_true,cond_false,Bool.false_or]
   cases wQ:((aB s st.p).t.toList==w.toList)
   ·simp only[Bool.not_false,cond_true,bm hf,F8 hg,Option.bind_some,V.asInt,if_true]
    exact fin _ _ hg rfl
   ·simp only[Bool.not_true,cond_false,F8 h,Option.bind_some,V.asInt,if_true]
    exact fin _ _ h (kA h).symm
theorem ER (t:ByteArray) (σ:az):ah C 212 [(.str t,false)] σ=some (.ret [(.bool (dz t),false)],σ):=
 NG (n:=0) <| by
  have e0:(t.toList==(ByteArray.mk #[]).toList)=gh t:=rfl
  simp only[isName,dS,aE,aF,aq,ae,e0,dz]
  cases wQ:gh t
  ·have:=gL wQ
   have hz:decide ((0:Int)<(t.size:Int))=true:=by simp;omega
   have hn:=yw (av t 0) true σ
   simp only[Bool.not_false,cond_true,hz,Int.toNat_zero,ab hn,Bool.true_and]
   rfl
  ·rfl
end Go.Ab.Mk
end
section
namespace Go.Ab.Mk
open Go.Proofs Go.Ab
def aJ (t:ByteArray) (l:List UInt8):Bool:=t.toList==(ba l).toList
def lv1 (rec:RS→Lv×RS) (s:ByteArray) (f:Lv→Lv) (st:RS):Lv×RS:=(f (rec st).1,bG s (rec st).2 (ba [41]))
def Xh (rec:RS→Lv×RS) (s:ByteArray) (f:Lv→Lv→Lv) (st:RS):Lv×RS:=(f (rec st).1 (rec (rec st).2).1,bG s (rec (rec st).2).2 (ba [41]))
def Zd (rec:RS→Lv×RS) (s:ByteArray) (st:RS):Lv×RS:=
 bif aJ (aB s st.p).t [115]then lv1 rec s .succ (aI s st).2 else
 bif aJ (aB s st.p).t [109,97,120]then Xh rec s .max (aI s st).2 else
 bif aJ (aB s st.p).t [105,109,97,120]then Xh rec s .imax (aI s st).2 else(.zero,cE st (aB s st.p).at_)
def bq:Nat→ByteArray→RS→Lv×RS
 |0,_,st=>(.zero,st)
 |n+1,s,st=>
  bif st.c != 0 then(.zero,st)else
  bif aJ (aB s st.p).t [48]then(.zero,(aI s st).2)else
  bif dz (aB s st.p).t then(.param (aB s st.p).t,(aI s st).2)else
  bif aJ (aB s st.p).t [40]then Zd (bq n s) s (aI s st).2 else(.zero,cE st (aB s st.p).at_)
theorem Cc (st:RS) (i:Nat):(cE st i).p=st.p:=by unfold cE;cases st.c==0<;>rfl
theorem iZ (st:RS) (i:Nat):(cE st i).c≠0:=by
 unfold cE
 cases h:st.c==0
 ·simpa using h
 ·simp
theorem Bi {s:ByteArray} {st:RS} (h:st.c≠0):aI s st=(ByteArray.mk #[],st):=by
 have h1:(st.c==0)=false:=by simpa using h
 have h2:(st.c != 0)=true:=by simpa using h
 unfold aI cE
 simp only[h1,cond_false]
 cases (!(aB s st.p).ok||gh (aB s st.p).t)<;>simp only[cond_true,cond_false,h2]
theorem yA {s:ByteArray} {st:RS} (hp:st.p≤s.size):(aI s st).2.p≤s.size∧((aI s st).2.c=0→st.c=0∧gh (aB s st.p).t=false∧(aI s st).2.p=(aB s st.p).at_+(aB s st.p).t.size):=by
 obtain⟨k1,k2,k3⟩:=er s hp
 by_cases hc:st.c=0
 ·unfold aI cE
  simp only[hc,beq_self_eq_true,cond_true,bne_self_eq_false]
  cases hx:(!(aB s st.p).ok||gh (aB s st.p).t)
  ·simp only[cond_false,hc,bne_self_eq_false]
   simp only[Bool.or_eq_false_iff]at hx
   exact⟨by omega,fun _=>⟨trivial,hx.2,by first|rfl|trivial⟩⟩
  ·simp only[cond_true]
   exact⟨hp,fun h=>by simp at h⟩
 ·rw[Bi hc]
  exact⟨hp,fun h=>absurd h hc⟩
theorem JE {s:ByteArray} {st:RS} {w:ByteArray} (hp:st.p≤s.size):(bG s st w).p≤s.size∧((bG s st w).c=0→st.c=0∧(aB s st.p).t.toList=w.toList∧(bG s st w).p=(aB s st.p).at_+(aB s st.p).t.size):=by
 obtain⟨k1,k2,k3⟩:=er s hp
 by_cases hc:st.c=0
 ·unfold bG cE
  simp only[hc,beq_self_eq_true,cond_true]
  cases hx:(!(aB s st.p).ok||!((aB s st.p).t.toList==w.toList))
  ·simp only[cond_false,hc,beq_self_eq_true,cond_true]
   simp only[Bool.or_eq_false_iff]at hx
   exact⟨by omega,fun _=>⟨trivial,by simpa using hx.2,by first|rfl|trivial⟩⟩
  ·simp only[cond_true]
   exact⟨hp,fun h=>by simp at h⟩
 ·have h1:(st.c==0)=false:=by simpa using hc
  have:bG s st w=st:=by
   unfold bG cE
   simp only[h1,cond_false]
   cases (!(aB s st.p).ok||!((aB s st.p).t.toList==w.toList))<;>simp only[cond_true,cond_false,h1]
  rw[this]
  exact⟨hp,fun h=>absurd h hc⟩
theorem yB {n:Nat} {s:ByteArray} {st:RS} (h:st.c≠0):bq n s st=(.zero,st):=by
 cases n with
 |zero=>rfl
 |succ n=>
  have h2:(st.c != 0)=true:=by simpa using h
  rw[bq,h2];rfl
theorem fR {t:ByteArray} {l:List UInt8} (h:aJ t l=true):t.size=l.length:=by
 rw[aJ,beq_iff_eq,ByteArray.toList_eq,ByteArray.toList_eq]at h
 have:=congrArg List.length h
 show t.data.size=l.length
 rw[←Array.length_toList,this]
 simp[ba]
structure abz (s:ByteArray) (st:RS) (x:Lv×RS):Prop where
 le:x.2.p≤s.size
 ok:x.2.c=0→st.c=0∧(bX x.1).length≤2*(x.2.p - st.p)∧x.1.size≤x.2.p - st.p∧st.p<x.2.p∧bX x.1≠[]
theorem il (s:ByteArray):∀(n:Nat) (st:RS),st.p≤s.size→(st.c≠0∨s.size - st.p<n)→abz s st (bq n s st)
 |0,st,hp,hn=>⟨hp,fun h=>by rcases hn with hn|hn;exact absurd h hn;omega⟩
 |n+1,st,hp,hn=>by
  by_cases hc:st.c=0
  case neg=>rw[yB hc];exact⟨hp,fun h=>absurd h hc⟩
  obtain⟨k1,k2,k3⟩:=er s hp
  obtain⟨q1,q2⟩:=yA (st:=st) hp
  have tb:(st.c != 0)=false:=by simp[hc]
  simp only[bq,tb,cond_false]
  cases h0:aJ (aB s st.p).t [48]
  case true=>
   have z:=fR h0
   simp only[cond_true,cond_false]
   refine⟨q1,fun h=>?_⟩
   obtain⟨_,_,e⟩:=q2 h
   simp only[List.length_cons,List.length_nil]at z
   refine⟨hc,?_,?_,?_,by simp[bX]⟩<;>simp only[e,bX,Lv.size,List.length_cons,List.length_nil]<;>omega
  cases h1:dz (aB s st.p).t
  case true=>
   simp only[cond_true,cond_false]
   refine⟨q1,fun h=>?_⟩
   obtain⟨_,e1,e⟩:=q2 h
   have z:=gL e1
   have zz:(aB s st.p).t.data.toList.length=(aB s st.p).t.size:=Array.length_toList
   refine⟨hc,?_,?_,?_,?_⟩
   ·simp only[e,bX,zz];omega
   ·simp only[e,Lv.size];omega
   ·simp only[e];omega
   ·simp only[bX];intro hh;rw[hh]at zz;simp at zz;omega
  cases h2:aJ (aB s st.p).t [40]
  case false=>
   simp only[cond_false]
   exact⟨by rw[Cc];exact hp,fun h=>absurd h (iZ _ _)⟩
  have z2:=fR h2
  simp only[List.length_cons,List.length_nil]at z2
  simp only[cond_true,cond_false]
  obtain⟨r1,r2⟩:=yA (s:=s) (st:=(aI s st).2) q1
  have pR:(aI s (aI s st).2).2.c≠0∨s.size - (aI s (aI s st).2).2.p<n:=by
   by_cases hz:(aI s (aI s st).2).2.c=0
   ·obtain⟨e1,e2,e3⟩:=r2 hz
    obtain⟨_,_,e4⟩:=q2 e1
    obtain⟨m1,_,_⟩:=er s q1
    rcases hn with hn|hn
    ·exact absurd hc hn
    ·have:=gL e2;right;omega
   ·exact .inl hz
  have tx:=il s n _ r1 pR
  have hn3:(bq n s (aI s (aI s st).2).2).2.c≠0∨s.size - (bq n s (aI s (aI s st).2).2).2.p<n:=by
   by_cases hz:(bq n s (aI s (aI s st).2).2).2.c=0
   ·obtain⟨e1,_,_,e2,_⟩:=tx.ok hz
    rcases pR with h|h
    ·exact absurd e1 h
    ·right;omega
   ·exact .inl hz
  have ty:=il s n _ tx.le hn3
  generalize hX:bq n s (aI s (aI s st).2).2=X at tx ty hn3
  generalize hY:bq n s X.2=Y at ty
  have b41:(ba [41]).toList=[41]:=by rw[ByteArray.toList_eq];rfl
  have one:∀(f:Lv→Lv) (w:List UInt8),(∀l,(bX (f l)).length=(bX l).length+w.length+3∧(f l).size=l.size+1∧bX (f l)≠[])→aJ (aB s (aI s st).2.p).t w=true→w.length≥1→abz s st (f X.1,bG s X.2 (ba [41])):=by
   intro f w hf hw hwl
   obtain⟨t1,t2⟩:=JE (w:=ba [41]) tx.le
   refine⟨t1,fun h=>?_⟩
   obtain⟨u1,u2,u3⟩:=t2 h
   obtain⟨v1,v2,v3,v4,v5⟩:=tx.ok u1
   obtain⟨w1,w2,w3⟩:=r2 v1
   obtain⟨x1,x2,x3⟩:=q2 w1
   obtain⟨m1,_,_⟩:=er s q1
   obtain⟨m2,_,_⟩:=er s tx.le
   have z4:=fR hw
   have z5:(aB s X.2.p).t.size=1:=by
    have:=fR (l:=[41]) (t:=(aB s X.2.p).t) (by simp[aJ,u2])
    simpa using this
   obtain⟨g1,g2,g3⟩:=hf X.1
   simp only
   refine⟨hc,?_,?_,?_,g3⟩<;>(try rw[g1])<;>(try rw[g2])<;>omega
  have two:∀(f:Lv→Lv→Lv) (w:List UInt8),(∀l m,(bX (f l m)).length=(bX l).length+(bX m).length+w.length+4∧(f l m).size=l.size+m.size+1∧bX (f l m)≠[])→aJ (aB s (aI s st).2.p).t w=true→w.length≥1→abz s st (f X.1 Y.1,bG s Y.2 (ba [41])):=by
   intro f w hf hw hwl
   obtain⟨t1,t2⟩:=JE (w:=ba [41]) ty.le
   refine⟨t1,fun h=>?_⟩
   obtain⟨u1,u2,u3⟩:=t2 h
   obtain⟨y1,y2,y3,y4,y5⟩:=ty.ok u1
   obtain⟨v1,v2,v3,v4,v5⟩:=tx.ok y1
   obtain⟨w1,w2,w3⟩:=r2 v1
   obtain⟨x1,x2,x3⟩:=q2 w1
   obtain⟨m1,_,_⟩:=er s q1
   obtain⟨m2,_,_⟩:=er s ty.le
   have z4:=fR hw
   have z5:(aB s Y.2.p).t.size=1:=by
    have:=fR (l:=[41]) (t:=(aB s Y.2.p).t) (by simp[aJ,u2])
    simpa using this
   obtain⟨g1,g2,g3⟩:=hf X.1 Y.1
   simp only
   refine⟨hc,?_,?_,?_,g3⟩<;>(try rw[g1])<;>(try rw[g2])<;>omega
  simp only[Zd,lv1,Xh,hX,hY]
  cases h3:aJ (aB s (aI s st).2.p).t [115]
  case true=>exact one .succ [115] (fun l=>⟨by simp[bX]<;>omega,rfl,by simp[bX]⟩) h3 (by simp)
  cases h4:aJ (aB s (aI s st).2.p).t [109,97,120]
  case true=>exact two .max [109,97,120] (fun l m=>⟨by simp[bX];omega,rfl,by simp[bX]⟩) h4 (by simp)
  cases h5:aJ (aB s (aI s st).2.p).t [105,109,97,120]
  case true=>exact two .imax [105,109,97,120] (fun l m=>⟨by simp[bX];omega,rfl,by simp[bX]⟩) h5 (by simp)
  exact⟨by simp only[cond_false];rw[Cc];exact q1,fun h=>absurd h (by simp only[cond_false];exact iZ _ _)⟩
theorem qD {r:Nat} {s:ByteArray} (hs:s.size<2^61):∀(n:Nat) (st:RS) (σ:az),σ[r]?=some (st.cells s)→st.p≤s.size→(st.c≠0∨s.size - st.p<n)→0<n→
  ah C 213 [(.ptr 202 r 0,false)] σ=some (.ret [(.agg [.int .i64 (bq n s st).1.kind,.str (bq n s st).1.name,.slice 3 120 (bq n s st).1.args],false)],σ.set r ((bq n s st).2.cells s))
 |0,st,σ,h,hp,hn,h0=>by omega
 |n+1,st,σ,h,hp,hn,_=>NH (n:=0) <| by
  have ht:=fZ h hs hp
  have hi:=ER (aB s st.p).t σ
  simp only[UX,aE,aM,ae,cj,bb,aq,bU,dG,cB,jq,aP,dS,aF,aH,bM ht rfl,Cz,Fj,Kc,ab hi,F8 h,V.asInt,V.di,if_true,Option.bind_some,List.getD_cons_zero,V.asBool]
  by_cases hc:st.c=0
  case neg=>
   have h2:(st.c != 0)=true:=by simpa using hc
   rw[yB hc]
   simp only[h2,cond_true,kA h]
   rfl
  obtain⟨q1,q2⟩:=yA (st:=st) hp
  obtain⟨r1,r2⟩:=yA (s:=s) (st:=(aI s st).2) q1
  have tb:(st.c != 0)=false:=by simp[hc]
  have hnx:=mB h hs hp
  have By:(σ.set r ((aI s st).2.cells s))[r]?=some ((aI s st).2.cells s):=aS h
  have e48:∀t:ByteArray,(t.toList==(ByteArray.mk #[48]).toList)=aJ t [48]:=fun _=>rfl
  have Ka:∀t:ByteArray,(t.toList==(ByteArray.mk #[40]).toList)=aJ t [40]:=fun _=>rfl
  have ad6:∀t:ByteArray,(t.toList==(ByteArray.mk #[115]).toList)=aJ t [115]:=fun _=>rfl
  have ad7:∀t:ByteArray,(t.toList==(ByteArray.mk #[109,97,120]).toList)=aJ t [109,97,120]:=fun _=>rfl
  have acY:∀t:ByteArray,(t.toList==(ByteArray.mk #[105,109,97,120]).toList)=aJ t [105,109,97,120]:=fun _=>rfl
  have Hf:ByteArray.mk #[41]=ba [41]:=rfl
  have BN:room (0+1)=true:=by decide
  have Xg:room (1+1)=true:=by decide
  simp only[tb,cond_false,ab hnx,e48,Ka,ad6,ad7,acY,Hf,BN,Xg]
  have XO:=fZ By hs q1
  simp only[bM XO rfl,Cz,Fj,V.di,Option.bind_some]
  have acZ:=mB By hs q1
  rw[List.set_set]at acZ
  have S9:(σ.set r ((aI s (aI s st).2).2.cells s))[r]?=some ((aI s (aI s st).2).2.cells s):=aS h
  have hf1:=iy h (aB s st.p).at_
  have hf2:=iy By (aB s (aI s st).2.p).at_
  rw[List.set_set]at hf2
  simp only[ab acZ,bm hf1,bm hf2]
  simp only[bq,tb,cond_false]
  cases h0:aJ (aB s st.p).t [48]
  case true=>rfl
  cases h1:dz (aB s st.p).t
  case true=>rfl
  cases h2:aJ (aB s st.p).t [40]
  case false=>rfl
  simp only[cond_true,cond_false]
  have z2:=fR h2
  simp only[List.length_cons,List.length_nil]at z2
  obtain⟨k1,k2,k3⟩:=er s hp
  have pR:(aI s (aI s st).2).2.c≠0∨s.size - (aI s (aI s st).2).2.p<n:=by
   by_cases hz:(aI s (aI s st).2).2.c=0
   ·obtain⟨e1,e2,e3⟩:=r2 hz
    obtain⟨_,_,e4⟩:=q2 e1
    obtain⟨m1,_,_⟩:=er s q1
    rcases hn with hn|hn
    ·exact absurd hc hn
    ·have:=gL e2;right;omega
   ·exact .inl hz
  have hn0:0<n:=by
   rcases hn with hn|hn
   ·exact absurd hc hn
   ·omega
  have tx:=il s n _ r1 pR
  have hn3:(bq n s (aI s (aI s st).2).2).2.c≠0∨s.size - (bq n s (aI s (aI s st).2).2).2.p<n:=by
   by_cases hz:(bq n s (aI s (aI s st).2).2).2.c=0
   ·obtain⟨e1,_,_,e2,_⟩:=tx.ok hz
    rcases pR with h|h
    ·exact absurd e1 h
    ·right;omega
   ·exact .inl hz
  have ty:=il s n _ tx.le hn3
  have hx:=qD hs n _ _ S9 r1 pR hn0
  rw[List.set_set]at hx
  have hg3:(σ.set r ((bq n s (aI s (aI s st).2).2).2.cells s))[r]?=some ((bq n s (aI s (aI s st).2).2).2.cells s):=aS h
  have hy:=qD hs n _ _ hg3 tx.le hn3 hn0
  rw[List.set_set]at hy
  simp only[Zd,lv1,Xh]
  generalize bq n s (aI s (aI s st).2).2=X at tx hx hg3 hn3 hy ty ⊢
  generalize bq n s X.2=Y at hy ty ⊢
  have hg4:(σ.set r (Y.2.cells s))[r]?=some (Y.2.cells s):=aS h
  have htx:=dY hg3 hs tx.le (ba [41])
  have Ie:=dY hg4 hs ty.le (ba [41])
  rw[List.set_set]at htx Ie
  simp only[ab hx,ab hy,bm htx,bm Ie,List.getD_cons_zero,gC,mw,bz,Bool.and_self,cond_true,Option.bind_some]
  cases h3:aJ (aB s (aI s st).2.p).t [115]
  case true=>rfl
  cases h4:aJ (aB s (aI s st).2.p).t [109,97,120]
  case true=>rfl
  cases h5:aJ (aB s (aI s st).2.p).t [105,109,97,120]
  case true=>rfl
  rfl
end Go.Ab.Mk
end
section
namespace Go.Ab.Mk
open Go.Proofs Go.Ab
theorem yC {f:Int→Bool} {s:ByteArray}:∀(k i:Nat),s.size - i=k→∀j,i≤j→j<scan f s i→f (av s j)=true
 |k,i,hk,j,h1,h2=>by
  by_cases h:i<s.size∧f (av s i)=true
  ·rw[qC h.1 h.2]at h2
   rcases Nat.eq_or_lt_of_le h1 with rfl|h1
   ·exact h.2
   ·exact yC (k - 1) (i+1) (by omega) j h1 h2
  ·rw[iJ h]at h2;omega
theorem jl {s:ByteArray} {i q j:Nat} (h:i+j<q) (hq:q≤s.size):av (s.extract i q) j=av s (i+j):=by
 have h1:(s.extract i q).data.toList.getD j 0=s.data.toList.getD (i+j) 0:=by
  rw[ByteArray.data_extract]
  simp only[List.getD,Array.getElem?_toList,Array.getElem?_extract]
  have hq':q≤s.data.size:=hq
  rw[if_pos (by omega)]
 simp only[av,h1]
end Go.Ab.Mk
end
section
namespace Go.Ab.Mk
open Go.Ab
inductive Tm where
 |var (n:Nat)
 |sort (l:Lv)
 |const (s:ByteArray) (ls:List Lv)
 |app (a b:Tm)
 |lam (a b:Tm)
 |pi (a b:Tm)
 |bE (a b c:Tm)
 deriving Inhabited
def Tm.kind:Tm→Int
 |.var _=>0|.sort _=>1|.const ..=>2|.app ..=>3|.lam ..=>4|.pi ..=>5|.bE ..=>6
def Tm.num:Tm→Nat
 |.var n=>n
 |_=>0
def Tm.name:Tm→ByteArray
 |.const s _=>s
 |_=>ByteArray.mk #[]
def Tm.bK:Tm→List Lv
 |.sort l=>[l]
 |.const _ ls=>ls
 |_=>[]
def Tm.kids:Tm→List Tm
 |.app a b=>[a,b]
 |.lam a b=>[a,b]
 |.pi a b=>[a,b]
 |.bE a b c=>[a,b,c]
 |_=>[]
def qE (k n:Int) (s:ByteArray) (ls:List Lv) (es:List (List V)):List V:=[.int .i64 k,.int .i64 n,.str s,.slice 3 120 (ls.map Lv.enc),.slice 5 53 es]
def Tm.enc:Tm→List V
 |.var n=>qE 0 n (ByteArray.mk #[]) [] []
 |.sort l=>qE 1 0 (ByteArray.mk #[]) [l] []
 |.const s ls=>qE 2 0 s ls []
 |.app a b=>qE 3 0 (ByteArray.mk #[]) [] [a.enc,b.enc]
 |.lam a b=>qE 4 0 (ByteArray.mk #[]) [] [a.enc,b.enc]
 |.pi a b=>qE 5 0 (ByteArray.mk #[]) [] [a.enc,b.enc]
 |.bE a b c=>qE 6 0 (ByteArray.mk #[]) [] [a.enc,b.enc,c.enc]
def Tm.args (t:Tm):List (List V):=t.kids.map Tm.enc
def Tm.val (t:Tm):V:=.agg [.int .i64 t.kind,.int .i64 t.num,.str t.name,.slice 3 120 (t.bK.map Lv.enc),.slice 5 53 t.args]
theorem Tm.aX (t:Tm):t.enc=[.int .i64 t.kind,.int .i64 t.num,.str t.name,.slice 3 120 (t.bK.map Lv.enc),.slice 5 53 t.args]:=by cases t<;>rfl
theorem Tm.pN (t:Tm):t.enc.length=5:=by cases t<;>rfl
def Tm.head:Tm→Tm
 |.app a _=>a.head
 |t=>t
def Tm.spine:Tm→List Tm
 |.app a b=>a.spine++[b]
 |_=>[]
theorem Tm.ind {P:Tm→Prop} (h:∀t,(∀c∈t.kids,P c)→P t):∀t,P t
 |.var _=>h _ (by simp[Tm.kids])
 |.sort _=>h _ (by simp[Tm.kids])
 |.const ..=>h _ (by simp[Tm.kids])
 |.app a b=>h _ (by simp only[Tm.kids,List.mem_cons,List.not_mem_nil,or_false];rintro c (rfl|rfl)<;>exact Tm.ind h _)
 |.lam a b=>h _ (by simp only[Tm.kids,List.mem_cons,List.not_mem_nil,or_false];rintro c (rfl|rfl)<;>exact Tm.ind h _)
 |.pi a b=>h _ (by simp only[Tm.kids,List.mem_cons,List.not_mem_nil,or_false];rintro c (rfl|rfl)<;>exact Tm.ind h _)
 |.bE a b d=>h _ (by simp only[Tm.kids,List.mem_cons,List.not_mem_nil,or_false];rintro c (rfl|rfl|rfl)<;>exact Tm.ind h _)
end Go.Ab.Mk
end
section
namespace Go.Ab.Mk
open Go.Proofs Go.Ab
def j8 (s:ByteArray) (i:Nat) (acc:Nat):Nat:=if i<s.size then j8 s (i+1) (10*acc+((av s i).toNat - 48))else acc
termination_by s.size - i
theorem qF {s:ByteArray} {i acc:Nat} (h:i<s.size):j8 s i acc=j8 s (i+1) (10*acc+((av s i).toNat - 48)):=by rw[j8,if_pos h]
theorem sS {s:ByteArray} {i acc:Nat} (h:¬i<s.size):j8 s i acc=acc:=by rw[j8,if_neg h]
def BI (s:ByteArray):Nat:=j8 s 0 0
structure sU (s:ByteArray):Prop where
 pos:0<s.size
 few:s.size≤5
 all:∀i,i<s.size→isDigit (av s i)=true
theorem sU.byte {s:ByteArray} (h:sU s) {i:Nat} (hi:i<s.size):∃n:Nat,av s i=(n:Int)∧48≤n∧n≤57:=by
 have:=h.all i hi
 simp only[isDigit,Bool.and_eq_true,decide_eq_true_eq]at this
 exact⟨(av s i).toNat,by omega,by omega,by omega⟩
theorem Qy {s:ByteArray} {p:Nat} (hp:p≤s.size) (eY:(aB s p).ok=true) (h0:gh (aB s p).t=false) (Aw:av (aB s p).t 0=35):sU ((aB s p).t.extract 1 (aB s p).t.size):=by
  have h1:=j6 eQ s p
  have h2:=j7 (f:=eQ) hp
  unfold aB at eY h0 Aw ⊢
  generalize scan eQ s p=i at h1 h2 eY h0 Aw ⊢
  by_cases hi:i=s.size
  · have:lH s i=⟨ByteArray.mk #[],i,true⟩:=by unfold lH;simp[hi]
    rw[this]at h0;simp[gh]at h0
  · have aG:i<s.size:=by omega
    have hz:=gL h0
    -- the token begins where it lies
    have hb:∀q,i+1≤q→q≤s.size→av (s.extract i q) 0=av s i:=fun q hq1 Uv=>jl (by omega) Uv
    unfold lH at eY h0 Aw hz ⊢
    have hib:(i==s.size)=false:=by simpa using hi
    simp only[hib,cond_false]at eY h0 Aw hz ⊢
    cases Ka:av s i==40
    case true=>
      simp only[Ka,cond_true]at eY h0 Aw hz ⊢
      rw[hb _ (Nat.le_refl _) (by omega)]at Aw
      simp only[beq_iff_eq]at Ka;omega
    cases Hf:av s i==41
    case true=>
      simp only[Ka,Hf,cond_true,cond_false]at eY h0 Aw hz ⊢
      rw[hb _ (Nat.le_refl _) (by omega)]at Aw
      simp only[beq_iff_eq]at Hf;omega
    simp only[Ka,Hf,cond_false]at eY h0 Aw hz ⊢
    cases enm:cn (av s i) true
    case true=>
      simp only[enm,cond_true]at eY h0 Aw hz ⊢
      have g1:=j6 (cn · false) s (i+1)
      have g2:=j7 (f:=(cn · false)) (s:=s) (i:=i+1) (by omega)
      generalize scan (cn · false) s (i+1)=q at g1 g2 eY h0 Aw hz ⊢
      unfold sR at eY h0 Aw hz ⊢
      cases e:decide (q - i>40)
      · simp only[e,cond_false]at eY h0 Aw hz ⊢
        rw[hb q g1 g2]at Aw
        rw[Aw]at enm
        exact absurd enm (by decide)
      · simp[e,Tok.no]at eY
    simp only[enm,cond_false]at eY h0 Aw hz ⊢
    cases e35:(av s i==35||isDigit (av s i))
    case false=>simp[e35,Tok.no]at eY
    simp only[e35,cond_true]at eY h0 Aw hz ⊢
    have g1:=j6 isDigit s (i+1)
    have g2:=j7 (f:=isDigit) (s:=s) (i:=i+1) (by omega)
    have g3:=yC (f:=isDigit) (s:=s) _ (i+1) rfl
    generalize scan isDigit s (i+1)=q at g1 g2 g3 eY h0 Aw hz ⊢
    have ac0:(lW s i q (av s i))=⟨s.extract i q,i,true⟩∧(av s i=35→1≤q - (i+1)∧q - (i+1)≤5):=by
      simp only[lW]at eY ⊢
      generalize hd:(bif av s i==35 then i+1 else i)=d at eY ⊢
      cases c1:q==d
      · cases c2:decide (q - d>5)
        · cases c3:(decide (q - d>1)&&av s d==48)
          · refine⟨rfl,fun h=>?_⟩
            simp only[h,beq_self_eq_true,cond_true]at hd
            subst hd
            simp at c1 c2
            omega
          · simp[c1,c2,c3,Tok.no]at eY
        · simp[c1,c2,Tok.no]at eY
      · simp[c1,Tok.no]at eY
    rw[ac0.1]at Aw ⊢
    simp only at Aw ⊢
    rw[hb q g1 g2]at Aw
    obtain⟨f1,f2⟩:=ac0.2 Aw
    have iM:(s.extract i q).size=q - i:=by rw[ByteArray.size_extract];omega
    have abA:((s.extract i q).extract 1 (s.extract i q).size).size=q - (i+1):=by rw[ByteArray.size_extract];omega
    refine⟨by rw[abA];omega,by rw[abA];omega,fun j hj=>?_⟩
    rw[abA]at hj
    rw[jl (by rw[iM];omega) (Nat.le_refl _),jl (by omega) g2]
    exact g3 _ (by omega) (by omega)
theorem Pn {s:ByteArray} (h:sU s):∀(k i acc:Nat),s.size - i=k→j8 s i acc+1≤(acc+1)*10^k
 |0,i,acc,hk=>by rw[sS (by omega)];simp
 |k+1,i,acc,hk=>by
  rw[qF (by omega)]
  have:=Pn h k (i+1) (10*acc+((av s i).toNat - 48)) (by omega)
  obtain⟨n,h1,h2,h3⟩:=h.byte (i:=i) (by omega)
  refine Nat.le_trans this ?_
  rw[h1,Nat.pow_succ,Nat.mul_comm (10^k) 10,←Nat.mul_assoc]
  refine Nat.mul_le_mul_right _ ?_
  simp;omega
def gQ (t:ByteArray):Nat:=
 bif aJ t [115,111,114,116]then 1 else bif aJ t [99,111,110,115,116]then 2 else bif aJ t [97,112,112]then 3 else
 bif aJ t [108,97,109]then 4 else bif aJ t [112,105]then 5 else bif aJ t [108,101,116]then 6 else 0
def df (s:ByteArray) (st:RS):ByteArray×RS:=
 let k:=aB s st.p
 let eI:=bif !k.ok||!dz k.t then cE st k.at_ else st
 bif eI.c != 0 then(ByteArray.mk #[],eI)else(k.t,⟨k.at_+k.t.size,eI.c,eI.a⟩)
def jE:Nat→ByteArray→RS→List Lv×RS
 |0,_,st=>([],st)
 |n+1,s,st=>
  bif st.c != 0 then([],st)else
  bif aJ (aB s st.p).t [41]then([],st)else
  let x:=bq (s.size+1) s st
  let y:=jE n s x.2
  (x.1::y.1,y.2)
def SR (rec:RS→Tm×RS) (s:ByteArray) (f:Tm→Tm→Tm) (st:RS):Tm×RS:=(f (rec st).1 (rec (rec st).2).1,bG s (rec (rec st).2).2 (ba [41]))
def tm3 (rec:RS→Tm×RS) (s:ByteArray) (f:Tm→Tm→Tm→Tm) (st:RS):Tm×RS:=
 (f (rec st).1 (rec (rec st).2).1 (rec (rec (rec st).2).2).1,bG s (rec (rec (rec st).2).2).2 (ba [41]))
def tmB (rec:RS→Tm×RS) (s:ByteArray) (k:Nat) (st:RS):Tm×RS:=
 match k with
 |1=>(.sort (bq (s.size+1) s st).1,bG s (bq (s.size+1) s st).2 (ba [41]))
 |2=>(.const (df s st).1 (jE (s.size+10) s (df s st).2).1,bG s (jE (s.size+10) s (df s st).2).2 (ba [41]))
 |3=>SR rec s .app st
 |4=>SR rec s .lam st
 |5=>SR rec s .pi st
 |_=>tm3 rec s .bE st
def tmP (rec:RS→Tm×RS) (s:ByteArray) (st:RS):Tm×RS:=
 bif gQ (aB s st.p).t==0 then(.var 0,cE st (aB s st.p).at_)else tmB rec s (gQ (aB s st.p).t) (aI s st).2
def Ax (k:Tok):Bool:=!k.ok||(gh k.t||(!(av k.t 0==35)&&!aJ k.t [40]))
def aN:Nat→ByteArray→RS→Tm×RS
 |0,_,st=>(.var 0,st)
 |n+1,s,st=>
  bif st.c != 0 then(.var 0,st)else
  bif Ax (aB s st.p)then(.var 0,cE st (aB s st.p).at_)else
  bif aJ (aB s st.p).t [40]then tmP (aN n s) s (aI s st).2 else
  (.var (BI ((aB s st.p).t.extract 1 (aB s st.p).t.size)),(aI s st).2)
theorem lI {n:Nat} {s:ByteArray} {st:RS} (h:st.c≠0):aN n s st=(.var 0,st):=by
 cases n with
 |zero=>rfl
 |succ n=>
  have h2:(st.c != 0)=true:=by simpa using h
  rw[aN,h2];rfl
theorem Po {n:Nat} {s:ByteArray} {st:RS} (h:st.c≠0):jE n s st=([],st):=by
 cases n with
 |zero=>rfl
 |succ n=>
  have h2:(st.c != 0)=true:=by simpa using h
  rw[jE,h2];rfl
structure fK (s:ByteArray) (st cN:RS):Prop where
 le:cN.p≤s.size
 ok:cN.c=0→st.c=0∧st.p≤cN.p
structure iR (s:ByteArray) (st cN:RS):Prop where
 le:cN.p≤s.size
 ok:cN.c=0→st.c=0∧st.p<cN.p
theorem iR.gone {s:ByteArray} {a b:RS} (h:iR s a b):fK s a b:=⟨h.le,fun e=>⟨(h.ok e).1,Nat.le_of_lt (h.ok e).2⟩⟩
theorem iR.trans {s:ByteArray} {a b c:RS} (h:iR s a b) (k:fK s b c):iR s a c:=⟨k.le,fun e=>⟨(h.ok (k.ok e).1).1,by have:=(h.ok (k.ok e).1).2;have:=(k.ok e).2;omega⟩⟩
theorem fK.trans {s:ByteArray} {a b c:RS} (h:fK s a b) (k:fK s b c):fK s a c:=⟨k.le,fun e=>⟨(h.ok (k.ok e).1).1,by have:=(h.ok (k.ok e).1).2;have:=(k.ok e).2;omega⟩⟩
theorem fK.refl {s:ByteArray} {a:RS} (h:a.p≤s.size):fK s a a:=⟨h,fun e=>⟨e,Nat.le_refl _⟩⟩
theorem kS {s:ByteArray} {st:RS} (h:st.p≤s.size) (i:Nat):iR s st (cE st i):=⟨by rw[Cc];exact h,fun e=>absurd e (iZ _ _)⟩
theorem eg {s:ByteArray} {st:RS} (h:st.p≤s.size):iR s st (aI s st).2:=by
 obtain⟨a,b⟩:=yA h
 refine⟨a,fun e=>?_⟩
 obtain⟨c,d,f⟩:=b e
 have:=gL d
 have:=(er s h).ge
 exact⟨c,by omega⟩
theorem bk {s:ByteArray} {st:RS} (h:st.p≤s.size) (w:ByteArray):fK s st (bG s st w):=by
 obtain⟨k1,k2,k3⟩:=er s h
 unfold bG
 by_cases hc:st.c=0
 ·simp only
  cases hx:(!(aB s st.p).ok||!((aB s st.p).t.toList==w.toList))
  ·simp only[cond_false,hc,beq_self_eq_true,cond_true]
   exact⟨by simpa using k2,fun _=>⟨hc,by simp only;omega⟩⟩
  ·have hf:((cE st (aB s st.p).at_).c==0)=false:=by simpa using iZ st (aB s st.p).at_
   simp only[cond_true,hf,cond_false]
   exact(kS h _).gone
 ·have h1:(st.c==0)=false:=by simpa using hc
  have:cE st (aB s st.p).at_=st:=by unfold cE;rw[h1];rfl
  simp only[this]
  cases (!(aB s st.p).ok||!((aB s st.p).t.toList==w.toList))<;>simp only[cond_true,cond_false,h1]<;>exact fK.refl h
theorem dO {s:ByteArray} {st:RS} (h:st.p≤s.size):iR s st (df s st).2:=by
 obtain⟨k1,k2,k3⟩:=er s h
 unfold df
 by_cases hc:st.c=0
 ·simp only
  cases hx:(!(aB s st.p).ok||!dz (aB s st.p).t)
  ·simp only[cond_false,hc,bne_self_eq_false]
   refine⟨by simpa using k2,fun _=>⟨hc,?_⟩⟩
   simp only[Bool.or_eq_false_iff,Bool.not_eq_false',dz,Bool.and_eq_true,Bool.not_eq_true']at hx
   have:=gL hx.2.1
   simp only;omega
  ·have hf:((cE st (aB s st.p).at_).c != 0)=true:=by simpa using iZ st (aB s st.p).at_
   simp only[cond_true,hf]
   exact kS h _
 ·have h1:(st.c==0)=false:=by simpa using hc
  have h2:(st.c != 0)=true:=by simpa using hc
  have:cE st (aB s st.p).at_=st:=by unfold cE;rw[h1];rfl
  simp only[this]
  cases (!(aB s st.p).ok||!dz (aB s st.p).t)<;>simp only[cond_true,cond_false,h2]<;>exact⟨h,fun e=>absurd e hc⟩
theorem im {s:ByteArray} {st:RS} (h:st.p≤s.size):iR s st (bq (s.size+1) s st).2:=by
 have:=il s (s.size+1) st h (.inr (by omega))
 exact⟨this.le,fun e=>⟨(this.ok e).1,(this.ok e).2.2.2.1⟩⟩
theorem pv (s:ByteArray):∀(n:Nat) (st:RS),st.p≤s.size→fK s st (jE n s st).2
 |0,st,h=>fK.refl h
 |n+1,st,h=>by
  unfold jE
  cases st.c != 0
  ·cases aJ (aB s st.p).t [41]
   ·exact(im h).gone.trans (pv s n _ (im h).le)
   ·exact fK.refl h
  ·exact fK.refl h
theorem fj (s:ByteArray):∀(n:Nat) (st:RS),st.p≤s.size→(st.c≠0∨s.size - st.p<n)→iR s st (aN n s st).2
 |0,st,hp,hn=>⟨hp,fun h=>by rcases hn with hn|hn;exact absurd h hn;omega⟩
 |n+1,st,hp,hn=>by
  by_cases hc:st.c=0
  case neg=>rw[lI hc];exact⟨hp,fun h=>absurd h hc⟩
  have tb:(st.c != 0)=false:=by simp[hc]
  have g1:=eg hp
  simp only[aN,tb,cond_false]
  cases Ax (aB s st.p)
  case true=>exact kS hp _
  cases aJ (aB s st.p).t [40]
  case false=>exact g1
  simp only[cond_true,cond_false,tmP]
  cases gQ (aB s (aI s st).2.p).t==0
  case true=>exact g1.trans (kS g1.le _).gone
  have g2:=g1.trans (eg g1.le).gone
  simp only[cond_false]
  have pR:∀cN,iR s st cN→cN.c≠0∨s.size - cN.p<n:=by
   intro cN h
   by_cases hz:cN.c=0
   ·have:=(h.ok hz).2
    have:=h.le
    rcases hn with hn|hn
    ·exact absurd hc hn
    ·right;omega
   ·exact .inl hz
  generalize (aI s (aI s st).2).2=dH at g2
  have k1:iR s st (aN n s dH).2:=g2.trans (fj s n dH g2.le (pR _ g2)).gone
  have k2:iR s st (aN n s (aN n s dH).2).2:=k1.trans (fj s n _ k1.le (pR _ k1)).gone
  have k3:iR s st (aN n s (aN n s (aN n s dH).2).2).2:=k2.trans (fj s n _ k2.le (pR _ k2)).gone
  unfold tmB
  split
  ·have:=g2.trans (im g2.le).gone
   exact this.trans (bk this.le _)
  ·have:=(g2.trans (dO g2.le).gone)
   have:=this.trans (pv s (s.size+10) _ this.le)
   exact this.trans (bk this.le _)
  ·exact k2.trans (bk k2.le _)
  ·exact k2.trans (bk k2.le _)
  ·exact k2.trans (bk k2.le _)
  ·exact k3.trans (bk k3.le _)
end Go.Ab.Mk
end
section
namespace Go.Ab.Mk
open Go.Proofs Go.Ab
structure SC where
 at_:Nat
 tok:ByteArray
 pos:Nat
def SC.cells (s:ByteArray) (st:SC):List Cell:=[(.str s,false),(.int .i64 st.at_,false),(.str st.tok,false),(.int .i64 st.pos,false)]
section
variable {σ:az} {r:Nat} {s:ByteArray} {st:SC} {t:TypeId}
end
end Go.Ab.Mk
end
section
namespace Go.Ab.Mk
open Go.Proofs Go.Ab
theorem Mb {s:ByteArray} {p:Nat} (hp:p≤s.size) {w:List UInt8} (hw:w≠[]) (h:aJ (aB s p).t w=true):(aB s p).ok=true∧gh (aB s p).t=false:=by
 have hz:=fR h
 have hl:0<w.length:=List.length_pos_iff.2 hw
 have hn:gh (aB s p).t=false:=by
  cases hn:gh (aB s p).t with
  |false=>rfl
  |true=>
   have:aJ (aB s p).t []=true:=hn
   have h0:=fR this
   simp only[List.length_nil]at h0;omega
 refine⟨?_,hn⟩
 cases hk:(aB s p).ok with
 |true=>rfl
 |false=>have:=(er s hp).no hk;rw[this]at hn;simp at hn
theorem Mc {s:ByteArray} {st:RS} {w:ByteArray} (hc:st.c≠0):bG s st w=st:=by
 have h1:(st.c==0)=false:=by simpa using hc
 unfold bG cE
 simp only[h1,cond_false]
 cases (!(aB s st.p).ok||!((aB s st.p).t.toList==w.toList))<;>simp only[cond_true,cond_false,h1]
end Go.Ab.Mk
end
section
namespace Go.Ab.Mk
open Go.Proofs Go.Ab
theorem aac {x:Int} (h0:0≤x) (h1:x<2^62):IntKind.wrap .i64 x=x:=by
 obtain⟨n,rfl⟩:=Int.eq_ofNat_of_zero_le h0
 exact sw (by omega)
theorem ac1 {x:Int} (h0:0≤x) (h1:x<256):IntKind.wrap .u8 x=x:=by
 unfold IntKind.wrap
 simp[IntKind.bits,IntKind.signed]<;>omega
theorem Bj (call:af) (n:Nat) {t:ByteArray} (ht:sU t) (σ:az):
  ∀(m i acc:Nat),i≤t.size→t.size - i<m→acc+1≤10^i→xO call n m t acc i σ=some (.ret [(.int .i64 (j8 t i acc),false)],σ)
 |0,i,_,_,hm,_=>by omega
 |m+1,i,acc,hi,hm,ha=>by
  show DQ call (xO call n m) t acc i σ=_
  unfold DQ dS bp aq aP
  have hf:=ht.few
  by_cases aG:i<t.size
  ·obtain⟨b,hb,h1,h2⟩:=ht.byte aG
   have hp:(10:Nat)^i≤10^4:=Nat.pow_le_pow_right (by omega) (by omega)
   have TM:acc+1≤10000:=Nat.le_trans ha hp
   rw[d0,eD aG]
   simp only[cond_true,Bool.and_self,bz,Option.bind_some,Int.toNat_natCast,hb]
   have e1:IntKind.wrap .u8 ((b:Int) - 48)=((b - 48:Nat):Int):=by rw[ac1 (by omega) (by omega)];omega
   have e2:IntKind.wrap .i64 ((b - 48:Nat):Int)=((b - 48:Nat):Int):=sw (by omega)
   have e3:IntKind.wrap .i64 (10*(acc:Int))=((10*acc:Nat):Int):=by rw[aac (by omega) (by omega)];omega
   have e4:IntKind.wrap .i64 (((10*acc:Nat):Int)+((b - 48:Nat):Int))=((10*acc+(b - 48):Nat):Int):=by rw[aac (by omega) (by omega)];omega
   rw[e1,e2,e3,e4,aw (show i<2^61 by omega),qF aG,hb,Int.toNat_natCast]
   exact Bj call n ht σ m (i+1) _ (by omega) (by omega) (by rw[Nat.pow_succ];omega)
  ·rw[cQ aG,sS aG];rfl
theorem ES {t:ByteArray} (ht:sU t) (σ:az):ah C 165 [(.str t,false)] σ=some (.ret [(.int .i64 (BI t),false)],σ):=
 Ow (n:=t.size+1) <| Bj (ah C) (t.size+1) ht σ (t.size+1) 0 0 (by omega) (by omega) (by simp)
def nz:List UInt8:=[115,111,114,116]
def jm:List UInt8:=[99,111,110,115,116]
def wL:List UInt8:=[97,112,112]
def wM:List UInt8:=[108,97,109]
def Pp:List UInt8:=[112,105]
def wN:List UInt8:=[108,101,116]
theorem sV {t:ByteArray} {l:List UInt8} (h:aJ t l=true):t=ba l:=by
 rw[aJ,beq_iff_eq,ByteArray.toList_eq,ByteArray.toList_eq]at h
 apply ByteArray.ext
 exact Array.toList_inj.1 h
theorem sW (a b:List UInt8):aJ (ba a) b=(a==b):=by rw[aJ,ByteArray.toList_eq,ByteArray.toList_eq];rfl
theorem ET (t:ByteArray):
  (gQ t=0∧aJ t nz=false∧aJ t jm=false∧aJ t wL=false∧aJ t wM=false∧aJ t Pp=false∧aJ t wN=false)∨
  (gQ t=1∧aJ t nz=true∧aJ t jm=false∧aJ t wL=false∧aJ t wM=false∧aJ t Pp=false∧aJ t wN=false)∨
  (gQ t=2∧aJ t nz=false∧aJ t jm=true∧aJ t wL=false∧aJ t wM=false∧aJ t Pp=false∧aJ t wN=false)∨
  (gQ t=3∧aJ t nz=false∧aJ t jm=false∧aJ t wL=true∧aJ t wM=false∧aJ t Pp=false∧aJ t wN=false)∨
  (gQ t=4∧aJ t nz=false∧aJ t jm=false∧aJ t wL=false∧aJ t wM=true∧aJ t Pp=false∧aJ t wN=false)∨
  (gQ t=5∧aJ t nz=false∧aJ t jm=false∧aJ t wL=false∧aJ t wM=false∧aJ t Pp=true∧aJ t wN=false)∨
  (gQ t=6∧aJ t nz=false∧aJ t jm=false∧aJ t wL=false∧aJ t wM=false∧aJ t Pp=false∧aJ t wN=true):=by
 unfold gQ
 have f1:[115,111,114,116]=nz:=rfl
 have f2:[99,111,110,115,116]=jm:=rfl
 have f3:[97,112,112]=wL:=rfl
 have f4:[108,97,109]=wM:=rfl
 have f5:[112,105]=Pp:=rfl
 have f6:[108,101,116]=wN:=rfl
 rw[f1,f2,f3,f4,f5,f6]
 cases h1:aJ t nz
 case true=>rw[sV h1];simp only[sW];decide
 cases h2:aJ t jm
 case true=>rw[sV h2];simp only[sW];decide
 cases h3:aJ t wL
 case true=>rw[sV h3];simp only[sW];decide
 cases h4:aJ t wM
 case true=>rw[sV h4];simp only[sW];decide
 cases h5:aJ t Pp
 case true=>rw[sV h5];simp only[sW];decide
 cases h6:aJ t wN
 case true=>decide
 exact .inl ⟨rfl,rfl,rfl,rfl,rfl,rfl,rfl⟩
theorem SS (t:ByteArray):gQ t≤6:=by
 rcases ET t with h|h|h|h|h|h|h<;>(rw[h.1];decide)
def abB:List ByteArray:=[ba nz,ba jm,ba wL,ba wM,ba Pp,ba wN]
end Go.Ab.Mk
end
section
namespace Go.Ab.Mk
open Go.Proofs Go.Ab
theorem tn {σ:az} {r:Nat} {s:ByteArray} {st:RS} (h:σ[r]?=some (st.cells s)) (hs:s.size<2^61) (hp:st.p≤s.size):
  ah C 163 [(.ptr 202 r 0,false)] σ=some (.ret [(.str (df s st).1,false)],σ.set r ((df s st).2.cells s)):=
 RP (n:=0) <| by
  obtain⟨jG,lK,lL⟩:=er s hp
  have ht:=fZ h hs hp
  have hi:=ER (aB s st.p).t σ
  have hw:IntKind.wrap .i64 (((aB s st.p).at_:Int)+((aB s st.p).t.size:Int))=(((aB s st.p).at_+(aB s st.p).t.size:Nat):Int):=wrap_add (by omega)
  have fin:∀eI:RS,∀jH:az,jH[r]?=some (eI.cells s)→eI.p=st.p→jH=σ.set r (eI.cells s)→
    (bif eI.c != 0 then some (End.ret [(V.str (ByteArray.mk #[]),false)],jH)else
     (aV jH (.ptr 202 r 1) [(.int .i64 (IntKind.wrap .i64 (((aB s st.p).at_:Int)+((aB s st.p).t.size:Int))),false)]).bind fun m=>some (End.ret [(V.str (aB s st.p).t,false)],m))=
    some (.ret [(.str (bif eI.c != 0 then(ByteArray.mk #[],eI)else((aB s st.p).t,(⟨(aB s st.p).at_+(aB s st.p).t.size,eI.c,eI.a⟩:RS))).1,false)],
     σ.set r ((bif eI.c != 0 then(ByteArray.mk #[],eI)else((aB s st.p).t,(⟨(aB s st.p).at_+(aB s st.p).t.size,eI.c,eI.a⟩:RS))).2.cells s)):=by
   intro eI jH h1 E9 wR
   rw[hw,WH h1]
   cases eI.c != 0
   ·simp only[cond_false,Option.bind_some]
    rw[wR,List.set_set]
   ·simp only[cond_true]
    rw[wR]
  simp only[ZQ,aE,aM,ae,aF,aH,cj,bb,aq,dG,aP,cB,bM ht rfl,Cz,Fj,Kc,ab hi,List.getD_cons_zero,V.asBool,V.di,V.asInt,if_true,Option.bind_some,df]
  have hf:=iy h (aB s st.p).at_
  have hg:(σ.set r ((cE st (aB s st.p).at_).cells s))[r]?=some ((cE st (aB s st.p).at_).cells s):=aS h
  have hfp:(cE st (aB s st.p).at_).p=st.p:=Cc _ _
  cases eY:(aB s st.p).ok
  ·simp only[Bool.not_false,cond_true,Bool.true_or,bm hf,F8 hg,Option.bind_some,V.asInt,if_true]
   exact fin _ _ hg hfp rfl
  ·simp only[Bool.not_true,cond_false,Bool.false_or]
   cases wQ:dz (aB s st.p).t
   ·simp only[Bool.not_false,cond_true,bm hf,F8 hg,Option.bind_some,V.asInt,if_true]
    exact fin _ _ hg hfp rfl
   ·simp only[Bool.not_true,cond_false,F8 h,Option.bind_some,V.asInt,if_true]
    exact fin _ _ h rfl (kA h).symm
def Hg (s:ByteArray) (st:RS):ByteArray:=bif (aB s st.p).ok&&st.c==0 then(aB s st.p).t else ByteArray.mk #[]
theorem Ay {σ:az} {r:Nat} {s:ByteArray} {st:RS} (h:σ[r]?=some (st.cells s)) (hs:s.size<2^61) (hp:st.p≤s.size):
  ah C 164 [(.ptr 202 r 0,false)] σ=some (.ret [(.str (Hg s st),false)],σ):=
 RQ (n:=0) <| by
  have ht:=fZ h hs hp
  simp only[ZR,aE,aM,aq,cj,bb,ae,bM ht rfl,Cz,Fj,Kc,V.asBool,V.asInt,if_true,F8 h,Option.bind_some,Hg]
  have e:(st.c != 0)=!(st.c==0):=rfl
  rw[e]
  cases (aB s st.p).ok<;>cases st.c==0<;>rfl
theorem wO {s:ByteArray} {st:RS} (hp:st.p≤s.size) (hc:st.c=0):((Hg s st).toList==(ByteArray.mk #[41]).toList)=aJ (aB s st.p).t [41]:=by
 unfold Hg
 have e:∀t:ByteArray,(t.toList==(ByteArray.mk #[41]).toList)=aJ t [41]:=fun _=>rfl
 rw[e]
 cases hk:(aB s st.p).ok
 ·have h1:=(er s hp).no hk
  have:aJ (aB s st.p).t [41]=false:=by
   cases h2:aJ (aB s st.p).t [41]with
   |false=>rfl
   |true=>have:=(Mb hp (by simp) h2).1;rw[hk]at this;simp at this
  rw[this,hc]
  simp only[Bool.false_and,cond_false]
  rw[aJ,ByteArray.toList_eq,ByteArray.toList_eq];rfl
 ·simp[hc]
theorem aL (t:Tm):V.fits t.val true 5=true:=rfl
theorem Ze (t:Tm):[V.cell t.val 0,V.cell t.val 1,V.cell t.val 2,V.cell t.val 3,V.cell t.val 4]=t.enc:=by rw[t.aX];rfl
theorem fL {σ:az} {r:Nat} {a b:List Cell}:(σ.set r a).set r b=σ.set r b:=List.set_set ..
section
variable {N:Nat} {r:Nat} {σ eM:az}
theorem uu {t0 t1:Int} {t2:ByteArray} {t3 t4:List (List V)} {o0 o1:Int} {o2:V} {o3 o4:List (List V)} {m:Nat} {n:Int}
  (h:ah C 160 [(.ptr 202 r 0,false),(.str (ba [41]),false)] σ=some (.ret [],eM)):
  eP (ah C) N (m+1) r n n t0 t1 t2 t3 t4 o0 o1 o2 o3 o4 σ=some (.ret [(.agg [.int .i64 o0,.int .i64 o1,o2,.slice 3 120 o3,.slice 5 53 o4],false)],eM):=by
 rw[show eP (ah C) N (m+1)=xP (ah C) (eP (ah C) N m)from rfl]
 unfold xP aE aM jq ae iz bp aF aq
 have e:decide (n<n)=false:=by simp
 have Hf:ByteArray.mk #[41]=ba [41]:=rfl
 simp only[e,cond_false,Hf,bm h]
theorem sX {t0 t1:Int} {t2:ByteArray} {t3 t4:List (List V)} {o0 o1:Int} {o2:V} {o3 o4:List (List V)} {m:Nat} {n i:Int} {x:Tm} (aG:i<n)
  (h:ah C 166 [(.ptr 202 r 0,false)] σ=some (.ret [(x.val,false)],eM)) (hr:room (o4.length+1)=true):
  eP (ah C) N (m+1) r n i t0 t1 t2 t3 t4 o0 o1 o2 o3 o4 σ=eP (ah C) N m r n (IntKind.wrap .i64 (i+1)) t0 t1 t2 t3 t4 o0 o1 o2 o3 (o4++[x.enc]) eM:=by
 rw[show eP (ah C) N (m+1)=xP (ah C) (eP (ah C) N m)from rfl]
 unfold xP aE aM jq ae iz bp aF aq
 simp only[decide_eq_true aG,cond_true,ab h,List.getD_cons_zero,aL,Ze,bz,Bool.and_self,Option.bind_some,hr]
end
theorem Md {N:Nat} (hN:0<N) {r:Nat} {s:ByteArray} (hs:s.size≤200000) {t0 t1:Int} {t2:ByteArray} {t3 t4:List (List V)} {o0 o1:Int} {o2:V}:
  ∀(m:Nat) (ls:List Lv) (st:RS) (σ:az),σ[r]?=some (st.cells s)→st.p≤s.size→((st.c≠0∧0<m)∨(ls.length+(s.size - st.p)≤200000∧s.size - st.p+1<m))→
   nM (ah C) N m r 0 t0 t1 t2 t3 t4 o0 o1 o2 (ls.map Lv.enc) [] σ=
    some (.ret [(.agg [.int .i64 o0,.int .i64 o1,o2,.slice 3 120 ((ls++(jE m s st).1).map Lv.enc),.slice 5 53 []],false)],σ.set r ((bG s (jE m s st).2 (ba [41])).cells s))
 |0,_,_,_,_,_,hm=>by omega
 |m+1,ls,st,σ,h,hp,hm=>by
  have n8:s.size<2^61:=by omega
  rw[show nM (ah C) N (m+1)=I6 (ah C) (eP (ah C) N N) (nM (ah C) N m)from rfl]
  unfold I6 cj bb aE aM dG ae jq iz
  have ht:=dY h n8 hp (ba [41])
  have HL:eP (ah C) N N r 0 (0:Int) t0 t1 t2 t3 t4 o0 o1 o2 (ls.map Lv.enc) [] σ=some (.ret [(.agg [.int .i64 o0,.int .i64 o1,o2,.slice 3 120 (ls.map Lv.enc),.slice 5 53 []],false)],σ.set r ((bG s st (ba [41])).cells s)):=by
   obtain⟨k,rfl⟩:∃k,N=k+1:=⟨N - 1,by omega⟩
   exact uu ht
  simp only[F8 h,Option.bind_some,V.asInt,if_true]
  by_cases hc:st.c=0
  case neg=>
   have h1:(st.c==0)=false:=by simpa using hc
   rw[Po hc]
   simp only[h1,cond_false,HL,List.append_nil]
  have JO:=Ay h n8 hp
  obtain⟨hb,hm⟩:ls.length+(s.size - st.p)≤200000∧s.size - st.p+1<m+1:=by
   rcases hm with hm|hm
   ·exact absurd hc hm.1
   ·exact hm
  have h1:(st.c==0)=true:=by simpa using hc
  have h2:(st.c != 0)=false:=by simp[hc]
  simp only[h1,cond_true,ab JO,List.getD_cons_zero,V.di,Option.bind_some,wO hp hc,jE,h2,cond_false]
  cases h3:aJ (aB s st.p).t [41]
  case true=>simp only[Bool.not_true,cond_false,HL,cond_true,List.append_nil]
  have hx:=qD n8 (s.size+1) st σ h hp (.inr (by omega)) (by omega)
  have Hs:=im (s:=s) (st:=st) hp
  have Zp:=il s (s.size+1) st hp (.inr (by omega))
  have cC:room (List.length (ls.map Lv.enc)+1)=true:=cF (by simp;omega)
  have hg:(σ.set r ((bq (s.size+1) s st).2.cells s))[r]?=some ((bq (s.size+1) s st).2.cells s):=aS h
  simp only[Bool.not_false,cond_true,ab hx,List.getD_cons_zero,gC,mw,bz,Bool.and_self,Option.bind_some,cC,cond_false]
  have em:List.map Lv.enc ls++[(bq (s.size+1) s st).1.enc]=List.map Lv.enc (ls++[(bq (s.size+1) s st).1]):=by simp
  rw[em]
  have ih:=Md hN hs (t0:=t0) (t1:=t1) (t2:=t2) (t3:=t3) (t4:=t4) (o0:=o0) (o1:=o1) (o2:=o2) m (ls++[(bq (s.size+1) s st).1]) _ _ hg Hs.le (by
   by_cases hz:(bq (s.size+1) s st).2.c=0
   ·have aG:=(Hs.ok hz).2
    have hle:=Hs.le
    right
    refine⟨?_,?_⟩
    ·rw[List.length_append];simp only[List.length_cons,List.length_nil];omega
    ·omega
   ·exact .inl ⟨hz,by omega⟩)
  rw[ih,fL]
  simp
end Go.Ab.Mk
end
section
namespace Go.Ab.Mk
open Go.Proofs Go.Ab
def iq:List ByteArray:=ByteArray.mk #[]::abB
def JF (a b:ByteArray):Bool:=a.toList==b.toList
theorem jF {N m r:Nat} {w:ByteArray} {wat:V} {k:Int} {i:Nat} (hi:i<7) {t0 t1:Int} {t2:ByteArray} {t3 t4:List (List V)} {σ:az}:
  iY (ah C) N (m+1) r (.str w) wat k i t0 t1 t2 t3 t4 σ=iY (ah C) N m r (.str w) wat (bif JF (iq.getD i (ByteArray.mk #[])) w then(i:Int)else k) ((i+1:Nat):Int) t0 t1 t2 t3 t4 σ:=by
 rw[show iY (ah C) N (m+1)=ug (ah C) (eP (ah C) N N) (nM (ah C) N N) (iY (ah C) N m)from rfl]
 unfold ug cz de bo dG ak bp aE aF aq aC aM jq ae dS W2
 have e:V.asSlice (V.slice 1 9 [[V.str (ByteArray.mk #[])],[V.str (ByteArray.mk #[115,111,114,116])],[V.str (ByteArray.mk #[99,111,110,115,116])],[V.str (ByteArray.mk #[97,112,112])],[V.str (ByteArray.mk #[108,97,109])],[V.str (ByteArray.mk #[112,105])],[V.str (ByteArray.mk #[108,101,116])]]) 1 9=some (strs iq):=rfl
 have hl:(strs iq).length=7:=rfl
 have Ht:i<iq.length:=hi
 have hs:(strs iq).getD (Int.toNat (i:Int)) []=[V.str iq[i]]:=by rw[Int.toNat_natCast];exact ib Ht
 have hw:iq.getD i (ByteArray.mk #[])=iq[i]:=by rw[List.getD_eq_getElem?_getD,List.getElem?_eq_getElem Ht];rfl
 have hd:decide ((i:Int)<((7:Nat):Int))=true:=by simp;omega
 simp only[e,Option.bind_some,hl,hd,cond_true,d0,Bool.and_self,bz,hs,List.getD_cons_zero,V.di,aw (show i<2^61 by omega),hw,JF]
 cases iq[i].toList==w.toList<;>rfl
theorem SU (l:List UInt8) (w:ByteArray):JF (ba l) w=aJ w l:=by
 unfold JF aJ
 rw[Bool.eq_iff_iff,beq_iff_eq,beq_iff_eq];exact eq_comm
theorem Pq {N m r:Nat} {w:ByteArray} {wat:V} {t0 t1:Int} {t2:ByteArray} {t3 t4:List (List V)} {σ:az}:
  iY (ah C) N (m+7) r (.str w) wat 0 1 t0 t1 t2 t3 t4 σ=ug (ah C) (eP (ah C) N N) (nM (ah C) N N) (iY (ah C) N m) r (.str w) wat (gQ w) ((7:Nat):Int) t0 t1 t2 t3 t4 σ:=by
 show iY (ah C) N (m+1+1+1+1+1+1+1) r (.str w) wat 0 ((1:Nat):Int) t0 t1 t2 t3 t4 σ=_
 rw[jF (by omega),jF (by omega),jF (by omega),jF (by omega),jF (by omega),jF (by omega)]
 have e1:iq.getD 1 (ByteArray.mk #[])=ba nz:=rfl
 have e2:iq.getD (1+1) (ByteArray.mk #[])=ba jm:=rfl
 have e3:iq.getD (1+1+1) (ByteArray.mk #[])=ba wL:=rfl
 have e4:iq.getD (1+1+1+1) (ByteArray.mk #[])=ba wM:=rfl
 have e5:iq.getD (1+1+1+1+1) (ByteArray.mk #[])=ba Pp:=rfl
 have e6:iq.getD (1+1+1+1+1+1) (ByteArray.mk #[])=ba wN:=rfl
 simp only[e1,e2,e3,e4,e5,e6,SU]
 have hk:(bif aJ w wN then(((1+1+1+1+1+1:Nat)):Int)else bif aJ w Pp then((1+1+1+1+1:Nat):Int)else bif aJ w wM then((1+1+1+1:Nat):Int)else bif aJ w wL then((1+1+1:Nat):Int)else bif aJ w jm then((1+1:Nat):Int)else bif aJ w nz then((1:Nat):Int)else 0)=(gQ w:Int):=by
  rcases ET w with⟨h0,h1,h2,h3,h4,h5,h6⟩|⟨h0,h1,h2,h3,h4,h5,h6⟩|⟨h0,h1,h2,h3,h4,h5,h6⟩|⟨h0,h1,h2,h3,h4,h5,h6⟩|⟨h0,h1,h2,h3,h4,h5,h6⟩|⟨h0,h1,h2,h3,h4,h5,h6⟩|⟨h0,h1,h2,h3,h4,h5,h6⟩<;>simp[h0,h1,h2,h3,h4,h5,h6]
 rw[hk]
 rfl
theorem Pr {N r:Nat} {s:ByteArray} (hs:s.size≤200000) (hN:N=s.size+10) {n:Nat} {m:Nat} {w:ByteArray} {wat:Nat} {k:Nat} (hk6:k≤6) {t0 t1:Int} {t2:ByteArray} {t3 t4:List (List V)} {st:RS} {σ:az}
  (h:σ[r]?=some (st.cells s)) (hp:st.p≤s.size) (pR:∀cN,iR s st cN→cN.c≠0∨s.size - cN.p<n)
  (rec:∀(cN:RS) (eM:az),eM[r]?=some (cN.cells s)→cN.p≤s.size→(cN.c≠0∨s.size - cN.p<n)→ah C 166 [(.ptr 202 r 0,false)] eM=some (.ret [((aN n s cN).1.val,false)],eM.set r ((aN n s cN).2.cells s))):
  ug (ah C) (eP (ah C) N N) (nM (ah C) N N) (iY (ah C) N m) r (.str w) (.int .i64 wat) k ((7:Nat):Int) t0 t1 t2 t3 t4 σ=
   bif k==0 then some (.ret [((Tm.var 0).val,false)],σ.set r ((cE st wat).cells s))else
    some (.ret [((tmB (aN n s) s k (aI s st).2).1.val,false)],σ.set r ((tmB (aN n s) s k (aI s st).2).2.cells s)):=by
 have n8:s.size<2^61:=by omega
 unfold ug cz de bo dG ak bp aE aF aq aC aM jq ae dS W2
 have e:V.asSlice (V.slice 1 9 [[V.str (ByteArray.mk #[])],[V.str (ByteArray.mk #[115,111,114,116])],[V.str (ByteArray.mk #[99,111,110,115,116])],[V.str (ByteArray.mk #[97,112,112])],[V.str (ByteArray.mk #[108,97,109])],[V.str (ByteArray.mk #[112,105])],[V.str (ByteArray.mk #[108,101,116])]]) 1 9=some (strs iq):=rfl
 have hl:(strs iq).length=7:=rfl
 have hd:decide (((7:Nat):Int)<((7:Nat):Int))=false:=by simp
 have hf:=iy h wat
 have hnx:=mB h n8 hp
 have g1:=eg (s:=s) (st:=st) hp
 have By:(σ.set r ((aI s st).2.cells s))[r]?=some ((aI s st).2.cells s):=aS h
 simp only[e,Option.bind_some,hl,hd,cond_false,bm hf,ab hnx]
 generalize (aI s st).2=dH at g1 By ⊢
 have r1:room (0+1)=true:=by decide
 obtain⟨N',rfl⟩:∃N',N=N'+5:=⟨N - 5,by omega⟩
 have two:∀(f:Tm→Tm→Tm) (o0:Int),(∀a b,(f a b).val=.agg [.int .i64 o0,.int .i64 0,.str (ByteArray.mk #[]),.slice 3 120 [],.slice 5 53 [a.enc,b.enc]])→
   eP (ah C) (N'+5) (N'+5) r 2 0 t0 t1 t2 t3 t4 o0 0 (.str (ByteArray.mk #[])) [] [] (σ.set r (dH.cells s))=
    some (.ret [((SR (aN n s) s f dH).1.val,false)],σ.set r ((SR (aN n s) s f dH).2.cells s)):=by
  intro f o0 hf
  have ha:=rec _ _ By g1.le (pR _ g1)
  rw[fL]at ha
  have ga:iR s st (aN n s dH).2:=g1.trans (fj s n dH g1.le (pR _ g1)).gone
  have hga:(σ.set r ((aN n s dH).2.cells s))[r]?=some ((aN n s dH).2.cells s):=aS h
  have hb:=rec _ _ hga ga.le (pR _ ga)
  rw[fL]at hb
  have gb:iR s st (aN n s (aN n s dH).2).2:=ga.trans (fj s n _ ga.le (pR _ ga)).gone
  have hgb:(σ.set r ((aN n s (aN n s dH).2).2.cells s))[r]?=some ((aN n s (aN n s dH).2).2.cells s):=aS h
  have ht:=dY hgb n8 gb.le (ba [41])
  rw[fL]at ht
  have w1:IntKind.wrap .i64 ((0:Int)+1)=1:=by decide
  have w2:IntKind.wrap .i64 ((1:Int)+1)=2:=by decide
  show eP (ah C) (N'+5) (N'+2+1+1+1) r 2 0 t0 t1 t2 t3 t4 o0 0 (.str (ByteArray.mk #[])) [] [] (σ.set r (dH.cells s))=_
  rw[sX (by omega) ha (cF (by simp)),w1,sX (by omega) hb (cF (by simp)),w2,uu ht]
  simp only[SR,hf]
  rfl
 have three:∀(f:Tm→Tm→Tm→Tm) (o0:Int),(∀a b c,(f a b c).val=.agg [.int .i64 o0,.int .i64 0,.str (ByteArray.mk #[]),.slice 3 120 [],.slice 5 53 [a.enc,b.enc,c.enc]])→
   eP (ah C) (N'+5) (N'+5) r 3 0 t0 t1 t2 t3 t4 o0 0 (.str (ByteArray.mk #[])) [] [] (σ.set r (dH.cells s))=
    some (.ret [((tm3 (aN n s) s f dH).1.val,false)],σ.set r ((tm3 (aN n s) s f dH).2.cells s)):=by
  intro f o0 hf
  have ha:=rec _ _ By g1.le (pR _ g1)
  rw[fL]at ha
  have ga:iR s st (aN n s dH).2:=g1.trans (fj s n dH g1.le (pR _ g1)).gone
  have hga:(σ.set r ((aN n s dH).2.cells s))[r]?=some ((aN n s dH).2.cells s):=aS h
  have hb:=rec _ _ hga ga.le (pR _ ga)
  rw[fL]at hb
  have gb:iR s st (aN n s (aN n s dH).2).2:=ga.trans (fj s n _ ga.le (pR _ ga)).gone
  have hgb:(σ.set r ((aN n s (aN n s dH).2).2.cells s))[r]?=some ((aN n s (aN n s dH).2).2.cells s):=aS h
  have hc:=rec _ _ hgb gb.le (pR _ gb)
  rw[fL]at hc
  have gc:iR s st (aN n s (aN n s (aN n s dH).2).2).2:=gb.trans (fj s n _ gb.le (pR _ gb)).gone
  have hgc:(σ.set r ((aN n s (aN n s (aN n s dH).2).2).2.cells s))[r]?=some ((aN n s (aN n s (aN n s dH).2).2).2.cells s):=aS h
  have ht:=dY hgc n8 gc.le (ba [41])
  rw[fL]at ht
  have w1:IntKind.wrap .i64 ((0:Int)+1)=1:=by decide
  have w2:IntKind.wrap .i64 ((1:Int)+1)=2:=by decide
  have w3:IntKind.wrap .i64 ((2:Int)+1)=3:=by decide
  show eP (ah C) (N'+5) (N'+1+1+1+1+1) r 3 0 t0 t1 t2 t3 t4 o0 0 (.str (ByteArray.mk #[])) [] [] (σ.set r (dH.cells s))=_
  rw[sX (by omega) ha (cF (by simp)),w1,sX (by omega) hb (cF (by simp)),w2,sX (by omega) hc (cF (by simp)),w3,uu ht]
  simp only[tm3,hf]
  rfl
 match k,hk6 with
 |0,_=>rfl
 |1,_=>
  have hx:=qD n8 (s.size+1) dH _ By g1.le (.inr (by omega)) (by omega)
  rw[fL]at hx
  have gx:=g1.trans (im g1.le).gone
  have hgx:(σ.set r ((bq (s.size+1) s dH).2.cells s))[r]?=some ((bq (s.size+1) s dH).2.cells s):=aS h
  have ht:=dY hgx n8 gx.le (ba [41])
  rw[fL]at ht
  have e1:(((1:Nat):Int)==0)=false:=rfl
  have e2:(((1:Nat):Int)==1)=true:=rfl
  have e3:((1:Nat)==0)=false:=rfl
  simp only[e1,e2,e3,cond_false,cond_true,ab hx,List.getD_cons_zero,gC,mw,bz,Bool.and_self,Option.bind_some,r1]
  rw[uu ht]
  rfl
 |2,_=>
  have hx:=tn By n8 g1.le
  rw[fL]at hx
  have gx:=g1.trans (dO g1.le).gone
  have hgx:(σ.set r ((df s dH).2.cells s))[r]?=some ((df s dH).2.cells s):=aS h
  have e1:(((2:Nat):Int)==0)=false:=rfl
  have e2:(((2:Nat):Int)==1)=false:=rfl
  have e3:((2:Nat)==0)=false:=rfl
  have e4:(((2:Nat):Int)==2)=true:=rfl
  have ef:∀b:ByteArray,V.fits (.str b) false 1=true:=fun _=>rfl
  simp only[e1,e2,e3,e4,cond_false,cond_true,ab hx,List.getD_cons_zero,ef,bz,Option.bind_some]
  have hr:=Md (N:=N'+5) (by omega) hs (t0:=t0) (t1:=t1) (t2:=t2) (t3:=t3) (t4:=t4) (o0:=((2:Nat):Int)) (o1:=0) (o2:=.str (df s dH).1) (N'+5) [] _ _ hgx gx.le (.inr ⟨by have:=gx.le;simp;omega,by omega⟩)
  rw[fL]at hr
  simp only[List.map_nil,List.nil_append]at hr
  rw[hr,hN]
  rfl
 |3,_=>exact two .app 3 (fun _ _=>rfl)
 |4,_=>exact two .lam 4 (fun _ _=>rfl)
 |5,_=>exact two .pi 5 (fun _ _=>rfl)
 |6,_=>exact three .bE 6 (fun _ _ _=>rfl)
theorem px {r:Nat} {s:ByteArray} (hs:s.size≤200000):∀(n:Nat) (st:RS) (σ:az),σ[r]?=some (st.cells s)→st.p≤s.size→(st.c≠0∨s.size - st.p<n)→
  ah C 166 [(.ptr 202 r 0,false)] σ=some (.ret [((aN n s st).1.val,false)],σ.set r ((aN n s st).2.cells s))
 |n,st,σ,h,hp,hn=>RT (n:=s.size+10) <| by
  have n8:s.size<2^61:=by omega
  have ht:=fZ h n8 hp
  simp only[VB,aE,aM,cj,bb,aq,aC,aF,aH,dG,ae,dS,jq,aP,bM ht rfl,Cz,Fj,Kc,F8 h,V.asInt,if_true,Option.bind_some]
  by_cases hc:st.c=0
  case neg=>
   have h2:(st.c != 0)=true:=by simpa using hc
   rw[lI hc]
   simp only[h2,cond_true,kA h]
   rfl
  obtain⟨n,rfl⟩:∃k,n=k+1:=⟨n - 1,by rcases hn with hn|hn;exact absurd hc hn;omega⟩
  have g1:=eg (s:=s) (st:=st) hp
  have tb:(st.c != 0)=false:=by simp[hc]
  have hf:=iy h (aB s st.p).at_
  have hnx:=mB h n8 hp
  have Ka:∀t:ByteArray,(t.toList==(ByteArray.mk #[40]).toList)=aJ t [40]:=fun _=>rfl
  have e0:∀t:ByteArray,(t.toList==(ByteArray.mk #[]).toList)=gh t:=fun _=>rfl
  have e35:∀x:Int,(x != 35)=!(x==35):=fun _=>rfl
  have By:(σ.set r ((aI s st).2.cells s))[r]?=some ((aI s st).2.cells s):=aS h
  have XO:=fZ By n8 g1.le
  have pR:∀cN,iR s (aI s st).2 cN→cN.c≠0∨s.size - cN.p<n:=by
   intro cN h'
   have h:=g1.trans h'.gone
   by_cases hz:cN.c=0
   ·have:=(h.ok hz).2
    have:=h.le
    rcases hn with hn|hn
    ·exact absurd hc hn
    ·right;omega
   ·exact .inl hz
  have hw:=Pq (N:=s.size+10) (m:=s.size+3) (r:=r) (w:=(aB s (aI s st).2.p).t) (wat:=.int .i64 (aB s (aI s st).2.p).at_) (t0:=0) (t1:=0) (t2:=ByteArray.mk #[]) (t3:=[]) (t4:=[]) (σ:=σ.set r ((aI s st).2.cells s))
  have hq:=Pr (r:=r) hs (N:=s.size+10) rfl (n:=n) (m:=s.size+3) (w:=(aB s (aI s st).2.p).t) (wat:=(aB s (aI s st).2.p).at_) (k:=gQ (aB s (aI s st).2.p).t) (SS _) (t0:=0) (t1:=0) (t2:=ByteArray.mk #[]) (t3:=[]) (t4:=[]) By g1.le pR
   (fun cN eM k1 k2 k3=>px hs n cN eM k1 k2 k3)
  rw[hq,fL,fL]at hw
  simp only[tb,cond_false,V.asBool,V.di,Option.bind_some,bm hf,ab hnx,Ka,e0,e35,bM XO rfl,Cz,Fj]
  have hw':iY (ah C) (s.size+10) (s.size+10) r (.str (aB s (aI s st).2.p).t) (.int .i64 (aB s (aI s st).2.p).at_) 0 1 0 0 (ByteArray.mk #[]) [] [] (σ.set r ((aI s st).2.cells s))=_:=hw
  rw[hw']
  simp only[aN,tb,cond_false,Ax,tmP]
  clear hw hw' hq
  cases eY:(aB s st.p).ok
  case false=>rfl
  cases wQ:gh (aB s st.p).t
  case true=>rfl
  have hz:=gL wQ
  have hz':decide ((0:Int)<((aB s st.p).t.size:Int))=true:=by simp;omega
  have Nb:decide ((1:Int)≤((aB s st.p).t.size:Int))=true:=by simp;omega
  simp only[Bool.not_true,cond_false,Int.le_refl,decide_true,Bool.true_and,hz',bz,cond_true,Option.bind_some,Int.toNat_zero,Bool.false_or]
  cases Ti:aJ (aB s st.p).t [40]
  case true=>
   simp only[Bool.not_true,cond_false,Bool.and_false,cond_true]
   cases (av (aB s st.p).t 0==35)<;>simp only[Bool.not_true,Bool.not_false,cond_true,cond_false]<;>cases (gQ (aB s (aI s st).2.p).t==0)<;>rfl
  cases Aw:av (aB s st.p).t 0==35
  case false=>rfl
  have hdg:=Qy hp eY wQ (by simpa using Aw)
  have ad8:=ES hdg (σ.set r ((aI s st).2.cells s))
  have e01:decide ((0:Int)≤1)=true:=by decide
  have f1:∀x:Int,V.fits (.int .i64 x) false 1=true:=fun _=>rfl
  have t1:Int.toNat 1=1:=rfl
  simp only[Bool.not_true,Bool.not_false,cond_false,cond_true,Nb,e01,t1,Bool.and_self,Bool.and_true,Int.toNat_natCast,ab ad8,List.getD_cons_zero,f1,Option.bind_some,Bool.false_and]
  rfl
end Go.Ab.Mk
end
section
namespace Go.Ab.Mk
open Go.Proofs Go.Ab Go.Proofs.Mk
def Tm.depth:Tm→Nat
 |.app a b=>max a.depth b.depth+1
 |.lam a b=>max a.depth b.depth+1
 |.pi a b=>max a.depth b.depth+1
 |.bE a b c=>max a.depth (max b.depth c.depth)+1
 |_=>0
def Tm.top:Tm→Nat
 |.var n=>n
 |.app a b=>max a.top b.top
 |.lam a b=>max a.top b.top
 |.pi a b=>max a.top b.top
 |.bE a b c=>max a.top (max b.top c.top)
 |_=>0
def db (n:Nat):Tm→Nat→Tm
 |.var m,k=>if k≤m then .var (m+n)else .var m
 |.sort l,_=>.sort l
 |.const s ls,_=>.const s ls
 |.app a b,k=>.app (db n a k) (db n b k)
 |.lam a b,k=>.lam (db n a k) (db n b (k+1))
 |.pi a b,k=>.pi (db n a k) (db n b (k+1))
 |.bE a b c,k=>.bE (db n a k) (db n b k) (db n c (k+1))
def aZ (v:Tm):Tm→Nat→Tm
 |.var m,k=>if m=k then db k v 0 else if k<m then .var (m - 1)else .var m
 |.sort l,_=>.sort l
 |.const s ls,_=>.const s ls
 |.app a b,k=>.app (aZ v a k) (aZ v b k)
 |.lam a b,k=>.lam (aZ v a k) (aZ v b (k+1))
 |.pi a b,k=>.pi (aZ v a k) (aZ v b (k+1))
 |.bE a b c,k=>.bE (aZ v a k) (aZ v b k) (aZ v c (k+1))
end Go.Ab.Mk
end
section
namespace Go.Ab.Mk
open Go.Proofs Go.Ab Go.Proofs.Mk
theorem cG {x:Int} (h0: -(2^62)≤x) (h1:x<2^62):IntKind.wrap .i64 x=x:=by
 unfold IntKind.wrap
 simp[IntKind.bits,IntKind.signed]<;>omega
theorem bf (t:Tm):V.agg [t.enc.getD 0 V.any,t.enc.getD 1 V.any,t.enc.getD 2 V.any,t.enc.getD 3 V.any,t.enc.getD 4 V.any]=t.val:=by rw[t.aX];rfl
end Go.Ab.Mk
end
section
namespace Go.Ab.Mk
open Go.Proofs Go.Ab Go.Proofs.Mk
def j9 (t:Tm) (i k:Nat):Nat:=if 4≤t.kind∧i+1=t.kids.length then k+1 else k
def FO (t:Tm) (i:Nat):Bool:=decide (4≤t.kind∧i+1=t.kids.length)
theorem lC (t:Tm):t.kids.length≤3:=by cases t<;>simp[Tm.kids]
theorem um (t:Tm) (i:Nat) (hi:i<t.kids.length) (σ:az):ah C 274 [(t.val,false),(.int .i64 i,false)] σ=some (.ret [(.bool (FO t i),false)],σ):=
 Sb (n:=0) <| by
  have h3:=lC t
  have hl:t.args.length=t.kids.length:=by simp[Tm.args]
  have w:IntKind.wrap .i64 ((t.args.length:Int) - 1)=((t.kids.length - 1:Nat):Int):=by rw[hl,cG (by omega) (by omega)];omega
  simp only[binds,aq,w]
  by_cases hk:4≤t.kind
  ·rw[show decide (t.kind≥4)=true by simpa using hk,cond_true,Zc]
   have:(i==t.kids.length - 1)=FO t i:=by
    unfold FO
    by_cases h:i+1=t.kids.length
    ·rw[decide_eq_true ⟨hk,h⟩];simp;omega
    ·rw[decide_eq_false (fun x=>h x.2)];simp;omega
   rw[this]
  ·rw[show decide (t.kind≥4)=false by simp;omega,cond_false,show FO t i=false from decide_eq_false (fun x=>hk x.1)]
theorem B8 (t:Tm) (i k:Nat):j9 t i k=bif FO t i then k+1 else k:=by
 unfold j9 FO
 by_cases h:4≤t.kind∧i+1=t.kids.length
 ·rw[if_pos h,decide_eq_true h];rfl
 ·rw[if_neg h,decide_eq_false h];rfl
def sY (g:Nat→Tm→Tm):Nat→List Tm→List Tm
 |_,[]=>[]
 |i,c::L=>g i c::sY g (i+1) L
def LP (t:Tm) (L:List Tm):V:=.agg [.int .i64 t.kind,.int .i64 t.num,.str t.name,.slice 3 120 (t.bK.map Lv.enc),.slice 5 53 (L.map Tm.enc)]
theorem yk (t:Tm) (L:List (List V)) (σ:az):ah C 271 [(t.val,false),(.slice 5 53 L,false)] σ=some (.ret [(.agg [.int .i64 t.kind,.int .i64 t.num,.str t.name,.slice 3 120 (t.bK.map Lv.enc),.slice 5 53 L],false)],σ):=
 Sa (n:=0) rfl
theorem dB {L:List Tm} {i:Nat} (h:i<L.length):(L.map Tm.enc).getD (Int.toNat (i:Int)) []=L[i].enc:=by simp[h]
theorem nt (t:Tm):[V.cell t.val 0,V.cell t.val 1,V.cell t.val 2,V.cell t.val 3,V.cell t.val 4]=t.enc:=by rw[t.aX];rfl
theorem EU {N:Nat} (t:Tm) {n f:Nat} (hf:f<2^60) {σ:az} {g:Nat→Tm→Tm} {t60 t61:Int} {t62:ByteArray} {t63 t64:List (List V)}
  (h:∀(i:Nat) (hi:i<t.kids.length),ah C 256 [((t.kids[i]).val,false),(.int .i64 n,false),(.int .i64 (j9 t i f:Nat),false)] σ=some (.ret [((g i t.kids[i]).val,false)],σ)):
  ∀(m i:Nat) (acc:List Tm),i≤t.kids.length→t.kids.length - i<m→acc.length=i→
   xB (ah C) N m n f (acc.map Tm.enc) i t.kind t.num t.name (t.bK.map Lv.enc) (t.kids.map Tm.enc) t60 t61 t62 t63 t64 σ=some (.ret [(LP t (acc++sY g i (t.kids.drop i)),false)],σ)
 |0,i,_,_,hm,_=>by omega
 |m+1,i,acc,hi,hm,ha=>by
  rw[show xB (ah C) N (m+1)=IP (ah C) (xB (ah C) N m)from rfl]
  unfold IP aE aF aC aP cB ae bo bH bJ bp jq iz dk bQ aq bA
  rw[List.length_map]
  have h3:=lC t
  by_cases aG:i<t.kids.length
  ·have hb:=um t i aG σ
   have h1:=h i aG
   have hx:(t.kids.drop i)=t.kids[i]::t.kids.drop (i+1):=List.drop_eq_getElem_cons aG
   have ih:=EU (N:=N) t hf (t60:=t60) (t61:=t61) (t62:=t62) (t63:=t63) (t64:=t64) h m (i+1) (acc++[g i t.kids[i]]) (by omega) (by omega) (by simp[ha])
   have cC:room ((acc.map Tm.enc).length+1)=true:=cF (by simp;omega)
   have e1:acc++[g i t.kids[i]]++sY g (i+1) (t.kids.drop (i+1))=acc++sY g i (t.kids.drop i):=by rw[hx,List.append_assoc];rfl
   rw[e1,List.map_append]at ih
   rw[eD aG,cond_true]
   refine(ab hb).trans ?_
   simp only[List.getD_cons_zero,V.asBool,Option.bind_some,d0,eD aG,Bool.and_self,bz,cond_true,dB aG,bf,aw (show f<2^61 by omega),aw (show i<2^61 by omega)]
   rw[B8]at h1
   cases Qf:FO t i with
   |true=>
    rw[Qf,cond_true]at h1
    simp only[cond_true]
    refine(ab h1).trans ?_
    simp only[List.getD_cons_zero,aL,Bool.and_self,cond_true,Option.bind_some,cC,nt]
    exact ih
   |false=>
    rw[Qf,cond_false]at h1
    simp only[cond_false]
    refine(ab h1).trans ?_
    simp only[List.getD_cons_zero,aL,Bool.and_self,cond_true,Option.bind_some,cC,nt]
    exact ih
  ·rw[cQ aG,cond_false,List.drop_eq_nil_of_le (by omega)]
   refine(ab (yk t (acc.map Tm.enc) σ)).trans ?_
   simp only[sY,List.append_nil]
   rfl
theorem SV {n:Nat}:∀(t:Tm) (k:Nat),t.kind≠0→(db n t k).val=LP t (sY (fun i c=>db n c (j9 t i k)) 0 t.kids)
 |.var m,k,h=>absurd rfl h
 |.sort l,k,_=>rfl
 |.const s ls,k,_=>rfl
 |.app a b,k,_=>rfl
 |.lam a b,k,_=>rfl
 |.pi a b,k,_=>rfl
 |.bE a b c,k,_=>rfl
theorem jy {t c:Tm} (h:c∈t.kids):c.depth+1≤t.depth∧c.top≤t.top:=by
 cases t<;>simp only[Tm.kids,List.mem_cons,List.not_mem_nil,or_false]at h
 ·rcases h with rfl|rfl<;>simp only[Tm.depth,Tm.top]<;>omega
 ·rcases h with rfl|rfl<;>simp only[Tm.depth,Tm.top]<;>omega
 ·rcases h with rfl|rfl<;>simp only[Tm.depth,Tm.top]<;>omega
 ·rcases h with rfl|rfl|rfl<;>simp only[Tm.depth,Tm.top]<;>omega
theorem Am {n:Nat} (hn:n<2^50) (σ:az):∀(t:Tm) (f:Nat),t.top<2^50→f+t.depth<2^50→ah C 256 [(t.val,false),(.int .i64 n,false),(.int .i64 f,false)] σ=some (.ret [((db n t f).val,false)],σ):=
 Tm.ind fun t ih f ht hd=>Rx (n:=10) <| by
  simp only[Vd,aq,aC]
  by_cases hk:t.kind=0
  ·obtain⟨m,rfl⟩:∃m,t=.var m:=by cases t<;>simp[Tm.kind]at hk;exact⟨_,rfl⟩
   simp only[Tm.top]at ht
   have w:IntKind.wrap .i64 (((Tm.var m).num:Int)+(n:Int))=((m+n:Nat):Int):=wrap_add (by simp only[Tm.num];omega)
   rw[w]
   simp only[Tm.kind,beq_self_eq_true,cond_true,db]
   by_cases hm:f≤m
   ·rw[if_pos hm,show decide (((Tm.var m).num:Int)≥(f:Int))=true by simp[Tm.num];omega];rfl
   ·rw[if_neg hm,show decide (((Tm.var m).num:Int)≥(f:Int))=false by simp[Tm.num];omega];rfl
  ·rw[show(t.kind==(0:Int))=false by simpa using hk,cond_false]
   have h3:=lC t
   have:=EU (N:=10) t (n:=n) (f:=f) (σ:=σ) (g:=fun i c=>db n c (j9 t i f)) (t60:=0) (t61:=0) (t62:=ByteArray.mk #[]) (t63:=[]) (t64:=[]) (by omega)
    (fun i hi=>by
     have D5:=jy (List.getElem_mem hi)
     exact ih _ (List.getElem_mem hi) (j9 t i f) (by omega) (by unfold j9;split<;>omega)) 10 0 [] (Nat.zero_le _) (by omega) rfl
   rw[SV t f hk]
   exact this
theorem yD {N:Nat} (t v:Tm) {k:Nat} (hk:k<2^60) {σ:az} {g:Nat→Tm→Tm} {t60 t61:Int} {t62:ByteArray} {t63 t64:List (List V)}
  (h:∀(i:Nat) (hi:i<t.kids.length),ah C 281 [((t.kids[i]).val,false),(v.val,false),(.int .i64 (j9 t i k:Nat),false)] σ=some (.ret [((g i t.kids[i]).val,false)],σ)):
  ∀(m i:Nat) (acc:List Tm),i≤t.kids.length→t.kids.length - i<m→acc.length=i→
   pg (ah C) N m k (acc.map Tm.enc) i t.kind t.num t.name (t.bK.map Lv.enc) (t.kids.map Tm.enc) v.kind v.num v.name (v.bK.map Lv.enc) v.args t60 t61 t62 t63 t64 σ=some (.ret [(LP t (acc++sY g i (t.kids.drop i)),false)],σ)
 |0,i,_,_,hm,_=>by omega
 |m+1,i,acc,hi,hm,ha=>by
  rw[show pg (ah C) N (m+1)=Ae (ah C) (pg (ah C) N m)from rfl]
  unfold Ae aE aF aC aP cB ae bo bH bJ bp jq iz dk bQ aq bA
  rw[List.length_map]
  have h3:=lC t
  by_cases aG:i<t.kids.length
  ·have hb:=um t i aG σ
   have h1:=h i aG
   have hx:(t.kids.drop i)=t.kids[i]::t.kids.drop (i+1):=List.drop_eq_getElem_cons aG
   have ih:=yD (N:=N) t v hk (t60:=t60) (t61:=t61) (t62:=t62) (t63:=t63) (t64:=t64) h m (i+1) (acc++[g i t.kids[i]]) (by omega) (by omega) (by simp[ha])
   have cC:room ((acc.map Tm.enc).length+1)=true:=cF (by simp;omega)
   have e1:acc++[g i t.kids[i]]++sY g (i+1) (t.kids.drop (i+1))=acc++sY g i (t.kids.drop i):=by rw[hx,List.append_assoc];rfl
   rw[e1,List.map_append]at ih
   rw[eD aG,cond_true]
   refine(ab hb).trans ?_
   simp only[List.getD_cons_zero,V.asBool,Option.bind_some,d0,eD aG,Bool.and_self,bz,cond_true,dB aG,bf,aw (show k<2^61 by omega),aw (show i<2^61 by omega)]
   rw[B8]at h1
   cases Qf:FO t i with
   |true=>
    rw[Qf,cond_true]at h1
    simp only[cond_true]
    refine(ab h1).trans ?_
    simp only[List.getD_cons_zero,aL,Bool.and_self,cond_true,Option.bind_some,cC,nt]
    exact ih
   |false=>
    rw[Qf,cond_false]at h1
    simp only[cond_false]
    refine(ab h1).trans ?_
    simp only[List.getD_cons_zero,aL,Bool.and_self,cond_true,Option.bind_some,cC,nt]
    exact ih
  ·rw[cQ aG,cond_false,List.drop_eq_nil_of_le (by omega)]
   refine(ab (yk t (acc.map Tm.enc) σ)).trans ?_
   simp only[sY,List.append_nil]
   rfl
theorem Ps {v:Tm}:∀(t:Tm) (k:Nat),t.kind≠0→(aZ v t k).val=LP t (sY (fun i c=>aZ v c (j9 t i k)) 0 t.kids)
 |.var m,k,h=>absurd rfl h
 |.sort l,k,_=>rfl
 |.const s ls,k,_=>rfl
 |.app a b,k,_=>rfl
 |.lam a b,k,_=>rfl
 |.pi a b,k,_=>rfl
 |.bE a b c,k,_=>rfl
theorem Me {v:Tm} (hv:v.top<2^50) (hvd:v.depth<2^49) (σ:az):∀(t:Tm) (k:Nat),t.top<2^50→k+t.depth<2^49→ah C 281 [(t.val,false),(v.val,false),(.int .i64 k,false)] σ=some (.ret [((aZ v t k).val,false)],σ):=
 Tm.ind fun t ih k ht hd=>LC (n:=10) <| by
  simp only[Jl,aE,bH,aC,aP,bQ,ae,aq,bA]
  by_cases hk:t.kind=0
  ·obtain⟨m,rfl⟩:∃m,t=.var m:=by cases t<;>simp[Tm.kind]at hk;exact⟨_,rfl⟩
   simp only[Tm.top]at ht
   simp only[Tm.kind,beq_self_eq_true,cond_true,aZ]
   have e0:(((Tm.var m).num:Int)==(k:Int))=(m==k):=Zc m k
   rw[e0]
   by_cases h1:m=k
   ·subst h1
    rw[beq_self_eq_true,cond_true,if_pos rfl]
    have h2:=Am (n:=m) (by omega) σ v 0 hv (by omega)
    refine(ab h2).trans ?_
    rfl
   ·rw[show(m==k)=false by simpa using h1,cond_false,if_neg h1]
    by_cases h2:k<m
    ·have w:IntKind.wrap .i64 (((Tm.var m).num:Int) - 1)=((m - 1:Nat):Int):=by rw[cG (by simp only[Tm.num];omega) (by simp only[Tm.num];omega)];simp only[Tm.num];omega
     rw[if_pos h2,show decide (((Tm.var m).num:Int)>(k:Int))=true by simp[Tm.num];omega,w];rfl
    ·rw[if_neg h2,show decide (((Tm.var m).num:Int)>(k:Int))=false by simp[Tm.num];omega];rfl
  ·rw[show(t.kind==(0:Int))=false by simpa using hk,cond_false]
   have h3:=lC t
   have:=yD (N:=10) t v (k:=k) (σ:=σ) (g:=fun i c=>aZ v c (j9 t i k)) (t60:=0) (t61:=0) (t62:=ByteArray.mk #[]) (t63:=[]) (t64:=[]) (by omega)
    (fun i hi=>by
     have D5:=jy (List.getElem_mem hi)
     exact ih _ (List.getElem_mem hi) (j9 t i k) (by omega) (by unfold j9;split<;>omega)) 10 0 [] (Nat.zero_le _) (by omega) rfl
   rw[Ps t k hk]
   exact this
theorem sI (t v:Tm) (ht:t.top<2^50) (hd:t.depth<2^49) (hv:v.top<2^50) (hvd:v.depth<2^49) (σ:az):
  ah C 273 [(t.val,false),(v.val,false)] σ=some (.ret [((aZ v t 0).val,false)],σ):=Lz (n:=0) <| by
 have h:=Me hv hvd σ t 0 ht (by omega)
 simp only[Qk,aE,bH,aC,aP,bQ,ae,aq,bA]
 refine(ab h).trans ?_
 rfl
end Go.Ab.Mk
end
section
namespace Go.Ab.Mk
open Go.Proofs Go.Ab Go.Proofs.Mk
def lV (p:Tm→Nat→Bool):Tm→Nat→Bool
 |.var m,d=>p (.var m) d
 |.sort l,d=>p (.sort l) d
 |.const s ls,d=>p (.const s ls) d
 |.app a b,d=>p (.app a b) d||(lV p a d||lV p b d)
 |.lam a b,d=>p (.lam a b) d||(lV p a d||lV p b (d+1))
 |.pi a b,d=>p (.pi a b) d||(lV p a d||lV p b (d+1))
 |.bE a b c,d=>p (.bE a b c) d||(lV p a d||(lV p b d||lV p c (d+1)))
def Bk (q:Nat→Tm→Bool):Nat→List Tm→Bool
 |_,[]=>false
 |i,c::L=>q i c||Bk q (i+1) L
theorem WI {p:Tm→Nat→Bool}:∀(t:Tm) (d:Nat),lV p t d=(p t d||Bk (fun i c=>lV p c (j9 t i d)) 0 t.kids)
 |.var m,d=>(Bool.or_false _).symm
 |.sort l,d=>(Bool.or_false _).symm
 |.const s ls,d=>(Bool.or_false _).symm
 |.app a b,d=>by simp[lV,Tm.kids,Bk,j9,Tm.kind]
 |.lam a b,d=>by simp[lV,Tm.kids,Bk,j9,Tm.kind]
 |.pi a b,d=>by simp[lV,Tm.kids,Bk,j9,Tm.kind]
 |.bE a b c,d=>by simp[lV,Tm.kids,Bk,j9,Tm.kind]
theorem qw (t:Tm) (i d:Nat):d≤j9 t i d∧j9 t i d≤d+1:=by unfold j9;split<;>omega
def Eu (s:ByteArray) (t:Tm) (_:Nat):Bool:=t.kind==2&&t.name.toList==s.toList
theorem Hh {N:Nat} (t:Tm) (s:ByteArray) {σ:az} {q:Nat→Tm→Bool}
  (h:∀(i:Nat) (hi:i<t.kids.length),ah C 250 [((t.kids[i]).val,false),(.str s,false)] σ=some (.ret [(.bool (q i t.kids[i]),false)],σ)):
  ∀(m i:Nat),i≤t.kids.length→t.kids.length - i<m→
   zA (ah C) N m s i t.kind t.num t.name (t.bK.map Lv.enc) (t.kids.map Tm.enc) σ=some (.ret [(.bool (Bk q i (t.kids.drop i)),false)],σ)
 |0,i,_,hm=>by omega
 |m+1,i,hi,hm=>by
  rw[show zA (ah C) N (m+1)=NT (ah C) (zA (ah C) N m)from rfl]
  unfold NT bo aE aF bJ cB ae aq bp
  rw[List.length_map]
  have h3:=lC t
  by_cases aG:i<t.kids.length
  ·have h1:=h i aG
   have hx:(t.kids.drop i)=t.kids[i]::t.kids.drop (i+1):=List.drop_eq_getElem_cons aG
   have ih:=Hh (N:=N) t s h m (i+1) (by omega) (by omega)
   rw[hx]
   simp only[eD aG,cond_true,d0,Bool.and_self,bz,Option.bind_some,dB aG,bf,aw (show i<2^61 by omega),Bk]
   refine(ab h1).trans ?_
   simp only[List.getD_cons_zero,V.asBool,Option.bind_some]
   cases q i t.kids[i]with
   |true=>rfl
   |false=>simp only[cond_false,Bool.false_or];exact ih
  ·rw[cQ aG,cond_false,List.drop_eq_nil_of_le (by omega)]
   rfl
theorem sK {s:ByteArray} (σ:az):∀(t:Tm) (d:Nat),ah C 250 [(t.val,false),(.str s,false)] σ=some (.ret [(.bool (lV (Eu s) t d),false)],σ):=
 Tm.ind fun t ih d=>Va (n:=10) <| by
  have h3:=lC t
  have hl:=Hh (N:=10) t s (σ:=σ) (q:=fun i c=>lV (Eu s) c (j9 t i d)) (fun i hi=>ih _ (List.getElem_mem hi) _) 10 0 (Nat.zero_le _) (by omega)
  rw[List.drop_zero]at hl
  simp only[aaL,aq]
  rw[WI t d]
  unfold Eu
  cases t.kind==2 with
  |false=>simp only[cond_false,Bool.false_and,Bool.false_or];exact hl
  |true=>
   simp only[cond_true,Bool.true_and]
   cases t.name.toList==s.toList with
   |true=>rfl
   |false=>simp only[cond_false,Bool.false_or];exact hl
end Go.Ab.Mk
end
section
namespace Go.Ab.Mk
open Go.Proofs Go.Ab
theorem fU (l:Lv):V.agg [l.enc.getD 0 V.any,l.enc.getD 1 V.any,l.enc.getD 2 V.any]=.agg [.int .i64 l.kind,.str l.name,.slice 3 120 l.args]:=by rw[l.aX];rfl
theorem Zf (t:Tm):V.agg [t.enc.getD 0 V.any,t.enc.getD 1 V.any,t.enc.getD 2 V.any,t.enc.getD 3 V.any,t.enc.getD 4 V.any]=t.val:=by rw[t.aX];rfl
theorem Bl {N:Nat} {L:List Tm} (hb:L.length<2^60) {w:Bool} {a0 a1 b0 b1:Int} {a2 b2:ByteArray} {a3 b3:List (List V)} {σ:az}
  (h:∀c∈L,ah C 29 [(c.val,false),(c.val,false),(.bool w,false)] σ=some (.ret [(.bool true,false)],σ)):
  ∀(m i:Nat),i≤L.length→L.length - i<m→jT (ah C) N m w i a0 a1 a2 a3 (L.map Tm.enc) b0 b1 b2 b3 (L.map Tm.enc) σ=some (.ret [(.bool true,false)],σ)
 |0,i,_,hm=>by omega
 |m+1,i,hi,hm=>by
  rw[show jT (ah C) N (m+1)=xH (ah C) (jT (ah C) N m)from rfl]
  unfold xH bo aE bH bJ cB ae aq bp
  rw[List.length_map]
  by_cases aG:i<L.length
  ·have BA:(L.map Tm.enc).getD (Int.toNat (i:Int)) []=L[i].enc:=by simp[aG]
   have hc:=h L[i] (List.getElem_mem aG)
   rw[d0,eD aG,BA]
   simp only[cond_true,Bool.and_self,bz,Option.bind_some,Zf,ab hc,List.getD_cons_zero,V.asBool,Bool.not_true,cond_false,aw (show i<2^61 by omega)]
   exact Bl hb h m (i+1) (by omega) (by omega)
  ·rw[cQ aG];rfl
theorem Bm {N:Nat} {ls:List Lv} (hb:ls.length<2^60) {L:List Tm} {a0 a1 b0 b1:Int} {a2 b2:ByteArray} {σ:az}
  (h:jT (ah C) N N false (0:Int) a0 a1 a2 (ls.map Lv.enc) (L.map Tm.enc) b0 b1 b2 (ls.map Lv.enc) (L.map Tm.enc) σ=some (.ret [(.bool true,false)],σ)):
  ∀(m i:Nat),i≤ls.length→ls.length - i<m→qh (ah C) N m false i a0 a1 a2 (ls.map Lv.enc) (L.map Tm.enc) b0 b1 b2 (ls.map Lv.enc) (L.map Tm.enc) σ=some (.ret [(.bool true,false)],σ)
 |0,i,_,hm=>by omega
 |m+1,i,hi,hm=>by
  rw[show qh (ah C) N (m+1)=xI (ah C) (jT (ah C) N N) (qh (ah C) N m)from rfl]
  unfold xI bo aE aF ak cB ae aq bp
  rw[List.length_map]
  by_cases aG:i<ls.length
  ·have BA:(ls.map Lv.enc).getD (Int.toNat (i:Int)) []=ls[i].enc:=by simp[aG]
   have hc:=FN σ ls[i]
   rw[d0,eD aG,BA]
   simp only[cond_true,Bool.and_self,bz,Option.bind_some,fU,ab hc,List.getD_cons_zero,V.asBool,Bool.not_true,cond_false,aw (show i<2^61 by omega)]
   exact Bm hb h m (i+1) (by omega) (by omega)
  ·rw[cQ aG];exact h
def Tm.wide:Tm→Nat
 |.const _ ls=>ls.length
 |.app a b=>max a.wide b.wide
 |.lam a b=>max a.wide b.wide
 |.pi a b=>max a.wide b.wide
 |.bE a b c=>max a.wide (max b.wide c.wide)
 |_=>1
theorem B7 (t:Tm):t.kids.length≤3:=by cases t<;>simp[Tm.kids]
theorem Ah (t:Tm):t.bK.length≤t.wide:=by cases t<;>simp[Tm.bK,Tm.wide]
theorem jW {t c:Tm} (h:c∈t.kids):c.wide≤t.wide:=by
 cases t<;>simp only[Tm.kids,List.mem_cons,List.not_mem_nil,or_false]at h<;>simp only[Tm.wide]
 ·rcases h with rfl|rfl<;>omega
 ·rcases h with rfl|rfl<;>omega
 ·rcases h with rfl|rfl<;>omega
 ·rcases h with rfl|rfl|rfl<;>omega
theorem SW (σ:az):∀t:Tm,t.wide<2^60→ah C 29 [(t.val,false),(t.val,false),(.bool false,false)] σ=some (.ret [(.bool true,false)],σ):=
 Tm.ind fun t ih hw=>kK (n:=t.wide+10) <| by
  have hk:=B7 t
  have hl:=Ah t
  have h1:=Bl (N:=t.wide+10) (L:=t.kids) (by omega) (w:=false) (a0:=t.kind) (a1:=t.num) (b0:=t.kind) (b1:=t.num) (a2:=t.name) (b2:=t.name) (a3:=t.bK.map Lv.enc) (b3:=t.bK.map Lv.enc) (σ:=σ)
   (fun c hc=>ih c hc (by have:=jW hc;omega)) (t.wide+10) 0 (by omega) (by omega)
  have h0:=Bm (N:=t.wide+10) (ls:=t.bK) (by omega) h1 (t.wide+10) 0 (by omega) (by omega)
  have e:∀x:Int,(x != x)=false:=fun x=>by simp
  simp only[alike,aq,e,cond_false,beq_self_eq_true,Bool.not_true]
  exact h0
theorem l0 (σ:az) (t:Tm) (hw:t.wide<2^60):ah C 19 [(t.val,false),(t.val,false)] σ=some (.ret [(.bool true,false)],σ):=
 IX (n:=0) <| by
  have h:=SW σ t hw
  simp only[Tm.val]at h
  simp only[K4,aE,bH,aC,aq,ae,ab h,List.getD_cons_zero]
end Go.Ab.Mk
end
section
namespace Go.Ab.Mk
open Go.Proofs Go.Ab Go.Proofs.Mk
theorem Jr (t:Tm):[t.enc.getD 0 V.any,t.enc.getD 1 V.any,t.enc.getD 2 V.any,t.enc.getD 3 V.any,t.enc.getD 4 V.any]=t.enc:=by rw[t.aX];rfl
theorem WJ (t:Tm):V.cell t.val 0=t.enc.getD 0 V.any∧V.cell t.val 1=t.enc.getD 1 V.any∧V.cell t.val 2=t.enc.getD 2 V.any∧V.cell t.val 3=t.enc.getD 3 V.any∧V.cell t.val 4=t.enc.getD 4 V.any:=by rw[t.aX];exact⟨rfl,rfl,rfl,rfl,rfl⟩
theorem yE {N:Nat} {L:List Tm} (hb:L.length<2^33) {c0 c1 c2 c3 c4:V} {t0 t1:Int} {t2:ByteArray} {t3 t4:List (List V)} {σ:az}:
  ∀(j m:Nat) (bs:List Tm),j≤L.length→j<m→bs.length+j≤L.length→lx (ah C) N m (L.map Tm.enc) (bs.map Tm.enc) ((j:Int) - 1) c0 c1 c2 c3 c4 t0 t1 t2 t3 t4 σ=
   some (.ret [(.agg [c0,c1,c2,c3,c4],false),(.slice 5 53 ((bs++(L.take j).reverse).map Tm.enc),false)],σ)
 |0,0,_,_,hm,_=>by omega
 |0,m+1,bs,_,_,_=>by
  rw[show lx (ah C) N (m+1)=rU (ah C) (lx (ah C) N m)from rfl]
  unfold rU bo iz ak cq bF dk
  rw[show decide (((0:Nat):Int) - 1≥0)=false from rfl,cond_false,List.take_zero,List.reverse_nil,List.append_nil]
 |j+1,0,_,_,hm,_=>by omega
 |j+1,m+1,bs,hj,hm,ha=>by
  rw[show lx (ah C) N (m+1)=rU (ah C) (lx (ah C) N m)from rfl]
  unfold rU bo iz ak cq bF dk
  have e:((j+1:Nat):Int) - 1=(j:Int):=by omega
  have cC:room ((bs.map Tm.enc).length+1)=true:=cF (by simp;omega)
  have ih:=yE (N:=N) hb (c0:=c0) (c1:=c1) (c2:=c2) (c3:=c3) (c4:=c4) (t0:=t0) (t1:=t1) (t2:=t2) (t3:=t3) (t4:=t4) (σ:=σ) j m (bs++[L[j]]) (by omega) (by omega) (by simp;omega)
  rw[e,show decide ((j:Int)≥0)=true by simp,cond_true,List.length_map,eD (show j<L.length by omega),cC,dB (show j<L.length by omega),Jr,cG (by omega) (by omega)]
  simp only[Bool.and_self,bz,cond_true,Option.bind_some]
  rw[List.map_append]at ih
  refine ih.trans ?_
  rw[List.take_succ_eq_append_getElem (show j<L.length by omega),List.reverse_append]
  simp
theorem yF {N:Nat} {t0 t1:Int} {t2:ByteArray} {t3 t4:List (List V)} {σ:az}:
  ∀(u:Tm) (m:Nat) (acc:List Tm),u.spine.length<m→acc.length+u.spine.length<N→N<2^33→rV (ah C) N m (acc.map Tm.enc) (u.enc.getD 0 V.any) (u.enc.getD 1 V.any) (u.enc.getD 2 V.any) (u.enc.getD 3 V.any) (u.enc.getD 4 V.any) t0 t1 t2 t3 t4 σ=
   some (.ret [(u.head.val,false),(.slice 5 53 ((u.spine++acc.reverse).map Tm.enc),false)],σ)
 |u,0,_,hm,_,_=>by omega
 |u,m+1,acc,hm,hN,hb=>by
  rw[show rV (ah C) N (m+1)=De (ah C) (lx (ah C) N N) (rV (ah C) N m)from rfl]
  unfold De bb cz bo iz gr ak
  have e0:u.enc.getD 0 V.any=.int .i64 u.kind:=by rw[u.aX];rfl
  by_cases hk:u.kind=3
  ·obtain⟨a,b,rfl⟩:∃a b,u=.app a b:=by cases u<;>simp[Tm.kind]at hk;exact⟨_,_,rfl⟩
   simp only[Tm.spine,List.length_append,List.length_singleton]at hm hN
   have ih:=yF (N:=N) (t0:=t0) (t1:=t1) (t2:=t2) (t3:=t3) (t4:=t4) (σ:=σ) a m (acc++[b]) (by omega) (by simp;omega) hb
   have hs:V.asSlice ((Tm.app a b).enc.getD 4 V.any) 5 53=some [a.enc,b.enc]:=rfl
   have cC:room ((acc.map Tm.enc).length+1)=true:=cF (by simp;omega)
   have g1:List.getD [a.enc,b.enc] (Int.toNat 1) []=b.enc:=rfl
   have g0:List.getD [a.enc,b.enc] (Int.toNat 0) []=a.enc:=rfl
   have k1:(decide ((0:Int)≤1)&&decide ((1:Int)<([a.enc,b.enc].length:Int)))=true:=rfl
   have k0:(decide ((0:Int)≤0)&&decide ((0:Int)<([a.enc,b.enc].length:Int)))=true:=rfl
   have PF:(Tm.app a b).kind=3:=rfl
   rw[e0]
   simp only[V.asInt,if_true,Option.bind_some,PF,beq_self_eq_true,cond_true,hs,g0,g1,k0,k1,bz,cC,Jr]
   rw[List.map_append]at ih
   refine ih.trans ?_
   simp[Tm.head,Tm.spine]
  ·have jP:u.spine=[]:=by cases u<;>simp[Tm.kind]at hk<;>rfl
   have hhd:u.head=u:=by cases u<;>simp[Tm.kind]at hk<;>rfl
   have h1:=yE (N:=N) (L:=acc) (by omega) (c0:=u.enc.getD 0 V.any) (c1:=u.enc.getD 1 V.any) (c2:=u.enc.getD 2 V.any) (c3:=u.enc.getD 3 V.any) (c4:=u.enc.getD 4 V.any) (t0:=t0) (t1:=t1) (t2:=t2) (t3:=t3) (t4:=t4) (σ:=σ) acc.length N [] (Nat.le_refl _) (by rw[jP]at hN;simpa using hN) (by simp)
   rw[e0]at h1 ⊢
   rw[show V.asInt (.int .i64 u.kind) .i64=some u.kind from rfl,Option.bind_some,show(u.kind==(3:Int))=false by simpa using hk,cond_false,List.length_map,cG (by omega) (by omega)]
   refine h1.trans ?_
   rw[←e0,bf,hhd,jP,List.take_length]
theorem ik (t:Tm) (ht:t.spine.length<2^32) (σ:az):ah C 219 [(t.val,false)] σ=some (.ret [(t.head.val,false),(.slice 5 53 (t.spine.map Tm.enc),false)],σ):=
 NJ (n:=t.spine.length+1) <| by
  have h:=yF (N:=t.spine.length+1) (t0:=0) (t1:=0) (t2:=ByteArray.mk #[]) (t3:=[]) (t4:=[]) (σ:=σ) t (t.spine.length+1) [] (by omega) (by simp) (by omega)
  rw[t.aX]at h
  simp only[List.reverse_nil,List.append_nil]at h
  exact h
def eA (f:Tm):List Tm→Tm
 |[]=>f
 |a::bs=>eA (.app f a) bs
theorem Zg (f a:Tm):V.agg [.int .i64 3,.int .i64 0,.str (ByteArray.mk #[]),.slice 3 120 [],.slice 5 53 [f.enc,a.enc]]=(Tm.app f a).val:=rfl
theorem fg (f a:Tm) (σ:az):ah C 228 [(f.val,false),(a.val,false)] σ=some (.ret [((Tm.app f a).val,false)],σ):=U3 (n:=0) <| by
 simp only[ab7,aq,aC]
 rw[←Zg,f.aX,a.aX]
theorem Bn {N:Nat} {L:List Tm} (hb:L.length<2^33) {t0 t1:Int} {t2:ByteArray} {t3 t4:List (List V)} {σ:az}:
  ∀(m i:Nat) (f:Tm),i≤L.length→L.length - i<m→r9 (ah C) N m (L.map Tm.enc) i (f.enc.getD 0 V.any) (f.enc.getD 1 V.any) (f.enc.getD 2 V.any) (f.enc.getD 3 V.any) (f.enc.getD 4 V.any) t0 t1 t2 t3 t4 σ=
   some (.ret [((eA f (L.drop i)).val,false)],σ)
 |0,i,f,_,hm=>by omega
 |m+1,i,f,hi,hm=>by
  rw[show r9 (ah C) N (m+1)=Dv (ah C) (r9 (ah C) N m)from rfl]
  unfold Dv bo aE aF bF bJ bQ ae cR bp aq
  by_cases aG:i<L.length
  ·have ih:=Bn (N:=N) hb (t0:=t0) (t1:=t1) (t2:=t2) (t3:=t3) (t4:=t4) (σ:=σ) m (i+1) (.app f L[i]) (by omega) (by omega)
   have hx:L.drop i=L[i]::L.drop (i+1):=List.drop_eq_getElem_cons aG
   obtain⟨q0,q1,q2,q3,q4⟩:=WJ (.app f L[i])
   rw[List.length_map,eD aG,cond_true,d0,dB aG,bf,bf]
   simp only[Bool.and_self,bz,cond_true,Option.bind_some]
   refine(ab (fg f L[i] σ)).trans ?_
   simp only[List.getD_cons_zero,aL,cond_true,Option.bind_some,aw (show i<2^61 by omega),q0,q1,q2,q3,q4]
   rw[hx]
   exact ih
  ·rw[List.length_map,cQ aG,cond_false,bf,List.drop_eq_nil_of_le (by omega)]
   rfl
theorem ED (f:Tm) (L:List Tm) (hb:L.length<2^33) (σ:az):ah C 267 [(f.val,false),(.slice 5 53 (L.map Tm.enc),false)] σ=some (.ret [((eA f L).val,false)],σ):=
 N0 (n:=L.length+1) <| by
  have h:=Bn (N:=L.length+1) hb (t0:=0) (t1:=0) (t2:=ByteArray.mk #[]) (t3:=[]) (t4:=[]) (σ:=σ) (L.length+1) 0 f (by omega) (by omega)
  rw[f.aX]at h
  exact h
end Go.Ab.Mk
end
