/- ReduceKnows: for every script of bulk at most 1048576 the law returns true, and the script reads afterwards as it read before. -/
import Derived.Test.YtcjofhikcokhfaaGreatDoorAbKn3
import Derived.Test.YtcjofhikcokhfaaGreatDoorAbMk0
import Derived.Test.YtcjofhikcokhfaaGreatDoorAbKo2
import Derived.Test.YtcjofhikcokhfaaGreatDoorAbKo4
import Derived.Test.YtcjofhikcokhfaaGreatDoorCards
import Derived.Test.YtcjofhikcokhfaaGreatDoorTie
import Derived.WalkKit
import Derived.ProofKit
import Derived.OpenShut
import Derived.Deep.DeepHandedRow
import Derived.Deep.DeepWitnessRowRef
import Derived.Lib.LaidTab
import Derived.Lay
import Derived.LaidLaws
import Derived.RowKitTokens
import Derived.ChangeVars
set_option linter.unusedSimpArgs false
set_option linter.unusedVariables false
set_option linter.deprecated false
namespace Go.Proofs.YtcjofhikcokhfaaGreatDoor.aec
open Go.ChangeShapes Go.WideShapes Go.ChangeAt Go.RowKit Go.Ab
theorem ac5:VO Tryz.prog Mk.C:=by
 intro f s h
 have h':(if f=178 then some Mk.C0 else if f=223 then some Mk.tL else if f=224 then some Mk.kF else if f=12 then some Mk.tA else if f=36 then some Mk.ts else if f=15 then some Mk.oR else if f=17 then some Mk.mC else if f=20 then some Mk.mD else none)=some s:=h
 split at h'
 ·rename_i hf
  obtain rfl:=Option.some.inj h'
  rw[hf]
  exact Nr (fun args w=>Tryz.call178 args w)
 split at h'
 ·rename_i hf
  obtain rfl:=Option.some.inj h'
  rw[hf]
  exact Kv (fun args w=>Tryz.call223 args w)
 split at h'
 ·rename_i hf
  obtain rfl:=Option.some.inj h'
  rw[hf]
  exact CX (fun args w=>Tryz.call224 args w)
 split at h'
 ·rename_i hf
  obtain rfl:=Option.some.inj h'
  rw[hf]
  exact Ud (fun args w=>Tryz.call12 args w)
 split at h'
 ·rename_i hf
  obtain rfl:=Option.some.inj h'
  rw[hf]
  exact Ur (fun args w=>Tryz.call36 args w)
 split at h'
 ·rename_i hf
  obtain rfl:=Option.some.inj h'
  rw[hf]
  exact Rf (fun args w=>Tryz.call15 args w)
 split at h'
 ·rename_i hf
  obtain rfl:=Option.some.inj h'
  rw[hf]
  exact M8 (fun args w=>Tryz.call17 args w)
 split at h'
 ·rename_i hf
  obtain rfl:=Option.some.inj h'
  rw[hf]
  exact Ni (fun args w=>Tryz.call20 args w)
 ·simp at h'
theorem own:ownKnob Tryz.prog.godebug=none:=by kernel_rfl
theorem gS:Tryz.prog.globalNamed "provekernel/provekernelref.words"=some 4:=by kernel_rfl
theorem gST:(Tryz.prog.globals[4]?).map (·.type)=some 45:=by kernel_rfl
theorem aed:aas Tryz.prog 22 28 3 9 where
 hS:=Tryz.underlying22
 hOp:=⟨_,Tryz.underlying28,by kernel_rfl⟩
 XJ:=Tryz.underlying3
 XK:=Tryz.underlying9
 cOp:=by kernel_rfl
 abT:=by kernel_rfl
 abU:=by kernel_rfl
theorem QB {P:Program} {W:World} {name:String} {d:DataW Unit}:∀{l:List (String×DataW Unit)} {ps:List MemPlace},DataW.LaidVars P W l ps→(name,d)∈l→
  ∃g t cs fuel p,P.globalNamed name=some g∧(P.globals[g]?).map (·.type)=some t∧W.var? P name=some cs∧DataW.trod (fun _=>()) P W 0 (fun _=>true) false fuel t cs.toList=some (d,p)
 |[],_,_,h=>by simp at h
 |(n,e)::l,ps,hL,h=>by
  obtain⟨g,t,cs,fuel,p,q,h1,h2,h3,h4,h5,_⟩:=hL
  rcases List.mem_cons.1 h with h|h
  ·simp only[Prod.mk.injEq]at h
   obtain⟨rfl,rfl⟩:=h
   exact⟨g,t,cs,fuel,p,h1,h2,h3,h4⟩
  ·exact QB h5 h
theorem WS {P:Program} {W:World} {name:String} {g:Nat} {cs:Array Value} (hg:P.globalNamed name=some g) (h:W.var? P name=some cs):∃el fr,W.heap[g]?=some (.cells cs el fr):=by
 unfold World.var? at h
 rw[hg,Option.bind_some]at h
 split at h
 ·rename_i c el fr he
  obtain rfl:=Option.some.inj h
  exact⟨el,fr,he⟩
 ·simp at h
def qI:List ByteArray:=[ByteArray.mk #[],ByteArray.mk #[115,111,114,116],ByteArray.mk #[99,111,110,115,116],ByteArray.mk #[97,112,112],ByteArray.mk #[108,97,109],ByteArray.mk #[112,105],ByteArray.mk #[108,101,116]]
structure Holds (W:World) (g:Nat) (cs:List Value):Prop where
 heap:∃el fr,W.heap[g]?=some (.cells cs.toArray el fr)
theorem Holds.lt {W:World} {g:Nat} {cs:List Value} (h:Holds W g cs):g<W.heap.size:=by
 obtain⟨el,fr,h⟩:=h.heap
 exact(Array.getElem?_eq_some_iff.1 h).1
theorem Holds.cell {W:World} {g:Nat} {cs:List Value} (h:Holds W g cs) (i:Nat):W.cell? ⟨g,i,none⟩=cs[i]?:=by
 obtain⟨el,fr,h⟩:=h.heap
 simp[World.cell?,h]
theorem WT {W:World} (h:laidMetH Tryz.prog Rows.reduceKnowsUptoRow.laid W):laidMet Tryz.prog Rows.reduceKnowsUptoRow.laid W:=h
theorem abG {W:World} (h:laidMetH Tryz.prog Rows.reduceKnowsUptoRow.laid W):∃b off cap,Holds W 4 [.slice (some ⟨b,off,none⟩) qI.length cap]∧
  qI.length≤cap∧b<W.heap.size∧∀i s,qI[i]?=some s→W.cell? ⟨b,off+i,none⟩=some (.string s):=by
 obtain⟨ps,hL,_⟩:=WT h
 obtain⟨g',t',cs,fuel,p,BD,YY,ac6,hd⟩:=QB (name:= "provekernel/provekernelref.words") (d:=Rows.laid_provekernel_provekernelref_words) hL (by simp[Rows.reduceKnowsUptoRow])
 obtain rfl:=Option.some.inj (gS.symm.trans BD)
 obtain rfl:=Option.some.inj (gST.symm.trans YY)
 obtain⟨b,off,cap,hcs,h1,h2,h3⟩:=T6 (t:=45) (e:=9) Tryz.underlying45 Tryz.underlying9 (by kernel_rfl) qI (by decide) rfl hd
 have FH:cs=#[.slice (some ⟨b,off,none⟩) qI.length cap]:=by apply Array.ext';rw[hcs]
 rw[FH]at ac6
 exact⟨b,off,cap,⟨WS gS ac6⟩,h1,h2,h3⟩
theorem PB {W:World} {g B:Nat} {cs:List Value} {n:Nat} (h:Holds W g cs) (hB:0<B) (hn:cs.length=n):0<B∧∃cv el fr,W.heap[g]?=some (.cells cv el fr)∧cv.size=n:=by
 obtain⟨el,fr,h⟩:=h.heap
 exact⟨hB,_,el,fr,h,by simpa using hn⟩
theorem vj {W:World} (hL:laidMetH Tryz.prog Rows.reduceKnowsUptoRow.laid W):∃B1,∀B,B1≤B→dR Mk.C.bN (G0 W B) W []:=by
 obtain⟨b,off,cap,hS,ac7,hbS,hwS⟩:=abG hL
 refine⟨off+20,fun B hB=>XI ?_ ?_⟩
 ·intro g cs hg
  have BD:(if g=4 then some [V.slice 1 9 (qI.map fun s=>[V.str s])]else none)=some cs:=hg
  split at BD
  ·rename_i h0
   obtain rfl:=Option.some.inj BD
   rw[h0]
   exact H3 (hS.cell 0) hS.lt hbS ac7 hwS (by omega) (by show off+7≤B;omega)
  ·simp at BD
 ·intro g cs hg
  have BD:(if g=4 then some [V.slice 1 9 (qI.map fun s=>[V.str s])]else none)=some cs:=hg
  split at BD
  ·rename_i h0
   obtain rfl:=Option.some.inj BD
   rw[h0]
   exact PB hS (by omega) rfl
  ·simp at BD
theorem Mo {H:Type}:∀{l:List (DataW H)} {d:DataW H},d∈l→Rows.uptoBulk d≤Rows.uptoBulkAll l
 |x::l,d,h=>by
  simp only[Rows.uptoBulkAll]
  rcases List.mem_cons.1 h with rfl|h
  ·omega
  ·have:=Mo h
   omega
theorem Mp {H:Type}:∀(L:List kV),L.length≤Rows.uptoBulkAll (L.map (kV.data (H:=H)))
 |[]=>Nat.le_refl _
 |o::L=>by
  have:=Mp (H:=H) L
  have h1:1≤Rows.uptoBulk (o.data (H:=H)):=by simp only[kV.data,Rows.uptoBulk];omega
  simp only[List.map_cons,Rows.uptoBulkAll,List.length_cons]
  omega
theorem Zj {H:Type} (o:kV):o.s.size≤Rows.uptoBulk (o.data (H:=H)):=by
 have e:o.s.data.toList.length=o.s.size:=by rw[Array.length_toList];rfl
 simp only[kV.data,Rows.uptoBulk,Rows.uptoBulkAll]
 omega
theorem small {H:Type} {L:List kV} {d:DataW H} (hd:(d=.nil∧L=[])∨∃rest,d=.slice (L.map kV.data) rest) (hk:Rows.uptoSmall H [d]=true):L.length<2^30∧∀o∈L,o.s.size<2^30:=by
 have h:Rows.uptoBulkAll [d]≤1048576:=of_decide_eq_true hk
 rcases hd with⟨_,rfl⟩|⟨rest,rfl⟩
 ·exact⟨by simp,by simp⟩
 ·simp only[Rows.uptoBulkAll,Rows.uptoBulk]at h
  have h1:=Mp (H:=H) L
  refine⟨by omega,fun o ho=>?_⟩
  have h2:=Mo (List.mem_map.2 ⟨o,ho,rfl⟩:(o.data (H:=H))∈L.map kV.data)
  have h3:=Zj (H:=H) o
  omega
set_option maxRecDepth 100000 in
theorem WU (H:Type) (enc:TypeId×Value→H) (W:World) (base:Nat) (args:Array Value) (ds gs:List (DataW H)) (before:List MemPlace)
  (uy:∀(j:Nat) t v,Tryz.f3.params[j]?=some t→args[j]?=some v→Value.okWide Tryz.prog W .any base t v)
  (hW:DataW.Whole enc Tryz.prog Tryz.f3.params.toList Rows.reduceKnowsSpec.vars false W args.toList ds gs before) (hL:laidMetH Tryz.prog Rows.reduceKnowsUptoRow.laid W)
  (hk:Rows.uptoSmall H (ds++gs)=true):
  Calls Tryz.prog 3 args W fun e W'=>∃v,e=.returned v∧Rows.reduceKnowsSpec.post enc Tryz.prog Tryz.f3 false true false false W args v W':=by
 obtain⟨p,q,hA,hV,_,_,_⟩:=id hW
 rw[Tryz.params3]at hA uy
 obtain⟨v0,vs0,d0,ds0,p0,q0,CN,rfl,rfl,h0,r0⟩:=trodAll_cons hA
 obtain⟨rfl,rfl,rfl⟩:=trodAll_nil r0
 obtain rfl:args=#[v0]:=by cases args;simp_all
 obtain⟨rfl,rfl⟩:=trodVars_none hV
 obtain⟨L,B0,hrel,_,_,Q7⟩:=MX aed (uy 0 22 v0 rfl rfl) h0
 obtain⟨B1,hS⟩:=vj hL
 have hS:=hS (max B0 B1) (Nat.le_max_right _ _)
 obtain⟨hlen,iM⟩:=small Q7 hk
 obtain⟨eM,Hw⟩:=Mk.Rb hlen iM []
 have dW:=((aaY Mk.ab5 ac5) _ _ _ _ Hw).2 (G0 W (max B0 B1)) W [v0] hS (T4 _ _ _) rfl (fun i c x hc hx=>by
  match i with
  |0=>simp at hc hx;subst hc;subst hx;exact⟨hrel _ (Nat.le_max_left _ _),fun ho=>by simp at ho⟩
  |i+1=>simp at hc)
 refine dW.mono fun e W' ⟨G',hE,_,HL⟩=>?_
 obtain⟨cs,gE,he,Xv⟩:=HL
 obtain⟨x,rfl⟩:∃x,cs=[x]:=by
  match cs,gE with
  |[x],_=>exact⟨x,rfl⟩
 have hx:=Cy (Xv 0 _ x rfl rfl).1
 subst hx
 exact⟨.bool true,he,Q8 Tryz.params3 (by kernel_rfl) Tryz.underlying4 rfl rfl (by kernel_rfl) (by kernel_rfl) (of_decide_eq_true (by kernel_rfl)) hW hE⟩
noncomputable def pC (os:Os):World:=(World.holding Tryz.prog os ⟨#[],#[],[]⟩).layVars Tryz.prog Rows.reduceKnowsUptoRow.laid
theorem WV (os:Os):laidMetH Tryz.prog Rows.reduceKnowsUptoRow.laid ((pC os).forCall (fun _ _=>0) ⟨#[],#[.slice none 0 0],[]⟩).memory:=by
 have e1:(Rows.reduceKnowsUptoRow.laid.filter fun x=>(Rows.reduceKnowsUptoRow.laid.map (·.1)).contains x.1)=Rows.reduceKnowsUptoRow.laid:=List.filter_eq_self.2 fun x hx=>List.contains_iff_mem.2 (List.mem_map.2 ⟨x,hx,rfl⟩)
 have e2:(Rows.reduceKnowsUptoRow.laid.filter fun x=>!(Rows.reduceKnowsUptoRow.laid.map (·.1)).contains x.1)=[]:=List.filter_eq_nil_iff.2 fun x hx=>by rw[List.contains_iff_mem.2 (List.mem_map.2 ⟨x,hx,rfl⟩)];simp
 have h:laidMet Tryz.prog Rows.reduceKnowsUptoRow.laid (pC os):=laidMet_layVars (w0:=World.holding Tryz.prog os ⟨#[],#[],[]⟩) (Rows.reduceKnowsUptoRow.laid.map (·.1)) [] (by rw[e1];rfl) (by rw[e1];kernel_rfl) (by rw[e1];kernel_rfl) (by rw[e2];exact LaidIn.none)
 have h2:laidMet Tryz.prog Rows.reduceKnowsUptoRow.laid ((pC os).forCall (fun _ _=>0) ⟨#[],#[.slice none 0 0],[]⟩).memory:=h.of_heap (by simp[World.memory,World.forCall,Input.heap])
 exact h2
theorem reads (os:Os) {H:Type} (enc:TypeId×Value→H):∃places,DataW.whole enc Tryz.prog ((pC os).forCall (fun _ _=>0) ⟨#[],#[.slice none 0 0],[]⟩).memory Tryz.f3.params.toList Rows.reduceKnowsSpec.vars false #[Value.slice none 0 0].toList 8=some ([.nil],[],places):=
 ⟨[],by kernel_rfl⟩
set_option maxRecDepth 100000 in
theorem lifted (os:Os) (started:os.Started) (H:Type) (enc:TypeId×Value→H) (F:Stop.Interp):
  ReturnsInHanded {} Tryz.checked os 3 .any ((Rows.OpenSpec.upto Rows.reduceKnowsSpec).preRow enc Tryz.prog Tryz.f3 Rows.reduceKnowsUptoRow.domain false Rows.reduceKnowsUptoRow.laid) (((Rows.OpenSpec.upto Rows.reduceKnowsSpec).at F).post enc Tryz.prog Tryz.f3 false true false false):=by
 obtain⟨places,hx⟩:=reads os enc
 refine returnsInHanded_of_row (C:=Tryz.checked) (s:=Rows.OpenSpec.upto Rows.reduceKnowsSpec) own started (by kernel_rfl) Tryz.func3
  (witness_row_atRef (enc:=enc) (C:=Tryz.checked) false (pC os) #[.slice none 0 0] (World.layVars_os _ _ _) (by kernel_rfl) (by kernel_rfl) (by kernel_rfl)
   (OpenSpec.preRow_of_cond 8 hx (by kernel_rfl) (fun k hk=>by cases hk;kernel_rfl) (by kernel_rfl) (WV os))) ?_
 intro W base args ds gs before uy hW _ hc _ hL _ _
 exact WU H enc W base args ds gs before uy hW hL (hc _ rfl)
theorem said:Rows.ReduceKnowsUptoSaid:=
 OpenClaim.holds_of_cond 3 Tryz.f3 rfl rfl rfl rfl rfl rfl rfl ⟨rfl,rfl,rfl,rfl,rfl⟩ rfl rfl rfl rfl rfl (by kernel_rfl) Tryz.func3 (by kernel_rfl)
  (of_decide_eq_true (by kernel_rfl)) (by unfold Func.isWrapper;first|(rw[if_pos (by decide+kernel)];kernel_rfl)|(rw[if_neg (by decide+kernel)];exact⟨rfl,rfl⟩))
  (fun os started H enc _ F=>by rw[OpenClaim.pre_eq_preRow];exact lifted os started H enc F)
theorem plain (f:FuncId) (fn:Func) (hf:Tryz.pinned.checked.prog.funcNamed "provekernel/provekernellaw.ReduceKnows"=some f) (hfn:Tryz.pinned.checked.prog.funcs[f]?=some fn):
  true=Tryz.pinned.checked.prog.looks []∧∀(j:Nat) t,fn.params[j]?=some t→Tryz.pinned.checked.prog.wantsStandIn t=false:=by
 obtain rfl:f=3:=Option.some.inj ((show Tryz.prog.funcNamed "provekernel/provekernellaw.ReduceKnows"=some 3 by kernel_rfl).symm.trans hf) |>.symm
 obtain rfl:fn=Tryz.f3:=(Option.some.inj (Tryz.func3.symm.trans hfn)).symm
 refine⟨by kernel_rfl,fun j t ht=>?_⟩
 rw[Tryz.params3]at ht
 obtain rfl:t=22:=by simpa using Array.mem_of_getElem? ht
 exact(show Tryz.prog.wantsStandIn 22=false by kernel_rfl)
theorem card:Rows.ReduceKnowsUptoCardSaid:=
 Claim7.holds_tied_plain_at .later [] _ _ _ _ said (fun _ h=>by cases h) (by kernel_rfl) (fun _ h=>by cases h) reduceKnowsUpto_row_tie rfl ⟨rfl,rfl⟩ (by kernel_rfl) rfl plain (by kernel_rfl)
#print axioms card
end Go.Proofs.YtcjofhikcokhfaaGreatDoor.aec
