/- Tch -/
import Derived.Test.YtfgkgmmnldocaaaGreatDoorZTc6
import Derived.Test.YtfgkgmmnldocaaaGreatDoorZTcL
import Derived.Test.YtfgkgmmnldocaaaGreatDoorZCna
set_option linter.unusedSectionVars false
set_option linter.unusedSimpArgs false
set_option linter.unusedVariables false
set_option maxHeartbeats 4000000
namespace Go.Proofs.YtfgkgmmnldocaaaGreatDoor
open Go Go.AL
variable[Go.AL.Mode][Go.AL.bR]
def fL:List Int→Int
 |[]=>0
 |a::r=>a+fL r
theorem rD:∀(a b:List Int),fL (a++b)=fL a+fL b
 |[],b=>by simp[fL]
 |x::a,b=>by rw[aS,fL,fL,rD a b];omega
def Nn(l:List Int):Prop:=∀a∈l,0≤a∧a≤1099511627776
theorem nM:∀{l:List Int},Nn l→0≤fL l
 |[],_=>cM _
 |a::r,h=>by
  have h1:=h a (by simp);have h2:=nM (l:=r) fun x hx=>h x (by simp[hx]);rw[fL];omega
theorem zQ:∀{l:List Int} {acc:Int},Nn l→0≤acc→acc≤1099511627776→n4 acc l=if acc+fL l≤1099511627776 then(acc+fL l,0)else(0,11)
 |[],acc,_,h0,h1=>by rw[n4,fL,aK (by omega),Int.add_zero]
 |a::r,acc,h,h0,h1=>by
  have ha:=h a (by simp);have hr:Nn r:=fun x hx=>h x (by simp[hx]);have hs:=nM hr;rw[n4,fL];have f1:qk a=true:=by unfold qk;exact oe (by omega)
  by_cases hf:acc+a≤1099511627776
  ·have f2:qk (acc+a)=true:=by unfold qk;exact oe (by omega)
   rw[f1,f2,aK (by rfl),zQ hr (by omega) hf,show acc+a+fL r=acc+(a+fL r) by omega]
  ·have f2:qk (acc+a)=false:=by unfold qk;exact gL (by omega)
   rw[f1,f2,aC (by simp),aC (by omega)]
theorem M7{a:Int}{h:Int}(ha:0≤a)(hh:0≤h):0≤(2*(a*h)+10000)/20000:=by
 have:=Int.mul_nonneg ha hh;omega
theorem EW{a h:Int}(ha:0≤a)(hh:0≤h):0≤(Ml.cG a h).1:=by
 have:=M7 ha hh;unfold Ml.cG;split
 ·exact cM _
 split
 ·exact cM _
 ·exact this
theorem zZ{a b h:Int}(ha:0≤a)(hab:a≤b)(hh:0≤h)(he:(Ml.cG b h).2=0):(Ml.cG a h).2=0∧(Ml.cG a h).1≤(Ml.cG b h).1:=by
 have h1:=M7 ha hh;have h2:a*h≤b*h:=Int.mul_le_mul_of_nonneg_right hab hh;unfold Ml.cG at*;by_cases hb:b< -1099511627776∨1099511627776<b
 ·rw[aK hb]at he;cases he
 rw[aC hb]at he⊢;by_cases nB:(2*(b*h)+10000)/20000< -1099511627776∨1099511627776<(2*(b*h)+10000)/20000
 ·rw[aK nB]at he;cases he
 rw[aC nB,aC (by omega),aC (by omega)];exact⟨rfl,by simp only;omega⟩
theorem PT{f:Int}{x:Tx}{n:Nat}(hf:0≤f)(hx:j7 x):0≤(zg f x n).2:=by
 unfold j7 at hx;unfold zg;split
 ·exact cM _
 split
 ·exact EW hf (by omega)
 ·exact Int.mul_nonneg (by omega) (by omega)
theorem PU{f g:Int}{x:Tx}{n:Nat}(hf:0≤f)(hg:f≤g)(hx:j7 x)(he:(zg g x n).1=0):(zg f x n).1=0∧(zg f x n).2≤(zg g x n).2:=by
 unfold j7 at hx;unfold zg at*;split
 ·exact⟨rfl,cM _⟩
 rename_i h0;rw[aC h0]at he;split
 ·rename_i h4;rw[aK h4]at he;exact zZ hf hg (by omega) he
 ·exact⟨rfl,cM _⟩
def IZ(l:List (bS×Int)):Int:=fL (l.map (·.2))
theorem wK(l:List (bS×Int))(c:bS×Int):IZ (l++[c])=IZ l+c.2:=by
 unfold IZ;rw[bF,rD];simp[fL]
theorem Ac{f:Int}{tm:Tx→Nat}(hf:0≤f):∀{l:List Tx} {acc:List (bS×Int)},(∀x∈l,j7 x)→Nn (acc.map (·.2))→Nn ((lu f tm acc l).2.map (·.2))
 |[],acc,_,h=>h
 |x::r,acc,hx,h=>by
  have h1:=PT (n:=tm x) hf (hx x (by simp));have h2:∀y∈r,j7 y:=fun y hy=>hx y (by simp[hy]);rw[lu];split
  ·exact fun a ha=>by simp at ha
  split
  ·exact fun a ha=>by simp at ha
  split
  ·refine Ac hf h2 fun a ha=>?_;rw[bF]at ha;rcases List.mem_append.1 ha with ha|ha
   ·exact h a ha
   ·rw[show a=(zg f x (tm x)).2 by simpa using ha];omega
  ·exact Ac hf h2 h
theorem qI{f g:Int}{tm:Tx→Nat}(hf:0≤f)(hg:f≤g):∀{l:List Tx} {acc Lc:List (bS×Int)},(∀x∈l,j7 x)→IZ acc≤IZ Lc→(lu g tm Lc l).1=0→(lu f tm acc l).1=0∧IZ (lu f tm acc l).2≤IZ (lu g tm Lc l).2
 |[],acc,Lc,_,h,_=>⟨rfl,h⟩
 |x::r,acc,Lc,hx,h,he=>by
  have h2:∀y∈r,j7 y:=fun y hy=>hx y (by simp[hy]);have n1:=PT (n:=tm x) hf (hx x (by simp));rw[lu]at he⊢;rw[lu];by_cases e1:(zg g x (tm x)).1≠0
  ·rw[aK e1]at he;exact(e1 he).elim
  rw[aC e1]at he⊢;obtain⟨m1,m2⟩:=PU hf hg (hx x (by simp)) (n:=tm x) (by omega);rw[aC (by omega)];by_cases e2:1099511627776<(zg g x (tm x)).2
  ·rw[aK e2]at he;cases he
  rw[aC e2]at he⊢;rw[aC (by omega)];by_cases e3:(zg g x (tm x)).2≠0
  ·rw[aK e3]at he⊢;by_cases e4:(zg f x (tm x)).2≠0
   ·rw[aK e4];exact qI hf hg h2 (by rw[wK,wK];simp only;omega) he
   ·rw[aC e4];exact qI hf hg h2 (by rw[wK];simp only;omega) he
  ·rw[aC e3]at he⊢;rw[aC (by omega)];exact qI hf hg h2 h he
def okF(tm:Tx→Nat)(tx:List Tx)(f:Int):Prop:=f≤1099511627776∧(lu f tm [] tx).1=0∧f+IZ (lu f tm [] tx).2≤1099511627776
instance(tm:Tx→Nat)(tx:List Tx)(f:Int):Decidable (okF tm tx f):=by unfold okF;infer_instance
def Jv(tm:Tx→Nat)(tx:List Tx)(f:Int):Int:=f+IZ (lu f tm [] tx).2
theorem Cd{tm:Tx→Nat}{tx:List Tx}(hx:∀x∈tx,j7 x){f g:Int}(hf:0≤f)(hg:f≤g)(h:okF tm tx g):okF tm tx f∧Jv tm tx f≤Jv tm tx g∧(f<g→Jv tm tx f<Jv tm tx g):=by
 obtain⟨h1,h2,h3⟩:=h;obtain⟨m1,m2⟩:=qI hf hg (acc:=[]) (Lc:=[]) hx (cM _) h2;unfold okF Jv;exact⟨⟨by omega,m1,by omega⟩,by omega,by omega⟩
theorem TL{a b:Int}(ha:0≤a∧a≤1099511627776)(hb:0≤b∧b≤1099511627776):Nn [a,b]:=by
 intro x hx;simp only[List.mem_cons,List.not_mem_nil,or_false]at hx;rcases hx with rfl|rfl
 ·exact ha
 ·exact hb
theorem Z2(tm:Tx→Nat)(tx:List Tx)(hx:∀x∈tx,j7 x){l:List Int}(h:Nn l):((Z3 tm tx l).1=0↔okF tm tx (fL l))∧(okF tm tx (fL l)→Z3 tm tx l=(0,fL l,(lu (fL l) tm [] tx).2,Jv tm tx (fL l))):=by
 have hs:=nM h;have hm:=zQ h (cM 0) (by omega);rw[km]at hm;unfold Z3 okF Jv;by_cases h1:fL l≤1099511627776
 ·rw[aK h1]at hm;simp only[hm];rw[aC (by omega)];have hn:=Ac (tm:=tm) hs (acc:=[]) hx (fun a ha=>by simp at ha);have mT:=nM hn;by_cases h2:(lu (fL l) tm [] tx).1=0
  ·rw[aC (by omega)];have pW:=zQ hn (cM 0) (by omega);rw[km]at pW;have l8:IZ (lu (fL l) tm [] tx).2=fL ((lu (fL l) tm [] tx).2.map (·.2)):=rfl;by_cases h3:fL ((lu (fL l) tm [] tx).2.map (·.2))≤1099511627776
   ·rw[aK h3]at pW;simp only[pW];rw[aC (by omega)];have WA:=zQ (TL ⟨hs,h1⟩ ⟨mT,h3⟩) (cM 0) (by omega);simp only[fL,km,Int.add_zero]at WA;by_cases h4:fL l+fL ((lu (fL l) tm [] tx).2.map (·.2))≤1099511627776
    ·rw[aK h4]at WA;simp only[WA];rw[aC (by omega)];exact⟨⟨fun _=>⟨h1,h2,by omega⟩,fun _=>rfl⟩,fun _=>by rw[l8]⟩
    ·rw[aC h4]at WA;simp only[WA];rw[aK (by omega)];exact⟨⟨fun k=>by simp at k,fun k=>by omega⟩,fun k=>by omega⟩
   ·rw[aC h3]at pW;simp only[pW];rw[aK (by omega)];exact⟨⟨fun k=>by simp at k,fun k=>by omega⟩,fun k=>by omega⟩
  ·rw[aK h2];exact⟨⟨fun k=>(h2 k).elim,fun k=>(h2 k.2.1).elim⟩,fun k=>(h2 k.2.1).elim⟩
 ·rw[aC h1]at hm;simp only[hm];rw[aK (by omega)];exact⟨⟨fun k=>by simp at k,fun k=>by omega⟩,fun k=>by omega⟩
end Go.Proofs.YtfgkgmmnldocaaaGreatDoor
namespace Go.Proofs.YtfgkgmmnldocaaaGreatDoor
open Go Go.AL
variable[Go.AL.Mode][Go.AL.bR]
theorem HM{l:List Int}(h:Nn l)(k:Nat):Nn (l.take k):=fun a ha=>h a (List.mem_of_mem_take ha)
theorem HN{l:List Int}(h:Nn l)(k:Nat):Nn (l.drop k):=fun a ha=>h a (List.mem_of_mem_drop ha)
theorem zu(l:List Int)(k:Nat):fL l=fL (l.take k)+fL (l.drop k):=by rw[←rD,List.take_append_drop]
theorem QV{l:List Int}{k:Nat}{a:Int}(h:l[k]?=some a):fL (l.take (k+1))=fL (l.take k)+a:=by
 rw[kN h,rD];simp[fL]
def rqV(l:List Pa)(tm:Tx→Nat)(tx:List Tx):V:=if okF tm tx (fL (l.map (·.am)))then .dI [.agg (qR l [] (fL (l.map (·.am)),(lu (fL (l.map (·.am))) tm [] tx).2,Jv tm tx (fL (l.map (·.am))))),.bool true]else .dI [.agg (qR [] [] (0,[],0)),.bool false]
theorem Tk(p:fO)(hp:p.1.length≤1000)(t:gk)(tx:List Tx)(hx:Jl tx)(CT:tx.length≤100000)(w:List gv)(hw:w.length≤1000)(ht:∀s∈ve w,rH s)(iz:bS)(l:List Pa)(hl:l.length≤100000)(ha:Nn (l.map (·.am)))(S:ae):
 ak Tryz.prog 120 [dV p,.agg (b9 t (tx.map fk)),.sl 8 (w.map cR),.str iz,.sl 4 (l.map c9)] S fun r S'=>r=rqV l (fun x=>uZ p x (ve w) iz) tx∧S'=S:=by
 refine ak.bp Tryz.func120 Qe fun hn=>?_;refine ak.fin Tryz.func120 Qe (U rfl) fun σ b_=>?_;have sg:=fun S=>Tm w (by omega) S;have of:=fun f S=>adf p hp tx hx CT (ve w) (by unfold ve;simp;omega) ht iz f S;simp only[dV,b9]at of⊢;unfold rqV;obtain⟨am,ham⟩:∃am,am=l.map (·.am):=⟨_,rfl⟩;obtain⟨tm,htm⟩:∃tm,tm=fun x=>uZ p x (ve w) iz:=⟨_,rfl⟩;rw[←ham]at ha⊢;rw[←htm]at of⊢;have C7:am.length=l.length:=by rw[ham];simp
 obtain⟨c5,jm⟩:∃c5,c5=V.bK [.sl 5 (p.1.map dG),.sl 3 (p.2.map cZ)]:=⟨_,rfl⟩;obtain⟨c6,hc6⟩:∃c6,c6=V.bK [.sl 9 (t.bE.map fK),.sl 15 (t.rules.map cx),.sl 3 (t.cS.map eP),.sl 7 (tx.map fk)]:=⟨_,rfl⟩;have aaX:∀o,¬okF tm tx (fL am)→∃r1 S1,mV (S++[⟨0,some (.arr 48 5 [[.aM,.aM,.aM,.int .i64 0,.int .i64 0]])⟩,o]) S1∧jd (S++[⟨0,some (.arr 48 5 [[.aM,.aM,.aM,.int .i64 0,.int .i64 0]])⟩,o]) S1 (.dI [.agg [.aM,.aM,.aM,.int .i64 0,.int .i64 0],.bool false]) r1∧S.length≤S1.length∧
  (r1=if okF tm tx (fL am)then .dI [.agg (qR l [] (fL am,(lu (fL am) tm [] tx).2,Jv tm tx (fL am))),.bool true]else .dI [.agg (qR [] [] (0,[],0)),.bool false])∧S1=S:=fun o h=>⟨_,S,hn.dO _,.jj (lA _ _) (.bX rfl),ah _,by rw[aC h],rfl⟩
 simp(disch:=first|omega|(simp only[ai];omega)) only[RO,aj,↓eA,eB,aq,seval];refine dm (ι:=Nat) (fun k=>[(2,.sl 8 (w.map cR)),(3,.str iz),(4,.sl 4 (l.map c9)),(5,c5),(6,c6),(10,.ptr S.length 0 0 0),(12,.ptr (S.length+1) 0 0 0),(13,.int .i64 (k:Nat))]) (fun k=>S++[⟨0,some (.arr 48 5 [[.aM,.aM,.aM,.int .i64 0,.int .i64 0]])⟩,⟨0,some (.arr 48 5 [[.sl 4 (l.map c9),.aM,.aM,.int .i64 (fL (am.take k)),.int .i64 0]])⟩])
  (fun k=>k≤l.length∧fL (am.take k)≤1099511627776) (fun k=>l.length-k) (fun k hk=>by rw[b_];simp) 0 ⟨az _,by simp[fL]⟩ (.inl ⟨?_,rfl⟩) ?_
 ·rw[jm,hc6];simp only[↓eA,eB,aq,seval];try rfl
 rintro k ⟨pX,hs⟩;have Kv:=nM (HM ha k);cases hc:l[k]? with
 |some x=>
  have cK:=(List.getElem?_eq_some_iff.1 hc).1;have aR:(k:Int)<l.length:=by omega
  have cN:(k:Int)+1=((k+1:Nat):Int):=by omega
  have Sx:am[k]?=some x.am:=by rw[ham,bn,hc];rfl
  have hax:=ha x.am (aB Sx);have xl:=QV Sx;have Lm:IntKind.i64.wrap (fL (am.take k)+x.am)=fL (am.take (k+1)):=by rw[xl];exact wrap_i64 (by omega) (by omega)
  have lY:¬1099511627776<x.am:=by omega
  by_cases hg:1099511627776<fL (am.take (k+1))
  ·have Fq:¬okF tm tx (fL am):=fun h=>by
    have h1:=h.1;rw[zu am (k+1)]at h1;have:=nM (HN ha (k+1));omega
   simp(disch:=first|omega|(simp only[ai];omega)) only[dT aR,hc,c9,Lm,dF lY,dT hg,aj,↓eA,eB,aq,seval];exact aaX _ Fq
  ·simp(disch:=first|omega|(simp only[ai];omega)) only[dT aR,hc,c9,Lm,dF lY,dF hg,wrap_i64,cN,aj,↓eA,eB,aq,seval];exact⟨k+1,⟨by omega,by omega⟩,by omega,.inl ⟨by simp only[↓eA,eB,aq,seval];try rfl,rfl⟩⟩
 |none=>
 obtain⟨eh,he⟩:=dE hc;have aR:¬((k:Int)<l.length):=by omega
 rw[bh (by omega)]at hs Kv⊢;have of1:=fun S=>of (fL am) S;have CY:=Ac (tm:=tm) Kv (l:=tx) (acc:=[]) (fun x h=>(hx x h).1) (fun a ha=>by simp at ha);have w6:=uz (fL am) tm [] tx;clear of;have eQ:okF tm tx (fL am)↔(lu (fL am) tm [] tx).1=0∧fL am+IZ (lu (fL am) tm [] tx).2≤1099511627776:=⟨fun h=>h.2,fun h=>⟨hs,h⟩⟩;have OE:Jv tm tx (fL am)=fL am+IZ (lu (fL am) tm [] tx).2:=rfl;obtain⟨q2,Ed⟩:∃q2,q2=lu (fL am) tm [] tx:=⟨_,rfl⟩;rw[←Ed]at eQ OE of1 CY w6;obtain⟨e2,kM⟩:=q2;simp only[bz]at w6 CY of1 eQ OE;rw[jm,hc6];simp(disch:=first|omega|(simp only[ai];omega)) only[dF aR,aj,↓eA,eB,aq,seval];refine qv.intro (sg _) ?_;simp(disch:=first|omega|(simp only[ai];omega)) only[aj,↓eA,eB,aq,seval];refine(of1 _).then ?_
 unfold ofV;by_cases z2:e2≠0
 ·simp(disch:=first|omega|(simp only[ai];omega)) only[dT z2,dF (show ¬e2=0 from z2),aj,↓eA,eB,aq,seval];exact aaX _ fun h=>z2 (eQ.1 h).1
 obtain rfl:e2=0:=by omega
 simp(disch:=first|omega|(simp only[ai];omega)) only[dF z2,aj,↓eA,eB,aq,seval];obtain⟨ch,Us⟩:∃ch,ch=kM.map (·.2):=⟨_,rfl⟩;have l8:IZ kM=fL ch:=by unfold IZ;rw[Us]
 rw[←Us]at CY;have kv:ch.length=kM.length:=by rw[Us];simp
 refine dm (ι:=Nat) (fun k=>[(10,.ptr S.length 0 0 0),(12,.ptr (S.length+1) 0 0 0),(14,.sl 2 (kM.map ot)),(16,.int .i64 (k:Nat))]) (fun k=>S++[⟨0,some (.arr 48 5 [[.aM,.aM,.aM,.int .i64 0,.int .i64 0]])⟩,⟨0,some (.arr 48 5 [[.sl 4 (l.map c9),.aM,.sl 2 (kM.map ot),.int .i64 (fL am),.int .i64 (fL am+fL (ch.take k))]])⟩])
  (fun k=>k≤kM.length∧fL am+fL (ch.take k)≤1099511627776) (fun k=>kM.length-k) (fun k hk=>by rw[b_];simp) 0 ⟨az _,by simp[fL];omega⟩ (.inl ⟨?_,?_⟩) ?_
 ·simp only[↓eA,eB,aq,seval];try rfl
 ·simp[fL]
 clear aR he eh hc pX k;rintro k ⟨pX,hs3⟩;have tu:=nM (HM CY k);cases hc:kM[k]? with
 |some x=>
  have cK:=(List.getElem?_eq_some_iff.1 hc).1;have aR:(k:Int)<kM.length:=by omega
  have cN:(k:Int)+1=((k+1:Nat):Int):=by omega
  have Sx:ch[k]?=some x.2:=by rw[Us,bn,hc];rfl
  have hax:=CY x.2 (aB Sx);have xl:=QV Sx;have Lm:IntKind.i64.wrap (fL am+fL (ch.take k)+x.2)=fL am+fL (ch.take (k+1)):=by rw[xl,←Int.add_assoc];exact wrap_i64 (by omega) (by omega)
  have lY:¬1099511627776<x.2:=by omega
  by_cases hg:1099511627776<fL am+fL (ch.take (k+1))
  ·have Fq:¬okF tm tx (fL am):=fun h=>by
    have h1:=(eQ.1 h).2;rw[l8,zu ch (k+1)]at h1;have:=nM (HN CY (k+1));omega
   simp(disch:=first|omega|(simp only[ai];omega)) only[dT aR,hc,ot,Lm,dF lY,dT hg,aj,↓eA,eB,aq,seval];exact aaX _ Fq
  ·simp(disch:=first|omega|(simp only[ai];omega)) only[dT aR,hc,ot,Lm,dF lY,dF hg,wrap_i64,cN,aj,↓eA,eB,aq,seval];exact⟨k+1,⟨by omega,by omega⟩,by omega,.inl ⟨by simp only[↓eA,eB,aq,seval];try rfl,rfl⟩⟩
 |none=>
 obtain⟨eh,he⟩:=dE hc;have aR:¬((k:Int)<kM.length):=by omega
 rw[bh (by omega)]at hs3⊢;simp(disch:=first|omega|(simp only[ai];omega)) only[dF aR,aj,↓eA,eB,aq,seval];refine⟨_,S,hn.dO _,.jj (jf (show lW _ _ _ (qR l [] (fL am,kM,fL am+fL ch))from⟨.bX rfl,.nil,.bX rfl,.bX rfl,.bX rfl,trivial⟩)) (.bX rfl),ah _,?_,rfl⟩;rw[aK (eQ.2 ⟨rfl,by omega⟩),OE,l8,←Ed]
end Go.Proofs.YtfgkgmmnldocaaaGreatDoor
namespace Go.Proofs.YtfgkgmmnldocaaaGreatDoor
open Go Go.AL
variable[Go.AL.Mode][Go.AL.bR]
theorem QL(l l':List Pa)(hl:l.length≤100000)(ps Sl:List (Nat×Nat))(q q':Int×List (bS×Int)×Int)(S:ae):
 ak Tryz.prog 117 [.agg (qR l ps q),.agg (qR l' Sl q')] S fun r S'=>(∃b,r= .bool b∧(b=true→q.2.2≤q'.2.2)∧(b=false→q'.2.2≤q.2.2))∧S'=S:=by
 refine ak.bp Tryz.func117 Qf fun hn=>?_;refine ak.fin Tryz.func117 Qf (U rfl) fun σ b_=>?_;obtain⟨q1,q2,q3⟩:=q;obtain⟨r1,r2,r3⟩:=q';simp only[qR];by_cases h1:q3=r3
 rotate_left
 ·simp(disch:=first|omega|(simp only[ai];omega)) only[AZ,dF h1,dT (show q3≠r3 from h1),aj,↓eA,eB,aq,seval];exact⟨_,S,hn.self,.bX rfl,ah _,⟨_,rfl,by simp only[aL,rN];omega,by simp only[aL,rN];omega⟩,rfl⟩
 have fin:∀(S1:ae) (b:Bool),(∃T,S1=S++T)→∃x1 S2,mV S1 S2∧jd S1 S2 (.bool b) x1∧S.length≤S2.length∧(∃b,x1= .bool b∧(b=true→q3≤r3)∧(b=false→r3≤q3))∧S2=S:=fun S1 b hT=>by
  obtain⟨T,rfl⟩:=hT;exact⟨_,S,hn.dO _,.bX rfl,ah _,⟨b,rfl,by omega,by omega⟩,rfl⟩
 by_cases h2:(l.length:Int)=l'.length
 rotate_left
 ·simp(disch:=first|omega|(simp only[ai];omega)) only[AZ,dT h1,dF (show ¬q3≠r3 by omega),dF h2,dT (show(l.length:Int)≠l'.length from h2),aj,↓eA,eB,aq,seval];exact fin _ _ ⟨[],by simp⟩
 simp(disch:=first|omega|(simp only[ai];omega)) only[AZ,dT h1,dF (show ¬q3≠r3 by omega),dT h2,dF (show ¬(l.length:Int)≠l'.length by omega),aj,↓eA,eB,aq,seval];obtain⟨c3,nX⟩:∃c3,c3=V.bK [.sl 4 (l'.map c9),.sl 2 (Sl.map mS),.sl 2 (r2.map ot),.int .i64 r1,.int .i64 r3]:=⟨_,rfl⟩;refine dm (ι:=Nat×ae) (fun i=>[(3,c3),(35,.sl 4 (l.map c9)),(36,.int .i64 l.length),(37,.int .i64 (i.1:Nat))]) (fun i=>i.2) (fun i=>i.1≤l.length∧∃T,i.2=S++T) (fun i=>l.length-i.1)
  (fun i hi=>by rw[b_];obtain⟨T,hT⟩:=hi.2;rw[hT];simp) (0,S) ⟨az _,[],by simp⟩ (.inl ⟨?_,rfl⟩) ?_
 ·rw[nX];simp only[↓eA,eB,aq,seval];try rfl
 rintro⟨k,S1⟩ ⟨pX,hT⟩;simp only at pX hT⊢;rw[nX];cases hc:l[k]? with
 |none=>
  obtain⟨eh,he⟩:=dE hc;have aR:¬((k:Int)<l.length):=by omega
  simp(disch:=first|omega|(simp only[ai];omega)) only[dF aR,aj,↓eA,eB,aq,seval];exact fin _ _ hT
 |some x=>
  have cK:=(List.getElem?_eq_some_iff.1 hc).1;have aR:(k:Int)<l.length:=by omega
  have cN:(k:Int)+1=((k+1:Nat):Int):=by omega
  obtain⟨y,hy⟩:∃y,l'[k]?=some y:=⟨_,ax (by omega)⟩;have jU:∀o1 o2,∃T2,S1++[o1,o2]=S++T2:=fun o1 o2=>by obtain⟨T,rfl⟩:=hT;exact⟨_,bG ..⟩
  by_cases h3:x.to=y.to
  ·by_cases h4:x.dz=y.dz
   ·simp(disch:=first|omega|(simp only[ai];omega)) only[dT aR,hc,hy,c9,dT h3,dF (show ¬x.to≠y.to by omega),dT h4,dF (show ¬x.dz≠y.dz by omega),wrap_i64,cN,aj,↓eA,eB,aq,seval];exact⟨(k+1,_),⟨by simp only;omega,jU _ _⟩,by simp only;omega,.inl ⟨by simp only[nX,↓eA,eB,aq,seval];try rfl,rfl⟩⟩
   ·simp(disch:=first|omega|(simp only[ai];omega)) only[dT aR,hc,hy,c9,dT h3,dF (show ¬x.to≠y.to by omega),dF h4,dT (show x.dz≠y.dz from h4),aj,↓eA,eB,aq,seval];exact fin _ _ (jU _ _)
  ·simp(disch:=first|omega|(simp only[ai];omega)) only[dT aR,hc,hy,c9,dF h3,dT (show x.to≠y.to from h3),aj,↓eA,eB,aq,seval];exact fin _ _ (jU _ _)
theorem J2(l l':List Pa)(hl:l.length≤100000)(ps Sl:List (Nat×Nat))(q q':Int×List (bS×Int)×Int)(S:ae):
 ak Tryz.prog 122 [.agg (qR l ps q),.agg (qR l' Sl q')] S fun r S'=>(∃b,r= .bool b)∧S'=S:=by
 refine ak.bp Tryz.func122 Qc fun hn=>?_;refine ak.fin Tryz.func122 Qc (U rfl) fun σ b_=>?_;obtain⟨q1,q2,q3⟩:=q;obtain⟨r1,r2,r3⟩:=q';simp only[qR];have fin:∀(S1:ae) (b:Bool),(∃T,S1=S++T)→∃x1 S2,mV S1 S2∧jd S1 S2 (.bool b) x1∧S.length≤S2.length∧(∃b,x1= .bool b)∧S2=S:=fun S1 b hT=>by
  obtain⟨T,rfl⟩:=hT;exact⟨_,S,hn.dO _,.bX rfl,ah _,⟨b,rfl⟩,rfl⟩
 by_cases h1:q3=r3
 rotate_left
 ·simp(disch:=first|omega|(simp only[ai];omega)) only[AY,dF h1,dT (show q3≠r3 from h1),aj,↓eA,eB,aq,seval];exact fin _ _ ⟨[],by simp⟩
 by_cases h2:(l.length:Int)=l'.length
 rotate_left
 ·simp(disch:=first|omega|(simp only[ai];omega)) only[AY,dT h1,dF (show ¬q3≠r3 by omega),dF h2,dT (show(l.length:Int)≠l'.length from h2),aj,↓eA,eB,aq,seval];exact fin _ _ ⟨[],by simp⟩
 simp(disch:=first|omega|(simp only[ai];omega)) only[AY,dT h1,dF (show ¬q3≠r3 by omega),dT h2,dF (show ¬(l.length:Int)≠l'.length by omega),aj,↓eA,eB,aq,seval];obtain⟨c3,nX⟩:∃c3,c3=V.bK [.sl 4 (l'.map c9),.sl 2 (Sl.map mS),.sl 2 (r2.map ot),.int .i64 r1,.int .i64 r3]:=⟨_,rfl⟩;obtain⟨c2,jn⟩:∃c2,c2=V.bK [.sl 4 (l.map c9),.sl 2 (ps.map mS),.sl 2 (q2.map ot),.int .i64 q1,.int .i64 q3]:=⟨_,rfl⟩;refine dm (ι:=Nat×ae) (fun i=>[(2,c2),(3,c3),(5,.int .i64 (i.1:Nat))]) (fun i=>i.2) (fun i=>i.1≤l.length∧∃T,i.2=S++T) (fun i=>l.length-i.1)
  (fun i hi=>by rw[b_];obtain⟨T,hT⟩:=hi.2;rw[hT];simp) (0,S) ⟨az _,[],by simp⟩ (.inl ⟨?_,rfl⟩) ?_
 ·rw[jn,nX];simp only[↓eA,eB,aq,seval];try rfl
 rintro⟨k,S1⟩ ⟨pX,hT⟩;simp only at pX hT⊢;rw[jn,nX];cases hc:l[k]? with
 |none=>
  obtain⟨eh,he⟩:=dE hc;have aR:¬((k:Int)<l.length):=by omega
  simp(disch:=first|omega|(simp only[ai];omega)) only[dF aR,aj,↓eA,eB,aq,seval];exact fin _ _ hT
 |some x=>
  have cK:=(List.getElem?_eq_some_iff.1 hc).1;have aR:(k:Int)<l.length:=by omega
  have cN:(k:Int)+1=((k+1:Nat):Int):=by omega
  obtain⟨y,hy⟩:∃y,l'[k]?=some y:=⟨_,ax (by omega)⟩;have jU:∀o1 o2,∃T2,S1++[o1,o2]=S++T2:=fun o1 o2=>by obtain⟨T,rfl⟩:=hT;exact⟨_,bG ..⟩
  by_cases h3:x.to=y.to
  ·by_cases h4:x.dz=y.dz
   ·simp(disch:=first|omega|(simp only[ai];omega)) only[dT aR,hc,hy,c9,dT h3,dF (show ¬x.to≠y.to by omega),dT h4,dF (show ¬x.dz≠y.dz by omega),wrap_i64,cN,aj,↓eA,eB,aq,seval];refine⟨?_,?_⟩<;>exact⟨(k+1,_),⟨by simp only;omega,jU _ _⟩,by simp only;omega,.inl ⟨by simp only[jn,nX,↓eA,eB,aq,seval];try rfl,rfl⟩⟩
   ·simp(disch:=first|omega|(simp only[ai];omega)) only[dT aR,hc,hy,c9,dT h3,dF (show ¬x.to≠y.to by omega),dF h4,dT (show x.dz≠y.dz from h4),aj,↓eA,eB,aq,seval];refine⟨?_,?_⟩<;>exact fin _ _ (jU _ _)
  ·simp(disch:=first|omega|(simp only[ai];omega)) only[dT aR,hc,hy,c9,dF h3,dT (show x.to≠y.to from h3),aj,↓eA,eB,aq,seval];refine⟨?_,?_⟩<;>exact fin _ _ (jU _ _)
end Go.Proofs.YtfgkgmmnldocaaaGreatDoor
namespace Go.Proofs.YtfgkgmmnldocaaaGreatDoor
open Go Go.AL
variable[Go.AL.Mode][Go.AL.bR]
structure JrF(j:Jr):Prop where
 ok:agz j
 zns:mH j.p
 cb:Lh j.t
def Bs(j:Jr):Tx→Nat:=fun x=>uZ j.p x (ve j.w) j.iz
def Bc(j:Jr)(l:List Pa):Bool:=decide (wI j.p j.t j.w l=0)&&decide (okF (Bs j) j.tx (fL (l.map (·.am))))
def kF(j:Jr)(sm fd:Bool)(AN:List V):List V:=jk j++ .bool sm:: .bool fd::AN
def D8(fd:Bool)(AN:List V):Prop:=(fd=false∧AN=[.aM,.aM,.aM,.int .i64 0,.int .i64 0])∨∃l ps q,l.length≤100000∧AN=qR l ps q
theorem wH{p:fO}{t:gk}{w:List gv}{l:List Pa}(h:wI p t w l=0):pQ l w.length=true∧pT t l=true∧∃ps,B8 t l=some ps∧yl t l=0∧Ba p t w l ps=0:=by
 unfold wI at h;cases h1:pQ l w.length with
 |false=>rw[h1,aK rfl]at h;cases h
 |true=>
  cases h2:pT t l with
  |false=>rw[h1,h2,aC (by simp),aK rfl]at h;cases h
  |true=>
   rw[h1,h2,aC (by simp),aC (by simp)]at h;cases h3:B8 t l with
   |none=>rw[h3]at h;cases h
   |some ps=>
    rw[h3]at h;simp only at h;by_cases h4:yl t l=0
    ·rw[aC (by omega)]at h;exact⟨rfl,rfl,ps,rfl,h4,h⟩
    ·rw[aK h4]at h;exact(h4 h).elim
theorem aa_(j:Jr)(hj:JrF j)(l:List Pa)(hl:l.length≤100000)(ha:Nn (l.map (·.am))){ty:TypeId}{b:Nat}{sm fd:Bool}{AN:List V}(hb:D8 fd AN)(S:ae)(ho:S.bq b 0=some (ty,16,[kF j sm fd AN])):
 ak Tryz.prog 73 [.ptr b 0 0 0,.sl 4 (l.map c9)] S fun r S'=>(∃F5,S'.bq b 0=some (ty,16,[kF j true (fd||Bc j l) F5])∧D8 (fd||Bc j l) F5)∧f_ (fun i=>i=b) S S':=by
 refine ak.bW Tryz.func73 abJ (U rfl) fun σ b_=>?_;obtain⟨⟨h1,h2,h3,h4,h5,h6,h7⟩,hz,FC⟩:=hj;have cb:=fun S=>To j.p h1 hz j.t (j.tx.map fk) h2 h3 FC j.w l hl S;have rs:=fun S=>Tk j.p h1 j.t j.tx h5 h6 j.w h4 h7 j.iz l hl ha S;have rp:=fun S=>vj j.t (j.tx.map fk) h2 l hl S;have Uu:∃b1 b2 b3 b4 b5,AN=[b1,b2,b3,b4,b5]:=by
  rcases hb with⟨_,rfl⟩|⟨l2,ps2,q2,_,rfl⟩<;>exact⟨_,_,_,_,_,rfl⟩
 obtain⟨b1,b2,b3,b4,b5,rfl⟩:=Uu;have aR:=gW ho;have q7:=mA S b ⟨0,some (.arr ty 16 [kF j true fd [b1,b2,b3,b4,b5]])⟩;have qX:ae.bq (S.set b ⟨0,some (.arr ty 16 [kF j true fd [b1,b2,b3,b4,b5]])⟩) b 0=some (ty,16,[kF j true fd [b1,b2,b3,b4,b5]]):=ed ho;obtain⟨S1,Lt⟩:∃S1,S1=(S.set b ⟨0,some (.arr ty 16 [kF j true fd [b1,b2,b3,b4,b5]])⟩:ae):=⟨_,rfl⟩;rw[←Lt]at q7 qX;unfold Bc;rw[show(fun x=>uZ j.p x (ve j.w) j.iz)=Bs j from rfl]at rs;unfold rqV at rs;unfold Lj at rp;simp only[dV,b9,kF,jk,aS,a8]at cb rs rp ho qX Lt⊢;by_cases uH:wI j.p j.t j.w l=0
 ·obtain⟨k1,k2,ps,k3,k4,k5⟩:=wH uH;rw[k2,aC (by simp),k3]at rp;simp only at rp;simp(disch:=first|omega|(simp only[ai];omega)) only[Ga,ho,←Lt,qX,a_,bz,aj,↓eA,eB,aq,seval];refine(cb _).then ?_
  rw[uH];by_cases eQ:okF (Bs j) j.tx (fL (l.map (·.am)))
  ·rw[aK eQ]at rs;rw[dT eQ];obtain⟨Q,hQ⟩:∃Q,Q=(fL (l.map (·.am)),(lu (fL (l.map (·.am))) (Bs j) [] j.tx).2,Jv (Bs j) j.tx (fL (l.map (·.am)))):=⟨_,rfl⟩;rw[←hQ]at rs;obtain⟨q1,q2,q3⟩:=Q;clear hQ;have nB:D8 true (qR l ps (q1,q2,q3)):=.inr ⟨l,ps,_,hl,rfl⟩;have hq:∀X,ae.bq (S1++[⟨0,some (.arr 48 5 [X])⟩]) S1.length 0=some (48,5,[X]):=fun X=>dP.trans cE;have xq:=fun X=>fc (X:=[⟨0,some (.arr 48 5 [X])⟩]) qX;have qh:=fun X=>q7.trans (f_.add (fun i=>i=b) S1 [⟨0,some (.arr 48 5 [X])⟩]);have bt:=fun l' (xu:l'.length≤100000) Sl Q' S=>J2 l l' hl ps Sl (q1,q2,q3) Q' S;simp only[qR]at rs nB bt;simp(disch:=first|omega|(simp only[ai];omega)) only[qX,aj,↓eA,eB,aq,seval];refine⟨?_,?_⟩;all_goals
    refine(rs _).then ?_
    simp(disch:=first|omega|(simp only[ai];omega)) only[xq,aj,↓eA,eB,aq,seval];refine(rp _).then ?_
    have nV:=xq [.sl 4 (l.map c9),.sl 2 (ps.map mS),.sl 2 (q2.map ot),.int .i64 q1,.int .i64 q3];have mU:=qh [.sl 4 (l.map c9),.sl 2 (ps.map mS),.sl 2 (q2.map ot),.int .i64 q1,.int .i64 q3];have hq3:=hq [.sl 4 (l.map c9),.sl 2 (ps.map mS),.sl 2 (q2.map ot),.int .i64 q1,.int .i64 q3];have uc:S1.length≠b:=by have:=gW qX;omega
    obtain⟨S3,Pc⟩:∃S3,S3=(S1++[⟨0,some (.arr 48 5 [[.sl 4 (l.map c9),.sl 2 (ps.map mS),.sl 2 (q2.map ot),.int .i64 q1,.int .i64 q3]])⟩]:ae):=⟨_,rfl⟩;rw[←Pc]at nV mU hq3;obtain⟨S4,Av⟩:∃S4:ae,S4=S3.set b ⟨0,some (.arr ty 16 [kF j true true [b1,b2,b3,b4,b5]])⟩:=⟨_,rfl⟩;have ua:ae.bq S4 b 0=some (ty,16,[kF j true true [b1,b2,b3,b4,b5]]):=by rw[Av];exact ed nV
    have hq4:ae.bq S4 S1.length 0=some (48,5,[[.sl 4 (l.map c9),.sl 2 (ps.map mS),.sl 2 (q2.map ot),.int .i64 q1,.int .i64 q3]]):=by rw[Av,eX uc];exact hq3
    have It:f_ (fun i=>i=b) S (S4.set b ⟨0,some (.arr ty 16 [kF j true true [.sl 4 (l.map c9),.sl 2 (ps.map mS),.sl 2 (q2.map ot),.int .i64 q1,.int .i64 q3]])⟩):=by rw[Av];exact(mU.set (fun _=>rfl) _).set (fun _=>rfl) _
    have KA:ae.bq (S4.set b ⟨0,some (.arr ty 16 [kF j true true [.sl 4 (l.map c9),.sl 2 (ps.map mS),.sl 2 (q2.map ot),.int .i64 q1,.int .i64 q3]])⟩) b 0=some (ty,16,[kF j true true [.sl 4 (l.map c9),.sl 2 (ps.map mS),.sl 2 (q2.map ot),.int .i64 q1,.int .i64 q3]]):=ed ua;simp only[kF,jk,aS,a8]at Av ua It KA;cases fd with
    |false=>
     simp(disch:=first|omega|(simp only[ai];omega)) only[hq,←Pc,nV,hq3,←Av,ua,hq4,dC,mf,aj,↓eA,eB,aq,seval];exact⟨⟨_,KA,nB⟩,It⟩
    |true=>
     rcases hb with⟨k,_⟩|⟨l',Sl,Q',xu,hQ'⟩
     ·cases k
     obtain⟨r1,r2,r3⟩:=Q';have btq:=fun S=>bt l' xu Sl (r1,r2,r3) S;simp only[qR,fh,and_true]at hQ';obtain⟨rfl,rfl,rfl,rfl,rfl⟩:=hQ';simp(disch:=first|omega|(simp only[ai];omega)) only[hq,←Pc,nV,hq3,aj,↓eA,eB,aq,seval];refine(btq _).mono ?_;rintro _ S9 ⟨⟨bb,rfl⟩,rK⟩;rw[rK];clear rK S9;cases bb with
     |true=>
      simp(disch:=first|omega|(simp only[ai];omega)) only[nV,hq3,←Av,ua,hq4,dC,mf,aj,↓eA,eB,aq,seval];exact⟨⟨_,KA,nB⟩,It⟩
     |false=>
      simp(disch:=first|omega|(simp only[ai];omega)) only[dC,mf,aj,↓eA,eB,aq,seval];exact⟨⟨_,nV,.inr ⟨l',Sl,(r1,r2,r3),xu,rfl⟩⟩,mU⟩
  ·rw[aC eQ]at rs;have An:∀X,(∃F5,ae.bq (S1++X) b 0=some (ty,16,[kF j true (fd||decide (okF (Bs j) j.tx (fL (l.map (·.am))))) F5])∧D8 (fd||decide (okF (Bs j) j.tx (fL (l.map (·.am))))) F5)∧f_ (fun i=>i=b) S (S1++X):=fun X=>by
    rw[dF eQ,Bool.or_false];exact⟨⟨_,fc qX,hb⟩,q7.trans (f_.add _ _ _)⟩
   simp(disch:=first|omega|(simp only[ai];omega)) only[qX,aj,↓eA,eB,aq,seval];refine⟨?_,?_⟩;all_goals
    refine(rs _).then ?_
    simp(disch:=first|omega|(simp only[ai];omega)) only[qR,aj,↓eA,eB,aq,seval];exact An _
 ·have hz':¬wI j.p j.t j.w l=0:=uH;simp(disch:=first|omega|(simp only[ai];omega)) only[Ga,ho,←Lt,qX,a_,bz,aj,↓eA,eB,aq,seval];refine(cb _).then ?_
  simp(disch:=first|omega|(simp only[ai];omega)) only[dF uH,dT (show wI j.p j.t j.w l≠0 from uH),aO,Bool.or_false,aj,↓eA,eB,aq,seval];exact⟨⟨_,qX,hb⟩,q7⟩
end Go.Proofs.YtfgkgmmnldocaaaGreatDoor
namespace Go.Proofs.YtfgkgmmnldocaaaGreatDoor
open Go Go.AL
variable[Go.AL.Mode][Go.AL.bR]
def pL(j:Jr)(i k:Nat):List Pa:=(fF j.p j.t ((j.w.drop i).take (k-i)) j.iz j.cj j.t.bE.length).map fun y=>⟨(i:Nat),(k:Nat),y.dz,y.am⟩
inductive rM (j:Jr):Nat→List Pa→Prop
 |nil:rM j j.w.length []
 |cons {i k:Nat} {x:Pa} {e:List Pa}:i<k→k≤j.w.length→x∈pL j i k→rM j k e→rM j i (x::e)
theorem rM.inv{j:Jr}{i:Nat}{e:List Pa}(h:rM j i e):(i=j.w.length∧e=[])∨∃k x e',i<k∧k≤j.w.length∧x∈pL j i k∧rM j k e'∧e=x::e':=by
 cases h with
 |nil=>exact .inl ⟨rfl,rfl⟩
 |cons h1 h2 h3 h4=>exact .inr ⟨_,_,_,h1,h2,h3,h4,rfl⟩
structure Vn(j:Jr):Prop where
 f:JrF j
 p:D7 j.p
 t:Jm j.t
 w:Se j.w
 n:j.w.length≤8
 am:∀i k x,x∈pL j i k→0≤x.am∧x.am≤1099511627776
theorem zG{w:List gv}(h:Se w)(i k:Nat):Se ((w.drop i).take k):=fun x hx=>h x (List.mem_of_mem_drop (List.mem_of_mem_take hx))
structure Le(j:Jr)(ty:TypeId)(b:Nat)(S S':ae)(sm fd:Bool):Prop where
 o:∃AN,S'.bq b 0=some (ty,16,[kF j sm fd AN])∧D8 fd AN
 f:f_ (fun i=>i=b) S S'
theorem Le.pF{j:Jr}{ty:TypeId}{b:Nat}{S S1 S2:ae}{sm fd:Bool}(h:Le j ty b S S1 sm fd){D:Nat→Prop}(hf:f_ D S1 S2)(hd:∀i,D i→S.length≤i∧i≠b):Le j ty b S S2 sm fd:=by
 obtain⟨⟨AN,h1,h2⟩,h3⟩:=h;refine⟨⟨AN,hf.obj h1 fun k=>(hd _ k).2 rfl,h2⟩,dU h3.1 hf.1,fun i hi hn=>?_⟩;rw[hf.2 i (mb hi h3.1) fun k=>by have:=(hd _ k).1;omega];exact h3.2 i hi hn
theorem Le.next{j:Jr}{ty:TypeId}{b:Nat}{S S1 S2:ae}{sm fd sm' fd':Bool}(h:Le j ty b S S1 sm fd)(k:Le j ty b S1 S2 sm' fd'):Le j ty b S S2 sm' fd':=⟨k.o,h.f.trans k.f⟩
def ny(j:Jr)(i:Nat):Prop:=∃e,rM j i e
def A7(j:Jr)(i:Nat)(l:List Pa):Prop:=∃e,rM j i e∧Bc j (l++e)=true
theorem Mf(j:Jr):ny j j.w.length:=⟨[],.nil⟩
theorem AG{j:Jr}{e:List Pa}(h:rM j j.w.length e):e=[]:=by
 rcases h.inv with⟨_,rfl⟩|⟨k,x,e',h1,h2,_⟩
 ·rfl
 ·omega
theorem UF(j:Jr)(l:List Pa):A7 j j.w.length l↔Bc j l=true:=by
 constructor
 ·rintro⟨e,h1,h2⟩;rw[AG h1,cw]at h2;exact h2
 ·exact fun h=>⟨[],.nil,by rw[cw];exact h⟩
def Jn(j:Jr)(i k:Nat):Prop:=∃k' x,(i<k'∧k'<k∧k'≤j.w.length)∧x∈pL j i k'∧ny j k'
def Vo(j:Jr)(i:Nat)(l:List Pa)(k:Nat):Prop:=∃k' x,(i<k'∧k'<k∧k'≤j.w.length)∧x∈pL j i k'∧A7 j k' (l++[x])
theorem Mg{j:Jr}{i:Nat}(hi:i<j.w.length):ny j i↔Jn j i (j.w.length+1):=by
 constructor
 ·rintro⟨e,h⟩;rcases h.inv with⟨h,_⟩|⟨k,x,e',h1,h2,h3,h4,_⟩
  ·omega
  ·exact⟨k,x,⟨h1,by omega,h2⟩,h3,e',h4⟩
 ·rintro⟨k,x,⟨h1,_,h2⟩,h3,e',h4⟩;exact⟨_,.cons h1 h2 h3 h4⟩
theorem UG{j:Jr}{i:Nat}{l:List Pa}(hi:i<j.w.length):A7 j i l↔Vo j i l (j.w.length+1):=by
 constructor
 ·rintro⟨e,h,hp⟩;rcases h.inv with⟨h,_⟩|⟨k,x,e',h1,h2,h3,h4,rfl⟩
  ·omega
  ·exact⟨k,x,⟨h1,by omega,h2⟩,h3,e',h4,by rw[bG];exact hp⟩
 ·rintro⟨k,x,⟨h1,_,h2⟩,h3,e',h4,hp⟩;exact⟨_,.cons h1 h2 h3 h4,by rw[bG]at hp;exact hp⟩
def mJ(i k:Nat)(y:od):Pa:=⟨(i:Nat),(k:Nat),y.dz,y.am⟩
theorem HG{α:Type}{L:List α}{n:Nat}{y:α}(h:L[n]?=some y){P:α→Prop}{A B C:Prop}(h1:B↔A∨∃y∈L.take n,P y)(h2:C↔B∨P y):C↔A∨∃y∈L.take (n+1),P y:=by
 rw[h2,h1,kN h];constructor
 ·rintro((h|⟨z,hz,hp⟩)|h)
  ·exact .inl h
  ·exact .inr ⟨z,List.mem_append_left _ hz,hp⟩
  ·exact .inr ⟨y,List.mem_append_right _ (by simp),h⟩
 ·rintro(h|⟨z,hz,hp⟩)
  ·exact .inl (.inl h)
  ·rcases List.mem_append.1 hz with hz|hz
   ·exact .inl (.inr ⟨z,hz,hp⟩)
   ·rw[List.mem_singleton.1 hz]at hp;exact .inr hp
theorem JS{j:Jr}{i k:Nat}(gP:i<k)(hk:k≤j.w.length){L:List od}(hL:L.Perm (fF j.p j.t ((j.w.drop i).take (k-i)) j.iz j.cj j.t.bE.length)){A B C:Prop}(h1:B↔A∨Jn j i k)(h2:C↔B∨∃y∈L,ny j k):C↔A∨Jn j i (k+1):=by
 rw[h2,h1];constructor
 ·rintro((h|⟨k',x,⟨a1,a2,a3⟩,a4,a5⟩)|⟨y,hy,h⟩)
  ·exact .inl h
  ·exact .inr ⟨k',x,⟨a1,by omega,a3⟩,a4,a5⟩
  ·exact .inr ⟨k,mJ i k y,⟨gP,by omega,hk⟩,List.mem_map.2 ⟨y,hL.mem_iff.1 hy,rfl⟩,h⟩
 ·rintro(h|⟨k',x,⟨a1,a2,a3⟩,a4,a5⟩)
  ·exact .inl (.inl h)
  ·by_cases OY:k'=k
   ·subst OY;obtain⟨y,hy,rfl⟩:=List.mem_map.1 a4;exact .inr ⟨y,hL.mem_iff.2 hy,a5⟩
   ·exact .inl (.inr ⟨k',x,⟨a1,by omega,a3⟩,a4,a5⟩)
theorem Pm{j:Jr}{i k:Nat}{l:List Pa}(gP:i<k)(hk:k≤j.w.length){L:List od}(hL:L.Perm (fF j.p j.t ((j.w.drop i).take (k-i)) j.iz j.cj j.t.bE.length)){A B C:Prop}(h1:B↔A∨Vo j i l k)(h2:C↔B∨∃y∈L,A7 j k (l++[mJ i k y])):C↔A∨Vo j i l (k+1):=by
 rw[h2,h1];constructor
 ·rintro((h|⟨k',x,⟨a1,a2,a3⟩,a4,a5⟩)|⟨y,hy,h⟩)
  ·exact .inl h
  ·exact .inr ⟨k',x,⟨a1,by omega,a3⟩,a4,a5⟩
  ·exact .inr ⟨k,mJ i k y,⟨gP,by omega,hk⟩,List.mem_map.2 ⟨y,hL.mem_iff.1 hy,rfl⟩,h⟩
 ·rintro(h|⟨k',x,⟨a1,a2,a3⟩,a4,a5⟩)
  ·exact .inl (.inl h)
  ·by_cases OY:k'=k
   ·subst OY;obtain⟨y,hy,rfl⟩:=List.mem_map.1 a4;exact .inr ⟨y,hL.mem_iff.2 hy,a5⟩
   ·exact .inl (.inr ⟨k',x,⟨a1,by omega,a3⟩,a4,a5⟩)
theorem Tl(j:Jr)(hj:Vn j)(ty:TypeId):∀(m i:Nat),i≤j.w.length→j.w.length-i<m→∀(l:List Pa),l.length≤i→Nn (l.map (·.am))→∀(b:Nat) (sm fd:Bool) (S0 S:ae),Le j ty b S0 S sm fd→S0.length≤S.length→
 ak Tryz.prog 39 [.ptr b 0 0 0,.sl 4 (l.map c9),.int .i64 (i:Nat)] S fun r S'=>∃sm' fd',Le j ty b S S' sm' fd'∧(sm'=true↔sm=true∨ny j i)∧(fd'=true↔fd=true∨A7 j i l):=by
 intro m;induction m with
 |zero=>intro i _ h;omega
 |succ m ih=>
 intro i hi qu l hl ha b sm fd S0 S hR hS0;refine ak.bW Tryz.func39 F4 (U rfl) fun σ b_=>?_;have hn8:=hj.n;obtain⟨AN,ho,hb⟩:=hR.o;have fl:=aa_ j hj.f l (by omega) ha (ty:=ty) (b:=b) (sm:=sm) (fd:=fd) (AN:=AN) hb S ho;have hR0:Le j ty b S S sm fd:=⟨⟨AN,ho,hb⟩,f_.refl _ _⟩;clear hR hS0 S0;simp only[kF,jk,aS,a8]at ho;by_cases hiN:i=j.w.length
 ·have hic:(i:Int)=j.w.length:=by omega
  simp(disch:=first|omega|(simp only[ai];omega)) only[Gd,ho,dT hic,aj,↓eA,eB,aq,seval];refine ak.mono fl ?_;rintro r S' ⟨⟨F5,h1,h2⟩,h3⟩;simp(disch:=first|omega|(simp only[ai];omega)) only[aj,↓eA,eB,aq,seval];subst hiN;exact⟨true,_,⟨⟨F5,h1,h2⟩,h3⟩,⟨fun _=>.inr (Mf j),fun _=>rfl⟩,by rw[UF,dR]⟩
 ·have hic:¬(i:Int)=j.w.length:=by omega
  have kq:(i:Int)+1=((i+1:Nat):Int):=by omega
  simp(disch:=first|omega|(simp only[ai];omega)) only[Gd,ho,dF hic,wrap_i64,kq,aj,↓eA,eB,aq,seval];refine dm (ι:=Nat×Bool×Bool×ae) (fun x=>[(0,.ptr b 0 0 0),(1,.sl 4 (l.map c9)),(2,.int .i64 (i:Nat)),(6,.int .i64 (x.1:Nat))]) (fun x=>x.2.2.2)
   (fun x=>(i<x.1∧x.1≤j.w.length+1)∧Le j ty b S x.2.2.2 x.2.1 x.2.2.1∧(x.2.1=true↔sm=true∨Jn j i x.1)∧(x.2.2.1=true↔fd=true∨Vo j i l x.1)) (fun x=>j.w.length+1-x.1)
   (fun x hx=>by rw[b_];exact hx.2.1.f.1) (i+1,sm,fd,S) ⟨⟨by simp only;omega,by simp only;omega⟩,hR0,?_,?_⟩ (.inl ⟨?_,rfl⟩) ?_
  ·exact⟨.inl,fun h=>h.elim id fun⟨k',x,h,_⟩=>by omega⟩
  ·exact⟨.inl,fun h=>h.elim id fun⟨k',x,h,_⟩=>by omega⟩
  ·simp only[↓eA,eB,aq,seval];try rfl
  clear fl ho hb AN;rintro⟨k,sm1,fd1,S1⟩ ⟨⟨gP,hkN⟩,hR1,tu,q7⟩;simp only at gP hkN hR1 tu q7⊢;obtain⟨anm,qX,n_⟩:=hR1.o;simp only[kF,jk,aS,a8]at qX;by_cases pX:k=j.w.length+1
  ·have aR:¬(k:Int)≤j.w.length:=by omega
   simp(disch:=first|omega|(simp only[ai];omega)) only[qX,dF aR,aj,↓eA,eB,aq,seval];subst pX;exact⟨sm1,fd1,hR1,by rw[Mg (by omega)];exact tu,by rw[UG (by omega)];exact q7⟩
  have aR:(k:Int)≤j.w.length:=by omega
  have fa:=fun S=>M0 j.p hj.p j.t (j.tx.map fk) hj.t ((j.w.drop i).take (k-i)) (by simp;omega) (zG hj.w i _) j.iz j.cj S;simp only[dV,b9]at fa;simp(disch:=first|omega|(simp only[ai];omega)) only[qX,dT aR,aj,↓eA,eB,aq,seval];rw[aK ⟨by omega,aR⟩];simp(disch:=first|omega|(simp only[ai];omega)) only[qX,aj,↓eA,eB,aq,seval];refine ak.mono (fa _) ?_;rintro _ S9 ⟨L,rfl,hL,rK⟩;rw[rK];clear rK S9;have hLl:L.length≤1000:=by rw[hL.length_eq];have:=pw (p:=j.p) (t:=j.t) (l:=(j.w.drop i).take (k-i)) (ty:=j.iz) (cj:=j.cj) j.t.bE.length;have:=hj.t.bE;omega
  simp(disch:=first|omega|(simp only[ai];omega)) only[aj,↓eA,eB,aq,seval];refine dm (ι:=Nat×Bool×Bool×ae) (fun x=>[(0,.ptr b 0 0 0),(1,.sl 4 (l.map c9)),(2,.int .i64 (i:Nat)),(6,.int .i64 (k:Nat)),(7,.sl 4 (L.map e_)),(8,.int .i64 (x.1:Nat))]) (fun x=>x.2.2.2)
   (fun x=>x.1≤L.length∧Le j ty b S x.2.2.2 x.2.1 x.2.2.1∧(x.2.1=true↔sm1=true∨∃y∈L.take x.1,ny j k)∧(x.2.2.1=true↔fd1=true∨∃y∈L.take x.1,A7 j k (l++[mJ i k y]))) (fun x=>L.length-x.1)
   (fun x hx=>by rw[b_];exact hx.2.1.f.1) (0,sm1,fd1,S1) ⟨az _,hR1,by simp,by simp⟩ (.inl ⟨?_,rfl⟩) ?_
  ·simp only[↓eA,eB,aq,seval];try rfl
  rintro⟨n,sm2,fd2,S2⟩ ⟨hn,hR2,mT,qh⟩;simp only at hn hR2 mT qh⊢;cases hc:L[n]? with
  |none=>
   obtain⟨eh,_⟩:=dE hc;have Ao:¬((n:Int)<L.length):=by omega
   have cN:(k:Int)+1=((k+1:Nat):Int):=by omega
   rw[bh eh]at mT qh;simp(disch:=first|omega|(simp only[ai];omega)) only[dF Ao,wrap_i64,cN,aj,↓eA,eB,aq,seval];exact⟨(k+1,sm2,fd2,S2),⟨⟨by simp only;omega,by simp only;omega⟩,hR2,JS gP (by omega) hL tu mT,Pm gP (by omega) hL q7 qh⟩,by simp only;omega,.inl ⟨by simp only[↓eA,eB,aq,seval];try rfl,rfl⟩⟩
  |some y=>
   have cK:=(List.getElem?_eq_some_iff.1 hc).1;have Ao:(n:Int)<L.length:=by omega
   have rJ:(n:Int)+1=((n+1:Nat):Int):=by omega
   have hxm:mJ i k y∈pL j i k:=List.mem_map.2 ⟨y,hL.mem_iff.1 (aB hc),rfl⟩;have hxa:=hj.am i k _ hxm;have ha2:Nn ((l++[mJ i k y]).map (·.am)):=by
    intro a h;rw[bF]at h;rcases List.mem_append.1 h with h|h
    ·exact ha a h
    ·rw[show a=(mJ i k y).am by simpa using h];exact hxa
   have nB:b<S2.length:=by obtain⟨anl,xq,_⟩:=hR2.o;exact gW xq
   have hSl:S.length≤S2.length:=hR2.f.1;simp(disch:=first|omega|(simp only[ai];omega)) only[dT Ao,hc,e_,aj,↓eA,eB,aq,seval];refine⟨by unfold dw;omega,by unfold dw;omega,?_⟩;have hR3:=hR2.pF (f_.add (fun _=>False) S2 [⟨1,some (.arr 38 4 (l.map c9++[c9 (mJ i k y)]))⟩]) fun _ h=>h.elim;have oq:lz S2.length (S2++[⟨1,some (.arr 38 4 (l.map c9++[c9 (mJ i k y)]))⟩]) 38 4 ((l++[mJ i k y]).map c9) (.cU S2.length 1 0 (l.length+1)):=.inr ⟨S2.length,1,ah _,by simp,by rw[bF];exact dP.trans cE⟩;have hl3:(S2++[⟨1,some (.arr 38 4 (l.map c9++[c9 (mJ i k y)]))⟩]:ae).length=S2.length+1:=by simp
   unfold mJ c9 at hR3 oq hl3;unfold c9;generalize (S2++[_]:ae)=S3 at hR3 oq hl3⊢;refine ak.bp Tryz.func39 F4 fun eY=>?_;refine oq.aeF eY (fun r hr=>?_) fun S4 It hl4=>?_
   ·obtain⟨x,_,rfl⟩:=List.mem_map.1 hr;exact⟨rfl,rfl⟩
   have hR4:=hR3.pF It fun q hq=>by have:=(oq.lt hq).2;omega
   refine ak.mono (ih k (by omega) (by omega) (l++[mJ i k y]) (by rw[aH,aN];omega) ha2 b sm2 fd2 S S4 hR4 (by omega)) ?_;rintro r S5 ⟨sm5,fd5,hR5,hs5,hf5⟩;simp(disch:=first|omega|(simp only[ai];omega)) only[wrap_i64,rJ,aj,↓eA,eB,aq,seval];exact⟨(n+1,sm5,fd5,S5),⟨by simp only;omega,hR4.next hR5,HG hc mT hs5,HG hc qh hf5⟩,by simp only;omega,.inl ⟨by simp only[↓eA,eB,aq,seval];try rfl,rfl⟩⟩
end Go.Proofs.YtfgkgmmnldocaaaGreatDoor
