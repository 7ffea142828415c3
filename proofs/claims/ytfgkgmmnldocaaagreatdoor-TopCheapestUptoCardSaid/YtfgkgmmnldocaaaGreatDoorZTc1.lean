/- Tc1 -/
import Derived.Test.YtfgkgmmnldocaaaGreatDoorZTcC
import Derived.Test.YtfgkgmmnldocaaaGreatDoorZCna
set_option linter.unusedSectionVars false
set_option linter.unusedSimpArgs false
set_option linter.unusedVariables false
set_option maxHeartbeats 2000000
set_option maxRecDepth 4000
namespace Go.Proofs.YtfgkgmmnldocaaaGreatDoor
open Go Go.AL
variable[Go.AL.Mode][Go.AL.bR]
structure Pa where
 fr:Int
 to:Int
 dz:Int
 am:Int
def c9(x:Pa):List V:=[.int .i64 x.fr,.int .i64 x.to,.int .i64 x.dz,.int .i64 x.am]
theorem kN{α:Type}{l:List α}{k:Nat}{x:α}(h:l[k]?=some x):l.take (k+1)=l.take k++[x]:=by
 rw[List.take_add_one,h];rfl
theorem mB{α:Type}{l:List α}{k:Nat}{x:α}(h:l[k]?=some x):l.drop k=x::l.drop (k+1):=by
 obtain⟨aR,rfl⟩:=List.getElem?_eq_some_iff.1 h;exact dQ aR
theorem dE{α:Type}{l:List α}{k:Nat}(h:l[k]?=none):l.length≤k∧l.drop k=[]:=⟨List.getElem?_eq_none_iff.1 h,uo (List.getElem?_eq_none_iff.1 h)⟩
def pP(n:Int):Int→List Pa→Bool
 |at_,[]=>decide (at_=n)
 |at_,x::l=>decide (x.fr=at_)&&(decide (x.fr<x.to)&&pP n x.to l)
def pQ(l:List Pa)(n:Int):Bool:=decide (l≠[])&&pP n 0 l
theorem PI(l:List Pa)(hl:l.length≤1000000)(n:Int)(S:ae):ak Tryz.prog 32 [.sl 4 (l.map c9),.int .i64 n] S fun r S'=>r= .bool (pQ l n)∧S'=S:=by
 refine ak.bp Tryz.func32 Qn fun hn=>?_;refine ak.fin Tryz.func32 Qn (U rfl) fun σ b_=>?_;simp(disch:=first|omega|(simp only[ai];omega)) only[R7,aj,↓eA,eB,aq,seval];refine dm (ι:=Nat×Int) (fun i=>[(0,.sl 4 (l.map c9)),(1,.int .i64 n),(5,.int .i64 i.2),(8,.sl 4 (l.map c9)),(9,.int .i64 l.length),(10,.int .i64 (i.1:Nat))]) (fun _=>S) (fun i=>i.1≤l.length∧pP n 0 l=pP n i.2 (l.drop i.1)) (fun i=>l.length-i.1) (fun i hi=>by rw[b_];exact ah _) (0,0) ⟨az _,rfl⟩ (.inl ⟨?_,rfl⟩) ?_
 ·simp only[↓eA,eB,aq,seval];try rfl
 rintro⟨k,at_⟩ ⟨hk,hi⟩;simp only at hk hi⊢;unfold pQ;cases hc:l[k]? with
 |none=>
  obtain⟨eh,he⟩:=dE hc;have aR:¬((k:Int)<l.length):=by omega
  rw[he]at hi;rw[hi];by_cases h0:l=[]
  ·subst h0;obtain rfl:k=0:=by simpa using hk
   simp(disch:=first|omega|(simp only[ai];omega)) only[bz,aj,↓eA,eB,aq,seval];exact⟨_,S,hn.self,.bX rfl,ah _,rfl,rfl⟩
  ·have h1:(0:Int)<(l.length:Nat):=by have:=List.length_pos_iff.2 h0;omega
   simp(disch:=first|omega|(simp only[ai];omega)) only[dF aR,dT h1,dT (show l≠[]from h0),aj,↓eA,eB,aq,seval];exact⟨_,S,hn.self,.bX rfl,ah _,rfl,rfl⟩
 |some x=>
  have cK:=(List.getElem?_eq_some_iff.1 hc).1;have aR:(k:Int)<l.length:=by omega
  have cN:(k:Int)+1=((k+1:Nat):Int):=by omega
  rw[mB hc,pP]at hi;have hb:∀S1,mV S1 S→pP n 0 l=false→∃r1 S2,mV S1 S2∧jd S1 S2 (.bool false) r1∧S.length≤S2.length∧r1= .bool (decide (l≠[])&&pP n 0 l)∧S2=S:=fun S1 h1 h=>⟨_,S,h1,.bX rfl,ah _,by rw[h,cV],rfl⟩;by_cases h1:x.fr=at_
  ·by_cases h2:x.to≤x.fr
   ·rw[dF (show ¬x.fr<x.to by omega),aO,cV]at hi;rw[h1]at h2;simp(disch:=first|omega|(simp only[ai];omega)) only[dT aR,hc,c9,h1,dT h2,aj,↓eA,eB,aq,seval];exact hb _ (hn.dO _) hi
   ·rw[dT h1,dT (show x.fr<x.to by omega),aX,aX]at hi;rw[h1]at h2;simp(disch:=first|omega|(simp only[ai];omega)) only[dT aR,hc,c9,h1,dF h2,wrap_i64,cN,aj,↓eA,eB,aq,seval];exact⟨(k+1,x.to),⟨by simp only;omega,hi⟩,by simp only;omega,dt (hn.dO _) (by simp only[↓eA,eB,aq,seval];try rfl) (by simp[V.under,V.bI])⟩
  ·rw[dF h1,aO]at hi;simp(disch:=first|omega|(simp only[ai];omega)) only[dT aR,hc,c9,dF h1,aj,↓eA,eB,aq,seval];exact hb _ (hn.dO _) hi
theorem SH(l:List Pa)(hl:l.length≤1000000)(w:List (List V))(S:ae):ak Tryz.prog 163 [.sl 8 w,.sl 4 (l.map c9)] S fun r S'=>r= .bool (pQ l w.length)∧S'=S:=by
 refine ak.bW Tryz.func163 abx (U rfl) fun σ b_=>?_;simp(disch:=first|omega|(simp only[ai];omega)) only[RE,aj,↓eA,eB,aq,seval];refine cH (ι:=Nat×Int) (fun i=>[(0,.sl 8 w),(1,.sl 4 (l.map c9)),(5,.int .i64 i.2),(6,.int .i64 (i.1:Nat))]) (fun _=>S) (fun i=>i.1≤l.length∧pP w.length 0 l=pP w.length i.2 (l.drop i.1)) (fun i=>l.length-i.1) (0,0) ⟨az _,rfl⟩ ?_ rfl ?_
 ·simp only[↓eA,eB,aq,seval];try rfl
 rintro⟨k,at_⟩ ⟨hk,hi⟩;simp only at hk hi⊢;unfold pQ;cases hc:l[k]? with
 |none=>
  obtain⟨eh,he⟩:=dE hc;have aR:¬((k:Int)<l.length):=by omega
  rw[he]at hi;rw[hi];by_cases h0:l=[]
  ·subst h0;obtain rfl:k=0:=by simpa using hk
   simp(disch:=first|omega|(simp only[ai];omega)) only[bz,aj,↓eA,eB,aq,seval];rfl
  ·have h1:(0:Int)<(l.length:Nat):=by have:=List.length_pos_iff.2 h0;omega
   simp(disch:=first|omega|(simp only[ai];omega)) only[dF aR,dT h1,dT (show l≠[]from h0),aj,↓eA,eB,aq,seval];rfl
 |some x=>
  have cK:=(List.getElem?_eq_some_iff.1 hc).1;have aR:(k:Int)<l.length:=by omega
  have cN:(k:Int)+1=((k+1:Nat):Int):=by omega
  rw[mB hc,pP]at hi;by_cases h1:x.fr=at_
  ·by_cases h2:x.to≤at_
   ·rw[dF (show ¬x.fr<x.to by omega),aO,cV]at hi;rw[hi];simp(disch:=first|omega|(simp only[ai];omega)) only[dT aR,hc,c9,h1,dT h2,cV,aj,↓eA,eB,aq,seval]
   ·rw[dT h1,dT (show x.fr<x.to by omega),aX,aX]at hi;simp(disch:=first|omega|(simp only[ai];omega)) only[dT aR,hc,c9,h1,dF h2,wrap_i64,cN,aj,↓eA,eB,aq,seval];exact⟨(k+1,x.to),⟨by simp only;omega,hi⟩,by simp only;omega,by first|rfl|exact⟨rfl,rfl⟩|exact⟨rfl,rfl,rfl⟩⟩
  ·rw[dF h1,aO]at hi;rw[hi];simp(disch:=first|omega|(simp only[ai];omega)) only[dT aR,hc,c9,dF h1,cV,aj,↓eA,eB,aq,seval]
def pT(t:gk)(l:List Pa):Bool:=l.all fun x=>decide (0≤x.dz∧x.dz<t.bE.length)
theorem AX{α:Type}{q:α→Bool}{l:List α}{k:Nat}{x:α}(h:l[k]?=some x):(l.drop k).all q=(q x&&(l.drop (k+1)).all q):=by rw[mB h,gr]
theorem vp(t:gk)(tx:List (List V))(ht:t.bE.length≤1000000)(l:List Pa)(hl:l.length≤1000000)(S:ae):ak Tryz.prog 62 [.agg (b9 t tx),.sl 4 (l.map c9)] S fun r S'=>r= .bool (pT t l)∧S'=S:=by
 refine ak.bp Tryz.func62 Qk fun hn=>?_;refine ak.fin Tryz.func62 Qk (U rfl) fun σ b_=>?_;simp(disch:=first|omega|(simp only[ai];omega)) only[R2,b9,aj,↓eA,eB,aq,seval];refine dm (ι:=Nat) (fun k=>[(2,.bK (b9 t tx)),(7,.sl 4 (l.map c9)),(8,.int .i64 l.length),(9,.int .i64 (k:Nat))]) (fun _=>S) (fun k=>k≤l.length∧pT t l=pT t (l.drop k)) (fun k=>l.length-k) (fun i hi=>by rw[b_];exact ah _) 0 ⟨az _,rfl⟩ (.inl ⟨?_,rfl⟩) ?_
 ·simp only[b9,↓eA,eB,aq,seval];try rfl
 rintro k ⟨hk,hi⟩;unfold pT at*;cases hc:l[k]? with
 |none=>
  obtain⟨eh,he⟩:=dE hc;have aR:¬((k:Int)<l.length):=by omega
  rw[he]at hi;rw[hi];simp(disch:=first|omega|(simp only[ai];omega)) only[dF aR,aj,↓eA,eB,aq,seval];exact⟨_,S,hn.self,.bX rfl,ah _,rfl,rfl⟩
 |some x=>
  have cK:=(List.getElem?_eq_some_iff.1 hc).1;have aR:(k:Int)<l.length:=by omega
  have cN:(k:Int)+1=((k+1:Nat):Int):=by omega
  rw[AX hc]at hi;by_cases h1:x.dz<0
  ·rw[dF (show ¬(0≤x.dz∧x.dz<t.bE.length) by omega),aO]at hi;simp(disch:=first|omega|(simp only[ai];omega)) only[dT aR,hc,c9,b9,dT h1,hi,aj,↓eA,eB,aq,seval];exact⟨_,S,hn.dO _,.bX rfl,ah _,rfl,rfl⟩
  by_cases h2:(t.bE.length:Int)≤x.dz
  ·rw[dF (show ¬(0≤x.dz∧x.dz<t.bE.length) by omega),aO]at hi;simp(disch:=first|omega|(simp only[ai];omega)) only[dT aR,hc,c9,b9,dF h1,dT h2,hi,aj,↓eA,eB,aq,seval];exact⟨_,S,hn.dO _,.bX rfl,ah _,rfl,rfl⟩
  rw[dT (show 0≤x.dz∧x.dz<t.bE.length by omega),aX]at hi;simp(disch:=first|omega|(simp only[ai];omega)) only[dT aR,hc,c9,b9,dF h1,dF h2,wrap_i64,cN,aj,↓eA,eB,aq,seval];exact⟨k+1,⟨by omega,hi⟩,by omega,dt (hn.dO _) (by simp only[b9,↓eA,eB,aq,seval];try rfl) (by simp[V.under,V.bI,b9])⟩
theorem BW(t:gk)(tx:List (List V))(ht:t.bE.length≤1000000)(l:List Pa)(hl:l.length≤1000000)(S:ae):ak Tryz.prog 168 [.agg (b9 t tx),.sl 4 (l.map c9)] S fun r S'=>r= .bool (pT t l)∧S'=S:=by
 refine ak.bW Tryz.func168 abu (U rfl) fun σ b_=>?_;simp(disch:=first|omega|(simp only[ai];omega)) only[Rz,b9,aj,↓eA,eB,aq,seval];refine cH (ι:=Nat) (fun k=>[(1,.sl 4 (l.map c9)),(2,.bK (b9 t tx)),(5,.int .i64 (k:Nat))]) (fun _=>S) (fun k=>k≤l.length∧pT t l=pT t (l.drop k)) (fun k=>l.length-k) 0 ⟨az _,rfl⟩ ?_ rfl ?_
 ·simp only[b9,↓eA,eB,aq,seval];try rfl
 rintro k ⟨hk,hi⟩;unfold pT at*;cases hc:l[k]? with
 |none=>
  obtain⟨eh,he⟩:=dE hc;have aR:¬((k:Int)<l.length):=by omega
  rw[he]at hi;rw[hi];simp(disch:=first|omega|(simp only[ai];omega)) only[dF aR,aj,↓eA,eB,aq,seval];try rfl
 |some x=>
  have cK:=(List.getElem?_eq_some_iff.1 hc).1;have aR:(k:Int)<l.length:=by omega
  have cN:(k:Int)+1=((k+1:Nat):Int):=by omega
  rw[AX hc]at hi;by_cases h1:x.dz<0
  ·rw[dF (show ¬(0≤x.dz∧x.dz<t.bE.length) by omega),aO]at hi;simp(disch:=first|omega|(simp only[ai];omega)) only[dT aR,hc,c9,b9,dT h1,hi,aj,↓eA,eB,aq,seval]
  by_cases h2:(t.bE.length:Int)≤x.dz
  ·rw[dF (show ¬(0≤x.dz∧x.dz<t.bE.length) by omega),aO]at hi;simp(disch:=first|omega|(simp only[ai];omega)) only[dT aR,hc,c9,b9,dF h1,dT h2,hi,aj,↓eA,eB,aq,seval]
  rw[dT (show 0≤x.dz∧x.dz<t.bE.length by omega),aX]at hi;simp(disch:=first|omega|(simp only[ai];omega)) only[dT aR,hc,c9,b9,dF h1,dF h2,wrap_i64,cN,aj,↓eA,eB,aq,seval];exact⟨k+1,⟨by omega,hi⟩,by omega,by first|rfl|exact⟨rfl,rfl⟩|exact⟨rfl,rfl,rfl⟩⟩
def Lx(a b:Fr):Bool:=b.BS&&(decide (a.c=b.c)&&(decide (a.f=b.t)&&decide (a.t=b.f)))
theorem QM(a b:Fr)(S:ae):ak Tryz.prog 63 [.agg (fK a),.agg (fK b)] S fun r S'=>r= .bool (Lx a b)∧S'=S:=by
 refine ak.bW Tryz.func63 abP (U rfl) fun σ b_=>?_;obtain⟨ac,af,at_,ab,al,ar,am,au,ao⟩:=a;obtain⟨bc,bf,bt,bb,bl,br,bm,bu,bo⟩:=b;unfold Lx;cases br with
 |false=>simp(disch:=first|omega|(simp only[ai];omega)) only[sJ,fK,aO,aj,↓eA,eB,aq,seval]
 |true=>
  by_cases h1:ac=bc
  ·by_cases h2:af=bt
   ·by_cases h3:at_=bf
    ·simp(disch:=first|omega|(simp only[ai];omega)) only[sJ,fK,dT h1,dT h2,dT h3,aX,aj,↓eA,eB,aq,seval];try rfl
    ·simp(disch:=first|omega|(simp only[ai];omega)) only[sJ,fK,dT h1,dT h2,dF h3,aX,aj,↓eA,eB,aq,seval];try rfl
   ·simp(disch:=first|omega|(simp only[ai];omega)) only[sJ,fK,dT h1,dF h2,aX,aO,aj,↓eA,eB,aq,seval]
  ·simp(disch:=first|omega|(simp only[ai];omega)) only[sJ,fK,dF h1,aX,aO,aj,↓eA,eB,aq,seval]
theorem Tp(a b:Fr)(S:ae):ak Tryz.prog 195 [.agg (fK a),.agg (fK b)] S fun r S'=>r= .bool (a.BS&&Lx a b)∧S'=S:=by
 refine ak.bW Tryz.func195 abn (U rfl) fun σ b_=>?_;obtain⟨ac,af,at_,ab,al,ar,am,au,ao⟩:=a;obtain⟨bc,bf,bt,bb,bl,br,bm,bu,bo⟩:=b;unfold Lx;cases ar with
 |false=>simp(disch:=first|omega|(simp only[ai];omega)) only[qp,fK,aO,aj,↓eA,eB,aq,seval]
 |true=>
  cases br with
  |false=>simp(disch:=first|omega|(simp only[ai];omega)) only[qp,fK,aO,cV,aj,↓eA,eB,aq,seval]
  |true=>
   by_cases h1:ac=bc
   ·by_cases h2:af=bt
    ·by_cases h3:at_=bf
     ·simp(disch:=first|omega|(simp only[ai];omega)) only[qp,fK,dT h1,dT h2,dT h3,aX,aj,↓eA,eB,aq,seval];try rfl
     ·simp(disch:=first|omega|(simp only[ai];omega)) only[qp,fK,dT h1,dT h2,dF h3,aX,aj,↓eA,eB,aq,seval];try rfl
    ·simp(disch:=first|omega|(simp only[ai];omega)) only[qp,fK,dT h1,dF h2,aX,aO,cV,aj,↓eA,eB,aq,seval]
   ·simp(disch:=first|omega|(simp only[ai];omega)) only[qp,fK,dF h1,aX,aO,cV,aj,↓eA,eB,aq,seval]
end Go.Proofs.YtfgkgmmnldocaaaGreatDoor
namespace Go.Proofs.YtfgkgmmnldocaaaGreatDoor
open Go Go.AL
variable[Go.AL.Mode][Go.AL.bR]
structure Tx where
 cd:bS
 kd:Int
 cy:bS
 am:Int
 sc:Int
 tr:Int
 fr:List bS
def fk(x:Tx):List V:=[.str x.cd,.int .i64 x.kd,.str x.cy,.int .i64 x.am,.int .i64 x.sc,.int .i64 x.tr,.sl 1 (x.fr.map eW)]
def Lv(p:fO)(c:bS):bS:=match p.1.find? fun a=>decide (a.code=c)with
 |some a=>a.IU
 |none=>match p.1.find? fun a=>decide (a.iH=c)with
  |some a=>a.IU
  |none=>[]
theorem KS(p:fO)(hp:p.1.length≤1000)(c:bS)(S:ae):ak Tryz.prog 212 [dV p,.str c] S fun r S'=>r= .str (Lv p c)∧S'=S:=by
 refine ak.bp Tryz.func212 P5 fun hn=>?_;refine ak.fin Tryz.func212 P5 (U rfl) fun σ b_=>?_;have fd:=fun S=>Ml.FN p c S (by omega);have tw:=fun S=>Ml.LZ p c S (by omega);unfold Ml.jc at fd tw;unfold Lv;simp only[dV]at fd tw⊢;simp(disch:=omega) only[Rr,aj,↓eA,eB,aq,seval];refine(fd _).then ?_
 cases(p.1.find? fun a=>decide (a.code=c))with
 |some a=>
  simp(disch:=omega) only[dG,aj,↓eA,eB,aq,seval];exact⟨_,S,hn.dO _,.bX rfl,ah _,rfl,rfl⟩
 |none=>
  simp(disch:=omega) only[Ml.fC,aj,↓eA,eB,aq,seval];refine(tw _).then ?_
  cases(p.1.find? fun a=>decide (a.iH=c))with
  |some a=>
   simp(disch:=omega) only[dG,aj,↓eA,eB,aq,seval];exact⟨_,S,hn.dO _,.bX rfl,ah _,rfl,rfl⟩
  |none=>
   simp(disch:=omega) only[Ml.fC,aj,↓eA,eB,aq,seval];exact⟨_,S,hn.dO _,.bX rfl,ah _,rfl,rfl⟩
theorem oD(p:fO)(hp:p.1.length≤1000)(c:bS)(S:ae):ak Tryz.prog 231 [dV p,.str c] S fun r S'=>r= .str (Lv p c)∧S'=S:=by
 refine ak.bp Tryz.func231 P3 fun hn=>?_;refine ak.fin Tryz.func231 P3 (U rfl) fun σ b_=>?_;have fd:=fun S=>Ml.zU p c S (by omega);have tw:=fun S=>Ml.qE p c S (by omega);unfold Ml.jc at fd tw;unfold Lv;simp only[dV]at fd tw⊢;simp(disch:=omega) only[Rl,aj,↓eA,eB,aq,seval];refine(fd _).then ?_
 cases(p.1.find? fun a=>decide (a.code=c))with
 |some a=>
  simp(disch:=omega) only[dG,aj,↓eA,eB,aq,seval];exact⟨_,S,hn.dO _,.bX rfl,ah _,rfl,rfl⟩
 |none=>
  simp(disch:=omega) only[Ml.fC,aj,↓eA,eB,aq,seval];refine(tw _).then ?_
  cases(p.1.find? fun a=>decide (a.iH=c))with
  |some a=>
   simp(disch:=omega) only[dG,aj,↓eA,eB,aq,seval];exact⟨_,S,hn.dO _,.bX rfl,ah _,rfl,rfl⟩
  |none=>
   simp(disch:=omega) only[Ml.fC,aj,↓eA,eB,aq,seval];exact⟨_,S,hn.dO _,.bX rfl,ah _,rfl,rfl⟩
def rH(s:Sg):Prop:=(0≤s.dep∧s.dep<52596000)∧0≤s.arr∧s.arr<52596000
def Iz(a b:Sg)(n:Int):Bool:=decide (a.t=b.f)&&(decide (a.arr≤b.dep)&&decide (b.dep-a.arr≤n))
theorem yY(a b:Sg)(n:Int)(ha:rH a)(hb:rH b)(S:ae):ak Tryz.prog 213 [.agg (gl a),.agg (gl b),.int .i64 n] S fun r S'=>r= .bool (Iz a b n)∧S'=S:=by
 refine ak.bW Tryz.func213 abm (U rfl) fun σ b_=>?_;obtain⟨a1,a2,a3,a4,a5,a6,a7⟩:=a;obtain⟨b1,b2,b3,b4,b5,b6,b7⟩:=b;unfold rH at ha hb;unfold Iz;simp only at ha hb⊢;have hw:IntKind.i64.wrap (b6-a7)=b6-a7:=wrap_i64 (by omega) (by omega);by_cases h1:a5=b4
 ·by_cases h2:a7≤b6
  ·by_cases h3:b6-a7≤n
   ·simp(disch:=omega) only[wW,gl,dT h1,dT h2,dT h3,hw,dT (show 0≤b6-a7 by omega),dC,aj,↓eA,eB,aq,seval]
   ·simp(disch:=omega) only[wW,gl,dT h1,dT h2,dF h3,hw,dT (show 0≤b6-a7 by omega),cV,aj,↓eA,eB,aq,seval]
  ·simp(disch:=omega) only[wW,gl,dT h1,dF h2,hw,dF (show ¬0≤b6-a7 by omega),aO,cV,aj,↓eA,eB,aq,seval]
 ·simp(disch:=omega) only[wW,gl,dF h1,hw,aO,aj,↓eA,eB,aq,seval]
theorem xM(x:Tx)(a b:Sg)(ha:rH a)(hb:rH b)(S:ae):ak Tryz.prog 232 [.agg (fk x),.agg (gl a),.agg (gl b)] S fun r S'=>r= .bool (Iz a b x.tr)∧S'=S:=by
 refine ak.bW Tryz.func232 abh (U rfl) fun σ b_=>?_;obtain⟨a1,a2,a3,a4,a5,a6,a7⟩:=a;obtain⟨b1,b2,b3,b4,b5,b6,b7⟩:=b;obtain⟨x1,x2,x3,x4,x5,n,x7⟩:=x;unfold rH at ha hb;unfold Iz;simp only at ha hb⊢;have hw:IntKind.i64.wrap (b6-a7)=b6-a7:=wrap_i64 (by omega) (by omega);by_cases h1:a5=b4
 ·by_cases h2:a7≤b6
  ·by_cases h3:b6-a7≤n
   ·simp(disch:=omega) only[wV,gl,fk,dT h1,dT h2,dT h3,hw,dC,aj,↓eA,eB,aq,seval]
   ·simp(disch:=omega) only[wV,gl,fk,dT h1,dT h2,dF h3,hw,cV,aj,↓eA,eB,aq,seval]
  ·simp(disch:=omega) only[wV,gl,fk,dT h1,dF h2,hw,aO,cV,aj,↓eA,eB,aq,seval]
 ·simp(disch:=omega) only[wV,gl,fk,dF h1,hw,aO,aj,↓eA,eB,aq,seval]
def UE(p:fO)(x:Tx)(s:Sg):Bool:=decide (Lv p s.f=x.cy)
def El(p:fO)(x:Tx)(s:Sg):Bool:=decide (Lv p s.t=x.cy)
def VG(p:fO)(x:Tx)(s:Sg):Bool:=if x.sc=0 then UE p x s||El p x s else if x.sc=1 then UE p x s&&El p x s else UE p x s !=El p x s
theorem Mr(p:fO)(hp:p.1.length≤1000)(x:Tx)(s:Sg)(S:ae):ak Tryz.prog 230 [dV p,.agg (fk x),.agg (gl s)] S fun r S'=>r= .bool (VG p x s)∧S'=S:=by
 refine ak.bW Tryz.func230 abi (U rfl) fun σ b_=>?_;obtain⟨a1,a2,a3,a4,a5,a6,a7⟩:=s;obtain⟨x1,x2,x3,x4,x5,n,x7⟩:=x;have c1:=fun S=>oD p hp a4 S;have c2:=fun S=>oD p hp a5 S;unfold VG UE El;simp only[dV]at c1 c2⊢;generalize Lv p a4=y1 at*;generalize Lv p a5=y2 at*;simp(disch:=omega) only[Rm,gl,fk,aj,↓eA,eB,aq,seval];refine qv.intro (c1 _) ?_;simp(disch:=omega) only[aj,↓eA,eB,aq,seval];refine qv.intro (c2 _) ?_;obtain⟨b1,n_⟩:∃b,b=decide (y1=x3):=⟨_,rfl⟩;obtain⟨b2,nB⟩:∃b,b=decide (y2=x3):=⟨_,rfl⟩;simp(disch:=omega) only[←n_,←nB,aj,↓eA,eB,aq,seval];clear n_ nB;by_cases h0:x5=0
 ·simp(disch:=omega) only[dT h0,h0,aK,aj,↓eA,eB,aq,seval];cases b1<;>simp(disch:=omega) only[eS,cQ,aj,↓eA,eB,aq,seval]
 ·by_cases h1:x5=1
  ·simp(disch:=omega) only[dF h0,dT h1,h0,h1,aC,aK,aj,↓eA,eB,aq,seval];cases b1<;>simp(disch:=omega) only[aX,aO,aj,↓eA,eB,aq,seval]
  ·simp(disch:=omega) only[dF h0,dF h1,h0,h1,aC,aj,↓eA,eB,aq,seval];cases b1<;>cases b2<;>rfl
end Go.Proofs.YtfgkgmmnldocaaaGreatDoor
namespace Go.Proofs.YtfgkgmmnldocaaaGreatDoor
open Go Go.AL
variable[Go.AL.Mode][Go.AL.bR]
def ag':Sg:=⟨[],0,0,[],[],0,0⟩
def lE(l:List Sg)(k:Nat):Sg:=(l[k]?).getD ag'
theorem p_{l:List Sg}{k:Nat}{s:Sg}(h:l[k]?=some s):lE l k=s:=by unfold lE;rw[h];rfl
def FU(p:fO)(x:Tx)(l:List Sg)(k:Nat):Bool:=VG p x (lE l k)&&
 if x.kd=1 then UE p x (lE l k)&&(decide (k=0)||!Iz (lE l (k-1)) (lE l k) x.tr)
 else if x.kd=2 then El p x (lE l k)&&(decide (k+1=l.length)||!Iz (lE l k) (lE l (k+1)) x.tr)else true
theorem aeL(p:fO)(hp:p.1.length≤1000)(x:Tx)(l:List Sg)(hl:l.length≤1000)(ht:∀s∈l,rH s)(k:Nat)(hk:k<l.length)(S:ae):
 ak Tryz.prog 217 [dV p,.agg (fk x),.sl 7 (l.map gl),.int .i64 (k:Nat)] S fun r S'=>r= .int .i64 (if FU p x l k=true then 1 else 0)∧S'=S:=by
 refine ak.bW Tryz.func217 abj (U rfl) fun σ b_=>?_;obtain⟨s,hc⟩:∃s,l[k]?=some s:=⟨_,ax hk⟩;have sc:=fun S=>Mr p hp x s S;have c1:=fun c S=>oD p hp c S;have uD:=ht s (aB hc);have t1:=fun a (ha:a∈l) S=>xM x a s (ht a ha) uD S;have t2:=fun a (ha:a∈l) S=>xM x s a uD (ht a ha) S;have cN:(k:Int)+1=((k+1:Nat):Int):=by omega
 unfold FU;rw[p_ hc];obtain⟨b,hb⟩:∃b,b=VG p x s:=⟨_,rfl⟩;rw[←hb]at sc⊢;clear hb;unfold UE El;obtain⟨s1,s2,s3,s4,s5,s6,s7⟩:=s;obtain⟨x1,x2,x3,x4,x5,n,x7⟩:=x;simp only[dV,gl,fk]at sc c1 t1 t2⊢;simp(disch:=first|omega|(simp only[ai];omega)) only[Rn,hc,gl,aj,↓eA,eB,aq,seval];refine(sc _).then ?_
 cases b with
 |false=>simp(disch:=first|omega|(simp only[ai];omega)) only[aO,aj,↓eA,eB,aq,seval];try rfl
 |true=>
 rw[aX];by_cases h1:x2=1
 ·subst h1;simp(disch:=first|omega|(simp only[ai];omega)) only[hc,gl,aj,↓eA,eB,aq,seval];refine qv.intro (c1 s4 _) ?_;generalize Lv p s4=y;by_cases hy:y=x3
  ·by_cases Fw:k=0
   ·simp(disch:=first|omega|(simp only[ai];omega)) only[dT hy,dF (show ¬(0:Int)<(k:Nat) by omega),dT Fw,eS,dC,aj,↓eA,eB,aq,seval];try rfl
   ·obtain⟨a,ha⟩:∃a,l[k-1]?=some a:=⟨_,ax (by omega)⟩;have ta:=fun S=>t1 a (aB ha) S;rw[p_ ha];generalize Iz a _ n=fb at*;have OX:(0:Int)<(k:Nat):=by omega
    have tz:(k:Int)-1=((k-1:Nat):Int):=by omega
    obtain⟨a1,a2,a3,a4,a5,a6,a7⟩:=a;simp only at ta;simp(disch:=first|omega|(simp only[ai];omega)) only[dT hy,hc,ha,gl,dT OX,dF Fw,wrap_i64,tz,cQ,aX,aj,↓eA,eB,aq,seval];refine(ta _).then ?_
    cases fb<;>simp(disch:=first|omega|(simp only[ai];omega)) only[aj,↓eA,eB,aq,seval]<;>try rfl
  ·simp(disch:=first|omega|(simp only[ai];omega)) only[dF hy,aO,aj,↓eA,eB,aq,seval];try rfl
 by_cases h2:x2=2
 ·subst h2;simp(disch:=first|omega|(simp only[ai];omega)) only[hc,gl,aj,↓eA,eB,aq,seval];refine qv.intro (c1 s5 _) ?_;generalize Lv p s5=y;by_cases hy:y=x3
  ·by_cases Fw:k+1=l.length
   ·simp(disch:=first|omega|(simp only[ai];omega)) only[dT hy,dF (show ¬((k+1:Nat):Int)<(l.length:Nat) by omega),dT Fw,wrap_i64,cN,eS,dC,aj,↓eA,eB,aq,seval];try rfl
   ·obtain⟨a,ha⟩:∃a,l[k+1]?=some a:=⟨_,ax (by omega)⟩;have ta:=fun S=>t2 a (aB ha) S;rw[p_ ha];generalize Iz _ a n=fb at*;have OX:((k+1:Nat):Int)<(l.length:Nat):=by omega
    obtain⟨a1,a2,a3,a4,a5,a6,a7⟩:=a;simp only at ta;simp(disch:=first|omega|(simp only[ai];omega)) only[dT hy,hc,ha,gl,dT OX,dF Fw,wrap_i64,cN,cQ,aX,aj,↓eA,eB,aq,seval];refine(ta _).then ?_
    cases fb<;>simp(disch:=first|omega|(simp only[ai];omega)) only[aj,↓eA,eB,aq,seval]<;>try rfl
  ·simp(disch:=first|omega|(simp only[ai];omega)) only[dF hy,aO,aj,↓eA,eB,aq,seval];try rfl
 ·simp(disch:=first|omega|(simp only[ai];omega)) only[dF h1,dF h2,h1,h2,aj,↓eA,eB,aq,seval];try rfl
def j7(x:Tx):Prop:=(1≤x.kd∧x.kd≤4)∧(0≤x.am∧x.am≤1099511627776∧(x.kd=4→x.am≤100000))∧0≤x.sc∧x.sc≤2
def DD(p:fO)(x:Tx)(l:List Sg):Nat→Nat
 |0=>0
 |k+1=>DD p x l k+if FU p x l k=true then 1 else 0
theorem wx(p:fO)(x:Tx)(l:List Sg):∀k,DD p x l k≤k
 |0=>ah _
 |k+1=>by
  have:=wx p x l k;rw[DD];split<;>omega
def uZ(p:fO)(x:Tx)(l:List Sg)(iz:bS):Nat:=if x.fr.contains iz=true then 0 else if x.kd=4 then min (DD p x l l.length) 1 else DD p x l l.length
theorem MP(p:fO)(hp:p.1.length≤1000)(x:Tx)(hx:j7 x)(l:List Sg)(hl:l.length≤1000)(ht:∀s∈l,rH s)(iz:bS)(hf:x.fr.length≤1000000000)(S:ae):
 ak Tryz.prog 193 [dV p,.agg (fk x),.sl 7 (l.map gl),.str iz] S fun r S'=>r= .int .i64 (uZ p x l iz:Nat)∧S'=S:=by
 refine ak.bW Tryz.func193 abo (U rfl) fun σ b_=>?_;have du:=fun k hk S=>aeL p hp x l hl ht k hk S;unfold j7 at hx;unfold uZ;simp only[dV]at du⊢;obtain⟨c4,mN⟩:∃c4,c4=V.bK [.sl 5 (p.1.map dG),.sl 3 (p.2.map cZ)]:=⟨_,rfl⟩;obtain⟨c5,jm⟩:∃c5,c5=V.bK (fk x):=⟨_,rfl⟩;simp(disch:=first|omega|(simp only[ai];omega)) only[Rs,aj,↓eA,eB,aq,seval];refine cH (ι:=Nat) (fun i=>[(2,.sl 7 (l.map gl)),(3,.str iz),(4,c4),(5,c5),(9,.int .i64 (i:Nat))]) (fun _=>S) (fun i=>i≤x.fr.length∧x.fr.contains iz=(x.fr.drop i).contains iz) (fun i=>x.fr.length-i) 0 ⟨az _,rfl⟩ ?_ rfl ?_
 ·rw[mN,jm];simp only[↓eA,eB,aq,seval];try rfl
 rintro k ⟨hk,hi⟩;cases hc:x.fr[k]? with
 |some y=>
  have cK:=(List.getElem?_eq_some_iff.1 hc).1;have aR:(k:Int)<x.fr.length:=by omega
  have cN:(k:Int)+1=((k+1:Nat):Int):=by omega
  rw[mB hc,List.contains_cons]at hi;rw[jm];by_cases h:y=iz
  ·rw[hi,h,show(iz==iz)=true by simp,eS,aK rfl];simp(disch:=first|omega|(simp only[ai];omega)) only[fk,dT aR,hc,eW,dT h,aj,↓eA,eB,aq,seval];try rfl
  ·rw[show(iz==y)=false by simpa using fun e=>h e.symm,cQ]at hi;simp(disch:=first|omega|(simp only[ai];omega)) only[fk,dT aR,hc,eW,dF h,wrap_i64,cN,aj,↓eA,eB,aq,seval];exact⟨k+1,⟨by omega,hi⟩,by omega,by first|rfl|exact⟨rfl,rfl⟩|exact⟨rfl,rfl,rfl⟩|simp only[jm,fk]⟩
 |none=>
 obtain⟨eh,he⟩:=dE hc;have aR:¬((k:Int)<x.fr.length):=by omega
 rw[he]at hi;rw[hi,aC (by simp)];rw[jm];simp(disch:=first|omega|(simp only[ai];omega)) only[fk,dF aR,dF (show ¬x.kd<1 by omega),dF (show ¬4<x.kd by omega),aj,↓eA,eB,aq,seval];refine cH (ι:=Nat) (fun i=>[(2,.sl 7 (l.map gl)),(3,.str iz),(4,c4),(5,c5),(10,.int .i64 (DD p x l i:Nat)),(11,.int .i64 (i:Nat))]) (fun _=>S) (fun i=>i≤l.length) (fun i=>l.length-i) 0 (az _) ?_ rfl ?_
 ·rw[jm];simp only[fk,DD,↓eA,eB,aq,seval];try rfl
 clear aR he eh hc hk hi k;intro k hk;rw[mN,jm];by_cases cK:k<l.length
 ·have aR:(k:Int)<l.length:=by omega
  have cN:(k:Int)+1=((k+1:Nat):Int):=by omega
  have dk:=fun S=>du k cK S;have kv:=wx p x l k;have hn:((DD p x l k:Nat):Int)+(if FU p x l k=true then 1 else 0)=((DD p x l (k+1):Nat):Int):=by rw[DD];split<;>simp
  simp only[fk]at dk;simp(disch:=first|omega|(simp only[ai];omega)) only[fk,dT aR,aj,↓eA,eB,aq,seval];refine(dk _).then ?_
  have O6:=wx p x l (k+1);simp(disch:=first|omega|(simp only[ai];omega)) only[hn,wrap_i64,cN,aj,↓eA,eB,aq,seval];exact⟨k+1,by omega,by omega,by first|rfl|exact⟨rfl,rfl⟩|exact⟨rfl,rfl,rfl⟩|simp only[mN,jm,fk]⟩
 ·have aR:¬(k:Int)<l.length:=by omega
  obtain rfl:k=l.length:=by omega
  by_cases h4:x.kd=4
  ·rw[aK h4];simp(disch:=first|omega|(simp only[ai];omega)) only[fk,dF aR,dT h4,aj,↓eA,eB,aq,seval];omega
  ·rw[aC h4];simp(disch:=first|omega|(simp only[ai];omega)) only[fk,dF aR,dF h4,aj,↓eA,eB,aq,seval];try rfl
end Go.Proofs.YtfgkgmmnldocaaaGreatDoor
