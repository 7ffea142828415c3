/- Tcd -/
import Derived.Test.YtfgkgmmnldocaaaGreatDoorZTcL
import Derived.Test.YtfgkgmmnldocaaaGreatDoorZTc1
set_option linter.unusedSectionVars false
set_option linter.unusedSimpArgs false
set_option linter.unusedVariables false
set_option maxHeartbeats 2000000
namespace Go.Proofs.YtfgkgmmnldocaaaGreatDoor
open Go Go.AL
variable[Go.AL.Mode][Go.AL.bR]
def qk(n:Int):Bool:=decide (-1099511627776≤n∧n≤1099511627776)
def n4:Int→List Int→Int×Int
 |acc,[]=>(acc,0)
 |acc,n::r=>if(qk n&&qk (acc+n))=true then n4 (acc+n) r else(0,11)
def VD(r:Int×Int):V:=.dI [.int .i64 r.1,.int .i64 r.2]
theorem L7(l:List Int)(hl:l.length≤1000000)(S:ae):ak Tryz.prog 158 [.sl 1 (l.map iu)] S fun r S'=>r=VD (n4 0 l)∧S'=S:=by
 refine ak.bW Tryz.func158 abz (U rfl) fun σ b_=>?_;have ft:=fun n S=>Ml.FL n S;simp(disch:=first|omega|(simp only[ai];omega)) only[RJ,aj,↓eA,eB,aq,seval];refine cH (ι:=Nat×Int) (fun i=>[(4,.int .i64 i.2),(7,.sl 1 (l.map iu)),(8,.int .i64 l.length),(9,.int .i64 (i.1:Nat))]) (fun _=>S) (fun i=>(i.1≤l.length∧n4 0 l=n4 i.2 (l.drop i.1))∧qk i.2=true) (fun i=>l.length-i.1) (0,0) ⟨⟨az _,rfl⟩,rfl⟩ ?_ rfl ?_
 ·simp only[↓eA,eB,aq,seval];try rfl
 rintro⟨k,acc⟩ ⟨⟨hk,hi⟩,hf⟩;simp only at hk hi hf⊢;have hfa:=hf;unfold qk at hfa;simp only[aL]at hfa;cases hc:l[k]? with
 |none=>
  obtain⟨eh,he⟩:=dE hc;have aR:¬((k:Int)<l.length):=by omega
  rw[he,n4]at hi;rw[hi];simp(disch:=first|omega|(simp only[ai];omega)) only[dF aR,aj,↓eA,eB,aq,seval];try rfl
 |some n=>
  have cK:=(List.getElem?_eq_some_iff.1 hc).1;have aR:(k:Int)<l.length:=by omega
  have cN:(k:Int)+1=((k+1:Nat):Int):=by omega
  rw[mB hc,n4]at hi;have f1:=fun S=>ft n S;have f2:=fun S=>ft (acc+n) S;rw[show decide (-1099511627776≤n∧n≤1099511627776)=qk n from rfl]at f1;rw[show decide (-1099511627776≤acc+n∧acc+n≤1099511627776)=qk (acc+n)from rfl]at f2;simp(disch:=first|omega|(simp only[ai];omega)) only[dT aR,hc,iu,aj,↓eA,eB,aq,seval];refine(f1 _).then ?_
  cases h1:qk n with
  |false=>
   rw[h1,aO,aC (by simp)]at hi;rw[hi];simp(disch:=first|omega|(simp only[ai];omega)) only[aj,↓eA,eB,aq,seval];try rfl
  |true=>
   have hn:=h1;unfold qk at hn;simp only[aL]at hn;have hw:IntKind.i64.wrap (acc+n)=acc+n:=wrap_i64 (by omega) (by omega);rw[h1,aX]at hi;simp(disch:=first|omega|(simp only[ai];omega)) only[hw,aj,↓eA,eB,aq,seval];refine(f2 _).then ?_
   cases h2:qk (acc+n)with
   |false=>
    rw[h2,aC (by simp)]at hi;rw[hi];simp(disch:=first|omega|(simp only[ai];omega)) only[aj,↓eA,eB,aq,seval];try rfl
   |true=>
    rw[h2,aK rfl]at hi;simp(disch:=first|omega|(simp only[ai];omega)) only[hw,wrap_i64,cN,aj,↓eA,eB,aq,seval];exact⟨(k+1,acc+n),⟨⟨by simp only;omega,hi⟩,h2⟩,by simp only;omega,by first|rfl|exact⟨rfl,rfl⟩|exact⟨⟨rfl,rfl⟩,rfl⟩⟩
theorem aga(a b:Int)(S:ae):ak Tryz.prog 162 [.int .i64 a,.int .i64 b] S fun r S'=>r=VD (n4 0 [a,b])∧S'=S:=by
 refine ak.bW Tryz.func162 aby (U rfl) fun σ b_=>?_;have sm:=fun S=>L7 [a,b] (by simp) S;simp only[bd,bY,iu]at sm;generalize n4 0 [a,b]=q at*;unfold VD at*;simp(disch:=first|omega|(simp only[ai];omega)) only[RF,aj,↓eA,eB,aq,seval];refine(sm _).then ?_
 simp(disch:=first|omega|(simp only[ai];omega)) only[aj,↓eA,eB,aq,seval]
theorem ZA(l:List (bS×Int))(hl:l.length≤100000)(S:ae):ak Tryz.prog 161 [.sl 2 (l.map ot)] S fun r S'=>r=VD (n4 0 (l.map (·.2)))∧S'=S:=by
 refine ak.bp Tryz.func161 P_ fun hn=>?_;refine ak.fin Tryz.func161 P_ (U rfl) fun σ b_=>?_;simp(disch:=first|omega|(simp only[ai];omega)) only[RG,aj,↓eA,eB,aq,seval];refine dm (ι:=Nat×V×ae) (fun i=>[(4,i.2.1),(7,.sl 2 (l.map ot)),(8,.int .i64 l.length),(9,.int .i64 (i.1:Nat))]) (fun i=>i.2.2)
  (fun i=>i.1≤l.length∧lz S.length i.2.2 3 1 ((l.take i.1).map fun c=>[.int .i64 c.2]) i.2.1∧∃T,i.2.2=S++T) (fun i=>l.length-i.1)
  (fun i hi=>by rw[b_];obtain⟨T,hT⟩:=hi.2.2;rw[hT];simp) (0,.aM,S) ⟨az _,.inl ⟨rfl,rfl⟩,[],by simp⟩ (.inl ⟨?_,rfl⟩) ?_
 ·simp only[↓eA,eB,aq,seval];try rfl
 rintro⟨k,v,S1⟩ ⟨hk,hL,T,hT⟩;simp only at hk hL hT⊢;cases hc:l[k]? with
 |none=>
  obtain⟨eh,he⟩:=dE hc;have aR:¬((k:Int)<l.length):=by omega
  rw[bh eh]at hL;have sm:=fun S=>L7 (l.map (·.2)) (by simp;omega) S;rw[fP,show(iu∘fun x:bS×Int=>x.2)=fun c:bS×Int=>[V.int .i64 c.2]from rfl]at sm;simp(disch:=first|omega|(simp only[ai];omega)) only[dF aR,aj,↓eA,eB,aq,seval];refine(Fh (args:=[v]) (sm (kill S1)) ⟨hL.Kl fun r hr=>?_,trivial⟩).then ?_
  ·obtain⟨x,_,rfl⟩:=List.mem_map.1 hr;exact⟨rfl,rfl⟩
  unfold VD;simp(disch:=first|omega|(simp only[ai];omega)) only[aj,↓eA,eB,aq,seval];exact⟨_,S,by rw[hT];exact hn.dO _,.bX rfl,ah _,rfl,rfl⟩
 |some c=>
  have cK:=(List.getElem?_eq_some_iff.1 hc).1;have aR:(k:Int)<l.length:=by omega
  have cN:(k:Int)+1=((k+1:Nat):Int):=by omega
  have rL:lz S.length (S1++[⟨0,some (.arr 237 2 [[.str c.1,.int .i64 c.2]])⟩]) 3 1 ((l.take k).map fun c=>[.int .i64 c.2]) v:=hL.pF (f_.add (fun _=>False) S1 _) fun _ _ h=>h;have jU:∃T2,S1++[⟨0,some (.arr 237 2 [[.str c.1,.int .i64 c.2]])⟩]=S++T2:=⟨T++_,by rw[hT];exact bG ..⟩;simp(disch:=first|omega|(simp only[ai];omega)) only[dT aR,hc,ot,aj,↓eA,eB,aq,seval];generalize (S1++[_]:ae)=S2 at rL jU⊢;refine rL.app (by obtain⟨T2,rfl⟩:=jU;simp) (by simp;omega) fun v' S3 oq mU _=>?_;simp(disch:=first|omega|(simp only[ai];omega)) only[wrap_i64,cN,aj,↓eA,eB,aq,seval];exact⟨(k+1,v',S3),⟨by simp only;omega,by rw[kN hc,bF];exact oq,mU.ext jU fun j hj=>(rL.lt hj).2⟩,by simp only;omega,.inl ⟨by simp only[↓eA,eB,aq,seval];try rfl,rfl⟩⟩
end Go.Proofs.YtfgkgmmnldocaaaGreatDoor
namespace Go.Proofs.YtfgkgmmnldocaaaGreatDoor
open Go Go.AL
variable[Go.AL.Mode][Go.AL.bR]
def nb(t:gk)(f:Fr):o9:=(fm t f.iv).getD j5
theorem BN(t:gk)(tx:List (List V))(ht:t.rules.length≤1000000)(x:Pa)(n:Nat)(hx:x.dz=(n:Nat))(f:Fr)(hc:t.bE[n]?=some f)(S:ae):
 ak Tryz.prog 65 [.agg (b9 t tx),.agg (c9 x)] S fun r S'=>r= .agg (cx (nb t f))∧S'=S:=by
 refine ak.bp Tryz.func65 Qj fun hn=>?_;refine ak.fin Tryz.func65 Qj (U rfl) fun σ b_=>?_;obtain⟨xf,xt,xx,xa⟩:=x;simp only at hx;subst hx;have tr:=fun S=>zM t tx ht f.iv S;obtain⟨f1,f2,f3,f4,f5,f6,f7,f8,f9⟩:=f;unfold nb;simp only[Ae,b9]at tr⊢;generalize (fm t f8).isSome=b at*;generalize (fm t f8).getD j5=r at*;obtain⟨n0,⟨c1,c2,c3,c4,c5,c6⟩,cb,mn,m2,ch,rf,jb⟩:=r;simp only[cx,b8.row,aS,a8]at tr⊢;simp(disch:=first|omega|(simp only[ai];omega)) only[RZ,c9,hc,fK,aj,↓eA,eB,aq,seval];refine⟨?_,?_⟩;all_goals
  refine(tr _).then ?_
  simp(disch:=first|omega|(simp only[ai];omega)) only[aj,↓eA,eB,aq,seval];exact⟨_,S,hn.dO _,.bX rfl,ah _,rfl,rfl⟩
theorem vi(t:gk)(tx:List (List V))(ht:t.rules.length≤1000000)(x:Pa)(n:Nat)(hx:x.dz=(n:Nat))(f:Fr)(hc:t.bE[n]?=some f)(S:ae):
 ak Tryz.prog 191 [.agg (b9 t tx),.agg (c9 x)] S fun r S'=>r= .agg (cx (nb t f))∧S'=S:=by
 refine ak.bp Tryz.func191 P6 fun hn=>?_;refine ak.fin Tryz.func191 P6 (U rfl) fun σ b_=>?_;obtain⟨xf,xt,xx,xa⟩:=x;simp only at hx;subst hx;have tr:=fun S=>uv t tx ht f.iv S;obtain⟨f1,f2,f3,f4,f5,f6,f7,f8,f9⟩:=f;unfold nb;simp only[Ae,b9]at tr⊢;generalize (fm t f8).isSome=b at*;generalize (fm t f8).getD j5=r at*;obtain⟨n0,⟨c1,c2,c3,c4,c5,c6⟩,cb,mn,m2,ch,rf,jb⟩:=r;simp only[cx,b8.row,aS,a8]at tr⊢;simp(disch:=first|omega|(simp only[ai];omega)) only[Ru,c9,hc,fK,aj,↓eA,eB,aq,seval];refine⟨?_,?_⟩;all_goals
  refine(tr _).then ?_
  simp(disch:=first|omega|(simp only[ai];omega)) only[aj,↓eA,eB,aq,seval];exact⟨_,S,hn.dO _,.bX rfl,ah _,rfl,rfl⟩
theorem adF(l:List Int)(hl:l.length≤1000000000)(n:Int)(S:ae):ak Tryz.prog 145 [.sl 1 (l.map iu),.int .i64 n] S fun r S'=>(∃z:Int,r= .int .i64 z∧decide (0≤z)=l.contains n)∧S'=S:=by
 refine ak.bW Tryz.func145 abC (U rfl) fun σ b_=>?_;simp(disch:=first|omega|(simp only[ai];omega)) only[RM,aj,↓eA,eB,aq,seval];refine cH (ι:=Nat) (fun k=>[(0,.sl 1 (l.map iu)),(1,.int .i64 n),(6,.sl 1 (l.map iu)),(7,.int .i64 l.length),(8,.int .i64 (k:Nat))]) (fun _=>S) (fun k=>k≤l.length∧l.contains n=(l.drop k).contains n) (fun k=>l.length-k) 0 ⟨az _,rfl⟩ ?_ rfl ?_
 ·simp only[↓eA,eB,aq,seval];try rfl
 rintro k ⟨hk,hi⟩;cases hc:l[k]? with
 |none=>
  obtain⟨eh,he⟩:=dE hc;have aR:¬((k:Int)<l.length):=by omega
  rw[he]at hi;simp(disch:=first|omega|(simp only[ai];omega)) only[dF aR,aj,↓eA,eB,aq,seval];exact⟨_,rfl,by rw[hi];rfl⟩
 |some x=>
  have cK:=(List.getElem?_eq_some_iff.1 hc).1;have aR:(k:Int)<l.length:=by omega
  have cN:(k:Int)+1=((k+1:Nat):Int):=by omega
  rw[mB hc,List.contains_cons]at hi;by_cases h:n=x
  ·simp(disch:=first|omega|(simp only[ai];omega)) only[dT aR,hc,iu,dT h,aj,↓eA,eB,aq,seval];exact⟨_,rfl,by rw[hi,h];simp⟩
  ·rw[show(n==x)=false by simpa using h,cQ]at hi;simp(disch:=first|omega|(simp only[ai];omega)) only[dT aR,hc,iu,dF h,wrap_i64,cN,aj,↓eA,eB,aq,seval];exact⟨k+1,⟨by omega,hi⟩,by omega,by first|rfl|exact⟨rfl,rfl⟩|exact⟨rfl,rfl,rfl⟩⟩
theorem aa0(l:List Int)(hl:l.length≤1000000000)(n:Int)(S:ae):ak Tryz.prog 110 [.sl 1 (l.map iu),.int .i64 n] S fun r S'=>r= .bool (l.contains n)∧S'=S:=by
 refine ak.bW Tryz.func110 abH (U rfl) fun σ b_=>?_;simp(disch:=first|omega|(simp only[ai];omega)) only[RV,aj,↓eA,eB,aq,seval];refine(adF l hl n _).mono ?_;rintro r S2 ⟨⟨z,rfl,hz⟩,rfl⟩;simp(disch:=first|omega|(simp only[ai];omega)) only[hz,aj,↓eA,eB,aq,seval]
def SB(a:o9)(n:Int):Bool:=decide (a.comb=[])||a.comb.contains n
def vH(a b:o9):Bool:=SB a b.n&&SB b a.n
theorem NU(a b:o9)(ha:a.comb.length≤1000000000)(S:ae):ak Tryz.prog 109 [.agg (cx a),.agg (cx b)] S fun r S'=>r= .bool (SB a b.n)∧S'=S:=by
 refine ak.bW Tryz.func109 abI (U rfl) fun σ b_=>?_;obtain⟨n0,⟨c1,c2,c3,c4,c5,c6⟩,cb,mn,m2,ch,rf,jb⟩:=a;obtain⟨n1,⟨d1,d2,d3,d4,d5,d6⟩,cb1,mn1,m21,ch1,rf1,adl⟩:=b;simp only at ha;have hi:=fun S=>aa0 cb ha n1 S;unfold SB;simp only;by_cases h:cb=[]
 ·subst h;simp(disch:=first|omega|(simp only[ai];omega)) only[F_,cx,b8.row,bz,aj,↓eA,eB,aq,seval];rfl
 ·have h0:¬((cb.length:Nat):Int)=0:=by have:=List.length_pos_iff.2 h;omega
  rw[dF h,cQ];simp(disch:=first|omega|(simp only[ai];omega)) only[F_,cx,b8.row,dF h0,aj,↓eA,eB,aq,seval];refine(hi _).then ?_
  simp(disch:=first|omega|(simp only[ai];omega)) only[aj,↓eA,eB,aq,seval]
theorem adv(a b:o9)(ha:a.comb.length≤1000000000)(hb:b.comb.length≤1000000000)(S:ae):ak Tryz.prog 64 [.agg (cx a),.agg (cx b)] S fun r S'=>r= .bool (vH a b)∧S'=S:=by
 refine ak.bW Tryz.func64 abO (U rfl) fun σ b_=>?_;have h1:=fun S=>NU a b ha S;have h2:=fun S=>NU b a hb S;unfold vH;generalize SB a b.n=x at*;generalize SB b a.n=y at*;obtain⟨n0,⟨c1,c2,c3,c4,c5,c6⟩,cb,mn,m2,ch,rf,jb⟩:=a;obtain⟨n1,⟨d1,d2,d3,d4,d5,d6⟩,cb1,mn1,m21,ch1,rf1,adl⟩:=b;simp only[cx,b8.row,aS,a8]at h1 h2⊢;simp(disch:=first|omega|(simp only[ai];omega)) only[R1,aj,↓eA,eB,aq,seval];refine(h1 _).then ?_
 cases x with
 |false=>simp(disch:=first|omega|(simp only[ai];omega)) only[aO,aj,↓eA,eB,aq,seval]
 |true=>
  simp(disch:=first|omega|(simp only[ai];omega)) only[aX,aj,↓eA,eB,aq,seval];refine(h2 _).then ?_
  simp(disch:=first|omega|(simp only[ai];omega)) only[aj,↓eA,eB,aq,seval]
theorem BU(a:o9)(n:Int)(ha:a.comb.length≤1000000000)(S:ae):ak Tryz.prog 214 [.agg (cx a),.int .i64 n] S fun r S'=>r= .bool (SB a n)∧S'=S:=by
 refine ak.bW Tryz.func214 abl (U rfl) fun σ b_=>?_;obtain⟨n0,⟨c1,c2,c3,c4,c5,c6⟩,cb,mn,m2,ch,rf,jb⟩:=a;simp only at ha;unfold SB;simp(disch:=first|omega|(simp only[ai];omega)) only[Rq,cx,b8.row,aj,↓eA,eB,aq,seval];refine cH (ι:=Nat) (fun k=>[(1,.int .i64 n),(2,.bK (cx ⟨n0,.mk c1 c2 c3 c4 c5 c6,cb,mn,m2,ch,rf,jb⟩)),(5,.int .i64 (k:Nat))]) (fun _=>S) (fun k=>k≤cb.length∧cb.contains n=(cb.drop k).contains n) (fun k=>cb.length-k) 0 ⟨az _,rfl⟩ ?_ rfl ?_
 ·simp only[cx,b8.row,↓eA,eB,aq,seval];try rfl
 rintro k ⟨hk,hi⟩;cases hc:cb[k]? with
 |none=>
  obtain⟨eh,he⟩:=dE hc;have aR:¬((k:Int)<cb.length):=by omega
  rw[he]at hi;rw[hi];by_cases h:cb=[]
  ·subst h;obtain rfl:k=0:=by simpa using hk
   simp(disch:=first|omega|(simp only[ai];omega)) only[cx,b8.row,bz,aj,↓eA,eB,aq,seval];rfl
  ·have h0:¬((cb.length:Nat):Int)=0:=by have:=List.length_pos_iff.2 h;omega
   rw[dF h];simp(disch:=first|omega|(simp only[ai];omega)) only[dF aR,cx,b8.row,dF h0,aj,↓eA,eB,aq,seval];rfl
 |some x=>
  have cK:=(List.getElem?_eq_some_iff.1 hc).1;have aR:(k:Int)<cb.length:=by omega
  have cN:(k:Int)+1=((k+1:Nat):Int):=by omega
  rw[mB hc,List.contains_cons]at hi;by_cases h:x=n
  ·rw[hi,h,show(n==n)=true by simp,eS,mf];simp(disch:=first|omega|(simp only[ai];omega)) only[dT aR,hc,iu,dT h,cx,b8.row,aj,↓eA,eB,aq,seval]
  ·rw[show(n==x)=false by simpa using fun e=>h e.symm,cQ]at hi;simp(disch:=first|omega|(simp only[ai];omega)) only[dT aR,hc,iu,dF h,wrap_i64,cN,cx,b8.row,aj,↓eA,eB,aq,seval];exact⟨k+1,⟨by omega,hi⟩,by omega,by first|rfl|exact⟨rfl,rfl⟩|exact⟨rfl,rfl,rfl⟩⟩
theorem ZV(a b:o9)(ha:a.comb.length≤1000000000)(hb:b.comb.length≤1000000000)(S:ae):ak Tryz.prog 190 [.agg (cx a),.agg (cx b)] S fun r S'=>r= .bool (vH a b)∧S'=S:=by
 refine ak.bW Tryz.func190 abq (U rfl) fun σ b_=>?_;have h1:=fun S=>BU a b.n ha S;have h2:=fun S=>BU b a.n hb S;unfold vH;generalize SB a b.n=x at*;generalize SB b a.n=y at*;obtain⟨n0,⟨c1,c2,c3,c4,c5,c6⟩,cb,mn,m2,ch,rf,jb⟩:=a;obtain⟨n1,⟨d1,d2,d3,d4,d5,d6⟩,cb1,mn1,m21,ch1,rf1,adl⟩:=b;simp only[cx,b8.row,aS,a8]at h1 h2⊢;simp(disch:=first|omega|(simp only[ai];omega)) only[Rv,aj,↓eA,eB,aq,seval];refine(h1 _).then ?_
 cases x with
 |false=>simp(disch:=first|omega|(simp only[ai];omega)) only[aO,aj,↓eA,eB,aq,seval]
 |true=>
  simp(disch:=first|omega|(simp only[ai];omega)) only[aX,aj,↓eA,eB,aq,seval];refine(h2 _).then ?_
  simp(disch:=first|omega|(simp only[ai];omega)) only[aj,↓eA,eB,aq,seval]
def xQ(r:o9)(a b:Int):Int:=if a<0∨36525≤a∨b<0∨36525≤b then 12 else if b-a<r.mn∨(0<r.mx∧r.mx<b-a)then 24 else 0
theorem L_(r:o9)(a b:Int)(S:ae):ak Tryz.prog 67 [.agg (cx r),.int .i64 a,.int .i64 b] S fun v S'=>v= .int .i64 (xQ r a b)∧S'=S:=by
 refine ak.bW Tryz.func67 abN (U rfl) fun σ b_=>?_;obtain⟨n0,⟨c1,c2,c3,c4,c5,c6⟩,cb,mn,m2,ch,rf,jb⟩:=r;unfold xQ;simp only;by_cases h1:a<0
 ·rw[aK (.inl h1)];simp(disch:=first|omega|(simp only[ai];omega)) only[nP,cx,b8.row,dT h1,aj,↓eA,eB,aq,seval]
 by_cases h2:36525≤a
 ·rw[aK (by omega)];simp(disch:=first|omega|(simp only[ai];omega)) only[nP,cx,b8.row,dF h1,dT h2,aj,↓eA,eB,aq,seval]
 by_cases h3:b<0
 ·rw[aK (by omega)];simp(disch:=first|omega|(simp only[ai];omega)) only[nP,cx,b8.row,dF h1,dF h2,dT h3,aj,↓eA,eB,aq,seval]
 by_cases h4:36525≤b
 ·rw[aK (by omega)];simp(disch:=first|omega|(simp only[ai];omega)) only[nP,cx,b8.row,dF h1,dF h2,dF h3,dT h4,aj,↓eA,eB,aq,seval]
 rw[aC (by omega)];have hw:IntKind.i64.wrap (b-a)=b-a:=wrap_i64 (by omega) (by omega);by_cases h5:b-a<mn
 ·rw[aK (.inl h5)];simp(disch:=first|omega|(simp only[ai];omega)) only[nP,cx,b8.row,dF h1,dF h2,dF h3,dF h4,hw,dT h5,aj,↓eA,eB,aq,seval]
 by_cases h6:0<m2
 ·by_cases h7:m2<b-a
  ·rw[aK (.inr ⟨h6,h7⟩)];simp(disch:=first|omega|(simp only[ai];omega)) only[nP,cx,b8.row,dF h1,dF h2,dF h3,dF h4,hw,dF h5,dT h6,dT h7,aj,↓eA,eB,aq,seval]
  ·rw[aC (by omega)];simp(disch:=first|omega|(simp only[ai];omega)) only[nP,cx,b8.row,dF h1,dF h2,dF h3,dF h4,hw,dF h5,dT h6,dF h7,aj,↓eA,eB,aq,seval]
 ·rw[aC (by omega)];simp(disch:=first|omega|(simp only[ai];omega)) only[nP,cx,b8.row,dF h1,dF h2,dF h3,dF h4,hw,dF h5,dF h6,aj,↓eA,eB,aq,seval]
end Go.Proofs.YtfgkgmmnldocaaaGreatDoor
namespace Go.Proofs.YtfgkgmmnldocaaaGreatDoor
open Go Go.AL
variable[Go.AL.Mode][Go.AL.bR]
def Eg(p:fO)(s:Sg):Bool:=(p.1.find? fun a=>decide (a.code=s.f)).isSome
def p6(p:fO)(s:Sg):Int:=(ew (iX (c_ p s.f).off (c_ p s.f).sh s.dep)).1
theorem H9(o:Int)(sh:List (Int×Int))(u:Int): -9223372036854775808≤iX o sh u∧iX o sh u<9223372036854775808:=by
 exact ox _
theorem DA(p:fO)(hp:p.1.length≤1000)(hz:mH p)(w:List gv)(x:Pa)(i:Nat)(hx:x.fr=(i:Nat))(s:gv)(hc:w[i]?=some s)(S:ae):
 ak Tryz.prog 66 [dV p,.sl 8 (w.map cR),.agg (c9 x)] S fun r S'=>r= .dI [.int .i64 (p6 p s.s),.bool (Eg p s.s)]∧S'=S:=by
 refine ak.bp Tryz.func66 Qi fun hn=>?_;refine ak.fin Tryz.func66 Qi (U rfl) fun σ b_=>?_;obtain⟨xf,xt,xx,xa⟩:=x;simp only at hx;subst hx;obtain⟨⟨sc,sn,sd,sf,st,sp,sa⟩,cl⟩:=s;have fd:=fun S=>IC p sf S hp;have hza:=uK hz sf;unfold p6 Eg;simp only[dV]at fd⊢;generalize (p.1.find? fun a=>decide (a.code=sf)).isSome=b at*;generalize c_ p sf=a at*;obtain⟨a1,a2,a3,off,sh⟩:=a;have lo:=fun S=>H8 off sh (by have:=hza.1;simp only at this;omega) sp S;have hr:=H9 off sh sp;have sl:=fun S=>G0 (iX off sh sp) hr.1 hr.2 S;simp only[dG]at fd;simp(disch:=first|omega|(simp only[ai];omega)) only[RY,c9,hc,cR,gl,aj,↓eA,eB,aq,seval];refine(fd _).then ?_
 simp(disch:=first|omega|(simp only[ai];omega)) only[aj,↓eA,eB,aq,seval];refine(lo _).then ?_
 simp(disch:=first|omega|(simp only[ai];omega)) only[aj,↓eA,eB,aq,seval];refine(sl _).then ?_
 simp(disch:=first|omega|(simp only[ai];omega)) only[aj,↓eA,eB,aq,seval];exact⟨_,S,hn.dO _,.bX rfl,ah _,rfl,rfl⟩
def dyV(p:fO)(s:Sg):V:=if Eg p s=true then .dI [.int .i64 (p6 p s),.int .i64 0]else .dI [.int .i64 0,.int .i64 14]
theorem WX(p:fO)(hp:p.1.length≤1000)(hz:mH p)(s:Sg)(S:ae):ak Tryz.prog 215 [dV p,.agg (gl s)] S fun r S'=>r=dyV p s∧S'=S:=by
 refine ak.bp Tryz.func215 P4 fun hn=>?_;refine ak.fin Tryz.func215 P4 (U rfl) fun σ b_=>?_;obtain⟨sc,sn,sd,sf,st,sp,sa⟩:=s;have fd:=fun S=>BX p sf S hp;have hza:=uK hz sf;unfold dyV p6 Eg;simp only[dV]at fd⊢;generalize (p.1.find? fun a=>decide (a.code=sf)).isSome=b at*;generalize c_ p sf=a at*;obtain⟨a1,a2,a3,off,sh⟩:=a;have lo:=fun S=>BV off sh (by have:=hza.1;simp only at this;omega) hza.2 sp S;have hr:=H9 off sh sp;have sl:=fun S=>BP (iX off sh sp) hr.1 hr.2 S;simp only[dG]at fd;simp(disch:=first|omega|(simp only[ai];omega)) only[Rp,gl,aj,↓eA,eB,aq,seval];refine(fd _).then ?_
 cases b with
 |false=>
  simp(disch:=first|omega|(simp only[ai];omega)) only[aj,↓eA,eB,aq,seval];exact⟨_,S,hn.dO _,.bX rfl,ah _,rfl,rfl⟩
 |true=>
  simp(disch:=first|omega|(simp only[ai];omega)) only[aj,↓eA,eB,aq,seval];refine(lo _).then ?_
  simp(disch:=first|omega|(simp only[ai];omega)) only[aj,↓eA,eB,aq,seval];refine(sl _).then ?_
  simp(disch:=first|omega|(simp only[ai];omega)) only[aj,↓eA,eB,aq,seval];exact⟨_,S,hn.dO _,.bX rfl,ah _,rfl,rfl⟩
def kQ(t:gk)(l:List Pa):List Fr:=l.map fun x=>(t.bE[x.dz.toNat]?).getD zFr
def xb(t:gk)(l:List Pa):List o9:=(kQ t l).map (nb t)
theorem lK{t:gk}{l:List Pa}(h:pT t l=true){k:Nat}{x:Pa}(hc:l[k]?=some x):∃(n:Nat) (f:Fr),x.dz=(n:Nat)∧t.bE[n]?=some f∧(kQ t l)[k]?=some f∧(xb t l)[k]?=some (nb t f):=by
 have h1:=List.all_eq_true.1 h x (aB hc);simp only[aL]at h1;obtain⟨f,hf⟩:∃f,t.bE[x.dz.toNat]?=some f:=⟨_,ax (by omega)⟩;have h2:(kQ t l)[k]?=some f:=by unfold kQ;rw[bn,hc,bU,hf];rfl
 exact⟨x.dz.toNat,f,by omega,hf,h2,by unfold xb;rw[bn,h2];rfl⟩
theorem mz(t:gk)(l:List Pa):(kQ t l).length=l.length:=by unfold kQ;simp
theorem Hq(t:gk)(l:List Pa):(xb t l).length=l.length:=by unfold xb;rw[aP,mz]
def Kd:List o9→List o9→Bool
 |_,[]=>true
 |pre,r::l=>pre.all (fun q=>vH r q)&&Kd (pre++[r]) l
def yl(t:gk)(l:List Pa):Int:=if pT t l=false then 19 else if Kd [] (xb t l)=true then 0 else 23
def Lh(t:gk):Prop:=∀r∈t.rules,r.comb.length≤1000000000
theorem I0{t:gk}(h:Lh t)(f:Fr):(nb t f).comb.length≤1000000000:=by
 unfold nb fm;cases hf:t.rules.find? fun r=>decide (r.n=f.iv)with
 |none=>exact az _
 |some r=>exact h r (pI hf)
theorem HX(t:gk)(tx:List (List V))(h1:t.bE.length≤1000000)(h2:t.rules.length≤1000000)(FC:Lh t)(l:List Pa)(hl:l.length≤1000000)(S:ae):
 ak Tryz.prog 34 [.agg (b9 t tx),.sl 4 (l.map c9)] S fun r S'=>r= .int .i64 (yl t l)∧S'=S:=by
 refine ak.bp Tryz.func34 Qm fun hn=>?_;refine ak.fin Tryz.func34 Qm (U rfl) fun σ b_=>?_;have pr:=fun S=>vp t tx h1 l hl S;have ro:=fun x n hx f hc S=>BN t tx h2 x n hx f hc S;have mi:=fun f g S=>adv (nb t f) (nb t g) (I0 FC f) (I0 FC g) S;unfold yl;simp only[b9]at pr ro⊢;simp(disch:=first|omega|(simp only[ai];omega)) only[R6,aj,↓eA,eB,aq,seval];refine(pr _).then ?_
 cases hk:pT t l with
 |false=>
  simp(disch:=first|omega|(simp only[ai];omega)) only[aj,↓eA,eB,aq,seval];exact⟨_,S,hn.self,.bX rfl,ah _,rfl,rfl⟩
 |true=>
 rw[aC (by simp)];simp(disch:=first|omega|(simp only[ai];omega)) only[aj,↓eA,eB,aq,seval];obtain⟨c2,jn⟩:∃c2,c2=V.bK [.sl 9 (t.bE.map fK),.sl 15 (t.rules.map cx),.sl 3 (t.cS.map eP),.sl 7 tx]:=⟨_,rfl⟩;refine dm (ι:=Nat×ae) (fun i=>[(1,.sl 4 (l.map c9)),(2,c2),(13,.sl 4 (l.map c9)),(14,.int .i64 l.length),(15,.int .i64 (i.1:Nat))]) (fun i=>i.2) (fun i=>i.1≤l.length∧Kd [] (xb t l)=Kd ((xb t l).take i.1) ((xb t l).drop i.1)∧∃T,i.2=S++T) (fun i=>l.length-i.1) (fun i hi=>by rw[b_];obtain⟨T,hT⟩:=hi.2.2;rw[hT];simp) (0,S) ⟨az _,rfl,[],by simp⟩ (.inl ⟨?_,rfl⟩) ?_
 ·rw[jn];simp only[↓eA,eB,aq,seval];try rfl
 rintro⟨k,S1⟩ ⟨pX,hi,T,hT⟩;simp only at pX hi hT⊢;cases hc:l[k]? with
 |none=>
  obtain⟨eh,he⟩:=dE hc;have aR:¬((k:Int)<l.length):=by omega
  rw[uo (by rw[Hq];omega)]at hi;rw[hi];simp(disch:=first|omega|(simp only[ai];omega)) only[dF aR,aj,↓eA,eB,aq,seval];exact⟨_,S,by rw[hT];exact hn.dO _,.bX rfl,ah _,rfl,rfl⟩
 |some x=>
  have cK:=(List.getElem?_eq_some_iff.1 hc).1;have aR:(k:Int)<l.length:=by omega
  have cN:(k:Int)+1=((k+1:Nat):Int):=by omega
  obtain⟨n,f,x1,x2,x3,x4⟩:=lK hk hc;have rx:=fun S=>ro x n x1 f x2 S;have hb:ae.bq (S1++[⟨0,some (.arr 38 4 [c9 x])⟩]) S1.length 0=some (38,4,[c9 x]):=dP.trans cE;have jU:∃T2,S1++[⟨0,some (.arr 38 4 [c9 x])⟩]=S++T2:=⟨T++_,by rw[hT];exact bG ..⟩;rw[mB x4,Kd,←kN x4]at hi;have Bd:(l.take k).length=k:=by rw[bV];omega
  unfold c9 at hb jU;simp(disch:=first|omega|(simp only[ai];omega)) only[dT aR,hc,c9,aj,↓eA,eB,aq,seval];rw[aK (by omega)];simp(disch:=first|omega|(simp only[ai];omega)) only[aj,↓eA,eB,aq,seval];generalize hb6:S1.length=b6 at*;generalize (S1++[_]:ae)=S2 at hb jU⊢;refine dm (ι:=Nat×ae) (fun i=>[(1,.sl 4 (l.map c9)),(2,c2),(6,.ptr b6 0 0 0),(13,.sl 4 (l.map c9)),(14,.int .i64 l.length),(15,.int .i64 (k:Nat)),(22,.sl 4 ((l.take k).map c9)),(23,.int .i64 (k:Nat)),(24,.int .i64 (i.1:Nat))]) (fun i=>i.2)
   (fun i=>i.1≤k∧((xb t l).take k).all (fun q=>vH (nb t f) q)=(((xb t l).take k).drop i.1).all (fun q=>vH (nb t f) q)∧ae.bq i.2 b6 0=some (38,4,[[.int .i64 x.fr,.int .i64 x.to,.int .i64 x.dz,.int .i64 x.am]])∧∃T2,i.2=S++T2) (fun i=>k-i.1)
   (fun i hi=>by rw[b_];obtain⟨T2,hT⟩:=hi.2.2.2;rw[hT];simp) (0,S2) ⟨az _,rfl,hb,jU⟩ (.inl ⟨?_,rfl⟩) ?_
  ·simp only[Bd,↓eA,eB,aq,seval];try rfl
  clear hb jU S2;rintro⟨j,S3⟩ ⟨hj,kh,hb,T3,Uw⟩;simp only at hj kh hb Uw⊢;by_cases Uk:j<k
  ·have hlj:(j:Int)<(k:Nat):=by omega
   have hj1:(j:Int)+1=((j+1:Nat):Int):=by omega
   obtain⟨y,hy⟩:∃y,l[j]?=some y:=⟨_,ax (by omega)⟩;obtain⟨m,g,y1,y2,y3,y4⟩:=lK hk hy;have ry:=fun S=>ro y m y1 g y2 S;have hyt:(l.take k)[j]?=some y:=by rw[List.getElem?_take_of_lt Uk];exact hy
   have y4t:((xb t l).take k)[j]?=some (nb t g):=by rw[List.getElem?_take_of_lt Uk];exact y4
   have pY:=fc (X:=[⟨0,some (.arr 38 4 [[.int .i64 y.fr,.int .i64 y.to,.int .i64 y.dz,.int .i64 y.am]])⟩]) hb;rw[AX y4t]at kh;unfold c9 at rx ry;rw[jn];simp(disch:=first|omega|(simp only[ai];omega)) only[dT hlj,hyt,c9,hb,pY,aj,↓eA,eB,aq,seval];refine qv.intro (rx _) ?_;simp(disch:=first|omega|(simp only[ai];omega)) only[aj,↓eA,eB,aq,seval];refine(ry _).then ?_
   simp(disch:=first|omega|(simp only[ai];omega)) only[aj,↓eA,eB,aq,seval];refine(mi f g _).then ?_
   cases hm:vH (nb t f) (nb t g)with
   |false=>
    rw[hm,aO]at kh;rw[kh,aO]at hi;rw[hi];simp(disch:=first|omega|(simp only[ai];omega)) only[aj,↓eA,eB,aq,seval];subst Uw;exact⟨_,S,by rw[bG];exact hn.dO _,.bX rfl,ah _,rfl,rfl⟩
   |true=>
    rw[hm,aX]at kh;simp(disch:=first|omega|(simp only[ai];omega)) only[wrap_i64,hj1,aj,↓eA,eB,aq,seval];exact⟨(j+1,_),⟨by simp only;omega,kh,pY,T3++_,by rw[Uw];exact bG ..⟩,by simp only;omega,.inl ⟨by simp only[jn,↓eA,eB,aq,seval];try rfl,rfl⟩⟩
  ·have hlj:¬(j:Int)<(k:Nat):=by omega
   rw[uo (by rw[bV];omega)]at kh;rw[kh,gx,aX]at hi;simp(disch:=first|omega|(simp only[ai];omega)) only[dF hlj,wrap_i64,cN,aj,↓eA,eB,aq,seval];exact⟨(k+1,S3),⟨by simp only;omega,hi,T3,Uw⟩,by simp only;omega,.inl ⟨by simp only[↓eA,eB,aq,seval];try rfl,rfl⟩⟩
theorem MY(t:gk)(tx:List (List V))(h1:t.bE.length≤1000000)(h2:t.rules.length≤1000000)(FC:Lh t)(l:List Pa)(hl:l.length≤1000000)(S:ae):
 ak Tryz.prog 164 [.agg (b9 t tx),.sl 4 (l.map c9)] S fun r S'=>r= .int .i64 (yl t l)∧S'=S:=by
 refine ak.bW Tryz.func164 abw (U rfl) fun σ b_=>?_;have pr:=fun S=>BW t tx h1 l hl S;have ro:=fun x n hx f hc S=>vi t tx h2 x n hx f hc S;have mi:=fun f g S=>ZV (nb t f) (nb t g) (I0 FC f) (I0 FC g) S;unfold yl;simp only[b9]at pr ro⊢;simp(disch:=first|omega|(simp only[ai];omega)) only[RD,aj,↓eA,eB,aq,seval];refine(pr _).then ?_
 cases hk:pT t l with
 |false=>simp(disch:=first|omega|(simp only[ai];omega)) only[aj,↓eA,eB,aq,seval];try rfl
 |true=>
 rw[aC (by simp)];simp(disch:=first|omega|(simp only[ai];omega)) only[aj,↓eA,eB,aq,seval];obtain⟨c2,jn⟩:∃c2,c2=V.bK [.sl 9 (t.bE.map fK),.sl 15 (t.rules.map cx),.sl 3 (t.cS.map eP),.sl 7 tx]:=⟨_,rfl⟩;refine cH (ι:=Nat) (fun i=>[(1,.sl 4 (l.map c9)),(2,c2),(5,.int .i64 (i:Nat))]) (fun i=>S) (fun i=>i≤l.length∧Kd [] (xb t l)=Kd ((xb t l).take i) ((xb t l).drop i)) (fun i=>l.length-i) 0 ⟨az _,rfl⟩ ?_ rfl ?_
 ·rw[jn];simp only[↓eA,eB,aq,seval];try rfl
 rintro k ⟨pX,hi⟩;cases hc:l[k]? with
 |none=>
  obtain⟨eh,he⟩:=dE hc;have aR:¬((k:Int)<l.length):=by omega
  rw[uo (by rw[Hq];omega)]at hi;rw[hi];simp(disch:=first|omega|(simp only[ai];omega)) only[dF aR,aj,↓eA,eB,aq,seval];try rfl
 |some x=>
  have cK:=(List.getElem?_eq_some_iff.1 hc).1;have aR:(k:Int)<l.length:=by omega
  have cN:(k:Int)+1=((k+1:Nat):Int):=by omega
  obtain⟨n,f,x1,x2,x3,x4⟩:=lK hk hc;have rx:=fun S=>ro x n x1 f x2 S;rw[mB x4,Kd,←kN x4]at hi;simp(disch:=first|omega|(simp only[ai];omega)) only[dT aR,aj,↓eA,eB,aq,seval];refine cH (ι:=Nat) (fun i=>[(1,.sl 4 (l.map c9)),(2,c2),(5,.int .i64 (k:Nat)),(6,.int .i64 (i:Nat))]) (fun i=>S)
   (fun i=>i≤k∧((xb t l).take k).all (fun q=>vH (nb t f) q)=(((xb t l).take k).drop i).all (fun q=>vH (nb t f) q)) (fun i=>k-i) 0 ⟨az _,rfl⟩ ?_ rfl ?_
  ·simp only[↓eA,eB,aq,seval];try rfl
  rintro j ⟨hj,kh⟩;by_cases Uk:j<k
  ·have hlj:(j:Int)<(k:Nat):=by omega
   have hj1:(j:Int)+1=((j+1:Nat):Int):=by omega
   obtain⟨y,hy⟩:∃y,l[j]?=some y:=⟨_,ax (by omega)⟩;obtain⟨m,g,y1,y2,y3,y4⟩:=lK hk hy;have ry:=fun S=>ro y m y1 g y2 S;have y4t:((xb t l).take k)[j]?=some (nb t g):=by rw[List.getElem?_take_of_lt Uk];exact y4
   rw[AX y4t]at kh;unfold c9 at rx ry;rw[jn];simp(disch:=first|omega|(simp only[ai];omega)) only[dT hlj,hc,hy,c9,aj,↓eA,eB,aq,seval];refine qv.intro (rx _) ?_;simp(disch:=first|omega|(simp only[ai];omega)) only[aj,↓eA,eB,aq,seval];refine(ry _).then ?_
   simp(disch:=first|omega|(simp only[ai];omega)) only[aj,↓eA,eB,aq,seval];refine(mi f g _).then ?_
   cases hm:vH (nb t f) (nb t g)with
   |false=>
    rw[hm,aO]at kh;rw[kh,aO]at hi;rw[hi];simp(disch:=first|omega|(simp only[ai];omega)) only[aj,↓eA,eB,aq,seval];try rfl
   |true=>
    rw[hm,aX]at kh;simp(disch:=first|omega|(simp only[ai];omega)) only[wrap_i64,hj1,aj,↓eA,eB,aq,seval];exact⟨j+1,⟨by omega,kh⟩,by omega,by first|rfl|exact⟨rfl,rfl⟩|exact⟨rfl,rfl,rfl⟩|simp only[jn]⟩
  ·have hlj:¬(j:Int)<(k:Nat):=by omega
   rw[uo (by rw[bV];omega)]at kh;rw[kh,gx,aX]at hi;simp(disch:=first|omega|(simp only[ai];omega)) only[dF hlj,wrap_i64,cN,aj,↓eA,eB,aq,seval];exact⟨k+1,⟨by omega,hi⟩,by omega,by first|rfl|exact⟨rfl,rfl⟩|exact⟨rfl,rfl,rfl⟩⟩
end Go.Proofs.YtfgkgmmnldocaaaGreatDoor
