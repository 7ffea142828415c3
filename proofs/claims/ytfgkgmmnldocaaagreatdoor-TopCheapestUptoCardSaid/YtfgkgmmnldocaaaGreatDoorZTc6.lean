/- Tc6 -/
import Derived.Test.YtfgkgmmnldocaaaGreatDoorZTc4
set_option linter.unusedSectionVars false
set_option linter.unusedSimpArgs false
set_option linter.unusedVariables false
set_option maxHeartbeats 4000000
namespace Go.Proofs.YtfgkgmmnldocaaaGreatDoor
open Go Go.AL
variable[Go.AL.Mode][Go.AL.bR]
theorem Ho(r:o9)(a b:Int)(S:ae):ak Tryz.prog 216 [.agg (cx r),.int .i64 a,.int .i64 b] S fun v S'=>v= .int .i64 (xQ r a b)∧S'=S:=by
 refine ak.bW Tryz.func216 abk (U rfl) fun σ b_=>?_;obtain⟨n0,⟨c1,c2,c3,c4,c5,c6⟩,cb,mn,m2,ch,rf,jb⟩:=r;unfold xQ;simp only;by_cases h1:a<0
 ·rw[aK (.inl h1)];simp(disch:=first|omega|(simp only[ai];omega)) only[nO,cx,b8.row,dT h1,aj,↓eA,eB,aq,seval]
 by_cases h2:36525≤a
 ·rw[aK (by omega)];simp(disch:=first|omega|(simp only[ai];omega)) only[nO,cx,b8.row,dF h1,dT h2,aj,↓eA,eB,aq,seval]
 by_cases h3:b<0
 ·rw[aK (by omega)];simp(disch:=first|omega|(simp only[ai];omega)) only[nO,cx,b8.row,dF h1,dF h2,dT h3,aj,↓eA,eB,aq,seval]
 by_cases h4:36525≤b
 ·rw[aK (by omega)];simp(disch:=first|omega|(simp only[ai];omega)) only[nO,cx,b8.row,dF h1,dF h2,dF h3,dT h4,aj,↓eA,eB,aq,seval]
 rw[aC (by omega)];have hw:IntKind.i64.wrap (b-a)=b-a:=wrap_i64 (by omega) (by omega);by_cases h5:b-a<mn
 ·rw[aK (.inl h5)];simp(disch:=first|omega|(simp only[ai];omega)) only[nO,cx,b8.row,dF h1,dF h2,dF h3,dF h4,hw,dT h5,aj,↓eA,eB,aq,seval]
 by_cases h6:0<m2
 ·by_cases h7:m2<b-a
  ·rw[aK (.inr ⟨h6,h7⟩)];simp(disch:=first|omega|(simp only[ai];omega)) only[nO,cx,b8.row,dF h1,dF h2,dF h3,dF h4,hw,dF h5,dT h6,dT h7,aj,↓eA,eB,aq,seval]
  ·rw[aC (by omega)];simp(disch:=first|omega|(simp only[ai];omega)) only[nO,cx,b8.row,dF h1,dF h2,dF h3,dF h4,hw,dF h5,dT h6,dF h7,aj,↓eA,eB,aq,seval]
 ·rw[aC (by omega)];simp(disch:=first|omega|(simp only[ai];omega)) only[nO,cx,b8.row,dF h1,dF h2,dF h3,dF h4,hw,dF h5,dF h6,aj,↓eA,eB,aq,seval]
theorem DE{n:Int}:∀{l:List Pa} {a:Int},pP n a l=true→0≤a→a≤n∧∀x∈l,0≤x.fr∧x.fr<x.to∧x.to≤n
 |[],a,h,h0=>⟨Int.le_of_eq (gw h),by simp⟩
 |x::l,a,h,h0=>by
  rw[pP]at h;simp only[aW,aL]at h;obtain⟨h1,h2,h3⟩:=h;obtain⟨k1,k2⟩:=DE h3 (by omega);refine⟨by omega,fun y hy=>?_⟩;rcases List.mem_cons.1 hy with rfl|hy
  ·exact⟨by omega,h2,k1⟩
  ·exact k2 y hy
theorem sH{l:List Pa}{w:List gv}(h:pQ l w.length=true){k:Nat}{x:Pa}(hc:l[k]?=some x):∃(a:Nat) (s:gv),x.fr=(a:Nat)∧w[a]?=some s:=by
 unfold pQ at h;have h1:=(DE (Bool.and_eq_true_iff.1 h).2 (cM _)).2 x (aB hc);exact⟨x.fr.toNat,w[x.fr.toNat]'(by omega),by omega,ax _⟩
theorem zX{fl:List Fr}{m:Nat}:∀{n i:Nat} {ps qs:List (Nat×Nat)},i+n≤m→fl.length≤m→(∀p∈ps,p.1<m∧p.2<m)→rI fl n i ps=some qs→∀p∈qs,p.1<m∧p.2<m
 |0,i,ps,qs,_,_,h,e=>by cases e;exact h
 |n+1,i,ps,qs,hm,hf,h,e=>by
  rw[rI]at e;by_cases hi:(!(ue fl i).BS||w4 ps i)=true
  ·rw[aK hi]at e;exact zX (by omega) hf h e
  ·rw[aC hi]at e;cases hp:J5 fl ps i with
   |none=>rw[hp]at e;cases e
   |some k=>
    rw[hp]at e;have hr:=IG hp;refine zX (by omega) hf (fun p Kz=>?_) e;rcases List.mem_append.1 Kz with h1|h1
    ·exact h p h1
    ·rw[List.mem_singleton.1 h1];exact⟨by simp only;omega,by simp only;omega⟩
theorem Hx{t:gk}{l:List Pa}{ps:List (Nat×Nat)}(h:B8 t l=some ps):∀p∈ps,p.1<l.length∧p.2<l.length:=by
 have:=mz t l;exact zX (by omega) (by omega) (by simp) h
def zSg:Sg:=⟨[],0,0,[],[],0,0⟩
def ag_:gv:=⟨zSg,[]⟩
def rU(w:List gv)(l:List Pa)(k:Nat):Sg:=((w[(((l[k]?).getD ⟨0,0,0,0⟩).fr).toNat]?).getD ag_).s
def JY(t:gk)(l:List Pa)(k:Nat):o9:=nb t (ue (kQ t l) k)
def Sj(p:fO)(t:gk)(w:List gv)(l:List Pa)(q:Nat×Nat):Int:=
 if(Eg p (rU w l q.1)&&Eg p (rU w l q.2))=true then
  if xQ (JY t l q.1) (p6 p (rU w l q.1)) (p6 p (rU w l q.2))≠0 then xQ (JY t l q.1) (p6 p (rU w l q.1)) (p6 p (rU w l q.2))else xQ (JY t l q.2) (p6 p (rU w l q.1)) (p6 p (rU w l q.2))
 else 14
def Ba(p:fO)(t:gk)(w:List gv)(l:List Pa):List (Nat×Nat)→Int
 |[]=>0
 |q::r=>if Sj p t w l q≠0 then Sj p t w l q else Ba p t w l r
theorem G3{w:List gv}{l:List Pa}{k a:Nat}{x:Pa}{s:gv}(hc:l[k]?=some x)(ha:x.fr=(a:Nat))(hs:w[a]?=some s):rU w l k=s.s:=by
 unfold rU;rw[hc,bL,ha,cn,hs];rfl
theorem Hr{t:gk}{l:List Pa}{k:Nat}{f:Fr}(h:(kQ t l)[k]?=some f):JY t l k=nb t f:=by unfold JY;rw[tC h]
theorem SX(p:fO)(hp:p.1.length≤1000)(hz:mH p)(t:gk)(tx:List (List V))(h1:t.bE.length≤1000000)(h2:t.rules.length≤1000000)(w:List gv)(l:List Pa)(hl:l.length≤100000)(hF:pQ l w.length=true)
 (hk:pT t l=true)(ps:List (Nat×Nat))(pC:B8 t l=some ps)(pV:ps.length≤1000000)(S:ae):
 ak Tryz.prog 35 [dV p,.agg (b9 t tx),.sl 8 (w.map cR),.sl 4 (l.map c9)] S fun r S'=>r= .int .i64 (Ba p t w l ps)∧S'=S:=by
 refine ak.bp Tryz.func35 Ql fun hn=>?_;refine ak.fin Tryz.func35 Ql (U rfl) fun σ b_=>?_;have pr:=fun S=>HF t tx h1 l hl S;have de:=fun x i hx s hc S=>DA p hp hz w x i hx s hc S;have ro:=fun x n hx f hc S=>BN t tx h2 x n hx f hc S;have aaz:=Hx pC;unfold Lj at pr;rw[hk,aC (by simp),pC]at pr;simp only[dV,b9]at pr de ro⊢;obtain⟨c4,mN⟩:∃c4,c4=V.bK [.sl 5 (p.1.map dG),.sl 3 (p.2.map cZ)]:=⟨_,rfl⟩;obtain⟨c5,jm⟩:∃c5,c5=V.bK [.sl 9 (t.bE.map fK),.sl 15 (t.rules.map cx),.sl 3 (t.cS.map eP),.sl 7 tx]:=⟨_,rfl⟩;simp(disch:=first|omega|(simp only[ai];omega)) only[R5,aj,↓eA,eB,aq,seval];refine dm (ι:=Nat×ae) (fun i=>[(2,.sl 8 (w.map cR)),(3,.sl 4 (l.map c9)),(4,c4),(5,c5),(22,.sl 4 (l.map c9)),(23,.int .i64 l.length),(24,.int .i64 (i.1:Nat))]) (fun i=>i.2) (fun i=>i.1≤l.length∧∃T,i.2=S++T) (fun i=>l.length-i.1)
  (fun i hi=>by rw[b_];obtain⟨T,hT⟩:=hi.2;rw[hT];simp) (0,S) ⟨az _,[],by simp⟩ (.inl ⟨?_,rfl⟩) ?_
 ·rw[mN,jm];simp only[↓eA,eB,aq,seval];try rfl
 rintro⟨k,S1⟩ ⟨pX,T,hT⟩;simp only at pX hT⊢;cases hc:l[k]? with
 |some x=>
  have cK:=(List.getElem?_eq_some_iff.1 hc).1;have aR:(k:Int)<l.length:=by omega
  have cN:(k:Int)+1=((k+1:Nat):Int):=by omega
  obtain⟨a,s,ha,hs⟩:=sH hF hc;have haw:((a:Nat):Int)<w.length:=by have:=(List.getElem?_eq_some_iff.1 hs).1;omega
  have FF:¬((a:Nat):Int)<0:=by omega
  have aaY:¬((w.length:Nat):Int)≤a:=by omega
  simp(disch:=first|omega|(simp only[ai];omega)) only[dT aR,hc,c9,ha,dF FF,dF aaY,wrap_i64,cN,aj,↓eA,eB,aq,seval];exact⟨(k+1,_),⟨by simp only;omega,T++_,by rw[hT];exact bG ..⟩,by simp only;omega,.inl ⟨by simp only[↓eA,eB,aq,seval];try rfl,rfl⟩⟩
 |none=>
 obtain⟨eh,he⟩:=dE hc;have aR:¬((k:Int)<l.length):=by omega
 rw[mN,jm];simp(disch:=first|omega|(simp only[ai];omega)) only[dF aR,aj,↓eA,eB,aq,seval];refine(pr _).then ?_
 simp(disch:=first|omega|(simp only[ai];omega)) only[aj,↓eA,eB,aq,seval];refine dm (ι:=Nat×ae) (fun i=>[(2,.sl 8 (w.map cR)),(3,.sl 4 (l.map c9)),(4,c4),(5,c5),(48,.sl 2 (ps.map mS)),(49,.int .i64 ps.length),(50,.int .i64 (i.1:Nat))]) (fun i=>i.2) (fun i=>(i.1≤ps.length∧Ba p t w l ps=Ba p t w l (ps.drop i.1))∧∃T,i.2=S++T) (fun i=>ps.length-i.1)
  (fun i hi=>by rw[b_];obtain⟨T,hT⟩:=hi.2;rw[hT];simp) (0,S1) ⟨⟨az _,rfl⟩,T,hT⟩ (.inl ⟨?_,rfl⟩) ?_
 ·rw[mN,jm];simp only[↓eA,eB,aq,seval];try rfl
 clear aR he eh hc pX hT T S1 k;rintro⟨k,S1⟩ ⟨⟨pX,hi⟩,T,hT⟩;simp only at pX hi hT⊢;cases hc:ps[k]? with
 |none=>
  obtain⟨eh,he⟩:=dE hc;have aR:¬((k:Int)<ps.length):=by omega
  rw[he]at hi;rw[hi];simp(disch:=first|omega|(simp only[ai];omega)) only[dF aR,aj,↓eA,eB,aq,seval];exact⟨_,S,by rw[hT];exact hn.dO _,.bX rfl,ah _,rfl,rfl⟩
 |some q=>
  have cK:=(List.getElem?_eq_some_iff.1 hc).1;have aR:(k:Int)<ps.length:=by omega
  have cN:(k:Int)+1=((k+1:Nat):Int):=by omega
  obtain⟨i,j⟩:=q;obtain⟨fv,hjr⟩:=aaz _ (aB hc);simp only at fv hjr;obtain⟨x,hx⟩:∃x,l[i]?=some x:=⟨_,ax fv⟩;obtain⟨y,hy⟩:∃y,l[j]?=some y:=⟨_,ax hjr⟩;obtain⟨a,sx,ha,Ub⟩:=sH hF hx;obtain⟨b,sy,hb,St⟩:=sH hF hy;obtain⟨n,f,x1,x2,x3,x4⟩:=lK hk hx;obtain⟨m,g,y1,y2,y3,y4⟩:=lK hk hy;have dx:=fun S=>de x a ha sx Ub S;have dy:=fun S=>de y b hb sy St S;have rx:=fun S=>ro x n x1 f x2 S;have ry:=fun S=>ro y m y1 g y2 S;have sx':=fun u v S=>L_ (nb t f) u v S;have sy':=fun u v S=>L_ (nb t g) u v S;have Ln:Sj p t w l (i,j)=if(Eg p sx.s&&Eg p sy.s)=true then if xQ (nb t f) (p6 p sx.s) (p6 p sy.s)≠0 then xQ (nb t f) (p6 p sx.s) (p6 p sy.s)else xQ (nb t g) (p6 p sx.s) (p6 p sy.s)else 14:=by
   unfold Sj;simp only[G3 hx ha Ub,G3 hy hb St,Hr x3,Hr y3]
  rw[mB hc,Ba,Ln]at hi;clear Ln;simp only[c9]at dx dy rx ry;rw[mN,jm];simp(disch:=first|omega|(simp only[ai];omega)) only[dT aR,hc,hx,hy,mS,c9,aj,↓eA,eB,aq,seval];refine(dx _).then ?_
  simp(disch:=first|omega|(simp only[ai];omega)) only[hx,hy,c9,aj,↓eA,eB,aq,seval];refine(dy _).then ?_
  have jU:∃T2,S1++[⟨0,some (.arr 150 2 [[.int .i64 (i:Nat),.int .i64 (j:Nat)]])⟩]=S++T2:=⟨T++_,by rw[hT];exact bG ..⟩;generalize Eg p sx.s=e1 at*;generalize Eg p sy.s=e2 at*;generalize p6 p sx.s=d1 at*;generalize p6 p sy.s=d2 at*;by_cases hfd:(e1&&e2)=true
  ·obtain⟨rfl,rfl⟩:=Bool.and_eq_true_iff.1 hfd;rw[aK hfd]at hi;clear hfd;replace sx':=fun S=>sx' d1 d2 S;replace sy':=fun S=>sy' d1 d2 S;generalize xQ (nb t f) d1 d2=z1 at*;generalize xQ (nb t g) d1 d2=z2 at*;simp(disch:=first|omega|(simp only[ai];omega)) only[aj,↓eA,eB,aq,seval];generalize (S1++[_]:ae)=S2 at jU⊢;obtain⟨T2,rfl⟩:=jU;refine dm (ι:=Nat) (fun c=>[(2,.sl 8 (w.map cR)),(3,.sl 4 (l.map c9)),(4,c4),(5,c5),(15,.int .i64 d1),(17,.int .i64 d2),(48,.sl 2 (ps.map mS)),(49,.int .i64 ps.length),(50,.int .i64 (k:Nat)),(82,.agg [.int .i64 (i:Nat),.int .i64 (j:Nat)]),(83,.int .i64 (c:Nat))]) (fun _=>S++T2)
    (fun c=>c≤2∧(0<c→z1=0)∧(c=2→z2=0)) (fun c=>2-c) (fun c _=>by rw[b_];simp) 0 ⟨by omega,by omega,by omega⟩ (.inl ⟨?_,rfl⟩) ?_
   ·rw[mN,jm];simp only[↓eA,eB,aq,seval];try rfl
   rintro c ⟨jn,Ll,hz2⟩;rw[mN,jm];rcases c with _|_|_|c
   ·simp(disch:=first|omega|(simp only[ai];omega)) only[hx,c9,aj,↓eA,eB,aq,seval];refine(rx _).then ?_
    simp(disch:=first|omega|(simp only[ai];omega)) only[aj,↓eA,eB,aq,seval];refine(sx' _).then ?_
    by_cases h0:z1=0
    ·simp(disch:=first|omega|(simp only[ai];omega)) only[dF (show ¬z1≠0 by omega),dT h0,aj,↓eA,eB,aq,seval];exact⟨1,⟨by omega,by omega,by omega⟩,by omega,.inl ⟨by simp only[mN,jm,↓eA,eB,aq,seval];try rfl,rfl⟩⟩
    ·rw[aK h0,aK h0]at hi;rw[hi];simp(disch:=first|omega|(simp only[ai];omega)) only[dT (show z1≠0 from h0),dF h0,aj,↓eA,eB,aq,seval];exact⟨_,S,hn.dO _,.bX rfl,ah _,rfl,rfl⟩
   ·simp(disch:=first|omega|(simp only[ai];omega)) only[hy,c9,aj,↓eA,eB,aq,seval];refine(ry _).then ?_
    simp(disch:=first|omega|(simp only[ai];omega)) only[aj,↓eA,eB,aq,seval];refine(sy' _).then ?_
    by_cases h0:z2=0
    ·simp(disch:=first|omega|(simp only[ai];omega)) only[dF (show ¬z2≠0 by omega),dT h0,aj,↓eA,eB,aq,seval];exact⟨2,⟨by omega,by omega,by omega⟩,by omega,.inl ⟨by simp only[mN,jm,↓eA,eB,aq,seval];try rfl,rfl⟩⟩
    ·have CQ:¬z1≠0:=by have:=Ll (by omega);omega
     rw[aC CQ,aK h0]at hi;rw[hi];simp(disch:=first|omega|(simp only[ai];omega)) only[dT (show z2≠0 from h0),dF h0,aj,↓eA,eB,aq,seval];exact⟨_,S,hn.dO _,.bX rfl,ah _,rfl,rfl⟩
   ·have CQ:¬z1≠0:=by have:=Ll (by omega);omega
    have ahR:¬z2≠0:=by have:=hz2 rfl;omega
    rw[aC CQ,aC ahR]at hi;simp(disch:=first|omega|(simp only[ai];omega)) only[wrap_i64,cN,aj,↓eA,eB,aq,seval];exact⟨(k+1,S++T2),⟨⟨by simp only;omega,hi⟩,T2,rfl⟩,by simp only;omega,.inl ⟨by simp only[mN,jm,↓eA,eB,aq,seval];try rfl,rfl⟩⟩
   ·omega
  ·rw[aC hfd]at hi;have hr:Ba p t w l ps=14:=by rw[hi];rfl
   rw[hr];obtain⟨T2,jU⟩:=jU;cases e1 with
   |false=>
    simp(disch:=first|omega|(simp only[ai];omega)) only[aj,↓eA,eB,aq,seval];exact⟨_,S,by rw[jU];exact hn.dO _,.bX rfl,ah _,rfl,rfl⟩
   |true=>
    cases e2 with
    |true=>exact(hfd rfl).elim
    |false=>
     simp(disch:=first|omega|(simp only[ai];omega)) only[aj,↓eA,eB,aq,seval];exact⟨_,S,by rw[jU];exact hn.dO _,.bX rfl,ah _,rfl,rfl⟩
end Go.Proofs.YtfgkgmmnldocaaaGreatDoor
namespace Go.Proofs.YtfgkgmmnldocaaaGreatDoor
open Go Go.AL
variable[Go.AL.Mode][Go.AL.bR]
theorem MS(p:fO)(hp:p.1.length≤1000)(hz:mH p)(t:gk)(tx:List (List V))(h2:t.rules.length≤1000000)(w:List gv)(x y:Pa)(a b n m:Nat)(sx sy:gv)(f g:Fr)
 (ha:x.fr=(a:Nat))(Ub:w[a]?=some sx)(hb:y.fr=(b:Nat))(St:w[b]?=some sy)(x1:x.dz=(n:Nat))(x2:t.bE[n]?=some f)(y1:y.dz=(m:Nat))(y2:t.bE[m]?=some g)(S:ae):
 ak Tryz.prog 192 [dV p,.agg (b9 t tx),.sl 8 (w.map cR),.agg (c9 x),.agg (c9 y)] S fun r S'=>r= .int .i64 (if(Eg p sx.s&&Eg p sy.s)=true then if xQ (nb t f) (p6 p sx.s) (p6 p sy.s)≠0 then xQ (nb t f) (p6 p sx.s) (p6 p sy.s)else xQ (nb t g) (p6 p sx.s) (p6 p sy.s)else 14)∧S'=S:=by
 refine ak.bW Tryz.func192 abp (U rfl) fun σ b_=>?_;have dx:=fun S=>WX p hp hz sx.s S;have dy:=fun S=>WX p hp hz sy.s S;have rx:=fun S=>vi t tx h2 x n x1 f x2 S;have ry:=fun S=>vi t tx h2 y m y1 g y2 S;have stx:=fun u v S=>Ho (nb t f) u v S;have sty:=fun u v S=>Ho (nb t g) u v S;obtain⟨xf,xt,xx,xa⟩:=x;obtain⟨yf,yt,yx,ya⟩:=y;simp only at ha hb x1 y1;subst ha hb x1 y1;obtain⟨⟨s1,s2,s3,s4,s5,s6,s7⟩,cl1⟩:=sx;obtain⟨⟨u1,u2,u3,u4,u5,u6,u7⟩,cl2⟩:=sy;unfold dyV at dx dy;simp only[dV,b9,gl,c9]at dx dy rx ry⊢;generalize Eg p ⟨s1,s2,s3,s4,s5,s6,s7⟩=e1 at*;generalize Eg p ⟨u1,u2,u3,u4,u5,u6,u7⟩=e2 at*;generalize p6 p ⟨s1,s2,s3,s4,s5,s6,s7⟩=d1 at*;generalize p6 p ⟨u1,u2,u3,u4,u5,u6,u7⟩=d2 at*;replace stx:=fun S=>stx d1 d2 S;replace sty:=fun S=>sty d1 d2 S;generalize xQ (nb t f) d1 d2=z1 at*;generalize xQ (nb t g) d1 d2=z2 at*;obtain⟨z,hz⟩:∃z:Int,z=if(e1&&e2)=true then if z1≠0 then z1 else z2 else 14:=⟨_,rfl⟩
 rw[←hz];simp(disch:=first|omega|(simp only[ai];omega)) only[Rt,Ub,cR,gl,aj,↓eA,eB,aq,seval];refine(dx _).then ?_
 cases e1 with
 |false=>
  obtain rfl:z=14:=by rw[hz];rfl
  simp(disch:=first|omega|(simp only[ai];omega)) only[St,cR,gl,aj,↓eA,eB,aq,seval];refine(dy _).then ?_
  cases e2 with
  |false=>simp(disch:=first|omega|(simp only[ai];omega)) only[aj,↓eA,eB,aq,seval]
  |true=>simp(disch:=first|omega|(simp only[ai];omega)) only[aj,↓eA,eB,aq,seval]
 |true=>
  simp(disch:=first|omega|(simp only[ai];omega)) only[St,cR,gl,aj,↓eA,eB,aq,seval];refine(dy _).then ?_
  cases e2 with
  |false=>
   obtain rfl:z=14:=by rw[hz];rfl
   simp(disch:=first|omega|(simp only[ai];omega)) only[aj,↓eA,eB,aq,seval]
  |true=>
   rw[aK (by rfl)]at hz;simp(disch:=first|omega|(simp only[ai];omega)) only[aj,↓eA,eB,aq,seval];refine(rx _).then ?_
   simp(disch:=first|omega|(simp only[ai];omega)) only[aj,↓eA,eB,aq,seval];refine(stx _).then ?_
   by_cases h0:z1=0
   ·obtain rfl:z=z2:=by rw[hz,aC (by omega)]
    simp(disch:=first|omega|(simp only[ai];omega)) only[dF (show ¬z1≠0 by omega),dT h0,aj,↓eA,eB,aq,seval];refine(ry _).then ?_
    simp(disch:=first|omega|(simp only[ai];omega)) only[aj,↓eA,eB,aq,seval];refine(sty _).then ?_
    simp(disch:=first|omega|(simp only[ai];omega)) only[aj,↓eA,eB,aq,seval]
   ·obtain rfl:z=z1:=by rw[hz,aK h0]
    simp(disch:=first|omega|(simp only[ai];omega)) only[dT (show z≠0 from h0),dF h0,aj,↓eA,eB,aq,seval]
theorem MQ(p:fO)(hp:p.1.length≤1000)(hz:mH p)(t:gk)(tx:List (List V))(h1:t.bE.length≤1000000)(h2:t.rules.length≤1000000)(w:List gv)(l:List Pa)(hl:l.length≤100000)(hF:pQ l w.length=true)
 (hk:pT t l=true)(ps:List (Nat×Nat))(pC:B8 t l=some ps)(pV:ps.length≤1000000)(S:ae):
 ak Tryz.prog 165 [dV p,.agg (b9 t tx),.sl 8 (w.map cR),.sl 4 (l.map c9)] S fun r S'=>r= .int .i64 (Ba p t w l ps)∧S'=S:=by
 refine ak.bW Tryz.func165 abv (U rfl) fun σ b_=>?_;have pr:=fun S=>vj t tx h1 l hl S;have st:=fun x y a b n m sx sy f g ha Ub hb St x1 x2 y1 y2 S=>MS p hp hz t tx h2 w x y a b n m sx sy f g ha Ub hb St x1 x2 y1 y2 S;have aaz:=Hx pC;unfold Lj at pr;rw[hk,aC (by simp),pC]at pr;simp only[dV,b9]at pr st⊢;obtain⟨c4,mN⟩:∃c4,c4=V.bK [.sl 5 (p.1.map dG),.sl 3 (p.2.map cZ)]:=⟨_,rfl⟩;obtain⟨c5,jm⟩:∃c5,c5=V.bK [.sl 9 (t.bE.map fK),.sl 15 (t.rules.map cx),.sl 3 (t.cS.map eP),.sl 7 tx]:=⟨_,rfl⟩;simp(disch:=first|omega|(simp only[ai];omega)) only[RC,aj,↓eA,eB,aq,seval];refine cH (ι:=Nat) (fun i=>[(2,.sl 8 (w.map cR)),(3,.sl 4 (l.map c9)),(4,c4),(5,c5),(9,.int .i64 (i:Nat))]) (fun _=>S) (fun i=>i≤l.length) (fun i=>l.length-i) 0 (az _) ?_ rfl ?_
 ·rw[mN,jm];simp only[↓eA,eB,aq,seval];try rfl
 intro k pX;cases hc:l[k]? with
 |some x=>
  have cK:=(List.getElem?_eq_some_iff.1 hc).1;have aR:(k:Int)<l.length:=by omega
  have cN:(k:Int)+1=((k+1:Nat):Int):=by omega
  obtain⟨a,s,ha,hs⟩:=sH hF hc;have haw:((a:Nat):Int)<w.length:=by have:=(List.getElem?_eq_some_iff.1 hs).1;omega
  have FF:¬((a:Nat):Int)<0:=by omega
  have aaY:¬((w.length:Nat):Int)≤a:=by omega
  simp(disch:=first|omega|(simp only[ai];omega)) only[dT aR,hc,c9,ha,dF FF,dF aaY,wrap_i64,cN,aj,↓eA,eB,aq,seval];exact⟨k+1,by omega,by omega,by first|rfl|exact⟨rfl,rfl⟩|exact⟨rfl,rfl,rfl⟩⟩
 |none=>
 obtain⟨eh,he⟩:=dE hc;have aR:¬((k:Int)<l.length):=by omega
 rw[mN,jm];simp(disch:=first|omega|(simp only[ai];omega)) only[dF aR,aj,↓eA,eB,aq,seval];refine(pr _).then ?_
 simp(disch:=first|omega|(simp only[ai];omega)) only[aj,↓eA,eB,aq,seval];refine cH (ι:=Nat) (fun i=>[(2,.sl 8 (w.map cR)),(3,.sl 4 (l.map c9)),(4,c4),(5,c5),(10,.sl 2 (ps.map mS)),(12,.int .i64 (i:Nat))]) (fun _=>S) (fun i=>i≤ps.length∧Ba p t w l ps=Ba p t w l (ps.drop i)) (fun i=>ps.length-i) 0 ⟨az _,rfl⟩ ?_ rfl ?_
 ·rw[mN,jm];simp only[↓eA,eB,aq,seval];try rfl
 clear aR he eh hc pX k;rintro k ⟨pX,hi⟩;cases hc:ps[k]? with
 |none=>
  obtain⟨eh,he⟩:=dE hc;have aR:¬((k:Int)<ps.length):=by omega
  rw[he]at hi;rw[hi];simp(disch:=first|omega|(simp only[ai];omega)) only[dF aR,aj,↓eA,eB,aq,seval];try rfl
 |some q=>
  have cK:=(List.getElem?_eq_some_iff.1 hc).1;have aR:(k:Int)<ps.length:=by omega
  have cN:(k:Int)+1=((k+1:Nat):Int):=by omega
  obtain⟨i,j⟩:=q;obtain⟨fv,hjr⟩:=aaz _ (aB hc);simp only at fv hjr;obtain⟨x,hx⟩:∃x,l[i]?=some x:=⟨_,ax fv⟩;obtain⟨y,hy⟩:∃y,l[j]?=some y:=⟨_,ax hjr⟩;obtain⟨a,sx,ha,Ub⟩:=sH hF hx;obtain⟨b,sy,hb,St⟩:=sH hF hy;obtain⟨n,f,x1,x2,x3,x4⟩:=lK hk hx;obtain⟨m,g,y1,y2,y3,y4⟩:=lK hk hy;have stk:=fun S=>st x y a b n m sx sy f g ha Ub hb St x1 x2 y1 y2 S;have Ln:Sj p t w l (i,j)=if(Eg p sx.s&&Eg p sy.s)=true then if xQ (nb t f) (p6 p sx.s) (p6 p sy.s)≠0 then xQ (nb t f) (p6 p sx.s) (p6 p sy.s)else xQ (nb t g) (p6 p sx.s) (p6 p sy.s)else 14:=by
   unfold Sj;simp only[G3 hx ha Ub,G3 hy hb St,Hr x3,Hr y3]
  rw[←Ln]at stk;rw[mB hc,Ba]at hi;generalize Sj p t w l (i,j)=z at*;simp only[c9]at stk;rw[mN,jm];simp(disch:=first|omega|(simp only[ai];omega)) only[dT aR,hc,hx,hy,mS,c9,aj,↓eA,eB,aq,seval];refine(stk _).then ?_
  by_cases h0:z=0
  ·rw[aC (by omega)]at hi;simp(disch:=first|omega|(simp only[ai];omega)) only[dF (show ¬z≠0 by omega),dT h0,wrap_i64,cN,aj,↓eA,eB,aq,seval];exact⟨k+1,⟨by omega,hi⟩,by omega,by first|rfl|exact⟨rfl,rfl⟩|exact⟨rfl,rfl,rfl⟩|simp only[mN,jm]⟩
  ·rw[aK h0]at hi;rw[hi];simp(disch:=first|omega|(simp only[ai];omega)) only[dT (show z≠0 from h0),dF h0,aj,↓eA,eB,aq,seval]
def wI(p:fO)(t:gk)(w:List gv)(l:List Pa):Int:=
 if pQ l w.length=false then 2 else if pT t l=false then 19 else match B8 t l with
  |none=>23
  |some ps=>if yl t l≠0 then yl t l else Ba p t w l ps
theorem uy{fl:List Fr}:∀{n i:Nat} {ps qs:List (Nat×Nat)},rI fl n i ps=some qs→qs.length≤ps.length+n
 |0,i,ps,qs,e=>by cases e;omega
 |n+1,i,ps,qs,e=>by
  rw[rI]at e;by_cases hi:(!(ue fl i).BS||w4 ps i)=true
  ·rw[aK hi]at e;have:=uy e;omega
  ·rw[aC hi]at e;cases hp:J5 fl ps i with
   |none=>rw[hp]at e;cases e
   |some k=>
    rw[hp]at e;have:=uy e;rw[aH,aN]at this;omega
theorem PN(p:fO)(hp:p.1.length≤1000)(hz:mH p)(t:gk)(tx:List (List V))(h1:t.bE.length≤1000000)(h2:t.rules.length≤1000000)(FC:Lh t)(w:List gv)(l:List Pa)(hl:l.length≤100000)(S:ae):
 ak Tryz.prog 8 [dV p,.agg (b9 t tx),.sl 8 (w.map cR),.sl 4 (l.map c9)] S fun r S'=>r= .int .i64 (wI p t w l)∧S'=S:=by
 refine ak.bW Tryz.func8 abY (U rfl) fun σ b_=>?_;have cv:=fun S=>PI l (by omega) w.length S;have pr:=fun S=>HF t tx h1 l hl S;have mx:=fun S=>HX t tx h1 h2 FC l (by omega) S;have st:=fun hF hk ps pC pV S=>SX p hp hz t tx h1 h2 w l hl hF hk ps pC pV S;unfold Lj at pr;unfold wI;simp only[dV,b9]at pr mx st⊢;simp(disch:=first|omega|(simp only[ai];omega)) only[Sb,aj,↓eA,eB,aq,seval];refine(cv _).then ?_
 cases hF:pQ l w.length with
 |false=>
  simp(disch:=first|omega|(simp only[ai];omega)) only[aj,↓eA,eB,aq,seval];try rfl
 |true=>
 simp(disch:=first|omega|(simp only[ai];omega)) only[aj,↓eA,eB,aq,seval];refine(pr _).then ?_
 cases hk:pT t l with
 |false=>
  simp(disch:=first|omega|(simp only[ai];omega)) only[hk,aj,↓eA,eB,aq,seval];try rfl
 |true=>
 cases pC:B8 t l with
 |none=>
  simp(disch:=first|omega|(simp only[ai];omega)) only[hk,pC,aj,↓eA,eB,aq,seval];try rfl
 |some ps=>
 have pV:=uy pC;rw[mz]at pV;simp(disch:=first|omega|(simp only[ai];omega)) only[hk,pC,aj,↓eA,eB,aq,seval];refine(mx _).then ?_
 replace st:=fun S=>st hF hk ps pC (by simp at pV;omega) S;generalize yl t l=z at*;generalize Ba p t w l ps=z2 at*;by_cases h0:z=0
 ·simp(disch:=first|omega|(simp only[ai];omega)) only[dF (show ¬z≠0 by omega),dT h0,aj,↓eA,eB,aq,seval];refine(st _).then ?_
  simp(disch:=first|omega|(simp only[ai];omega)) only[aj,↓eA,eB,aq,seval];rw[aC (by omega)]
 ·simp(disch:=first|omega|(simp only[ai];omega)) only[dT (show z≠0 from h0),dF h0,aj,↓eA,eB,aq,seval];rw[aK h0]
theorem To(p:fO)(hp:p.1.length≤1000)(hz:mH p)(t:gk)(tx:List (List V))(h1:t.bE.length≤1000000)(h2:t.rules.length≤1000000)(FC:Lh t)(w:List gv)(l:List Pa)(hl:l.length≤100000)(S:ae):
 ak Tryz.prog 119 [dV p,.agg (b9 t tx),.sl 8 (w.map cR),.sl 4 (l.map c9)] S fun r S'=>r= .int .i64 (wI p t w l)∧S'=S:=by
 refine ak.bW Tryz.func119 abD (U rfl) fun σ b_=>?_;have cv:=fun S=>SH l (by omega) (w.map cR) S;simp only[aP]at cv;have pr:=fun S=>vj t tx h1 l hl S;have mx:=fun S=>MY t tx h1 h2 FC l (by omega) S;have st:=fun hF hk ps pC pV S=>MQ p hp hz t tx h1 h2 w l hl hF hk ps pC pV S;unfold Lj at pr;unfold wI;simp only[dV,b9]at pr mx st⊢;simp(disch:=first|omega|(simp only[ai];omega)) only[RP,aj,↓eA,eB,aq,seval];refine(cv _).then ?_
 cases hF:pQ l w.length with
 |false=>
  simp(disch:=first|omega|(simp only[ai];omega)) only[aj,↓eA,eB,aq,seval];try rfl
 |true=>
 simp(disch:=first|omega|(simp only[ai];omega)) only[aj,↓eA,eB,aq,seval];refine(pr _).then ?_
 cases hk:pT t l with
 |false=>
  simp(disch:=first|omega|(simp only[ai];omega)) only[hk,aj,↓eA,eB,aq,seval];try rfl
 |true=>
 cases pC:B8 t l with
 |none=>
  simp(disch:=first|omega|(simp only[ai];omega)) only[hk,pC,aj,↓eA,eB,aq,seval];try rfl
 |some ps=>
 have pV:=uy pC;rw[mz]at pV;simp(disch:=first|omega|(simp only[ai];omega)) only[hk,pC,aj,↓eA,eB,aq,seval];refine(mx _).then ?_
 replace st:=fun S=>st hF hk ps pC (by simp at pV;omega) S;generalize yl t l=z at*;generalize Ba p t w l ps=z2 at*;by_cases h0:z=0
 ·simp(disch:=first|omega|(simp only[ai];omega)) only[dF (show ¬z≠0 by omega),dT h0,aj,↓eA,eB,aq,seval];refine(st _).then ?_
  simp(disch:=first|omega|(simp only[ai];omega)) only[aj,↓eA,eB,aq,seval];rw[aC (by omega)]
 ·simp(disch:=first|omega|(simp only[ai];omega)) only[dT (show z≠0 from h0),dF h0,aj,↓eA,eB,aq,seval];rw[aK h0]
end Go.Proofs.YtfgkgmmnldocaaaGreatDoor
namespace Go.Proofs.YtfgkgmmnldocaaaGreatDoor
open Go Go.AL
variable[Go.AL.Mode][Go.AL.bR]
def Z3(tm:Tx→Nat)(tx:List Tx)(am:List Int):Int×Int×List (bS×Int)×Int:=
 if(n4 0 am).2≠0 then((n4 0 am).2,0,[],0)
 else if(lu (n4 0 am).1 tm [] tx).1≠0 then((lu (n4 0 am).1 tm [] tx).1,0,[],0)
 else if(n4 0 ((lu (n4 0 am).1 tm [] tx).2.map (·.2))).2≠0 then((n4 0 ((lu (n4 0 am).1 tm [] tx).2.map (·.2))).2,0,[],0)
 else if(n4 0 [(n4 0 am).1,(n4 0 ((lu (n4 0 am).1 tm [] tx).2.map (·.2))).1]).2≠0 then((n4 0 [(n4 0 am).1,(n4 0 ((lu (n4 0 am).1 tm [] tx).2.map (·.2))).1]).2,0,[],0)
 else(0,(n4 0 am).1,(lu (n4 0 am).1 tm [] tx).2,(n4 0 [(n4 0 am).1,(n4 0 ((lu (n4 0 am).1 tm [] tx).2.map (·.2))).1]).1)
def qR(l:List Pa)(ps:List (Nat×Nat))(q:Int×List (bS×Int)×Int):List V:=[.sl 4 (l.map c9),.sl 2 (ps.map mS),.sl 2 (q.2.1.map ot),.int .i64 q.1,.int .i64 q.2.2]
def B7(l:List Pa)(ps:List (Nat×Nat))(q:Int×Int×List (bS×Int)×Int):V:=if q.1≠0 then .dI [.agg (qR [] [] (0,[],0)),.int .i64 q.1]else .dI [.agg (qR l ps q.2),.int .i64 0]
def agz(j:Jr):Prop:=j.p.1.length≤1000∧j.t.bE.length≤1000000∧j.t.rules.length≤1000000∧j.w.length≤1000∧Jl j.tx∧j.tx.length≤100000∧∀s∈ve j.w,rH s
structure SC(S:ae)(id aI b6:Nat)(l:List Pa)(cv:V)(q:List V)(X:ae):Prop where
 o:X.bq id aI=some (38,4,l.map c9)
 b:X.bq S.length 0=some (48,5,[[.aM,.aM,.aM,.int .i64 0,.int .i64 0]])
 c:lz (S.length+1) X 38 4 (l.map c9) cv
 cl:∀i,nn cv i→i<b6
 q:X.bq b6 0=some (48,5,[q])
 ext:∃T,X=S++T
 lt:id<S.length∧S.length<b6
theorem SC.pF{S:ae}{id aI b6:Nat}{l:List Pa}{cv:V}{q:List V}{X X':ae}{D:Nat→Prop}(h:SC S id aI b6 l cv q X)(hf:f_ D X X')(hD:∀j,D j→b6<j):SC S id aI b6 l cv q X':=by
 have hl:=h.lt;exact⟨hf.obj h.o fun k=>by have:=hD _ k;omega,hf.obj h.b fun k=>by have:=hD _ k;omega,h.c.pF hf fun i hi k=>by have:=hD _ k;have:=h.cl i hi;omega,h.cl,hf.obj h.q fun k=>by have:=hD _ k;omega,hf.ext h.ext fun j k=>by have:=hD _ k;omega,hl⟩
theorem SC.set{S:ae}{id aI b6:Nat}{l:List Pa}{cv:V}{q:List V}{X:ae}(h:SC S id aI b6 l cv q X)(q':List V):SC S id aI b6 l cv q' (X.set b6 ⟨0,some (.arr 48 5 [q'])⟩):=by
 have hl:=h.lt;have hf:=mA X b6 ⟨0,some (.arr 48 5 [q'])⟩;exact⟨hf.obj h.o fun k=>by omega,hf.obj h.b fun k=>by omega,h.c.pF hf fun i hi k=>by have:=h.cl i hi;omega,h.cl,ed h.q,hf.ext h.ext fun j k=>by omega,hl⟩
theorem SC.out{S:ae}{id aI b6:Nat}{l:List Pa}{cv:V}{q:List V}{X:ae}(h:SC S id aI b6 l cv q X)(r:List V):
 ae.bq (X.set S.length ⟨0,some (.arr 48 5 [r])⟩) S.length 0=some (48,5,[r])∧(∃T,X.set S.length ⟨0,some (.arr 48 5 [r])⟩=S++T)∧lz (S.length+1) (X.set S.length ⟨0,some (.arr 48 5 [r])⟩) 38 4 (l.map c9) cv:=by
 have hf:=mA X S.length ⟨0,some (.arr 48 5 [r])⟩;exact⟨ed h.b,hf.ext h.ext fun j k=>by omega,h.c.pF hf fun i hi k=>by have:=(h.c.lt hi).2;omega⟩
theorem lA(X S:ae):jd X S (.agg [.aM,.aM,.aM,.int .i64 0,.int .i64 0]) (.agg (qR [] [] (0,[],0))):=
 jf (show lW _ _ _ [.sl 4 [],.sl 2 [],.sl 2 [],.int .i64 0,.int .i64 0]from⟨.nil,.nil,.nil,.bX rfl,.bX rfl,trivial⟩)
theorem uz(f:Int)(tm:Tx→Nat):∀(acc:List (bS×Int)) (l:List Tx),(lu f tm acc l).2.length≤acc.length+l.length
 |acc,[]=>ah _
 |acc,x::r=>by
  rw[lu];split
  ·exact az _
  split
  ·exact az _
  split
  ·have:=uz f tm (acc++[(x.cd,(zg f x (tm x)).2)]) r;rw[aH,aN]at this;rw[a_];omega
  ·have:=uz f tm acc r;rw[a_];omega
theorem ab'(l:List Pa):∀r∈l.map (fun c=>[V.int .i64 c.am]),r.length=1∧V.bQ r=true:=fun r hr=>by
 obtain⟨x,_,rfl⟩:=List.mem_map.1 hr;exact⟨rfl,rfl⟩
theorem Tz(j:Jr)(hj:agz j)(l:List Pa)(hl:l.length≤100000)(hk:pT j.t l=true)(ps:List (Nat×Nat))(pC:B8 j.t l=some ps){id aI:Nat}(S:ae)(ho:S.bq id aI=some (38,4,l.map c9)):
 ak Tryz.prog 116 [.agg (jk j),.cU id aI 0 l.length] S fun r S'=>r=B7 l ps (Z3 (fun x=>uZ j.p x (ve j.w) j.iz) j.tx (l.map (·.am)))∧S'=S:=by
 refine ak.bp Tryz.func116 Qg fun hn=>?_;refine ak.fin Tryz.func116 Qg (U rfl) fun σ b_=>?_;obtain⟨h1,h2,h3,h4,h5,h6,h7⟩:=hj;have cl:=fun S (ho:S.bq id aI=some (38,4,l.map c9))=>IY (lo:=0) (S:=S) (rows:=l.map c9) (v:=.cU id aI 0 l.length) (.inr ⟨id,aI,az _,by simp,ho⟩) (by simp;omega);have pr:=fun S ho=>M9 j.t (j.tx.map fk) h2 l hl (id:=id) (aI:=aI) S ho;have sg:=fun S=>ZP j (by omega) S;have of:=fun f S=>aaf j.p h1 j.tx h5 h6 (ve j.w) (by unfold ve;simp;omega) h7 j.iz f S;have ts:=fun l hl S=>ZA l hl S;have ad:=fun a b S=>aga a b S;unfold Lj at pr;rw[hk,aC (by simp),pC]at pr;simp only[jk,b9,dV]at pr sg of⊢;simp(disch:=first|omega|(simp only[ai];omega)) only[RQ,aj,↓eA,eB,aq,seval];have ua:=fc (X:=[⟨0,some (.arr 48 5 [[.aM,.aM,.aM,.int .i64 0,.int .i64 0]])⟩]) ho;have pY:ae.bq (S++[⟨0,some (.arr 48 5 [[.aM,.aM,.aM,.int .i64 0,.int .i64 0]])⟩]) S.length 0=some (48,5,[[.aM,.aM,.aM,.int .i64 0,.int .i64 0]]):=dP.trans cE;have OW:(S++[⟨0,some (.arr 48 5 [[.aM,.aM,.aM,.int .i64 0,.int .i64 0]])⟩]:ae).length=S.length+1:=by simp
 have xz:∃T,(S++[⟨0,some (.arr 48 5 [[.aM,.aM,.aM,.int .i64 0,.int .i64 0]])⟩]:ae)=S++T:=⟨_,rfl⟩;generalize (S++[_]:ae)=S4 at ua pY OW xz⊢;refine ak.mono (cl S4 ua) ?_;rintro cv S5 ⟨oW,X5,hX5⟩;have KA:=fc (X:=X5) ua;have Sy:=fc (X:=X5) pY;have WM:∃T,S5=S++T:=by obtain⟨T,rfl⟩:=xz;exact⟨T++X5,by rw[hX5];exact bG ..⟩
 rw[←hX5]at KA Sy;clear hX5 xz;have hP6:SC S id aI S5.length l cv [cv,.aM,.aM,.int .i64 0,.int .i64 0] (S5++[⟨0,some (.arr 48 5 [[cv,.aM,.aM,.int .i64 0,.int .i64 0]])⟩]):=
  ⟨fc KA,fc Sy,by rw[←OW];exact oW.pF (f_.add (fun _=>False) S5 _) fun _ _ h=>h,fun i hi=>(oW.lt hi).1,dP.trans cE,by obtain⟨T,rfl⟩:=WM;exact⟨_,bG ..⟩,gW ho,gW Sy⟩
 obtain⟨S6,Ls⟩:∃S6,S6=(S5++[⟨0,some (.arr 48 5 [[cv,.aM,.aM,.int .i64 0,.int .i64 0]])⟩]:ae):=⟨_,rfl⟩;rw[←Ls]at hP6;have WE:S6.length=S5.length+1:=by rw[Ls];simp
 simp(disch:=first|omega|(simp only[ai];omega)) only[oW.cells,oW.dK,←Ls,aj,↓eA,eB,aq,seval];refine(pr _ hP6.o).then ?_
 simp(disch:=first|omega|(simp only[ai];omega)) only[hP6.q,aj,↓eA,eB,aq,seval];clear pr cl ua pY OW oW KA Sy WM Ls;have hP7:=hP6.set [cv,.sl 2 (ps.map mS),.aM,.int .i64 0,.int .i64 0];have WD:(S6.set S5.length ⟨0,some (.arr 48 5 [[cv,.sl 2 (ps.map mS),.aM,.int .i64 0,.int .i64 0]])⟩).length=S5.length+1:=by rw[fQ];exact WE
 generalize (S6.set S5.length _:ae)=S7 at hP7 WD⊢;clear hP6 WE S6;obtain⟨c2,jn⟩:∃c2,c2=V.bK (jk j):=⟨_,rfl⟩;refine dm (ι:=Nat×V×ae) (fun i=>[(2,c2),(4,.ptr S.length 0 0 0),(6,.ptr S5.length 0 0 0),(8,i.2.1),(27,.cU id aI 0 l.length),(28,.int .i64 l.length),(29,.int .i64 (i.1:Nat))]) (fun i=>i.2.2)
  (fun i=>i.1≤l.length∧SC S id aI S5.length l cv [cv,.sl 2 (ps.map mS),.aM,.int .i64 0,.int .i64 0] i.2.2∧lz (S5.length+1) i.2.2 3 1 ((l.take i.1).map fun c=>[.int .i64 c.am]) i.2.1) (fun i=>l.length-i.1)
  (fun i hi=>by rw[b_];obtain⟨T,hT⟩:=hi.2.1.ext;rw[hT];simp) (0,.aM,S7) ⟨az _,hP7,.inl ⟨rfl,rfl⟩⟩ (.inl ⟨?_,rfl⟩) ?_
 ·rw[jn];simp only[jk,↓eA,eB,aq,seval];try rfl
 clear hP7 WD S7;rintro⟨k,v,S1⟩ ⟨pX,hP,hL⟩;simp only at pX hP hL⊢;have ami:=gW hP.q;cases hc:l[k]? with
 |some x=>
  have cK:=(List.getElem?_eq_some_iff.1 hc).1;have aR:(k:Int)<l.length:=by omega
  have cN:(k:Int)+1=((k+1:Nat):Int):=by omega
  have xA:=hP.pF (f_.add (fun _=>False) S1 [⟨0,some (.arr 38 4 [c9 x])⟩]) fun _ h=>h.elim;have rL:lz (S5.length+1) (S1++[⟨0,some (.arr 38 4 [c9 x])⟩]) 3 1 ((l.take k).map fun c=>[.int .i64 c.am]) v:=hL.pF (f_.add (fun _=>False) S1 _) fun _ _ h=>h;have hb:ae.bq (S1++[⟨0,some (.arr 38 4 [c9 x])⟩]) S1.length 0=some (38,4,[c9 x]):=dP.trans cE;have WG:(S1++[⟨0,some (.arr 38 4 [c9 x])⟩]:ae).length=S1.length+1:=by simp
  unfold c9 at xA rL hb WG;obtain⟨S2,cO⟩:∃S2,S2=(S1++[⟨0,some (.arr 38 4 [[.int .i64 x.fr,.int .i64 x.to,.int .i64 x.dz,.int .i64 x.am]])⟩]:ae):=⟨_,rfl⟩;rw[←cO]at xA rL hb WG;simp(disch:=first|omega|(simp only[ai];omega)) only[dT aR,hc,hP.o,c9,←cO,hb,aj,↓eA,eB,aq,seval];refine rL.app (by omega) (by simp;omega) fun v' S3 oq mU _=>?_;simp(disch:=first|omega|(simp only[ai];omega)) only[wrap_i64,cN,aj,↓eA,eB,aq,seval];exact⟨(k+1,v',S3),⟨by simp only;omega,xA.pF mU fun j hj=>by have:=(rL.lt hj).2;omega,by rw[kN hc,bF];exact oq⟩,by simp only;omega,.inl ⟨by simp only[↓eA,eB,aq,seval];try rfl,rfl⟩⟩
 |none=>
 obtain⟨eh,he⟩:=dE hc;have aR:¬((k:Int)<l.length):=by omega
 rw[bh eh]at hL;have sm:=fun S=>L7 (l.map (·.am)) (by simp;omega) S;rw[fP,show(iu∘fun x:Pa=>x.am)=fun c:Pa=>[V.int .i64 c.am]from rfl]at sm;unfold Z3;generalize n4 0 (l.map (·.am))=q1 at*;obtain⟨dz,e1⟩:=q1;simp only;have of1:=fun S=>of dz S;clear of;have w6:=uz dz (fun x=>uZ j.p x (ve j.w) j.iz) [] j.tx;generalize lu dz (fun x=>uZ j.p x (ve j.w) j.iz) [] j.tx=q2 at*;obtain⟨e2,kM⟩:=q2;simp only[bz]at w6⊢;simp(disch:=first|omega|(simp only[ai];omega)) only[dF aR,aj,↓eA,eB,aq,seval];refine(Fh (args:=[v]) (sm (kill S1)) ⟨hL.Kl (ab' l),trivial⟩).then ?_
 unfold VD;have hP8:=hP.set [cv,.sl 2 (ps.map mS),.aM,.int .i64 dz,.int .i64 0];obtain⟨S8,Sz⟩:∃S8,S8=(S1.set S5.length ⟨0,some (.arr 48 5 [[cv,.sl 2 (ps.map mS),.aM,.int .i64 dz,.int .i64 0]])⟩:ae):=⟨_,rfl⟩;rw[←Sz]at hP8;by_cases z1:e1≠0
 ·rw[aK z1];obtain⟨SE,Ix⟩:∃SE,SE=(S8.set S.length ⟨0,some (.arr 48 5 [[.aM,.aM,.aM,.int .i64 0,.int .i64 0]])⟩:ae):=⟨_,rfl⟩;obtain⟨Iu,⟨TE,Iw⟩,_⟩:=hP8.out [.aM,.aM,.aM,.int .i64 0,.int .i64 0];rw[←Ix]at Iu Iw;simp(disch:=first|omega|(simp only[ai];omega)) only[hP.q,←Sz,dT z1,dF (show ¬e1=0 from z1),hP8.b,←Ix,Iu,aj,↓eA,eB,aq,seval];exact⟨_,S,by rw[Iw];exact hn.dO _,.jj (lA _ _) (.bX rfl),ah _,by unfold B7;rw[aK z1],rfl⟩
 rw[aC z1];rw[jn];simp(disch:=first|omega|(simp only[ai];omega)) only[hP.q,←Sz,hP8.q,jk,dF z1,dT (show e1=0 by omega),aj,↓eA,eB,aq,seval];refine qv.intro (sg _) ?_;simp(disch:=first|omega|(simp only[ai];omega)) only[aj,↓eA,eB,aq,seval];refine(of1 _).then ?_
 unfold ofV;have SA:=hP8.set [cv,.sl 2 (ps.map mS),.sl 2 (kM.map ot),.int .i64 dz,.int .i64 0];obtain⟨S9,rK⟩:∃S9,S9=(S8.set S5.length ⟨0,some (.arr 48 5 [[cv,.sl 2 (ps.map mS),.sl 2 (kM.map ot),.int .i64 dz,.int .i64 0]])⟩:ae):=⟨_,rfl⟩;rw[←rK]at SA;by_cases z2:e2≠0
 ·rw[aK z2];obtain⟨SE,Ix⟩:∃SE,SE=(S9.set S.length ⟨0,some (.arr 48 5 [[.aM,.aM,.aM,.int .i64 0,.int .i64 0]])⟩:ae):=⟨_,rfl⟩;obtain⟨Iu,⟨TE,Iw⟩,_⟩:=SA.out [.aM,.aM,.aM,.int .i64 0,.int .i64 0];rw[←Ix]at Iu Iw;simp(disch:=first|omega|(simp only[ai];omega)) only[hP8.q,←rK,dT z2,dF (show ¬e2=0 from z2),SA.b,←Ix,Iu,aj,↓eA,eB,aq,seval];exact⟨_,S,by rw[Iw];exact hn.dO _,.jj (lA _ _) (.bX rfl),ah _,by unfold B7;rw[aK z2],rfl⟩
 rw[aC z2];have ts1:=fun S=>ts kM (by omega) S;clear ts;generalize n4 0 (kM.map (·.2))=q3 at*;obtain⟨sum,e3⟩:=q3;simp only;have ad1:=fun S=>ad dz sum S;clear ad;generalize n4 0 [dz,sum]=q4 at*;obtain⟨db,e4⟩:=q4;simp only;simp(disch:=first|omega|(simp only[ai];omega)) only[hP8.q,←rK,SA.q,dF z2,dT (show e2=0 by omega),aj,↓eA,eB,aq,seval];refine(ts1 _).then ?_
 unfold VD;by_cases z3:e3≠0
 ·rw[aK z3];obtain⟨SE,Ix⟩:∃SE,SE=(S9.set S.length ⟨0,some (.arr 48 5 [[.aM,.aM,.aM,.int .i64 0,.int .i64 0]])⟩:ae):=⟨_,rfl⟩;obtain⟨Iu,⟨TE,Iw⟩,_⟩:=SA.out [.aM,.aM,.aM,.int .i64 0,.int .i64 0];rw[←Ix]at Iu Iw;simp(disch:=first|omega|(simp only[ai];omega)) only[dT z3,dF (show ¬e3=0 from z3),SA.b,←Ix,Iu,aj,↓eA,eB,aq,seval];exact⟨_,S,by rw[Iw];exact hn.dO _,.jj (lA _ _) (.bX rfl),ah _,by unfold B7;rw[aK z3],rfl⟩
 rw[aC z3];simp(disch:=first|omega|(simp only[ai];omega)) only[SA.q,dF z3,dT (show e3=0 by omega),aj,↓eA,eB,aq,seval];refine(ad1 _).then ?_
 unfold VD;have hPa:=SA.set [cv,.sl 2 (ps.map mS),.sl 2 (kM.map ot),.int .i64 dz,.int .i64 db];obtain⟨Sa,hSa⟩:∃Sa,Sa=(S9.set S5.length ⟨0,some (.arr 48 5 [[cv,.sl 2 (ps.map mS),.sl 2 (kM.map ot),.int .i64 dz,.int .i64 db]])⟩:ae):=⟨_,rfl⟩;rw[←hSa]at hPa;by_cases z4:e4≠0
 ·rw[aK z4];obtain⟨SE,Ix⟩:∃SE,SE=(Sa.set S.length ⟨0,some (.arr 48 5 [[.aM,.aM,.aM,.int .i64 0,.int .i64 0]])⟩:ae):=⟨_,rfl⟩;obtain⟨Iu,⟨TE,Iw⟩,_⟩:=hPa.out [.aM,.aM,.aM,.int .i64 0,.int .i64 0];rw[←Ix]at Iu Iw;simp(disch:=first|omega|(simp only[ai];omega)) only[SA.q,←hSa,dT z4,dF (show ¬e4=0 from z4),hPa.b,←Ix,Iu,aj,↓eA,eB,aq,seval];exact⟨_,S,by rw[Iw];exact hn.dO _,.jj (lA _ _) (.bX rfl),ah _,by unfold B7;rw[aK z4],rfl⟩
 rw[aC z4];obtain⟨SE,Ix⟩:∃SE,SE=(Sa.set S.length ⟨0,some (.arr 48 5 [[cv,.sl 2 (ps.map mS),.sl 2 (kM.map ot),.int .i64 dz,.int .i64 db]])⟩:ae):=⟨_,rfl⟩;obtain⟨Iu,⟨TE,Iw⟩,hcE⟩:=hPa.out [cv,.sl 2 (ps.map mS),.sl 2 (kM.map ot),.int .i64 dz,.int .i64 db];rw[←Ix]at Iu Iw hcE;simp(disch:=first|omega|(simp only[ai];omega)) only[hcE.dK,SA.q,←hSa,hPa.q,dF z4,dT (show e4=0 by omega),hPa.b,←Ix,Iu,aj,↓eA,eB,aq,seval];exact⟨_,S,by rw[Iw];exact hn.dO _,.jj (jf (show lW _ _ _ (qR l ps (dz,kM,db))from⟨hcE.rb (by omega) (z8 l),.bX rfl,.bX rfl,.bX rfl,.bX rfl,trivial⟩)) (.bX rfl),ah _,by unfold B7;rw[aC (by simp)],rfl⟩
end Go.Proofs.YtfgkgmmnldocaaaGreatDoor
