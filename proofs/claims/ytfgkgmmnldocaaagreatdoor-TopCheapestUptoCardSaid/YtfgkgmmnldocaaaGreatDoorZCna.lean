/- Cna -/
import Derived.Test.YtfgkgmmnldocaaaGreatDoorZCn8
import Derived.Test.YtfgkgmmnldocaaaGreatDoorZCmpC
set_option linter.unusedSectionVars false
set_option linter.unusedSimpArgs false
set_option linter.unusedVariables false
set_option maxHeartbeats 4000000
namespace Go.Proofs.YtfgkgmmnldocaaaGreatDoor
open Go Go.AL
variable[Go.AL.Mode][Go.AL.bR]
def kx(p:fO)(t:gk)(l:List gv)(ty:bS)(cj:Int)(i:Nat):Bool:=decide (uT p t i l ty cj=0)&&decide ((gg p t i l ty).2=0)
def mr(p:fO)(t:gk)(l:List gv)(ty:bS)(i:Nat):od:=⟨(l.length:Nat),(i:Nat),(gg p t i l ty).1⟩
def fF(p:fO)(t:gk)(l:List gv)(ty:bS)(cj:Int)(n:Nat):List od:=((List.range n).filter (kx p t l ty cj)).map (mr p t l ty)
theorem vw{p:fO}{t:gk}{l:List gv}{ty:bS}{cj:Int}(n:Nat):fF p t l ty cj (n+1)=fF p t l ty cj n++if kx p t l ty cj n then [mr p t l ty n]else []:=by
 unfold fF;rw[List.range_succ,List.filter_append,bF];cases h:kx p t l ty cj n<;>simp[h]
theorem vx{p:fO}{t:gk}{l:List gv}{ty:bS}{cj:Int}{n:Nat}{x:od}(h:x∈fF p t l ty cj n):∃i:Nat,i<n∧kx p t l ty cj i=true∧x=mr p t l ty i:=by
 obtain⟨i,hi,rfl⟩:=List.mem_map.1 h;obtain⟨h1,h2⟩:=List.mem_filter.1 hi;exact⟨i,List.mem_range.1 h1,h2,rfl⟩
theorem pw{p:fO}{t:gk}{l:List gv}{ty:bS}{cj:Int}(n:Nat):(fF p t l ty cj n).length≤n:=by
 unfold fF;rw[aP];exact dU (List.length_filter_le _ _) (by rw[List.length_range];exact ah _)
theorem M5(l:List od):∀r∈l.map e_,r.length=4∧V.bQ r=true:=fun r hr=>by
 obtain⟨x,_,rfl⟩:=List.mem_map.1 hr;exact⟨rfl,rfl⟩
theorem Ie(n:Int)(S:ae):ak Tryz.prog 147 [.int .i64 n] S fun r S'=>r= .bool false∧S'=S:=by
 refine ak.bW Tryz.func147 ajK (U rfl) fun σ b_=>?_;simp only[agl,↓eA,eB,aq,seval]
def KU(a b:Int):Int:=if a<b then-1 else if b<a then 1 else 0
theorem KT(a b:Int)(S:ae):ak Tryz.prog 113 [.int .i64 a,.int .i64 b] S fun r S'=>r= .int .i64 (KU a b)∧S'=S:=by
 refine ak.bW Tryz.func113 ajP (U rfl) fun σ b_=>?_;simp only[agr,↓eA,eB,aq,seval];refine(Ie a S).then ?_
 simp only[↓eA,eB,aq,seval];refine(Ie b S).then ?_
 by_cases h1:a<b
 ·simp only[KU,h1,aQ,↓eA,eB,aq,seval]
 by_cases h2:b<a
 ·simp only[KU,h1,h2,aQ,aZ,↓eA,eB,aq,seval]
 simp only[KU,h1,h2,aZ,↓eA,eB,aq,seval]
theorem Pt(x y:od)(S:ae):ak Tryz.prog 112 [.agg (e_ x),.agg (e_ y)] S fun r S'=>r= .int .i64 (KU x.am y.am)∧S'=S:=by
 refine ak.bW Tryz.func112 afJ (U rfl) fun σ b_=>?_;simp(disch:=first|omega|(simp only[ai];omega)) only[Y2,e_,aj,↓eA,eB,aq,seval];refine(KT _ _ S).then ?_
 simp(disch:=first|omega|(simp only[ai];omega)) only[aj,↓eA,eB,aq,seval]
def qa(S:ae)(id aI:Nat)(L:List od):ae:=S.set id ⟨aI,some (.arr 38 4 (L.map e_))⟩
theorem BQ{S:ae}{id aI:Nat}{L:List od}(h:id<S.length):(qa S id aI L).bq id aI=some (38,4,L.map e_):=by
 simp[qa,ae.bq,h]
theorem MT{S:ae}{id aI:Nat}{L M:List od}:(qa S id aI L).set id ⟨aI,some (.arr 38 4 (M.map e_))⟩=qa S id aI M:=by
 simp[qa]
theorem SU{l:List od}{m:Nat}{x y:od}(hx:l[m+1]?=some x)(hy:l[m]?=some y):((l.set (m+1) y).set m x).Perm l:=by
 obtain⟨h1,rfl⟩:=List.getElem?_eq_some_iff.1 hx;obtain⟨h2,rfl⟩:=List.getElem?_eq_some_iff.1 hy;exact List.set_set_perm h1 h2
theorem CD(L:List od)(S:ae)(id aI N:Nat)(dD:id<S.length)(hN:L.length=N)(hl:N≤1000000):
 ak Tryz.prog 148 [.cU id aI 0 N,.int .i64 0,.int .i64 N,.func 112 [] []] (qa S id aI L) fun r S'=>r= .dI []∧∃M:List od,M.Perm L∧S'=qa S id aI M:=by
 refine ak.bW Tryz.func148 afb (U rfl) fun σ b_=>?_;simp(disch:=first|omega|(simp only[ai];omega)) only[Yf,wrap_i64,aj,↓eA,eB,aq,seval];refine cH (ι:=Nat×List od) (fun i=>[(0,.cU id aI 0 N),(1,.int .i64 0),(2,.int .i64 N),(3,.func 112 [] []),(8,.int .i64 (i.1+1:Nat))]) (fun i=>qa S id aI i.2) (fun i=>i.2.Perm L∧i.1≤N) (fun i=>N-i.1) (0,L) ⟨.refl _,az _⟩ ?_ rfl ?_
 ·simp only[↓eA,eB,aq,seval];try rfl
 rintro⟨i,M⟩ ⟨hp,hi⟩;simp only at hp hi⊢;by_cases aR:((i+1:Nat):Int)<N
 case neg=>
  simp(disch:=first|omega|(simp only[ai];omega)) only[dF aR,aj,↓eA,eB,aq,seval];exact⟨M,hp,rfl⟩
 have om:((i+1:Nat):Int)+1=((i+1+1:Nat):Int):=by omega
 simp(disch:=first|omega|(simp only[ai];omega)) only[dT aR,aj,↓eA,eB,aq,seval];refine cH (ι:=Nat×List od) (fun k=>[(0,.cU id aI 0 N),(1,.int .i64 0),(2,.int .i64 N),(3,.func 112 [] []),(8,.int .i64 (i+1:Nat)),(9,.int .i64 (k.1:Nat))]) (fun k=>qa S id aI k.2) (fun k=>k.2.Perm L∧k.1≤i+1) (fun k=>k.1) (i+1,M) ⟨hp,ah _⟩ ?_ rfl ?_
 ·simp only[↓eA,eB,aq,seval];try rfl
 clear hp M;rintro⟨k,M⟩ ⟨hp,hk⟩;simp only at hp hk⊢;have hlen:=hp.length_eq;by_cases h0:(0:Int)<(k:Nat)
 case neg=>
  simp(disch:=first|omega|(simp only[ai];omega)) only[dF h0,wrap_i64,om,aj,↓eA,eB,aq,seval];exact⟨(i+1,M),⟨hp,by simp only;omega⟩,by simp only;omega,rfl,rfl⟩
 obtain⟨m,rfl⟩:∃m,k=m+1:=⟨k-1,by omega⟩;obtain⟨x,hx⟩:∃x,M[m+1]?=some x:=⟨_,ax (by omega)⟩;obtain⟨y,hy⟩:∃x,M[m]?=some x:=⟨_,ax (by omega)⟩;have hm:((m+1:Nat):Int)-1=(m:Nat):=by omega
 have hmN:((m+1:Nat):Int)<N:=by omega
 have amg:(m:Int)<N:=by omega
 have hob:=BQ (L:=M) (aI:=aI) dD;have cp:=fun S=>Pt x y S;simp only[e_]at cp;simp(disch:=first|omega|(simp only[ai];omega)) only[dT h0,hm,hob,hx,hy,hlen,e_,wrap_i64,aj,↓eA,eB,aq,seval];refine(cp _).then ?_
 by_cases hc:KU x.am y.am<0
 case neg=>
  simp(disch:=first|omega|(simp only[ai];omega)) only[dF hc,wrap_i64,om,aj,↓eA,eB,aq,seval];exact⟨(i+1,M),⟨hp,by simp only;omega⟩,by simp only;omega,rfl,rfl⟩
 have e1:∀(K:List od) (n:Nat) (z:od),(K.map e_).set n [.int .i64 0,.int .i64 z.to,.int .i64 z.dz,.int .i64 z.am]=(K.set n z).map e_:=fun K n z=>(List.map_set ..).symm;have aik:=BQ (L:=M.set (m+1) y) (aI:=aI) dD;have Wy:(M.set (m+1) y)[m]?=some y:=by rw[bB (by omega)];exact hy
 simp(disch:=first|omega|(simp only[ai];omega)) only[dT hc,hm,hob,aik,e1,MT,hx,hy,Wy,hlen,e_,wrap_i64,fQ,aj,↓eA,eB,aq,seval];exact⟨(m,(M.set (m+1) y).set m x),⟨(SU hx hy).trans hp,by simp only;omega⟩,by simp only;omega,rfl,rfl⟩
theorem Ma(L:List od)(S:ae)(id aI N:Nat)(dD:id<S.length)(hN:L.length=N)(hl:N<20):
 ak Tryz.prog 146 [.cU id aI 0 N,.int .i64 N,.func 112 [] []] (qa S id aI L) fun r S'=>r= .dI []∧∃M:List od,M.Perm L∧S'=qa S id aI M:=by
 refine ak.bW Tryz.func146 afg (U rfl) fun σ b_=>?_;have g:¬((20:Int)≤N):=by omega
 have g2:¬((20:Int)<N):=by omega
 simp(disch:=first|omega|(simp only[ai];omega)) only[Yk,wrap_i64,aj,↓eA,eB,aq,seval];refine cH (ι:=Unit) (fun _=>[(0,.cU id aI 0 N),(1,.int .i64 N),(2,.func 112 [] []),(6,.int .i64 20),(7,.int .i64 0),(8,.int .i64 20)]) (fun _=>qa S id aI L) (fun _=>True) (fun _=>0) () trivial ?_ rfl ?_
 ·simp only[↓eA,eB,aq,seval];try rfl
 rintro _ _;simp(disch:=first|omega|(simp only[ai];omega)) only[dF g,aj,↓eA,eB,aq,seval];refine(CD L S id aI N dD hN (by omega)).mono ?_;rintro r S' ⟨rfl,M,hp,rfl⟩;simp(disch:=first|omega|(simp only[ai];omega)) only[aj,↓eA,eB,aq,seval];refine cH (ι:=Unit) (fun _=>[(1,.int .i64 N),(6,.int .i64 20)]) (fun _=>qa S id aI M) (fun _=>True) (fun _=>0) () trivial ?_ rfl ?_
 ·simp only[↓eA,eB,aq,seval];try rfl
 rintro _ _;simp(disch:=first|omega|(simp only[ai];omega)) only[dF g2,aj,↓eA,eB,aq,seval];exact⟨M,hp,rfl⟩
theorem Ta(L:List od)(S:ae)(v:Nat)(hl:L.length<20):ak Tryz.prog 111 [.cU S.length v 0 L.length,.func 112 [] []] (S++[⟨v,some (.arr 38 4 (L.map e_))⟩]) fun r S'=>r= .dI []∧∃M:List od,M.Perm L∧S'=S++[⟨v,some (.arr 38 4 (M.map e_))⟩]:=by
 refine ak.bW Tryz.func111 afi (U rfl) fun σ b_=>?_;have h1:∀M:List od,qa (S++[⟨v,some (.arr 38 4 (L.map e_))⟩]) S.length v M=S++[⟨v,some (.arr 38 4 (M.map e_))⟩]:=fun M=>by simp[qa]
 have:=Ma L (S++[⟨v,some (.arr 38 4 (L.map e_))⟩]) S.length v L.length (by simp) rfl hl;simp only[h1]at this;simp(disch:=first|omega|(simp only[ai];omega)) only[Ym,aj,↓eA,eB,aq,seval];refine this.mono ?_;rintro r S' ⟨rfl,M,h2,rfl⟩;simp only[↓eA,eB,aq,seval];exact⟨M,h2,rfl⟩
theorem UM(p:fO)(hp:D7 p)(t:gk)(tx:List (List V))(h:Jm t)(l:List gv)(hl:l.length≤8)(hw:Se l)(ty:bS)(cj:Int)(S:ae):
 ak Tryz.prog 68 [dV p,.agg (b9 t tx),.sl 8 (l.map cR),.str ty,.int .i64 cj] S fun r S'=>∃(L:List od) (v:Nat),r= .cU S.length v 0 L.length∧L.Perm (fF p t l ty cj t.bE.length)∧S'=S++[⟨v,some (.arr 38 4 (L.map e_))⟩]:=by
 refine ak.bW Tryz.func68 afK (U rfl) fun σ b_=>?_;have wy:=fun i S=>Vu p hp t tx h i l hl hw ty cj S;have am:=fun i S=>lU p hp t tx h i l hl ty S;have nK:=h.bE;simp only[dV,b9]at wy am;simp(disch:=first|omega|(simp only[ai];omega)) only[Y3,dV,b9,aj,↓eA,eB,aq,seval];refine jC.ghost 11 0 38 4 rfl ?_;refine dm (ι:=Nat×Nat) (fun i=>[(2,.sl 8 (l.map cR)),(3,.str ty),(4,.int .i64 cj),(5,.bK [.sl 5 (p.1.map dG),.sl 3 (p.2.map cZ)]),(6,.bK [.sl 9 (t.bE.map fK),.sl 15 (t.rules.map cx),.sl 3 (t.cS.map eP),.sl 7 tx]),(11,.cU S.length i.2 0 (fF p t l ty cj i.1).length),(16,.sl 9 (t.bE.map fK)),(17,.int .i64 t.bE.length),(18,.int .i64 (i.1:Nat))])
  (fun i=>S++[⟨i.2,some (.arr 38 4 ((fF p t l ty cj i.1).map e_))⟩]) (fun i=>i.1≤t.bE.length) (fun i=>t.bE.length-i.1) (fun i hi=>by rw[b_];simp) (0,0) (az _) (.inl ⟨?_,?_⟩) ?_
 ·simp[fF,sub,Env.get]
 ·simp[fF]
 rintro⟨k,v⟩ hk;simp only at hk⊢;have pV:=pw (p:=p) (t:=t) (l:=l) (ty:=ty) (cj:=cj) k;by_cases cK:k<t.bE.length
 ·have aR:((k:Int)<t.bE.length):=by omega
  have cN:(k:Int)+1=((k+1:Nat):Int):=by omega
  have dq:=vw (p:=p) (t:=t) (l:=l) (ty:=ty) (cj:=cj) k;simp(disch:=first|omega|(simp only[ai];omega)) only[dT aR,aj,↓eA,eB,aq,seval];refine(wy _ _).then ?_
  by_cases h1:uT p t (k:Nat) l ty cj=0
  ·simp(disch:=first|omega|(simp only[ai];omega)) only[dT h1,aj,↓eA,eB,aq,seval];refine(am _ _).then ?_
   by_cases h2:(gg p t (k:Nat) l ty).2=0
   ·have hg:kx p t l ty cj k=true:=by unfold kx;rw[dT h1,dT h2];rfl
    rw[hg,aK rfl]at dq;have OF:(fF p t l ty cj (k+1)).map e_=(fF p t l ty cj k).map e_++[[.int .i64 0,.int .i64 (l.length:Nat),.int .i64 (k:Nat),.int .i64 (gg p t (k:Nat) l ty).1]]:=by rw[dq,bF];rfl
    have aaw:(fF p t l ty cj (k+1)).length=(fF p t l ty cj k).length+1:=by rw[dq,aH];rfl
    simp(disch:=first|omega|(simp only[ai];omega)) only[dT h2,wrap_i64,cN,aj,↓eA,eB,aq,seval];refine⟨by unfold dw;omega,(k+1,v+1),by simp only;omega,by simp only;omega,.inl ⟨?_,?_⟩⟩
    ·simp only[aaw,↓eA,eB,aq,seval];try rfl
    ·simp only[OF]
   ·have hg:kx p t l ty cj k=false:=by unfold kx;rw[dF h2,cV]
    rw[hg,aC (by simp),cw]at dq;simp(disch:=first|omega|(simp only[ai];omega)) only[dF h2,wrap_i64,cN,aj,↓eA,eB,aq,seval];refine⟨(k+1,v),by simp only;omega,by simp only;omega,.inl ⟨?_,by simp only[dq]⟩⟩;simp only[dq,↓eA,eB,aq,seval];try rfl
  ·have hg:kx p t l ty cj k=false:=by unfold kx;rw[dF h1,aO]
   rw[hg,aC (by simp),cw]at dq;simp(disch:=first|omega|(simp only[ai];omega)) only[dF h1,wrap_i64,cN,aj,↓eA,eB,aq,seval];refine⟨(k+1,v),by simp only;omega,by simp only;omega,.inl ⟨?_,by simp only[dq]⟩⟩;simp only[dq,↓eA,eB,aq,seval];try rfl
 ·have aR:¬((k:Int)<t.bE.length):=by omega
  have hkk:k=t.bE.length:=by omega
  subst hkk;simp(disch:=first|omega|(simp only[ai];omega)) only[dF aR,aj,↓eA,eB,aq,seval];refine(Ta (fF p t l ty cj t.bE.length) S v (by omega)).mono ?_;rintro _ S2 ⟨rfl,M,Ky,cO⟩;rw[cO];simp(disch:=first|omega|(simp only[ai];omega)) only[aj,↓eA,eB,aq,seval];exact⟨M,v,by rw[Ky.length_eq],Ky,rfl⟩
theorem M0(p:fO)(hp:D7 p)(t:gk)(tx:List (List V))(h:Jm t)(l:List gv)(hl:l.length≤8)(hw:Se l)(ty:bS)(cj:Int)(S:ae):
 ak Tryz.prog 74 [dV p,.agg (b9 t tx),.sl 8 (l.map cR),.str ty,.int .i64 cj] S fun r S'=>∃L:List od,r= .sl 4 (L.map e_)∧L.Perm (fF p t l ty cj t.bE.length)∧S'=S:=by
 refine ak.bp Tryz.func74 Xv fun hn=>?_;refine(ak.fin Tryz.func74 Xv (R:=fun r S'=>(∃L:List od,r= .sl 4 (L.map e_)∧L.Perm (fF p t l ty cj t.bE.length))∧S'=S) (U rfl) fun σ b_=>?_).mono fun r S' ⟨⟨L,h1,h2⟩,h3⟩=>⟨L,h1,h2,h3⟩;have wy:=fun i S=>ZR p hp t tx h i l hl hw ty cj S;have am:=fun i S=>J3 p hp t tx h i l hl ty S;have nK:=h.bE;simp only[dV,b9]at wy am;simp(disch:=first|omega|(simp only[ai];omega)) only[YZ,dV,b9,aj,↓eA,eB,aq,seval];refine dm (ι:=Nat×List od) (fun i=>[(2,.sl 8 (l.map cR)),(3,.str ty),(4,.int .i64 cj),(5,.bK [.sl 5 (p.1.map dG),.sl 3 (p.2.map cZ)]),(6,.bK [.sl 9 (t.bE.map fK),.sl 15 (t.rules.map cx),.sl 3 (t.cS.map eP),.sl 7 tx]),(11,.sl 4 (i.2.map e_)),(12,.int .i64 (i.1:Nat))])
  (fun i=>S) (fun i=>i.1≤t.bE.length∧i.2.Perm (fF p t l ty cj i.1)) (fun i=>t.bE.length-i.1) (fun i hi=>by rw[b_];exact ah _) (0,[]) ⟨az _,List.Perm.refl _⟩ (.inr ⟨hn.self,?_⟩) ?_
 ·simp only[En,↓eA,eB,aq,seval];exact⟨.bX rfl,.bX rfl,.bX rfl,.bX rfl,.bX rfl,.nil,.bX rfl⟩
 rintro⟨k,L⟩ ⟨hk,hpL⟩;simp only at hk hpL⊢;have pV:=pw (p:=p) (t:=t) (l:=l) (ty:=ty) (cj:=cj) k;have hLl:=hpL.length_eq;by_cases cK:k<t.bE.length
 case' neg=>
  have aR:¬((k:Int)<t.bE.length):=by omega
  have hkk:k=t.bE.length:=by omega
  subst hkk;simp(disch:=first|omega|(simp only[ai];omega)) only[dF aR,aj,↓eA,eB,aq,seval];exact⟨_,S,hn.self,.bX rfl,ah _,⟨L,rfl,hpL⟩,rfl⟩
 have aR:((k:Int)<t.bE.length):=by omega
 have cN:(k:Int)+1=((k+1:Nat):Int):=by omega
 have dq:=vw (p:=p) (t:=t) (l:=l) (ty:=ty) (cj:=cj) k;simp(disch:=first|omega|(simp only[ai];omega)) only[dT aR,aj,↓eA,eB,aq,seval];refine(am _ _).then ?_
 by_cases h2:(gg p t (k:Nat) l ty).2=0
 case' neg=>
  have hg:kx p t l ty cj k=false:=by unfold kx;rw[dF h2,cV]
  rw[hg,aC (by simp),cw]at dq;simp(disch:=first|omega|(simp only[ai];omega)) only[dF h2,wrap_i64,cN,aj,↓eA,eB,aq,seval];exact⟨(k+1,L),⟨by simp only;omega,by simp only;rw[dq];exact hpL⟩,by simp only;omega,.inl ⟨by simp only[↓eA,eB,aq,seval];try rfl,rfl⟩⟩
 simp(disch:=first|omega|(simp only[ai];omega)) only[dT h2,aj,↓eA,eB,aq,seval];refine(wy _ _).then ?_
 by_cases h1:uT p t (k:Nat) l ty cj=0
 case' neg=>
  have hg:kx p t l ty cj k=false:=by unfold kx;rw[dF h1,aO]
  rw[hg,aC (by simp),cw]at dq;simp(disch:=first|omega|(simp only[ai];omega)) only[dF h1,wrap_i64,cN,aj,↓eA,eB,aq,seval];exact⟨(k+1,L),⟨by simp only;omega,by simp only;rw[dq];exact hpL⟩,by simp only;omega,.inl ⟨by simp only[↓eA,eB,aq,seval];try rfl,rfl⟩⟩
 have hg:kx p t l ty cj k=true:=by unfold kx;rw[dT h1,dT h2];rfl
 rw[hg,aK rfl]at dq;simp(disch:=first|omega|(simp only[ai];omega)) only[dT h1,aj,↓eA,eB,aq,seval];generalize hA:(gg p t (k:Nat) l ty).1=A at*;have hxa:(mr p t l ty k).am=A:=hA;refine cH (ι:=Nat) (fun j=>[(2,.sl 8 (l.map cR)),(3,.str ty),(4,.int .i64 cj),(5,.bK [.sl 5 (p.1.map dG),.sl 3 (p.2.map cZ)]),(6,.bK [.sl 9 (t.bE.map fK),.sl 15 (t.rules.map cx),.sl 3 (t.cS.map eP),.sl 7 tx]),(11,.sl 4 (L.map e_)),(12,.int .i64 (k:Nat)),(13,.int .i64 A),(15,.int .i64 (j:Nat))])
  (fun j=>S) (fun j=>j≤L.length) (fun j=>L.length-j) 0 (az _) ?_ rfl ?_
 ·simp only[↓eA,eB,aq,seval];try rfl
 intro j hj;have hjL:(j:Int)≤(L.length:Nat):=by omega
 have aee:(j:Int)≤(L.length:Nat)∧((L.length:Nat):Int)≤(L.length:Nat):=by omega
 have htd:(L.drop j).take (L.length-j)=L.drop j:=bh (by rw[List.length_drop];exact ah _);have Bd:(L.take j).length=j:=by rw[bV];omega
 have hdl:(L.drop j).length=L.length-j:=List.length_drop;have fin:(L.take j++mr p t l ty k::L.drop j).Perm (fF p t l ty cj (k+1)):=by
  rw[dq];refine List.perm_middle.trans ?_;rw[List.take_append_drop];exact(List.Perm.cons _ hpL).trans (List.perm_append_singleton _ _).symm
 have gM:(L.take j++mr p t l ty k::L.drop j).map e_=(L.map e_).take j++[[.int .i64 0,.int .i64 (l.length:Nat),.int .i64 (k:Nat),.int .i64 A]]++(L.map e_).drop j:=by
  rw[bF,bd,c8,dh,bG,List.singleton_append,←hxa];rfl
 have qu:=M5 (L.take j++mr p t l ty k::L.drop j);cases hc:L[j]? with
 |none=>
  have eh:=List.getElem?_eq_none_iff.1 hc;have Ui:¬((j:Int)<L.length):=by omega
  simp(disch:=first|omega|(simp only[ai];omega)) only[dF Ui,aK hjL,wrap_i64,cN,aj,↓eA,eB,aq,seval];refine⟨by rw[Bd];unfold dw;omega,by rw[Bd];unfold dw;omega,?_⟩;have OF:(L.take j++mr p t l ty k::L.drop j).length=j+1+(L.length-j):=by rw[aH,a_,Bd,hdl];omega
  simp(disch:=first|omega|(simp only[ai];omega)) only[aK aee,htd,Bd,hdl,wrap_i64,cN,aj,↓eA,eB,aq,seval];refine⟨by rw[aH,aP,Bd];rfl,by unfold dw;omega,(k+1,L.take j++mr p t l ty k::L.drop j),⟨by simp only;omega,fin⟩,by simp only;omega,.inr ⟨hn.dO _,?_⟩⟩;simp only[En,↓eA,eB,aq,seval];refine⟨.bX rfl,.bX rfl,.bX rfl,.bX rfl,.bX rfl,?_,.bX rfl⟩;refine .sl (t:=38) (ah _) (by rw[dP,gM,c8,dh,cE]) (by rw[aP,OF]) qu
 |some y=>
  have akt:=(List.getElem?_eq_some_iff.1 hc).1;have Ui:((j:Int)<L.length):=by omega
  have hj1:(j:Int)+1=((j+1:Nat):Int):=by omega
  by_cases hya:y.am≤A
  ·simp(disch:=first|omega|(simp only[ai];omega)) only[dT Ui,hc,dT hya,e_,wrap_i64,hj1,aj,↓eA,eB,aq,seval];exact⟨j+1,by omega,by omega,by first|rfl|exact⟨rfl,rfl⟩⟩
  ·simp(disch:=first|omega|(simp only[ai];omega)) only[dT Ui,hc,dF hya,e_,aK hjL,wrap_i64,cN,aj,↓eA,eB,aq,seval];refine⟨by rw[Bd];unfold dw;omega,by rw[Bd];unfold dw;omega,?_⟩;have OF:(L.take j++mr p t l ty k::L.drop j).length=j+1+(L.length-j):=by rw[aH,a_,Bd,hdl];omega
   simp(disch:=first|omega|(simp only[ai];omega)) only[aK aee,htd,Bd,hdl,wrap_i64,cN,aj,↓eA,eB,aq,seval];refine⟨by rw[aH,aP,Bd];rfl,by unfold dw;omega,(k+1,L.take j++mr p t l ty k::L.drop j),⟨by simp only;omega,fin⟩,by simp only;omega,.inr ⟨hn.dO _,?_⟩⟩;simp only[En,↓eA,eB,aq,seval];refine⟨.bX rfl,.bX rfl,.bX rfl,.bX rfl,.bX rfl,?_,.bX rfl⟩;refine .sl (t:=38) (ah _) (by rw[dP,gM,c8,dh,cE]) (by rw[aP,OF]) qu
end Go.Proofs.YtfgkgmmnldocaaaGreatDoor
namespace Go.Proofs.YtfgkgmmnldocaaaGreatDoor
end Go.Proofs.YtfgkgmmnldocaaaGreatDoor
