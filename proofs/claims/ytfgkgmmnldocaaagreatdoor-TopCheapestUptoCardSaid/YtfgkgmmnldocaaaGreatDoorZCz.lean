/- Cz -/
import Derived.Test.YtfgkgmmnldocaaaGreatDoorZCsB
import Derived.Test.YtfgkgmmnldocaaaGreatDoorZCmp1
set_option linter.unusedSectionVars false
set_option linter.unusedSimpArgs false
set_option linter.unusedVariables false
set_option maxHeartbeats 4000000
set_option maxRecDepth 10000
namespace Go.Proofs.YtfgkgmmnldocaaaGreatDoor
open Go Go.AL
variable[Go.AL.Mode][Go.AL.bR]
def Vl(l:List (Int×Int)):Prop:=zC l∧∀s∈l,0≤s.1∧s.1<52596000
def D4(l:List (Int×Int)):Prop:=l.length≤256∧zC l
theorem JU{l:List (Int×Int)}{k:Nat}{s:Int×Int}(h:Vl (l.take k))(hc:l[k]?=some s)(h1:decide (s.1<0)=false)(h2:decide (52596000≤s.1)=false)
 (h3:decide ((0:Int)<(k:Nat))=false∨∃s0,l[k-1]?=some s0∧decide (IntKind.i64.wrap (s.1-s0.1)<2880)=false):Vl (l.take (k+1)):=by
 have g1:=jG h1;have g2:=jG h2;rw[gy hc];refine⟨?_,fun x hx=>?_⟩
 ·unfold zC;rw[List.pairwise_append];refine⟨h.1,List.pairwise_singleton _ _,fun a ha b hb=>?_⟩;rw[bM]at hb;subst hb;obtain⟨j,hj⟩:=ez ha;have oV:=(List.getElem?_eq_some_iff.1 hj).1;rw[bV]at oV;rcases h3 with h3|⟨s0,Kv,h3⟩
  ·have:=jG h3;omega
  ·have hm:(l.take k)[k-1]?=some s0:=by rw[bC,aK (by omega)];exact Kv
   have alS:=h.2 s0 (aB hm);have h4:=jG h3;rw[wrap_i64 (by omega) (by omega)]at h4;by_cases e:j=k-1
   ·subst e;rw[hm]at hj;cases hj;omega
   ·obtain⟨p1,rfl⟩:=List.getElem?_eq_some_iff.1 hj;obtain⟨p2,rfl⟩:=List.getElem?_eq_some_iff.1 hm;have:=List.pairwise_iff_getElem.1 h.1 j (k-1) p1 p2 (by omega);omega
 ·rcases List.mem_append.1 hx with hx|hx
  ·exact h.2 x hx
  ·rw[bM]at hx;subst hx;omega
theorem ML(off:Int)(sh:List (Int×Int))(S:ae):ak Tryz.prog 125 [.agg [.int .i64 off,.sl 2 (sh.map rT)]] S fun r S'=>∃e:Int,r= .int .i64 e∧(e=0→D4 sh)∧S'=S:=by
 refine ak.bp Tryz.func125 ae2 fun hn=>?_;refine ak.fin Tryz.func125 ae2 (U rfl) fun σ b_=>?_;have ad3:=fun n S=>JX n S;by_cases h1:256<sh.length
 ·have Iy:(256:Int)<sh.length:=by omega
  simp(disch:=first|omega|(simp only[ai];omega)) only[aca,dT Iy,aj,↓eA,eB,aq,seval];exact⟨_,S,hn.self,.bX rfl,ah _,4,rfl,fun h=>by omega,rfl⟩
 have Iy:¬(256:Int)<sh.length:=by omega
 simp(disch:=first|omega|(simp only[ai];omega)) only[aca,dF Iy,aj,↓eA,eB,aq,seval];refine(ad3 _ _).then ?_
 cases h2:TI off with
 |false=>
  simp(disch:=first|omega|(simp only[ai];omega)) only[aj,↓eA,eB,aq,seval];exact⟨_,S,hn.self,.bX rfl,ah _,2,rfl,fun h=>by omega,rfl⟩
 |true=>
  simp(disch:=first|omega|(simp only[ai];omega)) only[aj,↓eA,eB,aq,seval];refine dm (ι:=Nat) (fun k=>[(1,.bK [.int .i64 off,.sl 2 (sh.map rT)]),(3,.int .i64 (k:Nat))]) (fun _=>S) (fun k=>k≤sh.length∧Vl (sh.take k)) (fun k=>sh.length-k) (fun i hi=>by rw[b_];exact ah _) 0 ⟨az _,by simp[Vl,zC]⟩ (.inl ⟨?_,rfl⟩) ?_
  ·simp only[↓eA,eB,aq,seval]
  rintro k ⟨hk,gK⟩;cases hc:sh[k]? with
  |none=>
   have eh:sh.length≤k:=List.getElem?_eq_none_iff.1 hc;have aR:¬((k:Int)<sh.length):=by omega
   simp(disch:=first|omega|(simp only[ai];omega)) only[dF aR,aj,↓eA,eB,aq,seval];rw[bh eh]at gK;exact⟨_,S,hn.self,.bX rfl,ah _,0,rfl,fun h=>⟨by omega,gK.1⟩,rfl⟩
  |some s=>
   have cK:=(List.getElem?_eq_some_iff.1 hc).1;have aR:(k:Int)<sh.length:=by omega
   have cN:(k:Int)+1=((k+1:Nat):Int):=by omega
   have e1:IntKind.i64.wrap ((k:Int)-1)=((k-1:Nat):Int)∨k=0:=by
    rcases Nat.eq_zero_or_pos k with h|h
    ·exact .inr h
    ·exact .inl (by rw[wrap_i64 (by omega) (by omega)];omega)
   rcases e1 with e1|e1
   case' inl=>
    by_cases Fw:0<k
    case' pos=>
     have Kv:sh[k-1]?=some (sh[k-1]'(by omega)):=ax _;generalize sh[k-1]'(by omega)=s0 at Kv;have hd3:decide ((0:Int)<(k:Nat))=true:=oe (by omega);cases hd4:decide (IntKind.i64.wrap (s.1-s0.1)<2880)
    case' neg=>
     have Kv:sh[k]?=some s:=hc;have hd3:decide ((0:Int)<(k:Nat))=false:=gL (by omega);have hd4:True:=trivial
   case' inr=>
    have Kv:sh[k]?=some s:=hc;have hd3:decide ((0:Int)<(k:Nat))=false:=gL (by omega);clear e1;have e1:True:=trivial;have hd4:True:=trivial
   all_goals
    cases WI:decide (s.1<0)<;>cases hd2:decide (52596000≤s.1)<;>simp(disch:=first|omega|(simp only[ai];omega)) only[dT aR,hc,Kv,WI,hd2,hd3,hd4,e1,rT,aj,↓eA,eB,aq,seval]
   all_goals first
    |exact⟨_,S,hn.dO _,.bX rfl,ah _,13,rfl,fun h=>by omega,rfl⟩
    |(refine(ad3 _ _).then ?_
      cases h5:TI s.2<;>simp(disch:=first|omega|(simp only[ai];omega)) only[wrap_i64,cN,aj,↓eA,eB,aq,seval]
      ·exact⟨_,S,hn.dO _,.bX rfl,ah _,2,rfl,fun h=>by omega,rfl⟩
      ·exact⟨k+1,⟨by omega,JU gK hc WI hd2 (by first|exact .inl hd3|exact .inr ⟨_,Kv,hd4⟩)⟩,by omega,dt (hn.dO _) (by simp only[↓eA,eB,aq,seval];try rfl) (by simp[V.under,V.bI])⟩)
theorem Tq(p:fO)(hp:p.1.length≤2000000)(i:Nat)(a:lX)(ha:p.1[i]?=some a)(S:ae):ak Tryz.prog 75 [dV p,.int .i64 (i:Nat)] S fun r S'=>∃es:List Int,r= .sl 1 (es.map iu)∧(es=[]→D4 a.sh)∧es.length≤4∧S'=S:=by
 refine ak.bp Tryz.func75 ae5 fun hn=>?_;refine ak.fin Tryz.func75 ae5 (U rfl) fun σ b_=>?_;have sC:=(List.getElem?_eq_some_iff.1 ha).1;have c1:=fun S=>lH a.code S;have c2:=fun S=>lH a.iH S;have c3:=fun S=>vm a.IU S;have cz:=fun S=>ML a.off a.sh S;simp(disch:=first|omega|(simp only[ai];omega)) only[agp,dV,ha,dG,aj,↓eA,eB,aq,seval];have r1:(1≤dw)=True:=by simp[dw]
 apply BG (P:=Tryz.prog) (N:=93) (σ:=σ) (fun es:List Int=>es.length≤1) (fun es=>[(2,.bK [.sl 5 (p.1.map dG),.sl 3 (p.2.map cZ)]),(1,.int .i64 (i:Nat)),(5,nx (S.length+1) (es.map iu)),(6,.ptr S.length 0 0 0),(7,.bool false),(8,.bool false),(9,.int .i64 0)]) (fun es=>S++⟨0,some (.arr 137 5 [dG a])⟩::lV 40 1 (es.map iu))
 ·intro key;refine(c1 _).then ?_
  cases b1:vO a.code 3<;>simp(disch:=first|omega|(simp only[ai];omega)) only[r1,eG,aj,↓eA,eB,aq,seval]
  case' true=>refine(c2 _).then ?_
  case' true=>cases b2:vO a.iH 3<;>simp(disch:=first|omega|(simp only[ai];omega)) only[r1,eG,aj,↓eA,eB,aq,seval]
  case' true.true=>refine(c3 _).then ?_
  case' true.true=>cases b3:vO a.IU 2<;>simp(disch:=first|omega|(simp only[ai];omega)) only[r1,eG,aj,↓eA,eB,aq,seval]
  case' true.true.true=>exact(key [] (by simp)).sub (by simp only[rG,↓eA,eB,aq,seval])
  all_goals exact(key [5] (by simp)).sub (by simp only[iu,nx,bz,↓eA,eB,aq,seval])
 ·intro es hes;refine cH (ι:=Nat×Bool×Bool) (fun k=>[(2,.bK [.sl 5 (p.1.map dG),.sl 3 (p.2.map cZ)]),(1,.int .i64 (i:Nat)),(5,nx (S.length+1) (es.map iu)),(6,.ptr S.length 0 0 0),(7,.bool k.2.1),(8,.bool k.2.2),(9,.int .i64 (k.1:Nat))]) (fun _=>S++⟨0,some (.arr 137 5 [dG a])⟩::lV 40 1 (es.map iu)) (fun k=>k.1≤i) (fun k=>i-k.1) (0,false,false) (az _) ?_ rfl ?_
  ·simp only[↓eA,eB,aq,seval];try rfl
  rintro⟨k,tw,mv⟩ hk;simp only at hk⊢;by_cases Sw:k<i
  ·have aR:(k:Int)<i:=by omega
   have cN:(k:Int)+1=((k+1:Nat):Int):=by omega
   obtain⟨q,hq⟩:∃q,p.1[k]?=some q:=⟨_,ax (by omega)⟩;cases tw<;>cases mv<;>cases d1:decide (q.code=a.code)<;>cases d2:decide (q.iH=a.iH)<;>cases d3:decide (q.IU=a.IU)<;>simp(disch:=first|omega|(simp only[ai];omega)) only[dT aR,hq,d1,d2,d3,dG,wrap_i64,cN,aj,↓eA,eB,aq,seval];all_goals exact⟨(k+1,_,_),by simp only;omega,by simp only;omega,rfl,rfl,rfl⟩
  ·have aR:¬(k:Int)<i:=by omega
   have b0:(es.map iu).length<100000000:=by simp;omega
   have b1:(es.map iu++[[V.int .i64 6]]).length<100000000:=by simp;omega
   have b2:(es.map iu++[[V.int .i64 8]]).length<100000000:=by simp;omega
   have b3:(es.map iu++[[V.int .i64 6]]++[[V.int .i64 8]]).length<100000000:=by simp;omega
   obtain⟨LX,ht1⟩:∃t,t=tw:=⟨_,rfl⟩;obtain⟨TP,Uh⟩:∃t,t=mv:=⟨_,rfl⟩;cases tw<;>cases mv<;>simp(disch:=first|omega|(simp only[ai];omega)) only[dF aR,kA rfl b0,kA rfl b1,kA rfl b2,kA rfl b3,dG,aj,↓eA,eB,aq,seval];all_goals
    refine(cz _).mono ?_;rintro _ _ ⟨e,rfl,he,rfl⟩;by_cases h0:e=0
    case' pos=>
     have hz:nw es LX TP e=nw es LX TP 0:=by rw[h0]
     simp(disch:=first|omega|(simp only[ai];omega)) only[dT h0,aj,↓eA,eB,aq,seval]
    case' neg=>
     have hz:nw es LX TP e=nw es LX TP 0++[e]:=by unfold nw;rw[aC h0];simp
     simp(disch:=first|omega|(simp only[ai];omega)) only[dF h0,kA rfl b0,kA rfl b1,kA rfl b2,kA rfl b3,aj,↓eA,eB,aq,seval]
   all_goals
    have gK:=my (nw es LX TP e);have hle:(nw es LX TP e).length≤4:=by have:=K8 es LX TP e;omega
    have hzn:nw es LX TP e=[]→e=0:=fun h=>by
     unfold nw at h;have h:=(List.append_eq_nil_iff.1 h).2;by_cases g:e=0
     ·exact g
     ·rw[aC g]at h;cases h
    refine⟨.sl 1 ((nw es LX TP e).map iu),S,hn.dO _,?_,ah _,_,rfl,fun h=>he (hzn h),hle,rfl⟩;rw[hz]at gK⊢;simp only[nw,ht1,Uh,aQ,aZ,aV,cw,bF,bd,bY,iu]at gK⊢;exact Pk gK
theorem EL(p:fO)(Ky:p.1.length≤1000)(hp2:p.2.length≤1000)(S:ae):ak Tryz.prog 40 [dV p] S fun r S'=>∃l:List Ft,r= .sl 2 (l.map Bg)∧(l=[]→∀a∈p.1,D4 a.sh)∧S'=S:=by
 refine ak.bp Tryz.func40 ae6 fun hn=>?_;refine ak.fin Tryz.func40 ae6 (U rfl) fun σ b_=>?_;simp(disch:=first|omega|(simp only[ai];omega)) only[agu,dV,aj,↓eA,eB,aq,seval];refine cH (ι:=Nat×List Ft) (fun i=>[(1,.bK [.sl 5 (p.1.map dG),.sl 3 (p.2.map cZ)]),(3,nx S.length (i.2.map Bg)),(4,.int .i64 (i.1:Nat))]) (fun i=>S++lV 118 2 (i.2.map Bg))
  (fun i=>i.1≤p.1.length∧i.2.length≤4*i.1∧(i.2=[]→∀(j:Nat) (a:lX),j<i.1→p.1[j]?=some a→D4 a.sh)) (fun i=>p.1.length-i.1) (0,[]) ⟨az _,by simp,fun _ j a hj=>by simp at hj⟩ ?_ (by simp[lV]) ?_
 ·simp only[rG,↓eA,eB,aq,seval];try rfl
 rintro⟨i,fs⟩ ⟨hi,nK,hfz⟩;simp only at hi nK hfz⊢;cases hc:p.1[i]? with
 |none=>
  have eh:=List.getElem?_eq_none_iff.1 hc;have aR:¬((i:Int)<p.1.length):=by omega
  simp(disch:=first|omega|(simp only[ai];omega)) only[dF aR,aj,↓eA,eB,aq,seval];have hz:fs=[]→∀a∈p.1,D4 a.sh:=fun h a ha=>by
   obtain⟨j,hj⟩:=ez ha;have:=(List.getElem?_eq_some_iff.1 hj).1;exact hfz h j a (by omega) hj
  refine cH (ι:=Nat×List Ft) (fun i=>[(1,.bK [.sl 5 (p.1.map dG),.sl 3 (p.2.map cZ)]),(3,nx S.length (i.2.map Bg)),(7,.int .i64 (i.1:Nat))]) (fun i=>S++lV 118 2 (i.2.map Bg))
   (fun i=>i.1≤p.2.length∧i.2.length≤4400000+4*i.1∧(i.2=[]→∀a∈p.1,D4 a.sh)) (fun i=>p.2.length-i.1) (0,fs) ⟨az _,by simp only;omega,hz⟩ ?_ rfl ?_
  ·simp only[↓eA,eB,aq,seval];try rfl
  rintro⟨i,gs⟩ ⟨hi,hgl,hgz⟩;simp only at hi hgl hgz⊢;cases hcd:p.2[i]? with
  |none=>
   have eh:=List.getElem?_eq_none_iff.1 hcd;have aR:¬((i:Int)<p.2.length):=by omega
   simp(disch:=first|omega|(simp only[ai];omega)) only[dF aR,aj,↓eA,eB,aq,seval];exact⟨_,S,hn.dO _,Az (UB gs),ah _,gs,rfl,hgz,rfl⟩
  |some d=>
   have cK:=(List.getElem?_eq_some_iff.1 hcd).1;have aR:((i:Int)<p.2.length):=by omega
   have kq:(i:Int)+1=((i+1:Nat):Int):=by omega
   have hg:=fun S=>ZZ p (by omega) (by omega) i d hcd S;simp only[dV]at hg;have jE:dW .add (.str [100,105,115,116,97,110,99,101,32]) (.str (jo i))=some (.str (sL++jo i)):=kJ (by have:=rk i;simp only[a_,bz];unfold maxLen;omega);simp(disch:=first|omega|(simp only[ai];omega)) only[dT aR,aj,↓eA,eB,aq,seval];refine(hg _).mono ?_;rintro _ _ ⟨es,rfl,hle,rfl⟩;simp(disch:=first|omega|(simp only[ai];omega)) only[aj,↓eA,eB,aq,seval];refine cH (ι:=Nat) (fun k=>[(1,.bK [.sl 5 (p.1.map dG),.sl 3 (p.2.map cZ)]),(3,nx S.length ((gs++(es.take k).map fun e=>(⟨e,sL++jo i⟩:Ft)).map Bg)),(7,.int .i64 (i:Nat)),(8,.sl 1 (es.map iu)),(9,.int .i64 (k:Nat))]) (fun k=>S++lV 118 2 ((gs++(es.take k).map fun e=>(⟨e,sL++jo i⟩:Ft)).map Bg))
    (fun k=>k≤es.length) (fun k=>es.length-k) 0 (az _) ?_ (by simp) ?_
   ·simp only[cw,↓eA,eB,aq,seval];try rfl
   intro k hk;cases Ef:es[k]? with
   |none=>
    have eh:=List.getElem?_eq_none_iff.1 Ef;have kg:¬((k:Int)<es.length):=by omega
    simp(disch:=first|omega|(simp only[ai];omega)) only[dF kg,wrap_i64,kq,aj,↓eA,eB,aq,seval];refine⟨(i+1,gs++(es.take k).map fun e=>(⟨e,sL++jo i⟩:Ft)),⟨by simp only;omega,?_,fun h=>hgz (List.append_eq_nil_iff.1 h).1⟩,by simp only;omega,⟨rfl,rfl⟩,rfl⟩;simp only[aH,aP,bV];omega
   |some e=>
    have WB:=(List.getElem?_eq_some_iff.1 Ef).1;have kg:((k:Int)<es.length):=by omega
    have cN:(k:Int)+1=((k+1:Nat):Int):=by omega
    have dq:(gs++(es.take (k+1)).map fun e=>(⟨e,sL++jo i⟩:Ft)).map Bg=(gs++(es.take k).map fun e=>(⟨e,sL++jo i⟩:Ft)).map Bg++[[.int .i64 e,.str (sL++jo i)]]:=by rw[gy Ef];simp[Bg]
    have lR:((gs++(es.take k).map fun e=>(⟨e,sL++jo i⟩:Ft)).map Bg).length<100000000:=by simp only[aP,aH,bV];omega
    simp(disch:=first|omega|(simp only[ai];omega)) only[dT kg,Ef,iu,aj,↓eA,eB,aq,seval];refine qv.intro (mQ i (by omega) _) ?_;simp(disch:=first|omega|(simp only[ai];omega)) only[jE,j4 rfl lR,wrap_i64,cN,aj,↓eA,eB,aq,seval];exact⟨k+1,by omega,by omega,by rw[dq];exact⟨rfl,rfl⟩,by rw[dq]⟩
 |some a=>
  have cK:=(List.getElem?_eq_some_iff.1 hc).1;have aR:((i:Int)<p.1.length):=by omega
  have kq:(i:Int)+1=((i+1:Nat):Int):=by omega
  have hg:=fun S=>Tq p (by omega) i a hc S;simp only[dV]at hg;have jE:dW .add (.str [97,105,114,112,111,114,116,32]) (.str (jo i))=some (.str (sM++jo i)):=kJ (by have:=rk i;simp only[a_,bz];unfold maxLen;omega);simp(disch:=first|omega|(simp only[ai];omega)) only[dT aR,aj,↓eA,eB,aq,seval];refine(hg _).mono ?_;rintro _ _ ⟨es,rfl,hz,hle,rfl⟩;simp(disch:=first|omega|(simp only[ai];omega)) only[aj,↓eA,eB,aq,seval];refine cH (ι:=Nat) (fun k=>[(1,.bK [.sl 5 (p.1.map dG),.sl 3 (p.2.map cZ)]),(3,nx S.length ((fs++(es.take k).map fun e=>(⟨e,sM++jo i⟩:Ft)).map Bg)),(4,.int .i64 (i:Nat)),(5,.sl 1 (es.map iu)),(6,.int .i64 (k:Nat))]) (fun k=>S++lV 118 2 ((fs++(es.take k).map fun e=>(⟨e,sM++jo i⟩:Ft)).map Bg))
   (fun k=>k≤es.length) (fun k=>es.length-k) 0 (az _) ?_ (by simp) ?_
  ·simp only[cw,↓eA,eB,aq,seval];try rfl
  intro k hk;cases Ef:es[k]? with
  |none=>
   have eh:=List.getElem?_eq_none_iff.1 Ef;have kg:¬((k:Int)<es.length):=by omega
   simp(disch:=first|omega|(simp only[ai];omega)) only[dF kg,wrap_i64,kq,aj,↓eA,eB,aq,seval];refine⟨(i+1,fs++(es.take k).map fun e=>(⟨e,sM++jo i⟩:Ft)),⟨by simp only;omega,?_,fun h j b hj hb=>?_⟩,by simp only;omega,⟨rfl,rfl⟩,rfl⟩
   ·simp only[aH,aP,bV];omega
   ·obtain⟨h1,h2⟩:=List.append_eq_nil_iff.1 h;simp only at hj;by_cases n9:j=i
    ·subst n9;rw[hc]at hb;cases hb;rw[bh eh]at h2;exact hz (List.map_eq_nil_iff.1 h2)
    ·exact hfz h1 j b (by omega) hb
  |some e=>
   have WB:=(List.getElem?_eq_some_iff.1 Ef).1;have kg:((k:Int)<es.length):=by omega
   have cN:(k:Int)+1=((k+1:Nat):Int):=by omega
   have dq:(fs++(es.take (k+1)).map fun e=>(⟨e,sM++jo i⟩:Ft)).map Bg=(fs++(es.take k).map fun e=>(⟨e,sM++jo i⟩:Ft)).map Bg++[[.int .i64 e,.str (sM++jo i)]]:=by rw[gy Ef];simp[Bg]
   have lR:((fs++(es.take k).map fun e=>(⟨e,sM++jo i⟩:Ft)).map Bg).length<100000000:=by simp only[aP,aH,bV];omega
   simp(disch:=first|omega|(simp only[ai];omega)) only[dT kg,Ef,iu,aj,↓eA,eB,aq,seval];refine qv.intro (mQ i (by omega) _) ?_;simp(disch:=first|omega|(simp only[ai];omega)) only[jE,j4 rfl lR,wrap_i64,cN,aj,↓eA,eB,aq,seval];exact⟨k+1,by omega,by omega,by rw[dq];exact⟨rfl,rfl⟩,by rw[dq]⟩
end Go.Proofs.YtfgkgmmnldocaaaGreatDoor
