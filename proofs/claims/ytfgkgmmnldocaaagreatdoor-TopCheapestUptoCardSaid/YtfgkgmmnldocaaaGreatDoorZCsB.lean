/- CsB -/
import Derived.Test.YtfgkgmmnldocaaaGreatDoorZCsA
import Derived.Test.YtfgkgmmnldocaaaGreatDoorZCmpC
set_option linter.unusedSectionVars false
set_option linter.unusedSimpArgs false
set_option linter.unusedVariables false
set_option maxHeartbeats 8000000
set_option maxRecDepth 10000
namespace Go.Proofs.YtfgkgmmnldocaaaGreatDoor
open Go Go.AL
variable[Go.AL.Mode][Go.AL.bR]
def txC:bS:=[99,97,114,114,105,101,114]
def txN:bS:=[110,117,109,98,101,114]
def WI(x:Fl):List Ft:=if PV x.c then []else [⟨5,txC⟩]
def hd2(x:Fl):List Ft:=WI x++if x.n<1∨9999<x.n then [⟨2,txN⟩]else []
theorem UB(l:List Ft):∀r∈l.map Bg,r.length=2∧V.bQ r=true:=fun r hr=>by
 obtain⟨x,_,rfl⟩:=List.mem_map.1 hr;exact⟨rfl,rfl⟩
end Go.Proofs.YtfgkgmmnldocaaaGreatDoor
namespace Go.Proofs.YtfgkgmmnldocaaaGreatDoor
open Go Go.AL
variable[Go.AL.Mode][Go.AL.bR]
end Go.Proofs.YtfgkgmmnldocaaaGreatDoor
namespace Go.Proofs.YtfgkgmmnldocaaaGreatDoor
open Go Go.AL
variable[Go.AL.Mode][Go.AL.bR]
def ajV(L:List Lg):Prop:=∀(i:Nat) (l:Lg),L[i]?=some l→ajq L i l=true
structure ajW(p:fO)(x:Fl):Prop where
 car:PV x.c=true
 pd:tW x.p=0
 few:x.TY.length≤6
 some_:0<x.TY.length
 goes:ajV x.TY
structure ano(p:fO)(l:List Fl):Prop where
 fl:∀x∈l,ajW p x
 tw:∀(i j:Nat) (x y:Fl),i<j→l[i]?=some x→l[j]?=some y→x.c=y.c→x.n=y.n→adx x.p y.p=false
end Go.Proofs.YtfgkgmmnldocaaaGreatDoor
namespace Go.Proofs.YtfgkgmmnldocaaaGreatDoor
open Go Go.AL
variable[Go.AL.Mode][Go.AL.bR]
def dg(n:Nat):bS:=[UInt8.ofNat (48+n)]
def qn:Nat→Nat→bS
 |0,n=>dg n
 |k+1,n=>if n<10 then dg n else qn k (n/10)++dg (n%10)
theorem wk:∀k n,(qn k n).length≤k+1
 |0,n=>by simp[qn,dg]
 |k+1,n=>by
  rw[qn];split
  ·simp[dg]
  ·have:=wk k (n/10);simp only[aH,dg,a_,bz];omega
theorem PF:∀(k n:Nat) (S:ae),k≤40→n<10^(k+1)→n<18446744073709551616→ak Tryz.prog 83 [.int .u64 n] S fun r S'=>r= .str (qn k n)∧S'=S
 |0,n,S,aiA,hn,h64=>by
  have h:=IQ n S (by simpa using hn);rw[show xB n=qn 0 n by unfold xB qn dg;rw[aK (by simpa using hn)]]at h;exact h
 |k+1,n,S,aiA,hn,h64=>by
  by_cases h:n<10
  ·have h1:=IQ n S h;rw[show xB n=qn (k+1) n by unfold xB qn dg;rw[aK h,aK h]]at h1;exact h1
  refine ak.bW Tryz.func83 ae3 (U rfl) fun σ b_=>?_;have h':¬(n:Int)<10:=by omega
  have e1:(n:Int).tdiv 10=((n/10:Nat):Int):=by rw[dd (by omega)];omega
  have e2:(n:Int).tmod 10=((n%10:Nat):Int):=by rw[bH (by omega)];omega
  have hc:((n%10:Nat):Int)+1=((n%10+1:Nat):Int):=by omega
  have hs:KR [48,49,50,51,52,53,54,55,56,57] (some ((n%10:Nat):Int)) (some ((n%10+1:Nat):Int))=some (.str (dg (n%10))):=by
   have Bf:n%10<10:=by omega
   rw[show dg (n%10)=xB (n%10) by unfold xB dg;rw[aK Bf]];rw[pG,aK ⟨by omega,by omega,by simp only[a_,bz];omega⟩,←IS Bf,cn,cn,iJ];rfl
  have ha:dW .add (.str (qn k (n/10))) (.str (dg (n%10)))=some (.str (qn k (n/10)++dg (n%10))):=kJ (by have:=wk k (n/10);have:(dg (n%10)).length=1:=rfl;unfold maxLen;omega);have he:qn (k+1) n=qn k (n/10)++dg (n%10):=by rw[qn,aC h]
  have hp:n/10<10^(k+1):=by
   rw[Nat.div_lt_iff_lt_mul (by omega)];rwa[Nat.pow_succ]at hn
  simp(disch:=omega) only[acb,h',e1,e2,hc,hs,wrap_u64,aA,↓eA,eB,aq,seval];refine(PF k (n/10) S (by omega) hp (by omega)).then ?_
  simp(disch:=omega) only[h',e1,e2,hc,hs,he,ha,wrap_u64,aA,↓eA,eB,aq,seval]
def jo(n:Nat):bS:=qn 19 n
theorem rk(n:Nat):(jo n).length≤20:=wk 19 n
theorem mQ(n:Nat)(hn:n<4294967296)(S:ae):ak Tryz.prog 42 [.int .i64 n] S fun r S'=>r= .str (jo n)∧S'=S:=by
 refine ak.bW Tryz.func42 ajR (U rfl) fun σ b_=>?_;have h':¬(n:Int)<0:=by omega
 simp(disch:=omega) only[agt,h',wrap_u64,aA,↓eA,eB,aq,seval];refine(PF 19 n S (by omega) (by omega) (by omega)).then ?_
 simp only[jo,↓eA,eB,aq,seval]
def vO(s:bS)(n:Nat):Bool:=s.all up&&decide (s.length=n)
theorem sk(s:bS)(n:Nat)(hs:s.length≤9223372036854775807)(S:ae):ak Tryz.prog 130 [.str s,.int .i64 (n:Nat)] S fun r S'=>r= .bool (vO s n)∧S'=S:=by
 refine ak.bW Tryz.func130 ajA (U rfl) fun σ b_=>?_;simp(disch:=first|omega|(simp only[ai];omega)) only[agd,aj,↓eA,eB,aq,seval];refine cH (ι:=Nat) (fun k=>[(0,.str s),(1,.int .i64 (n:Nat)),(5,.int .i64 (k:Nat))]) (fun _=>S) (fun k=>k≤s.length∧(s.all up)=((s.drop k).all up)) (fun k=>s.length-k) 0 ⟨az _,rfl⟩ ?_ rfl ?_
 ·simp only[↓eA,eB,aq,seval]
 rintro k ⟨hk,he⟩;unfold vO;cases hc:s[k]? with
 |none=>
  have eh:s.length≤k:=List.getElem?_eq_none_iff.1 hc;have aR:¬((k:Int)<s.length):=by omega
  rw[bO eh]at he;rw[he];by_cases h1:s.length=n
  ·have Iy:(s.length:Int)=n:=by omega
   simp(disch:=first|omega|(simp only[ai];omega)) only[dF aR,dT Iy,dT h1,gx,dC,aj,↓eA,eB,aq,seval]
  ·have Iy:¬(s.length:Int)=n:=by omega
   simp(disch:=first|omega|(simp only[ai];omega)) only[dF aR,dF Iy,dF h1,cV,aj,↓eA,eB,aq,seval]
 |some c=>
  have cK:=(List.getElem?_eq_some_iff.1 hc).1;have aR:(k:Int)<s.length:=by omega
  have cN:(k:Int)+1=((k+1:Nat):Int):=by omega
  rw[QX hc]at he;simp(disch:=first|omega|(simp only[ai];omega)) only[dT aR,hc,aj,↓eA,eB,aq,seval];refine(Hm c S).then ?_
  cases h:up c with
  |true=>
   rw[h,aX]at he;simp(disch:=first|omega|(simp only[ai];omega)) only[wrap_i64,cN,aj,↓eA,eB,aq,seval];exact⟨k+1,⟨by omega,he⟩,by omega,rfl⟩
  |false=>
   rw[h,aO]at he;simp(disch:=first|omega|(simp only[ai];omega)) only[he,aO,aj,↓eA,eB,aq,seval]
theorem lH(s:bS)(S:ae):ak Tryz.prog 87 [.str s] S fun r S'=>r= .bool (vO s 3)∧S'=S:=by
 refine qB (fun hs=>?_) ⟨_,Tryz.func87,by kernel_rfl,by kernel_rfl⟩;refine ak.bW Tryz.func87 ajG (U rfl) fun σ b_=>?_;have hl:=sk s 3 (by unfold maxLen at hs;omega) S;simp(disch:=first|omega|(simp only[ai];omega)) only[agi,aj,↓eA,eB,aq,seval];refine hl.then ?_
 simp(disch:=first|omega|(simp only[ai];omega)) only[aj,↓eA,eB,aq,seval]
theorem vm(s:bS)(S:ae):ak Tryz.prog 89 [.str s] S fun r S'=>r= .bool (vO s 2)∧S'=S:=by
 refine qB (fun hs=>?_) ⟨_,Tryz.func89,by kernel_rfl,by kernel_rfl⟩;refine ak.bW Tryz.func89 ajF (U rfl) fun σ b_=>?_;have hl:=sk s 2 (by unfold maxLen at hs;omega) S;simp(disch:=first|omega|(simp only[ai];omega)) only[agh,aj,↓eA,eB,aq,seval];refine hl.then ?_
 simp(disch:=first|omega|(simp only[ai];omega)) only[aj,↓eA,eB,aq,seval]
def TI(n:Int):Bool:=decide (-840≤n)&&decide (n≤840)
theorem JX(n:Int)(S:ae):ak Tryz.prog 179 [.int .i64 n] S fun r S'=>r= .bool (TI n)∧S'=S:=by
 refine ak.bW Tryz.func179 ajz (U rfl) fun σ b_=>?_;unfold TI;cases h:decide (-840≤n)<;>simp(disch:=first|omega|(simp only[ai];omega)) only[agc,h,aX,aO,aj,↓eA,eB,aq,seval]
theorem j4{S:ae}{n:Nat}{q:TypeId}{sz:Nat}{rows:List (List V)}{r:List V}{K:V→ae→Prop}(hn:n=S.length)(h:rows.length<100000000):
 kj q sz (nx n rows) (some (sz,[r])) (S++lV q sz rows) K=K (nx n (rows++[r])) (S++lV q sz (rows++[r])):=by
 subst hn;cases rows with
 |nil=>
  simp only[nx,lV,cw,a8];rw[rB];simp[dw]
 |cons x rows=>
  simp only[nx,lV,aS];rw[ll,dP,cE,iS,ur];simp only[a_,aH,bz,mc,aS];simp only[a_]at h;simp[dw];intro _;omega
theorem kA{S:ae}{x:AL.Obj}{n:Nat}{q:TypeId}{sz:Nat}{rows:List (List V)}{r:List V}{K:V→ae→Prop}(hn:n=S.length+1)(h:rows.length<100000000):
 kj q sz (nx n rows) (some (sz,[r])) (S++x::lV q sz rows) K=K (nx n (rows++[r])) (S++x::lV q sz (rows++[r])):=by
 have:=j4 (S:=S++[x]) (n:=n) (q:=q) (sz:=sz) (rows:=rows) (r:=r) (K:=K) (by simp[hn]) h;simpa only[bG,List.singleton_append]using this
theorem Pk{S:ae}{x:AL.Obj}{q:TypeId}{sz:Nat}{rows:List (List V)}(hr:∀r∈rows,r.length=sz∧V.bQ r=true):jd (S++x::lV q sz rows) S (nx (S.length+1) rows) (.sl sz rows):=by
 cases rows with
 |nil=>exact .nil
 |cons y rows=>exact .sl (t:=q) (by omega) (by rw[iD,cT,lV,cE]) (by simp) hr
theorem BG{P:Program}{N:Nat}{σ:kL}{G:Prop}{ι:Type}(H:ι→Prop)(E0:ι→Env)(S0:ι→ae)(b:e8)(Q:Exit→Env→ae→Prop)(k2:(∀i,H i→jC P N σ b Q (E0 i) (S0 i))→G)(k1:∀i,H i→jC P N σ b Q (E0 i) (S0 i)):G:=k2 k1
def nw(es:List Int)(tw mv:Bool)(e:Int):List Int:=es++(if tw then [6]else [])++(if mv then [8]else [])++(if e=0 then []else [e])
theorem K8(es:List Int)(tw mv:Bool)(e:Int):(nw es tw mv e).length≤es.length+3:=by
 unfold nw;by_cases h:e=0<;>cases tw<;>cases mv<;>simp[h]
end Go.Proofs.YtfgkgmmnldocaaaGreatDoor
namespace Go.Proofs.YtfgkgmmnldocaaaGreatDoor
open Go Go.AL
variable[Go.AL.Mode][Go.AL.bR]
def uW(p:fO)(c:bS):Option lX:=p.1.find? fun a=>decide (a.iH=c)
theorem Pq{l:List lX}{q:lX→Bool}{k:Nat}{a:lX}(h:l.find? q=(l.drop k).find? q)(ha:l[k]?=some a)(hq:q a=true):l.find? q=some a:=Pp h ha hq
theorem qE(p:fO)(c:bS)(S:ae)(hl:p.1.length≤2000000):ak Tryz.prog 126 [dV p,.str c] S fun r S'=>r=jc (uW p c)∧S'=S:=by
 refine ak.bp Tryz.func126 I5 fun hn=>?_;refine ak.fin Tryz.func126 I5 (U rfl) fun σ b_=>?_;simp(disch:=first|omega|(simp only[ai];omega)) only[Rb,dV,aP,eN,ff,aj,↓jz,↓gG,gH,fE,←c8,←dh,↓reduceIte,reduceCtorEq,Nat.reduceEqDiff,eb,d_,Nat.reduceAdd,Nat.reduceSub,Nat.reduceMul,Nat.reduceLT,Nat.reduceLeDiff,Int.reduceToNat,Int.reduceAdd,Int.reduceSub,Int.reduceNeg,Int.reduceMul,Int.reduceLT,Int.reduceLE,Int.reduceEq];refine dm (ι:=Nat) (fun k=>[(1,.str c),(2,.bK [.sl 5 (p.1.map dG),.sl 3 (p.2.map cZ)]),(4,.ptr S.length 0 0 0),(6,.int .i64 (k:Nat))]) (fun _=>S++[⟨0,some (.arr 137 5 [fC])⟩]) (fun k=>k≤p.1.length∧p.1.find? (fun a=>decide (a.iH=c))=(p.1.drop k).find? (fun a=>decide (a.iH=c))) (fun k=>p.1.length-k) (fun i hi=>by rw[b_];simp) 0 ⟨az _,rfl⟩ (.inl ⟨?_,rfl⟩) ?_
 ·simp only[↓jz,↓gG,gH,fE,←c8,←dh,↓reduceIte,reduceCtorEq,Nat.reduceEqDiff,eb,d_,Nat.reduceAdd,Nat.reduceSub,Nat.reduceMul,Nat.reduceLT,Nat.reduceLeDiff,Int.reduceToNat,Int.reduceAdd,Int.reduceSub,Int.reduceNeg,Int.reduceMul,Int.reduceLT,Int.reduceLE,Int.reduceEq]
 ·rintro k ⟨hk,hinv⟩;cases hc:p.1[k]? with
  |none=>
   have aR:¬((k:Int)<p.1.length):=by rw[eC]at hc;omega
   have hf:uW p c=none:=nt hinv hc;simp(disch:=first|omega|(simp only[ai];omega)) only[hf,jc,fC,aP,aR,aA,eN,ff,aj,↓jz,↓gG,gH,fE,←c8,←dh,↓reduceIte,reduceCtorEq,Nat.reduceEqDiff,eb,d_,Nat.reduceAdd,Nat.reduceSub,Nat.reduceMul,Nat.reduceLT,Nat.reduceLeDiff,Int.reduceToNat,Int.reduceAdd,Int.reduceSub,Int.reduceNeg,Int.reduceMul,Int.reduceLT,Int.reduceLE,Int.reduceEq];exact⟨_,S,hn.dO _,.bX rfl,ah _,rfl,rfl⟩
  |some a=>
   have cK:=(List.getElem?_eq_some_iff.1 hc).1;have aR:(k:Int)<p.1.length:=by omega
   by_cases h:a.iH=c
   ·have he:decide (a.iH=c)=true:=by simp[h]
    have hf:uW p c=some a:=Pq hinv hc he;simp(disch:=first|omega|(simp only[ai];omega)) only[hf,jc,dG,fC,aP,hc,aR,he,decide_true,bn,bU,eN,ff,aj,↓jz,↓gG,gH,fE,←c8,←dh,↓reduceIte,reduceCtorEq,Nat.reduceEqDiff,eb,d_,Nat.reduceAdd,Nat.reduceSub,Nat.reduceMul,Nat.reduceLT,Nat.reduceLeDiff,Int.reduceToNat,Int.reduceAdd,Int.reduceSub,Int.reduceNeg,Int.reduceMul,Int.reduceLT,Int.reduceLE,Int.reduceEq];exact⟨_,S,hn.dO _,.bX rfl,ah _,rfl,rfl⟩
   ·simp(disch:=first|omega|(simp only[ai];omega)) only[dG,fC,aP,wrap_i64,hc,aR,h,decide_true,aA,bn,bU,eN,ff,aj,↓jz,↓gG,gH,fE,←c8,←dh,↓reduceIte,reduceCtorEq,Nat.reduceEqDiff,eb,d_,Nat.reduceAdd,Nat.reduceSub,Nat.reduceMul,Nat.reduceLT,Nat.reduceLeDiff,Int.reduceToNat,Int.reduceAdd,Int.reduceSub,Int.reduceNeg,Int.reduceMul,Int.reduceLT,Int.reduceLE,Int.reduceEq];exact⟨k+1,⟨by omega,lx hinv hc (by simp[h])⟩,by omega,.inl ⟨by simp only[↓jz,↓gG,gH,fE,←c8,←dh,↓reduceIte,reduceCtorEq,Nat.reduceEqDiff,eb,d_,Nat.reduceAdd,Nat.reduceSub,Nat.reduceMul,Nat.reduceLT,Nat.reduceLeDiff,Int.reduceToNat,Int.reduceAdd,Int.reduceSub,Int.reduceNeg,Int.reduceMul,Int.reduceLT,Int.reduceLE,Int.reduceEq];rfl,rfl⟩⟩
theorem DS(o:Option lX):∃c1 c2 c3 off sv,jc o= .dI [.agg [.str c1,.str c2,.str c3,.int .i64 off,sv],.bool o.isSome]∧sv.dH=true∧sv.dK=true:=by
 cases o with
 |none=>exact⟨[],[],[],0,.aM,rfl,rfl,rfl⟩
 |some a=>exact⟨a.code,a.iH,a.IU,a.off,.sl 2 (a.sh.map rT),rfl,rfl,rfl⟩
def Zz(d:kB):Bool:=decide (1≤d.mi)&&decide (d.mi≤20000)
theorem ZS(d:kB)(S:ae):ak Tryz.prog 127 [.agg (cZ d)] S fun r S'=>r= .bool (Zz d)∧S'=S:=by
 refine ak.bW Tryz.func127 XM (U rfl) fun σ b_=>?_;unfold Zz;cases h:decide (1≤d.mi)<;>simp(disch:=first|omega|(simp only[ai];omega)) only[Jk,cZ,h,aX,aO,eN,ff,aj,↓jz,↓gG,gH,fE,←c8,←dh,↓reduceIte,reduceCtorEq,Nat.reduceEqDiff,eb,d_,Nat.reduceAdd,Nat.reduceSub,Nat.reduceMul,Nat.reduceLT,Nat.reduceLeDiff,Int.reduceToNat,Int.reduceAdd,Int.reduceSub,Int.reduceNeg,Int.reduceMul,Int.reduceLT,Int.reduceLE,Int.reduceEq]
theorem qm{S L:ae}{x y z:AL.Obj}{v n:Nat}{es:List Int}(hn:n=es.length):jd (S++x::y::z::⟨v,some (.arr 40 1 (es.map iu))⟩::L) S (.cU (S.length+3) v 0 n) (.sl 1 (es.map iu)):=
 .sl (t:=40) (by omega) (by rw[iD,cT,cT,cT,cE]) (by simp[hn]) (my es)
theorem ZZ(p:fO)(hp:p.1.length≤2000000)(hp2:p.2.length≤2000000)(i:Nat)(d:kB)(hd:p.2[i]?=some d)(S:ae):ak Tryz.prog 76 [dV p,.int .i64 (i:Nat)] S fun r S'=>∃es:List Int,r= .sl 1 (es.map iu)∧es.length≤4∧S'=S:=by
 refine ak.bp Tryz.func76 ae4 fun hn=>?_;refine ak.fin Tryz.func76 ae4 (U rfl) fun σ b_=>?_;have sC:=(List.getElem?_eq_some_iff.1 hd).1;obtain⟨c1,c2,c3,o1,v1,e1,i1,k1⟩:=DS (uW p d.fr);obtain⟨c4,c5,c6,o2,v2,e2,i2,k2⟩:=DS (uW p d.to);have f1:=fun S=>qE p d.fr S hp;have f2:=fun S=>qE p d.to S hp;have fu:=fun S=>ZS d S;simp only[dV,e1]at f1;simp only[dV,e2]at f2;simp only[cZ]at fu;have r1:(1≤dw)=True:=by simp[dw]
 have r2:(2≤dw)=True:=by simp[dw]
 have r3:(3≤dw)=True:=by simp[dw]
 simp(disch:=first|omega|(simp only[ai];omega)) only[ago,dV,hd,cZ,aP,bn,bU,eN,ff,aj,↓jz,↓gG,gH,fE,←c8,←dh,↓reduceIte,reduceCtorEq,Nat.reduceEqDiff,eb,d_,Nat.reduceAdd,Nat.reduceSub,Nat.reduceMul,Nat.reduceLT,Nat.reduceLeDiff,Int.reduceToNat,Int.reduceAdd,Int.reduceSub,Int.reduceNeg,Int.reduceMul,Int.reduceLT,Int.reduceLE,Int.reduceEq];refine(f1 _).then ?_
 simp(disch:=first|omega|(simp only[ai];omega)) only[i1,k1,aj,↓jz,↓gG,gH,fE,←c8,←dh,↓reduceIte,reduceCtorEq,Nat.reduceEqDiff,eb,d_,Nat.reduceAdd,Nat.reduceSub,Nat.reduceMul,Nat.reduceLT,Nat.reduceLeDiff,Int.reduceToNat,Int.reduceAdd,Int.reduceSub,Int.reduceNeg,Int.reduceMul,Int.reduceLT,Int.reduceLE,Int.reduceEq];refine(f2 _).then ?_
 apply BG (P:=Tryz.prog) (N:=99) (σ:=σ) (ι:=Bool) (fun _=>True) (fun b=>[(2,.bK [.sl 5 (p.1.map dG),.sl 3 (p.2.map cZ)]),(1,.int .i64 (i:Nat)),(5,if b then .cU (S.length+3) 0 0 1 else .aM),(6,.ptr S.length 0 0 0),(11,.bool false),(12,.int .i64 0)])
  (fun b=>S++⟨0,some (.arr 200 3 [cZ d])⟩::⟨0,some (.arr 137 5 [[.str c1,.str c2,.str c3,.int .i64 o1,v1]])⟩::⟨0,some (.arr 137 5 [[.str c4,.str c5,.str c6,.int .i64 o2,v2]])⟩::if b then [⟨0,some (.arr 40 1 [[.int .i64 14]])⟩]else [])
 ·intro key;have kt:=key true trivial;have kf:=key false trivial;simp only[aQ,aV,aZ]at kt kf;generalize (uW p d.fr).isSome=b1;generalize (uW p d.to).isSome=b2;cases b1<;>cases b2<;>simp(disch:=first|omega|(simp only[ai];omega)) only[r1,eG,i1,k1,i2,k2,aj,↓jz,↓gG,gH,fE,←c8,←dh,↓reduceIte,reduceCtorEq,Nat.reduceEqDiff,eb,d_,Nat.reduceAdd,Nat.reduceSub,Nat.reduceMul,Nat.reduceLT,Nat.reduceLeDiff,Int.reduceToNat,Int.reduceAdd,Int.reduceSub,Int.reduceNeg,Int.reduceMul,Int.reduceLT,Int.reduceLE,Int.reduceEq];all_goals first
   |exact kt.sub (by simp only[↓jz,↓gG,gH,fE,←c8,←dh,↓reduceIte,reduceCtorEq,Nat.reduceEqDiff,eb,d_,Nat.reduceAdd,Nat.reduceSub,Nat.reduceMul,Nat.reduceLT,Nat.reduceLeDiff,Int.reduceToNat,Int.reduceAdd,Int.reduceSub,Int.reduceNeg,Int.reduceMul,Int.reduceLT,Int.reduceLE,Int.reduceEq])
   |exact kf.sub (by simp only[↓jz,↓gG,gH,fE,←c8,←dh,↓reduceIte,reduceCtorEq,Nat.reduceEqDiff,eb,d_,Nat.reduceAdd,Nat.reduceSub,Nat.reduceMul,Nat.reduceLT,Nat.reduceLeDiff,Int.reduceToNat,Int.reduceAdd,Int.reduceSub,Int.reduceNeg,Int.reduceMul,Int.reduceLT,Int.reduceLE,Int.reduceEq])
 ·intro b _;have aei:∀r∈[cZ d],r.length=3∧V.bQ r=true:=fun r hr=>by rw[bM]at hr;subst hr;exact⟨rfl,rfl⟩
  have aeh:∀r∈[[.str c1,.str c2,.str c3,.int .i64 o1,v1]],r.length=5∧V.bQ r=true:=fun r hr=>by rw[bM]at hr;subst hr;exact⟨rfl,by simp[V.bQ,V.dH,i1]⟩
  have aeg:∀r∈[[.str c4,.str c5,.str c6,.int .i64 o2,v2]],r.length=5∧V.bQ r=true:=fun r hr=>by rw[bM]at hr;subst hr;exact⟨rfl,by simp[V.bQ,V.dH,i2]⟩
  have aiH:∀r∈[[V.int .i64 14]],r.length=1∧V.bQ r=true:=fun r hr=>by rw[bM]at hr;subst hr;exact⟨rfl,rfl⟩
  cases b
  case' false=>
   simp only[aV,aZ];refine dm (ι:=Nat×Bool) (fun k=>[(2,.bK [.sl 5 (p.1.map dG),.sl 3 (p.2.map cZ)]),(1,.int .i64 (i:Nat)),(5,.aM),(6,.ptr S.length 0 0 0),(11,.bool k.2),(12,.int .i64 (k.1:Nat))]) (fun _=>S++[⟨0,some (.arr 200 3 [cZ d])⟩,⟨0,some (.arr 137 5 [[.str c1,.str c2,.str c3,.int .i64 o1,v1]])⟩,⟨0,some (.arr 137 5 [[.str c4,.str c5,.str c6,.int .i64 o2,v2]])⟩]) (fun k=>k.1≤i) (fun k=>i-k.1) (fun i hi=>by rw[b_];simp) (0,false) (az _) (.inl ⟨?_,rfl⟩) ?_
  case' true=>
   simp only[aQ];refine dm (ι:=Nat×Bool) (fun k=>[(2,.bK [.sl 5 (p.1.map dG),.sl 3 (p.2.map cZ)]),(1,.int .i64 (i:Nat)),(5,.cU (S.length+3) 0 0 1),(6,.ptr S.length 0 0 0),(11,.bool k.2),(12,.int .i64 (k.1:Nat))]) (fun _=>S++[⟨0,some (.arr 200 3 [cZ d])⟩,⟨0,some (.arr 137 5 [[.str c1,.str c2,.str c3,.int .i64 o1,v1]])⟩,⟨0,some (.arr 137 5 [[.str c4,.str c5,.str c6,.int .i64 o2,v2]])⟩,⟨0,some (.arr 40 1 [[.int .i64 14]])⟩]) (fun k=>k.1≤i) (fun k=>i-k.1) (fun i hi=>by rw[b_];simp) (0,false) (az _) (.inl ⟨?_,rfl⟩) ?_
  all_goals try(simp only[↓jz,↓gG,gH,fE,←c8,←dh,↓reduceIte,reduceCtorEq,Nat.reduceEqDiff,eb,d_,Nat.reduceAdd,Nat.reduceSub,Nat.reduceMul,Nat.reduceLT,Nat.reduceLeDiff,Int.reduceToNat,Int.reduceAdd,Int.reduceSub,Int.reduceNeg,Int.reduceMul,Int.reduceLT,Int.reduceLE,Int.reduceEq];done)
  all_goals try(simp only[↓jz,↓gG,gH,fE,←c8,←dh,↓reduceIte,reduceCtorEq,Nat.reduceEqDiff,eb,d_,Nat.reduceAdd,Nat.reduceSub,Nat.reduceMul,Nat.reduceLT,Nat.reduceLeDiff,Int.reduceToNat,Int.reduceAdd,Int.reduceSub,Int.reduceNeg,Int.reduceMul,Int.reduceLT,Int.reduceLE,Int.reduceEq];rfl)
  all_goals
   rintro⟨k,tw⟩ hk;simp only at hk⊢;by_cases Sw:k<i
   ·have aR:(k:Int)<i:=by omega
    have cN:(k:Int)+1=((k+1:Nat):Int):=by omega
    obtain⟨q,hq⟩:∃q,p.2[k]?=some q:=⟨_,ax (by omega)⟩;obtain⟨LX,ht0⟩:∃t,t=tw:=⟨_,rfl⟩;cases tw<;>cases d1:decide (q.fr=d.fr)<;>cases d2:decide (q.to=d.to)<;>cases d3:decide (q.fr=d.to)<;>cases d4:decide (q.to=d.fr)<;>simp(disch:=first|omega|(simp only[ai];omega)) only[dT aR,hq,d1,d2,d3,d4,cZ,wrap_i64,cN,aP,bn,bU,eN,ff,aj,↓jz,↓gG,gH,fE,←c8,←dh,↓reduceIte,reduceCtorEq,Nat.reduceEqDiff,eb,d_,Nat.reduceAdd,Nat.reduceSub,Nat.reduceMul,Nat.reduceLT,Nat.reduceLeDiff,Int.reduceToNat,Int.reduceAdd,Int.reduceSub,Int.reduceNeg,Int.reduceMul,Int.reduceLT,Int.reduceLE,Int.reduceEq];all_goals
     refine⟨(k+1,LX||(decide (q.fr=d.fr)&&decide (q.to=d.to))||(decide (q.fr=d.to)&&decide (q.to=d.fr))),by simp only;omega,by simp only;omega,dt ?_ ?_ ?_⟩
     ·first
       |exact hn.Dk (L:=[_,_,_,_]) (L1:=[_,_,_]) ⟨rfl,⟨_,rfl,.bX aei⟩,rfl,⟨_,rfl,.bX aeh⟩,rfl,⟨_,rfl,.bX aeg⟩,trivial⟩
       |exact hn.Dk (L:=[_,_,_,_,_]) (L1:=[_,_,_,_]) ⟨rfl,⟨_,rfl,.bX aei⟩,rfl,⟨_,rfl,.bX aeh⟩,rfl,⟨_,rfl,.bX aeg⟩,rfl,⟨_,rfl,.bX aiH⟩,trivial⟩
     ·simp only[d1,d2,d3,d4,ht0,mW,cV,Bool.or_false,mf,dC,Bool.or_self,eS,cQ,↓jz,↓gG,gH,fE,←c8,←dh,↓reduceIte,reduceCtorEq,Nat.reduceEqDiff,eb,d_,Nat.reduceAdd,Nat.reduceSub,Nat.reduceMul,Nat.reduceLT,Nat.reduceLeDiff,Int.reduceToNat,Int.reduceAdd,Int.reduceSub,Int.reduceNeg,Int.reduceMul,Int.reduceLT,Int.reduceLE,Int.reduceEq]
     ·simp[V.under,V.bI]
   ·have aR:¬(k:Int)<i:=by omega
    cases tw<;>simp(disch:=first|omega|(simp only[ai];omega)) only[dF aR,r1,r2,r3,eG,cZ,aj,↓jz,↓gG,gH,fE,←c8,←dh,↓reduceIte,reduceCtorEq,Nat.reduceEqDiff,eb,d_,Nat.reduceAdd,Nat.reduceSub,Nat.reduceMul,Nat.reduceLT,Nat.reduceLeDiff,Int.reduceToNat,Int.reduceAdd,Int.reduceSub,Int.reduceNeg,Int.reduceMul,Int.reduceLT,Int.reduceLE,Int.reduceEq];all_goals
     refine(fu _).then ?_
     cases hu:Zz d<;>cases h5:decide (d.fr=d.to)<;>simp(disch:=first|omega|(simp only[ai];omega)) only[h5,r1,r2,r3,eG,cZ,aS,a8,aj,↓jz,↓gG,gH,fE,←c8,←dh,↓reduceIte,reduceCtorEq,Nat.reduceEqDiff,eb,d_,Nat.reduceAdd,Nat.reduceSub,Nat.reduceMul,Nat.reduceLT,Nat.reduceLeDiff,Int.reduceToNat,Int.reduceAdd,Int.reduceSub,Int.reduceNeg,Int.reduceMul,Int.reduceLT,Int.reduceLE,Int.reduceEq]
    all_goals first
     |exact⟨_,S,hn.dO _,.nil,ah _,[],rfl,by simp,rfl⟩
     |exact⟨_,S,hn.dO _,qm (es:=[14]) rfl,ah _,[14],rfl,by simp,rfl⟩
     |exact⟨_,S,hn.dO _,qm (es:=[6]) rfl,ah _,[6],rfl,by simp,rfl⟩
     |exact⟨_,S,hn.dO _,qm (es:=[2]) rfl,ah _,[2],rfl,by simp,rfl⟩
     |exact⟨_,S,hn.dO _,qm (es:=[14,6]) rfl,ah _,[14,6],rfl,by simp,rfl⟩
     |exact⟨_,S,hn.dO _,qm (es:=[14,2]) rfl,ah _,[14,2],rfl,by simp,rfl⟩
     |exact⟨_,S,hn.dO _,qm (es:=[6,2]) rfl,ah _,[6,2],rfl,by simp,rfl⟩
     |exact⟨_,S,hn.dO _,qm (es:=[14,6,2]) rfl,ah _,[14,6,2],rfl,by simp,rfl⟩
end Go.Proofs.YtfgkgmmnldocaaaGreatDoor
namespace Go.Proofs.YtfgkgmmnldocaaaGreatDoor
open Go Go.AL
variable[Go.AL.Mode][Go.AL.bR]
end Go.Proofs.YtfgkgmmnldocaaaGreatDoor
namespace Go.Proofs.YtfgkgmmnldocaaaGreatDoor
open Go Go.AL
variable[Go.AL.Mode][Go.AL.bR]
end Go.Proofs.YtfgkgmmnldocaaaGreatDoor
namespace Go.Proofs.YtfgkgmmnldocaaaGreatDoor
open Go Go.AL
variable[Go.AL.Mode][Go.AL.bR]
def sM:bS:=[97,105,114,112,111,114,116,32]
def sL:bS:=[100,105,115,116,97,110,99,101,32]
structure PSm(p:fO):Prop where
 h1:p.1.length≤1100000
 h2:p.2.length≤1100000
 h3:∀a∈p.1,a.sh.length≤1100000
end Go.Proofs.YtfgkgmmnldocaaaGreatDoor
