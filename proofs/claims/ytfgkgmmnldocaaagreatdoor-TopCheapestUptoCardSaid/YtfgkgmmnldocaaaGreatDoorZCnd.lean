/- Cnd -/
import Derived.Test.YtfgkgmmnldocaaaGreatDoorZCnc
import Derived.Test.YtfgkgmmnldocaaaGreatDoorZCmpC
import Derived.Test.YtfgkgmmnldocaaaGreatDoorZAlJ
set_option linter.unusedSectionVars false
set_option linter.unusedSimpArgs false
set_option linter.unusedVariables false
set_option maxHeartbeats 4000000
set_option maxRecDepth 10000
namespace Go.Proofs.YtfgkgmmnldocaaaGreatDoor
open Go Go.AL
variable[Go.AL.Mode][Go.AL.bR]
def FR(r:List V):Prop:=∃(e:Int) (s:bS),r=[.int .i64 e,.str s]∧s.length≤40
theorem FR.bX{r:List V}(h:FR r):r.length=2∧V.bQ r=true:=by
 obtain⟨e,s,rfl,_⟩:=h;exact⟨rfl,rfl⟩
theorem gd{rows:List (List V)}{e:Int}{s:bS}(h:∀r∈rows,FR r)(hs:s.length≤40):∀r∈rows++[[.int .i64 e,.str s]],FR r:=fun r hr=>by
 rcases List.mem_append.1 hr with hr|hr
 ·exact h r hr
 ·rw[bM]at hr;exact⟨e,s,hr,hs⟩
def SO:bS:=[99,111,109,98,105,110,101,32]
def SM:bS:=[112,101,114,99,101,110,116,32]
def SN:bS:=[108,105,110,107,32]
theorem nN(a:bS)(n:Nat)(ha:a.length≤20):dW .add (.str a) (.str (jo n))=some (.str (a++jo n)):=kJ (by have:=rk n;unfold maxLen;omega)
theorem qo(a:bS)(n:Nat)(ha:a.length≤20):(a++jo n).length≤40:=by have:=rk n;rw[aH];omega
theorem N3(l:List Int)(hl:l.length≤1048576)(S:ae):ak Tryz.prog 85 [.sl 1 (l.map iu)] S fun v S'=>∃rows:List (List V),v= .sl 2 rows∧(rows.length≤2*l.length∧(∀r∈rows,FR r))∧S'=S:=by
 refine ak.bp Tryz.func85 Xq fun hn=>?_;refine(ak.fin Tryz.func85 Xq (R:=fun v S'=>(∃rows:List (List V),v= .sl 2 rows∧(rows.length≤2*l.length∧(∀r∈rows,FR r)))∧S'=S) (U rfl) fun σ b_=>?_).mono fun r S' ⟨⟨L,h1,h2⟩,h3⟩=>⟨L,h1,h2,h3⟩;simp(disch:=omega) only[YM,aj,↓eA,eB,aq,seval];refine cH (ι:=Nat×List (List V)) (fun i=>[(0,.sl 1 (l.map iu)),(3,nx S.length i.2),(4,.int .i64 (i.1:Nat))]) (fun i=>S++lV 118 2 i.2)
  (fun i=>i.1≤l.length∧i.2.length≤2*i.1∧(∀r∈i.2,FR r)) (fun i=>l.length-i.1) (0,[]) ⟨az _,by simp,(fun r hr=>by cases hr)⟩ ?_ (by simp[lV]) ?_
 ·simp only[rG,↓eA,eB,aq,seval];try rfl
 rintro⟨i,rows⟩ ⟨hi,Kx,w8⟩;simp only at hi Kx w8⊢;cases hc:l[i]? with
 |none=>
  have eh:=List.getElem?_eq_none_iff.1 hc;have aR:¬((i:Int)<l.length):=by omega
  have sC:i=l.length:=by omega
  simp(disch:=omega) only[dF aR,aj,↓eA,eB,aq,seval];exact⟨_,S,hn.dO _,Az (fun r hr=>(w8 r hr).bX),ah _,⟨rows,rfl,by omega,w8⟩,rfl⟩
 |some x=>
 have cK:=(List.getElem?_eq_some_iff.1 hc).1;have aR:((i:Int)<l.length):=by omega
 have kq:(i:Int)+1=((i+1:Nat):Int):=by omega
 obtain⟨at_,jE,C6⟩:∃at_:bS,dW .add (.str SO) (.str (jo i))=some (.str at_)∧at_.length≤40:=⟨_,nN SO i (by decide),qo SO i (by decide)⟩;simp only[SO]at jE;simp(disch:=omega) only[dT aR,aj,↓eA,eB,aq,seval];refine(mQ i (by omega) _).then ?_
 simp(disch:=omega) only[jE,aj,↓eA,eB,aq,seval];refine cH (ι:=Nat×Bool) (fun k=>[(0,.sl 1 (l.map iu)),(3,nx S.length rows),(4,.int .i64 (i:Nat)),(5,.str at_),(6,.bool k.2),(7,.int .i64 (k.1:Nat))]) (fun _=>S++lV 118 2 rows)
  (fun k=>k.1≤i) (fun k=>i-k.1) (0,false) (az _) ?_ rfl ?_
 ·simp only[↓eA,eB,aq,seval];try rfl
 rintro⟨k,tw⟩ hk;simp only at hk⊢;by_cases Sw:k<i
 ·have kg:(k:Int)<i:=by omega
  have cN:(k:Int)+1=((k+1:Nat):Int):=by omega
  obtain⟨y,hy⟩:∃y,l[k]?=some y:=⟨_,ax (by omega)⟩;cases tw<;>simp(disch:=omega) only[dT kg,hc,hy,iu,wrap_i64,cN,aj,↓eA,eB,aq,seval];all_goals first|exact⟨(k+1,_),by simp only;omega,by simp only;omega,rfl,rfl⟩|exact⟨(k+1,_),by simp only;omega,by simp only;omega,⟨rfl,rfl⟩,rfl⟩|exact⟨(k+1,_),by simp only;omega,by simp only;omega,rfl,rfl,rfl⟩
 have kg:¬(k:Int)<i:=by omega
 have b0:rows.length<100000000:=by omega
 have b1:(rows++[[V.int .i64 2,V.str at_]]).length<100000000:=by simp;omega
 have g1:=gd (e:=2) w8 C6;have g2:=gd (e:=6) w8 C6;have g3:=gd (e:=6) g1 C6;cases q1:decide (x<1)<;>cases q2:decide (9999<x)<;>cases tw<;>simp(disch:=omega) only[dF kg,hc,q1,q2,iu,wrap_i64,kq,j4 rfl b0,j4 rfl b1,aj,↓eA,eB,aq,seval];all_goals first
  |exact⟨(i+1,rows),⟨by simp only;omega,by simp only;omega,w8⟩,by simp only;omega,⟨rfl,rfl⟩,rfl⟩
  |exact⟨(i+1,rows++[[.int .i64 2,.str at_]]),⟨by simp only;omega,by simp only[aH,aN];omega,g1⟩,by simp only;omega,⟨rfl,rfl⟩,rfl⟩
  |exact⟨(i+1,rows++[[.int .i64 6,.str at_]]),⟨by simp only;omega,by simp only[aH,aN];omega,g2⟩,by simp only;omega,⟨rfl,rfl⟩,rfl⟩
  |exact⟨(i+1,rows++[[.int .i64 2,.str at_]]++[[.int .i64 6,.str at_]]),⟨by simp only;omega,by simp only[aH,aN];omega,g3⟩,by simp only;omega,⟨rfl,rfl⟩,rfl⟩
theorem zY(l:List (bS×Int))(hl:l.length≤1048576)(S:ae):ak Tryz.prog 86 [.sl 2 (l.map mK)] S fun v S'=>∃rows:List (List V),v= .sl 2 rows∧(rows.length≤3*l.length∧(∀r∈rows,FR r)∧(rows=[]→∀q∈l,0≤q.2∧q.2≤1000))∧S'=S:=by
 refine ak.bp Tryz.func86 Xp fun hn=>?_;refine(ak.fin Tryz.func86 Xp (R:=fun v S'=>(∃rows:List (List V),v= .sl 2 rows∧(rows.length≤3*l.length∧(∀r∈rows,FR r)∧(rows=[]→∀q∈l,0≤q.2∧q.2≤1000)))∧S'=S) (U rfl) fun σ b_=>?_).mono fun r S' ⟨⟨L,h1,h2⟩,h3⟩=>⟨L,h1,h2,h3⟩;simp(disch:=omega) only[YL,aj,↓eA,eB,aq,seval];refine cH (ι:=Nat×List (List V)) (fun i=>[(0,.sl 2 (l.map mK)),(3,nx S.length i.2),(4,.int .i64 (i.1:Nat))]) (fun i=>S++lV 118 2 i.2)
  (fun i=>i.1≤l.length∧i.2.length≤3*i.1∧(∀r∈i.2,FR r)∧(i.2=[]→∀q∈l.take i.1,0≤q.2∧q.2≤1000)) (fun i=>l.length-i.1) (0,[]) ⟨az _,by simp,(fun r hr=>by cases hr),fun _ q hq=>by simp at hq⟩ ?_ (by simp[lV]) ?_
 ·simp only[rG,↓eA,eB,aq,seval];try rfl
 rintro⟨i,rows⟩ ⟨hi,Kx,w8,Ln⟩;simp only at hi Kx w8 Ln⊢;cases hc:l[i]? with
 |none=>
  have eh:=List.getElem?_eq_none_iff.1 hc;have aR:¬((i:Int)<l.length):=by omega
  have sC:i=l.length:=by omega
  simp(disch:=omega) only[dF aR,aj,↓eA,eB,aq,seval];exact⟨_,S,hn.dO _,Az (fun r hr=>(w8 r hr).bX),ah _,⟨rows,rfl,by omega,w8,by rw[bh eh]at Ln;exact Ln⟩,rfl⟩
 |some x=>
 have cK:=(List.getElem?_eq_some_iff.1 hc).1;have aR:((i:Int)<l.length):=by omega
 have kq:(i:Int)+1=((i+1:Nat):Int):=by omega
 obtain⟨at_,jE,C6⟩:∃at_:bS,dW .add (.str SM) (.str (jo i))=some (.str at_)∧at_.length≤40:=⟨_,nN SM i (by decide),qo SM i (by decide)⟩;simp only[SM]at jE;simp(disch:=omega) only[dT aR,aj,↓eA,eB,aq,seval];refine(mQ i (by omega) _).then ?_
 simp(disch:=omega) only[jE,aj,↓eA,eB,aq,seval];refine cH (ι:=Nat×Bool) (fun k=>[(0,.sl 2 (l.map mK)),(3,nx S.length rows),(4,.int .i64 (i:Nat)),(5,.str at_),(6,.bool k.2),(7,.int .i64 (k.1:Nat))]) (fun _=>S++lV 118 2 rows)
  (fun k=>k.1≤i) (fun k=>i-k.1) (0,false) (az _) ?_ rfl ?_
 ·simp only[↓eA,eB,aq,seval];try rfl
 rintro⟨k,tw⟩ hk;simp only at hk⊢;by_cases Sw:k<i
 ·have kg:(k:Int)<i:=by omega
  have cN:(k:Int)+1=((k+1:Nat):Int):=by omega
  obtain⟨y,hy⟩:∃y,l[k]?=some y:=⟨_,ax (by omega)⟩;cases tw<;>simp(disch:=omega) only[dT kg,hc,hy,mK,wrap_i64,cN,aj,↓eA,eB,aq,seval];all_goals first|exact⟨(k+1,_),by simp only;omega,by simp only;omega,rfl,rfl⟩|exact⟨(k+1,_),by simp only;omega,by simp only;omega,⟨rfl,rfl⟩,rfl⟩|exact⟨(k+1,_),by simp only;omega,by simp only;omega,rfl,rfl,rfl⟩
 have kg:¬(k:Int)<i:=by omega
 have b0:rows.length<100000000:=by omega
 have cd:=fun S=>qG x.1 3 3 S;have a1:∀(R:List (List V)) (e:Int),R.length≤rows.length+2→(∀r∈R,FR r)→(R++[[V.int .i64 e,V.str at_]]).length≤R.length+1∧R.length<100000000∧∀r∈R++[[V.int .i64 e,V.str at_]],FR r:=fun R e h1 h2=>⟨by simp,by omega,gd h2 C6⟩;obtain⟨m1,_,f1⟩:=a1 rows 5 (by omega) w8;obtain⟨m2,b2,f2⟩:=a1 rows 6 (by omega) w8;obtain⟨m3,b3,f3⟩:=a1 rows 2 (by omega) w8;obtain⟨m4,b4,f4⟩:=a1 _ 6 (by omega) f1;obtain⟨m5,b5,f5⟩:=a1 _ 2 (by omega) f1;obtain⟨m6,b6,f6⟩:=a1 _ 2 (by omega) f2;have f7:=gd (e:=2) f4 C6;have b7:(rows++[[V.int .i64 5,V.str at_]]++[[V.int .i64 6,V.str at_]]).length<100000000:=by omega
 have ne:∀(R:List (List V)) (r:List V),R++[r]=[]→False:=fun R r h=>by simp at h
 have tks:∀q∈l.take (i+1),q∈l.take i∨q=x:=fun q hq=>by
  rw[gy hc]at hq;rcases List.mem_append.1 hq with h|h
  ·exact .inl h
  ·exact .inr (List.mem_singleton.1 h)
 simp(disch:=omega) only[dF kg,hc,mK,aj,↓eA,eB,aq,seval];refine(cd _).then ?_
 generalize codeF x.1 3 3=z;cases z<;>cases tw<;>cases q1:decide (x.2<0)<;>cases q2:decide (1000<x.2)<;>simp(disch:=omega) only[hc,q1,q2,mK,wrap_i64,kq,j4 rfl b0,j4 rfl b4,j4 rfl b6,j4 rfl b7,aj,↓eA,eB,aq,seval];all_goals first
  |exact⟨(i+1,rows),⟨by simp only;omega,by simp only;omega,w8,fun h q hq=>by
   rcases tks q hq with h2|rfl
   ·exact Ln h q h2
   ·have:=jG q1;have:=jG q2;omega⟩,by simp only;omega,⟨rfl,rfl⟩,rfl⟩
  |exact⟨(i+1,rows++[[.int .i64 5,.str at_]]),⟨by simp only;omega,by simp only;omega,f1,fun h=>(ne _ _ h).elim⟩,by simp only;omega,⟨rfl,rfl⟩,rfl⟩
  |exact⟨(i+1,rows++[[.int .i64 6,.str at_]]),⟨by simp only;omega,by simp only;omega,f2,fun h=>(ne _ _ h).elim⟩,by simp only;omega,⟨rfl,rfl⟩,rfl⟩
  |exact⟨(i+1,rows++[[.int .i64 2,.str at_]]),⟨by simp only;omega,by simp only;omega,f3,fun h=>(ne _ _ h).elim⟩,by simp only;omega,⟨rfl,rfl⟩,rfl⟩
  |exact⟨(i+1,rows++[[.int .i64 5,.str at_]]++[[.int .i64 6,.str at_]]),⟨by simp only;omega,by simp only;omega,f4,fun h=>(ne _ _ h).elim⟩,by simp only;omega,⟨rfl,rfl⟩,rfl⟩
  |exact⟨(i+1,rows++[[.int .i64 5,.str at_]]++[[.int .i64 2,.str at_]]),⟨by simp only;omega,by simp only;omega,f5,fun h=>(ne _ _ h).elim⟩,by simp only;omega,⟨rfl,rfl⟩,rfl⟩
  |exact⟨(i+1,rows++[[.int .i64 6,.str at_]]++[[.int .i64 2,.str at_]]),⟨by simp only;omega,by simp only;omega,f6,fun h=>(ne _ _ h).elim⟩,by simp only;omega,⟨rfl,rfl⟩,rfl⟩
  |exact⟨(i+1,rows++[[.int .i64 5,.str at_]]++[[.int .i64 6,.str at_]]++[[.int .i64 2,.str at_]]),⟨by simp only;omega,by simp only[aH,aN];omega,f7,fun h=>(ne _ _ h).elim⟩,by simp only;omega,⟨rfl,rfl⟩,rfl⟩
end Go.Proofs.YtfgkgmmnldocaaaGreatDoor
namespace Go.Proofs.YtfgkgmmnldocaaaGreatDoor
open Go Go.AL
variable[Go.AL.Mode][Go.AL.bR]
def FI(r:List V):Prop:=r.length=2∧V.bQ r=true
theorem FI.one(e:Int)(s:bS):FI [.int .i64 e,.str s]:=⟨rfl,rfl⟩
theorem eV{α:Type}{p:α→Prop}{l:List α}{x:α}(h:∀r∈l,p r)(hx:p x):∀r∈l++[x],p r:=fun r hr=>by
 rcases List.mem_append.1 hr with hr|hr
 ·exact h r hr
 ·rw[bM]at hr;exact hr▸hx
theorem Jd{α:Type}{p:α→Prop}{l m:List α}(h:∀r∈l,p r)(hx:∀r∈m,p r):∀r∈l++m,p r:=fun r hr=>by
 rcases List.mem_append.1 hr with hr|hr
 ·exact h r hr
 ·exact hx r hr
theorem eE{α:Type}{l:List α}{x:α}{Q:Prop}(h:l++[x]=[]):Q:=by simp at h
theorem agb(a b:bS)(h:a.length+b.length≤1000):dW .add (.str a) (.str b)=some (.str (a++b)):=kJ (by unfold maxLen;omega)
theorem Ih{S0:ae}{eu:List (List V)}{v0:V}{S:ae}(h0:LG S0 118 2 eu v0 S)(h0l:eu.length≤700000000)(hi:∀r∈eu,FI r)(at_:bS)(ha:at_.length≤100)(fs:List (List V))(hf:∀r∈fs,FR r)(hl:fs.length≤100000000):
 ak Tryz.prog 43 [v0,.str at_,.sl 2 fs] S fun r S'=>∃rows,LG S0 118 2 rows r S'∧rows.length=eu.length+fs.length∧∀r∈rows,FI r:=by
 refine ak.bW Tryz.func43 afx (U rfl) fun σ b_=>?_;simp(disch:=first|omega|(simp only[ai];omega)) only[YE,aj,↓eA,eB,aq,seval];refine cH (ι:=Nat×List (List V)×V×ae) (fun i=>[(0,i.2.2.1),(1,.str at_),(2,.sl 2 fs),(7,.int .i64 (i.1:Nat))]) (fun i=>i.2.2.2)
  (fun i=>i.1≤fs.length∧LG S0 118 2 i.2.1 i.2.2.1 i.2.2.2∧i.2.1.length=eu.length+i.1∧∀r∈i.2.1,FI r) (fun i=>fs.length-i.1) (0,eu,v0,S) ⟨az _,h0,rfl,hi⟩ ?_ rfl ?_
 ·simp only[↓eA,eB,aq,seval];try rfl
 rintro⟨i,rows,v,S1⟩ ⟨kq,hg,hlen,pE⟩;simp only at kq hg hlen pE⊢;cases hc:fs[i]? with
 |none=>
  have eh:=List.getElem?_eq_none_iff.1 hc;have aR:¬((i:Int)<fs.length):=by omega
  simp(disch:=first|omega|(simp only[ai];omega)) only[dF aR,aj,↓eA,eB,aq,seval];exact⟨rows,hg,by omega,pE⟩
 |some x=>
 have cK:=(List.getElem?_eq_some_iff.1 hc).1;have aR:((i:Int)<fs.length):=by omega
 have om:(i:Int)+1=((i+1:Nat):Int):=by omega
 obtain⟨e,s,rfl,hs⟩:=hf x (aB hc);have ad1:=agb at_ [32] (by simp;omega);have ad2:=agb (at_++[32]) s (by simp;omega);simp(disch:=first|omega|(simp only[ai];omega)) only[dT aR,hc,ad1,ad2,aj,↓eA,eB,aq,seval];refine hg.app (by simp;omega) fun v' S2 h2=>?_;simp(disch:=first|omega|(simp only[ai];omega)) only[wrap_i64,om,aj,↓eA,eB,aq,seval];refine⟨(i+1,rows++[[.int .i64 e,.str (at_++[32]++s)]],v',S2),⟨by simp only;omega,h2,by simp only[aH,aN];omega,eV pE (FI.one _ _)⟩,by simp only;omega,?_⟩;first|exact⟨⟨rfl,rfl,rfl,rfl⟩,rfl⟩|exact⟨⟨rfl,rfl⟩,rfl⟩|exact⟨rfl,rfl⟩
def GF(S:ae)(m:Nat)(c:V)(P:Prop)(E:Env)(S':ae):Prop:=∃rows,LG S 118 2 rows (E.get 3) S'∧E.get 1=c∧rows.length≤m∧(∀r∈rows,FR r)∧(rows=[]→P)
theorem GF.uh{S:ae}{m:Nat}{rows:List (List V)}{v:V}{S':ae}{K:V→ae→Prop}{e:Int}{s:bS}(h:LG S 118 2 rows v S')(hl:rows.length≤m)(hm:m≤100000000)
 (k:∀v' Gi,LG S 118 2 (rows++[[.int .i64 e,.str s]]) v' Gi→K v' Gi):kj 118 2 v (some (2,[[.int .i64 e,.str s]])) S' K:=h.app (by simp;omega) k
theorem KY(r:o9)(FA:r.comb.length≤1048576)(hpr:r.jb.length≤1048576)(S:ae):ak Tryz.prog 44 [.agg (cx r)] S fun v S'=>∃rows:List (List V),v= .sl 2 rows∧(rows.length≤20000000∧(∀x∈rows,FR x)∧(rows=[]→ka r))∧S'=S:=by
 refine ak.bp Tryz.func44 Xr fun hn=>?_;refine(ak.fin Tryz.func44 Xr (R:=fun v S'=>(∃rows:List (List V),v= .sl 2 rows∧(rows.length≤20000000∧(∀x∈rows,FR x)∧(rows=[]→ka r)))∧S'=S) (U rfl) fun σ b_=>?_).mono fun r S' ⟨⟨L,h1,h2⟩,h3⟩=>⟨L,h1,h2,h3⟩;have ck:=fun S=>KZ r.w S;have ls:=fun S=>N3 r.comb FA S;have ps:=fun S=>zY r.jb hpr S;unfold ka;generalize hrt:r.w.right=rt at ck⊢;obtain⟨n,⟨k,l,a,b,p,tx⟩,comb,mn,mx,ch,rf,jb⟩:=r;simp only[cx,b8.row,aS,a8]at ck ls ps FA hpr⊢;simp only[YN];obtain⟨cv,oW⟩:∃cv,cv=V.bK [.int .i64 n,.int .i64 k,.sl 8 (b8.rows l),.int .i64 a,.int .i64 b,.int .i64 p.f,.int .i64 p.t,.int .i64 p.d,.sl 1 (tx.map eW),.sl 1 (comb.map iu),.int .i64 mn,.int .i64 mx,.int .i64 ch,.int .i64 rf,.sl 2 (jb.map mK)]:=⟨_,rfl⟩;refine cm (fun E S'=>E.get 1=cv∧S'=S) ?_ ?_
 ·intro K hK;simp(disch:=first|omega|(simp only[ai];omega)) only[aj,↓eA,eB,aq,seval];exact hK _ _ ⟨oW.symm,rfl⟩
 rintro E S2 ⟨e1,cO⟩;rw[cO];clear cO S2;refine cm (GF S 0 cv True) ?_ ?_
 ·intro K hK;simp(disch:=first|omega|(simp only[ai];omega)) only[aj,↓eA,eB,aq,seval];exact hK _ _ ⟨[],LG.TM,e1,ah _,(fun _ h=>by cases h),fun _=>trivial⟩
 clear e1;rintro E S1 ⟨rows,hg,e1,hl,hf,hp⟩;refine cm (GF S 1 cv True) ?_ ?_
 ·intro K hK;cases q1:decide (n<1)<;>cases q2:decide (9999<n)<;>simp(disch:=first|omega|(simp only[ai];omega)) only[e1,oW,q1,q2,aj,↓eA,eB,aq,seval];all_goals first
   |exact hK _ _ ⟨rows,hg,e1,by omega,hf,hp⟩
   |(refine GF.uh hg hl (by decide) fun v' S2 h2=>?_
     simp(disch:=first|omega|(simp only[ai];omega)) only[aj,↓eA,eB,aq,seval];exact hK _ _ ⟨_,h2,e1,by simp only[aH,aN];omega,gd hf (by decide),eE⟩)
 clear e1;rintro E S1 ⟨rows,hg,e1,hl,hf,hp⟩;refine cm (fun E S'=>∃e:Int,E.get 4= .int .i64 e∧(e=0→rt)∧GF S 1 cv True E S') ?_ ?_
 ·intro K hK;simp(disch:=first|omega|(simp only[ai];omega)) only[e1,oW,aj,↓eA,eB,aq,seval];refine(ck _).mono ?_;rintro _ S2 ⟨e,rfl,he,cO⟩;rw[cO];clear cO S2;simp(disch:=first|omega|(simp only[ai];omega)) only[aj,↓eA,eB,aq,seval];exact hK _ _ ⟨e,rfl,he,rows,hg,e1,hl,hf,hp⟩
 clear e1;rintro E S1 ⟨e,e4,he,rows,hg,e1,hl,hf,hp⟩;refine cm (GF S 2 cv rt) ?_ ?_
 ·intro K hK;by_cases h0:e=0
  ·simp(disch:=first|omega|(simp only[ai];omega)) only[e4,dT h0,aj,↓eA,eB,aq,seval];exact hK _ _ ⟨rows,hg,e1,by omega,hf,fun _=>he h0⟩
  ·simp(disch:=first|omega|(simp only[ai];omega)) only[e4,dF h0,aj,↓eA,eB,aq,seval];refine GF.uh hg hl (by decide) fun v' S2 h2=>?_;simp(disch:=first|omega|(simp only[ai];omega)) only[aj,↓eA,eB,aq,seval];exact hK _ _ ⟨_,h2,e1,by simp only[aH,aN];omega,gd hf (by decide),eE⟩
 clear e1 e4 he;rintro E S1 ⟨rows,hg,e1,hl,hf,hp⟩;refine cm (GF S 3000000 cv rt) ?_ ?_
 ·intro K hK;simp(disch:=first|omega|(simp only[ai];omega)) only[e1,oW,aj,↓eA,eB,aq,seval];refine(ls _).mono ?_;rintro _ S2 ⟨iU,rfl,⟨vZ,qh⟩,cO⟩;rw[cO];clear cO S2;simp(disch:=first|omega|(simp only[ai];omega)) only[aj,↓eA,eB,aq,seval];refine hg.app (by omega) fun v' S2 h2=>?_;simp(disch:=first|omega|(simp only[ai];omega)) only[aj,↓eA,eB,aq,seval];exact hK _ _ ⟨_,h2,e1,by rw[aH];omega,Jd hf qh,fun h=>hp (List.append_eq_nil_iff.1 h).1⟩
 clear e1;rintro E S1 ⟨rows,hg,e1,hl,hf,hp⟩;refine cm (GF S 3000001 cv rt) ?_ ?_
 ·intro K hK;cases q1:decide (mn<0)<;>cases q2:decide (400<mn)<;>cases q3:decide (mx<0)<;>cases q4:decide (400<mx)<;>simp(disch:=first|omega|(simp only[ai];omega)) only[e1,oW,q1,q2,q3,q4,aj,↓eA,eB,aq,seval];all_goals first
   |exact hK _ _ ⟨rows,hg,e1,by omega,hf,hp⟩
   |(refine GF.uh hg hl (by decide) fun v' S2 h2=>?_
     simp(disch:=first|omega|(simp only[ai];omega)) only[aj,↓eA,eB,aq,seval];exact hK _ _ ⟨_,h2,e1,by simp only[aH,aN];omega,gd hf (by decide),eE⟩)
 clear e1;rintro E S1 ⟨rows,hg,e1,hl,hf,hp⟩;refine cm (GF S 3000002 cv rt) ?_ ?_
 ·intro K hK;cases q1:decide (0<mx)<;>cases q2:decide (mx<mn)<;>simp(disch:=first|omega|(simp only[ai];omega)) only[e1,oW,q1,q2,aj,↓eA,eB,aq,seval];all_goals first
   |exact hK _ _ ⟨rows,hg,e1,by omega,hf,hp⟩
   |(refine GF.uh hg hl (by decide) fun v' S2 h2=>?_
     simp(disch:=first|omega|(simp only[ai];omega)) only[aj,↓eA,eB,aq,seval];exact hK _ _ ⟨_,h2,e1,by simp only[aH,aN];omega,gd hf (by decide),eE⟩)
 clear e1;rintro E S1 ⟨rows,hg,e1,hl,hf,hp⟩;refine cm (GF S 3000003 cv rt) ?_ ?_
 ·intro K hK;cases q1:decide (ch< -1)<;>cases q2:decide (1099511627776<ch)<;>cases q3:decide (rf< -1)<;>cases q4:decide (1099511627776<rf)<;>simp(disch:=first|omega|(simp only[ai];omega)) only[e1,oW,q1,q2,q3,q4,aj,↓eA,eB,aq,seval];all_goals first
   |exact hK _ _ ⟨rows,hg,e1,by omega,hf,hp⟩
   |(refine GF.uh hg hl (by decide) fun v' S2 h2=>?_
     simp(disch:=first|omega|(simp only[ai];omega)) only[aj,↓eA,eB,aq,seval];exact hK _ _ ⟨_,h2,e1,by simp only[aH,aN];omega,gd hf (by decide),eE⟩)
 clear e1;rintro E S1 ⟨rows,hg,e1,hl,hf,hp⟩;simp(disch:=first|omega|(simp only[ai];omega)) only[e1,oW,aj,↓eA,eB,aq,seval];refine(ps _).mono ?_;rintro _ S2 ⟨iU,rfl,⟨vZ,qh,hz⟩,cO⟩;rw[cO];clear cO S2;simp(disch:=first|omega|(simp only[ai];omega)) only[aj,↓eA,eB,aq,seval];refine hg.app (by omega) fun v' S2 h2=>?_;simp(disch:=first|omega|(simp only[ai];omega)) only[aj,↓eA,eB,aq,seval];have fY:=Jd hf qh;have sD:=h2.fin hn fun r hr=>(fY r hr).bX;exact⟨_,S,sD.1,sD.2,ah _,⟨_,rfl,by rw[aH];omega,fY,fun h=>⟨hp (List.append_eq_nil_iff.1 h).1,hz (List.append_eq_nil_iff.1 h).2⟩⟩,rfl⟩
def GL(S:ae)(m i:Nat)(c c5 a6:V)(E:Env)(S':ae):Prop:=∃rows,LG S 118 2 rows (E.get 3) S'∧E.get 1=c∧E.get 4= .int .i64 (i:Nat)∧E.get 5=c5∧E.get 6=a6∧rows.length≤m∧∀r∈rows,FR r
theorem KX(r:Gj)(nW:r.gO.length≤1048576)(S:ae):ak Tryz.prog 45 [.agg (eP r)] S fun v S'=>∃rows:List (List V),v= .sl 2 rows∧(rows.length≤4000000∧∀x∈rows,FR x)∧S'=S:=by
 refine ak.bp Tryz.func45 P2 fun hn=>?_;refine(ak.fin Tryz.func45 P2 (R:=fun v S'=>(∃rows:List (List V),v= .sl 2 rows∧(rows.length≤4000000∧∀x∈rows,FR x))∧S'=S) (U rfl) fun σ b_=>?_).mono fun r S' ⟨⟨L,h1,h2⟩,h3⟩=>⟨L,h1,h2,h3⟩;obtain⟨n,gO,mi⟩:=r;simp only[eP]at nW⊢;simp only[Q4];obtain⟨cv,oW⟩:∃cv,cv=V.bK [.int .i64 n,.sl 2 (gO.map ig),.int .i64 mi]:=⟨_,rfl⟩;refine cm (fun E S'=>E.get 1=cv∧S'=S) ?_ ?_
 ·intro K hK;simp(disch:=first|omega|(simp only[ai];omega)) only[aj,↓eA,eB,aq,seval];exact hK _ _ ⟨oW.symm,rfl⟩
 rintro E S2 ⟨e1,cO⟩;rw[cO];clear cO S2;refine cm (GF S 0 cv True) ?_ ?_
 ·intro K hK;simp(disch:=first|omega|(simp only[ai];omega)) only[aj,↓eA,eB,aq,seval];exact hK _ _ ⟨[],LG.TM,e1,ah _,(fun _ h=>by cases h),fun _=>trivial⟩
 clear e1;rintro E S1 ⟨rows,hg,e1,hl,hf,hp⟩;refine cm (GF S 1 cv True) ?_ ?_
 ·intro K hK;cases q1:decide (n<1)<;>cases q2:decide (9999<n)<;>simp(disch:=first|omega|(simp only[ai];omega)) only[e1,oW,q1,q2,aj,↓eA,eB,aq,seval];all_goals first
   |exact hK _ _ ⟨rows,hg,e1,by omega,hf,hp⟩
   |(refine GF.uh hg hl (by decide) fun v' S2 h2=>?_
     simp(disch:=first|omega|(simp only[ai];omega)) only[aj,↓eA,eB,aq,seval];exact hK _ _ ⟨_,h2,e1,by simp only[aH,aN];omega,gd hf (by decide),eE⟩)
 clear e1;rintro E S1 ⟨rows,hg,e1,hl,hf,hp⟩;refine cm (GF S 2 cv True) ?_ ?_
 ·intro K hK;cases q1:decide ((128:Int)<(gO.length:Nat))<;>simp(disch:=first|omega|(simp only[ai];omega)) only[e1,oW,q1,aj,↓eA,eB,aq,seval];all_goals first
   |exact hK _ _ ⟨rows,hg,e1,by omega,hf,hp⟩
   |(refine GF.uh hg hl (by decide) fun v' S2 h2=>?_
     simp(disch:=first|omega|(simp only[ai];omega)) only[aj,↓eA,eB,aq,seval];exact hK _ _ ⟨_,h2,e1,by simp only[aH,aN];omega,gd hf (by decide),eE⟩)
 clear e1;rintro E S1 ⟨rows,hg,e1,hl,hf,hp⟩;refine cm (GF S 3999999 cv True) ?_ ?_
 ·intro K hK;simp(disch:=first|omega|(simp only[ai];omega)) only[aj,↓eA,eB,aq,seval];refine cH (ι:=Nat×List (List V)×V×ae) (fun i=>[(1,cv),(3,i.2.2.1),(4,.int .i64 (i.1:Nat))]) (fun i=>i.2.2.2)
   (fun i=>i.1≤gO.length∧LG S 118 2 i.2.1 i.2.2.1 i.2.2.2∧i.2.1.length≤2+3*i.1∧∀r∈i.2.1,FR r) (fun i=>gO.length-i.1) (0,rows,E.get 3,S1) ⟨az _,hg,hl,hf⟩ ?_ rfl ?_
  ·simp only[e1,↓eA,eB,aq,seval];try rfl
  clear hg hl hf e1 hp;rintro⟨i,rows,v,S1⟩ ⟨hi,hg,hl,hf⟩;simp only at hi hg hl hf⊢;refine cm (fun E' S'=>((i:Int)<gO.length∧(gO.length:Int)≤128)∧E'.get 1=cv∧E'.get 3=v∧E'.get 4= .int .i64 (i:Nat)∧S'=S1) ?_ ?_
  ·intro K2 ud;by_cases aR:(i:Int)<gO.length
   ·by_cases Uz:(gO.length:Int)≤128
    ·simp(disch:=first|omega|(simp only[ai];omega)) only[oW,dT aR,dT Uz,aj,↓eA,eB,aq,seval];exact ud _ _ ⟨⟨aR,Uz⟩,oW.symm,rfl,rfl,rfl⟩
    ·simp(disch:=first|omega|(simp only[ai];omega)) only[oW,dT aR,dF Uz,aj,↓eA,eB,aq,seval];exact hK _ _ ⟨rows,hg,oW.symm,by omega,hf,fun _=>trivial⟩
   ·simp(disch:=first|omega|(simp only[ai];omega)) only[oW,dF aR,aj,↓eA,eB,aq,seval];exact hK _ _ ⟨rows,hg,oW.symm,by omega,hf,fun _=>trivial⟩
  rintro E S2 ⟨⟨aR,Uz⟩,e1,e3,e4,cO⟩;rw[cO];clear cO S2;obtain⟨⟨lf,lt⟩,hc⟩:∃y,gO[i]?=some y:=⟨_,ax (by omega)⟩;have om:(i:Int)+1=((i+1:Nat):Int):=by omega
  refine cm (fun E' S'=>∃c5 a6,GL S (5+3*i) i cv c5 a6 E' S') ?_ ?_
  ·intro K2 ud;refine cm (GL S (2+3*i) i cv (.bK (ig (lf,lt))) (E.get 6)) ?_ ?_
   ·intro K3 tA;simp(disch:=first|omega|(simp only[ai];omega)) only[e1,e3,e4,oW,hc,ig,aj,↓eA,eB,aq,seval];exact tA _ _ ⟨rows,e3▸hg.add _,e1,e4,rfl,rfl,hl,hf⟩
   clear hg hl hf e1 e3 e4;rintro E S1 ⟨rows,hg,e1,e4,e5,-,hl,hf⟩;obtain⟨at_,jE,C6⟩:∃at_:bS,dW .add (.str SN) (.str (jo i))=some (.str at_)∧at_.length≤40:=⟨_,nN SN i (by decide),qo SN i (by decide)⟩;simp only[SN]at jE;refine cm (GL S (2+3*i) i cv (.bK (ig (lf,lt))) (.str at_)) ?_ ?_
   ·intro K3 tA;simp(disch:=first|omega|(simp only[ai];omega)) only[e4,aj,↓eA,eB,aq,seval];refine(mQ i (by omega) _).then ?_
    simp(disch:=first|omega|(simp only[ai];omega)) only[jE,aj,↓eA,eB,aq,seval];exact tA _ _ ⟨rows,hg,e1,e4,e5,rfl,hl,hf⟩
   clear hg hl hf e1 e4 e5;rintro E S1 ⟨rows,hg,e1,e4,e5,e6,hl,hf⟩;refine cm (GL S (3+3*i) i cv (.bK (ig (lf,lt))) (.str at_)) ?_ ?_
   ·intro K3 tA;simp(disch:=first|omega|(simp only[ai];omega)) only[e5,ig,aj,↓eA,eB,aq,seval];refine(lH lf _).then ?_
    generalize vO lf 3=z1;cases z1
    case false=>
     simp(disch:=first|omega|(simp only[ai];omega)) only[e5,e6,ig,aj,↓eA,eB,aq,seval];refine GF.uh hg hl (by omega) fun v' S2 h2=>?_;simp(disch:=first|omega|(simp only[ai];omega)) only[e6,aj,↓eA,eB,aq,seval];exact tA _ _ ⟨_,h2,e1,e4,e5,e6,by simp only[aH,aN];omega,gd hf C6⟩
    simp(disch:=first|omega|(simp only[ai];omega)) only[e5,ig,aj,↓eA,eB,aq,seval];refine(lH lt _).then ?_
    generalize vO lt 3=z2;cases z2<;>simp(disch:=first|omega|(simp only[ai];omega)) only[e5,e6,ig,aj,↓eA,eB,aq,seval];all_goals first
     |exact tA _ _ ⟨rows,hg,e1,e4,e5,e6,by omega,hf⟩
     |(refine GF.uh hg hl (by omega) fun v' S2 h2=>?_
       simp(disch:=first|omega|(simp only[ai];omega)) only[e6,aj,↓eA,eB,aq,seval];exact tA _ _ ⟨_,h2,e1,e4,e5,e6,by simp only[aH,aN];omega,gd hf C6⟩)
   clear hg hl hf e1 e4 e5 e6;rintro E S1 ⟨rows,hg,e1,e4,e5,e6,hl,hf⟩;refine cm (GL S (4+3*i) i cv (.bK (ig (lf,lt))) (.str at_)) ?_ ?_
   ·intro K3 tA;cases q1:decide (lf=lt)<;>simp(disch:=first|omega|(simp only[ai];omega)) only[e5,e6,q1,ig,aj,↓eA,eB,aq,seval];all_goals first
     |exact tA _ _ ⟨rows,hg,e1,e4,e5,e6,by omega,hf⟩
     |(refine GF.uh hg hl (by omega) fun v' S2 h2=>?_
       simp(disch:=first|omega|(simp only[ai];omega)) only[e6,aj,↓eA,eB,aq,seval];exact tA _ _ ⟨_,h2,e1,e4,e5,e6,by simp only[aH,aN];omega,gd hf C6⟩)
   clear hg hl hf e1 e4 e5 e6;rintro E S1 ⟨rows,hg,e1,e4,e5,e6,hl,hf⟩;have aaN:(i:Int)≤(gO.length:Nat):=by omega
   have lk:=fun S=>N4 (gO.take i) lf lt S;simp(disch:=first|omega|(simp only[ai];omega)) only[e1,e4,e5,oW,aK aaN,ig,aj,↓eA,eB,aq,seval];refine(lk _).then ?_
   generalize nk (fun x=>decide (x.1=lf)&&decide (x.2=lt)) (gO.take i) 0=z;cases q1:decide ((0:Int)≤z)<;>simp(disch:=first|omega|(simp only[ai];omega)) only[q1,e6,aj,↓eA,eB,aq,seval];all_goals first
    |exact ud _ _ ⟨_,_,rows,hg,e1,e4,e5,e6,by omega,hf⟩
    |(refine GF.uh hg hl (by omega) fun v' S2 h2=>?_
      simp(disch:=first|omega|(simp only[ai];omega)) only[e6,aj,↓eA,eB,aq,seval];exact ud _ _ ⟨_,_,_,h2,e1,e4,e5,e6,by simp only[aH,aN];omega,gd hf C6⟩)
  clear hg hl hf e1 e3 e4;rintro E S1 ⟨c5,a6,rows,hg,e1,e4,e5,e6,hl,hf⟩;simp(disch:=first|omega|(simp only[ai];omega)) only[e4,wrap_i64,om,aj,↓eA,eB,aq,seval];exact⟨(i+1,rows,E.get 3,S1),⟨by simp only;omega,hg,by simp only;omega,hf⟩,by simp only;omega,⟨e1,rfl,rfl⟩,rfl⟩
 clear e1;rintro E S1 ⟨rows,hg,e1,hl,hf,hp⟩;refine cm (GF S 4000000 cv True) ?_ ?_
 ·intro K hK;cases q1:decide (mi<0)<;>cases q2:decide (99999<mi)<;>simp(disch:=first|omega|(simp only[ai];omega)) only[e1,oW,q1,q2,aj,↓eA,eB,aq,seval];all_goals first
   |exact hK _ _ ⟨rows,hg,e1,by omega,hf,hp⟩
   |(refine GF.uh hg hl (by decide) fun v' S2 h2=>?_
     simp(disch:=first|omega|(simp only[ai];omega)) only[aj,↓eA,eB,aq,seval];exact hK _ _ ⟨_,h2,e1,by simp only[aH,aN];omega,gd hf (by decide),eE⟩)
 clear e1;rintro E S1 ⟨rows,hg,e1,hl,hf,hp⟩;simp(disch:=first|omega|(simp only[ai];omega)) only[aj,↓eA,eB,aq,seval];have sD:=hg.fin hn fun r hr=>(hf r hr).bX;exact⟨_,S,sD.1,sD.2,ah _,⟨_,rfl,by omega,hf⟩,rfl⟩
end Go.Proofs.YtfgkgmmnldocaaaGreatDoor
