/- Cnc -/
import Derived.Test.YtfgkgmmnldocaaaGreatDoorZCna
set_option linter.unusedSectionVars false
set_option linter.unusedSimpArgs false
set_option linter.unusedVariables false
set_option maxHeartbeats 4000000
set_option maxRecDepth 10000
namespace Go.Proofs.YtfgkgmmnldocaaaGreatDoor
open Go Go.AL
variable[Go.AL.Mode][Go.AL.bR]
def aal(k:Int):Bool:=decide (k=2)||decide (k=3)||decide (k=4)
def U6(k:Int):Bool:=decide (k=11)||decide (k=13)||decide (k=14)
def TA(k:Int):Bool:=decide (k=5)||decide (k=6)
def TK(k:Int):Int:=if k=8∨k=12 then 2 else if k=7∨k=9∨k=10 then 1 else 0
theorem ady(k:Int)(S:ae):ak Tryz.prog 227 [.int .i64 k] S fun v S'=>v= .bool (aal k)∧S'=S:=by
 refine ak.bW Tryz.func227 afn (U rfl) fun σ b_=>?_;unfold aal;cases h1:decide (k=2)<;>cases h2:decide (k=3)<;>cases h3:decide (k=4)<;>simp(disch:=first|omega|(simp only[ai];omega)) only[Yq,h1,h2,h3,Bool.or_self,mf,Bool.or_false,eS,cQ,aj,↓eA,eB,aq,seval]
theorem W7(k:Int)(S:ae):ak Tryz.prog 207 [.int .i64 k] S fun v S'=>v= .bool (U6 k)∧S'=S:=by
 refine ak.bW Tryz.func207 afk (U rfl) fun σ b_=>?_;unfold U6;cases h1:decide (k=11)<;>cases h2:decide (k=13)<;>cases h3:decide (k=14)<;>simp(disch:=first|omega|(simp only[ai];omega)) only[Yo,h1,h2,h3,Bool.or_self,mf,Bool.or_false,eS,cQ,aj,↓eA,eB,aq,seval]
theorem VS(k:Int)(S:ae):ak Tryz.prog 205 [.int .i64 k] S fun v S'=>v= .bool (TA k)∧S'=S:=by
 refine ak.bW Tryz.func205 afl (U rfl) fun σ b_=>?_;unfold TA;cases h1:decide (k=5)<;>cases h2:decide (k=6)<;>simp(disch:=first|omega|(simp only[ai];omega)) only[Yp,h1,h2,Bool.or_self,mf,Bool.or_false,eS,cQ,aj,↓eA,eB,aq,seval]
theorem V7(k:Int)(S:ae):ak Tryz.prog 228 [.int .i64 k] S fun v S'=>v= .int .i64 (TK k)∧S'=S:=by
 refine ak.bW Tryz.func228 afm (U rfl) fun σ b_=>?_;unfold TK;by_cases h1:k=8
 ·simp(disch:=first|omega|(simp only[ai];omega)) only[wT,dT h1,h1,l_,aQ,aj,↓eA,eB,aq,seval]
 by_cases h2:k=12
 ·simp(disch:=first|omega|(simp only[ai];omega)) only[wT,dF h1,dT h2,h2,or_true,aQ,aj,↓eA,eB,aq,seval]
 by_cases h3:k=7
 ·simp(disch:=first|omega|(simp only[ai];omega)) only[wT,dF h1,dF h2,dT h3,h1,h2,h3,ma,l_,aQ,aZ,aj,↓eA,eB,aq,seval]
 by_cases h4:k=9
 ·simp(disch:=first|omega|(simp only[ai];omega)) only[wT,dF h1,dF h2,dF h3,dT h4,h1,h2,h3,h4,ma,l_,or_true,aQ,aZ,aj,↓eA,eB,aq,seval]
 by_cases h5:k=10
 ·simp(disch:=first|omega|(simp only[ai];omega)) only[wT,dF h1,dF h2,dF h3,dF h4,dT h5,h1,h2,h3,h4,h5,ma,l_,or_true,aQ,aZ,aj,↓eA,eB,aq,seval]
 simp(disch:=first|omega|(simp only[ai];omega)) only[wT,dF h1,dF h2,dF h3,dF h4,dF h5,h1,h2,h3,h4,h5,ma,aZ,aj,↓eA,eB,aq,seval]
theorem UN(k:Int)(l:List b8)(a b:Int)(p:Pd)(tx:List bS)(S:ae):ak Tryz.prog 203 [.agg (b8.mk k l a b p tx).row] S fun v S'=>∃z,v= .bool z∧S'=S:=by
 refine ak.bp Tryz.func203 Xc fun hn=>?_;refine ak.fin Tryz.func203 Xc (U rfl) fun σ b_=>?_;simp(disch:=first|omega|(simp only[ai];omega)) only[Yr,b8.row,aj,↓eA,eB,aq,seval];refine(ady k S).then ?_
 generalize aal k=z1;have Dz:∀z:Bool,∃r1 S1,mV S S1∧jd S S1 (.bool z) r1∧S.length≤S1.length∧(∃z,r1= .bool z∧S1=S):=fun z=>⟨_,S,hn.self,.bX rfl,ah _,_,rfl,rfl⟩;have hp:(p.f=0∧p.t=0∧p.d=0)∨(decide (p.f=0)&&(decide (p.t=0)&&decide (p.d=0)))=false:=by
  by_cases h:p.f=0∧p.t=0∧p.d=0
  ·exact .inl h
  ·refine .inr ?_;rw[Bool.eq_false_iff];intro e;simp only[aW,aL]at e;exact h e
 have s1:(z1=true∧decide ((0:Int)=1)=false)∨(z1=false∧decide ((0:Int)<((b8.rows l).length:Nat))=true)∨(z1=false∧decide ((0:Int)<((b8.rows l).length:Nat))=false):=by cases z1<;>cases decide ((0:Int)<((b8.rows l).length:Nat))<;>simp
 rcases s1 with⟨rfl,hl⟩|⟨rfl,hl⟩|⟨rfl,hl⟩<;>simp(disch:=first|omega|(simp only[ai];omega)) only[hl,aj,↓eA,eB,aq,seval];all_goals try exact Dz _
 all_goals
  refine(W7 k S).then ?_
  generalize U6 k=z2;have s2:(z2=true∧decide ((0:Int)=1)=false)∨(z2=false∧decide ((0:Int)<(tx.length:Nat))=true)∨(z2=false∧decide ((0:Int)<(tx.length:Nat))=false):=by cases z2<;>cases decide ((0:Int)<(tx.length:Nat))<;>simp
  rcases s2 with⟨rfl,ht⟩|⟨rfl,ht⟩|⟨rfl,ht⟩<;>simp(disch:=first|omega|(simp only[ai];omega)) only[ht,aj,↓eA,eB,aq,seval]
 all_goals try exact Dz _
 all_goals
  refine(VS k S).then ?_
  generalize TA k=z3;have s3:(z3=true∧decide ((0:Int)=1)=false∧decide ((0:Int)=1)=false∧decide ((0:Int)=1)=false)∨(z3=false∧(decide (p.f=0)&&(decide (p.t=0)&&decide (p.d=0)))=false∧decide ((0:Int)=1)=false∧decide ((0:Int)=1)=false)∨(z3=false∧decide (p.f=0)=true∧decide (p.t=0)=true∧decide (p.d=0)=true):=by
   cases z3
   ·rcases hp with⟨e1,e2,e3⟩|hp
    ·exact .inr (.inr ⟨rfl,dT e1,dT e2,dT e3⟩)
    ·exact .inr (.inl ⟨rfl,hp,rfl,rfl⟩)
   ·exact .inl ⟨rfl,rfl,rfl,rfl⟩
  rcases s3 with⟨rfl,e1,e2,e3⟩|⟨rfl,e1,e2,e3⟩|⟨rfl,e1,e2,e3⟩<;>simp(disch:=first|omega|(simp only[ai];omega)) only[e1,e2,e3,eH,aj,↓eA,eB,aq,seval]
 all_goals try exact Dz _
 all_goals
  refine(V7 k S).then ?_
  generalize TK k=n;have s4:(decide (n<1)=false∧decide ((0:Int)=1)=false)∨(decide (n<1)=true∧decide (a=0)=true)∨(decide (n<1)=true∧decide (a=0)=false):=by cases decide (n<1)<;>cases decide (a=0)<;>simp
  rcases s4 with⟨f1,f2⟩|⟨f1,f2⟩|⟨f1,f2⟩<;>simp(disch:=first|omega|(simp only[ai];omega)) only[f1,f2,aj,↓eA,eB,aq,seval]
 all_goals try exact Dz _
 all_goals
  refine(V7 k S).then ?_
  generalize TK k=n2;have s5:(decide (n2<2)=false∧decide ((0:Int)=1)=false)∨(decide (n2<2)=true∧decide (b=0)=true)∨(decide (n2<2)=true∧decide (b=0)=false):=by cases decide (n2<2)<;>cases decide (b=0)<;>simp
  rcases s5 with⟨g1,g2⟩|⟨g1,g2⟩|⟨g1,g2⟩<;>simp(disch:=first|omega|(simp only[ai];omega)) only[g1,g2,aj,↓eA,eB,aq,seval]
 all_goals exact Dz _
theorem SF(k:Int)(l:List b8)(a b:Int)(p:Pd)(tx:List bS)(S:ae):ak Tryz.prog 204 [.agg (b8.mk k l a b p tx).row] S fun v S'=>∃z,v= .bool z∧(z=false→k=4→l.length=1)∧S'=S:=by
 refine ak.bp Tryz.func204 Xb fun hn=>?_;refine ak.fin Tryz.func204 Xb (U rfl) fun σ b_=>?_;by_cases k2:k=2
 ·simp(disch:=first|omega|(simp only[ai];omega)) only[p8,b8.row,dT k2,aj,↓eA,eB,aq,seval];exact⟨_,S,hn.self,.bX rfl,ah _,_,rfl,fun _ h=>by omega,rfl⟩
 by_cases k3:k=3
 ·simp(disch:=first|omega|(simp only[ai];omega)) only[p8,b8.row,dF k2,dT k3,aj,↓eA,eB,aq,seval];exact⟨_,S,hn.self,.bX rfl,ah _,_,rfl,fun _ h=>by omega,rfl⟩
 by_cases k4:k=4
 ·simp(disch:=first|omega|(simp only[ai];omega)) only[p8,b8.row,dF k2,dF k3,dT k4,aj,↓eA,eB,aq,seval];refine⟨_,S,hn.self,.bX rfl,ah _,_,rfl,fun h _=>?_,rfl⟩;simp only[Bool.not_eq_false',aL]at h;rw[b8.fI,aP]at h;omega
 by_cases k7:k=7
 ·cases q1:decide (a<0)<;>cases q2:decide (36525≤a)<;>simp(disch:=first|omega|(simp only[ai];omega)) only[p8,b8.row,dF k2,dF k3,dF k4,dT k7,q1,q2,aj,↓eA,eB,aq,seval];all_goals exact⟨_,S,hn.self,.bX rfl,ah _,_,rfl,fun _ h=>by omega,rfl⟩
 by_cases k8:k=8
 ·cases q1:decide (a<0)<;>cases q2:decide (1440≤a)<;>cases q3:decide (b<0)<;>cases q4:decide (1440≤b)<;>simp(disch:=first|omega|(simp only[ai];omega)) only[p8,b8.row,dF k2,dF k3,dF k4,dF k7,dT k8,q1,q2,q3,q4,aj,↓eA,eB,aq,seval];all_goals exact⟨_,S,hn.self,.bX rfl,ah _,_,rfl,fun _ h=>by omega,rfl⟩
 by_cases k9:k=9
 ·cases q1:decide (a<0)<;>cases q2:decide (6<a)<;>simp(disch:=first|omega|(simp only[ai];omega)) only[p8,b8.row,dF k2,dF k3,dF k4,dF k7,dF k8,dT k9,q1,q2,aj,↓eA,eB,aq,seval];all_goals exact⟨_,S,hn.self,.bX rfl,ah _,_,rfl,fun _ h=>by omega,rfl⟩
 by_cases k10:k=10
 ·cases q1:decide (a<0)<;>cases q2:decide (6<a)<;>simp(disch:=first|omega|(simp only[ai];omega)) only[p8,b8.row,dF k2,dF k3,dF k4,dF k7,dF k8,dF k9,dT k10,q1,q2,aj,↓eA,eB,aq,seval];all_goals exact⟨_,S,hn.self,.bX rfl,ah _,_,rfl,fun _ h=>by omega,rfl⟩
 by_cases k12:k=12
 ·cases q1:decide (a<1)<;>cases q2:decide (b<a)<;>cases q3:decide (9999<b)<;>simp(disch:=first|omega|(simp only[ai];omega)) only[p8,b8.row,dF k2,dF k3,dF k4,dF k7,dF k8,dF k9,dF k10,dT k12,q1,q2,q3,aj,↓eA,eB,aq,seval];all_goals exact⟨_,S,hn.self,.bX rfl,ah _,_,rfl,fun _ h=>by omega,rfl⟩
 simp(disch:=first|omega|(simp only[ai];omega)) only[p8,b8.row,dF k2,dF k3,dF k4,dF k7,dF k8,dF k9,dF k10,dF k12,aj,↓eA,eB,aq,seval];exact⟨_,S,hn.self,.bX rfl,ah _,_,rfl,fun _ h=>by omega,rfl⟩
theorem PO(k:Int)(s:bS)(S:ae):ak Tryz.prog 208 [.int .i64 k,.str s] S fun v S'=>∃z,v= .bool z∧S'=S:=by
 refine ak.bp Tryz.func208 Xa fun hn=>?_;refine ak.fin Tryz.func208 Xa (U rfl) fun σ b_=>?_;by_cases h1:k=11
 ·simp(disch:=first|omega|(simp only[ai];omega)) only[Jh,dT h1,aj,↓eA,eB,aq,seval];refine(sT s S).then ?_
  simp(disch:=first|omega|(simp only[ai];omega)) only[aj,↓eA,eB,aq,seval];exact⟨_,S,hn.self,.bX rfl,ah _,_,rfl,rfl⟩
 by_cases h2:k=13
 ·simp(disch:=first|omega|(simp only[ai];omega)) only[Jh,dF h1,dT h2,aj,↓eA,eB,aq,seval];refine(lH s S).then ?_
  simp(disch:=first|omega|(simp only[ai];omega)) only[aj,↓eA,eB,aq,seval];exact⟨_,S,hn.self,.bX rfl,ah _,_,rfl,rfl⟩
 have cd:=qG s 3 3 S;simp(disch:=first|omega|(simp only[ai];omega)) only[Jh,dF h1,dF h2,aj,↓eA,eB,aq,seval];refine cd.then ?_
 simp(disch:=first|omega|(simp only[ai];omega)) only[aj,↓eA,eB,aq,seval];exact⟨_,S,hn.self,.bX rfl,ah _,_,rfl,rfl⟩
theorem aaa(k:Int)(l:List b8)(a b:Int)(p:Pd)(tx:List bS)(S:ae):ak Tryz.prog 180 [.agg (b8.mk k l a b p tx).row] S fun v S'=>∃e:Int,v= .int .i64 e∧(e=0→1≤k∧k≤14∧(k=4→l.length=1))∧S'=S:=by
 refine pH (j:=7) (sz:=1) (rows:=tx.map eW) rfl (fun hm=>?_) ⟨Tryz.f180,Tryz.func180,by kernel_rfl,by kernel_rfl⟩;rw[aP]at hm;have Sv:=mx _ hm;refine ak.bp Tryz.func180 Xd fun hn=>?_;refine ak.fin Tryz.func180 Xd (U rfl) fun σ b_=>?_;have ex:=fun S=>UN k l a b p tx S;have wr:=fun S=>SF k l a b p tx S;have ch:=fun S=>B2 p S;simp only[b8.row]at ex wr;simp only[nI]at ch;by_cases h1:k<1
 ·simp(disch:=first|omega|(simp only[ai];omega)) only[Ji,b8.row,dT h1,aj,↓eA,eB,aq,seval];exact⟨_,S,hn.self,.bX rfl,ah _,_,rfl,fun h=>by omega,rfl⟩
 by_cases h2:14<k
 ·simp(disch:=first|omega|(simp only[ai];omega)) only[Ji,b8.row,dF h1,dT h2,aj,↓eA,eB,aq,seval];exact⟨_,S,hn.self,.bX rfl,ah _,_,rfl,fun h=>by omega,rfl⟩
 simp(disch:=first|omega|(simp only[ai];omega)) only[Ji,b8.row,dF h1,dF h2,aj,↓eA,eB,aq,seval];refine(ex S).mono ?_;rintro _ S2 ⟨z,rfl,cO⟩;rw[cO];clear cO S2;cases z
 case true=>
  simp(disch:=first|omega|(simp only[ai];omega)) only[aj,↓eA,eB,aq,seval];exact⟨_,S,hn.self,.bX rfl,ah _,_,rfl,fun h=>by omega,rfl⟩
 simp(disch:=first|omega|(simp only[ai];omega)) only[aj,↓eA,eB,aq,seval];refine(wr _).mono ?_;rintro _ S2 ⟨z,rfl,hw,cO⟩;rw[cO];clear cO S2;cases z
 case true=>
  simp(disch:=first|omega|(simp only[ai];omega)) only[aj,↓eA,eB,aq,seval];exact⟨_,S,hn.self,.bX rfl,ah _,_,rfl,fun h=>by omega,rfl⟩
 have hg:1≤k∧k≤14∧(k=4→l.length=1):=⟨by omega,by omega,hw rfl⟩;simp(disch:=first|omega|(simp only[ai];omega)) only[aj,↓eA,eB,aq,seval];refine(VS k _).then ?_
 generalize TA k=z3;cases z3
 case true=>
  simp(disch:=first|omega|(simp only[ai];omega)) only[aj,↓eA,eB,aq,seval];refine(ch _).then ?_
  simp(disch:=first|omega|(simp only[ai];omega)) only[aj,↓eA,eB,aq,seval];exact⟨_,S,hn.self,.bX rfl,ah _,_,rfl,fun h=>hg,rfl⟩
 simp(disch:=first|omega|(simp only[ai];omega)) only[aj,↓eA,eB,aq,seval];refine(W7 k _).then ?_
 generalize U6 k=z4;cases z4<;>cases ht:decide ((tx.length:Int)=0)<;>simp(disch:=first|omega|(simp only[ai];omega)) only[ht,aj,↓eA,eB,aq,seval];all_goals try exact⟨_,S,hn.self,.bX rfl,ah _,_,rfl,fun h=>by omega,rfl⟩
 all_goals
  refine cH (ι:=Nat) (fun i=>[(1,.bK (b8.mk k l a b p tx).row),(3,.int .i64 (i:Nat))]) (fun _=>S) (fun i=>i≤tx.length) (fun i=>tx.length-i) 0 (az _) ?_ rfl ?_
  ·simp only[b8.row,↓eA,eB,aq,seval];try rfl
  intro i hi;cases hc:tx[i]? with
  |none=>
   have eh:tx.length≤i:=List.getElem?_eq_none_iff.1 hc;have aR:¬((i:Int)<tx.length):=by omega
   simp(disch:=first|omega|(simp only[ai];omega)) only[dF aR,b8.row,aj,↓eA,eB,aq,seval];exact⟨_,S,hn.self,.bX rfl,ah _,_,rfl,fun h=>hg,rfl⟩
  |some y=>
   have cK:=(List.getElem?_eq_some_iff.1 hc).1;have aR:(i:Int)<tx.length:=by omega
   have aaN:(i:Int)≤(tx.length:Nat):=by omega
   have cN:(i:Int)+1=((i+1:Nat):Int):=by omega
   have hh:=fun S=>q9 (tx.take i) y S;simp only[c8]at hh;simp(disch:=first|omega|(simp only[ai];omega)) only[dT aR,hc,b8.row,eW,aj,↓eA,eB,aq,seval];refine(PO k y S).mono ?_;rintro _ S2 ⟨z,rfl,cO⟩;rw[cO];clear cO S2;cases z
   case false=>
    simp(disch:=first|omega|(simp only[ai];omega)) only[aj,↓eA,eB,aq,seval];exact⟨_,S,hn.self,.bX rfl,ah _,_,rfl,fun h=>by omega,rfl⟩
   simp(disch:=first|omega|(simp only[ai];omega)) only[aK aaN,hc,eW,aj,↓eA,eB,aq,seval];refine(q9 (tx.take i) y S).then ?_
   cases(tx.take i).contains y
   case true=>
    simp(disch:=first|omega|(simp only[ai];omega)) only[aj,↓eA,eB,aq,seval];exact⟨_,S,hn.self,.bX rfl,ah _,_,rfl,fun h=>by omega,rfl⟩
   simp(disch:=first|omega|(simp only[ai];omega)) only[wrap_i64,cN,aj,↓eA,eB,aq,seval];exact⟨i+1,by omega,by omega,by first|rfl|exact⟨rfl,rfl⟩⟩
theorem ZN:∀(c:b8) (S:ae),ak Tryz.prog 132 [.agg c.row] S fun v S'=>∃n:Int,v= .int .i64 n∧S'=S:=by
 refine b8.ind fun k l a b p tx ih S=>?_;refine pH (j:=1) (sz:=8) (rows:=b8.rows l) rfl (fun hm=>?_) ⟨Tryz.f132,Tryz.func132,by kernel_rfl,by kernel_rfl⟩;rw[b8.fI,aP]at hm;have Sv:=mx _ hm;refine ak.bp Tryz.func132 Xg fun hn=>?_;refine ak.fin Tryz.func132 Xg (U rfl) fun σ b_=>?_;simp(disch:=first|omega|(simp only[ai];omega)) only[Yu,b8.row,b8.fI,aj,↓eA,eB,aq,seval];refine cH (ι:=Nat×Int) (fun i=>[(1,.bK [.int .i64 k,.sl 8 (l.map b8.row),.int .i64 a,.int .i64 b,.int .i64 p.f,.int .i64 p.t,.int .i64 p.d,.sl 1 (tx.map eW)]),(3,.int .i64 i.2),(4,.int .i64 (i.1:Nat))]) (fun _=>S) (fun i=>i.1≤l.length) (fun i=>l.length-i.1) (0,1) (az _) ?_ rfl ?_
 ·simp only[↓eA,eB,aq,seval];try rfl
 rintro⟨i,n⟩ hi;simp only at hi⊢;cases hc:l[i]? with
 |none=>
  have eh:l.length≤i:=List.getElem?_eq_none_iff.1 hc;have aR:¬((i:Int)<l.length):=by omega
  simp(disch:=first|omega|(simp only[ai];omega)) only[dF aR,aj,↓eA,eB,aq,seval];exact⟨_,S,hn.self,.bX rfl,ah _,_,rfl,rfl⟩
 |some y=>
  have cK:=(List.getElem?_eq_some_iff.1 hc).1;have aR:(i:Int)<l.length:=by omega
  have cN:(i:Int)+1=((i+1:Nat):Int):=by omega
  have hy:=ih y (aB hc);obtain⟨c1,c2,c3,c4,c5,c6⟩:=y;simp only[b8.row,b8.fI]at hy;simp(disch:=first|omega|(simp only[ai];omega)) only[dT aR,hc,b8.row,b8.fI,aj,↓eA,eB,aq,seval];refine(hy _).mono ?_;rintro _ S2 ⟨m,rfl,cO⟩;rw[cO];clear cO S2;simp(disch:=first|omega|(simp only[ai];omega)) only[wrap_i64,cN,aj,↓eA,eB,aq,seval];exact⟨(i+1,_),by simp only;omega,by simp only;omega,by first|rfl|exact⟨rfl,rfl⟩|exact⟨rfl,rfl,rfl⟩⟩
theorem N5:∀(c:b8) (S:ae),ak Tryz.prog 131 [.agg c.row] S fun v S'=>∃n:Int,v= .int .i64 n∧S'=S:=by
 refine b8.ind fun k l a b p tx ih S=>?_;refine pH (j:=1) (sz:=8) (rows:=b8.rows l) rfl (fun hm=>?_) ⟨Tryz.f131,Tryz.func131,by kernel_rfl,by kernel_rfl⟩;rw[b8.fI,aP]at hm;have Sv:=mx _ hm;refine ak.bp Tryz.func131 Xf fun hn=>?_;refine ak.fin Tryz.func131 Xf (U rfl) fun σ b_=>?_;simp(disch:=first|omega|(simp only[ai];omega)) only[Yt,b8.row,b8.fI,aj,↓eA,eB,aq,seval];refine cH (ι:=Nat×Int) (fun i=>[(1,.bK [.int .i64 k,.sl 8 (l.map b8.row),.int .i64 a,.int .i64 b,.int .i64 p.f,.int .i64 p.t,.int .i64 p.d,.sl 1 (tx.map eW)]),(3,.int .i64 i.2),(4,.int .i64 (i.1:Nat))]) (fun _=>S) (fun i=>i.1≤l.length) (fun i=>l.length-i.1) (0,0) (az _) ?_ rfl ?_
 ·simp only[↓eA,eB,aq,seval];try rfl
 rintro⟨i,n⟩ hi;simp only at hi⊢;cases hc:l[i]? with
 |none=>
  have eh:l.length≤i:=List.getElem?_eq_none_iff.1 hc;have aR:¬((i:Int)<l.length):=by omega
  simp(disch:=first|omega|(simp only[ai];omega)) only[dF aR,aj,↓eA,eB,aq,seval];exact⟨_,S,hn.self,.bX rfl,ah _,_,rfl,rfl⟩
 |some y=>
  have cK:=(List.getElem?_eq_some_iff.1 hc).1;have aR:(i:Int)<l.length:=by omega
  have cN:(i:Int)+1=((i+1:Nat):Int):=by omega
  have hy:=ih y (aB hc);obtain⟨c1,c2,c3,c4,c5,c6⟩:=y;simp only[b8.row,b8.fI]at hy;simp(disch:=first|omega|(simp only[ai];omega)) only[dT aR,hc,b8.row,b8.fI,aj,↓eA,eB,aq,seval];refine(hy _).mono ?_;rintro _ S2 ⟨m,rfl,cO⟩;rw[cO];clear cO S2;simp(disch:=first|omega|(simp only[ai];omega)) only[wrap_i64,cN,aj,↓eA,eB,aq,seval];exact⟨(i+1,_),by simp only;omega,by simp only;omega,by first|rfl|exact⟨rfl,rfl⟩|exact⟨rfl,rfl,rfl⟩⟩
theorem TC:∀(c:b8) (S:ae),ak Tryz.prog 133 [.agg c.row] S fun v S'=>∃e:Int,v= .int .i64 e∧(e=0→c.right)∧S'=S:=by
 refine b8.ind fun k l a b p tx ih S=>?_;refine pH (j:=1) (sz:=8) (rows:=b8.rows l) rfl (fun hm=>?_) ⟨Tryz.f133,Tryz.func133,by kernel_rfl,by kernel_rfl⟩;rw[b8.fI,aP]at hm;have Sv:=mx _ hm;refine ak.bp Tryz.func133 Xe fun hn=>?_;refine ak.fin Tryz.func133 Xe (U rfl) fun σ b_=>?_;have pt:=fun S=>aaa k l a b p tx S;simp only[b8.row,b8.fI]at pt;simp(disch:=first|omega|(simp only[ai];omega)) only[Ys,b8.row,b8.fI,aj,↓eA,eB,aq,seval];refine(pt _).mono ?_;rintro _ S2 ⟨e,rfl,he,cO⟩;rw[cO];clear cO S2;by_cases h0:e=0
 case neg=>
  simp(disch:=first|omega|(simp only[ai];omega)) only[dF h0,aj,↓eA,eB,aq,seval];exact⟨_,S,hn.self,.bX rfl,ah _,_,rfl,fun h=>absurd h h0,rfl⟩
 obtain⟨g1,g2,g3⟩:=he h0;simp(disch:=first|omega|(simp only[ai];omega)) only[dT h0,aj,↓eA,eB,aq,seval];refine cH (ι:=Nat) (fun i=>[(1,.bK [.int .i64 k,.sl 8 (l.map b8.row),.int .i64 a,.int .i64 b,.int .i64 p.f,.int .i64 p.t,.int .i64 p.d,.sl 1 (tx.map eW)]),(4,.int .i64 (i:Nat))]) (fun _=>S) (fun i=>i≤l.length∧∀c∈l.take i,c.right) (fun i=>l.length-i) 0 ⟨az _,fun c hc=>by simp at hc⟩ ?_ rfl ?_
 ·simp only[↓eA,eB,aq,seval];try rfl
 rintro i ⟨hi,hr⟩;cases hc:l[i]? with
 |none=>
  have eh:l.length≤i:=List.getElem?_eq_none_iff.1 hc;have aR:¬((i:Int)<l.length):=by omega
  rw[bh eh]at hr;simp(disch:=first|omega|(simp only[ai];omega)) only[dF aR,aj,↓eA,eB,aq,seval];exact⟨_,S,hn.self,.bX rfl,ah _,_,rfl,fun _=>⟨g1,g2,g3,(b8.nG l).2 hr⟩,rfl⟩
 |some y=>
  have cK:=(List.getElem?_eq_some_iff.1 hc).1;have aR:(i:Int)<l.length:=by omega
  have cN:(i:Int)+1=((i+1:Nat):Int):=by omega
  have hy:=ih y (aB hc);have dq:∀c∈l.take (i+1),c∈l.take i∨c=y:=fun c FA=>by
   rw[gy hc]at FA;rcases List.mem_append.1 FA with h|h
   ·exact .inl h
   ·exact .inr (List.mem_singleton.1 h)
  generalize hyr:y.right=yr at hy;obtain⟨c1,c2,c3,c4,c5,c6⟩:=y;simp only[b8.row,b8.fI]at hy;simp(disch:=first|omega|(simp only[ai];omega)) only[dT aR,hc,b8.row,b8.fI,aj,↓eA,eB,aq,seval];refine(hy _).mono ?_;rintro _ S2 ⟨m,rfl,pW,cO⟩;rw[cO];clear cO S2;by_cases m0:m=0
  ·simp(disch:=first|omega|(simp only[ai];omega)) only[dT m0,wrap_i64,cN,aj,↓eA,eB,aq,seval];refine⟨i+1,⟨by omega,fun c FA=>?_⟩,by omega,by first|rfl|exact⟨rfl,rfl⟩|exact⟨rfl,rfl,rfl⟩⟩;rcases dq c FA with h|rfl
   ·exact hr c h
   ·rw[hyr];exact pW m0
  ·simp(disch:=first|omega|(simp only[ai];omega)) only[dF m0,aj,↓eA,eB,aq,seval];exact⟨_,S,hn.self,.bX rfl,ah _,_,rfl,fun h=>absurd h m0,rfl⟩
theorem KZ(c:b8)(S:ae):ak Tryz.prog 84 [.agg c.row] S fun v S'=>∃e:Int,v= .int .i64 e∧(e=0→c.right)∧S'=S:=by
 refine ak.bp Tryz.func84 Xh fun hn=>?_;refine ak.fin Tryz.func84 Xh (U rfl) fun σ b_=>?_;have h1:=N5 c;have h2:=ZN c;have h3:=TC c;generalize hyr:c.right=yr at h3⊢;obtain⟨k,l,a,b,p,tx⟩:=c;simp only[b8.row]at h1 h2 h3;simp(disch:=first|omega|(simp only[ai];omega)) only[Yv,b8.row,aj,↓eA,eB,aq,seval];refine(h1 _).mono ?_;rintro _ S2 ⟨n,rfl,cO⟩;rw[cO];clear cO S2;by_cases n1:8<n
 ·simp(disch:=first|omega|(simp only[ai];omega)) only[dT n1,aj,↓eA,eB,aq,seval];exact⟨_,S,hn.self,.bX rfl,ah _,_,rfl,fun h=>by omega,rfl⟩
 simp(disch:=first|omega|(simp only[ai];omega)) only[dF n1,aj,↓eA,eB,aq,seval];refine(h2 _).mono ?_;rintro _ S2 ⟨m,rfl,cO⟩;rw[cO];clear cO S2;by_cases m1:128<m
 ·simp(disch:=first|omega|(simp only[ai];omega)) only[dT m1,aj,↓eA,eB,aq,seval];exact⟨_,S,hn.self,.bX rfl,ah _,_,rfl,fun h=>by omega,rfl⟩
 simp(disch:=first|omega|(simp only[ai];omega)) only[dF m1,aj,↓eA,eB,aq,seval];refine(h3 _).mono ?_;rintro _ S2 ⟨e,rfl,he,cO⟩;rw[cO];clear cO S2;simp(disch:=first|omega|(simp only[ai];omega)) only[aj,↓eA,eB,aq,seval];exact⟨_,S,hn.self,.bX rfl,ah _,_,rfl,he,rfl⟩
end Go.Proofs.YtfgkgmmnldocaaaGreatDoor
