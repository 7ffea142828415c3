/- Cnf -/
import Derived.Test.YtfgkgmmnldocaaaGreatDoorZCnd
set_option linter.unusedSectionVars false
set_option linter.unusedSimpArgs false
set_option linter.unusedVariables false
set_option maxHeartbeats 4000000
set_option maxRecDepth 10000
namespace Go.Proofs.YtfgkgmmnldocaaaGreatDoor
open Go Go.AL
variable[Go.AL.Mode][Go.AL.bR]
theorem U5(s:bS)(S:ae):ak Tryz.prog 80 [.str s] S fun r S'=>r= .bool (vO s 1)∧S'=S:=by
 refine qB (fun hs=>?_) ⟨_,Tryz.func80,by kernel_rfl,by kernel_rfl⟩;refine ak.bW Tryz.func80 af8 (U rfl) fun σ b_=>?_;have hl:=sk s 1 (by unfold maxLen at hs;omega) S;simp(disch:=first|omega|(simp only[ai];omega)) only[Zp,aj,↓eA,eB,aq,seval];refine hl.then ?_
 simp(disch:=first|omega|(simp only[ai];omega)) only[aj,↓eA,eB,aq,seval]
theorem T4(p:fO)(hp:p.1.length≤1000)(c:bS)(S:ae):ak Tryz.prog 79 [dV p,.str c] S fun v S'=>∃b,v= .bool b∧S'=S:=by
 refine ak.bW Tryz.func79 afy (U rfl) fun σ b_=>?_;simp(disch:=first|omega|(simp only[ai];omega)) only[YF,dV,aj,↓eA,eB,aq,seval];refine cH (ι:=Nat) (fun i=>[(1,.str c),(2,.bK [.sl 5 (p.1.map dG),.sl 3 (p.2.map cZ)]),(5,.int .i64 (i:Nat))]) (fun _=>S) (fun i=>i≤p.1.length) (fun i=>p.1.length-i) 0 (az _) ?_ rfl ?_
 ·simp only[↓eA,eB,aq,seval];try rfl
 intro i hi;cases hc:p.1[i]? with
 |none=>
  have eh:=List.getElem?_eq_none_iff.1 hc;have aR:¬((i:Int)<p.1.length):=by omega
  simp(disch:=first|omega|(simp only[ai];omega)) only[dF aR,aj,↓eA,eB,aq,seval];exact⟨_,rfl⟩
 |some a=>
  have cK:=(List.getElem?_eq_some_iff.1 hc).1;have aR:(i:Int)<p.1.length:=by omega
  have om:(i:Int)+1=((i+1:Nat):Int):=by omega
  cases q:decide (a.iH=c)<;>simp(disch:=first|omega|(simp only[ai];omega)) only[dT aR,hc,q,dG,wrap_i64,om,aj,↓eA,eB,aq,seval]
  ·exact⟨i+1,by omega,by omega,by first|rfl|exact⟨rfl,rfl⟩|exact⟨rfl,rfl,rfl⟩⟩
  ·exact⟨_,rfl⟩
def IR(r:List V):Prop:=∃e:Int,r=[.int .i64 e]
theorem IR.bX{r:List V}(h:IR r):r.length=1∧V.bQ r=true:=by
 obtain⟨e,rfl⟩:=h;exact⟨rfl,rfl⟩
def kC(f:Fr):Prop:=0≤f.am∧f.am≤1099511627776
def GK(S:ae)(m:Nat)(P:Prop)(c3 c4 c5:V)(E:Env)(S':ae):Prop:=∃rows,LG S 40 1 rows (E.get 7) S'∧E.get 3=c3∧E.get 4=c4∧E.get 5=c5∧rows.length≤m∧(∀r∈rows,IR r)∧(rows=[]→P)
theorem Pv(p:fO)(hp:p.1.length≤1000)(t:gk)(tx:List (List V))(h1:t.rules.length≤1000)(h2:t.cS.length≤1000)(f:Fr)(S:ae):
 ak Tryz.prog 41 [dV p,.agg (b9 t tx),.agg (fK f)] S fun v S'=>∃rows:List (List V),v= .sl 1 rows∧(rows.length≤6∧(∀x∈rows,IR x)∧(rows=[]→kC f))∧S'=S:=by
 refine ak.bp Tryz.func41 P1 fun hn=>?_;refine(ak.fin Tryz.func41 P1 (R:=fun v S'=>(∃rows:List (List V),v= .sl 1 rows∧(rows.length≤6∧(∀x∈rows,IR x)∧(rows=[]→kC f)))∧S'=S) (U rfl) fun σ b_=>?_).mono fun r S' ⟨⟨L,h1,h2⟩,h3⟩=>⟨L,h1,h2,h3⟩;have kn:=fun c S=>T4 p hp c S;have ru:=fun n S=>uv t tx (by omega) n S;have ro:=fun n S=>zS t tx (by omega) n S;simp only[dV,b9,fK]at kn ru ro⊢;simp only[Q3];obtain⟨c3,nX⟩:∃c3,c3=V.bK [.sl 5 (p.1.map dG),.sl 3 (p.2.map cZ)]:=⟨_,rfl⟩;obtain⟨c4,mN⟩:∃c4,c4=V.bK [.sl 9 (t.bE.map fK),.sl 15 (t.rules.map cx),.sl 3 (t.cS.map eP),.sl 7 tx]:=⟨_,rfl⟩;obtain⟨c5,jm⟩:∃c5,c5=V.bK [.str f.c,.str f.f,.str f.t,.str f.bas,.str f.cl,.bool f.BS,.int .i64 f.am,.int .i64 f.iv,.int .i64 f.gu]:=⟨_,rfl⟩;refine cm (fun E S'=>E.get 3=c3∧E.get 4=c4∧E.get 5=c5∧S'=S) ?_ ?_
 ·intro K hK;simp(disch:=first|omega|(simp only[ai];omega)) only[aj,↓eA,eB,aq,seval];exact hK _ _ ⟨nX.symm,mN.symm,jm.symm,rfl⟩
 rintro E S2 ⟨e3,e4,e5,cO⟩;rw[cO];clear cO S2;refine cm (GK S 0 True c3 c4 c5) ?_ ?_
 ·intro K hK;simp(disch:=first|omega|(simp only[ai];omega)) only[aj,↓eA,eB,aq,seval];exact hK _ _ ⟨[],LG.TM,e3,e4,e5,ah _,(fun _ h=>by cases h),fun _=>trivial⟩
 clear e3 e4 e5;rintro E S1 ⟨rows,hg,e3,e4,e5,hl,hf,hP⟩;refine cm (GK S 1 True c3 c4 c5) ?_ ?_
 ·intro K hK;simp(disch:=first|omega|(simp only[ai];omega)) only[e3,e4,e5,nX,jm,aj,↓eA,eB,aq,seval];refine((sT f.c S1).mono fun r S' ⟨h1,h2⟩=>(⟨_,h1,h2⟩:∃z,r=V.bool z∧S'=S1)).mono ?_;rintro _ S2 ⟨z1,rfl,cO⟩;rw[cO];clear cO S2;cases z1
  case false=>
   simp(disch:=first|omega|(simp only[ai];omega)) only[aj,↓eA,eB,aq,seval];first
    |exact hK _ _ ⟨rows,hg,e3,e4,e5,by omega,hf,hP⟩
    |(refine hg.app (by simp;omega) fun v' S2 h2=>?_
      simp(disch:=first|omega|(simp only[ai];omega)) only[aj,↓eA,eB,aq,seval];exact hK _ _ ⟨_,h2,e3,e4,e5,by simp only[aH,aN];omega,eV hf ⟨_,rfl⟩,eE⟩)
  simp(disch:=first|omega|(simp only[ai];omega)) only[e3,e4,e5,nX,jm,aj,↓eA,eB,aq,seval];refine((qG f.bas 1 8 S1).mono fun r S' ⟨h1,h2⟩=>(⟨_,h1,h2⟩:∃z,r=V.bool z∧S'=S1)).mono ?_;rintro _ S2 ⟨z2,rfl,cO⟩;rw[cO];clear cO S2;cases z2<;>simp(disch:=first|omega|(simp only[ai];omega)) only[aj,↓eA,eB,aq,seval];all_goals
   first
    |exact hK _ _ ⟨rows,hg,e3,e4,e5,by omega,hf,hP⟩
    |(refine hg.app (by simp;omega) fun v' S2 h2=>?_
      simp(disch:=first|omega|(simp only[ai];omega)) only[aj,↓eA,eB,aq,seval];exact hK _ _ ⟨_,h2,e3,e4,e5,by simp only[aH,aN];omega,eV hf ⟨_,rfl⟩,eE⟩)
 clear hg hl hf hP e3 e4 e5;rintro E S1 ⟨rows,hg,e3,e4,e5,hl,hf,hP⟩;refine cm (GK S 2 True c3 c4 c5) ?_ ?_
 ·intro K hK;simp(disch:=first|omega|(simp only[ai];omega)) only[e3,e4,e5,nX,jm,aj,↓eA,eB,aq,seval];refine(kn f.f _).mono ?_;rintro _ S2 ⟨z1,rfl,cO⟩;rw[cO];clear cO S2;cases z1
  case false=>
   simp(disch:=first|omega|(simp only[ai];omega)) only[aj,↓eA,eB,aq,seval];first
    |exact hK _ _ ⟨rows,hg,e3,e4,e5,by omega,hf,hP⟩
    |(refine hg.app (by simp;omega) fun v' S2 h2=>?_
      simp(disch:=first|omega|(simp only[ai];omega)) only[aj,↓eA,eB,aq,seval];exact hK _ _ ⟨_,h2,e3,e4,e5,by simp only[aH,aN];omega,eV hf ⟨_,rfl⟩,eE⟩)
  simp(disch:=first|omega|(simp only[ai];omega)) only[e3,e4,e5,nX,jm,aj,↓eA,eB,aq,seval];refine(kn f.t _).mono ?_;rintro _ S2 ⟨z2,rfl,cO⟩;rw[cO];clear cO S2;cases z2<;>simp(disch:=first|omega|(simp only[ai];omega)) only[aj,↓eA,eB,aq,seval];all_goals
   first
    |exact hK _ _ ⟨rows,hg,e3,e4,e5,by omega,hf,hP⟩
    |(refine hg.app (by simp;omega) fun v' S2 h2=>?_
      simp(disch:=first|omega|(simp only[ai];omega)) only[aj,↓eA,eB,aq,seval];exact hK _ _ ⟨_,h2,e3,e4,e5,by simp only[aH,aN];omega,eV hf ⟨_,rfl⟩,eE⟩)
 clear hg hl hf hP e3 e4 e5;rintro E S1 ⟨rows,hg,e3,e4,e5,hl,hf,hP⟩;refine cm (GK S 3 (kC f) c3 c4 c5) ?_ ?_
 ·intro K hK;cases q1:decide (f.f=f.t)<;>cases q2:decide (f.am<0)<;>cases q3:decide (1099511627776<f.am)<;>simp(disch:=first|omega|(simp only[ai];omega)) only[e3,e4,e5,jm,q1,q2,q3,aj,↓eA,eB,aq,seval];all_goals
   first
    |exact hK _ _ ⟨rows,hg,e3,e4,e5,by omega,hf,fun _=>⟨by simpa using q2,by simpa using q3⟩⟩
    |(refine hg.app (by simp;omega) fun v' S2 h2=>?_
      simp(disch:=first|omega|(simp only[ai];omega)) only[aj,↓eA,eB,aq,seval];exact hK _ _ ⟨_,h2,e3,e4,e5,by simp only[aH,aN];omega,eV hf ⟨_,rfl⟩,eE⟩)
 clear hg hl hf hP e3 e4 e5;rintro E S1 ⟨rows,hg,e3,e4,e5,hl,hf,hP⟩;refine cm (GK S 4 (kC f) c3 c4 c5) ?_ ?_
 ·intro K hK;simp(disch:=first|omega|(simp only[ai];omega)) only[e3,e4,e5,jm,aj,↓eA,eB,aq,seval];refine(U5 f.cl S1).then ?_
  cases vO f.cl 1<;>simp(disch:=first|omega|(simp only[ai];omega)) only[aj,↓eA,eB,aq,seval];all_goals
   first
    |exact hK _ _ ⟨rows,hg,e3,e4,e5,by omega,hf,hP⟩
    |(refine hg.app (by simp;omega) fun v' S2 h2=>?_
      simp(disch:=first|omega|(simp only[ai];omega)) only[aj,↓eA,eB,aq,seval];exact hK _ _ ⟨_,h2,e3,e4,e5,by simp only[aH,aN];omega,eV hf ⟨_,rfl⟩,eE⟩)
 clear hg hl hf hP e3 e4 e5;rintro E S1 ⟨rows,hg,e3,e4,e5,hl,hf,hP⟩;refine cm (fun E S'=>GK S 4 (kC f) c3 c4 c5 E S'∧∃b,E.get 9= .bool b) ?_ ?_
 ·intro K hK;have rl:=ru f.iv S1;simp only[Ae]at rl;generalize (fm t f.iv).isSome=ok at rl;generalize (fm t f.iv).getD j5=rr at rl;obtain⟨n0,⟨c1,c2,c3',c4',c5',c6⟩,cb,mn,mx,ch,rf,jb⟩:=rr;simp only[cx,b8.row,aS,a8]at rl;simp(disch:=first|omega|(simp only[ai];omega)) only[e3,e4,e5,mN,jm,aj,↓eA,eB,aq,seval];refine rl.then ?_
  simp(disch:=first|omega|(simp only[ai];omega)) only[aj,↓eA,eB,aq,seval];exact hK _ _ ⟨⟨rows,hg.add _,e3,e4,e5,hl,hf,hP⟩,_,rfl⟩
 clear hg hl hf hP e3 e4 e5;rintro E S1 ⟨⟨rows,hg,e3,e4,e5,hl,hf,hP⟩,ok,e9⟩;refine cm (GK S 5 (kC f) c3 c4 c5) ?_ ?_
 ·intro K hK;cases ok<;>simp(disch:=first|omega|(simp only[ai];omega)) only[e9,aj,↓eA,eB,aq,seval];all_goals
   first
    |exact hK _ _ ⟨rows,hg,e3,e4,e5,by omega,hf,hP⟩
    |(refine hg.app (by simp;omega) fun v' S2 h2=>?_
      simp(disch:=first|omega|(simp only[ai];omega)) only[aj,↓eA,eB,aq,seval];exact hK _ _ ⟨_,h2,e3,e4,e5,by simp only[aH,aN];omega,eV hf ⟨_,rfl⟩,eE⟩)
 clear e9;clear hg hl hf hP e3 e4 e5;rintro E S1 ⟨rows,hg,e3,e4,e5,hl,hf,hP⟩;refine cm (fun E S'=>GK S 5 (kC f) c3 c4 c5 E S'∧∃b,E.get 9= .bool b) ?_ ?_
 ·intro K hK;have rl:=ro f.gu S1;simp only[E5]at rl;simp(disch:=first|omega|(simp only[ai];omega)) only[e3,e4,e5,mN,jm,aj,↓eA,eB,aq,seval];refine rl.then ?_
  simp(disch:=first|omega|(simp only[ai];omega)) only[aj,↓eA,eB,aq,seval];exact hK _ _ ⟨⟨rows,hg,e3,e4,e5,hl,hf,hP⟩,_,rfl⟩
 clear hg hl hf hP e3 e4 e5;rintro E S1 ⟨⟨rows,hg,e3,e4,e5,hl,hf,hP⟩,ok,e9⟩;refine cm (GK S 6 (kC f) c3 c4 c5) ?_ ?_
 ·intro K hK;by_cases h0:f.gu=0
  ·simp(disch:=first|omega|(simp only[ai];omega)) only[e5,jm,e9,dT h0,aj,↓eA,eB,aq,seval];first
    |exact hK _ _ ⟨rows,hg,e3,e4,e5,by omega,hf,hP⟩
    |(refine hg.app (by simp;omega) fun v' S2 h2=>?_
      simp(disch:=first|omega|(simp only[ai];omega)) only[aj,↓eA,eB,aq,seval];exact hK _ _ ⟨_,h2,e3,e4,e5,by simp only[aH,aN];omega,eV hf ⟨_,rfl⟩,eE⟩)
  cases ok<;>simp(disch:=first|omega|(simp only[ai];omega)) only[e5,jm,e9,dF h0,aj,↓eA,eB,aq,seval];all_goals
   first
    |exact hK _ _ ⟨rows,hg,e3,e4,e5,by omega,hf,hP⟩
    |(refine hg.app (by simp;omega) fun v' S2 h2=>?_
      simp(disch:=first|omega|(simp only[ai];omega)) only[aj,↓eA,eB,aq,seval];exact hK _ _ ⟨_,h2,e3,e4,e5,by simp only[aH,aN];omega,eV hf ⟨_,rfl⟩,eE⟩)
 clear e9;clear hg hl hf hP e3 e4 e5;rintro E S1 ⟨rows,hg,e3,e4,e5,hl,hf,hP⟩;simp(disch:=first|omega|(simp only[ai];omega)) only[aj,↓eA,eB,aq,seval];have sD:=hg.fin hn fun r hr=>(hf r hr).bX;exact⟨_,S,sD.1,sD.2,ah _,⟨_,rfl,hl,hf,hP⟩,rfl⟩
def GT(S:ae)(m:Nat)(c2 c3:V)(P:Prop)(E:Env)(S':ae):Prop:=∃rows,LG S 118 2 rows (E.get 5) S'∧E.get 2=c2∧E.get 3=c3∧rows.length≤m∧(∀r∈rows,FI r)∧(rows=[]→P)
structure TSm(t:gk):Prop where
 bE:t.bE.length≤1048576
 rules:t.rules.length≤1048576
 cS:t.cS.length≤1048576
 jb:∀r∈t.rules,r.comb.length≤1048576∧r.jb.length≤1048576
 gO:∀r∈t.cS,r.gO.length≤1048576
def zL:bS:=[102,97,114,101,32]
def zJ:bS:=[114,117,108,101,32]
def zK:bS:=[114,111,117,116,105,110,103,32]
theorem KW(p:fO)(hp:p.1.length≤1000)(t:gk)(tx:List (List V))(ht:TSm t)(h0:t.bE.length≤1000)(h1:t.rules.length≤10)(h2:t.cS.length≤10)(S:ae):
 ak Tryz.prog 14 [dV p,.agg (b9 t tx)] S fun v S'=>∃rows:List (List V),v= .sl 2 rows∧(rows=[]→(∀f∈t.bE,kC f)∧∀r∈t.rules,ka r)∧S'=S:=by
 refine ak.bp Tryz.func14 Xk fun hn=>?_;refine(ak.fin Tryz.func14 Xk (R:=fun v S'=>(∃rows:List (List V),v= .sl 2 rows∧(rows=[]→(∀f∈t.bE,kC f)∧∀r∈t.rules,ka r))∧S'=S) (U rfl) fun σ b_=>?_).mono fun r S' ⟨⟨L,h1,h2⟩,h3⟩=>⟨L,h1,h2,h3⟩;have fa:=fun f S=>Pv p hp t tx (by omega) (by omega) f S;simp only[dV,b9]at fa⊢;simp only[YG];obtain⟨c2,jn⟩:∃c2,c2=V.bK [.sl 5 (p.1.map dG),.sl 3 (p.2.map cZ)]:=⟨_,rfl⟩;obtain⟨c3,nX⟩:∃c3,c3=V.bK [.sl 9 (t.bE.map fK),.sl 15 (t.rules.map cx),.sl 3 (t.cS.map eP),.sl 7 tx]:=⟨_,rfl⟩;refine cm (fun E S'=>E.get 2=c2∧E.get 3=c3∧S'=S) ?_ ?_
 ·intro K hK;simp(disch:=first|omega|(simp only[ai];omega)) only[aj,↓eA,eB,aq,seval];exact hK _ _ ⟨jn.symm,nX.symm,rfl⟩
 rintro E S2 ⟨e2,e3,cO⟩;rw[cO];clear cO S2;refine cm (GT S 0 c2 c3 True) ?_ ?_
 ·intro K hK;simp(disch:=first|omega|(simp only[ai];omega)) only[aj,↓eA,eB,aq,seval];exact hK _ _ ⟨[],LG.TM,e2,e3,ah _,(fun _ h=>by cases h),fun _=>trivial⟩
 clear e2 e3;rintro E S1 ⟨rows,hg,e2,e3,hl,hf,hP⟩;refine cm (GT S 1 c2 c3 True) ?_ ?_
 ·intro K hK;cases q1:decide ((512:Int)<(t.bE.length:Nat))<;>simp(disch:=first|omega|(simp only[ai];omega)) only[e3,nX,q1,aj,↓eA,eB,aq,seval];all_goals
   first
    |exact hK _ _ ⟨rows,hg,e2,e3,by omega,hf,hP⟩
    |(refine hg.app (by simp;omega) fun v' S2 h2=>?_
      simp(disch:=first|omega|(simp only[ai];omega)) only[aj,↓eA,eB,aq,seval];exact hK _ _ ⟨_,h2,e2,e3,by simp only[aH,aN];omega,eV hf (FI.one _ _),fun _=>trivial⟩)
 clear hg hl hf hP e2 e3;rintro E S1 ⟨rows,hg,e2,e3,hl,hf,hP⟩;clear hP;refine cm (GT S 10000 c2 c3 (∀f∈t.bE,kC f)) ?_ ?_
 ·intro K hK;simp(disch:=first|omega|(simp only[ai];omega)) only[aj,↓eA,eB,aq,seval];refine cH (ι:=Nat×List (List V)×V×ae) (fun i=>[(2,c2),(3,c3),(5,i.2.2.1),(6,.int .i64 (i.1:Nat))]) (fun i=>i.2.2.2)
   (fun i=>i.1≤t.bE.length∧LG S 118 2 i.2.1 i.2.2.1 i.2.2.2∧i.2.1.length≤1+6*i.1∧(∀r∈i.2.1,FI r)∧(i.2.1=[]→∀f∈t.bE.take i.1,kC f)) (fun i=>t.bE.length-i.1) (0,rows,E.get 5,S1) ⟨az _,hg,hl,hf,fun _ f hf=>by simp at hf⟩ ?_ rfl ?_
  ·simp only[e2,e3,↓eA,eB,aq,seval];try rfl
  clear hg hl hf e2 e3;rintro⟨i,rows,v,S1⟩ ⟨hi,hg,hl,hf,hP⟩;simp only at hi hg hl hf hP⊢;refine cm (fun E' S'=>(i:Int)<t.bE.length∧E'.get 2=c2∧E'.get 3=c3∧E'.get 5=v∧E'.get 6= .int .i64 (i:Nat)∧S'=S1) ?_ ?_
  ·intro K2 ud;by_cases aR:(i:Int)<t.bE.length
   ·simp(disch:=first|omega|(simp only[ai];omega)) only[nX,dT aR,aj,↓eA,eB,aq,seval];exact ud _ _ ⟨aR,rfl,nX.symm,rfl,rfl,rfl⟩
   ·simp(disch:=first|omega|(simp only[ai];omega)) only[nX,dF aR,aj,↓eA,eB,aq,seval];exact hK _ _ ⟨rows,hg,rfl,nX.symm,by omega,hf,by rw[bh (by omega)]at hP;exact hP⟩
  rintro E S2 ⟨aR,e2,e3,e5,e6,cO⟩;rw[cO];clear cO S2;obtain⟨f,hc⟩:∃y,t.bE[i]?=some y:=⟨_,ax (by omega)⟩;have om:(i:Int)+1=((i+1:Nat):Int):=by omega
  refine cm (fun E' S'=>GT S (7+6*i) c2 c3 (∀f∈t.bE.take (i+1),kC f) E' S'∧E'.get 6= .int .i64 (i:Nat)) ?_ ?_
  ·intro K2 ud;refine cm (fun E' S'=>∃es:List (List V),E'.get 7= .sl 1 es∧(es.length≤6∧(∀r∈es,IR r)∧(es=[]→kC f))∧E'.get 2=c2∧E'.get 3=c3∧E'.get 5=v∧E'.get 6= .int .i64 (i:Nat)∧S'=S1) ?_ ?_
   ·intro K3 tA;have fr:=fa f S1;simp only[fK]at fr;simp(disch:=first|omega|(simp only[ai];omega)) only[e2,e3,e5,e6,jn,nX,hc,fK,aj,↓eA,eB,aq,seval];refine fr.mono ?_;rintro _ S2 ⟨es,rfl,hes,cO⟩;rw[cO];clear cO S2;simp(disch:=first|omega|(simp only[ai];omega)) only[aj,↓eA,eB,aq,seval];exact tA _ _ ⟨es,rfl,hes,e2,e3,e5,e6,rfl⟩
   clear e2 e3 e5 e6;rintro E S2 ⟨es,e7,⟨hes,Uq,hea⟩,e2,e3,e5,e6,cO⟩;rw[cO];clear cO S2;obtain⟨at_,jE,C6⟩:∃at_:bS,dW .add (.str zL) (.str (jo i))=some (.str at_)∧at_.length≤40:=⟨_,nN zL i (by decide),qo zL i (by decide)⟩;simp only[zL]at jE;obtain⟨Z,hZ⟩:∃Z,Z↔rows=[]:=⟨_,Iff.rfl⟩;simp(disch:=first|omega|(simp only[ai];omega)) only[aj,↓eA,eB,aq,seval];refine cH (ι:=Nat×List (List V)×V×ae) (fun k=>[(2,c2),(3,c3),(5,k.2.2.1),(6,.int .i64 (i:Nat)),(7,.sl 1 es),(8,.int .i64 (k.1:Nat))]) (fun i=>i.2.2.2)
    (fun k=>k.1≤es.length∧LG S 118 2 k.2.1 k.2.2.1 k.2.2.2∧k.2.1.length≤1+6*i+k.1∧(∀r∈k.2.1,FI r)∧(k.2.1=[]→Z∧k.1=0)) (fun k=>es.length-k.1) (0,rows,v,S1) ⟨az _,hg,hl,hf,fun h=>⟨hZ.2 h,rfl⟩⟩ ?_ rfl ?_
   ·simp only[e2,e3,e5,e6,e7,↓eA,eB,aq,seval];try rfl
   clear hg hl hf e2 e3 e5 e6 e7;rintro⟨k,rows,v,S1⟩ ⟨hk,hg,hl,hf,hZ2⟩;simp only at hk hg hl hf hZ2⊢;cases uH:es[k]? with
   |none=>
    have eh:=List.getElem?_eq_none_iff.1 uH;have kg:¬((k:Int)<es.length):=by omega
    simp(disch:=first|omega|(simp only[ai];omega)) only[dF kg,aj,↓eA,eB,aq,seval];exact ud _ _ ⟨⟨rows,hg,rfl,rfl,by omega,hf,fun h=>by
     obtain⟨z1,z2⟩:=hZ2 h;have aiY:es=[]:=List.length_eq_zero_iff.1 (by omega);intro g hg;rw[gy hc]at hg;rcases List.mem_append.1 hg with hg|hg
     ·exact hP (hZ.1 z1) g hg
     ·rw[List.mem_singleton.1 hg];exact hea aiY⟩,rfl⟩
   |some x=>
    have WB:=(List.getElem?_eq_some_iff.1 uH).1;have kg:(k:Int)<es.length:=by omega
    have CZ:(k:Int)+1=((k+1:Nat):Int):=by omega
    obtain⟨e,rfl⟩:=Uq x (aB uH);simp(disch:=first|omega|(simp only[ai];omega)) only[dT kg,uH,aj,↓eA,eB,aq,seval];refine qv.intro (mQ i (by omega) _) ?_;simp(disch:=first|omega|(simp only[ai];omega)) only[jE,aj,↓eA,eB,aq,seval];refine hg.app (by simp;omega) fun v' S2 h2=>?_;simp(disch:=first|omega|(simp only[ai];omega)) only[wrap_i64,CZ,aj,↓eA,eB,aq,seval];exact⟨(k+1,_,v',S2),⟨by simp only;omega,h2,by simp only[aH,aN];omega,eV hf (FI.one _ _),eE⟩,by simp only;omega,⟨rfl,rfl⟩,rfl⟩
  clear hg hl hf hP e2 e3 e5 e6;rintro E S1 ⟨⟨rows,hg,e2,e3,hl,hf,hP⟩,e6⟩;simp(disch:=first|omega|(simp only[ai];omega)) only[e6,wrap_i64,om,aj,↓eA,eB,aq,seval];exact⟨(i+1,rows,E.get 5,S1),⟨by simp only;omega,hg,by simp only;omega,hf,hP⟩,by simp only;omega,⟨e2,e3,rfl,rfl⟩,rfl⟩
 clear hg hl hf e2 e3;rintro E S1 ⟨rows,hg,e2,e3,hl,hf,hP⟩;refine cm (GT S 300000000 c2 c3 ((∀f∈t.bE,kC f)∧∀r∈t.rules,ka r)) ?_ ?_
 ·intro K hK;simp(disch:=first|omega|(simp only[ai];omega)) only[aj,↓eA,eB,aq,seval];refine cH (ι:=Nat×List (List V)×V×ae) (fun i=>[(2,c2),(3,c3),(5,i.2.2.1),(9,.int .i64 (i.1:Nat))]) (fun i=>i.2.2.2)
   (fun i=>i.1≤t.rules.length∧LG S 118 2 i.2.1 i.2.2.1 i.2.2.2∧i.2.1.length≤10000+20000001*i.1∧(∀r∈i.2.1,FI r)∧(i.2.1=[]→(∀f∈t.bE,kC f)∧∀r∈t.rules.take i.1,ka r)) (fun i=>t.rules.length-i.1) (0,rows,E.get 5,S1) ⟨az _,hg,hl,hf,fun h=>⟨hP h,fun r hr=>by simp at hr⟩⟩ ?_ rfl ?_
  ·simp only[e2,e3,↓eA,eB,aq,seval];try rfl
  clear hg hl hf hP e2 e3;rintro⟨i,rows,v,S1⟩ ⟨hi,hg,hl,hf,hP⟩;simp only at hi hg hl hf hP⊢;refine cm (fun E' S'=>(i:Int)<t.rules.length∧E'.get 2=c2∧E'.get 3=c3∧E'.get 5=v∧E'.get 9= .int .i64 (i:Nat)∧S'=S1) ?_ ?_
  ·intro K2 ud;by_cases aR:(i:Int)<t.rules.length
   ·simp(disch:=first|omega|(simp only[ai];omega)) only[nX,dT aR,aj,↓eA,eB,aq,seval];exact ud _ _ ⟨aR,rfl,nX.symm,rfl,rfl,rfl⟩
   ·simp(disch:=first|omega|(simp only[ai];omega)) only[nX,dF aR,aj,↓eA,eB,aq,seval];exact hK _ _ ⟨rows,hg,rfl,nX.symm,by omega,hf,by rw[bh (by omega)]at hP;exact hP⟩
  rintro E S2 ⟨aR,e2,e3,e5,ei,cO⟩;rw[cO];clear cO S2;obtain⟨y,hc⟩:∃y,t.rules[i]?=some y:=⟨_,ax (by omega)⟩;have sB:=aB hc;have om:(i:Int)+1=((i+1:Nat):Int):=by omega
  obtain⟨at_,jE,C6⟩:∃at_:bS,dW .add (.str zJ) (.str (jo i))=some (.str at_)∧at_.length≤40:=⟨_,nN zJ i (by decide),qo zJ i (by decide)⟩;simp only[zJ]at jE;refine cm (fun E' S'=>GT S (10000+20000001*(i+1)) c2 c3 ((∀f∈t.bE,kC f)∧∀r∈t.rules.take (i+1),ka r) E' S'∧E'.get 9= .int .i64 (i:Nat)) ?_ ?_
  ·intro K2 ud;refine cm (fun E' S'=>E'.get 10= .str at_∧E'.get 11= .bool false∧E'.get 2=c2∧E'.get 3=c3∧E'.get 5=v∧E'.get 9= .int .i64 (i:Nat)∧S'=S1) ?_ ?_
   ·intro K3 tA;simp(disch:=first|omega|(simp only[ai];omega)) only[ei,aj,↓eA,eB,aq,seval];refine(mQ i (by omega) _).then ?_
    simp(disch:=first|omega|(simp only[ai];omega)) only[jE,aj,↓eA,eB,aq,seval];exact tA _ _ ⟨rfl,rfl,e2,e3,e5,ei,rfl⟩
   clear e2 e3 e5 ei;rintro E S2 ⟨ea,et,e2,e3,e5,ei,cO⟩;rw[cO];clear cO S2;refine cm (fun E' S'=>(∃tw,E'.get 11= .bool tw)∧E'.get 10= .str at_∧E'.get 2=c2∧E'.get 3=c3∧E'.get 5=v∧E'.get 9= .int .i64 (i:Nat)∧S'=S1) ?_ ?_
   ·intro K3 tA;simp(disch:=first|omega|(simp only[ai];omega)) only[aj,↓eA,eB,aq,seval];refine cH (ι:=Nat×Bool) (fun k=>[(2,c2),(3,c3),(5,v),(9,.int .i64 (i:Nat)),(10,.str at_),(11,.bool k.2),(12,.int .i64 (k.1:Nat))]) (fun _=>S1)
     (fun k=>k.1≤i) (fun k=>i-k.1) (0,false) (az _) ?_ rfl ?_
    ·simp only[e2,e3,e5,ei,ea,et,↓eA,eB,aq,seval];try rfl
    clear ea et e2 e3 e5 ei;rintro⟨k,tw⟩ hk;simp only at hk⊢;by_cases Sw:k<i
    ·have kg:(k:Int)<i:=by omega
     have CZ:(k:Int)+1=((k+1:Nat):Int):=by omega
     obtain⟨z,hz⟩:∃z,t.rules[k]?=some z:=⟨_,ax (by omega)⟩;have ql:∀b,decide (z.n=y.n)=b→∃b,decide (z.n=y.n)=b:=fun b h=>⟨b,h⟩;cases tw<;>simp(disch:=first|omega|(simp only[ai];omega)) only[dT kg,hc,hz,nX,cx,wrap_i64,CZ,aj,↓eA,eB,aq,seval];all_goals first|exact⟨(k+1,_),by simp only;omega,by simp only;omega,⟨rfl,rfl⟩,rfl⟩|exact⟨(k+1,_),by simp only;omega,by simp only;omega,⟨rfl,rfl,rfl,rfl,rfl,rfl,rfl⟩,rfl⟩|exact⟨(k+1,_),by simp only;omega,by simp only;omega,rfl,rfl⟩|exact⟨(k+1,_),by simp only;omega,by simp only;omega,⟨nX.symm,rfl⟩,rfl⟩
    ·have kg:¬(k:Int)<i:=by omega
     simp(disch:=first|omega|(simp only[ai];omega)) only[dF kg,aj,↓eA,eB,aq,seval];exact tA _ _ ⟨⟨_,rfl⟩,rfl,rfl,rfl,rfl,rfl,rfl⟩
   clear ea et e2 e3 e5 ei;rintro E S2 ⟨⟨tw,et⟩,ea,e2,e3,e5,ei,cO⟩;rw[cO];clear cO S2;refine cm (fun E' S'=>GT S (10000+20000001*i+1) c2 c3 ((∀f∈t.bE,kC f)∧∀r∈t.rules.take i,ka r) E' S'∧E'.get 10= .str at_∧E'.get 9= .int .i64 (i:Nat)) ?_ ?_
   ·intro K3 tA;cases tw<;>simp(disch:=first|omega|(simp only[ai];omega)) only[et,ea,e5,aj,↓eA,eB,aq,seval]
    ·exact tA _ _ ⟨⟨rows,e5▸hg,e2,e3,by omega,hf,hP⟩,ea,ei⟩
    ·refine hg.app (by simp;omega) fun v' S2 h2=>?_;simp(disch:=first|omega|(simp only[ai];omega)) only[aj,↓eA,eB,aq,seval];exact tA _ _ ⟨⟨_,h2,e2,e3,by simp only[aH,aN];omega,eV hf (FI.one _ _),eE⟩,ea,ei⟩
   clear hg hl hf hP ea et e2 e3 e5 ei;rintro E S1 ⟨⟨rows,hg,e2,e3,hl,hf,hP⟩,ea,ei⟩;have ck:=KY y (ht.jb y sB).1 (ht.jb y sB).2 S1;have eQ:∀r∈t.rules.take (i+1),r∈t.rules.take i∨r=y:=fun r hr=>by
    rw[gy hc]at hr;rcases List.mem_append.1 hr with h|h
    ·exact .inl h
    ·exact .inr (List.mem_singleton.1 h)
   generalize ahT:ka y=ok at ck;have aie:((∀f∈t.bE,kC f)∧∀r∈t.rules.take i,ka r)→ok→(∀f∈t.bE,kC f)∧∀r∈t.rules.take (i+1),ka r:=fun⟨h0,h1⟩ h2=>⟨h0,fun r hr=>by
    rcases eQ r hr with h|rfl
    ·exact h1 r h
    ·rw[ahT];exact h2⟩
   obtain⟨n0,⟨c1,c2',c3',c4,c5,c6⟩,cb,mn,mx,ch,rf,jb⟩:=y;simp only[cx,b8.row,aS,a8]at ck hc;simp(disch:=first|omega|(simp only[ai];omega)) only[e2,e3,ea,ei,nX,hc,cx,b8.row,aj,↓eA,eB,aq,seval];refine ck.mono ?_;rintro _ S2 ⟨fs,rfl,⟨nK,w8,hfo⟩,cO⟩;rw[cO];clear cO S2;simp(disch:=first|omega|(simp only[ai];omega)) only[aj,↓eA,eB,aq,seval];refine(Ih hg (by omega) hf at_ (by omega) fs w8 (by omega)).mono ?_;rintro v' S2 ⟨bT,hg',xu,hf'⟩;simp(disch:=first|omega|(simp only[ai];omega)) only[aj,↓eA,eB,aq,seval];exact ud _ _ ⟨⟨bT,hg',e2,e3,by omega,hf',fun h=>by
    subst h;simp only[bz]at xu;have OL:rows=[]:=List.length_eq_zero_iff.1 (by omega);have hf0:fs=[]:=List.length_eq_zero_iff.1 (by omega);exact aie (hP OL) (hfo hf0)⟩,ei⟩
  clear hg hl hf hP e2 e3 e5 ei;rintro E S1 ⟨⟨rows,hg,e2,e3,hl,hf,hP⟩,ei⟩;simp(disch:=first|omega|(simp only[ai];omega)) only[ei,wrap_i64,om,aj,↓eA,eB,aq,seval];exact⟨(i+1,rows,E.get 5,S1),⟨by simp only;omega,hg,by simp only;omega,hf,hP⟩,by simp only;omega,⟨e2,e3,rfl,rfl⟩,rfl⟩
 clear hg hl hf hP e2 e3;rintro E S1 ⟨rows,hg,e2,e3,hl,hf,hP⟩;refine cm (GT S 600000000 c2 c3 ((∀f∈t.bE,kC f)∧∀r∈t.rules,ka r)) ?_ ?_
 ·intro K hK;simp(disch:=first|omega|(simp only[ai];omega)) only[aj,↓eA,eB,aq,seval];refine cH (ι:=Nat×List (List V)×V×ae) (fun i=>[(2,c2),(3,c3),(5,i.2.2.1),(13,.int .i64 (i.1:Nat))]) (fun i=>i.2.2.2)
   (fun i=>i.1≤t.cS.length∧LG S 118 2 i.2.1 i.2.2.1 i.2.2.2∧i.2.1.length≤300000000+20000001*i.1∧(∀r∈i.2.1,FI r)∧(i.2.1=[]→(∀f∈t.bE,kC f)∧∀r∈t.rules,ka r)) (fun i=>t.cS.length-i.1) (0,rows,E.get 5,S1) ⟨az _,hg,hl,hf,hP⟩ ?_ rfl ?_
  ·simp only[e2,e3,↓eA,eB,aq,seval];try rfl
  clear hg hl hf hP e2 e3;rintro⟨i,rows,v,S1⟩ ⟨hi,hg,hl,hf,hP⟩;simp only at hi hg hl hf hP⊢;refine cm (fun E' S'=>(i:Int)<t.cS.length∧E'.get 2=c2∧E'.get 3=c3∧E'.get 5=v∧E'.get 13= .int .i64 (i:Nat)∧S'=S1) ?_ ?_
  ·intro K2 ud;by_cases aR:(i:Int)<t.cS.length
   ·simp(disch:=first|omega|(simp only[ai];omega)) only[nX,dT aR,aj,↓eA,eB,aq,seval];exact ud _ _ ⟨aR,rfl,nX.symm,rfl,rfl,rfl⟩
   ·simp(disch:=first|omega|(simp only[ai];omega)) only[nX,dF aR,aj,↓eA,eB,aq,seval];exact hK _ _ ⟨rows,hg,rfl,nX.symm,by omega,hf,hP⟩
  rintro E S2 ⟨aR,e2,e3,e5,ei,cO⟩;rw[cO];clear cO S2;obtain⟨y,hc⟩:∃y,t.cS[i]?=some y:=⟨_,ax (by omega)⟩;have sB:=aB hc;have om:(i:Int)+1=((i+1:Nat):Int):=by omega
  obtain⟨at_,jE,C6⟩:∃at_:bS,dW .add (.str zK) (.str (jo i))=some (.str at_)∧at_.length≤40:=⟨_,nN zK i (by decide),qo zK i (by decide)⟩;simp only[zK]at jE;refine cm (fun E' S'=>GT S (300000000+20000001*(i+1)) c2 c3 ((∀f∈t.bE,kC f)∧∀r∈t.rules,ka r) E' S'∧E'.get 13= .int .i64 (i:Nat)) ?_ ?_
  ·intro K2 ud;refine cm (fun E' S'=>E'.get 14= .str at_∧E'.get 15= .bool false∧E'.get 2=c2∧E'.get 3=c3∧E'.get 5=v∧E'.get 13= .int .i64 (i:Nat)∧S'=S1) ?_ ?_
   ·intro K3 tA;simp(disch:=first|omega|(simp only[ai];omega)) only[ei,aj,↓eA,eB,aq,seval];refine(mQ i (by omega) _).then ?_
    simp(disch:=first|omega|(simp only[ai];omega)) only[jE,aj,↓eA,eB,aq,seval];exact tA _ _ ⟨rfl,rfl,e2,e3,e5,ei,rfl⟩
   clear e2 e3 e5 ei;rintro E S2 ⟨ea,et,e2,e3,e5,ei,cO⟩;rw[cO];clear cO S2;refine cm (fun E' S'=>(∃tw,E'.get 15= .bool tw)∧E'.get 14= .str at_∧E'.get 2=c2∧E'.get 3=c3∧E'.get 5=v∧E'.get 13= .int .i64 (i:Nat)∧S'=S1) ?_ ?_
   ·intro K3 tA;simp(disch:=first|omega|(simp only[ai];omega)) only[aj,↓eA,eB,aq,seval];refine cH (ι:=Nat×Bool) (fun k=>[(2,c2),(3,c3),(5,v),(13,.int .i64 (i:Nat)),(14,.str at_),(15,.bool k.2),(16,.int .i64 (k.1:Nat))]) (fun _=>S1)
     (fun k=>k.1≤i) (fun k=>i-k.1) (0,false) (az _) ?_ rfl ?_
    ·simp only[e2,e3,e5,ei,ea,et,↓eA,eB,aq,seval];try rfl
    clear ea et e2 e3 e5 ei;rintro⟨k,tw⟩ hk;simp only at hk⊢;by_cases Sw:k<i
    ·have kg:(k:Int)<i:=by omega
     have CZ:(k:Int)+1=((k+1:Nat):Int):=by omega
     obtain⟨z,hz⟩:∃z,t.cS[k]?=some z:=⟨_,ax (by omega)⟩;have ql:∀b,decide (z.n=y.n)=b→∃b,decide (z.n=y.n)=b:=fun b h=>⟨b,h⟩;cases tw<;>simp(disch:=first|omega|(simp only[ai];omega)) only[dT kg,hc,hz,nX,eP,wrap_i64,CZ,aj,↓eA,eB,aq,seval];all_goals first|exact⟨(k+1,_),by simp only;omega,by simp only;omega,⟨rfl,rfl⟩,rfl⟩|exact⟨(k+1,_),by simp only;omega,by simp only;omega,⟨rfl,rfl,rfl,rfl,rfl,rfl,rfl⟩,rfl⟩|exact⟨(k+1,_),by simp only;omega,by simp only;omega,rfl,rfl⟩|exact⟨(k+1,_),by simp only;omega,by simp only;omega,⟨nX.symm,rfl⟩,rfl⟩
    ·have kg:¬(k:Int)<i:=by omega
     simp(disch:=first|omega|(simp only[ai];omega)) only[dF kg,aj,↓eA,eB,aq,seval];exact tA _ _ ⟨⟨_,rfl⟩,rfl,rfl,rfl,rfl,rfl,rfl⟩
   clear ea et e2 e3 e5 ei;rintro E S2 ⟨⟨tw,et⟩,ea,e2,e3,e5,ei,cO⟩;rw[cO];clear cO S2;refine cm (fun E' S'=>GT S (300000000+20000001*i+1) c2 c3 ((∀f∈t.bE,kC f)∧∀r∈t.rules,ka r) E' S'∧E'.get 14= .str at_∧E'.get 13= .int .i64 (i:Nat)) ?_ ?_
   ·intro K3 tA;cases tw<;>simp(disch:=first|omega|(simp only[ai];omega)) only[et,ea,e5,aj,↓eA,eB,aq,seval]
    ·exact tA _ _ ⟨⟨rows,e5▸hg,e2,e3,by omega,hf,hP⟩,ea,ei⟩
    ·refine hg.app (by simp;omega) fun v' S2 h2=>?_;simp(disch:=first|omega|(simp only[ai];omega)) only[aj,↓eA,eB,aq,seval];exact tA _ _ ⟨⟨_,h2,e2,e3,by simp only[aH,aN];omega,eV hf (FI.one _ _),eE⟩,ea,ei⟩
   clear hg hl hf hP ea et e2 e3 e5 ei;rintro E S1 ⟨⟨rows,hg,e2,e3,hl,hf,hP⟩,ea,ei⟩;have ck:=KX y (ht.gO y sB) S1;obtain⟨n0,lks,mi⟩:=y;simp only[eP,aS,a8]at ck hc;simp(disch:=first|omega|(simp only[ai];omega)) only[e2,e3,ea,ei,nX,hc,eP,aj,↓eA,eB,aq,seval];refine ck.mono ?_;rintro _ S2 ⟨fs,rfl,⟨nK,w8⟩,cO⟩;rw[cO];clear cO S2;simp(disch:=first|omega|(simp only[ai];omega)) only[aj,↓eA,eB,aq,seval];refine(Ih hg (by omega) hf at_ (by omega) fs w8 (by omega)).mono ?_;rintro v' S2 ⟨bT,hg',xu,hf'⟩;simp(disch:=first|omega|(simp only[ai];omega)) only[aj,↓eA,eB,aq,seval];exact ud _ _ ⟨⟨bT,hg',e2,e3,by omega,hf',fun h=>by
    subst h;simp only[bz]at xu;have OL:rows=[]:=List.length_eq_zero_iff.1 (by omega);have hf0:fs=[]:=List.length_eq_zero_iff.1 (by omega);exact hP OL⟩,ei⟩
  clear hg hl hf hP e2 e3 e5 ei;rintro E S1 ⟨⟨rows,hg,e2,e3,hl,hf,hP⟩,ei⟩;simp(disch:=first|omega|(simp only[ai];omega)) only[ei,wrap_i64,om,aj,↓eA,eB,aq,seval];exact⟨(i+1,rows,E.get 5,S1),⟨by simp only;omega,hg,by simp only;omega,hf,hP⟩,by simp only;omega,⟨e2,e3,rfl,rfl⟩,rfl⟩
 clear hg hl hf hP e2 e3;rintro E S1 ⟨rows,hg,e2,e3,hl,hf,hP⟩;simp(disch:=first|omega|(simp only[ai];omega)) only[aj,↓eA,eB,aq,seval];have sD:=hg.fin hn hf;exact⟨_,S,sD.1,sD.2,ah _,⟨_,rfl,hP⟩,rfl⟩
end Go.Proofs.YtfgkgmmnldocaaaGreatDoor
