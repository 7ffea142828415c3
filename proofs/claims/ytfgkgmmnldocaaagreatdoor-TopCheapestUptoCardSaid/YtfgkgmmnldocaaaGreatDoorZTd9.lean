/- Td9 -/
import Derived.Test.YtfgkgmmnldocaaaGreatDoorZTd5
import Derived.Test.YtfgkgmmnldocaaaGreatDoorZCnf
set_option linter.unusedSectionVars false
set_option linter.unusedSimpArgs false
set_option linter.unusedVariables false
set_option maxHeartbeats 4000000
set_option maxRecDepth 10000
namespace Go.Proofs.YtfgkgmmnldocaaaGreatDoor
open Go Go.AL
variable[Go.AL.Mode][Go.AL.bR]
theorem qf{a h:Int}(ha:0≤a)(hh:0≤h):0≤(Ml.cG a h).1∧(Ml.cG a h).1≤1099511627776:=by
 have:=Int.mul_nonneg ha hh;unfold Ml.cG;split
 ·exact⟨cM _,by decide⟩
 split
 ·exact⟨cM _,by decide⟩
 ·simp only;generalize a*h=m at*;omega
theorem ZW{t:gk}(h:Jm t)(n:Int):∀q∈((fm t n).getD j5).jb,0≤q.2∧q.2≤1000:=by
 unfold fm;cases hf:t.rules.find? fun r=>decide (r.n=n)with
 |none=>exact fun q hq=>by simp[j5]at hq
 |some r=>exact(h.ok r (pI hf)).2
theorem Lb{p:fO}{t:gk}(ht:Jm t)(ha:∀f∈t.bE,kC f)(i:Int)(l:List gv)(ty:bS):0≤(gg p t i l ty).1∧(gg p t i l ty).1≤1099511627776:=by
 have z:(0:Int)≤0∧(0:Int)≤1099511627776:=by decide
 unfold gg;split
 ·exact z
 split
 ·exact z
 rename_i f hf;have hfa:=ha f (aB hf);split
 ·exact z
 split
 ·exact z
 have Iv:0≤(Ml.fZ f.am (iF p t f l).1).1:=by
  unfold Ml.fZ;split
  ·rename_i hs;unfold Ml.lC at hs;exact(qf hfa.1 (by omega)).1
  ·exact cM _
 generalize (Ml.fZ f.am (iF p t f l).1).1=m at*;unfold vu;have hr:=ZW ht f.iv;cases hq:((fm t f.iv).getD j5).jb.find? fun q=>decide (q.1=ty)with
 |none=>exact qf Iv (by decide)
 |some q=>
  have:=(hr q (pI hq)).1;exact qf Iv (by omega)
theorem aaj(n:Int)(S:ae):ak Tryz.prog 12 [.int .i64 n] S fun v S'=>∃b,v= .bool b∧S'=S:=by
 refine ak.bW Tryz.func12 abW (U rfl) fun σ b_=>?_;by_cases h1: -1099511627776≤n
 ·simp(disch:=first|omega|(simp only[ai];omega)) only[Gg,dT h1,aj,↓eA,eB,aq,seval];exact⟨_,rfl⟩
 ·simp(disch:=first|omega|(simp only[ai];omega)) only[Gg,dF h1,aj,↓eA,eB,aq,seval];exact⟨_,rfl⟩
theorem Om(l:List gv)(hl:l.length≤1000)(S:ae):ak Tryz.prog 13 [.sl 8 (l.map cR)] S fun v S'=>∃b,v= .bool b∧(b=true→Se l)∧S'=S:=by
 refine ak.bW Tryz.func13 abV (U rfl) fun σ b_=>?_;simp(disch:=first|omega|(simp only[ai];omega)) only[R9,aj,↓eA,eB,aq,seval];refine cH (ι:=Nat) (fun i=>[(0,.sl 8 (l.map cR)),(3,.int .i64 (i:Nat))]) (fun _=>S) (fun i=>i≤l.length∧∀w∈l.take i,(0≤w.s.dep∧w.s.dep<52596000)∧0≤w.s.arr∧w.s.arr<52596000) (fun i=>l.length-i) 0 ⟨az _,fun w hw=>by simp at hw⟩ ?_ rfl ?_
 ·simp only[↓eA,eB,aq,seval];try rfl
 rintro i ⟨hi,hP⟩;cases hc:l[i]? with
 |none=>
  obtain⟨eh,_⟩:=dE hc;have aR:¬((i:Int)<l.length):=by omega
  rw[bh eh]at hP;simp(disch:=first|omega|(simp only[ai];omega)) only[dF aR,aj,↓eA,eB,aq,seval];exact⟨_,rfl,fun _=>hP⟩
 |some w=>
 have cK:=(List.getElem?_eq_some_iff.1 hc).1;have aR:(i:Int)<l.length:=by omega
 have om:(i:Int)+1=((i+1:Nat):Int):=by omega
 by_cases h1:w.s.dep<0
 ·simp(disch:=first|omega|(simp only[ai];omega)) only[dT aR,hc,cR,gl,dT h1,aj,↓eA,eB,aq,seval];exact⟨_,rfl,fun h=>by cases h⟩
 by_cases h2:52596000≤w.s.dep
 ·simp(disch:=first|omega|(simp only[ai];omega)) only[dT aR,hc,cR,gl,dF h1,dT h2,aj,↓eA,eB,aq,seval];exact⟨_,rfl,fun h=>by cases h⟩
 by_cases h3:w.s.arr<0
 ·simp(disch:=first|omega|(simp only[ai];omega)) only[dT aR,hc,cR,gl,dF h1,dF h2,dT h3,aj,↓eA,eB,aq,seval];exact⟨_,rfl,fun h=>by cases h⟩
 by_cases h4:52596000≤w.s.arr
 ·simp(disch:=first|omega|(simp only[ai];omega)) only[dT aR,hc,cR,gl,dF h1,dF h2,dF h3,dT h4,aj,↓eA,eB,aq,seval];exact⟨_,rfl,fun h=>by cases h⟩
 simp(disch:=first|omega|(simp only[ai];omega)) only[dT aR,hc,cR,gl,dF h1,dF h2,dF h3,dF h4,wrap_i64,om,aj,↓eA,eB,aq,seval];refine⟨i+1,⟨by omega,fun y hy=>?_⟩,by omega,rfl⟩;rw[kN hc]at hy;rcases List.mem_append.1 hy with hy|hy
 ·exact hP y hy
 ·rw[List.mem_singleton.1 hy];exact⟨⟨by omega,by omega⟩,by omega,by omega⟩
theorem M6(p:fO)(S:ae):ak Tryz.prog 11 [dV p] S fun v S'=>∃b,v= .bool b∧(b=true→p.1.length≤12∧p.2.length≤20∧mH p)∧S'=S:=by
 refine ak.bW Tryz.func11 abX (U rfl) fun σ b_=>?_;by_cases h1:(p.1.length:Int)≤12
 ·by_cases h2:(p.2.length:Int)≤20
  ·have zp:=fun S=>EL p (by omega) (by omega) S;simp only[dV]at zp⊢;simp(disch:=first|omega|(simp only[ai];omega)) only[A1,dT h1,dT h2,aj,↓eA,eB,aq,seval];refine(zp _).mono ?_;rintro _ S2 ⟨fs,rfl,hz,cO⟩;rw[cO];clear cO S2;by_cases h0:(fs.length:Int)=0
   ·simp(disch:=first|omega|(simp only[ai];omega)) only[dT h0,aj,↓eA,eB,aq,seval];exact⟨_,rfl,fun _=>⟨by omega,by omega,hz (List.length_eq_zero_iff.1 (by omega))⟩⟩
   ·simp(disch:=first|omega|(simp only[ai];omega)) only[dF h0,aj,↓eA,eB,aq,seval];exact⟨_,rfl,fun h=>by cases h⟩
  ·simp(disch:=first|omega|(simp only[ai];omega)) only[A1,dV,dT h1,dF h2,aj,↓eA,eB,aq,seval];exact⟨_,rfl,fun h=>by cases h⟩
 ·simp(disch:=first|omega|(simp only[ai];omega)) only[A1,dV,dF h1,aj,↓eA,eB,aq,seval];exact⟨_,rfl,fun h=>by cases h⟩
theorem NO(k:Int)(S:ae):ak Tryz.prog 47 [.int .i64 k] S fun r S'=>r= .int .i64 (if k=4 then 100000 else 1099511627776)∧S'=S:=by
 refine ak.bW Tryz.func47 abQ (U rfl) fun σ b_=>?_;by_cases h:k=4
 ·simp(disch:=first|omega|(simp only[ai];omega)) only[Gc,dT h,aK h,aj,↓eA,eB,aq,seval]
 ·simp(disch:=first|omega|(simp only[ai];omega)) only[Gc,dF h,aC h,aj,↓eA,eB,aq,seval]
theorem Kc(x:Tx)(hx:x.fr.length≤1000000000)(S:ae):ak Tryz.prog 46 [.agg (fk x)] S fun r S'=>∃b,r= .bool b∧S'=S:=by
 refine ak.bW Tryz.func46 abR (U rfl) fun σ b_=>?_;have cd:=fun s n S=>(qG s n n S).mono fun r S' ⟨h1,h2⟩=>(⟨_,h1,h2⟩:∃z,r=V.bool z∧S'=S);have cy:=fun S=>(vm x.cy S).mono fun r S' ⟨h1,h2⟩=>(⟨_,h1,h2⟩:∃z,r=V.bool z∧S'=S);simp(disch:=first|omega|(simp only[ai];omega)) only[R3,fk,aj,↓eA,eB,aq,seval];refine(cd x.cd 2 _).mono ?_;rintro _ S2 ⟨z1,rfl,cO⟩;rw[cO];clear cO S2;cases z1
 case false=>
  simp(disch:=first|omega|(simp only[ai];omega)) only[aj,↓eA,eB,aq,seval];exact⟨_,rfl⟩
 simp(disch:=first|omega|(simp only[ai];omega)) only[aj,↓eA,eB,aq,seval];refine(cy _).mono ?_;rintro _ S2 ⟨z1,rfl,cO⟩;rw[cO];clear cO S2;cases z1
 case false=>
  simp(disch:=first|omega|(simp only[ai];omega)) only[aj,↓eA,eB,aq,seval];exact⟨_,rfl⟩
 simp(disch:=first|omega|(simp only[ai];omega)) only[aj,↓eA,eB,aq,seval];refine cH (ι:=Nat) (fun i=>[(1,.bK (fk x)),(3,.int .i64 (i:Nat))]) (fun _=>S) (fun i=>i≤x.fr.length) (fun i=>x.fr.length-i) 0 (az _) ?_ rfl ?_
 ·simp only[fk,↓eA,eB,aq,seval];try rfl
 intro i hi;cases hc:x.fr[i]? with
 |none=>
  obtain⟨eh,_⟩:=dE hc;have aR:¬((i:Int)<x.fr.length):=by omega
  simp(disch:=first|omega|(simp only[ai];omega)) only[fk,dF aR,aj,↓eA,eB,aq,seval];exact⟨_,rfl⟩
 |some s=>
 have cK:=(List.getElem?_eq_some_iff.1 hc).1;have aR:(i:Int)<x.fr.length:=by omega
 have om:(i:Int)+1=((i+1:Nat):Int):=by omega
 simp(disch:=first|omega|(simp only[ai];omega)) only[fk,dT aR,hc,eW,aj,↓eA,eB,aq,seval];refine(cd s 3 _).mono ?_;rintro _ S2 ⟨z1,rfl,cO⟩;rw[cO];clear cO S2;cases z1
 case false=>
  simp(disch:=first|omega|(simp only[ai];omega)) only[aj,↓eA,eB,aq,seval];exact⟨_,rfl⟩
 simp(disch:=first|omega|(simp only[ai];omega)) only[wrap_i64,om,aj,↓eA,eB,aq,seval];first|exact⟨i+1,by omega,by omega,rfl⟩|exact⟨i+1,by omega,by omega,rfl,rfl⟩
end Go.Proofs.YtfgkgmmnldocaaaGreatDoor
namespace Go.Proofs.YtfgkgmmnldocaaaGreatDoor
open Go Go.AL
variable[Go.AL.Mode][Go.AL.bR]
structure GXs(S:ae)(b:Nat)(x:Tx)(rows:List (List V))(v:V)(X:ae):Prop where
 l:lz S.length X 118 2 rows v
 n:∀q,nn v q→q≠b
 o:X.bq b 0=some (125,7,[fk x])
 e:∃T,X=S++T
theorem GXs.app{S:ae}{b:Nat}{x:Tx}{rows:List (List V)}{v:V}{X:ae}(h:GXs S b x rows v X)(hl:rows.length≤1000000){e:Int}{s:bS}{K:V→ae→Prop}(k:∀v' X',GXs S b x (rows++[[.int .i64 e,.str s]]) v' X'→K v' X'):kj 118 2 v (some (2,[[.int .i64 e,.str s]])) X K:=by
 have hS:S.length≤X.length:=by obtain⟨T,rfl⟩:=h.e;simp
 have hb:=gW h.o;exact h.l.app hS hl fun v' X' h1 h2 h3=>k v' X' ⟨h1,fun q hq e=>(h3 q hq).elim (fun k=>h.n q k e) fun k=>by omega,h2.obj h.o fun k=>h.n b k rfl,h2.ext h.e fun q hq=>(h.l.lt hq).2⟩
def GX(S:ae)(b:Nat)(l:List (List V))(i:Nat)(x:Tx)(at_:bS)(m:Nat)(P:Prop)(E:Env)(S':ae):Prop:=∃rows,GXs S b x rows (E.get 3) S'∧(E.get 0= .sl 7 l∧E.get 4= .int .i64 (i:Nat)∧E.get 5= .ptr b 0 0 0∧E.get 6= .str at_)∧rows.length≤m∧(∀r∈rows,FI r)∧(rows=[]→P)
def GN:bS:=[116,97,120,32]
theorem KV(tx:List Tx)(hl:tx.length≤1000)(hf:∀x∈tx,x.fr.length≤1000000000)(S:ae):ak Tryz.prog 15 [.sl 7 (tx.map fk)] S fun v S'=>∃rows:List (List V),v= .sl 2 rows∧(rows=[]→∀x∈tx,j7 x)∧S'=S:=by
 refine ak.bp Tryz.func15 Qo fun hn=>?_;refine(ak.fin Tryz.func15 Qo (R:=fun v S'=>(∃rows:List (List V),v= .sl 2 rows∧(rows=[]→∀x∈tx,j7 x))∧S'=S) (U rfl) fun σ b_=>?_).mono fun r S' ⟨⟨L,h1,h2⟩,h3⟩=>⟨L,h1,h2,h3⟩;simp(disch:=first|omega|(simp only[ai];omega)) only[R8,aj,↓eA,eB,aq,seval];refine cH (ι:=Nat×List (List V)×V×ae) (fun i=>[(0,.sl 7 (tx.map fk)),(3,i.2.2.1),(4,.int .i64 (i.1:Nat))]) (fun i=>i.2.2.2)
  (fun i=>i.1≤tx.length∧(lz S.length i.2.2.2 118 2 i.2.1 i.2.2.1∧∃T,i.2.2.2=S++T)∧i.2.1.length≤3*i.1∧(∀r∈i.2.1,FI r)∧(i.2.1=[]→∀x∈tx.take i.1,j7 x)) (fun i=>tx.length-i.1) (0,[],.aM,S) ⟨az _,⟨.inl ⟨rfl,rfl⟩,[],by simp⟩,ah _,(fun _ h=>by cases h),fun _ r hr=>by simp at hr⟩ ?_ rfl ?_
 ·simp only[↓eA,eB,aq,seval];try rfl
 rintro⟨i,rows,v,S1⟩ ⟨hi,⟨hg,hT⟩,uc,pE,hP⟩;simp only at hi hg hT uc pE hP⊢;cases hc:tx[i]? with
 |none=>
  obtain⟨eh,_⟩:=dE hc;have aR:¬((i:Int)<tx.length):=by omega
  rw[bh eh]at hP;simp(disch:=first|omega|(simp only[ai];omega)) only[dF aR,aj,↓eA,eB,aq,seval];have sD:=hg.rb (ah _) pE;obtain⟨T,rfl⟩:=hT;exact⟨_,S,hn.dO T,sD,ah _,⟨_,rfl,hP⟩,rfl⟩
 |some x=>
 have cK:=(List.getElem?_eq_some_iff.1 hc).1;have aR:(i:Int)<tx.length:=by omega
 have om:(i:Int)+1=((i+1:Nat):Int):=by omega
 have nm:=fun S=>Kc x (hf x (aB hc)) S;obtain⟨at_,jE,C6⟩:∃at_:bS,dW .add (.str GN) (.str (jo i))=some (.str at_)∧at_.length≤40:=⟨_,nN GN i (by decide),qo GN i (by decide)⟩;simp only[GN]at jE;obtain⟨l0,lQ⟩:∃l0,l0=tx.map fk:=⟨_,rfl⟩;obtain⟨P0,hP0⟩:∃P0:Prop,P0=∀x∈tx.take i,j7 x:=⟨_,rfl⟩;rw[←hP0]at hP;obtain⟨b,hb⟩:∃b,b=S1.length:=⟨_,rfl⟩;refine cm (fun E' S'=>E'.get 0= .sl 7 (tx.map fk)∧E'.get 3=v∧E'.get 4= .int .i64 (i:Nat)∧S'=S1) ?_ ?_
 ·intro K hK;simp(disch:=first|omega|(simp only[ai];omega)) only[dT aR,aj,↓eA,eB,aq,seval];exact hK _ _ ⟨rfl,rfl,rfl,rfl⟩
 rintro E S2 ⟨e0,e3,e4,cO⟩;rw[cO];clear cO S2;refine cm (GX S b l0 i x at_ (3*i+3) (P0∧j7 x)) ?_ ?_
 ·intro K hK;refine cm (GX S b l0 i x at_ (3*i) P0) ?_ ?_
  ·intro K2 ud;simp(disch:=first|omega|(simp only[ai];omega)) only[e0,e3,e4,hc,fk,aj,↓eA,eB,aq,seval];refine qv.intro (mQ i (by omega) _) ?_;simp(disch:=first|omega|(simp only[ai];omega)) only[jE,hc,e0,e3,e4,fk,aj,↓eA,eB,aq,seval];have hg3:lz S.length S1 118 2 rows (E.get 3):=by rw[e3];exact hg
   refine⟨fun S=>mQ i (by omega) S,ud _ _ ⟨rows,⟨hg3.pF (f_.add (fun _=>False) _ _) fun _ _ k=>k,fun q hq=>by have:=(hg3.lt hq).1;omega,by rw[hb];exact dP.trans cE,by obtain⟨T,rfl⟩:=hT;exact⟨_,bG ..⟩⟩,⟨by rw[lQ];exact e0,e4,by rw[hb];rfl,rfl⟩,uc,pE,hP⟩⟩
  clear e0 e3 e4 hg uc pE hP hP0 hT;unfold fk at nm;rintro E S1 ⟨rows,hg,⟨e0,e4,e5,e6⟩,uc,pE,hP⟩;refine cm (GX S b l0 i x at_ (3*i+1) P0) ?_ ?_
  ·intro K2 ud;have Dw:=hg.o;unfold fk at Dw;simp(disch:=first|omega|(simp only[ai];omega)) only[e5,Dw,aj,↓eA,eB,aq,seval];refine(nm _).mono ?_;rintro _ S2 ⟨z1,rfl,cO⟩;rw[cO];clear cO S2;cases z1<;>simp(disch:=first|omega|(simp only[ai];omega)) only[e6,aj,↓eA,eB,aq,seval];all_goals
    first
     |exact ud _ _ ⟨rows,hg,⟨e0,e4,e5,e6⟩,by omega,pE,hP⟩
     |(refine hg.app (by omega) fun v' S2 h2=>?_
       simp(disch:=first|omega|(simp only[ai];omega)) only[aj,↓eA,eB,aq,seval];exact ud _ _ ⟨_,h2,⟨e0,e4,e5,e6⟩,by simp only[aH,aN];omega,eV pE (FI.one _ _),eE⟩)
  clear hg uc pE hP e0 e4 e5 e6;rintro E S1 ⟨rows,hg,⟨e0,e4,e5,e6⟩,uc,pE,hP⟩;refine cm (GX S b l0 i x at_ (3*i+2) (P0∧1≤x.kd∧x.kd≤4)) ?_ ?_
  ·intro K2 ud;have Dw:=hg.o;unfold fk at Dw;by_cases h1:x.kd<1
   ·simp(disch:=first|omega|(simp only[ai];omega)) only[e5,Dw,e6,dT h1,aj,↓eA,eB,aq,seval];refine hg.app (by omega) fun v' S2 h2=>?_;simp(disch:=first|omega|(simp only[ai];omega)) only[aj,↓eA,eB,aq,seval];exact ud _ _ ⟨_,h2,⟨e0,e4,e5,e6⟩,by simp only[aH,aN];omega,eV pE (FI.one _ _),eE⟩
   by_cases h2:4<x.kd
   ·simp(disch:=first|omega|(simp only[ai];omega)) only[e5,Dw,e6,dF h1,dT h2,aj,↓eA,eB,aq,seval];refine hg.app (by omega) fun v' S2 h2=>?_;simp(disch:=first|omega|(simp only[ai];omega)) only[aj,↓eA,eB,aq,seval];exact ud _ _ ⟨_,h2,⟨e0,e4,e5,e6⟩,by simp only[aH,aN];omega,eV pE (FI.one _ _),eE⟩
   simp(disch:=first|omega|(simp only[ai];omega)) only[e5,Dw,dF h1,dF h2,aj,↓eA,eB,aq,seval];exact ud _ _ ⟨rows,hg,⟨e0,e4,e5,e6⟩,by omega,pE,fun h=>⟨hP h,by omega,by omega⟩⟩
  clear hg uc pE hP e0 e4 e5 e6;rintro E S1 ⟨rows,hg,⟨e0,e4,e5,e6⟩,uc,pE,hP⟩;have Dw:=hg.o;unfold fk at Dw;have bad:∀v' S2,GXs S b x (rows++[[.int .i64 2,.str at_]]) v' S2→∀E':Env,E'.get 3=v'→E'.get 0=E.get 0→E'.get 4=E.get 4→E'.get 5=E.get 5→E'.get 6=E.get 6→K E' S2:=fun v' S2 h2 E' g3 g0 g4 g5 g6=>
   hK _ _ ⟨_,by rw[g3];exact h2,⟨g0.trans e0,g4.trans e4,g5.trans e5,g6.trans e6⟩,by simp only[aH,aN];omega,eV pE (FI.one _ _),eE⟩
  by_cases h1:x.am<0
  ·simp(disch:=first|omega|(simp only[ai];omega)) only[e5,Dw,e6,dT h1,aj,↓eA,eB,aq,seval];refine hg.app (by omega) fun v' S2 h2=>?_;simp(disch:=first|omega|(simp only[ai];omega)) only[aj,↓eA,eB,aq,seval];exact bad _ _ h2 _ rfl rfl rfl rfl rfl
  simp(disch:=first|omega|(simp only[ai];omega)) only[e5,Dw,e6,dF h1,aj,↓eA,eB,aq,seval];refine qv.intro (NO x.kd _) ?_;by_cases h2:(if x.kd=4 then(100000:Int)else 1099511627776)<x.am
  ·simp(disch:=first|omega|(simp only[ai];omega)) only[e5,Dw,e6,dT h2,aj,↓eA,eB,aq,seval];refine hg.app (by omega) fun v' S2 h2=>?_;simp(disch:=first|omega|(simp only[ai];omega)) only[aj,↓eA,eB,aq,seval];exact bad _ _ h2 _ rfl rfl rfl rfl rfl
  by_cases h3:x.sc<0
  ·simp(disch:=first|omega|(simp only[ai];omega)) only[e5,Dw,e6,dF h2,dT h3,aj,↓eA,eB,aq,seval];refine hg.app (by omega) fun v' S2 h2=>?_;simp(disch:=first|omega|(simp only[ai];omega)) only[aj,↓eA,eB,aq,seval];exact bad _ _ h2 _ rfl rfl rfl rfl rfl
  by_cases h4:2<x.sc
  ·simp(disch:=first|omega|(simp only[ai];omega)) only[e5,Dw,e6,dF h2,dF h3,dT h4,aj,↓eA,eB,aq,seval];refine hg.app (by omega) fun v' S2 h2=>?_;simp(disch:=first|omega|(simp only[ai];omega)) only[aj,↓eA,eB,aq,seval];exact bad _ _ h2 _ rfl rfl rfl rfl rfl
  have ajn:rows=[]→P0∧j7 x:=fun h=>by
   obtain⟨g1,g2⟩:=hP h;refine⟨g1,g2,⟨by omega,?_,fun h=>?_⟩,by omega,by omega⟩
   ·split at h2<;>omega
   ·rw[aK h]at h2;omega
  by_cases h5:x.tr<0
  ·simp(disch:=first|omega|(simp only[ai];omega)) only[e5,Dw,e6,dF h2,dF h3,dF h4,dT h5,aj,↓eA,eB,aq,seval];refine hg.app (by omega) fun v' S2 h2=>?_;simp(disch:=first|omega|(simp only[ai];omega)) only[aj,↓eA,eB,aq,seval];exact bad _ _ h2 _ rfl rfl rfl rfl rfl
  by_cases h6:100000<x.tr
  ·simp(disch:=first|omega|(simp only[ai];omega)) only[e5,Dw,e6,dF h2,dF h3,dF h4,dF h5,dT h6,aj,↓eA,eB,aq,seval];refine hg.app (by omega) fun v' S2 h2=>?_;simp(disch:=first|omega|(simp only[ai];omega)) only[aj,↓eA,eB,aq,seval];exact bad _ _ h2 _ rfl rfl rfl rfl rfl
  simp(disch:=first|omega|(simp only[ai];omega)) only[e5,Dw,dF h2,dF h3,dF h4,dF h5,dF h6,aj,↓eA,eB,aq,seval];exact hK _ _ ⟨rows,hg,⟨e0,e4,e5,e6⟩,by omega,pE,ajn⟩
 clear e0 e3 e4 hg uc pE hP hT;rintro E S1 ⟨rows,hg,⟨e0,e4,e5,e6⟩,uc,pE,hP⟩;simp(disch:=first|omega|(simp only[ai];omega)) only[e4,wrap_i64,om,aj,↓eA,eB,aq,seval];refine⟨(i+1,rows,E.get 3,S1),⟨by simp only;omega,⟨hg.l,hg.e⟩,by simp only;omega,pE,fun h=>?_⟩,by simp only;omega,?_⟩
 ·obtain⟨g1,g2⟩:=hP h;rw[hP0]at g1;intro y hy;simp only at hy;rw[kN hc]at hy;rcases List.mem_append.1 hy with hy|hy
  ·exact g1 y hy
  ·rw[List.mem_singleton.1 hy];exact g2
 ·rw[lQ]at e0;first|exact⟨⟨e0,rfl⟩,rfl⟩|exact⟨e0,rfl⟩|simp only[e0,↓eA,eB,aq,seval]
structure SmJ(j:Jr):Prop where
 p:j.p.1.length≤12∧j.p.2.length≤20∧mH j.p
 w:j.w.length≤4∧Se j.w
 n:j.t.bE.length≤14∧j.t.rules.length≤8∧j.t.cS.length≤8∧j.tx.length≤8
 t:(∀f∈j.t.bE,kC f)∧∀r∈j.t.rules,ka r
 x:∀x∈j.tx,j7 x
theorem Tc(j:Jr)(ht:TSm j.t)(hx:∀x∈j.tx,x.fr.length≤1000000000)(S:ae):ak Tryz.prog 4 [.agg (jk j)] S fun v S'=>∃b,v= .bool b∧(b=true→SmJ j)∧S'=S:=by
 refine ak.bW Tryz.func4 abZ (U rfl) fun σ b_=>?_;have pl:=fun S=>M6 j.p S;have nr:=fun S=>aaj j.cj S;have tm:=fun h S=>Om j.w h S;have c4:=fun h1 h2 h3 h4 S=>KW j.p h1 j.t (j.tx.map fk) ht h2 h3 h4 S;have c7:=fun h S=>KV j.tx h hx S;simp only[dV,b9,jk]at pl c4⊢;simp(disch:=first|omega|(simp only[ai];omega)) only[Sc,aj,↓eA,eB,aq,seval];refine(pl _).mono ?_;rintro _ S2 ⟨b,rfl,hb,cO⟩;rw[cO];clear cO S2;cases b
 case false=>
  simp(disch:=first|omega|(simp only[ai];omega)) only[aj,↓eA,eB,aq,seval];exact⟨_,rfl,fun h=>by cases h⟩
 have hp:=hb rfl;by_cases h1:(j.w.length:Int)≤4
 case neg=>
  simp(disch:=first|omega|(simp only[ai];omega)) only[dF h1,aj,↓eA,eB,aq,seval];exact⟨_,rfl,fun h=>by cases h⟩
 simp(disch:=first|omega|(simp only[ai];omega)) only[dT h1,aj,↓eA,eB,aq,seval];refine(nr _).mono ?_;rintro _ S2 ⟨b,rfl,cO⟩;rw[cO];clear cO S2;cases b
 case false=>
  simp(disch:=first|omega|(simp only[ai];omega)) only[aj,↓eA,eB,aq,seval];exact⟨_,rfl,fun h=>by cases h⟩
 simp(disch:=first|omega|(simp only[ai];omega)) only[aj,↓eA,eB,aq,seval];refine(tm (by omega) _).mono ?_;rintro _ S2 ⟨b,rfl,hw,cO⟩;rw[cO];clear cO S2;cases b
 case false=>
  simp(disch:=first|omega|(simp only[ai];omega)) only[aj,↓eA,eB,aq,seval];exact⟨_,rfl,fun h=>by cases h⟩
 by_cases h2:(j.t.bE.length:Int)≤14
 case neg=>
  simp(disch:=first|omega|(simp only[ai];omega)) only[dF h2,aj,↓eA,eB,aq,seval];exact⟨_,rfl,fun h=>by cases h⟩
 by_cases h3:(j.t.rules.length:Int)≤8
 case neg=>
  simp(disch:=first|omega|(simp only[ai];omega)) only[dT h2,dF h3,aj,↓eA,eB,aq,seval];exact⟨_,rfl,fun h=>by cases h⟩
 by_cases h4:(j.t.cS.length:Int)≤8
 case neg=>
  simp(disch:=first|omega|(simp only[ai];omega)) only[dT h2,dT h3,dF h4,aj,↓eA,eB,aq,seval];exact⟨_,rfl,fun h=>by cases h⟩
 by_cases h5:(j.tx.length:Int)≤8
 case neg=>
  simp(disch:=first|omega|(simp only[ai];omega)) only[dT h2,dT h3,dT h4,dF h5,aj,↓eA,eB,aq,seval];exact⟨_,rfl,fun h=>by cases h⟩
 simp(disch:=first|omega|(simp only[ai];omega)) only[dT h2,dT h3,dT h4,dT h5,aj,↓eA,eB,aq,seval];refine(c4 (by omega) (by omega) (by omega) (by omega) _).mono ?_;rintro _ S2 ⟨rows,rfl,hr,cO⟩;rw[cO];clear cO S2;by_cases h6:(rows.length:Int)=0
 case neg=>
  simp(disch:=first|omega|(simp only[ai];omega)) only[dF h6,aj,↓eA,eB,aq,seval];exact⟨_,rfl,fun h=>by cases h⟩
 simp(disch:=first|omega|(simp only[ai];omega)) only[dT h6,aj,↓eA,eB,aq,seval];refine(c7 (by omega) _).mono ?_;rintro _ S2 ⟨iU,rfl,OK,cO⟩;rw[cO];clear cO S2;by_cases h7:(iU.length:Int)=0
 case neg=>
  simp(disch:=first|omega|(simp only[ai];omega)) only[dF h7,aj,↓eA,eB,aq,seval];exact⟨_,rfl,fun h=>by cases h⟩
 simp(disch:=first|omega|(simp only[ai];omega)) only[dT h7,aj,↓eA,eB,aq,seval];exact⟨_,rfl,fun _=>⟨hp,⟨by omega,hw rfl⟩,⟨by omega,by omega,by omega,by omega⟩,hr (List.length_eq_zero_iff.1 (by omega)),OK (List.length_eq_zero_iff.1 (by omega))⟩⟩
theorem SmJ.g{j:Jr}(ht:TSm j.t)(hx:∀x∈j.tx,x.fr.length≤1000000000)(h:SmJ j):Vn j:=by
 have hn:=h.n;have tok:Jm j.t:=⟨by omega,by omega,by omega,h.t.2⟩;refine⟨⟨⟨by have:=h.p.1;omega,by omega,by omega,by have:=h.w.1;omega,fun x su=>⟨h.x x su,hx x su⟩,by omega,fun s hs=>?_⟩,h.p.2.2,fun r hr=>by have:=(ht.jb r hr).1;omega⟩,⟨by have:=h.p.1;omega,by have:=h.p.2.1;omega,h.p.2.2⟩,tok,h.w.2,by have:=h.w.1;omega,fun i k x hx=>?_⟩
 ·obtain⟨w,hw,rfl⟩:=List.mem_map.1 hs;exact h.w.2 w hw
 ·obtain⟨y,hy,rfl⟩:=List.mem_map.1 hx;obtain⟨q,_,_,rfl⟩:=vx hy;exact Lb tok h.t.1 _ _ _
end Go.Proofs.YtfgkgmmnldocaaaGreatDoor
