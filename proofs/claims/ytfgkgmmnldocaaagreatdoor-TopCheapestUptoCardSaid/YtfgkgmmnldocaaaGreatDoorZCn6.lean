/- Cn6 -/
import Derived.Test.YtfgkgmmnldocaaaGreatDoorZCn3
set_option linter.unusedSectionVars false
set_option linter.unusedSimpArgs false
set_option linter.unusedVariables false
set_option maxHeartbeats 8000000
set_option maxRecDepth 20000
namespace Go.Proofs.YtfgkgmmnldocaaaGreatDoor
open Go Go.AL
variable[Go.AL.Mode][Go.AL.bR]
theorem Vf{S T:ae}{n:Nat}{q:TypeId}{sz:Nat}{r0 r:List V}{rs:List (List V)}{K:V→ae→Prop}(hn:rs.length=n)(h:n<1000000):
 kj q sz (.cU S.length n 0 (n+1)) (some (sz,[r])) (S++⟨n,some (.arr q sz (r0::rs))⟩::T) K=K (.cU S.length (n+1) 0 (n+2)) (S++⟨n+1,some (.arr q sz (r0::(rs++[r])))⟩::T):=by
 subst hn;rw[ll,dP,cE,iS,ur];simp only[a_,aH,bz,mc,me,aS];simp[dw];intro _;omega
theorem Ve{S T:ae}{x0:AL.Obj}{n:Nat}{q:TypeId}{sz:Nat}{r0 r:List V}{rs:List (List V)}{K:V→ae→Prop}(hn:rs.length=n)(h:n<1000000):
 kj q sz (.cU (S.length+1) n 0 (n+1)) (some (sz,[r])) (S++x0::⟨n,some (.arr q sz (r0::rs))⟩::T) K=K (.cU (S.length+1) (n+1) 0 (n+2)) (S++x0::⟨n+1,some (.arr q sz (r0::(rs++[r])))⟩::T):=by
 subst hn;rw[ll,iD,cT,cE,iS,vf];simp only[a_,aH,bz,mc,me,aS];simp[dw];intro _;omega
theorem Vd{S T:ae}{x0 x1 x2 x3:AL.Obj}{n:Nat}{q:TypeId}{sz:Nat}{r0 r:List V}{rs:List (List V)}{K:V→ae→Prop}(hn:rs.length=n)(h:n<1000000):
 kj q sz (.cU (S.length+4) n 0 (n+1)) (some (sz,[r])) (S++x0::x1::x2::x3::⟨n,some (.arr q sz (r0::rs))⟩::T) K=K (.cU (S.length+4) (n+1) 0 (n+2)) (S++x0::x1::x2::x3::⟨n+1,some (.arr q sz (r0::(rs++[r])))⟩::T):=by
 subst hn;rw[ll,iD,cT,cT,cT,cT,cE,iS,vf];simp only[a_,aH,bz,mc,me,aS];simp[dw];intro _;omega
theorem Vc{S T:ae}{x0 x1 x2 x3 x4:AL.Obj}{n:Nat}{q:TypeId}{sz:Nat}{r0 r:List V}{rs:List (List V)}{K:V→ae→Prop}(hn:rs.length=n)(h:n<1000000):
 kj q sz (.cU (S.length+5) n 0 (n+1)) (some (sz,[r])) (S++x0::x1::x2::x3::x4::⟨n,some (.arr q sz (r0::rs))⟩::T) K=K (.cU (S.length+5) (n+1) 0 (n+2)) (S++x0::x1::x2::x3::x4::⟨n+1,some (.arr q sz (r0::(rs++[r])))⟩::T):=by
 subst hn;rw[ll,iD,cT,cT,cT,cT,cT,cE,iS,vf];simp only[a_,aH,bz,mc,me,aS];simp[dw];intro _;omega
theorem ak.VL{f:FuncId}{args:List V}{S:ae}{v v1:V}(h:ak Tryz.prog f args S fun r S'=>r=v∧S'=S)(hf:jv S→jd S S v v1):ak Tryz.prog f args S fun r S'=>r=v1∧S'=S:=by
 refine⟨h.1,fun ρ w us hi hv=>(h.2 ρ w us hi hv).mono fun en w' ⟨dn,S',r,u,h1,h2,h3,h4,h5⟩=>?_⟩;obtain⟨rfl,rfl⟩:=h5;have hn:=h3.adu;exact⟨dn,S',v1,u,h1,(hf hn).rel hn.self h3 h2,h3,h4,rfl,rfl⟩
theorem Pr{S T:ae}(hn:jv S){v aI:Nat}{x:Option eR}{t:TypeId}{sz:Nat}{rows:List (List V)}(hr:∀r∈rows,r.length=sz∧V.bQ r=true):mV (S++⟨v,x⟩::⟨aI,some (.arr t sz rows)⟩::T) (S++⟨v,none⟩::⟨aI,some (.arr t sz rows)⟩::[]):=
 hn.Dk (L:=_::_::T) (L1:=[_,_]) ⟨rfl,trivial,rfl,⟨_,rfl,.bX hr⟩,Dj⟩
theorem mI(l:List bS):∀r∈l.map eW,r.length=1∧V.bQ r=true:=fun r hr=>by
 obtain⟨x,_,rfl⟩:=List.mem_map.1 hr;exact⟨rfl,rfl⟩
theorem o5(p:fO)(l:List gv):l≠[]→(cF p l).length=l.length+1:=by
 cases l with
 |nil=>exact fun h=>absurd rfl h
 |cons w r=>intro _;simp[cF]
theorem wJ(p:fO)(hp:p.1.length≤1000)(l:List gv)(hl:l.length≤8)(S:ae):ak Tryz.prog 20 [dV p,.sl 8 (l.map cR)] S fun v S'=>v= .sl 1 ((cF p l).map eW)∧S'=S:=by
 refine ak.bp Tryz.func20 XI fun hn=>?_;refine ak.fin Tryz.func20 XI (U rfl) fun σ b_=>?_;have cz:=fun c S=>Ml.F2 p c S (by omega);simp only[dV]at cz;simp(disch:=first|omega|(simp only[ai];omega)) only[Y7,dV,aj,↓eA,eB,aq,seval];obtain⟨w0,Kt⟩:∃w0:gv,∀w r,l=w::r→w0=w:=by
  cases l with
  |nil=>exact⟨⟨⟨[],0,0,[],[],0,0⟩,[]⟩,fun w r h=>by cases h⟩
  |cons w r=>exact⟨w,fun w' r' h=>by cases h;rfl⟩
 refine dm (ι:=Nat) (fun i=>match i with|0=>[(2,.bK [.sl 5 (p.1.map dG),.sl 3 (p.2.map cZ)]),(5,.aM),(8,.sl 8 (l.map cR)),(9,.int .i64 l.length),(10,.int .i64 (0:Nat))]|j+1=>[(2,.bK [.sl 5 (p.1.map dG),.sl 3 (p.2.map cZ)]),(5,.cU (S.length+1) (j+1) 0 (j+2)),(8,.sl 8 (l.map cR)),(9,.int .i64 l.length),(10,.int .i64 ((j+1:Nat):Int))])
  (fun i=>match i with|0=>S|j+1=>S++⟨0,none⟩::⟨j+1,some (.arr 9 1 (eW (Ml.dS p.1 w0.s.f)::((l.take (j+1)).map fun w=>eW (Ml.dS p.1 w.s.t))))⟩::[]) (fun i=>i≤l.length) (fun i=>l.length-i) (fun i hi=>by rw[b_];cases i<;>simp) 0 (az _) (.inl ⟨?_,rfl⟩) ?_
 ·simp only[↓eA,eB,aq,seval];try rfl
 rintro i hi;cases hc:l[i]? with
 |none=>
  have eh:l.length≤i:=List.getElem?_eq_none_iff.1 hc;have aR:¬((i:Int)<l.length):=by omega
  have sC:i=l.length:=by omega
  cases i with
  |zero=>
   have OS:l=[]:=List.length_eq_zero_iff.1 sC.symm;have lP:¬((0:Int)<l.length):=by omega
   simp(disch:=first|omega|(simp only[ai];omega)) only[dF lP,aj,↓eA,eB,aq,seval];refine⟨.sl 1 ((cF p l).map eW),S,hn.self,?_,ah _,rfl,rfl⟩;rw[OS];exact .nil
  |succ j=>
   simp(disch:=first|omega|(simp only[ai];omega)) only[dF aR,aj,↓eA,eB,aq,seval];have l8:cF p l=Ml.dS p.1 w0.s.f::(l.take (j+1)).map fun w=>Ml.dS p.1 w.s.t:=by
    cases l with
    |nil=>simp at sC
    |cons w r=>rw[Kt w r rfl,bh (by omega),cF]
   have qu:=mI (cF p l);have lO:(cF p l).map eW=eW (Ml.dS p.1 w0.s.f)::((l.take (j+1)).map fun w=>eW (Ml.dS p.1 w.s.t)):=by rw[l8,bd,fP];rfl
   have hlen:=o5 p l (by intro h;rw[h]at sC;simp at sC);rw[lO]at qu;refine⟨.sl 1 ((cF p l).map eW),S,hn.dO _,?_,ah _,rfl,rfl⟩;rw[lO];refine .sl (t:=9) (by omega) (by rw[iD,cT,cE]) (by simp;omega) ?_;exact qu
 |some y=>
  have cK:=(List.getElem?_eq_some_iff.1 hc).1;have aR:((i:Int)<l.length):=by omega
  have cN:(i:Int)+1=((i+1:Nat):Int):=by omega
  cases i with
  |zero=>
   have hy:w0=y:=by
    cases l with
    |nil=>simp at hc
    |cons w r=>simp only[dL,aa]at hc;rw[Kt w r rfl,hc]
   subst hy;have xl:(l.take (0+1)).map (fun w=>eW (Ml.dS p.1 w.s.t))=[eW (Ml.dS p.1 w0.s.t)]:=by rw[gy hc];rfl
   obtain⟨⟨s1,s2,s3,s4,s5,s6,s7⟩,s8⟩:=w0;have lP:((0:Int)<l.length):=by omega
   simp(disch:=first|omega|(simp only[ai];omega)) only[dT lP,hc,cR,gl,aj,↓eA,eB,aq,seval];refine(cz _ _).then ?_
   simp(disch:=first|omega|(simp only[ai];omega)) only[dw,cR,gl,hc,aj,↓eA,eB,aq,seval];refine(cz _ _).then ?_
   simp(disch:=first|omega|(simp only[ai];omega)) only[dw,wrap_i64,cN,aj,↓eA,eB,aq,seval];refine⟨0+1,by omega,by omega,?_⟩;simp only[xl];exact dt (Pr hn (mI [_,_])) (by simp only[↓eA,eB,aq,seval];try rfl) (by simp[V.under,V.bI])
  |succ j=>
   have xl:(l.take (j+1+1)).map (fun w=>eW (Ml.dS p.1 w.s.t))=(l.take (j+1)).map (fun w=>eW (Ml.dS p.1 w.s.t))++[eW (Ml.dS p.1 y.s.t)]:=by rw[gy hc];simp
   have oV:((l.take (j+1)).map (fun w=>eW (Ml.dS p.1 w.s.t))).length=j+1:=by simp;omega
   have h0:¬((j+1:Nat):Int)=0:=by omega
   obtain⟨⟨s1,s2,s3,s4,s5,s6,s7⟩,s8⟩:=y;simp(disch:=first|omega|(simp only[ai];omega)) only[dT aR,dF h0,hc,cR,gl,aj,↓eA,eB,aq,seval];refine(cz _ _).then ?_
   simp(disch:=first|omega|(simp only[ai];omega)) only[wrap_i64,cN,Ve oV (by omega),aj,↓eA,eB,aq,seval];refine⟨j+1+1,by omega,by omega,?_⟩;simp only[xl];have qu:=mI (Ml.dS p.1 w0.s.f::((l.take (j+1)).map (fun w=>Ml.dS p.1 w.s.t)++[Ml.dS p.1 s5]));simp only[bd,bF,fP,bY]at qu;exact dt (Pr hn qu) (by simp only[↓eA,eB,aq,seval];try rfl) (by simp[V.under,V.bI])
theorem rY(p:fO)(hp:p.1.length≤1000)(l:List gv)(hl:l.length≤8)(S:ae):ak Tryz.prog 173 [dV p,.sl 8 (l.map cR)] S fun v S'=>v= .sl 1 ((cF p l).map eW)∧S'=S:=by
 refine ak.bp Tryz.func173 XA fun hn=>?_;refine ak.fin Tryz.func173 XA (U rfl) fun σ b_=>?_;have cz:=fun c S=>Ml.zW p c S (by omega);simp only[dV]at cz;simp(disch:=first|omega|(simp only[ai];omega)) only[Y1,dV,aj,↓eA,eB,aq,seval];obtain⟨w0,Kt⟩:∃w0:gv,∀w r,l=w::r→w0=w:=by
  cases l with
  |nil=>exact⟨⟨⟨[],0,0,[],[],0,0⟩,[]⟩,fun w r h=>by cases h⟩
  |cons w r=>exact⟨w,fun w' r' h=>by cases h;rfl⟩
 refine dm (ι:=Nat) (fun i=>match i with|0=>[(1,.sl 8 (l.map cR)),(2,.bK [.sl 5 (p.1.map dG),.sl 3 (p.2.map cZ)]),(5,.aM),(6,.int .i64 (0:Nat))]|j+1=>[(1,.sl 8 (l.map cR)),(2,.bK [.sl 5 (p.1.map dG),.sl 3 (p.2.map cZ)]),(5,.cU S.length (j+1) 0 (j+2)),(6,.int .i64 ((j+1:Nat):Int))])
  (fun i=>match i with|0=>S|j+1=>S++⟨j+1,some (.arr 9 1 (eW (Ml.dS p.1 w0.s.f)::((l.take (j+1)).map fun w=>eW (Ml.dS p.1 w.s.t))))⟩::[]) (fun i=>i≤l.length) (fun i=>l.length-i) (fun i hi=>by rw[b_];cases i<;>simp) 0 (az _) (.inl ⟨?_,rfl⟩) ?_
 ·simp only[↓eA,eB,aq,seval];try rfl
 rintro i hi;cases hc:l[i]? with
 |none=>
  have eh:l.length≤i:=List.getElem?_eq_none_iff.1 hc;have aR:¬((i:Int)<l.length):=by omega
  have sC:i=l.length:=by omega
  cases i with
  |zero=>
   have OS:l=[]:=List.length_eq_zero_iff.1 sC.symm;have lP:¬((0:Int)<l.length):=by omega
   simp(disch:=first|omega|(simp only[ai];omega)) only[dF lP,aj,↓eA,eB,aq,seval];refine⟨.sl 1 ((cF p l).map eW),S,hn.self,?_,ah _,rfl,rfl⟩;rw[OS];exact .nil
  |succ j=>
   simp(disch:=first|omega|(simp only[ai];omega)) only[dF aR,aj,↓eA,eB,aq,seval];have l8:cF p l=Ml.dS p.1 w0.s.f::(l.take (j+1)).map fun w=>Ml.dS p.1 w.s.t:=by
    cases l with
    |nil=>simp at sC
    |cons w r=>rw[Kt w r rfl,bh (by omega),cF]
   have qu:=mI (cF p l);have lO:(cF p l).map eW=eW (Ml.dS p.1 w0.s.f)::((l.take (j+1)).map fun w=>eW (Ml.dS p.1 w.s.t)):=by rw[l8,bd,fP];rfl
   have hlen:=o5 p l (by intro h;rw[h]at sC;simp at sC);rw[lO]at qu;refine⟨.sl 1 ((cF p l).map eW),S,hn.dO _,?_,ah _,rfl,rfl⟩;rw[lO];refine .sl (t:=9) (ah _) (by rw[dP,cE]) (by simp;omega) ?_;exact qu
 |some y=>
  have cK:=(List.getElem?_eq_some_iff.1 hc).1;have aR:((i:Int)<l.length):=by omega
  have cN:(i:Int)+1=((i+1:Nat):Int):=by omega
  cases i with
  |zero=>
   have hy:w0=y:=by
    cases l with
    |nil=>simp at hc
    |cons w r=>simp only[dL,aa]at hc;rw[Kt w r rfl,hc]
   subst hy;have xl:(l.take (0+1)).map (fun w=>eW (Ml.dS p.1 w.s.t))=[eW (Ml.dS p.1 w0.s.t)]:=by rw[gy hc];rfl
   obtain⟨⟨s1,s2,s3,s4,s5,s6,s7⟩,s8⟩:=w0;have lP:((0:Int)<l.length):=by omega
   simp(disch:=first|omega|(simp only[ai];omega)) only[dT lP,hc,cR,gl,aj,↓eA,eB,aq,seval];refine(cz _ _).then ?_
   simp(disch:=first|omega|(simp only[ai];omega)) only[dw,cR,gl,hc,aj,↓eA,eB,aq,seval];refine(cz _ _).then ?_
   simp(disch:=first|omega|(simp only[ai];omega)) only[dw,wrap_i64,cN,aj,↓eA,eB,aq,seval];refine⟨0+1,by omega,by omega,?_⟩;simp only[xl];exact .inl ⟨by simp only[↓eA,eB,aq,seval];try rfl,rfl⟩
  |succ j=>
   have xl:(l.take (j+1+1)).map (fun w=>eW (Ml.dS p.1 w.s.t))=(l.take (j+1)).map (fun w=>eW (Ml.dS p.1 w.s.t))++[eW (Ml.dS p.1 y.s.t)]:=by rw[gy hc];simp
   have oV:((l.take (j+1)).map (fun w=>eW (Ml.dS p.1 w.s.t))).length=j+1:=by simp;omega
   have h0:¬((j+1:Nat):Int)=0:=by omega
   obtain⟨⟨s1,s2,s3,s4,s5,s6,s7⟩,s8⟩:=y;simp(disch:=first|omega|(simp only[ai];omega)) only[dT aR,dF h0,hc,cR,gl,aj,↓eA,eB,aq,seval];refine(cz _ _).then ?_
   simp(disch:=first|omega|(simp only[ai];omega)) only[wrap_i64,cN,Vf oV (by omega),aj,↓eA,eB,aq,seval];refine⟨j+1+1,by omega,by omega,?_⟩;simp only[xl];exact .inl ⟨by simp only[↓eA,eB,aq,seval];try rfl,rfl⟩
end Go.Proofs.YtfgkgmmnldocaaaGreatDoor
namespace Go.Proofs.YtfgkgmmnldocaaaGreatDoor
open Go Go.AL
variable[Go.AL.Mode][Go.AL.bR]
theorem aeP(c:b8)(t:A4)(S:ae)(h:ak Tryz.prog 54 [.agg c.row,.agg (dN t)] S fun v S'=>v= .bool (c.holds t)∧S'=S):ak Tryz.prog 96 [.agg c.row,.bK (dN t)] S fun v S'=>v= .bool (c.holds t)∧S'=S:=by
 obtain⟨k,l,a,b,p,tx⟩:=c;refine ak.bW Tryz.func96 afw (U rfl) fun σ b_=>?_;simp only[b8.row,dN]at h;simp(disch:=omega) only[YD,b8.row,dN,aj,↓eA,eB,aq,seval];refine h.then ?_
 simp(disch:=omega) only[aj,↓eA,eB,aq,seval]
theorem aeO(c:b8)(t:A4)(S:ae)(h:ak Tryz.prog 54 [.agg c.row,.agg (dN t)] S fun v S'=>v= .bool (c.holds t)∧S'=S):ak Tryz.prog 97 [.agg c.row,.bK (dN t)] S fun v S'=>v= .bool (!c.holds t)∧S'=S:=by
 obtain⟨k,l,a,b,p,tx⟩:=c;refine ak.bW Tryz.func97 afv (U rfl) fun σ b_=>?_;simp only[b8.row,dN]at h;simp(disch:=omega) only[YC,b8.row,dN,aj,↓eA,eB,aq,seval];refine h.then ?_
 simp(disch:=omega) only[aj,↓eA,eB,aq,seval]
theorem yD{k:Int}(h1:1≤k)(h2:k≤14):k=1∨k=2∨k=3∨k=4∨k=5∨k=6∨k=7∨k=8∨k=9∨k=10∨k=11∨k=12∨k=13∨k=14:=by omega
theorem Uf(t:A4):∀c:b8,c.right→∀S:ae,ak Tryz.prog 54 [.agg c.row,.agg (dN t)] S fun v S'=>v= .bool (c.holds t)∧S'=S:=by
 refine b8.ind fun k l a b p tx ih hr S=>?_;obtain⟨cN,CZ,hk4,Kx⟩:=hr;have Ea:∀c∈l,∀S:ae,ak Tryz.prog 54 [.agg c.row,.agg (dN t)] S fun v S'=>v= .bool (c.holds t)∧S'=S:=fun c hc S=>ih c hc ((b8.nG l).1 Kx c hc) S;have g1:=fun S=>QS l (b8.holds t) 96 [.bK (dN t)] S fun x hx=>aeP x t S (Ea x hx S);have g2:=fun S=>QS l (fun c=>!b8.holds t c) 97 [.bK (dN t)] S fun x hx=>aeO x t S (Ea x hx S);have g12:=fun S=>ab9 t.aag (fun n=>!(decide (a≤n)&&decide (n≤b))) 102 [.bK (b8.mk k l a b p tx).row] S fun x _=>aah (.mk k l a b p tx) a b p tx k l x S;simp only[dN,←b8.fI]at g1 g2;simp only[b8.row,dN]at g12;rw[b8.holds];clear ih Ea;refine ak.bW Tryz.func54 Xj (U rfl) fun σ b_=>?_;have gh:=aey p;simp only[nI]at gh;rcases yD cN CZ with rfl|rfl|rfl|rfl|rfl|rfl|rfl|rfl|rfl|rfl|rfl|rfl|rfl|rfl<;>clear cN CZ hk4
 ·simp(disch:=omega) only[kS,b8.row,dN,aj,↓eA,eB,aq,seval]
 ·simp(disch:=omega) only[kS,b8.row,dN,aj,↓eA,eB,aq,seval];refine(g2 S).then ?_
  simp(disch:=omega) only[List.not_any_eq_all_not,Bool.not_not,b8.rF,aj,↓eA,eB,aq,seval]
 ·simp(disch:=omega) only[kS,b8.row,dN,aj,↓eA,eB,aq,seval];refine(g1 S).then ?_
  simp(disch:=omega) only[b8.AV,aj,↓eA,eB,aq,seval]
 ·simp(disch:=omega) only[kS,b8.row,dN,aj,↓eA,eB,aq,seval];refine(g2 S).then ?_
  simp(disch:=omega) only[List.not_all_eq_any_not,b8.rF,aj,↓eA,eB,aq,seval]
 ·simp(disch:=omega) only[kS,b8.row,dN,aj,↓eA,eB,aq,seval];refine(gh _ S).then ?_
  simp(disch:=omega) only[aj,↓eA,eB,aq,seval]
 ·simp(disch:=omega) only[kS,b8.row,dN,aj,↓eA,eB,aq,seval];refine(gh _ S).then ?_
  simp(disch:=omega) only[aj,↓eA,eB,aq,seval]
 ·simp(disch:=omega) only[kS,b8.row,dN,aj,↓eA,eB,aq,seval]
 ·cases h1:decide (a≤b)<;>cases h2:decide (a≤t.min)<;>simp(disch:=omega) only[kS,b8.row,dN,h1,h2,aj,↓eA,eB,aq,seval];all_goals first|(rw[aK (gw h1)];done)|(rw[aK (gw h1)];simp only[aX,aO])|(rw[aC (jG h1)];simp only[eS,cQ])
 ·simp(disch:=omega) only[kS,b8.row,dN,aj,↓eA,eB,aq,seval]
 ·simp(disch:=omega) only[kS,b8.row,dN,aj,↓eA,eB,aq,seval]
 ·simp(disch:=omega) only[kS,b8.row,dN,aj,↓eA,eB,aq,seval];refine(Jb _ _ S).then ?_
  simp(disch:=omega) only[aj,↓eA,eB,aq,seval]
 ·simp(disch:=omega) only[kS,b8.row,dN,aj,↓eA,eB,aq,seval];refine(g12 S).then ?_
  simp(disch:=omega) only[List.not_any_eq_all_not,Bool.not_not,aj,↓eA,eB,aq,seval]
 ·simp(disch:=omega) only[kS,b8.row,dN,aj,↓eA,eB,aq,seval];refine(Jb _ _ S).then ?_
  simp(disch:=omega) only[aj,↓eA,eB,aq,seval]
 ·simp(disch:=omega) only[kS,b8.row,dN,aj,↓eA,eB,aq,seval];refine(FD _ _ S).then ?_
  simp(disch:=omega) only[aj,↓eA,eB,aq,seval]
theorem AH(t:A4)(l:List b8)(h:∀c∈l,∀S:ae,ak Tryz.prog 199 [.agg c.row,.agg (dN t)] S fun v S'=>v= .bool (c.holds t)∧S'=S)(S:ae):
 ak Tryz.prog 222 [.sl 8 (l.map b8.row),.agg (dN t)] S fun v S'=>v= .int .i64 ((l.countP (b8.holds t):Nat))∧S'=S:=by
 refine lD (fun hm=>?_) ⟨Tryz.f222,Tryz.func222,by kernel_rfl,by kernel_rfl⟩;rw[aP]at hm;have Sv:=mx _ hm;refine ak.bW Tryz.func222 afr (U rfl) fun σ b_=>?_;simp(disch:=omega) only[Yz,dN,aj,↓eA,eB,aq,seval];refine cH (ι:=Nat) (fun k=>[(0,.sl 8 (l.map b8.row)),(3,.bK (dN t)),(5,.int .i64 ((l.take k).countP (b8.holds t):Nat)),(6,.int .i64 (k:Nat))]) (fun _=>S) (fun k=>k≤l.length) (fun k=>l.length-k) 0 (az _) ?_ rfl ?_
 ·simp only[dN,List.countP_nil,Int.natCast_zero,↓eA,eB,aq,seval];try rfl
 rintro k hk;cases hc:l[k]? with
 |none=>
  have eh:l.length≤k:=List.getElem?_eq_none_iff.1 hc;have aR:¬((k:Int)<l.length):=by omega
  simp(disch:=omega) only[dF aR,bh eh,aj,↓eA,eB,aq,seval]
 |some y=>
  have cK:=(List.getElem?_eq_some_iff.1 hc).1;have aR:(k:Int)<l.length:=by omega
  have cN:(k:Int)+1=((k+1:Nat):Int):=by omega
  have hy:=h y (aB hc) S;have xl:(l.take (k+1)).countP (b8.holds t)=(l.take k).countP (b8.holds t)+if y.holds t then 1 else 0:=by
   rw[List.take_add_one,hc,List.countP_append];simp[List.countP_cons]
  have hle:(l.take k).countP (b8.holds t)≤k:=dU List.countP_le_length (by rw[bV];omega);generalize hz:y.holds t=z at hy xl;obtain⟨c1,c2,c3,c4,c5,c6⟩:=y;simp only[b8.row,dN]at hy;simp(disch:=omega) only[dT aR,hc,b8.row,dN,aj,↓eA,eB,aq,seval];refine hy.then ?_
  cases z with
  |false=>
   simp(disch:=omega) only[wrap_i64,cN,aj,↓eA,eB,aq,seval];exact⟨k+1,by omega,by omega,by rw[xl];exact⟨rfl,rfl⟩⟩
  |true=>
   have CZ:((l.take k).countP (b8.holds t):Int)+1=(((l.take k).countP (b8.holds t)+1:Nat):Int):=by omega
   simp(disch:=omega) only[wrap_i64,cN,CZ,aj,↓eA,eB,aq,seval];exact⟨k+1,by omega,by omega,by rw[xl];exact⟨rfl,rfl⟩⟩
theorem U2(q:b8→Bool)(l:List b8):decide (((l.countP q:Nat):Int)=((l.length:Nat):Int))=l.all q:=by
 rw[fR,aL,fB,Int.ofNat_inj,List.countP_eq_length]
theorem U1(q:b8→Bool)(l:List b8):decide ((0:Int)<((l.countP q:Nat):Int))=l.any q:=by
 rw[fR,aL,ib,←List.countP_pos_iff];omega
theorem U0(q:b8→Bool)(l:List b8)(h:l.length=1):decide (((l.countP q:Nat):Int)=0)=!l.all q:=by
 match l,h with
 |[x],_=>cases hx:q x<;>simp[hx]
theorem MZ(t:A4):∀c:b8,c.right→∀S:ae,ak Tryz.prog 199 [.agg c.row,.agg (dN t)] S fun v S'=>v= .bool (c.holds t)∧S'=S:=by
 refine b8.ind fun k l a b p tx ih hr S=>?_;obtain⟨cN,CZ,hk4,Kx⟩:=hr;have Ea:∀c∈l,∀S:ae,ak Tryz.prog 199 [.agg c.row,.agg (dN t)] S fun v S'=>v= .bool (c.holds t)∧S'=S:=fun c hc S=>ih c hc ((b8.nG l).1 Kx c hc) S;have g1:=fun S=>AH t l Ea S;simp only[dN,←b8.fI]at g1;rw[b8.holds];clear ih Ea;refine ak.bW Tryz.func199 Xi (U rfl) fun σ b_=>?_;have gh:=ZX p;simp only[nI]at gh;have Ao:(b8.rows l).length=l.length:=by rw[b8.fI,aP]
 rcases yD cN CZ with rfl|rfl|rfl|rfl|rfl|rfl|rfl|rfl|rfl|rfl|rfl|rfl|rfl|rfl<;>clear cN CZ
 ·simp(disch:=omega) only[kR,b8.row,dN,aj,↓eA,eB,aq,seval]
 ·simp(disch:=omega) only[kR,b8.row,dN,aj,↓eA,eB,aq,seval];refine qv.intro (g1 S) ?_;simp(disch:=omega) only[Ao,U2,b8.rF,aj,↓eA,eB,aq,seval]
 ·simp(disch:=omega) only[kR,b8.row,dN,aj,↓eA,eB,aq,seval];refine(g1 S).then ?_
  simp(disch:=omega) only[U1,b8.AV,aj,↓eA,eB,aq,seval]
 ·simp(disch:=omega) only[kR,b8.row,dN,aj,↓eA,eB,aq,seval];refine(g1 S).then ?_
  simp(disch:=omega) only[U0 _ _ (hk4 rfl),b8.rF,aj,↓eA,eB,aq,seval]
 ·simp(disch:=omega) only[kR,b8.row,dN,aj,↓eA,eB,aq,seval];refine(gh _ S).then ?_
  simp(disch:=omega) only[aj,↓eA,eB,aq,seval]
 ·simp(disch:=omega) only[kR,b8.row,dN,aj,↓eA,eB,aq,seval];refine(gh _ S).then ?_
  simp(disch:=omega) only[aj,↓eA,eB,aq,seval]
 ·simp(disch:=omega) only[kR,b8.row,dN,aj,↓eA,eB,aq,seval]
 ·cases h1:decide (a≤b)<;>cases h2:decide (a≤t.min)<;>simp(disch:=omega) only[kR,b8.row,dN,h1,h2,aj,↓eA,eB,aq,seval];all_goals first|(rw[aK (gw h1)];done)|(rw[aK (gw h1)];simp only[aX,aO])|(rw[aC (jG h1)];simp only[eS,cQ])
 ·simp(disch:=omega) only[kR,b8.row,dN,aj,↓eA,eB,aq,seval]
 ·simp(disch:=omega) only[kR,b8.row,dN,aj,↓eA,eB,aq,seval]
 ·simp(disch:=omega) only[kR,b8.row,dN,aj,↓eA,eB,aq,seval];refine(Bl _ _ S).then ?_
  simp(disch:=omega) only[aj,↓eA,eB,aq,seval]
 ·simp(disch:=omega) only[kR,b8.row,dN,aj,↓eA,eB,aq,seval];refine(K7 _ _ _ S).then ?_
  simp(disch:=omega) only[aj,↓eA,eB,aq,seval]
 ·simp(disch:=omega) only[kR,b8.row,dN,aj,↓eA,eB,aq,seval];refine(Bl _ _ S).then ?_
  simp(disch:=omega) only[aj,↓eA,eB,aq,seval]
 ·simp(disch:=omega) only[kR,b8.row,dN,aj,↓eA,eB,aq,seval];refine(q9 _ _ S).then ?_
  simp(disch:=omega) only[aj,↓eA,eB,aq,seval]
end Go.Proofs.YtfgkgmmnldocaaaGreatDoor
