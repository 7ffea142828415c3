/- Cn8 -/
import Derived.Test.YtfgkgmmnldocaaaGreatDoorZCn7
import Derived.Test.YtfgkgmmnldocaaaGreatDoorZCn6
set_option linter.unusedSectionVars false
set_option linter.unusedSimpArgs false
set_option linter.unusedVariables false
set_option maxHeartbeats 8000000
set_option maxRecDepth 20000
namespace Go.Proofs.YtfgkgmmnldocaaaGreatDoor
open Go Go.AL
variable[Go.AL.Mode][Go.AL.bR]
def ka(r:o9):Prop:=r.w.right∧∀q∈r.jb,0≤q.2∧q.2≤1000
structure Jm(t:gk):Prop where
 bE:t.bE.length≤19
 rules:t.rules.length≤1000
 cS:t.cS.length≤1000
 ok:∀r∈t.rules,ka r
theorem OO(t:A4)(S:ae):ak Tryz.prog 54 [.agg pJ.row,.agg (dN t)] S fun v S'=>v= .bool (pJ.holds t)∧S'=S:=by
 refine ak.bW Tryz.func54 Xj (U rfl) fun σ b_=>?_;have e:pJ.holds t=false:=by simp[pJ,b8.holds]
 rw[e];simp(disch:=first|omega|(simp only[ai];omega)) only[kS,pJ,b8.row,dN,aj,↓eA,eB,aq,seval]
theorem J0(t:A4)(S:ae):ak Tryz.prog 199 [.agg pJ.row,.agg (dN t)] S fun v S'=>v= .bool (pJ.holds t)∧S'=S:=by
 refine ak.bW Tryz.func199 Xi (U rfl) fun σ b_=>?_;have e:pJ.holds t=false:=by simp[pJ,b8.holds]
 rw[e];have h:=q9 [] t.ty;simp only[bY]at h;simp(disch:=first|omega|(simp only[ai];omega)) only[kR,pJ,b8.row,dN,aj,↓eA,eB,aq,seval];refine(h S).then ?_
 simp(disch:=first|omega|(simp only[ai];omega)) only[List.contains_nil,aj,↓eA,eB,aq,seval]
theorem uu{t:gk}(h:Jm t)(n:Int):(((fm t n).getD j5).w.right∨((fm t n).getD j5).w=pJ)∧∀q∈((fm t n).getD j5).jb,0≤q.2∧q.2≤1000:=by
 cases hf:fm t n with
 |some r=>
  have:=h.ok r (pI hf);exact⟨.inl this.1,this.2⟩
 |none=>exact⟨.inr rfl,fun q hq=>by simp[j5]at hq⟩
theorem ON(t:A4)(c:b8)(h:c.right∨c=pJ)(S:ae):ak Tryz.prog 54 [.agg c.row,.agg (dN t)] S fun v S'=>v= .bool (c.holds t)∧S'=S:=by
 rcases h with h|rfl
 ·exact Uf t c h S
 ·exact OO t S
theorem JZ(t:A4)(c:b8)(h:c.right∨c=pJ)(S:ae):ak Tryz.prog 199 [.agg c.row,.agg (dN t)] S fun v S'=>v= .bool (c.holds t)∧S'=S:=by
 rcases h with h|rfl
 ·exact MZ t c h S
 ·exact J0 t S
def DU(r:o9)(t:A4):Int:=if r.w.holds t then 0 else 20
theorem af'(r:o9)(h:r.w.right∨r.w=pJ)(t:A4)(S:ae):ak Tryz.prog 25 [.agg (cx r),.agg (dN t)] S fun v S'=>v= .int .i64 (DU r t)∧S'=S:=by
 refine ak.bW Tryz.func25 afA (U rfl) fun σ b_=>?_;have hh:=ON t r.w h S;unfold DU;generalize hz:r.w.holds t=z at hh;obtain⟨n0,⟨c1,c2,c3,c4,c5,c6⟩,cb,mn,m2,ch,rf,jb⟩:=r;simp only[b8.row,dN]at hh hz;simp(disch:=first|omega|(simp only[ai];omega)) only[YR,cx,b8.row,dN,hz,aj,↓eA,eB,aq,seval];refine hh.then ?_
 cases z<;>simp(disch:=first|omega|(simp only[ai];omega)) only[aQ,aZ,aV,aj,↓eA,eB,aq,seval]
theorem Z1(r:o9)(h:r.w.right∨r.w=pJ)(t:A4)(S:ae):ak Tryz.prog 176 [.agg (cx r),.agg (dN t)] S fun v S'=>v= .int .i64 (DU r t)∧S'=S:=by
 refine ak.bW Tryz.func176 afz (U rfl) fun σ b_=>?_;have hh:=JZ t r.w h S;unfold DU;generalize hz:r.w.holds t=z at hh;obtain⟨n0,⟨c1,c2,c3,c4,c5,c6⟩,cb,mn,m2,ch,rf,jb⟩:=r;simp only[b8.row,dN]at hh hz;simp(disch:=first|omega|(simp only[ai];omega)) only[YP,cx,b8.row,dN,hz,aj,↓eA,eB,aq,seval];refine hh.then ?_
 cases z<;>simp(disch:=first|omega|(simp only[ai];omega)) only[aQ,aZ,aV,aj,↓eA,eB,aq,seval]
def zFr:Fr:=⟨[],[],[],[],[],false,0,0,0⟩
def jW(t:gk)(at_:Int)(l:List gv):Option Fr:=if l=[]∨at_<0 then none else t.bE[at_.toNat]?
theorem Pu(t:gk)(tx:List (List V))(h:Jm t)(at_:Int)(l:List gv)(S:ae):ak Tryz.prog 19 [.agg (b9 t tx),.int .i64 at_,.sl 8 (l.map cR)] S fun v S'=>v= .dI [.agg (fK ((jW t at_ l).getD zFr)),.bool (jW t at_ l).isSome]∧S'=S:=by
 refine ak.bp Tryz.func19 XG fun hn=>?_;refine ak.fin Tryz.func19 XG (U rfl) fun σ b_=>?_;by_cases h1:((l.length:Nat):Int)=0
 ·have e:jW t at_ l=none:=aK (.inl (List.length_eq_zero_iff.1 (by omega)));rw[e];simp(disch:=first|omega|(simp only[ai];omega)) only[D2,b9,dT h1,aj,↓eA,eB,aq,seval];exact⟨_,S,hn.dO _,.bX rfl,ah _,rfl,rfl⟩
 by_cases h2:at_<0
 ·have e:jW t at_ l=none:=aK (.inr h2);rw[e];simp(disch:=first|omega|(simp only[ai];omega)) only[D2,b9,dF h1,dT h2,aj,↓eA,eB,aq,seval];exact⟨_,S,hn.dO _,.bX rfl,ah _,rfl,rfl⟩
 have e:jW t at_ l=t.bE[at_.toNat]?:=aC (by
  rintro(h|h)
  ·rw[h]at h1;exact h1 rfl
  ·exact h2 h)
 rw[e];obtain⟨n,rfl⟩:∃n:Nat,at_=(n:Nat):=⟨at_.toNat,by omega⟩;rw[cn];cases hc:t.bE[n]? with
 |none=>
  have eh:t.bE.length≤n:=List.getElem?_eq_none_iff.1 hc;have h3:((t.bE.length:Nat):Int)≤(n:Nat):=by omega
  simp(disch:=first|omega|(simp only[ai];omega)) only[D2,b9,dF h1,dF h2,dT h3,aj,↓eA,eB,aq,seval];exact⟨_,S,hn.dO _,.bX rfl,ah _,rfl,rfl⟩
 |some a=>
  have aR:=(List.getElem?_eq_some_iff.1 hc).1;have h3:¬((t.bE.length:Nat):Int)≤(n:Nat):=by omega
  simp(disch:=first|omega|(simp only[ai];omega)) only[D2,b9,dF h1,dF h2,dF h3,hc,fK,aj,↓eA,eB,aq,seval];exact⟨_,S,hn.dO _,.bX rfl,ah _,rfl,rfl⟩
theorem abc(f:Fr)(l:List gv)(hl:l.length≤1000)(cs:List bS)(l8:cs≠[])(kv:cs.length≤1000)(S:ae):ak Tryz.prog 21 [.agg (fK f),.sl 8 (l.map cR),.sl 1 (cs.map eW)] S fun v S'=>v= .bool (tH f l cs)∧S'=S:=by
 refine ak.bp Tryz.func21 XE fun hn=>?_;refine ak.fin Tryz.func21 XE (U rfl) fun σ b_=>?_;have vW:0<cs.length:=List.length_pos_iff.2 l8;have ha:cs[0]?=some cs[0]:=ax vW;have hb:cs[cs.length-1]?=some cs[cs.length-1]:=ax (by omega);generalize cs[0]=ca at ha;generalize cs[cs.length-1]=cb at hb;have he:tH f l cs=((l.all fun w=>decide (w.s.c=f.c))&&(decide (ca=f.f)&&decide (cb=f.t))):=by
  unfold tH;rw[List.head?_eq_getElem?,ha,List.getLast?_eq_getElem?,hb];simp only[aa]
 rw[he];have Uh:((cs.length:Nat):Int)-1=((cs.length-1:Nat):Int):=by omega
 simp(disch:=first|omega|(simp only[ai];omega)) only[Y5,fK,aj,↓eA,eB,aq,seval];refine dm (ι:=Nat) (fun k=>[(2,.sl 1 (cs.map eW)),(3,.bK (fK f)),(9,.sl 8 (l.map cR)),(10,.int .i64 l.length),(11,.int .i64 (k:Nat))]) (fun _=>S) (fun k=>k≤l.length∧(l.all fun w=>decide (w.s.c=f.c))=((l.drop k).all fun w=>decide (w.s.c=f.c))) (fun k=>l.length-k) (fun i hi=>by rw[b_];exact ah _) 0 ⟨az _,rfl⟩ (.inl ⟨?_,rfl⟩) ?_
 ·simp only[fK,↓eA,eB,aq,seval];try rfl
 rintro k ⟨hk,gK⟩;cases hc:l[k]? with
 |none=>
  have eh:l.length≤k:=List.getElem?_eq_none_iff.1 hc;have aR:¬((k:Int)<l.length):=by omega
  rw[bO eh,gx]at gK;rw[gK,aX];cases h1:decide (ca=f.f)<;>cases h2:decide (cb=f.t)<;>simp(disch:=first|omega|(simp only[ai];omega)) only[dF aR,fK,eW,ha,hb,h1,h2,Uh,wrap_i64,aj,↓eA,eB,aq,seval];all_goals exact⟨_,S,hn.self,.bX rfl,ah _,rfl,rfl⟩
 |some y=>
  have cK:=(List.getElem?_eq_some_iff.1 hc).1;have aR:(k:Int)<l.length:=by omega
  have cN:(k:Int)+1=((k+1:Nat):Int):=by omega
  rw[fV hc,gr]at gK;cases h1:decide (y.s.c=f.c)<;>rw[h1]at gK<;>simp(disch:=first|omega|(simp only[ai];omega)) only[dT aR,hc,h1,fK,cR,gl,wrap_i64,cN,aj,↓eA,eB,aq,seval]
  ·rw[gK];exact⟨_,S,hn.dO _,.bX rfl,ah _,by simp only[aO],rfl⟩
  ·exact⟨k+1,⟨by omega,by simpa only[aX]using gK⟩,by omega,dt (hn.dO _) (by simp only[fK,↓eA,eB,aq,seval];try rfl) (by simp[V.under,V.bI])⟩
theorem Zy(f:Fr)(w:gv)(S:ae):ak Tryz.prog 23 [.agg (cR w),.bK (fK f)] S fun v S'=>v= .bool (decide (w.cl≠f.cl))∧S'=S:=by
 refine ak.bW Tryz.func23 afL (U rfl) fun σ b_=>?_;simp(disch:=first|omega|(simp only[ai];omega)) only[Y4,fK,cR,gl,decide_not,ne_eq,aj,↓eA,eB,aq,seval]
theorem VU(p:fO)(cs:List bS)(m:Int)(S:ae)(hl:p.1.length≤1000)(hd:p.2.length≤1000)(hc:cs.length≤1000):ak Tryz.prog 29 [dV p,.sl 1 (cs.map eW),.int .i64 m] S fun r S'=>r= .dI [.int .i64 (Ml.Cf p cs m).1,.int .i64 (Ml.Cf p cs m).2]∧S'=S:=Ml.aaf p cs m S (by omega) hd (by omega)
theorem MW(p:fO)(cs:List bS)(m:Int)(S:ae)(hl:p.1.length≤1000)(hd:p.2.length≤1000)(hc:cs.length≤1000):ak Tryz.prog 172 [dV p,.sl 1 (cs.map eW),.int .i64 m] S fun r S'=>r= .dI [.int .i64 (Ml.Cf p cs m).1,.int .i64 (Ml.Cf p cs m).2]∧S'=S:=Ml.Tn p cs m S (by omega) hd (by omega)
structure D7(p:fO):Prop where
 xE:p.1.length≤1000
 UT:p.2.length≤1000
 zns:mH p
theorem LL(p:fO)(hp:D7 p)(t:gk)(tx:List (List V))(h:Jm t)(f:Fr)(cs:List bS)(hc:cs.length≤1000)(S:ae):ak Tryz.prog 27 [dV p,.agg (b9 t tx),.agg (fK f),.sl 1 (cs.map eW)] S fun v S'=>v= .int .i64 (Js p t f cs)∧S'=S:=by
 refine ak.bp Tryz.func27 XD fun hn=>?_;refine ak.fin Tryz.func27 XD (U rfl) fun σ b_=>?_;have tr:=fun S=>GP t tx (by have:=h.cS;omega) f.gu S;unfold Js;generalize hr:(gN t f.gu).getD lB=r at tr;have al:=fun S=>QW r cs hc S;have Ab:=fun S=>VU p cs r.mi S hp.xE hp.UT hc;simp only[b9,E5,hr,dV,eP]at tr al Ab;by_cases h0:f.gu=0
 ·simp(disch:=first|omega|(simp only[ai];omega)) only[Q_,dV,b9,fK,dT h0,aK h0,aj,↓eA,eB,aq,seval];exact⟨_,S,hn.self,.bX rfl,ah _,rfl,rfl⟩
 simp(disch:=first|omega|(simp only[ai];omega)) only[Q_,dV,b9,fK,dF h0,aC h0,aj,↓eA,eB,aq,seval];refine(tr _).then ?_
 simp(disch:=first|omega|(simp only[ai];omega)) only[eP,aj,↓eA,eB,aq,seval];refine(al _).then ?_
 cases ha:jg r cs with
 |false=>
  simp(disch:=first|omega|(simp only[ai];omega)) only[aQ,aj,↓eA,eB,aq,seval];exact⟨_,S,hn.dO _,.bX rfl,ah _,rfl,rfl⟩
 |true=>
  by_cases hm:r.mi≤0
  ·simp(disch:=first|omega|(simp only[ai];omega)) only[dT hm,aK hm,eD,aZ,aj,↓eA,eB,aq,seval];exact⟨_,S,hn.dO _,.bX rfl,ah _,rfl,rfl⟩
  ·simp(disch:=first|omega|(simp only[ai];omega)) only[dF hm,aC hm,eD,aZ,aj,↓eA,eB,aq,seval];refine(Ab _).then ?_
   simp(disch:=first|omega|(simp only[ai];omega)) only[aj,↓eA,eB,aq,seval];exact⟨_,S,hn.dO _,.bX rfl,ah _,rfl,rfl⟩
theorem Bm{p:fO}{t:gk}{at_:Int}{l:List gv}{ty:bS}{cj:Int}:uT p t at_ l ty cj=match jW t at_ l with
 |none=>2
 |some f=>if tH f l (cF p l)=false then 19 else if(l.any fun w=>decide (w.cl≠f.cl))then 16
  else if b8.holds (im p l ty cj) ((fm t f.iv).getD j5).w=false then 20 else Js p t f (cF p l):=by
 unfold uT jW;split<;>rfl
theorem Jc{p:fO}{t:gk}{at_:Int}{l:List gv}{ty:bS}:gg p t at_ l ty=match jW t at_ l with
 |none=>(0,2)
 |some f=>if(iF p t f l).2≠0 then(0,(iF p t f l).2)else if(Ml.fZ f.am (iF p t f l).1).2≠0 then(0,(Ml.fZ f.am (iF p t f l).1).2)
  else vu ((fm t f.iv).getD j5) ty (Ml.fZ f.am (iF p t f l).1).1:=by
 unfold gg jW;split<;>rfl
theorem Dl{t:gk}{at_:Int}{l:List gv}{f:Fr}(h:jW t at_ l=some f):l≠[]∧0≤at_∧t.bE[at_.toNat]?=some f:=by
 unfold jW at h;split at h
 ·cases h
 ·rename_i hh;exact⟨fun e=>hh (.inl e),by have:=fun e=>hh (.inr e);omega,h⟩
theorem Vu(p:fO)(hp:D7 p)(t:gk)(tx:List (List V))(h:Jm t)(at_:Int)(l:List gv)(hl:l.length≤8)(hw:Se l)(ty:bS)(cj:Int)(S:ae):
 ak Tryz.prog 6 [dV p,.agg (b9 t tx),.int .i64 at_,.sl 8 (l.map cR),.str ty,.int .i64 cj] S fun v S'=>v= .int .i64 (uT p t at_ l ty cj)∧S'=S:=by
 refine ak.bp Tryz.func6 XC fun hn=>?_;refine ak.fin Tryz.func6 XC (U rfl) fun σ b_=>?_;have fa:=fun S=>Pu t tx h at_ l S;have ci:=fun S=>wJ p hp.xE l hl S;have tp:=fun S=>ZB p hp.xE hp.zns l hl hw ty cj S;rw[Bm];simp only[b9,dV]at fa ci tp;cases hf:jW t at_ l with
 |none=>
  rw[hf]at fa;simp only[jw,cg,fK]at fa;simp(disch:=first|omega|(simp only[ai];omega)) only[Q9,dV,b9,aj,↓eA,eB,aq,seval];refine(fa _).then ?_
  simp(disch:=first|omega|(simp only[ai];omega)) only[aj,↓eA,eB,aq,seval];exact⟨_,S,hn.dO _,.bX rfl,ah _,rfl,rfl⟩
 |some f=>
  obtain⟨eY,_,_⟩:=Dl hf;dsimp only;have kv:=o5 p l eY;rw[hf]at fa;have en:=fun S=>abc f l (by omega) (cF p l) (by intro e;rw[e]at kv;simp at kv) (by omega) S;have an:=fun S=>ab7 l (fun w=>decide (w.cl≠f.cl)) 23 [.bK (fK f)] S fun x _=>Zy f x S;have ru:=fun S=>zM t tx (by have:=h.rules;omega) f.iv S;obtain⟨lY,Is⟩:=uu h f.iv;have aw:=fun S=>af' _ lY (im p l ty cj) S;have wy:=fun S=>LL p hp t tx h f (cF p l) (by omega) S;have C7:DU ((fm t f.iv).getD j5) (im p l ty cj)=if b8.holds (im p l ty cj) ((fm t f.iv).getD j5).w=false then 20 else 0:=by
   unfold DU;cases b8.holds (im p l ty cj) ((fm t f.iv).getD j5).w<;>rfl
  simp only[bL,dX,fK,dV,b9,Ae]at fa en an ru wy;generalize hR:(fm t f.iv).getD j5=R at ru aw C7 lY Is⊢;simp(disch:=first|omega|(simp only[ai];omega)) only[Q9,dV,b9,aj,↓eA,eB,aq,seval];refine(fa _).then ?_
  simp(disch:=first|omega|(simp only[ai];omega)) only[aj,↓eA,eB,aq,seval];refine(ci _).then ?_
  simp(disch:=first|omega|(simp only[ai];omega)) only[aj,↓eA,eB,aq,seval];refine(en _).then ?_
  cases he:tH f l (cF p l)with
  |false=>
   simp(disch:=first|omega|(simp only[ai];omega)) only[aQ,aj,↓eA,eB,aq,seval];exact⟨_,S,hn.dO _,.bX rfl,ah _,rfl,rfl⟩
  |true=>
  simp(disch:=first|omega|(simp only[ai];omega)) only[eD,aZ,aj,↓eA,eB,aq,seval];refine(an _).then ?_
  cases O6:(l.any fun w=>decide (w.cl≠f.cl))with
  |true=>
   simp(disch:=first|omega|(simp only[ai];omega)) only[aQ,aj,↓eA,eB,aq,seval];exact⟨_,S,hn.dO _,.bX rfl,ah _,rfl,rfl⟩
  |false=>
  simp(disch:=first|omega|(simp only[ai];omega)) only[aV,aZ,aj,↓eA,eB,aq,seval];refine(ru _).then ?_
  obtain⟨n0,⟨c1,c2,c3,c4,c5,c6⟩,cb,mn,m2,ch,rf,jb⟩:=R;simp only[cx,b8.row,aS,a8,dN]at aw tp⊢;simp(disch:=first|omega|(simp only[ai];omega)) only[aj,↓eA,eB,aq,seval];refine qv.intro (tp _) ?_;simp(disch:=first|omega|(simp only[ai];omega)) only[aj,↓eA,eB,aq,seval];refine(aw _).then ?_
  rw[C7];cases hh:b8.holds (im p l ty cj) (b8.mk c1 c2 c3 c4 c5 c6)with
  |false=>
   simp(disch:=first|omega|(simp only[ai];omega)) only[hh,aQ,aj,↓eA,eB,aq,seval];exact⟨_,S,hn.dO _,.bX rfl,ah _,rfl,rfl⟩
  |true=>
   simp(disch:=first|omega|(simp only[ai];omega)) only[hh,eD,aZ,aj,↓eA,eB,aq,seval];refine(wy _).then ?_
   simp(disch:=first|omega|(simp only[ai];omega)) only[aj,↓eA,eB,aq,seval];exact⟨_,S,hn.dO _,.bX rfl,ah _,rfl,rfl⟩
def tZ(t:gk)(f:Fr):Int:=if f.gu=0 then 0 else((gN t f.gu).getD lB).mi
theorem uB(t:gk)(tx:List (List V))(h:Jm t)(f:Fr)(S:ae):ak Tryz.prog 171 [.agg (b9 t tx),.agg (fK f)] S fun v S'=>v= .int .i64 (tZ t f)∧S'=S:=by
 refine ak.bp Tryz.func171 Xy fun hn=>?_;refine ak.fin Tryz.func171 Xy (U rfl) fun σ b_=>?_;have tr:=fun S=>zS t tx (by have:=h.cS;omega) f.gu S;unfold tZ;generalize hr:(gN t f.gu).getD lB=r at tr;simp only[b9,E5,hr,eP]at tr;by_cases h0:f.gu=0
 ·simp(disch:=first|omega|(simp only[ai];omega)) only[Q7,b9,fK,aj,↓eA,eB,aq,seval];refine(tr _).then ?_
  simp(disch:=first|omega|(simp only[ai];omega)) only[dT h0,aK h0,aj,↓eA,eB,aq,seval];exact⟨_,S,hn.dO _,.bX rfl,ah _,rfl,rfl⟩
 ·simp(disch:=first|omega|(simp only[ai];omega)) only[Q7,b9,fK,aj,↓eA,eB,aq,seval];refine(tr _).then ?_
  simp(disch:=first|omega|(simp only[ai];omega)) only[dF h0,aC h0,aj,↓eA,eB,aq,seval];exact⟨_,S,hn.dO _,.bX rfl,ah _,rfl,rfl⟩
theorem SJ(p:fO)(t:gk)(f:Fr)(cs:List bS):Js p t f cs=if f.gu≠0∧jg ((gN t f.gu).getD lB) cs=false then 21 else if 0<tZ t f then(Ml.Cf p cs (tZ t f)).2 else 0:=by
 unfold Js tZ;by_cases h0:f.gu=0
 ·simp[h0]
 ·rw[aC h0,aC h0];cases ha:jg ((gN t f.gu).getD lB) cs with
  |false=>rw[aK rfl,aK ⟨h0,rfl⟩]
  |true=>
   by_cases hm:((gN t f.gu).getD lB).mi≤0
   ·have pW:¬0<((gN t f.gu).getD lB).mi:=by omega
    simp only[eD,and_false,aZ,aK hm,aC pW]
   ·have pW:0<((gN t f.gu).getD lB).mi:=by omega
    simp only[eD,and_false,aZ,aC hm,aK pW]
theorem UO(p:fO)(t:gk)(f:Fr)(l:List gv):iF p t f l=if 0<tZ t f then Ml.Cf p (cF p l) (tZ t f)else(0,0):=by
 unfold iF tZ;by_cases h0:f.gu=0
 ·simp[h0]
 ·rw[aC h0];by_cases hm:((gN t f.gu).getD lB).mi≤0
  ·rw[aK (.inr hm),aC (by omega)]
  ·rw[aC (by rintro(e|e);exact h0 e;exact hm e),aK (by omega)]
theorem ZR(p:fO)(hp:D7 p)(t:gk)(tx:List (List V))(h:Jm t)(at_:Int)(l:List gv)(hl:l.length≤8)(hw:Se l)(ty:bS)(cj:Int)(S:ae):
 ak Tryz.prog 124 [dV p,.agg (b9 t tx),.int .i64 at_,.sl 8 (l.map cR),.str ty,.int .i64 cj] S fun v S'=>v= .int .i64 (uT p t at_ l ty cj)∧S'=S:=by
 refine ak.bp Tryz.func124 Xx fun hn=>?_;refine ak.fin Tryz.func124 Xx (U rfl) fun σ b_=>?_;have ci:=fun S=>rY p hp.xE l hl S;have tp:=fun S=>Tj p hp.xE hp.zns l hl hw ty cj S;rw[Bm];simp only[dV]at ci tp;by_cases h1:((l.length:Nat):Int)=0
 ·have e:jW t at_ l=none:=aK (.inl (List.length_eq_zero_iff.1 (by omega)));rw[e];simp(disch:=first|omega|(simp only[ai];omega)) only[D1,dV,b9,dT h1,aj,↓eA,eB,aq,seval];exact⟨_,S,hn.self,.bX rfl,ah _,rfl,rfl⟩
 by_cases h2:at_<0
 ·have e:jW t at_ l=none:=aK (.inr h2);rw[e];simp(disch:=first|omega|(simp only[ai];omega)) only[D1,dV,b9,dF h1,dT h2,aj,↓eA,eB,aq,seval];exact⟨_,S,hn.self,.bX rfl,ah _,rfl,rfl⟩
 have e:jW t at_ l=t.bE[at_.toNat]?:=aC (by
  rintro(h|h)
  ·rw[h]at h1;exact h1 rfl
  ·exact h2 h)
 rw[e];have eY:l≠[]:=fun h=>by rw[h]at h1;exact h1 rfl
 clear e;obtain⟨n,rfl⟩:∃n:Nat,at_=(n:Nat):=⟨at_.toNat,by omega⟩;rw[cn];cases hc:t.bE[n]? with
 |none=>
  have eh:t.bE.length≤n:=List.getElem?_eq_none_iff.1 hc;have h3:((t.bE.length:Nat):Int)≤(n:Nat):=by omega
  simp(disch:=first|omega|(simp only[ai];omega)) only[D1,dV,b9,dF h1,dF h2,dT h3,aj,↓eA,eB,aq,seval];exact⟨_,S,hn.self,.bX rfl,ah _,rfl,rfl⟩
 |some f=>
 dsimp only;have air:=(List.getElem?_eq_some_iff.1 hc).1;have h3:¬((t.bE.length:Nat):Int)≤(n:Nat):=by omega
 have kv:=o5 p l eY;have ru:=fun S=>uv t tx (by have:=h.rules;omega) f.iv S;have ro:=fun S=>zS t tx (by have:=h.cS;omega) f.gu S;have mi:=fun S=>uB t tx h f S;obtain⟨lY,Is⟩:=uu h f.iv;have aw:=fun S=>Z1 _ lY (im p l ty cj) S;have al:=fun S=>J4 ((gN t f.gu).getD lB) (cF p l) (by omega) S;have Ab:=fun S=>MW p (cF p l) (tZ t f) S hp.xE hp.UT (by omega);rw[SJ];have C7:DU ((fm t f.iv).getD j5) (im p l ty cj)=if b8.holds (im p l ty cj) ((fm t f.iv).getD j5).w=false then 20 else 0:=by
  unfold DU;cases b8.holds (im p l ty cj) ((fm t f.iv).getD j5).w<;>rfl
 simp only[fK,dV,b9,Ae,E5]at ru ro mi Ab;generalize hR:(fm t f.iv).getD j5=R at ru aw C7 lY Is⊢;generalize hRo:(gN t f.gu).getD lB=Ro at ro al⊢;generalize hM:tZ t f=M at mi Ab⊢;generalize l8:cF p l=cs at ci al Ab kv⊢;have vW:0<cs.length:=by omega
 have ha:cs[0]?=some cs[0]:=ax vW;have hb:cs[cs.length-1]?=some cs[cs.length-1]:=ax (by omega);generalize cs[0]=ca at ha;generalize cs[cs.length-1]=cb at hb;have Uh:((cs.length:Nat):Int)-1=((cs.length-1:Nat):Int):=by omega
 have hen:tH f l cs=((l.all fun w=>decide (w.s.c=f.c))&&(decide (ca=f.f)&&decide (cb=f.t))):=by
  unfold tH;rw[List.head?_eq_getElem?,ha,List.getLast?_eq_getElem?,hb];simp only[aa]
 have ai_:(l.any fun w=>decide (w.cl≠f.cl))=!(l.all fun w=>decide (w.cl=f.cl)):=by
  rw[List.not_all_eq_any_not]
  congr 1
  funext w
  rw[decide_not]
 rw[hen,ai_];simp(disch:=first|omega|(simp only[ai];omega)) only[D1,dV,b9,dF h1,dF h2,dF h3,hc,fK,aj,↓eA,eB,aq,seval];refine(ci _).then ?_
 simp(disch:=first|omega|(simp only[ai];omega)) only[aj,↓eA,eB,aq,seval];have tk:∀(k:Nat) (y:gv),l[k]?=some y→((l.take (k+1)).all fun w=>decide (w.cl=f.cl))=(((l.take k).all fun w=>decide (w.cl=f.cl))&&decide (y.cl=f.cl)):=fun k y hy=>by
  rw[gy hy,List.all_append,gr,gx,mW]
 refine dm (ι:=Nat) (fun k=>[(3,.sl 8 (l.map cR)),(4,.str ty),(5,.int .i64 cj),(6,.bK [.sl 5 (p.1.map dG),.sl 3 (p.2.map cZ)]),(7,.bK [.sl 9 (t.bE.map fK),.sl 15 (t.rules.map cx),.sl 3 (t.cS.map eP),.sl 7 tx]),(13,.bK [.str f.c,.str f.f,.str f.t,.str f.bas,.str f.cl,.bool f.BS,.int .i64 f.am,.int .i64 f.iv,.int .i64 f.gu]),(14,.sl 1 (cs.map eW)),(15,.bool ((l.take k).all fun w=>decide (w.cl=f.cl))),(16,.int .i64 (k:Nat))]) (fun _=>S) (fun k=>k≤l.length∧(l.all fun w=>decide (w.s.c=f.c))=((l.drop k).all fun w=>decide (w.s.c=f.c))) (fun k=>l.length-k) (fun i hi=>by rw[b_];exact ah _) 0 ⟨az _,rfl⟩ (dt (hn.dO _) (by simp only[gx,↓eA,eB,aq,seval];try rfl) (by simp[V.under,V.bI])) ?_;rintro k ⟨hk,gK⟩;cases uH:l[k]? with
 |some y=>
  have cK:=(List.getElem?_eq_some_iff.1 uH).1;have aR:(k:Int)<l.length:=by omega
  have cN:(k:Int)+1=((k+1:Nat):Int):=by omega
  have tky:=tk k y uH;rw[fV uH,gr]at gK;cases h4:decide (y.s.c=f.c)with
  |false=>
   rw[h4,aO]at gK;simp(disch:=first|omega|(simp only[ai];omega)) only[dT aR,uH,h4,cR,gl,aj,↓eA,eB,aq,seval];exact⟨_,S,hn.self,.bX rfl,ah _,by rw[gK,aO,aK rfl],rfl⟩
  |true=>
   rw[h4,aX]at gK;cases h5:((l.take k).all fun w=>decide (w.cl=f.cl))<;>cases h6:decide (y.cl=f.cl)<;>rw[h5,h6]at tky<;>simp(disch:=first|omega|(simp only[ai];omega)) only[dT aR,uH,h4,h6,cN,wrap_i64,cR,gl,aj,↓eA,eB,aq,seval];all_goals exact⟨k+1,⟨by omega,gK⟩,by omega,.inl ⟨by rw[tky];simp only[dC,mW,aX,cV,↓eA,eB,aq,seval];try rfl,rfl⟩⟩
 |none=>
 have eh:l.length≤k:=List.getElem?_eq_none_iff.1 uH;have aR:¬((k:Int)<l.length):=by omega
 rw[bO eh,gx]at gK;rw[bh eh,gK,aX];cases Sx:decide (ca=f.f)with
 |false=>
  simp(disch:=first|omega|(simp only[ai];omega)) only[dF aR,ha,hb,Sx,Uh,wrap_i64,eW,aj,↓eA,eB,aq,seval];exact⟨_,S,hn.self,.bX rfl,ah _,by simp only[aO,aQ],rfl⟩
 |true=>
 cases FC:decide (cb=f.t)with
 |false=>
  simp(disch:=first|omega|(simp only[ai];omega)) only[dF aR,ha,hb,Sx,FC,Uh,wrap_i64,eW,aj,↓eA,eB,aq,seval];exact⟨_,S,hn.self,.bX rfl,ah _,by simp only[cV,aQ],rfl⟩
 |true=>
 cases Be:(l.all fun w=>decide (w.cl=f.cl))with
 |false=>
  simp(disch:=first|omega|(simp only[ai];omega)) only[dF aR,ha,hb,Sx,FC,Uh,wrap_i64,eW,aj,↓eA,eB,aq,seval];exact⟨_,S,hn.self,.bX rfl,ah _,by simp only[dC,eD,eH,aQ,aZ],rfl⟩
 |true=>
 simp(disch:=first|omega|(simp only[ai];omega)) only[dF aR,ha,hb,Sx,FC,Uh,wrap_i64,eW,dC,eD,aV,aZ,aj,↓eA,eB,aq,seval];refine(ru _).then ?_
 obtain⟨n0,⟨c1,c2,c3,c4,c5,c6⟩,cb0,mn,m2,ch,rf,jb⟩:=R;simp only[cx,b8.row,aS,a8,dN]at aw tp⊢;simp(disch:=first|omega|(simp only[ai];omega)) only[aj,↓eA,eB,aq,seval];refine qv.intro (tp _) ?_;simp(disch:=first|omega|(simp only[ai];omega)) only[aj,↓eA,eB,aq,seval];refine(aw _).then ?_
 rw[C7];cases hh:b8.holds (im p l ty cj) (b8.mk c1 c2 c3 c4 c5 c6)with
 |false=>
  simp(disch:=first|omega|(simp only[ai];omega)) only[hh,aQ,aj,↓eA,eB,aq,seval];exact⟨_,S,hn.dO _,.bX rfl,ah _,rfl,rfl⟩
 |true=>
 simp(disch:=first|omega|(simp only[ai];omega)) only[hh,eD,aZ,aj,↓eA,eB,aq,seval];refine(ro _).then ?_
 simp only[eP]at al⊢;have key:∀T:ae,ak Tryz.prog 171 [.agg [.sl 9 (t.bE.map fK),.sl 15 (t.rules.map cx),.sl 3 (t.cS.map eP),.sl 7 tx],.agg [.str f.c,.str f.f,.str f.t,.str f.bas,.str f.cl,.bool f.BS,.int .i64 f.am,.int .i64 f.iv,.int .i64 f.gu]] T fun v S'=>v= .int .i64 M∧S'=T:=mi;by_cases h0:f.gu=0
 case' pos=>
  rw[aC (fun hh=>hh.1 h0)];simp(disch:=first|omega|(simp only[ai];omega)) only[dT h0,aj,↓eA,eB,aq,seval]
 case' neg=>
  simp(disch:=first|omega|(simp only[ai];omega)) only[dF h0,aj,↓eA,eB,aq,seval];refine(al _).then ?_
  cases amJ:jg Ro cs
  case' false=>
   rw[aK ⟨h0,rfl⟩];simp(disch:=first|omega|(simp only[ai];omega)) only[aj,↓eA,eB,aq,seval];refine⟨_,S,hn.dO _,.bX rfl,ah _,rfl,rfl⟩
  case' true=>
   rw[aC (fun hh=>by cases hh.2)];simp(disch:=first|omega|(simp only[ai];omega)) only[aj,↓eA,eB,aq,seval]
 all_goals
  refine(key _).then ?_
  by_cases hM:0<M
  ·rw[aK hM];simp(disch:=first|omega|(simp only[ai];omega)) only[dT hM,aj,↓eA,eB,aq,seval];refine qv.intro (key _) ?_;simp(disch:=first|omega|(simp only[ai];omega)) only[aj,↓eA,eB,aq,seval];refine(Ab _).then ?_
   simp(disch:=first|omega|(simp only[ai];omega)) only[aj,↓eA,eB,aq,seval];exact⟨_,S,hn.dO _,.bX rfl,ah _,rfl,rfl⟩
  ·rw[aC hM];simp(disch:=first|omega|(simp only[ai];omega)) only[dF hM,aj,↓eA,eB,aq,seval];exact⟨_,S,hn.dO _,.bX rfl,ah _,rfl,rfl⟩
end Go.Proofs.YtfgkgmmnldocaaaGreatDoor
namespace Go.Proofs.YtfgkgmmnldocaaaGreatDoor
open Go Go.AL
variable[Go.AL.Mode][Go.AL.bR]
theorem lU(p:fO)(hp:D7 p)(t:gk)(tx:List (List V))(h:Jm t)(at_:Int)(l:List gv)(hl:l.length≤8)(ty:bS)(S:ae):
 ak Tryz.prog 7 [dV p,.agg (b9 t tx),.int .i64 at_,.sl 8 (l.map cR),.str ty] S fun v S'=>v= .dI [.int .i64 (gg p t at_ l ty).1,.int .i64 (gg p t at_ l ty).2]∧S'=S:=by
 refine ak.bp Tryz.func7 XB fun hn=>?_;refine ak.fin Tryz.func7 XB (U rfl) fun σ b_=>?_;have fa:=fun S=>Pu t tx h at_ l S;have ci:=fun S=>wJ p hp.xE l hl S;rw[Jc];simp only[b9,dV]at fa ci;cases hf:jW t at_ l with
 |none=>
  rw[hf]at fa;simp only[jw,cg,fK]at fa;simp(disch:=first|omega|(simp only[ai];omega)) only[Q8,dV,b9,aj,↓eA,eB,aq,seval];refine(fa _).then ?_
  simp(disch:=first|omega|(simp only[ai];omega)) only[aj,↓eA,eB,aq,seval];exact⟨_,S,hn.dO _,.bX rfl,ah _,rfl,rfl⟩
 |some f=>
 obtain⟨eY,_,_⟩:=Dl hf;dsimp only;have kv:=o5 p l eY;rw[hf]at fa;have ru:=fun S=>zM t tx (by have:=h.rules;omega) f.iv S;have ro:=fun S=>GP t tx (by have:=h.cS;omega) f.gu S;obtain⟨lY,Is⟩:=uu h f.iv;have py:=fun a S=>adn _ Is ty a S;have Ab:=fun S=>VU p (cF p l) ((gN t f.gu).getD lB).mi S hp.xE hp.UT (by omega);have ap:=fun a S=>Ml.Vb f.am a S;have hex:iF p t f l=if f.gu=0∨((gN t f.gu).getD lB).mi≤0 then(0,0)else Ml.Cf p (cF p l) ((gN t f.gu).getD lB).mi:=rfl
 simp only[bL,dX,fK,dV,b9,Ae,E5]at fa ru ro Ab;generalize hR:(fm t f.iv).getD j5=R at ru lY Is py⊢;generalize hRo:(gN t f.gu).getD lB=Ro at ro Ab hex;generalize l8:cF p l=cs at ci Ab kv hex;generalize hE:iF p t f l=ex at hex⊢;obtain⟨n0,⟨c1,c2,c3,c4,c5,c6⟩,cb0,mn,m2,ch,rf,jb⟩:=R;simp only[cx,b8.row,aS,a8]at py ru;simp only[eP]at ro;have tail:∀(E:Int) (T:ae),True:=fun _ _=>trivial;simp(disch:=first|omega|(simp only[ai];omega)) only[Q8,dV,b9,aj,↓eA,eB,aq,seval];refine(fa _).then ?_
 by_cases h0:f.gu=0
 case pos=>
  have hx:ex=(0,0):=by rw[hex,aK (.inl h0)]
  subst hx;simp(disch:=first|omega|(simp only[ai];omega)) only[dT h0,ne_eq,uj,aZ,aj,↓eA,eB,aq,seval];refine(ap 0 _).then ?_
  by_cases uG:(Ml.fZ f.am 0).2=0
  ·rw[aC (fun hh=>hh uG)];simp(disch:=first|omega|(simp only[ai];omega)) only[dT uG,aj,↓eA,eB,aq,seval];refine(ru _).then ?_
   simp(disch:=first|omega|(simp only[ai];omega)) only[aj,↓eA,eB,aq,seval];refine(py _ _).then ?_
   simp(disch:=first|omega|(simp only[ai];omega)) only[aj,↓eA,eB,aq,seval];exact⟨_,S,hn.dO _,.bX rfl,ah _,rfl,rfl⟩
  ·rw[aK uG];simp(disch:=first|omega|(simp only[ai];omega)) only[dF uG,aj,↓eA,eB,aq,seval];exact⟨_,S,hn.dO _,.bX rfl,ah _,rfl,rfl⟩
 case neg=>
  simp(disch:=first|omega|(simp only[ai];omega)) only[dF h0,aj,↓eA,eB,aq,seval];refine(ro _).then ?_
  by_cases hm:Ro.mi≤0
  case pos=>
   have hx:ex=(0,0):=by rw[hex,aK (.inr hm)]
   subst hx;have pW:¬0<Ro.mi:=by omega
   simp(disch:=first|omega|(simp only[ai];omega)) only[dF pW,ne_eq,uj,aZ,aj,↓eA,eB,aq,seval];refine(ap 0 _).then ?_
   by_cases uG:(Ml.fZ f.am 0).2=0
   ·rw[aC (fun hh=>hh uG)];simp(disch:=first|omega|(simp only[ai];omega)) only[dT uG,aj,↓eA,eB,aq,seval];refine(ru _).then ?_
    simp(disch:=first|omega|(simp only[ai];omega)) only[aj,↓eA,eB,aq,seval];refine(py _ _).then ?_
    simp(disch:=first|omega|(simp only[ai];omega)) only[aj,↓eA,eB,aq,seval];exact⟨_,S,hn.dO _,.bX rfl,ah _,rfl,rfl⟩
   ·rw[aK uG];simp(disch:=first|omega|(simp only[ai];omega)) only[dF uG,aj,↓eA,eB,aq,seval];exact⟨_,S,hn.dO _,.bX rfl,ah _,rfl,rfl⟩
  case neg=>
   have hx:ex=Ml.Cf p cs Ro.mi:=by rw[hex,aC (by rintro(e|e);exact h0 e;exact hm e)]
   rw[←hx]at Ab;have pW:0<Ro.mi:=by omega
   simp(disch:=first|omega|(simp only[ai];omega)) only[dT pW,aj,↓eA,eB,aq,seval];refine qv.intro (ci _) ?_;simp(disch:=first|omega|(simp only[ai];omega)) only[aj,↓eA,eB,aq,seval];refine(Ab _).then ?_
   by_cases he:ex.2=0
   case neg=>
    rw[aK he];simp(disch:=first|omega|(simp only[ai];omega)) only[dF he,aj,↓eA,eB,aq,seval];exact⟨_,S,hn.dO _,.bX rfl,ah _,rfl,rfl⟩
   case pos=>
    rw[aC (fun hh=>hh he)];simp(disch:=first|omega|(simp only[ai];omega)) only[dT he,aj,↓eA,eB,aq,seval];refine(ap ex.1 _).then ?_
    by_cases uG:(Ml.fZ f.am ex.1).2=0
    ·rw[aC (fun hh=>hh uG)];simp(disch:=first|omega|(simp only[ai];omega)) only[dT uG,aj,↓eA,eB,aq,seval];refine(ru _).then ?_
     simp(disch:=first|omega|(simp only[ai];omega)) only[aj,↓eA,eB,aq,seval];refine(py _ _).then ?_
     simp(disch:=first|omega|(simp only[ai];omega)) only[aj,↓eA,eB,aq,seval];exact⟨_,S,hn.dO _,.bX rfl,ah _,rfl,rfl⟩
    ·rw[aK uG];simp(disch:=first|omega|(simp only[ai];omega)) only[dF uG,aj,↓eA,eB,aq,seval];exact⟨_,S,hn.dO _,.bX rfl,ah _,rfl,rfl⟩
theorem J3(p:fO)(hp:D7 p)(t:gk)(tx:List (List V))(h:Jm t)(at_:Int)(l:List gv)(hl:l.length≤8)(ty:bS)(S:ae):
 ak Tryz.prog 123 [dV p,.agg (b9 t tx),.int .i64 at_,.sl 8 (l.map cR),.str ty] S fun v S'=>v= .dI [.int .i64 (gg p t at_ l ty).1,.int .i64 (gg p t at_ l ty).2]∧S'=S:=by
 refine ak.bp Tryz.func123 Xw fun hn=>?_;refine ak.fin Tryz.func123 Xw (U rfl) fun σ b_=>?_;have ci:=fun S=>rY p hp.xE l hl S;rw[Jc];simp only[dV]at ci;by_cases h1:((l.length:Nat):Int)=0
 ·have e:jW t at_ l=none:=aK (.inl (List.length_eq_zero_iff.1 (by omega)));rw[e];simp(disch:=first|omega|(simp only[ai];omega)) only[D0,dV,b9,dT h1,aj,↓eA,eB,aq,seval];exact⟨_,S,hn.self,.bX rfl,ah _,rfl,rfl⟩
 by_cases h2:at_<0
 ·have e:jW t at_ l=none:=aK (.inr h2);rw[e];simp(disch:=first|omega|(simp only[ai];omega)) only[D0,dV,b9,dF h1,dT h2,aj,↓eA,eB,aq,seval];exact⟨_,S,hn.self,.bX rfl,ah _,rfl,rfl⟩
 have e:jW t at_ l=t.bE[at_.toNat]?:=aC (by
  rintro(h|h)
  ·rw[h]at h1;exact h1 rfl
  ·exact h2 h)
 rw[e];have eY:l≠[]:=fun h=>by rw[h]at h1;exact h1 rfl
 clear e;obtain⟨n,rfl⟩:∃n:Nat,at_=(n:Nat):=⟨at_.toNat,by omega⟩;rw[cn];cases hc:t.bE[n]? with
 |none=>
  have eh:t.bE.length≤n:=List.getElem?_eq_none_iff.1 hc;have h3:((t.bE.length:Nat):Int)≤(n:Nat):=by omega
  simp(disch:=first|omega|(simp only[ai];omega)) only[D0,dV,b9,dF h1,dF h2,dT h3,aj,↓eA,eB,aq,seval];exact⟨_,S,hn.self,.bX rfl,ah _,rfl,rfl⟩
 |some f=>
 dsimp only;have air:=(List.getElem?_eq_some_iff.1 hc).1;have h3:¬((t.bE.length:Nat):Int)≤(n:Nat):=by omega
 have kv:=o5 p l eY;have ru:=fun S=>uv t tx (by have:=h.rules;omega) f.iv S;have mi:=fun S=>uB t tx h f S;obtain⟨lY,Is⟩:=uu h f.iv;have py:=fun a S=>ZT _ Is ty a S;have Ab:=fun S=>MW p (cF p l) (tZ t f) S hp.xE hp.UT (by omega);have ap:=fun a S=>Ml.EP f.am a S;have hex:=UO p t f l;simp only[fK,dV,b9,Ae]at ru mi Ab;generalize hR:(fm t f.iv).getD j5=R at ru lY Is py⊢;generalize hM:tZ t f=M at mi Ab hex;generalize l8:cF p l=cs at ci Ab kv hex;generalize hE:iF p t f l=ex at hex⊢;obtain⟨n0,⟨c1,c2,c3,c4,c5,c6⟩,cb0,mn,m2,ch,rf,jb⟩:=R;simp only[cx,b8.row,aS,a8]at py ru;have key:∀T:ae,ak Tryz.prog 171 [.agg [.sl 9 (t.bE.map fK),.sl 15 (t.rules.map cx),.sl 3 (t.cS.map eP),.sl 7 tx],.agg [.str f.c,.str f.f,.str f.t,.str f.bas,.str f.cl,.bool f.BS,.int .i64 f.am,.int .i64 f.iv,.int .i64 f.gu]] T fun v S'=>v= .int .i64 M∧S'=T:=mi;simp(disch:=first|omega|(simp only[ai];omega)) only[D0,dV,b9,dF h1,dF h2,dF h3,hc,fK,aj,↓eA,eB,aq,seval];refine(key _).then ?_
 by_cases pW:0<M
 case neg=>
  have hx:ex=(0,0):=by rw[hex,aC pW]
  subst hx;simp(disch:=first|omega|(simp only[ai];omega)) only[dF pW,ne_eq,uj,aZ,aj,↓eA,eB,aq,seval];refine(ap 0 _).then ?_
  by_cases uG:(Ml.fZ f.am 0).2=0
  ·rw[aC (fun hh=>hh uG)];simp(disch:=first|omega|(simp only[ai];omega)) only[dT uG,aj,↓eA,eB,aq,seval];refine(ru _).then ?_
   simp(disch:=first|omega|(simp only[ai];omega)) only[aj,↓eA,eB,aq,seval];refine(py _ _).then ?_
   simp(disch:=first|omega|(simp only[ai];omega)) only[aj,↓eA,eB,aq,seval];exact⟨_,S,hn.dO _,.bX rfl,ah _,rfl,rfl⟩
  ·rw[aK uG];simp(disch:=first|omega|(simp only[ai];omega)) only[dF uG,aj,↓eA,eB,aq,seval];exact⟨_,S,hn.dO _,.bX rfl,ah _,rfl,rfl⟩
 case pos=>
  have hx:ex=Ml.Cf p cs M:=by rw[hex,aK pW]
  rw[←hx]at Ab;simp(disch:=first|omega|(simp only[ai];omega)) only[dT pW,aj,↓eA,eB,aq,seval];refine qv.intro (ci _) ?_;simp(disch:=first|omega|(simp only[ai];omega)) only[aj,↓eA,eB,aq,seval];refine qv.intro (key _) ?_;simp(disch:=first|omega|(simp only[ai];omega)) only[aj,↓eA,eB,aq,seval];refine(Ab _).then ?_
  by_cases he:ex.2=0
  case neg=>
   rw[aK he];simp(disch:=first|omega|(simp only[ai];omega)) only[dF he,aj,↓eA,eB,aq,seval];exact⟨_,S,hn.dO _,.bX rfl,ah _,rfl,rfl⟩
  case pos=>
   rw[aC (fun hh=>hh he)];simp(disch:=first|omega|(simp only[ai];omega)) only[dT he,aj,↓eA,eB,aq,seval];refine(ap ex.1 _).then ?_
   by_cases uG:(Ml.fZ f.am ex.1).2=0
   ·rw[aC (fun hh=>hh uG)];simp(disch:=first|omega|(simp only[ai];omega)) only[dT uG,aj,↓eA,eB,aq,seval];refine(ru _).then ?_
    simp(disch:=first|omega|(simp only[ai];omega)) only[aj,↓eA,eB,aq,seval];refine(py _ _).then ?_
    simp(disch:=first|omega|(simp only[ai];omega)) only[aj,↓eA,eB,aq,seval];exact⟨_,S,hn.dO _,.bX rfl,ah _,rfl,rfl⟩
   ·rw[aK uG];simp(disch:=first|omega|(simp only[ai];omega)) only[dF uG,aj,↓eA,eB,aq,seval];exact⟨_,S,hn.dO _,.bX rfl,ah _,rfl,rfl⟩
end Go.Proofs.YtfgkgmmnldocaaaGreatDoor
