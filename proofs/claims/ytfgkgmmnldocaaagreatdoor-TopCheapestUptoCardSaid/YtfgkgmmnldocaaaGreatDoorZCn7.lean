/- Cn7 -/
import Derived.Test.YtfgkgmmnldocaaaGreatDoorZCn6
import Derived.Test.YtfgkgmmnldocaaaGreatDoorZCz
set_option linter.unusedSectionVars false
set_option linter.unusedSimpArgs false
set_option linter.unusedVariables false
set_option maxHeartbeats 8000000
set_option maxRecDepth 20000
namespace Go.Proofs.YtfgkgmmnldocaaaGreatDoor
open Go Go.AL
variable[Go.AL.Mode][Go.AL.bR]
def ahb:lX:=⟨[],[],[],0,[]⟩
def c_(p:fO)(c:bS):lX:=(p.1.find? fun a=>decide (a.code=c)).getD ahb
theorem Gm(p:fO)(c:bS):Gn p c=((c_ p c).off,(c_ p c).sh):=by
 unfold Gn c_;cases p.1.find? fun a=>decide (a.code=c)<;>rfl
theorem y6{S:ae}(p:fO)(c:bS)(hn:jv S):jd S S (Ml.jc p.1 fun a=>decide (a.code=c)) (.dI [.agg (dG (c_ p c)),.bool (p.1.find? fun a=>decide (a.code=c)).isSome]):=by
 unfold Ml.jc c_;cases p.1.find? fun a=>decide (a.code=c)with
 |some a=>exact .bX rfl
 |none=>exact .jj (jf (show lW _ _ _ [.str [],.str [],.str [],.int .i64 0,.sl 2 []]from⟨.bX rfl,.bX rfl,.bX rfl,.bX rfl,.nil,trivial⟩)) (.bX rfl)
theorem IC(p:fO)(c:bS)(S:ae)(hl:p.1.length≤1000):ak Tryz.prog 55 [dV p,.str c] S fun r S'=>r= .dI [.agg (dG (c_ p c)),.bool (p.1.find? fun a=>decide (a.code=c)).isSome]∧S'=S:=
 ak.VL (Ml.FN p c S (by omega)) fun hn=>y6 p c hn
theorem BX(p:fO)(c:bS)(S:ae)(hl:p.1.length≤1000):ak Tryz.prog 200 [dV p,.str c] S fun r S'=>r= .dI [.agg (dG (c_ p c)),.bool (p.1.find? fun a=>decide (a.code=c)).isSome]∧S'=S:=
 ak.VL (Ml.zU p c S (by omega)) fun hn=>y6 p c hn
def mH(p:fO):Prop:=∀a∈p.1,D4 a.sh
theorem uK{p:fO}(h:mH p)(c:bS):D4 (c_ p c).sh:=by
 unfold c_;cases hf:p.1.find? fun a=>decide (a.code=c)with
 |some a=>exact h a (pI hf)
 |none=>exact⟨az _,List.Pairwise.nil⟩
theorem L9(a d:Int)(ha:0≤a∧a<52596000)(hd:0≤d∧d<52596000)(S:ae):ak Tryz.prog 57 [.int .i64 a,.int .i64 d] S fun v S'=>v= .bool (decide (1440≤d-a))∧S'=S:=by
 refine ak.bW Tryz.func57 afM (U rfl) fun σ b_=>?_;by_cases h:d≤a
 ·have h2:¬1440≤d-a:=by omega
  simp(disch:=first|omega|(simp only[ai];omega)) only[Ra,dT h,dF h2,aj,↓eA,eB,aq,seval]
 ·have e1:IntKind.u64.wrap d=d:=by exact wrap_u64 (by omega) (by omega)
  have e2:IntKind.u64.wrap a=a:=by exact wrap_u64 (by omega) (by omega)
  have e3:IntKind.u64.wrap (d-a)=d-a:=by exact wrap_u64 (by omega) (by omega)
  simp(disch:=first|omega|(simp only[ai];omega)) only[Ra,dF h,e1,e2,e3,aj,↓eA,eB,aq,seval]
theorem ox(x:Int): -9223372036854775808≤IntKind.i64.wrap x∧IntKind.i64.wrap x<9223372036854775808:=by
 rw[IntKind.wrap_i64];omega
def Cy(n:Nat):ae→ae→Prop
 |_,[]=>True
 |[],_::_=>False
 |o::L,o1::L1=>o.aI=o1.aI∧(o1.st=none∨(o1=o∧Ad n o1))∧Cy n L L1
theorem yF{S S1:ae}:∀{L L1:ae},Cy S1.length L L1→xJ S S1 L L1
 |L,[],_=>Dj
 |[],_::_,h=>h.elim
 |o::L,o1::L1,h=>⟨h.1,by
   rcases h.2.1 with e|⟨rfl,hN⟩
   ·rw[e];trivial
   ·exact Ad.self hN,yF h.2.2⟩
theorem Di{S L L1:ae}(hn:jv S)(h:Cy (S.length+L1.length) L L1):mV (S++L) (S++L1):=hn.Dk (yF (by rw[aH];exact h))
theorem qK{n v:Nat}{t:TypeId}{sz:Nat}{rows:List (List V)}(h:∀r∈rows,r.length=sz∧V.bQ r=true):Ad n ⟨v,some (.arr t sz rows)⟩:=fun r hr=>by
 obtain⟨h1,h2⟩:=h r hr;refine⟨h1,?_⟩;have:=oR n (v:=.agg r) (by simp only[V.dH];exact h2);simpa only[V.under]using this
theorem nj{n v:Nat}{t:TypeId}{sz:Nat}{r:List V}(h:r.length=sz)(h2:V.bI n r=true):Ad n ⟨v,some (.arr t sz [r])⟩:=fun q hq=>by
 rw[bM]at hq;subst hq;exact⟨h,h2⟩
theorem wD(q:gv→gv→Bool)(l:List gv):∀i,lS q l i≤i
 |0=>ah _
 |i+1=>by
  rw[lS];have:=wD q l i;split
  ·omega
  ·split
   ·split<;>omega
   ·omega
theorem rz(q:gv→gv→Bool)(l:List gv){j:Nat}{a b:gv}(ha:l[j]?=some a)(hb:l[j+1]?=some b):lS q l (j+1+1)=lS q l (j+1)+if q a b then 1 else 0:=by
 rw[lS,aC (by omega),Nat.add_sub_cancel,ha,hb]
theorem DK(q:gv→gv→Bool)(l:List gv):lS q l (0+1)=0:=by
 rw[lS,aK rfl,lS]
def Se(l:List gv):Prop:=∀w∈l,(0≤w.s.dep∧w.s.dep<52596000)∧0≤w.s.arr∧w.s.arr<52596000
theorem WT{S T:ae}(hn:jv S){t9 t5 tc tn:TypeId}{r8 r9 Tt:List V}{x:Option eR}{v n1 n2:Nat}{rc rn:List (List V)}(h8:r8.length=9∧V.bI (S.length+6) r8=true)(h9:r9.length=9∧V.bI (S.length+6) r9=true)(Bf:Tt.length=5∧V.bI (S.length+6) Tt=true)(hc:∀r∈rc,r.length=1∧V.bQ r=true)(hm:∀r∈rn,r.length=1∧V.bQ r=true):
 mV (S++⟨0,some (.arr t9 9 [r8])⟩::⟨0,some (.arr t9 9 [r9])⟩::⟨0,some (.arr t5 5 [Tt])⟩::⟨v,x⟩::⟨n1,some (.arr tc 1 rc)⟩::⟨n2,some (.arr tn 1 rn)⟩::T) (S++⟨0,some (.arr t9 9 [r8])⟩::⟨0,some (.arr t9 9 [r9])⟩::⟨0,some (.arr t5 5 [Tt])⟩::⟨v,none⟩::⟨n1,some (.arr tc 1 rc)⟩::⟨n2,some (.arr tn 1 rn)⟩::[]):=
 Di hn (L:=_::_::_::_::_::_::T) (L1:=[_,_,_,_,_,_]) ⟨rfl,.inr ⟨rfl,nj h8.1 h8.2⟩,rfl,.inr ⟨rfl,nj h9.1 h9.2⟩,rfl,.inr ⟨rfl,nj Bf.1 Bf.2⟩,rfl,.inl rfl,rfl,.inr ⟨rfl,qK hc⟩,rfl,.inr ⟨rfl,qK hm⟩,by unfold Cy;cases T<;>trivial⟩
theorem WS{S T:ae}(hn:jv S){t9 t5 tc tn:TypeId}{r8 r9 Tt:List V}{n1 n2:Nat}{rc rn:List (List V)}(h8:r8.length=9∧V.bI (S.length+5) r8=true)(h9:r9.length=9∧V.bI (S.length+5) r9=true)(Bf:Tt.length=5∧V.bI (S.length+5) Tt=true)(hc:∀r∈rc,r.length=1∧V.bQ r=true)(hm:∀r∈rn,r.length=1∧V.bQ r=true):
 mV (S++⟨0,some (.arr t9 9 [r8])⟩::⟨0,some (.arr t9 9 [r9])⟩::⟨0,some (.arr t5 5 [Tt])⟩::⟨n1,some (.arr tc 1 rc)⟩::⟨n2,some (.arr tn 1 rn)⟩::T) (S++⟨0,some (.arr t9 9 [r8])⟩::⟨0,some (.arr t9 9 [r9])⟩::⟨0,some (.arr t5 5 [Tt])⟩::⟨n1,some (.arr tc 1 rc)⟩::⟨n2,some (.arr tn 1 rn)⟩::[]):=
 Di hn (L:=_::_::_::_::_::T) (L1:=[_,_,_,_,_]) ⟨rfl,.inr ⟨rfl,nj h8.1 h8.2⟩,rfl,.inr ⟨rfl,nj h9.1 h9.2⟩,rfl,.inr ⟨rfl,nj Bf.1 Bf.2⟩,rfl,.inr ⟨rfl,qK hc⟩,rfl,.inr ⟨rfl,qK hm⟩,by unfold Cy;cases T<;>trivial⟩
theorem ZB(p:fO)(hp:p.1.length≤1000)(CQ:mH p)(l:List gv)(hl:l.length≤8)(hw:Se l)(ty:bS)(cj:Int)(S:ae):ak Tryz.prog 26 [dV p,.sl 8 (l.map cR),.str ty,.int .i64 cj] S fun v S'=>v= .agg (dN (im p l ty cj))∧S'=S:=by
 refine ak.bp Tryz.func26 XH fun hn=>?_;refine ak.fin Tryz.func26 XH (U rfl) fun σ b_=>?_;have cz:=fun S=>wJ p hp l hl S;simp only[dV]at cz;simp(disch:=first|omega|(simp only[ai];omega)) only[Y6,dV,aj,↓eA,eB,aq,seval];cases lQ:l with
 |nil=>
  simp(disch:=first|omega|(simp only[ai];omega)) only[bz,aj,↓eA,eB,aq,seval];exact⟨.agg (dN (im p [] ty cj)),S,hn.dO _,jf (show lW _ _ _ [.str ty,.int .i64 cj,.int .i64 0,.int .i64 0,.int .i64 0,.int .i64 0,.sl 1 [],.sl 1 [],.sl 1 []]from⟨.bX rfl,.bX rfl,.bX rfl,.bX rfl,.bX rfl,.bX rfl,.nil,.nil,.nil,trivial⟩),ah _,rfl,rfl⟩
 |cons w0 tl=>
 have hlen:l.length=tl.length+1:=by rw[lQ];rfl
 have eY:¬((l.length:Nat):Int)=0:=by omega
 have h0:l[0]?=some w0:=by rw[lQ];rfl
 have hs:∀j,l[j+1]?=tl[j]?:=fun j=>by rw[lQ];rfl
 rw[←lQ];have fz:=fun S=>IC p w0.s.f S hp;have hzk:=uK CQ w0.s.f;have lc:=fun S=>H8 (c_ p w0.s.f).off (c_ p w0.s.f).sh (by have:=hzk.1;omega) w0.s.dep S;have sp:=fun S=>G0 (iX (c_ p w0.s.f).off (c_ p w0.s.f).sh w0.s.dep) (ox _).1 (ox _).2 S;simp only[dV,dG]at fz;refine⟨fun h=>absurd h eY,fun _=>?_⟩;simp(disch:=first|omega|(simp only[ai];omega)) only[cR,gl,h0,aj,↓eA,eB,aq,seval];apply jC.share (P:=Tryz.prog) (N:=101) (σ:=σ) ([(1,.sl 8 (l.map cR)),(4,.bK [.sl 5 (p.1.map dG),.sl 3 (p.2.map cZ)]),(8,.ptr S.length 0 0 0),(9,.ptr (S.length+1) 0 0 0),(46,.sl 8 (l.map cR)),(47,.int .i64 l.length),(48,.int .i64 (0))]) (S++⟨0,some (.arr 90 9 [[.str [],.int .i64 0,.int .i64 0,.int .i64 0,.int .i64 0,.int .i64 0,.aM,.aM,.aM]])⟩::⟨0,some (.arr 90 9 [[.str ty,.int .i64 cj,.int .i64 (ew (iX (c_ p w0.s.f).off (c_ p w0.s.f).sh w0.s.dep)).1,.int .i64 (ew (iX (c_ p w0.s.f).off (c_ p w0.s.f).sh w0.s.dep)).2,.int .i64 0,.int .i64 0,.aM,.aM,.aM]])⟩::⟨0,some (.arr 137 5 [[.str (c_ p w0.s.f).code,.str (c_ p w0.s.f).iH,.str (c_ p w0.s.f).IU,.int .i64 (c_ p w0.s.f).off,.sl 2 ((c_ p w0.s.f).sh.map rT)]])⟩::[])
 ·intro key;refine⟨?_,?_⟩;all_goals
   refine(fz _).then ?_
   simp(disch:=first|omega|(simp only[ai];omega)) only[dG,cR,gl,h0,aj,↓eA,eB,aq,seval];refine(lc _).then ?_
   simp(disch:=first|omega|(simp only[ai];omega)) only[aj,↓eA,eB,aq,seval];refine(sp _).then ?_
   simp(disch:=first|omega|(simp only[ai];omega)) only[aj,↓eA,eB,aq,seval]
  all_goals exact key.sub (by simp only[↓eA,eB,aq,seval])
 refine dm (ι:=Nat) (fun i=>match i with|0=>[(1,.sl 8 (l.map cR)),(4,.bK [.sl 5 (p.1.map dG),.sl 3 (p.2.map cZ)]),(8,.ptr S.length 0 0 0),(9,.ptr (S.length+1) 0 0 0),(46,.sl 8 (l.map cR)),(47,.int .i64 l.length),(48,.int .i64 (0))]|j+1=>[(1,.sl 8 (l.map cR)),(4,.bK [.sl 5 (p.1.map dG),.sl 3 (p.2.map cZ)]),(8,.ptr S.length 0 0 0),(9,.ptr (S.length+1) 0 0 0),(46,.sl 8 (l.map cR)),(47,.int .i64 l.length),(48,.int .i64 (((j+1:Nat):Int)))])
  (fun i=>match i with|0=>S++⟨0,some (.arr 90 9 [[.str [],.int .i64 0,.int .i64 0,.int .i64 0,.int .i64 0,.int .i64 0,.aM,.aM,.aM]])⟩::⟨0,some (.arr 90 9 [[.str ty,.int .i64 cj,.int .i64 (ew (iX (c_ p w0.s.f).off (c_ p w0.s.f).sh w0.s.dep)).1,.int .i64 (ew (iX (c_ p w0.s.f).off (c_ p w0.s.f).sh w0.s.dep)).2,.int .i64 0,.int .i64 0,.aM,.aM,.aM]])⟩::⟨0,some (.arr 137 5 [[.str (c_ p w0.s.f).code,.str (c_ p w0.s.f).iH,.str (c_ p w0.s.f).IU,.int .i64 (c_ p w0.s.f).off,.sl 2 ((c_ p w0.s.f).sh.map rT)]])⟩::[]|j+1=>S++⟨0,some (.arr 90 9 [[.str [],.int .i64 0,.int .i64 0,.int .i64 0,.int .i64 0,.int .i64 0,.aM,.aM,.aM]])⟩::⟨0,some (.arr 90 9 [[.str ty,.int .i64 cj,.int .i64 (ew (iX (c_ p w0.s.f).off (c_ p w0.s.f).sh w0.s.dep)).1,.int .i64 (ew (iX (c_ p w0.s.f).off (c_ p w0.s.f).sh w0.s.dep)).2,.int .i64 ((lS iq l (j+1):Nat):Int),.int .i64 ((lS (fun a b=>!iq a b) l (j+1):Nat):Int),(.cU (S.length+4) j 0 (j+1)),(.cU (S.length+5) j 0 (j+1)),.aM]])⟩::⟨0,some (.arr 137 5 [[.str (c_ p w0.s.f).code,.str (c_ p w0.s.f).iH,.str (c_ p w0.s.f).IU,.int .i64 (c_ p w0.s.f).off,.sl 2 ((c_ p w0.s.f).sh.map rT)]])⟩::⟨0,none⟩::⟨j,some (.arr 9 1 (eW w0.s.c::((tl.take j).map fun w=>eW w.s.c)))⟩::⟨j,some (.arr 3 1 (iu w0.s.n::((tl.take j).map fun w=>iu w.s.n)))⟩::[]) (fun i=>i≤l.length) (fun i=>l.length-i) (fun i hi=>by rw[b_];cases i<;>simp) 0 (az _) (.inl ⟨by simp only[↓eA,eB,aq,seval],rfl⟩) ?_
 rintro i hi;cases hc:l[i]? with
 |none=>
  have eh:l.length≤i:=List.getElem?_eq_none_iff.1 hc;have aR:¬((i:Int)<l.length):=by omega
  have sC:i=l.length:=by omega
  cases i with
  |zero=>omega
  |succ j=>
   simp(disch:=first|omega|(simp only[ai];omega)) only[dF aR,aj,↓eA,eB,aq,seval];refine(cz _).then ?_
   have kv:=o5 p l (by rw[lQ];simp);have O6:((cF p l).map eW).length=l.length+1:=by rw[aP,kv]
   have WJ:((l.length+1:Nat):Int)-1=(l.length:Nat):=by omega
   have jn:(1:Int)≤(l.length:Nat)∧((l.length:Nat):Int)≤((l.length+1:Nat):Int):=by omega
   simp(disch:=first|omega|(simp only[ai];omega)) only[kv,O6,WJ,aK jn,cn,wrap_i64,aj,↓eA,eB,aq,seval];have oV:j+1=l.length:=sC;have hv:(cF p l).tail.dropLast=((cF p l).drop 1).take (l.length-1):=by
    rw[List.dropLast_eq_take,List.length_tail,kv,List.drop_one];rfl
   have Ur:l.map (fun w=>w.s.c)=w0.s.c::(tl.take j).map (fun w=>w.s.c):=by rw[lQ,bh (by omega)];rfl
   have OR:l.map (fun w=>w.s.n)=w0.s.n::(tl.take j).map (fun w=>w.s.n):=by rw[lQ,bh (by omega)];rfl
   have ht:dN (im p l ty cj)=[.str ty,.int .i64 cj,.int .i64 (ew (iX (c_ p w0.s.f).off (c_ p w0.s.f).sh w0.s.dep)).1,.int .i64 (ew (iX (c_ p w0.s.f).off (c_ p w0.s.f).sh w0.s.dep)).2,.int .i64 ((lS iq l (j+1):Nat):Int),.int .i64 ((lS (fun a b=>!iq a b) l (j+1):Nat):Int),.sl 1 (eW w0.s.c::(tl.take j).map (fun w=>eW w.s.c)),.sl 1 (iu w0.s.n::(tl.take j).map (fun w=>iu w.s.n)),.sl 1 ((((cF p l).drop 1).take (l.length-1)).map eW)]:=by
    have e:im p l ty cj=⟨ty,cj,(ew (iX (c_ p w0.s.f).off (c_ p w0.s.f).sh w0.s.dep)).1,(ew (iX (c_ p w0.s.f).off (c_ p w0.s.f).sh w0.s.dep)).2,(lS iq l l.length:Nat),(lS (fun a b=>!iq a b) l l.length:Nat),l.map (fun w=>w.s.c),l.map (fun w=>w.s.n),(cF p l).tail.dropLast⟩:=by
     rw[lQ];simp only[im,Gm,Ah,iX]
    rw[e,Ur,OR,hv,←oV];simp only[dN,bd,fP];rfl
   refine⟨.agg (dN (im p l ty cj)),S,hn.dO _,?_,ah _,rfl,rfl⟩;rw[ht];have i1:=mI (w0.s.c::(tl.take j).map (fun w=>w.s.c));have i2:=my (w0.s.n::(tl.take j).map (fun w=>w.s.n));simp only[bd,fP]at i1 i2;exact jf ⟨.bX rfl,.bX rfl,.bX rfl,.bX rfl,.bX rfl,.bX rfl,.sl (t:=9) (by omega) (by rw[iD];rw[cT];rw[cT];rw[cT];rw[cT];rw[cE]) (by simp;omega) i1,.sl (t:=3) (by omega) (by rw[iD];rw[cT];rw[cT];rw[cT];rw[cT];rw[cT];rw[cE]) (by simp;omega) i2,.bX rfl,trivial⟩
 |some y=>
  have cK:=(List.getElem?_eq_some_iff.1 hc).1;have aR:((i:Int)<l.length):=by omega
  have cN:(i:Int)+1=((i+1:Nat):Int):=by omega
  cases i with
  |zero=>
   have lP:((0:Int)<l.length):=by omega
   simp(maxSteps:=5000000) (disch:=first|omega|(simp only[ai];omega)) only[dT lP,dw,h0,cR,gl,wrap_i64,aj,↓eA,eB,aq,seval];refine⟨0+1,by omega,by omega,?_⟩;simp only[DK,ff,bY];exact dt (WT hn ⟨rfl,rfl⟩ ⟨rfl,by simp[V.bI,V.under]⟩ ⟨rfl,rfl⟩ (mI [_]) (my [_])) (by simp only[↓eA,eB,aq,seval];try rfl) (by simp[V.under,V.bI])
  |succ j=>
   have hj:j<l.length:=by omega
   have O7:l[j]?=some l[j]:=ax hj;generalize l[j]=z at O7;have hy:=hw y (aB hc);have hz:=hw z (aB O7);have uE:¬((j+1:Nat):Int)=0:=by omega
   have hjm:((j+1:Nat):Int)-1=(j:Int):=by omega
   have Lq:=hs j;rw[hc]at Lq;have Bd:=(List.getElem?_eq_some_iff.1 Lq.symm).1;have Be:(tl.take (j+1)).map (fun w=>eW w.s.c)=(tl.take j).map (fun w=>eW w.s.c)++[eW y.s.c]:=by rw[gy Lq.symm];simp
   have hcn:(tl.take (j+1)).map (fun w=>iu w.s.n)=(tl.take j).map (fun w=>iu w.s.n)++[iu y.s.n]:=by rw[gy Lq.symm];simp
   have hjc:((tl.take j).map (fun w=>eW w.s.c)).length=j:=by rw[aP,bV];omega
   have Un:((tl.take j).map (fun w=>iu w.s.n)).length=j:=by rw[aP,bV];omega
   have k1:=rz iq l O7 hc;have k2:=rz (fun a b=>!iq a b) l O7 hc;have q1:=wD iq l (j+1);have q2:=wD (fun a b=>!iq a b) l (j+1);simp(disch:=first|omega|(simp only[ai];omega)) only[dT aR,dF uE,hjm,hc,O7,Vd (n:=j) hjc (by omega),Vc (n:=j) Un (by omega),cR,gl,wrap_i64,aj,↓eA,eB,aq,seval];refine⟨by rw[bV];omega,by unfold dw;omega,by rw[bV];omega,by unfold dw;omega,?_⟩;refine(L9 z.s.arr y.s.dep hz.2 hy.1 _).then ?_
   have i1:=mI (w0.s.c::((tl.take j).map (fun w=>w.s.c)++[y.s.c]));have i2:=my (w0.s.n::((tl.take j).map (fun w=>w.s.n)++[y.s.n]));simp only[bd,fP,bF,bY]at i1 i2;have Uc:iq z y=decide (1440≤y.s.dep-z.s.arr):=rfl;rw[Uc]at k1 k2;cases dq:decide (1440≤y.s.dep-z.s.arr)<;>rw[dq]at k1 k2<;>simp only[eH,aQ,aV,aZ,pb]at k1 k2<;>simp(disch:=first|omega|(simp only[ai];omega)) only[dq,cN,wrap_i64,aj,↓eA,eB,aq,seval];all_goals
    refine⟨j+1+1,by omega,by omega,?_⟩;simp only[k1,k2,Be,hcn];exact dt (WT hn ⟨rfl,rfl⟩ ⟨rfl,by simp[V.bI,V.under]⟩ ⟨rfl,rfl⟩ i1 i2) (by simp only[↓eA,eB,aq,seval];try rfl) (by simp[V.under,V.bI])
theorem Tj(p:fO)(hp:p.1.length≤1000)(CQ:mH p)(l:List gv)(hl:l.length≤8)(hw:Se l)(ty:bS)(cj:Int)(S:ae):ak Tryz.prog 177 [dV p,.sl 8 (l.map cR),.str ty,.int .i64 cj] S fun v S'=>v= .agg (dN (im p l ty cj))∧S'=S:=by
 refine ak.bp Tryz.func177 Xz fun hn=>?_;refine ak.fin Tryz.func177 Xz (U rfl) fun σ b_=>?_;have cz:=fun S=>rY p hp l hl S;simp only[dV]at cz;simp(disch:=first|omega|(simp only[ai];omega)) only[Y0,dV,aj,↓eA,eB,aq,seval];cases lQ:l with
 |nil=>
  simp(disch:=first|omega|(simp only[ai];omega)) only[bz,aj,↓eA,eB,aq,seval];exact⟨.agg (dN (im p [] ty cj)),S,hn.dO _,jf (show lW _ _ _ [.str ty,.int .i64 cj,.int .i64 0,.int .i64 0,.int .i64 0,.int .i64 0,.sl 1 [],.sl 1 [],.sl 1 []]from⟨.bX rfl,.bX rfl,.bX rfl,.bX rfl,.bX rfl,.bX rfl,.nil,.nil,.nil,trivial⟩),ah _,rfl,rfl⟩
 |cons w0 tl=>
 have hlen:l.length=tl.length+1:=by rw[lQ];rfl
 have eY:¬((l.length:Nat):Int)=0:=by omega
 have h0:l[0]?=some w0:=by rw[lQ];rfl
 have hs:∀j,l[j+1]?=tl[j]?:=fun j=>by rw[lQ];rfl
 rw[←lQ];have fz:=fun S=>BX p w0.s.f S hp;have hzk:=uK CQ w0.s.f;have lc:=fun S=>BV (c_ p w0.s.f).off (c_ p w0.s.f).sh (by have:=hzk.1;omega) hzk.2 w0.s.dep S;have sp:=fun S=>BP (iX (c_ p w0.s.f).off (c_ p w0.s.f).sh w0.s.dep) (ox _).1 (ox _).2 S;simp only[dV,dG]at fz;refine⟨fun h=>absurd h eY,fun _=>?_⟩;simp(disch:=first|omega|(simp only[ai];omega)) only[cR,gl,h0,aj,↓eA,eB,aq,seval];apply jC.share (P:=Tryz.prog) (N:=108) (σ:=σ) ([(1,.sl 8 (l.map cR)),(4,.bK [.sl 5 (p.1.map dG),.sl 3 (p.2.map cZ)]),(8,.ptr S.length 0 0 0),(9,.ptr (S.length+1) 0 0 0),(12,.int .i64 (0))]) (S++⟨0,some (.arr 90 9 [[.str [],.int .i64 0,.int .i64 0,.int .i64 0,.int .i64 0,.int .i64 0,.aM,.aM,.aM]])⟩::⟨0,some (.arr 90 9 [[.str ty,.int .i64 cj,.int .i64 (ew (iX (c_ p w0.s.f).off (c_ p w0.s.f).sh w0.s.dep)).1,.int .i64 (ew (iX (c_ p w0.s.f).off (c_ p w0.s.f).sh w0.s.dep)).2,.int .i64 0,.int .i64 0,.aM,.aM,.aM]])⟩::⟨0,some (.arr 137 5 [[.str (c_ p w0.s.f).code,.str (c_ p w0.s.f).iH,.str (c_ p w0.s.f).IU,.int .i64 (c_ p w0.s.f).off,.sl 2 ((c_ p w0.s.f).sh.map rT)]])⟩::[])
 ·intro key;refine⟨?_,?_⟩;all_goals
   refine(fz _).then ?_
   simp(disch:=first|omega|(simp only[ai];omega)) only[dG,cR,gl,h0,aj,↓eA,eB,aq,seval];refine(lc _).then ?_
   simp(disch:=first|omega|(simp only[ai];omega)) only[aj,↓eA,eB,aq,seval];refine(sp _).then ?_
   simp(disch:=first|omega|(simp only[ai];omega)) only[aj,↓eA,eB,aq,seval]
  all_goals exact key.sub (by simp only[↓eA,eB,aq,seval])
 refine dm (ι:=Nat) (fun i=>match i with|0=>[(1,.sl 8 (l.map cR)),(4,.bK [.sl 5 (p.1.map dG),.sl 3 (p.2.map cZ)]),(8,.ptr S.length 0 0 0),(9,.ptr (S.length+1) 0 0 0),(12,.int .i64 (0))]|j+1=>[(1,.sl 8 (l.map cR)),(4,.bK [.sl 5 (p.1.map dG),.sl 3 (p.2.map cZ)]),(8,.ptr S.length 0 0 0),(9,.ptr (S.length+1) 0 0 0),(12,.int .i64 (((j+1:Nat):Int)))])
  (fun i=>match i with|0=>S++⟨0,some (.arr 90 9 [[.str [],.int .i64 0,.int .i64 0,.int .i64 0,.int .i64 0,.int .i64 0,.aM,.aM,.aM]])⟩::⟨0,some (.arr 90 9 [[.str ty,.int .i64 cj,.int .i64 (ew (iX (c_ p w0.s.f).off (c_ p w0.s.f).sh w0.s.dep)).1,.int .i64 (ew (iX (c_ p w0.s.f).off (c_ p w0.s.f).sh w0.s.dep)).2,.int .i64 0,.int .i64 0,.aM,.aM,.aM]])⟩::⟨0,some (.arr 137 5 [[.str (c_ p w0.s.f).code,.str (c_ p w0.s.f).iH,.str (c_ p w0.s.f).IU,.int .i64 (c_ p w0.s.f).off,.sl 2 ((c_ p w0.s.f).sh.map rT)]])⟩::[]|j+1=>S++⟨0,some (.arr 90 9 [[.str [],.int .i64 0,.int .i64 0,.int .i64 0,.int .i64 0,.int .i64 0,.aM,.aM,.aM]])⟩::⟨0,some (.arr 90 9 [[.str ty,.int .i64 cj,.int .i64 (ew (iX (c_ p w0.s.f).off (c_ p w0.s.f).sh w0.s.dep)).1,.int .i64 (ew (iX (c_ p w0.s.f).off (c_ p w0.s.f).sh w0.s.dep)).2,.int .i64 ((lS iq l (j+1):Nat):Int),.int .i64 ((lS (fun a b=>!iq a b) l (j+1):Nat):Int),(.cU (S.length+3) j 0 (j+1)),(.cU (S.length+4) j 0 (j+1)),.aM]])⟩::⟨0,some (.arr 137 5 [[.str (c_ p w0.s.f).code,.str (c_ p w0.s.f).iH,.str (c_ p w0.s.f).IU,.int .i64 (c_ p w0.s.f).off,.sl 2 ((c_ p w0.s.f).sh.map rT)]])⟩::⟨j,some (.arr 9 1 (eW w0.s.c::((tl.take j).map fun w=>eW w.s.c)))⟩::⟨j,some (.arr 3 1 (iu w0.s.n::((tl.take j).map fun w=>iu w.s.n)))⟩::[]) (fun i=>i≤l.length) (fun i=>l.length-i) (fun i hi=>by rw[b_];cases i<;>simp) 0 (az _) (.inl ⟨by simp only[↓eA,eB,aq,seval],rfl⟩) ?_
 rintro i hi;cases hc:l[i]? with
 |none=>
  have eh:l.length≤i:=List.getElem?_eq_none_iff.1 hc;have aR:¬((i:Int)<l.length):=by omega
  have sC:i=l.length:=by omega
  cases i with
  |zero=>omega
  |succ j=>
   simp(disch:=first|omega|(simp only[ai];omega)) only[dF aR,aj,↓eA,eB,aq,seval];refine(cz _).then ?_
   have kv:=o5 p l (by rw[lQ];simp);have O6:((cF p l).map eW).length=l.length+1:=by rw[aP,kv]
   have WJ:((l.length+1:Nat):Int)-1=(l.length:Nat):=by omega
   have jn:(1:Int)≤(l.length:Nat)∧((l.length:Nat):Int)≤((l.length+1:Nat):Int):=by omega
   simp(disch:=first|omega|(simp only[ai];omega)) only[kv,O6,WJ,aK jn,cn,wrap_i64,aj,↓eA,eB,aq,seval];have oV:j+1=l.length:=sC;have hv:(cF p l).tail.dropLast=((cF p l).drop 1).take (l.length-1):=by
    rw[List.dropLast_eq_take,List.length_tail,kv,List.drop_one];rfl
   have Ur:l.map (fun w=>w.s.c)=w0.s.c::(tl.take j).map (fun w=>w.s.c):=by rw[lQ,bh (by omega)];rfl
   have OR:l.map (fun w=>w.s.n)=w0.s.n::(tl.take j).map (fun w=>w.s.n):=by rw[lQ,bh (by omega)];rfl
   have ht:dN (im p l ty cj)=[.str ty,.int .i64 cj,.int .i64 (ew (iX (c_ p w0.s.f).off (c_ p w0.s.f).sh w0.s.dep)).1,.int .i64 (ew (iX (c_ p w0.s.f).off (c_ p w0.s.f).sh w0.s.dep)).2,.int .i64 ((lS iq l (j+1):Nat):Int),.int .i64 ((lS (fun a b=>!iq a b) l (j+1):Nat):Int),.sl 1 (eW w0.s.c::(tl.take j).map (fun w=>eW w.s.c)),.sl 1 (iu w0.s.n::(tl.take j).map (fun w=>iu w.s.n)),.sl 1 ((((cF p l).drop 1).take (l.length-1)).map eW)]:=by
    have e:im p l ty cj=⟨ty,cj,(ew (iX (c_ p w0.s.f).off (c_ p w0.s.f).sh w0.s.dep)).1,(ew (iX (c_ p w0.s.f).off (c_ p w0.s.f).sh w0.s.dep)).2,(lS iq l l.length:Nat),(lS (fun a b=>!iq a b) l l.length:Nat),l.map (fun w=>w.s.c),l.map (fun w=>w.s.n),(cF p l).tail.dropLast⟩:=by
     rw[lQ];simp only[im,Gm,Ah,iX]
    rw[e,Ur,OR,hv,←oV];simp only[dN,bd,fP];rfl
   refine⟨.agg (dN (im p l ty cj)),S,hn.dO _,?_,ah _,rfl,rfl⟩;rw[ht];have i1:=mI (w0.s.c::(tl.take j).map (fun w=>w.s.c));have i2:=my (w0.s.n::(tl.take j).map (fun w=>w.s.n));simp only[bd,fP]at i1 i2;exact jf ⟨.bX rfl,.bX rfl,.bX rfl,.bX rfl,.bX rfl,.bX rfl,.sl (t:=9) (by omega) (by rw[iD];rw[cT];rw[cT];rw[cT];rw[cE]) (by simp;omega) i1,.sl (t:=3) (by omega) (by rw[iD];rw[cT];rw[cT];rw[cT];rw[cT];rw[cE]) (by simp;omega) i2,.bX rfl,trivial⟩
 |some y=>
  have cK:=(List.getElem?_eq_some_iff.1 hc).1;have aR:((i:Int)<l.length):=by omega
  have cN:(i:Int)+1=((i+1:Nat):Int):=by omega
  cases i with
  |zero=>
   have lP:((0:Int)<l.length):=by omega
   simp(maxSteps:=5000000) (disch:=first|omega|(simp only[ai];omega)) only[dT lP,dw,h0,cR,gl,wrap_i64,aj,↓eA,eB,aq,seval];repeat' apply ag
   all_goals
    refine⟨0+1,by omega,by omega,?_⟩;simp only[DK,ff,bY];exact dt (WS hn ⟨rfl,rfl⟩ ⟨rfl,by simp[V.bI,V.under]⟩ ⟨rfl,rfl⟩ (mI [_]) (my [_])) (by simp only[↓eA,eB,aq,seval];try rfl) (by simp[V.under,V.bI])
  |succ j=>
   have hj:j<l.length:=by omega
   have O7:l[j]?=some l[j]:=ax hj;generalize l[j]=z at O7;have hy:=hw y (aB hc);have hz:=hw z (aB O7);have uE:¬((j+1:Nat):Int)=0:=by omega
   have hjm:((j+1:Nat):Int)-1=(j:Int):=by omega
   have Lq:=hs j;rw[hc]at Lq;have Bd:=(List.getElem?_eq_some_iff.1 Lq.symm).1;have Be:(tl.take (j+1)).map (fun w=>eW w.s.c)=(tl.take j).map (fun w=>eW w.s.c)++[eW y.s.c]:=by rw[gy Lq.symm];simp
   have hcn:(tl.take (j+1)).map (fun w=>iu w.s.n)=(tl.take j).map (fun w=>iu w.s.n)++[iu y.s.n]:=by rw[gy Lq.symm];simp
   have hjc:((tl.take j).map (fun w=>eW w.s.c)).length=j:=by rw[aP,bV];omega
   have Un:((tl.take j).map (fun w=>iu w.s.n)).length=j:=by rw[aP,bV];omega
   have k1:=rz iq l O7 hc;have k2:=rz (fun a b=>!iq a b) l O7 hc;have q1:=wD iq l (j+1);have q2:=wD (fun a b=>!iq a b) l (j+1);have i1:=mI (w0.s.c::((tl.take j).map (fun w=>w.s.c)++[y.s.c]));have i2:=my (w0.s.n::((tl.take j).map (fun w=>w.s.n)++[y.s.n]));simp only[bd,fP,bF,bY]at i1 i2;have Uc:iq z y=decide (1440≤y.s.dep-z.s.arr):=rfl;rw[Uc]at k1 k2;cases dq:decide (1440≤y.s.dep-z.s.arr)<;>rw[dq]at k1 k2<;>simp only[eH,aQ,aV,aZ,pb]at k1 k2<;>simp(maxSteps:=5000000) (disch:=first|omega|(simp only[ai];omega)) only[dT aR,dF uE,hjm,hc,O7,dq,cN,cR,gl,wrap_i64,aj,↓eA,eB,aq,seval]<;>repeat' apply ag
   all_goals first
    |(rw[bV];omega)
    |(unfold dw;omega)
    |(refine⟨j+1+1,by omega,by omega,?_⟩
      simp only[k1,k2,Be,hcn];exact dt (WS hn ⟨rfl,rfl⟩ ⟨rfl,by simp[V.bI,V.under]⟩ ⟨rfl,rfl⟩ i1 i2) (by simp only[↓eA,eB,aq,seval];try rfl) (by simp[V.under,V.bI]))
end Go.Proofs.YtfgkgmmnldocaaaGreatDoor
