/- Cn0 -/
import Derived.Test.YtfgkgmmnldocaaaGreatDoorZAlJ
import Derived.Test.YtfgkgmmnldocaaaGreatDoorZCmdC
import Derived.Test.YtfgkgmmnldocaaaGreatDoorZCsB
import Derived.Test.YtfgkgmmnldocaaaGreatDoorZCmp1
set_option linter.unusedSectionVars false
set_option linter.unusedSimpArgs false
set_option linter.unusedVariables false
namespace Go.Proofs.YtfgkgmmnldocaaaGreatDoor
open Go Go.AL
variable[Go.AL.Mode][Go.AL.bR]
def Ad(n:Nat)(o:AL.Obj):Prop:=match o.st with
 |none=>True
 |some (.arr e sz rows)=>∀r∈rows,r.length=sz∧V.bI n r=true
 |some (.mp m)=>(∀p∈m.rows,p.1.under n=true∧p.2.under n=true∧jl m.kd p.1=true)∧∀of p,m.x= .iter of (some p)→p.1.under n=true∧p.2.under n=true
theorem NF{S:ae}:jv S↔∀o∈S,Ad S.length o:=by
 constructor
 ·intro h o ho;obtain⟨id,dD⟩:=ez ho;obtain⟨aI,st⟩:=o;cases st with
  |none=>trivial
  |some ct=>
   cases ct with
   |arr e sz rows=>exact h.1 id aI e sz rows dD
   |mp m=>exact h.2 id aI m dD
 ·intro h;refine⟨fun id aI e sz rows dD=>?_,fun id aI m dD=>?_⟩
  ·exact h _ (aB dD)
  ·exact h _ (aB dD)
theorem Ad.self{S S1:ae}{o:AL.Obj}(h:Ad S1.length o):TJ S S1 o o.st:=by
 obtain⟨aI,st⟩:=o;cases st with
 |none=>trivial
 |some ct=>
  cases ct with
  |arr e sz rows=>exact⟨rows,rfl,.under h⟩
  |mp m=>
   refine⟨m,rfl,.same fun of p hp=>.inl (h.2 of p hp),rfl,rfl,fun p hp=>(h.1 p hp).2.2,fun i p1 p h1 h2=>?_⟩;rw[h1]at h2;cases h2;obtain⟨k1,k2,_⟩:=h.1 p1 (aB h1);exact⟨.same (.inl k1),.same (.inl k2)⟩
end Go.Proofs.YtfgkgmmnldocaaaGreatDoor
namespace Go.Proofs.YtfgkgmmnldocaaaGreatDoor
open Go Go.AL
variable[Go.AL.Mode][Go.AL.bR]
theorem fV{α:Type}{l:List α}{k:Nat}{x:α}(h:l[k]?=some x):l.drop k=x::l.drop (k+1):=by
 obtain⟨aR,rfl⟩:=List.getElem?_eq_some_iff.1 h;exact dQ aR
theorem tdm{a b:Int}(hb:0<b):(0≤a→a.tdiv b=a/b∧a.tmod b=a%b)∧(a<0→a.tdiv b= -((-a)/b)∧a.tmod b= -((-a)%b)):=by
 refine⟨fun h=>⟨dd h,bH h⟩,fun h=>?_⟩;have e:a= -(-a):=by omega
 have h1:a.tdiv b= -((-a).tdiv b):=by conv=>lhs;rw[e,Int.neg_tdiv]
 have h2:a.tmod b= -((-a).tmod b):=by conv=>lhs;rw[e,Int.neg_tmod]
 rw[h1,h2,dd (by omega),bH (by omega)];exact⟨rfl,rfl⟩
theorem lD{f:FuncId}{sz:Nat}{rows:List (List V)}{rest:List V}{S:ae}{R:V→ae→Prop}(h:rows.length≤maxLen→ak Tryz.prog f (.sl sz rows::rest) S R)(h0:o8 Tryz.prog f):ak Tryz.prog f (.sl sz rows::rest) S R:=
 ⟨h0,fun ρ w us hi hv=>by
  obtain⟨u,_,hu⟩:=hv.2 0 _ rfl;cases hu with
  |gC=>exact(h (az _)).2 ρ w us hi hv
  |sl c kP hlen ki jS=>exact(h (by omega)).2 ρ w us hi hv⟩
theorem pH{f:FuncId}{r:List V}{j sz:Nat}{rows:List (List V)}{rest:List V}{S:ae}{R:V→ae→Prop}(hj:r[j]?=some (.sl sz rows))(h:rows.length≤maxLen→ak Tryz.prog f (.agg r::rest) S R)(h0:o8 Tryz.prog f):ak Tryz.prog f (.agg r::rest) S R:=
 ⟨h0,fun ρ w us hi hv=>by
  obtain⟨u,_,hu⟩:=hv.2 0 _ rfl;cases hu with
  |agg c hl hc hm=>
   have hx:=hm j _ hj;generalize c j=y at hx;cases hx with
   |gC=>exact(h (az _)).2 ρ w us hi hv
   |sl c kP hlen ki jS=>exact(h (by omega)).2 ρ w us hi hv⟩
theorem Nf(off:Int)(sh:List (Int×Int))(hl:sh.length≤2000000)(u:Int)(S:ae):ak Tryz.prog 51 [.agg [.int .i64 off,.sl 2 (sh.map rT)],.int .i64 u] S fun r S'=>r= .int .i64 (xh off sh u)∧S'=S:=by
 refine ak.bp Tryz.func51 Xu fun hn=>?_;refine ak.fin Tryz.func51 Xu (U rfl) fun σ b_=>?_;simp(disch:=first|omega|(simp only[ai];omega)) only[YY,aj,↓eA,eB,aq,seval];refine dm (ι:=Nat×Int) (fun k=>[(1,.int .i64 u),(5,.int .i64 k.2),(11,.sl 2 (sh.map rT)),(12,.int .i64 sh.length),(13,.int .i64 (k.1:Nat))]) (fun _=>S) (fun k=>k.1≤sh.length∧xh k.2 (sh.drop k.1) u=xh off sh u) (fun k=>sh.length-k.1) (fun i hi=>by rw[b_];exact ah _) (0,off) ⟨az _,rfl⟩ (.inl ⟨?_,rfl⟩) ?_
 ·simp only[↓eA,eB,aq,seval];try rfl
 rintro⟨k,o⟩ ⟨hk,gK⟩;simp only at hk gK⊢;cases hc:sh[k]? with
 |none=>
  have eh:sh.length≤k:=List.getElem?_eq_none_iff.1 hc;have aR:¬((k:Int)<sh.length):=by omega
  rw[bO eh,xh]at gK;simp(disch:=first|omega|(simp only[ai];omega)) only[dF aR,aj,↓eA,eB,aq,seval];exact⟨_,S,hn.self,.bX rfl,ah _,by rw[gK],rfl⟩
 |some s=>
  have cK:=(List.getElem?_eq_some_iff.1 hc).1;have aR:(k:Int)<sh.length:=by omega
  have cN:(k:Int)+1=((k+1:Nat):Int):=by omega
  rw[fV hc,xh]at gK;by_cases h1:u<s.1
  ·rw[aK h1]at gK;simp(disch:=first|omega|(simp only[ai];omega)) only[dT aR,hc,dT h1,rT,aj,↓eA,eB,aq,seval];exact⟨_,S,hn.dO _,.bX rfl,ah _,by rw[gK],rfl⟩
  ·rw[aC h1]at gK;simp(disch:=first|omega|(simp only[ai];omega)) only[dT aR,hc,dF h1,rT,wrap_i64,cN,aj,↓eA,eB,aq,seval];exact⟨(k+1,s.2),⟨by simp only;omega,gK⟩,by simp only;omega,dt (hn.dO _) (by simp only[↓eA,eB,aq,seval];try rfl) (by simp[V.under,V.bI])⟩
theorem ZU(off:Int)(sh:List (Int×Int))(hl:sh.length≤2000000)(u:Int)(S:ae):ak Tryz.prog 226 [.agg [.int .i64 off,.sl 2 (sh.map rT)],.int .i64 u] S fun r S'=>r= .int .i64 (xg off sh u)∧S'=S:=by
 refine ak.bW Tryz.func226 afH (U rfl) fun σ b_=>?_;simp(disch:=first|omega|(simp only[ai];omega)) only[YW,aj,↓eA,eB,aq,seval];refine cH (ι:=Nat×Int) (fun k=>[(1,.int .i64 u),(2,.bK [.int .i64 off,.sl 2 (sh.map rT)]),(5,.int .i64 k.2),(6,.int .i64 (k.1:Nat))]) (fun _=>S) (fun k=>k.1≤sh.length∧xg k.2 (sh.drop k.1) u=xg off sh u) (fun k=>sh.length-k.1) (0,off) ⟨az _,rfl⟩ ?_ rfl ?_
 ·simp only[↓eA,eB,aq,seval];try rfl
 rintro⟨k,o⟩ ⟨hk,gK⟩;simp only at hk gK⊢;cases hc:sh[k]? with
 |none=>
  have eh:sh.length≤k:=List.getElem?_eq_none_iff.1 hc;have aR:¬((k:Int)<sh.length):=by omega
  rw[bO eh,xg]at gK;simp(disch:=first|omega|(simp only[ai];omega)) only[dF aR,gK,aj,↓eA,eB,aq,seval]
 |some s=>
  have cK:=(List.getElem?_eq_some_iff.1 hc).1;have aR:(k:Int)<sh.length:=by omega
  have cN:(k:Int)+1=((k+1:Nat):Int):=by omega
  rw[fV hc,xg]at gK;by_cases h1:s.1≤u
  ·rw[aK h1]at gK;simp(disch:=first|omega|(simp only[ai];omega)) only[dT aR,hc,dT h1,rT,wrap_i64,cN,aj,↓eA,eB,aq,seval];exact⟨(k+1,s.2),⟨by simp only;omega,gK⟩,by simp only;omega,by first|exact⟨rfl,rfl,rfl⟩|exact⟨rfl,rfl⟩⟩
  ·rw[aC h1]at gK;simp(disch:=first|omega|(simp only[ai];omega)) only[dT aR,hc,dF h1,rT,wrap_i64,cN,aj,↓eA,eB,aq,seval];exact⟨(k+1,o),⟨by simp only;omega,gK⟩,by simp only;omega,by first|exact⟨rfl,rfl,rfl⟩|exact⟨rfl,rfl⟩⟩
def iX(off:Int)(sh:List (Int×Int))(u:Int):Int:=IntKind.i64.wrap (u+xh off sh u)
theorem H8(off:Int)(sh:List (Int×Int))(hl:sh.length≤2000000)(u:Int)(S:ae):ak Tryz.prog 18 [.agg [.int .i64 off,.sl 2 (sh.map rT)],.int .i64 u] S fun r S'=>r= .int .i64 (iX off sh u)∧S'=S:=by
 refine ak.bW Tryz.func18 afI (U rfl) fun σ b_=>?_;simp(disch:=first|omega|(simp only[ai];omega)) only[YX,aj,↓eA,eB,aq,seval];refine(Nf off sh hl u S).then ?_
 simp(disch:=first|omega|(simp only[ai];omega)) only[iX,aj,↓eA,eB,aq,seval]
theorem BV(off:Int)(sh:List (Int×Int))(hl:sh.length≤2000000)(ho:zC sh)(u:Int)(S:ae):ak Tryz.prog 202 [.agg [.int .i64 off,.sl 2 (sh.map rT)],.int .i64 u] S fun r S'=>r= .int .i64 (iX off sh u)∧S'=S:=by
 refine ak.bW Tryz.func202 afG (U rfl) fun σ b_=>?_;simp(disch:=first|omega|(simp only[ai];omega)) only[YV,aj,↓eA,eB,aq,seval];refine(ZU off sh hl u S).then ?_
 simp(disch:=first|omega|(simp only[ai];omega)) only[iX,Ce sh off u ho,aj,↓eA,eB,aq,seval]
theorem BA(m:Int)(h: -9223372036854775808≤m)(h2:m<9223372036854775808):IntKind.i64.wrap (m.tdiv 1440)=m.tdiv 1440∧(m.tmod 1440<0→IntKind.i64.wrap (m.tdiv 1440-1)=m/1440∧IntKind.i64.wrap (m.tmod 1440+1440)=m%1440)∧(¬m.tmod 1440<0→m.tdiv 1440=m/1440∧m.tmod 1440=m%1440):=by
 have ht:=tdm (a:=m) (b:=1440) (by omega);by_cases h0:0≤m
 ·obtain⟨e1,e2⟩:=ht.1 h0;rw[e1,e2];refine⟨wrap_i64 (by omega) (by omega),fun hh=>by omega,fun _=>⟨rfl,rfl⟩⟩
 ·obtain⟨e1,e2⟩:=ht.2 (by omega);rw[e1,e2];refine⟨wrap_i64 (by omega) (by omega),fun hh=>?_,fun hh=>by omega⟩;rw[wrap_i64 (by omega) (by omega),wrap_i64 (by omega) (by omega)];omega
theorem G0(m:Int)(h: -9223372036854775808≤m)(h2:m<9223372036854775808)(S:ae):ak Tryz.prog 56 [.int .i64 m] S fun r S'=>r= .dI [.int .i64 (ew m).1,.int .i64 (ew m).2]∧S'=S:=by
 refine ak.bW Tryz.func56 afF (U rfl) fun σ b_=>?_;have h5:(1440:Int)≠0:=by omega
 obtain⟨e0,e1,e2⟩:=BA m h h2;by_cases h3:m.tmod 1440<0
 ·obtain⟨e3,e4⟩:=e1 h3;simp(disch:=first|omega|(simp only[ai];omega)) only[Q6,j3 h5,i_ h5,e0,dT h3,e3,e4,ew,aj,↓eA,eB,aq,seval]
 ·obtain⟨e3,e4⟩:=e2 h3;simp(disch:=first|omega|(simp only[ai];omega)) only[Q6,j3 h5,i_ h5,e0,dF h3,ew,aj,↓eA,eB,aq,seval];rw[e3,e4]
theorem BP(m:Int)(h: -9223372036854775808≤m)(h2:m<9223372036854775808)(S:ae):ak Tryz.prog 201 [.int .i64 m] S fun r S'=>r= .dI [.int .i64 (ew m).1,.int .i64 (ew m).2]∧S'=S:=by
 refine ak.bW Tryz.func201 afE (U rfl) fun σ b_=>?_;have h5:(1440:Int)≠0:=by omega
 obtain⟨e0,e1,e2⟩:=BA m h h2;by_cases h3:m.tmod 1440<0
 ·obtain⟨e3,e4⟩:=e1 h3;simp(disch:=first|omega|(simp only[ai];omega)) only[Q5,j3 h5,i_ h5,e0,dT h3,e3,e4,ew,aj,↓eA,eB,aq,seval]
 ·obtain⟨e3,e4⟩:=e2 h3;simp(disch:=first|omega|(simp only[ai];omega)) only[Q5,j3 h5,i_ h5,e0,dF h3,ew,aj,↓eA,eB,aq,seval];rw[e3,e4]
end Go.Proofs.YtfgkgmmnldocaaaGreatDoor
namespace Go.Proofs.YtfgkgmmnldocaaaGreatDoor
open Go Go.AL
variable[Go.AL.Mode][Go.AL.bR]
def nk{α:Type}(q:α→Bool):List α→Nat→Int
 |[],_=>-1
 |x::l,k=>if q x then(k:Nat)else nk q l (k+1)
theorem oP{α:Type}(q:α→Bool):∀(l:List α) (k:Nat),decide (0≤nk q l k)=l.any q
 |[],k=>by simp[nk]
 |x::l,k=>by
  rw[nk,List.any_cons];by_cases h:q x=true
  ·rw[aK h,h];simp
  ·rw[aC h,oP q l (k+1)];simp[h]
theorem mx(n:Nat)(h:n≤maxLen):n≤9223372036854775807:=by unfold maxLen at h;omega
theorem Oq(l:List gv)(q:gv→Bool)(g:FuncId)(jq:List V)(hl:l.length≤9223372036854775807)(S:ae)(hq:∀x∈l,ak Tryz.prog g (.agg (cR x)::jq) S fun r S'=>r= .bool (q x)∧S'=S):
 ak Tryz.prog 53 [.sl 8 (l.map cR),.func g [] jq] S fun r S'=>r= .int .i64 (nk q l 0)∧S'=S:=by
 refine ak.bW Tryz.func53 afh (U rfl) fun σ b_=>?_;simp(disch:=first|omega|(simp only[ai];omega)) only[Yl,aj,↓eA,eB,aq,seval];refine cH (ι:=Nat) (fun k=>[(0,.sl 8 (l.map cR)),(1,.func g [] jq),(7,.int .i64 l.length),(8,.int .i64 (k:Nat))]) (fun _=>S) (fun k=>k≤l.length∧nk q l 0=nk q (l.drop k) k) (fun k=>l.length-k) 0 ⟨az _,rfl⟩ ?_ rfl ?_
 ·simp only[↓eA,eB,aq,seval]
 rintro k ⟨hk,he⟩;cases hc:l[k]? with
 |none=>
  have eh:l.length≤k:=List.getElem?_eq_none_iff.1 hc;have aR:¬((k:Int)<l.length):=by omega
  rw[bO eh]at he;simp(disch:=first|omega|(simp only[ai];omega)) only[dF aR,he,nk,aj,↓eA,eB,aq,seval]
 |some y=>
  have cK:=(List.getElem?_eq_some_iff.1 hc).1;have aR:(k:Int)<l.length:=by omega
  have cN:(k:Int)+1=((k+1:Nat):Int):=by omega
  have Fp:=hq y (aB hc);rw[fV hc,nk]at he;generalize hz:q y=z at he Fp;try simp only[cR,gl,aS,a8]at Fp
  simp(disch:=first|omega|(simp only[ai];omega)) only[dT aR,hc,cR,gl,aj,↓eA,eB,aq,seval];refine Fp.then ?_
  cases z with
  |true=>
   rw[aK rfl]at he;simp(disch:=first|omega|(simp only[ai];omega)) only[he,aj,↓eA,eB,aq,seval]
  |false=>
   rw[aC (by simp)]at he;simp(disch:=first|omega|(simp only[ai];omega)) only[wrap_i64,cN,aj,↓eA,eB,aq,seval];exact⟨k+1,⟨by omega,he⟩,by omega,rfl⟩
theorem ab7(l:List gv)(q:gv→Bool)(g:FuncId)(jq:List V)(S:ae)(hq:∀x∈l,ak Tryz.prog g (.agg (cR x)::jq) S fun r S'=>r= .bool (q x)∧S'=S):
 ak Tryz.prog 22 [.sl 8 (l.map cR),.func g [] jq] S fun r S'=>r= .bool (l.any q)∧S'=S:=by
 refine lD (fun hm=>?_) ⟨Tryz.f22,Tryz.func22,by kernel_rfl,by kernel_rfl⟩;rw[aP]at hm;refine ak.bW Tryz.func22 afj (U rfl) fun σ b_=>?_;simp(disch:=first|omega|(simp only[ai];omega)) only[Yn,aj,↓eA,eB,aq,seval];refine(Oq l q g jq (mx _ hm) S hq).then ?_
 simp(disch:=first|omega|(simp only[ai];omega)) only[oP,aj,↓eA,eB,aq,seval]
theorem Ov(l:List b8)(q:b8→Bool)(g:FuncId)(jq:List V)(hl:l.length≤9223372036854775807)(S:ae)(hq:∀x∈l,ak Tryz.prog g (.agg x.row::jq) S fun r S'=>r= .bool (q x)∧S'=S):
 ak Tryz.prog 135 [.sl 8 (l.map b8.row),.func g [] jq] S fun r S'=>r= .int .i64 (nk q l 0)∧S'=S:=by
 refine ak.bW Tryz.func135 afa (U rfl) fun σ b_=>?_;simp(disch:=first|omega|(simp only[ai];omega)) only[Ye,aj,↓eA,eB,aq,seval];refine cH (ι:=Nat) (fun k=>[(0,.sl 8 (l.map b8.row)),(1,.func g [] jq),(7,.int .i64 l.length),(8,.int .i64 (k:Nat))]) (fun _=>S) (fun k=>k≤l.length∧nk q l 0=nk q (l.drop k) k) (fun k=>l.length-k) 0 ⟨az _,rfl⟩ ?_ rfl ?_
 ·simp only[↓eA,eB,aq,seval]
 rintro k ⟨hk,he⟩;cases hc:l[k]? with
 |none=>
  have eh:l.length≤k:=List.getElem?_eq_none_iff.1 hc;have aR:¬((k:Int)<l.length):=by omega
  rw[bO eh]at he;simp(disch:=first|omega|(simp only[ai];omega)) only[dF aR,he,nk,aj,↓eA,eB,aq,seval]
 |some y=>
  have cK:=(List.getElem?_eq_some_iff.1 hc).1;have aR:(k:Int)<l.length:=by omega
  have cN:(k:Int)+1=((k+1:Nat):Int):=by omega
  have Fp:=hq y (aB hc);rw[fV hc,nk]at he;generalize hz:q y=z at he Fp;obtain⟨c1,c2,c3,c4,c5,c6⟩:=y;try simp only[b8.row]at Fp
  simp(disch:=first|omega|(simp only[ai];omega)) only[dT aR,hc,b8.row,aj,↓eA,eB,aq,seval];refine Fp.then ?_
  cases z with
  |true=>
   rw[aK rfl]at he;simp(disch:=first|omega|(simp only[ai];omega)) only[he,aj,↓eA,eB,aq,seval]
  |false=>
   rw[aC (by simp)]at he;simp(disch:=first|omega|(simp only[ai];omega)) only[wrap_i64,cN,aj,↓eA,eB,aq,seval];exact⟨k+1,⟨by omega,he⟩,by omega,rfl⟩
theorem QS(l:List b8)(q:b8→Bool)(g:FuncId)(jq:List V)(S:ae)(hq:∀x∈l,ak Tryz.prog g (.agg x.row::jq) S fun r S'=>r= .bool (q x)∧S'=S):
 ak Tryz.prog 98 [.sl 8 (l.map b8.row),.func g [] jq] S fun r S'=>r= .bool (l.any q)∧S'=S:=by
 refine lD (fun hm=>?_) ⟨Tryz.f98,Tryz.func98,by kernel_rfl,by kernel_rfl⟩;rw[aP]at hm;refine ak.bW Tryz.func98 aff (U rfl) fun σ b_=>?_;simp(disch:=first|omega|(simp only[ai];omega)) only[Yj,aj,↓eA,eB,aq,seval];refine(Ov l q g jq (mx _ hm) S hq).then ?_
 simp(disch:=first|omega|(simp only[ai];omega)) only[oP,aj,↓eA,eB,aq,seval]
theorem Ou(l:List Int)(q:Int→Bool)(g:FuncId)(jq:List V)(hl:l.length≤9223372036854775807)(S:ae)(hq:∀x∈l,ak Tryz.prog g (.int .i64 x::jq) S fun r S'=>r= .bool (q x)∧S'=S):
 ak Tryz.prog 138 [.sl 1 (l.map iu),.func g [] jq] S fun r S'=>r= .int .i64 (nk q l 0)∧S'=S:=by
 refine ak.bW Tryz.func138 ae_ (U rfl) fun σ b_=>?_;simp(disch:=first|omega|(simp only[ai];omega)) only[Yc,aj,↓eA,eB,aq,seval];refine cH (ι:=Nat) (fun k=>[(0,.sl 1 (l.map iu)),(1,.func g [] jq),(7,.int .i64 l.length),(8,.int .i64 (k:Nat))]) (fun _=>S) (fun k=>k≤l.length∧nk q l 0=nk q (l.drop k) k) (fun k=>l.length-k) 0 ⟨az _,rfl⟩ ?_ rfl ?_
 ·simp only[↓eA,eB,aq,seval]
 rintro k ⟨hk,he⟩;cases hc:l[k]? with
 |none=>
  have eh:l.length≤k:=List.getElem?_eq_none_iff.1 hc;have aR:¬((k:Int)<l.length):=by omega
  rw[bO eh]at he;simp(disch:=first|omega|(simp only[ai];omega)) only[dF aR,he,nk,aj,↓eA,eB,aq,seval]
 |some y=>
  have cK:=(List.getElem?_eq_some_iff.1 hc).1;have aR:(k:Int)<l.length:=by omega
  have cN:(k:Int)+1=((k+1:Nat):Int):=by omega
  have Fp:=hq y (aB hc);rw[fV hc,nk]at he;generalize hz:q y=z at he Fp;try simp only[iu]at Fp
  simp(disch:=first|omega|(simp only[ai];omega)) only[dT aR,hc,iu,aj,↓eA,eB,aq,seval];refine Fp.then ?_
  cases z with
  |true=>
   rw[aK rfl]at he;simp(disch:=first|omega|(simp only[ai];omega)) only[he,aj,↓eA,eB,aq,seval]
  |false=>
   rw[aC (by simp)]at he;simp(disch:=first|omega|(simp only[ai];omega)) only[wrap_i64,cN,aj,↓eA,eB,aq,seval];exact⟨k+1,⟨by omega,he⟩,by omega,rfl⟩
theorem ab9(l:List Int)(q:Int→Bool)(g:FuncId)(jq:List V)(S:ae)(hq:∀x∈l,ak Tryz.prog g (.int .i64 x::jq) S fun r S'=>r= .bool (q x)∧S'=S):
 ak Tryz.prog 101 [.sl 1 (l.map iu),.func g [] jq] S fun r S'=>r= .bool (l.any q)∧S'=S:=by
 refine lD (fun hm=>?_) ⟨Tryz.f101,Tryz.func101,by kernel_rfl,by kernel_rfl⟩;rw[aP]at hm;refine ak.bW Tryz.func101 afe (U rfl) fun σ b_=>?_;simp(disch:=first|omega|(simp only[ai];omega)) only[Yi,aj,↓eA,eB,aq,seval];refine(Ou l q g jq (mx _ hm) S hq).then ?_
 simp(disch:=first|omega|(simp only[ai];omega)) only[oP,aj,↓eA,eB,aq,seval]
theorem Ot(l:List bS)(q:bS→Bool)(g:FuncId)(jq:List V)(hl:l.length≤9223372036854775807)(S:ae)(hq:∀x∈l,ak Tryz.prog g (.str x::jq) S fun r S'=>r= .bool (q x)∧S'=S):
 ak Tryz.prog 181 [.sl 1 (l.map eW),.func g [] jq] S fun r S'=>r= .int .i64 (nk q l 0)∧S'=S:=by
 refine ak.bW Tryz.func181 ae7 (U rfl) fun σ b_=>?_;simp(disch:=first|omega|(simp only[ai];omega)) only[X_,aj,↓eA,eB,aq,seval];refine cH (ι:=Nat) (fun k=>[(0,.sl 1 (l.map eW)),(1,.func g [] jq),(7,.int .i64 l.length),(8,.int .i64 (k:Nat))]) (fun _=>S) (fun k=>k≤l.length∧nk q l 0=nk q (l.drop k) k) (fun k=>l.length-k) 0 ⟨az _,rfl⟩ ?_ rfl ?_
 ·simp only[↓eA,eB,aq,seval]
 rintro k ⟨hk,he⟩;cases hc:l[k]? with
 |none=>
  have eh:l.length≤k:=List.getElem?_eq_none_iff.1 hc;have aR:¬((k:Int)<l.length):=by omega
  rw[bO eh]at he;simp(disch:=first|omega|(simp only[ai];omega)) only[dF aR,he,nk,aj,↓eA,eB,aq,seval]
 |some y=>
  have cK:=(List.getElem?_eq_some_iff.1 hc).1;have aR:(k:Int)<l.length:=by omega
  have cN:(k:Int)+1=((k+1:Nat):Int):=by omega
  have Fp:=hq y (aB hc);rw[fV hc,nk]at he;generalize hz:q y=z at he Fp;try simp only[eW]at Fp
  simp(disch:=first|omega|(simp only[ai];omega)) only[dT aR,hc,eW,aj,↓eA,eB,aq,seval];refine Fp.then ?_
  cases z with
  |true=>
   rw[aK rfl]at he;simp(disch:=first|omega|(simp only[ai];omega)) only[he,aj,↓eA,eB,aq,seval]
  |false=>
   rw[aC (by simp)]at he;simp(disch:=first|omega|(simp only[ai];omega)) only[wrap_i64,cN,aj,↓eA,eB,aq,seval];exact⟨k+1,⟨by omega,he⟩,by omega,rfl⟩
theorem ab8(l:List bS)(q:bS→Bool)(g:FuncId)(jq:List V)(S:ae)(hq:∀x∈l,ak Tryz.prog g (.str x::jq) S fun r S'=>r= .bool (q x)∧S'=S):
 ak Tryz.prog 136 [.sl 1 (l.map eW),.func g [] jq] S fun r S'=>r= .bool (l.any q)∧S'=S:=by
 refine lD (fun hm=>?_) ⟨Tryz.f136,Tryz.func136,by kernel_rfl,by kernel_rfl⟩;rw[aP]at hm;refine ak.bW Tryz.func136 ae' (U rfl) fun σ b_=>?_;simp(disch:=first|omega|(simp only[ai];omega)) only[Yd,aj,↓eA,eB,aq,seval];refine(Ot l q g jq (mx _ hm) S hq).then ?_
 simp(disch:=first|omega|(simp only[ai];omega)) only[oP,aj,↓eA,eB,aq,seval]
theorem aap(l:List bS)(s:bS)(hl:l.length≤9223372036854775807)(S:ae):
 ak Tryz.prog 139 [.sl 1 (l.map eW),.str s] S fun r S'=>r= .int .i64 (nk (fun x=>decide (s=x)) l 0)∧S'=S:=by
 refine ak.bW Tryz.func139 ae9 (U rfl) fun σ b_=>?_;simp(disch:=first|omega|(simp only[ai];omega)) only[Yb,eW,aj,↓eA,eB,aq,seval];refine cH (ι:=Nat) (fun k=>[(0,.sl 1 (l.map eW)),(1,.str s),(7,.int .i64 l.length),(8,.int .i64 (k:Nat))]) (fun _=>S) (fun k=>k≤l.length∧nk (fun x=>decide (s=x)) l 0=nk (fun x=>decide (s=x)) (l.drop k) k) (fun k=>l.length-k) 0 ⟨az _,rfl⟩ ?_ rfl ?_
 ·simp only[eW,↓eA,eB,aq,seval];try rfl
 rintro k ⟨hk,he⟩;cases hc:l[k]? with
 |none=>
  have eh:l.length≤k:=List.getElem?_eq_none_iff.1 hc;have aR:¬((k:Int)<l.length):=by omega
  rw[bO eh]at he;simp(disch:=first|omega|(simp only[ai];omega)) only[dF aR,he,nk,aj,↓eA,eB,aq,seval]
 |some y=>
  have cK:=(List.getElem?_eq_some_iff.1 hc).1;have aR:(k:Int)<l.length:=by omega
  have cN:(k:Int)+1=((k+1:Nat):Int):=by omega
  rw[fV hc,nk]at he;by_cases hy:s=y
  ·subst hy;rw[aK (by simp)]at he;simp(disch:=first|omega|(simp only[ai];omega)) only[dT aR,hc,eW,he,eq_self,dC,aj,↓eA,eB,aq,seval]
  ·rw[aC (by simp[hy])]at he;have Wy:=hy;simp(disch:=first|omega|(simp only[ai];omega)) only[dT aR,hc,eW,dF Wy,wrap_i64,cN,aj,↓eA,eB,aq,seval];exact⟨k+1,⟨by omega,he⟩,by omega,rfl⟩
theorem FD(l:List bS)(s:bS)(S:ae):
 ak Tryz.prog 103 [.sl 1 (l.map eW),.str s] S fun r S'=>r= .bool (l.contains s)∧S'=S:=by
 refine lD (fun hm=>?_) ⟨Tryz.f103,Tryz.func103,by kernel_rfl,by kernel_rfl⟩;rw[aP]at hm;refine ak.bW Tryz.func103 afd (U rfl) fun σ b_=>?_;have hx:=aap l s (mx _ hm) S;simp(disch:=first|omega|(simp only[ai];omega)) only[Yh,eW,aj,↓eA,eB,aq,seval];refine hx.then ?_
 have e:(l.any fun x=>decide (s=x))=l.contains s:=by
  rw[fR,ib,List.contains_iff_mem];simp only[aL];constructor
  ·rintro⟨x,h1,rfl⟩;exact h1
  ·exact fun h=>⟨s,h,rfl⟩
 simp(disch:=first|omega|(simp only[ai];omega)) only[oP,e,aj,↓eA,eB,aq,seval]
theorem aaq(l:List (bS×bS))(s:(bS×bS))(hl:l.length≤9223372036854775807)(S:ae):
 ak Tryz.prog 140 [.sl 2 (l.map ig),.agg (ig s)] S fun r S'=>r= .int .i64 (nk (fun x=>decide (s=x)) l 0)∧S'=S:=by
 refine ak.bW Tryz.func140 ae8 (U rfl) fun σ b_=>?_;simp(disch:=first|omega|(simp only[ai];omega)) only[Ya,ig,aj,↓eA,eB,aq,seval];refine cH (ι:=Nat) (fun k=>[(0,.sl 2 (l.map ig)),(3,.bK [.str s.1,.str s.2]),(7,.int .i64 l.length),(8,.int .i64 (k:Nat))]) (fun _=>S) (fun k=>k≤l.length∧nk (fun x=>decide (s=x)) l 0=nk (fun x=>decide (s=x)) (l.drop k) k) (fun k=>l.length-k) 0 ⟨az _,rfl⟩ ?_ rfl ?_
 ·simp only[ig,↓eA,eB,aq,seval];try rfl
 rintro k ⟨hk,he⟩;cases hc:l[k]? with
 |none=>
  have eh:l.length≤k:=List.getElem?_eq_none_iff.1 hc;have aR:¬((k:Int)<l.length):=by omega
  rw[bO eh]at he;simp(disch:=first|omega|(simp only[ai];omega)) only[dF aR,he,nk,aj,↓eA,eB,aq,seval]
 |some y=>
  have cK:=(List.getElem?_eq_some_iff.1 hc).1;have aR:(k:Int)<l.length:=by omega
  have cN:(k:Int)+1=((k+1:Nat):Int):=by omega
  rw[fV hc,nk]at he;by_cases hy:s=y
  ·subst hy;rw[aK (by simp)]at he;simp(disch:=first|omega|(simp only[ai];omega)) only[dT aR,hc,ig,he,eq_self,dC,aj,↓eA,eB,aq,seval]
  ·rw[aC (by simp[hy])]at he;have Wy:(decide (s.1=y.1)&&decide (s.2=y.2))=false:=by
    rw[Bool.eq_false_iff];intro h;simp only[aW,aL]at h;exact hy (Prod.ext h.1 h.2)
   simp(disch:=first|omega|(simp only[ai];omega)) only[dT aR,hc,ig,Wy,wrap_i64,cN,aj,↓eA,eB,aq,seval];exact⟨k+1,⟨by omega,he⟩,by omega,rfl⟩
theorem aaZ(l:List (bS×bS))(s:(bS×bS))(S:ae):
 ak Tryz.prog 104 [.sl 2 (l.map ig),.agg (ig s)] S fun r S'=>r= .bool (l.contains s)∧S'=S:=by
 refine lD (fun hm=>?_) ⟨Tryz.f104,Tryz.func104,by kernel_rfl,by kernel_rfl⟩;rw[aP]at hm;refine ak.bW Tryz.func104 afc (U rfl) fun σ b_=>?_;have hx:=aaq l s (mx _ hm) S;simp only[ig]at hx;simp(disch:=first|omega|(simp only[ai];omega)) only[Yg,ig,aj,↓eA,eB,aq,seval];refine hx.then ?_
 have e:(l.any fun x=>decide (s=x))=l.contains s:=by
  rw[fR,ib,List.contains_iff_mem];simp only[aL];constructor
  ·rintro⟨x,h1,rfl⟩;exact h1
  ·exact fun h=>⟨s,h,rfl⟩
 simp(disch:=first|omega|(simp only[ai];omega)) only[oP,e,aj,↓eA,eB,aq,seval]
end Go.Proofs.YtfgkgmmnldocaaaGreatDoor
