/- Tc4 -/
import Derived.Test.YtfgkgmmnldocaaaGreatDoorZTcd
set_option linter.unusedSectionVars false
set_option linter.unusedSimpArgs false
set_option linter.unusedVariables false
set_option maxHeartbeats 4000000
namespace Go.Proofs.YtfgkgmmnldocaaaGreatDoor
open Go Go.AL
variable[Go.AL.Mode][Go.AL.bR]
def w4(ps:List (Nat×Nat))(k:Nat):Bool:=ps.any fun p=>decide (p.2=k)
def Bh(q:Nat→Bool):Nat→Nat→Option Nat
 |0,_=>none
 |n+1,k=>if q k=true then some k else Bh q n (k+1)
def ue(fl:List Fr)(k:Nat):Fr:=(fl[k]?).getD zFr
def VQ(fl:List Fr)(ps:List (Nat×Nat))(i k:Nat):Bool:=!w4 ps k&&Lx (ue fl i) (ue fl k)
def J5(fl:List Fr)(ps:List (Nat×Nat))(i:Nat):Option Nat:=Bh (VQ fl ps i) (fl.length-(i+1)) (i+1)
def rI(fl:List Fr):Nat→Nat→List (Nat×Nat)→Option (List (Nat×Nat))
 |0,_,ps=>some ps
 |n+1,i,ps=>if(!(ue fl i).BS||w4 ps i)=true then rI fl n (i+1) ps else match J5 fl ps i with
  |some k=>rI fl n (i+1) (ps++[(i,k)])
  |none=>none
def mS(p:Nat×Nat):List V:=[.int .i64 (p.1:Nat),.int .i64 (p.2:Nat)]
def B8(t:gk)(l:List Pa):Option (List (Nat×Nat)):=rI (kQ t l) (kQ t l).length 0 []
def Lj(t:gk)(l:List Pa):V:=if pT t l=false then .dI [.sl 2 [],.int .i64 19]else match B8 t l with
 |some ps=>.dI [.sl 2 (ps.map mS),.int .i64 0]
 |none=>.dI [.sl 2 [],.int .i64 23]
theorem vr(l:List (Nat×Nat)):∀r∈l.map mS,r.length=2∧V.bQ r=true:=fun r hr=>by
 obtain⟨x,_,rfl⟩:=List.mem_map.1 hr;exact⟨rfl,rfl⟩
theorem IG{q:Nat→Bool}:∀{n k j:Nat},Bh q n k=some j→k≤j∧j<k+n
 |0,k,j,h=>by cases h
 |n+1,k,j,h=>by
  rw[Bh]at h;by_cases hq:q k=true
  ·rw[aK hq]at h;cases h;omega
  ·rw[aC hq]at h;have:=IG h;omega
theorem tC{t:gk}{l:List Pa}{k:Nat}{f:Fr}(h:(kQ t l)[k]?=some f):ue (kQ t l) k=f:=by unfold ue;rw[h];rfl
def K4(n:Nat)(ps:List (Nat×Nat)):List (List V):=(List.range n).map fun j=>[.bool (w4 ps j)]
theorem tO{n:Nat}(ps:List (Nat×Nat)){k:Nat}(h:k<n):(K4 n ps)[k]?=some [.bool (w4 ps k)]:=by
 unfold K4;rw[bn,kU h];rfl
theorem jr(n:Nat)(ps:List (Nat×Nat)):(K4 n ps).length=n:=by unfold K4;simp
theorem ab1{n:Nat}(ps:List (Nat×Nat))(i:Nat){k:Nat}(h:k<n):(K4 n ps).set k [.bool true]=K4 n (ps++[(i,k)]):=by
 apply iM;intro j;by_cases hj:j<n
 ·rw[tO _ hj];by_cases OZ:k=j
  ·subst OZ;rw[aT (by rw[jr];exact h)];simp[w4]
  ·rw[bB OZ,tO _ hj];simp[w4,OZ]
 ·rw[eO (by rw[fQ,jr];omega),eO (by rw[jr];omega)]
structure Ly(S:ae)(n:Nat)(ps:List (Nat×Nat))(v:V)(S1:ae):Prop where
 b:S1.bq S.length 0=some (4,1,K4 n ps)
 l:lz (S.length+1) S1 150 2 (ps.map mS) v
 ext:∃T,S1=S++T
theorem Ly.add{S:ae}{n:Nat}{ps:List (Nat×Nat)}{v:V}{S1:ae}(h:Ly S n ps v S1)(X:ae):Ly S n ps v (S1++X):=by
 have f:=f_.add (fun _=>False) S1 X;exact⟨f.obj h.b id,h.l.pF f fun _ _ h=>h,f.ext h.ext fun _ h=>h.elim⟩
theorem Ly.len{S:ae}{n:Nat}{ps:List (Nat×Nat)}{v:V}{S1:ae}(h:Ly S n ps v S1):S.length+1≤S1.length:=gW h.b
theorem Ly.pair{S:ae}{n:Nat}{ps:List (Nat×Nat)}{v:V}{S1:ae}(h:Ly S n ps v S1)(i:Nat){k:Nat}(hk:k<n)(hl:ps.length≤1000000){K:V→ae→Prop}
 (c:∀v' S2,Ly S n (ps++[(i,k)]) v' S2→f_ (fun j=>S.length≤j) S1 S2→K v' S2):kj 150 2 v (some (2,[mS (i,k)])) (S1.set S.length ⟨0,some (.arr 4 1 ((K4 n ps).set k [.bool true]))⟩) K:=by
 have Ao:=h.len;have f:=mA S1 S.length ⟨0,some (.arr 4 1 ((K4 n ps).set k [.bool true]))⟩;have vZ:=h.l.pF f fun j hj=>by have:=(h.l.lt hj).2;omega
 refine vZ.app (by rw[fQ];omega) (by simpa using hl) fun v' S2 k2 f2 i2=>c v' S2 ⟨?_,by rw[bF];exact k2,f2.ext (f.ext h.ext fun j hj=>by omega) fun j hj=>by have:=(vZ.lt hj).2;omega⟩ ((f.mono fun j _ hj=>by omega).trans (f2.mono fun j _ hj=>by have:=(vZ.lt hj).2;omega));rw[←ab1 ps i hk];exact f2.obj (ed h.b) fun hj=>by have:=(vZ.lt hj).2;omega
theorem z8(l:List Pa):∀r∈l.map c9,r.length=4∧V.bQ r=true:=fun r hr=>by
 obtain⟨x,_,rfl⟩:=List.mem_map.1 hr;exact⟨rfl,rfl⟩
theorem HF(t:gk)(tx:List (List V))(h1:t.bE.length≤1000000)(l:List Pa)(hl:l.length≤100000)(S:ae):
 ak Tryz.prog 33 [.agg (b9 t tx),.sl 4 (l.map c9)] S fun r S'=>r=Lj t l∧S'=S:=by
 refine ak.bp Tryz.func33 AM fun hn=>?_;refine ak.fin Tryz.func33 AM (U rfl) fun σ b_=>?_;have pr:=fun S=>vp t tx h1 l (by omega) S;unfold Lj;simp only[b9]at pr⊢;simp(disch:=first|omega|(simp only[ai];omega)) only[Gf,aj,↓eA,eB,aq,seval];refine(pr _).then ?_
 cases hk:pT t l with
 |false=>
  simp(disch:=first|omega|(simp only[ai];omega)) only[aj,↓eA,eB,aq,seval];exact⟨_,S,hn.self,.jj .nil (.bX rfl),ah _,rfl,rfl⟩
 |true=>
 rw[aC (by simp)];obtain⟨c2,jn⟩:∃c2,c2=V.bK [.sl 9 (t.bE.map fK),.sl 15 (t.rules.map cx),.sl 3 (t.cS.map eP),.sl 7 tx]:=⟨_,rfl⟩;have OI:eJ [V.bool false] l.length=K4 l.length []:=by
  unfold eJ;apply iM;intro j;by_cases hj:j<l.length
  ·rw[tO _ hj,List.getElem?_replicate_of_lt hj];rfl
  ·rw[eO (by simp;omega),eO (by rw[jr];omega)]
 have h0:Ly S l.length [] .aM (S++[⟨0,some (.arr 4 1 (K4 l.length []))⟩]):=⟨dP.trans cE,.inl ⟨rfl,rfl⟩,⟨_,rfl⟩⟩;simp(disch:=first|omega|(simp only[ai];omega)) only[cn,aj,↓eA,eB,aq,seval];refine⟨by omega,by unfold dw;omega,?_⟩;rw[OI];have nK:(kQ t l).length=l.length:=mz t l;unfold B8;rw[nK];refine dm (ι:=Nat×List (Nat×Nat)×V×ae) (fun i=>[(1,.sl 4 (l.map c9)),(2,c2),(6,i.2.2.1),(7,.cU S.length 0 0 l.length),(19,.sl 4 (l.map c9)),(20,.int .i64 l.length),(21,.int .i64 (i.1:Nat))]) (fun i=>i.2.2.2)
  (fun i=>(i.1≤l.length∧rI (kQ t l) l.length 0 []=rI (kQ t l) (l.length-i.1) i.1 i.2.1∧i.2.1.length≤i.1)∧Ly S l.length i.2.1 i.2.2.1 i.2.2.2) (fun i=>l.length-i.1)
  (fun i hi=>by rw[b_];have:=hi.2.len;omega) (0,[],.aM,_) ⟨⟨az _,rfl,ah _⟩,h0⟩ (.inl ⟨?_,rfl⟩) ?_
 ·rw[jn];simp only[↓eA,eB,aq,seval];try rfl
 clear h0 OI;rintro⟨i,ps,v,S1⟩ ⟨⟨hi,hg,pV⟩,hP⟩;simp only at hi hg pV hP⊢;cases hc:l[i]? with
 |none=>
  obtain⟨eh,he⟩:=dE hc;have aR:¬((i:Int)<l.length):=by omega
  rw[show l.length-i=0 by omega,rI]at hg;rw[hg];obtain⟨T,hT⟩:=hP.ext;simp(disch:=first|omega|(simp only[ai];omega)) only[dF aR,aj,↓eA,eB,aq,seval];exact⟨_,S,by rw[hT];exact hn.dO _,.jj (hP.l.rb (by omega) (vr ps)) (.bX rfl),ah _,rfl,rfl⟩
 |some x=>
  have cK:=(List.getElem?_eq_some_iff.1 hc).1;have aR:(i:Int)<l.length:=by omega
  have kq:(i:Int)+1=((i+1:Nat):Int):=by omega
  obtain⟨n,f,x1,x2,x3,x4⟩:=lK hk hc;have pE:=tC x3;have lY:rI (kQ t l) l.length 0 []=if(!f.BS||w4 ps i)=true then rI (kQ t l) (l.length-(i+1)) (i+1) ps else match J5 (kQ t l) ps i with
   |some k=>rI (kQ t l) (l.length-(i+1)) (i+1) (ps++[(i,k)])
   |none=>none:=by
   rw[hg,show l.length-i=(l.length-(i+1))+1 by omega,rI,pE]
  clear hg;have xA:=hP.add [⟨0,some (.arr 38 4 [[.int .i64 x.fr,.int .i64 x.to,.int .i64 (n:Nat),.int .i64 x.am]])⟩,⟨0,some (.arr 67 9 [fK f])⟩];have qj:ae.bq (S1++[⟨0,some (.arr 38 4 [[.int .i64 x.fr,.int .i64 x.to,.int .i64 (n:Nat),.int .i64 x.am]])⟩,⟨0,some (.arr 67 9 [fK f])⟩]) (S1.length+1) 0=some (67,9,[fK f]):=by rw[iD,cT,cE]
  have hb:=xA.b;have Uv:=tO ps cK;obtain⟨f1,f2,f3,f4,f5,rd,f7,f8,f9⟩:=f;have bk:=fun g S=>QM ⟨f1,f2,f3,f4,f5,rd,f7,f8,f9⟩ g S;simp only[fK]at xA hb qj bk;have cO:(S1++[⟨0,some (.arr 38 4 [[.int .i64 x.fr,.int .i64 x.to,.int .i64 (n:Nat),.int .i64 x.am]])⟩,⟨0,some (.arr 67 9 [[.str f1,.str f2,.str f3,.str f4,.str f5,.bool rd,.int .i64 f7,.int .i64 f8,.int .i64 f9]])⟩]:ae).length=S1.length+2:=by simp
  obtain⟨S2,Aw⟩:∃S2,S2=(S1++[⟨0,some (.arr 38 4 [[.int .i64 x.fr,.int .i64 x.to,.int .i64 (n:Nat),.int .i64 x.am]])⟩,⟨0,some (.arr 67 9 [[.str f1,.str f2,.str f3,.str f4,.str f5,.bool rd,.int .i64 f7,.int .i64 f8,.int .i64 f9]])⟩]:ae):=⟨_,rfl⟩;rw[←Aw]at xA hb qj cO;rw[jn];have hlo:=xA.len;by_cases gK:(!rd||w4 ps i)=true
  ·rw[aK gK]at lY;cases rd with
   |false=>
    simp(disch:=first|omega|(simp only[ai];omega)) only[dT aR,hc,c9,x1,x2,fK,←Aw,qj,wrap_i64,kq,aj,↓eA,eB,aq,seval];exact⟨(i+1,ps,v,S2),⟨⟨by simp only;omega,lY,by simp only;omega⟩,xA⟩,by simp only;omega,.inl ⟨by simp only[jn,↓eA,eB,aq,seval];try rfl,rfl⟩⟩
   |true=>
    rw[il,cQ]at gK;rw[gK]at Uv;simp(disch:=first|omega|(simp only[ai];omega)) only[dT aR,hc,c9,x1,x2,fK,←Aw,qj,hb,Uv,jr,wrap_i64,kq,aj,↓eA,eB,aq,seval];exact⟨(i+1,ps,v,S2),⟨⟨by simp only;omega,lY,by simp only;omega⟩,xA⟩,by simp only;omega,.inl ⟨by simp only[jn,↓eA,eB,aq,seval];try rfl,rfl⟩⟩
  rw[aC gK]at lY;obtain⟨rfl,aaM⟩:rd=true∧w4 ps i=false:=by cases rd<;>simp at gK⊢;exact gK
  rw[aaM]at Uv;simp(disch:=first|omega|(simp only[ai];omega)) only[dT aR,hc,c9,x1,x2,fK,←Aw,qj,hb,Uv,jr,wrap_i64,kq,aj,↓eA,eB,aq,seval];refine dm (ι:=Nat) (fun k=>[(1,.sl 4 (l.map c9)),(2,c2),(6,v),(7,.cU S.length 0 0 l.length),(8,.int .i64 (i:Nat)),(10,.ptr (S1.length+1) 0 0 0),(11,.int .i64 (k:Nat)),(19,.sl 4 (l.map c9)),(20,.int .i64 l.length),(21,.int .i64 (i:Nat))]) (fun _=>S2)
   (fun k=>i<k∧k≤l.length∧J5 (kQ t l) ps i=Bh (VQ (kQ t l) ps i) (l.length-k) k) (fun k=>l.length-k) (fun k _=>by rw[b_];omega) (i+1) ⟨by omega,by omega,by unfold J5;rw[nK]⟩ (.inl ⟨?_,rfl⟩) ?_
  ·rw[jn];simp only[↓eA,eB,aq,seval];try rfl
  rintro k ⟨gP,pX,hp⟩;rw[jn];cases hd:l[k]? with
  |none=>
   obtain⟨eh,he⟩:=dE hd;have nW:¬((k:Int)<l.length):=by omega
   have Um:(k:Int)=l.length:=by omega
   rw[show l.length-k=0 by omega,Bh]at hp;simp only[hp]at lY;rw[lY];obtain⟨T,hT⟩:=xA.ext;simp(disch:=first|omega|(simp only[ai];omega)) only[dF nW,dT Um,aj,↓eA,eB,aq,seval];exact⟨_,S,by rw[hT];exact hn.dO _,.jj .nil (.bX rfl),ah _,rfl,rfl⟩
  |some y=>
  have KC:=(List.getElem?_eq_some_iff.1 hd).1;have nW:(k:Int)<l.length:=by omega
  have Um:¬(k:Int)=l.length:=by omega
  have cN:(k:Int)+1=((k+1:Nat):Int):=by omega
  obtain⟨m,g,y1,y2,y3,y4⟩:=lK hk hd;have O_:=tO ps KC;have hpq:VQ (kQ t l) ps i k=(!w4 ps k&&Lx ⟨f1,f2,f3,f4,f5,true,f7,f8,f9⟩ g):=by unfold VQ;rw[pE,tC y3]
  rw[show l.length-k=(l.length-(k+1))+1 by omega,Bh,hpq]at hp;have bg:=bk g;obtain⟨g1,g2,g3,g4,g5,g6,g7,g8,g9⟩:=g;simp only[fK]at bg;cases Ap:w4 ps k with
  |true=>
   rw[Ap,il,aO,aC (by simp)]at hp;rw[Ap]at O_;simp(disch:=first|omega|(simp only[ai];omega)) only[dT nW,hd,qj,hb,O_,jr,wrap_i64,cN,aj,↓eA,eB,aq,seval];exact⟨k+1,⟨by omega,by omega,hp⟩,by omega,.inl ⟨by simp only[jn,↓eA,eB,aq,seval];try rfl,rfl⟩⟩
  |false=>
   rw[Ap,eH,aX]at hp;rw[Ap]at O_;simp(disch:=first|omega|(simp only[ai];omega)) only[dT nW,hd,qj,hb,O_,jr,c9,y1,y2,fK,aj,↓eA,eB,aq,seval];refine(bg _).then ?_
   cases C5:Lx ⟨f1,f2,f3,f4,f5,true,f7,f8,f9⟩ ⟨g1,g2,g3,g4,g5,g6,g7,g8,g9⟩with
   |false=>
    rw[C5,aC (by simp)]at hp;simp(disch:=first|omega|(simp only[ai];omega)) only[wrap_i64,cN,aj,↓eA,eB,aq,seval];exact⟨k+1,⟨by omega,by omega,hp⟩,by omega,.inl ⟨by simp only[jn,↓eA,eB,aq,seval];try rfl,rfl⟩⟩
   |true=>
    rw[C5,aK rfl]at hp;simp only[hp]at lY;simp(disch:=first|omega|(simp only[ai];omega)) only[dF Um,dT nW,hb,O_,jr,aj,↓eA,eB,aq,seval];refine xA.pair i KC (by omega) fun v' S3 hP3 mU=>?_;simp(disch:=first|omega|(simp only[ai];omega)) only[wrap_i64,kq,aj,↓eA,eB,aq,seval];exact⟨(i+1,ps++[(i,k)],v',S3),⟨⟨by simp only;omega,lY,by simp only[aH,aN];omega⟩,hP3⟩,by simp only;omega,.inl ⟨by simp only[jn,↓eA,eB,aq,seval];try rfl,rfl⟩⟩
theorem M9(t:gk)(tx:List (List V))(h1:t.bE.length≤1000000)(l:List Pa)(hl:l.length≤100000){id aI:Nat}(S:ae)(ho:S.bq id aI=some (38,4,l.map c9)):
 ak Tryz.prog 33 [.agg (b9 t tx),.cU id aI 0 l.length] S fun r S'=>r=Lj t l∧S'=S:=by
 refine ak.bp Tryz.func33 AM fun hn=>?_;refine ak.fin Tryz.func33 AM (U rfl) fun σ b_=>?_;have pr:=fun S=>vp t tx h1 l (by omega) S;unfold Lj;simp only[b9]at pr⊢;simp(disch:=first|omega|(simp only[ai];omega)) only[Gf,aj,↓eA,eB,aq,seval];refine(Fh (args:=[.agg [.sl 9 (t.bE.map fK),.sl 15 (t.rules.map cx),.sl 3 (t.cS.map eP),.sl 7 tx],.cU id aI 0 l.length]) (pr (kill S)) ⟨.bX rfl,.dead (wm _) ho (by simp) (z8 l),trivial⟩).then ?_
 cases hk:pT t l with
 |false=>
  simp(disch:=first|omega|(simp only[ai];omega)) only[aj,↓eA,eB,aq,seval];exact⟨_,S,hn.self,.jj .nil (.bX rfl),ah _,rfl,rfl⟩
 |true=>
 rw[aC (by simp)];obtain⟨c2,jn⟩:∃c2,c2=V.bK [.sl 9 (t.bE.map fK),.sl 15 (t.rules.map cx),.sl 3 (t.cS.map eP),.sl 7 tx]:=⟨_,rfl⟩;have OI:eJ [V.bool false] l.length=K4 l.length []:=by
  unfold eJ;apply iM;intro j;by_cases hj:j<l.length
  ·rw[tO _ hj,List.getElem?_replicate_of_lt hj];rfl
  ·rw[eO (by simp;omega),eO (by rw[jr];omega)]
 have h0:Ly S l.length [] .aM (S++[⟨0,some (.arr 4 1 (K4 l.length []))⟩]):=⟨dP.trans cE,.inl ⟨rfl,rfl⟩,⟨_,rfl⟩⟩;simp(disch:=first|omega|(simp only[ai];omega)) only[cn,aj,↓eA,eB,aq,seval];refine⟨by omega,by unfold dw;omega,?_⟩;rw[OI];have nK:(kQ t l).length=l.length:=mz t l;unfold B8;rw[nK];refine dm (ι:=Nat×List (Nat×Nat)×V×ae) (fun i=>[(1,.cU id aI 0 l.length),(2,c2),(6,i.2.2.1),(7,.cU S.length 0 0 l.length),(19,.cU id aI 0 l.length),(20,.int .i64 l.length),(21,.int .i64 (i.1:Nat))]) (fun i=>i.2.2.2)
  (fun i=>(i.1≤l.length∧rI (kQ t l) l.length 0 []=rI (kQ t l) (l.length-i.1) i.1 i.2.1∧i.2.1.length≤i.1)∧Ly S l.length i.2.1 i.2.2.1 i.2.2.2∧ae.bq i.2.2.2 id aI=some (38,4,l.map c9)) (fun i=>l.length-i.1)
  (fun i hi=>by rw[b_];have:=hi.2.1.len;omega) (0,[],.aM,_) ⟨⟨az _,rfl,ah _⟩,h0,fc ho⟩ (.inl ⟨?_,rfl⟩) ?_
 ·rw[jn];simp only[↓eA,eB,aq,seval];try rfl
 clear h0 OI;rintro⟨i,ps,v,S1⟩ ⟨⟨hi,hg,pV⟩,hP,hO⟩;simp only at hi hg pV hP hO⊢;cases hc:l[i]? with
 |none=>
  obtain⟨eh,he⟩:=dE hc;have aR:¬((i:Int)<l.length):=by omega
  rw[show l.length-i=0 by omega,rI]at hg;rw[hg];obtain⟨T,hT⟩:=hP.ext;simp(disch:=first|omega|(simp only[ai];omega)) only[dF aR,aj,↓eA,eB,aq,seval];exact⟨_,S,by rw[hT];exact hn.dO _,.jj (hP.l.rb (by omega) (vr ps)) (.bX rfl),ah _,rfl,rfl⟩
 |some x=>
  have cK:=(List.getElem?_eq_some_iff.1 hc).1;have aR:(i:Int)<l.length:=by omega
  have kq:(i:Int)+1=((i+1:Nat):Int):=by omega
  obtain⟨n,f,x1,x2,x3,x4⟩:=lK hk hc;have pE:=tC x3;have lY:rI (kQ t l) l.length 0 []=if(!f.BS||w4 ps i)=true then rI (kQ t l) (l.length-(i+1)) (i+1) ps else match J5 (kQ t l) ps i with
   |some k=>rI (kQ t l) (l.length-(i+1)) (i+1) (ps++[(i,k)])
   |none=>none:=by
   rw[hg,show l.length-i=(l.length-(i+1))+1 by omega,rI,pE]
  clear hg;have xA:=hP.add [⟨0,some (.arr 38 4 [[.int .i64 x.fr,.int .i64 x.to,.int .i64 (n:Nat),.int .i64 x.am]])⟩,⟨0,some (.arr 67 9 [fK f])⟩];have Lu:=fc (X:=[⟨0,some (.arr 38 4 [[.int .i64 x.fr,.int .i64 x.to,.int .i64 (n:Nat),.int .i64 x.am]])⟩,⟨0,some (.arr 67 9 [fK f])⟩]) hO;have qj:ae.bq (S1++[⟨0,some (.arr 38 4 [[.int .i64 x.fr,.int .i64 x.to,.int .i64 (n:Nat),.int .i64 x.am]])⟩,⟨0,some (.arr 67 9 [fK f])⟩]) (S1.length+1) 0=some (67,9,[fK f]):=by rw[iD,cT,cE]
  have hb:=xA.b;have Uv:=tO ps cK;obtain⟨f1,f2,f3,f4,f5,rd,f7,f8,f9⟩:=f;have bk:=fun g S=>QM ⟨f1,f2,f3,f4,f5,rd,f7,f8,f9⟩ g S;simp only[fK]at xA hb qj bk Lu;have cO:(S1++[⟨0,some (.arr 38 4 [[.int .i64 x.fr,.int .i64 x.to,.int .i64 (n:Nat),.int .i64 x.am]])⟩,⟨0,some (.arr 67 9 [[.str f1,.str f2,.str f3,.str f4,.str f5,.bool rd,.int .i64 f7,.int .i64 f8,.int .i64 f9]])⟩]:ae).length=S1.length+2:=by simp
  obtain⟨S2,Aw⟩:∃S2,S2=(S1++[⟨0,some (.arr 38 4 [[.int .i64 x.fr,.int .i64 x.to,.int .i64 (n:Nat),.int .i64 x.am]])⟩,⟨0,some (.arr 67 9 [[.str f1,.str f2,.str f3,.str f4,.str f5,.bool rd,.int .i64 f7,.int .i64 f8,.int .i64 f9]])⟩]:ae):=⟨_,rfl⟩;rw[←Aw]at xA hb qj cO Lu;rw[jn];have hlo:=xA.len;by_cases gK:(!rd||w4 ps i)=true
  ·rw[aK gK]at lY;cases rd with
   |false=>
    simp(disch:=first|omega|(simp only[ai];omega)) only[dT aR,hc,c9,x1,x2,fK,←Aw,qj,hO,Lu,wrap_i64,kq,aj,↓eA,eB,aq,seval];exact⟨(i+1,ps,v,S2),⟨⟨by simp only;omega,lY,by simp only;omega⟩,xA,Lu⟩,by simp only;omega,.inl ⟨by simp only[jn,↓eA,eB,aq,seval];try rfl,rfl⟩⟩
   |true=>
    rw[il,cQ]at gK;rw[gK]at Uv;simp(disch:=first|omega|(simp only[ai];omega)) only[dT aR,hc,c9,x1,x2,fK,←Aw,qj,hb,Uv,jr,hO,Lu,wrap_i64,kq,aj,↓eA,eB,aq,seval];exact⟨(i+1,ps,v,S2),⟨⟨by simp only;omega,lY,by simp only;omega⟩,xA,Lu⟩,by simp only;omega,.inl ⟨by simp only[jn,↓eA,eB,aq,seval];try rfl,rfl⟩⟩
  rw[aC gK]at lY;obtain⟨rfl,aaM⟩:rd=true∧w4 ps i=false:=by cases rd<;>simp at gK⊢;exact gK
  rw[aaM]at Uv;simp(disch:=first|omega|(simp only[ai];omega)) only[dT aR,hc,c9,x1,x2,fK,←Aw,qj,hb,Uv,jr,hO,Lu,wrap_i64,kq,aj,↓eA,eB,aq,seval];refine dm (ι:=Nat) (fun k=>[(1,.cU id aI 0 l.length),(2,c2),(6,v),(7,.cU S.length 0 0 l.length),(8,.int .i64 (i:Nat)),(10,.ptr (S1.length+1) 0 0 0),(11,.int .i64 (k:Nat)),(19,.cU id aI 0 l.length),(20,.int .i64 l.length),(21,.int .i64 (i:Nat))]) (fun _=>S2)
   (fun k=>i<k∧k≤l.length∧J5 (kQ t l) ps i=Bh (VQ (kQ t l) ps i) (l.length-k) k) (fun k=>l.length-k) (fun k _=>by rw[b_];omega) (i+1) ⟨by omega,by omega,by unfold J5;rw[nK]⟩ (.inl ⟨?_,rfl⟩) ?_
  ·rw[jn];simp only[↓eA,eB,aq,seval];try rfl
  rintro k ⟨gP,pX,hp⟩;rw[jn];cases hd:l[k]? with
  |none=>
   obtain⟨eh,he⟩:=dE hd;have nW:¬((k:Int)<l.length):=by omega
   have Um:(k:Int)=l.length:=by omega
   rw[show l.length-k=0 by omega,Bh]at hp;simp only[hp]at lY;rw[lY];obtain⟨T,hT⟩:=xA.ext;simp(disch:=first|omega|(simp only[ai];omega)) only[dF nW,dT Um,hO,Lu,aj,↓eA,eB,aq,seval];exact⟨_,S,by rw[hT];exact hn.dO _,.jj .nil (.bX rfl),ah _,rfl,rfl⟩
  |some y=>
  have KC:=(List.getElem?_eq_some_iff.1 hd).1;have nW:(k:Int)<l.length:=by omega
  have Um:¬(k:Int)=l.length:=by omega
  have cN:(k:Int)+1=((k+1:Nat):Int):=by omega
  obtain⟨m,g,y1,y2,y3,y4⟩:=lK hk hd;have O_:=tO ps KC;have hpq:VQ (kQ t l) ps i k=(!w4 ps k&&Lx ⟨f1,f2,f3,f4,f5,true,f7,f8,f9⟩ g):=by unfold VQ;rw[pE,tC y3]
  rw[show l.length-k=(l.length-(k+1))+1 by omega,Bh,hpq]at hp;have bg:=bk g;obtain⟨g1,g2,g3,g4,g5,g6,g7,g8,g9⟩:=g;simp only[fK]at bg;cases Ap:w4 ps k with
  |true=>
   rw[Ap,il,aO,aC (by simp)]at hp;rw[Ap]at O_;simp(disch:=first|omega|(simp only[ai];omega)) only[dT nW,hd,qj,hb,O_,jr,hO,Lu,wrap_i64,cN,aj,↓eA,eB,aq,seval];exact⟨k+1,⟨by omega,by omega,hp⟩,by omega,.inl ⟨by simp only[jn,↓eA,eB,aq,seval];try rfl,rfl⟩⟩
  |false=>
   rw[Ap,eH,aX]at hp;rw[Ap]at O_;simp(disch:=first|omega|(simp only[ai];omega)) only[dT nW,hd,qj,hb,O_,jr,c9,y1,y2,fK,hO,Lu,aj,↓eA,eB,aq,seval];refine(bg _).then ?_
   cases C5:Lx ⟨f1,f2,f3,f4,f5,true,f7,f8,f9⟩ ⟨g1,g2,g3,g4,g5,g6,g7,g8,g9⟩with
   |false=>
    rw[C5,aC (by simp)]at hp;simp(disch:=first|omega|(simp only[ai];omega)) only[wrap_i64,cN,aj,↓eA,eB,aq,seval];exact⟨k+1,⟨by omega,by omega,hp⟩,by omega,.inl ⟨by simp only[jn,↓eA,eB,aq,seval];try rfl,rfl⟩⟩
   |true=>
    rw[C5,aK rfl]at hp;simp only[hp]at lY;simp(disch:=first|omega|(simp only[ai];omega)) only[dF Um,dT nW,hO,Lu,hb,O_,jr,aj,↓eA,eB,aq,seval];refine xA.pair i KC (by omega) fun v' S3 hP3 mU=>?_;have hO3:=mU.obj Lu (by have:=gW ho;omega);simp(disch:=first|omega|(simp only[ai];omega)) only[wrap_i64,kq,aj,↓eA,eB,aq,seval];exact⟨(i+1,ps++[(i,k)],v',S3),⟨⟨by simp only;omega,lY,by simp only[aH,aN];omega⟩,hP3,hO3⟩,by simp only;omega,.inl ⟨by simp only[jn,↓eA,eB,aq,seval];try rfl,rfl⟩⟩
end Go.Proofs.YtfgkgmmnldocaaaGreatDoor
namespace Go.Proofs.YtfgkgmmnldocaaaGreatDoor
open Go Go.AL
variable[Go.AL.Mode][Go.AL.bR]
theorem aak{S:ae}{K:V→ae→Prop}{c aI n:Nat}{r:TypeId×Nat×List (List V)}(h:S.bq c aI=some r)(h0:n=0→K (.bool true) S)(h1:K (.bool false) S):kO false (.cU c aI 0 n) S K:=by
 cases n with
 |zero=>
  simp only[kO,h];exact⟨rfl,h0 rfl,h1⟩
 |succ n=>
  simp only[kO,lZ,h];exact h1
theorem IY{lo:Nat}{S:ae}{rows:List (List V)}{v:V}(hL:lz lo S 38 4 rows v)(hr:rows.length≤1000000):ak Tryz.prog 118 [v] S fun r S'=>lz S.length S' 38 4 rows r∧∃T,S'=S++T:=by
 refine ak.bW Tryz.func118 abE (U rfl) fun σ b_=>?_;rcases hL with⟨rfl,rfl⟩|⟨c,aI,h1,rfl,h3⟩
 ·simp(disch:=first|omega|(simp only[ai];omega)) only[F9,aj,↓eA,eB,aq,seval];exact⟨.inl ⟨rfl,rfl⟩,[],by simp⟩
 ·simp(disch:=first|omega|(simp only[ai];omega)) only[F9,h3,aj,↓eA,eB,aq,seval];refine aak h3 (fun h0=>?_) ?_
  ·simp(disch:=first|omega|(simp only[ai];omega)) only[aj,↓eA,eB,aq,seval];exact⟨.inl ⟨rfl,dc h0⟩,[],by simp⟩
  ·have h4:=fc (X:=[⟨0,some (.arr 38 4 [])⟩]) h3;simp(disch:=first|omega|(simp only[ai];omega)) only[h4,dw,aj,↓eA,eB,aq,seval];rw[List.take_length];exact⟨by omega,.inr ⟨S.length,1,ah _,rfl,dP.trans cE⟩,_,rfl⟩
structure Jr where
 p:fO
 t:gk
 tx:List Tx
 w:List gv
 iz:bS
 cj:Int
def jk(j:Jr):List V:=[.sl 5 (j.p.1.map dG),.sl 3 (j.p.2.map cZ),.sl 9 (j.t.bE.map fK),.sl 15 (j.t.rules.map cx),.sl 3 (j.t.cS.map eP),.sl 7 (j.tx.map fk),.sl 8 (j.w.map cR),.str j.iz,.int .i64 j.cj]
def ve(w:List gv):List Sg:=w.map (·.s)
theorem Mm(l:List Sg):∀r∈l.map gl,r.length=7∧V.bQ r=true:=fun r hr=>by
 obtain⟨x,_,rfl⟩:=List.mem_map.1 hr;exact⟨rfl,rfl⟩
theorem ZP(j:Jr)(hw:j.w.length≤100000)(S:ae):ak Tryz.prog 160 [.agg (jk j)] S fun r S'=>r= .sl 7 ((ve j.w).map gl)∧S'=S:=by
 refine ak.bp Tryz.func160 Qa fun hn=>?_;refine ak.fin Tryz.func160 Qa (U rfl) fun σ b_=>?_;simp(disch:=first|omega|(simp only[ai];omega)) only[RH,jk,aj,↓eA,eB,aq,seval];refine dm (ι:=Nat×V×ae) (fun i=>[(3,i.2.1),(7,.sl 8 (j.w.map cR)),(8,.int .i64 j.w.length),(9,.int .i64 (i.1:Nat))]) (fun i=>i.2.2)
  (fun i=>i.1≤j.w.length∧lz S.length i.2.2 75 7 ((ve (j.w.take i.1)).map gl) i.2.1∧∃T,i.2.2=S++T) (fun i=>j.w.length-i.1)
  (fun i hi=>by rw[b_];obtain⟨T,hT⟩:=hi.2.2;rw[hT];simp) (0,.aM,S) ⟨az _,.inl ⟨rfl,rfl⟩,[],by simp⟩ (.inl ⟨?_,rfl⟩) ?_
 ·simp only[↓eA,eB,aq,seval];try rfl
 rintro⟨k,v,S1⟩ ⟨hk,hL,T,hT⟩;simp only at hk hL hT⊢;cases hc:j.w[k]? with
 |none=>
  obtain⟨eh,he⟩:=dE hc;have aR:¬((k:Int)<j.w.length):=by omega
  rw[bh eh]at hL;simp(disch:=first|omega|(simp only[ai];omega)) only[dF aR,aj,↓eA,eB,aq,seval];exact⟨_,S,by rw[hT];exact hn.dO _,hL.rb (ah _) (Mm _),ah _,rfl,rfl⟩
 |some c=>
  have cK:=(List.getElem?_eq_some_iff.1 hc).1;have aR:(k:Int)<j.w.length:=by omega
  have cN:(k:Int)+1=((k+1:Nat):Int):=by omega
  obtain⟨S2,cO⟩:∃S2,S2=(S1++[⟨0,some (.arr 77 8 [cR c])⟩]:ae):=⟨_,rfl⟩;have rL:lz S.length S2 75 7 ((ve (j.w.take k)).map gl) v:=by rw[cO];exact hL.pF (f_.add (fun _=>False) S1 _) fun _ _ h=>h
  have jU:∃T2,S2=S++T2:=⟨T++_,by rw[cO,hT];exact bG ..⟩;have hb:ae.bq S2 S1.length 0=some (77,8,[cR c]):=by rw[cO];exact dP.trans cE
  simp only[cR,gl,aS,a8]at cO hb;simp(disch:=first|omega|(simp only[ai];omega)) only[dT aR,hc,cR,gl,←cO,hb,aj,↓eA,eB,aq,seval];refine rL.app (by obtain⟨T2,rfl⟩:=jU;simp) (by unfold ve;simp;omega) fun v' S3 oq mU _=>?_;simp(disch:=first|omega|(simp only[ai];omega)) only[wrap_i64,cN,aj,↓eA,eB,aq,seval];exact⟨(k+1,v',S3),⟨by simp only;omega,by rw[kN hc];unfold ve at oq⊢;rw[bF,bF];exact oq,mU.ext jU fun j hj=>(rL.lt hj).2⟩,by simp only;omega,.inl ⟨by simp only[↓eA,eB,aq,seval];try rfl,rfl⟩⟩
theorem Tm(w:List gv)(hw:w.length≤100000)(S:ae):ak Tryz.prog 167 [.sl 8 (w.map cR)] S fun r S'=>r= .sl 7 ((ve w).map gl)∧S'=S:=by
 refine ak.bp Tryz.func167 P8 fun hn=>?_;refine ak.fin Tryz.func167 P8 (U rfl) fun σ b_=>?_;simp(disch:=first|omega|(simp only[ai];omega)) only[RA,aj,↓eA,eB,aq,seval];refine dm (ι:=Nat×V×ae) (fun i=>[(0,.sl 8 (w.map cR)),(3,i.2.1),(4,.int .i64 (i.1:Nat))]) (fun i=>i.2.2)
  (fun i=>i.1≤w.length∧lz S.length i.2.2 75 7 ((ve (w.take i.1)).map gl) i.2.1∧∃T,i.2.2=S++T) (fun i=>w.length-i.1)
  (fun i hi=>by rw[b_];obtain⟨T,hT⟩:=hi.2.2;rw[hT];simp) (0,.aM,S) ⟨az _,.inl ⟨rfl,rfl⟩,[],by simp⟩ (.inl ⟨?_,rfl⟩) ?_
 ·simp only[↓eA,eB,aq,seval];try rfl
 rintro⟨k,v,S1⟩ ⟨hk,hL,hT⟩;simp only at hk hL hT⊢;cases hc:w[k]? with
 |none=>
  obtain⟨eh,he⟩:=dE hc;have aR:¬((k:Int)<w.length):=by omega
  rw[bh eh]at hL;simp(disch:=first|omega|(simp only[ai];omega)) only[dF aR,aj,↓eA,eB,aq,seval];obtain⟨T,rfl⟩:=hT;exact⟨_,S,hn.dO _,hL.rb (ah _) (Mm _),ah _,rfl,rfl⟩
 |some c=>
  have cK:=(List.getElem?_eq_some_iff.1 hc).1;have aR:(k:Int)<w.length:=by omega
  have cN:(k:Int)+1=((k+1:Nat):Int):=by omega
  simp(disch:=first|omega|(simp only[ai];omega)) only[dT aR,hc,cR,gl,aj,↓eA,eB,aq,seval];refine hL.app (by obtain⟨T2,rfl⟩:=hT;simp) (by unfold ve;simp;omega) fun v' S3 oq mU _=>?_;simp(disch:=first|omega|(simp only[ai];omega)) only[wrap_i64,cN,aj,↓eA,eB,aq,seval];exact⟨(k+1,v',S3),⟨by simp only;omega,by rw[kN hc];unfold ve at oq⊢;rw[bF,bF];exact oq,mU.ext hT fun j hj=>(hL.lt hj).2⟩,by simp only;omega,.inl ⟨by simp only[↓eA,eB,aq,seval];try rfl,rfl⟩⟩
end Go.Proofs.YtfgkgmmnldocaaaGreatDoor
namespace Go.Proofs.YtfgkgmmnldocaaaGreatDoor
open Go Go.AL
variable[Go.AL.Mode][Go.AL.bR]
def T7(ps:List (Nat×Nat))(k:Nat):Bool:=ps.any fun p=>decide (p.1=k)||decide (p.2=k)
theorem B_(ps:List (Nat×Nat))(hl:ps.length≤1000000)(k:Nat)(S:ae):ak Tryz.prog 169 [.sl 2 (ps.map mS),.int .i64 (k:Nat)] S fun r S'=>r= .bool (T7 ps k)∧S'=S:=by
 refine ak.bW Tryz.func169 abt (U rfl) fun σ b_=>?_;simp(disch:=first|omega|(simp only[ai];omega)) only[Ry,aj,↓eA,eB,aq,seval];refine cH (ι:=Nat) (fun i=>[(0,.sl 2 (ps.map mS)),(1,.int .i64 (k:Nat)),(5,.int .i64 (i:Nat))]) (fun _=>S) (fun i=>i≤ps.length∧T7 ps k=T7 (ps.drop i) k) (fun i=>ps.length-i) 0 ⟨az _,rfl⟩ ?_ rfl ?_
 ·simp only[↓eA,eB,aq,seval];try rfl
 rintro i ⟨hi,he⟩;unfold T7 at*;cases hc:ps[i]? with
 |none=>
  obtain⟨eh,hd⟩:=dE hc;have aR:¬((i:Int)<ps.length):=by omega
  rw[he,hd];simp(disch:=first|omega|(simp only[ai];omega)) only[dF aR,aj,↓eA,eB,aq,seval];try rfl
 |some x=>
  have cK:=(List.getElem?_eq_some_iff.1 hc).1;have aR:(i:Int)<ps.length:=by omega
  have kq:(i:Int)+1=((i+1:Nat):Int):=by omega
  obtain⟨p,q⟩:=x;rw[mB hc,List.any_cons]at he;by_cases h1:p=k
  ·rw[he];simp(disch:=first|omega|(simp only[ai];omega)) only[dT aR,hc,mS,dT h1,dT (show(p:Int)=(k:Nat) by omega),eS,aj,↓eA,eB,aq,seval]
  by_cases h2:q=k
  ·rw[he];simp(disch:=first|omega|(simp only[ai];omega)) only[dT aR,hc,mS,dF h1,dF (show ¬(p:Int)=(k:Nat) by omega),dT h2,dT (show(q:Int)=(k:Nat) by omega),eS,mf,aj,↓eA,eB,aq,seval]
  ·rw[dF h1,dF h2,cQ,cQ]at he;simp(disch:=first|omega|(simp only[ai];omega)) only[dT aR,hc,mS,dF (show ¬(p:Int)=(k:Nat) by omega),dF (show ¬(q:Int)=(k:Nat) by omega),wrap_i64,kq,aj,↓eA,eB,aq,seval];exact⟨i+1,⟨by omega,he⟩,by omega,by first|rfl|exact⟨rfl,rfl⟩|exact⟨rfl,rfl,rfl⟩⟩
def ptQ(fl:List Fr)(ps:List (Nat×Nat))(i k:Nat):Bool:=!T7 ps k&&((ue fl i).BS&&Lx (ue fl i) (ue fl k))
def ptP(fl:List Fr)(ps:List (Nat×Nat))(i:Nat):Option Nat:=Bh (ptQ fl ps i) (fl.length-(i+1)) (i+1)
def ptI:Option Nat→Int
 |some k=>(k:Nat)
 |none=>-1
theorem J8(t:gk)(tx:List (List V))(l:List Pa)(hl:l.length≤1000000)(hk:pT t l=true)(ps:List (Nat×Nat))(hp:ps.length≤1000000)(i:Nat)(hi:i<l.length)(S:ae):
 ak Tryz.prog 170 [.agg (b9 t tx),.sl 4 (l.map c9),.sl 2 (ps.map mS),.int .i64 (i:Nat)] S fun r S'=>r= .int .i64 (ptI (ptP (kQ t l) ps i))∧S'=S:=by
 refine ak.bW Tryz.func170 abr (U rfl) fun σ b_=>?_;obtain⟨x,hc⟩:∃x,l[i]?=some x:=⟨_,ax hi⟩;obtain⟨n,f,x1,x2,x3,x4⟩:=lK hk hc;have pE:=tC x3;have nK:=mz t l;have pa:=fun k S=>B_ ps hp k S;have kq:(i:Int)+1=((i+1:Nat):Int):=by omega
 simp(disch:=first|omega|(simp only[ai];omega)) only[Rx,b9,wrap_i64,kq,aj,↓eA,eB,aq,seval];refine cH (ι:=Nat) (fun k=>[(1,.sl 4 (l.map c9)),(2,.sl 2 (ps.map mS)),(3,.int .i64 (i:Nat)),(4,.bK (b9 t tx)),(9,.int .i64 (k:Nat))]) (fun _=>S) (fun k=>k≤l.length∧ptP (kQ t l) ps i=Bh (ptQ (kQ t l) ps i) (l.length-k) k) (fun k=>l.length-k) (i+1) ⟨by omega,by unfold ptP;rw[nK]⟩ ?_ rfl ?_
 ·simp only[b9,↓eA,eB,aq,seval];try rfl
 rintro k ⟨pX,he⟩;cases hd:l[k]? with
 |none=>
  obtain⟨eh,hd'⟩:=dE hd;have aR:¬((k:Int)<l.length):=by omega
  rw[show l.length-k=0 by omega,Bh]at he;rw[he];simp(disch:=first|omega|(simp only[ai];omega)) only[dF aR,ptI,aj,↓eA,eB,aq,seval];try rfl
 |some y=>
  have KC:=(List.getElem?_eq_some_iff.1 hd).1;have aR:(k:Int)<l.length:=by omega
  have cN:(k:Int)+1=((k+1:Nat):Int):=by omega
  obtain⟨m,g,y1,y2,y3,y4⟩:=lK hk hd;have bk:=fun S=>Tp f g S;have hq:ptQ (kQ t l) ps i k=(!T7 ps k&&(f.BS&&Lx f g)):=by unfold ptQ;rw[pE,tC y3]
  rw[show l.length-k=(l.length-(k+1))+1 by omega,Bh,hq]at he;generalize (f.BS&&Lx f g)=bb at*;obtain⟨f1,f2,f3,f4,f5,f6,f7,f8,f9⟩:=f;obtain⟨g1,g2,g3,g4,g5,g6,g7,g8,g9⟩:=g;simp only[fK]at bk;simp(disch:=first|omega|(simp only[ai];omega)) only[dT aR,aj,↓eA,eB,aq,seval];refine(pa k _).then ?_
  cases gK:T7 ps k with
  |true=>
   rw[gK,il,aO,aC (by simp)]at he;simp(disch:=first|omega|(simp only[ai];omega)) only[wrap_i64,cN,aj,↓eA,eB,aq,seval];exact⟨k+1,⟨by omega,he⟩,by omega,by first|rfl|exact⟨rfl,rfl⟩|exact⟨rfl,rfl,rfl⟩⟩
  |false=>
   rw[gK,eH,aX]at he;simp(disch:=first|omega|(simp only[ai];omega)) only[b9,hc,hd,c9,x1,x2,y1,y2,fK,aj,↓eA,eB,aq,seval];refine(bk _).then ?_
   cases bb with
   |true=>
    rw[aK rfl]at he;rw[he];simp(disch:=first|omega|(simp only[ai];omega)) only[ptI,aj,↓eA,eB,aq,seval]
   |false=>
    rw[aC (by simp)]at he;simp(disch:=first|omega|(simp only[ai];omega)) only[wrap_i64,cN,aj,↓eA,eB,aq,seval];exact⟨k+1,⟨by omega,he⟩,by omega,by first|rfl|exact⟨rfl,rfl⟩|exact⟨rfl,rfl,rfl⟩⟩
theorem Ow{ps:List (Nat×Nat)}{i k:Nat}(h:∀p∈ps,p.1<i)(hk:i≤k):T7 ps k=w4 ps k:=by
 unfold T7 w4;rw[fR];simp only[ib,dR,aL];constructor
 ·rintro⟨p,hp,h1|h1⟩
  ·have:=h p hp;omega
  ·exact⟨p,hp,h1⟩
 ·rintro⟨p,hp,h1⟩;exact⟨p,hp,.inr h1⟩
theorem Ps{q q':Nat→Bool}:∀{n k:Nat},(∀j,k≤j→q j=q' j)→Bh q n k=Bh q' n k
 |0,_,_=>rfl
 |n+1,k,h=>by rw[Bh,Bh,h k (ah _),Ps fun j hj=>h j (by omega)]
theorem Z6{fl:List Fr}{ps:List (Nat×Nat)}{i:Nat}(h:∀p∈ps,p.1<i)(hr:(ue fl i).BS=true):ptP fl ps i=J5 fl ps i:=by
 unfold ptP J5;refine Ps fun j hj=>?_;unfold ptQ VQ;rw[Ow h (by omega),hr,aX]
theorem vj(t:gk)(tx:List (List V))(h1:t.bE.length≤1000000)(l:List Pa)(hl:l.length≤100000)(S:ae):
 ak Tryz.prog 121 [.agg (b9 t tx),.sl 4 (l.map c9)] S fun r S'=>r=Lj t l∧S'=S:=by
 refine ak.bp Tryz.func121 Qd fun hn=>?_;refine ak.fin Tryz.func121 Qd (U rfl) fun σ b_=>?_;have pr:=fun S=>BW t tx h1 l (by omega) S;have pd:=fun ps (hp:ps.length≤1000000) k S=>B_ ps hp k S;unfold Lj;simp only[b9]at pr⊢;simp(disch:=first|omega|(simp only[ai];omega)) only[RN,aj,↓eA,eB,aq,seval];refine(pr _).then ?_
 cases hk:pT t l with
 |false=>
  simp(disch:=first|omega|(simp only[ai];omega)) only[aj,↓eA,eB,aq,seval];exact⟨_,S,hn.self,.jj .nil (.bX rfl),ah _,rfl,rfl⟩
 |true=>
 rw[aC (by simp)];have pt:=fun ps hp i hi S=>J8 t tx l (by omega) hk ps hp i hi S;simp only[b9]at pt;obtain⟨c2,jn⟩:∃c2,c2=V.bK [.sl 9 (t.bE.map fK),.sl 15 (t.rules.map cx),.sl 3 (t.cS.map eP),.sl 7 tx]:=⟨_,rfl⟩;have nK:(kQ t l).length=l.length:=mz t l;simp(disch:=first|omega|(simp only[ai];omega)) only[aj,↓eA,eB,aq,seval];unfold B8;rw[nK];refine dm (ι:=Nat×List (Nat×Nat)×V×ae) (fun i=>[(1,.sl 4 (l.map c9)),(2,c2),(6,i.2.2.1),(7,.int .i64 (i.1:Nat))]) (fun i=>i.2.2.2)
  (fun i=>(i.1≤l.length∧rI (kQ t l) l.length 0 []=rI (kQ t l) (l.length-i.1) i.1 i.2.1∧i.2.1.length≤i.1∧∀p∈i.2.1,p.1<i.1)∧lz S.length i.2.2.2 150 2 (i.2.1.map mS) i.2.2.1∧∃T,i.2.2.2=S++T) (fun i=>l.length-i.1)
  (fun i hi=>by rw[b_];obtain⟨T,hT⟩:=hi.2.2;rw[hT];simp) (0,[],.aM,S) ⟨⟨az _,rfl,ah _,by simp⟩,.inl ⟨rfl,rfl⟩,[],by simp⟩ (.inl ⟨?_,rfl⟩) ?_
 ·rw[jn];simp only[↓eA,eB,aq,seval];try rfl
 rintro⟨i,ps,v,S1⟩ ⟨⟨hi,hg,pV,pC⟩,hL,T,hT⟩;simp only at hi hg pV pC hL hT⊢;rw[jn];cases hc:l[i]? with
 |none=>
  obtain⟨eh,he⟩:=dE hc;have aR:¬((i:Int)<l.length):=by omega
  rw[show l.length-i=0 by omega,rI]at hg;rw[hg];simp(disch:=first|omega|(simp only[ai];omega)) only[dF aR,aj,↓eA,eB,aq,seval];exact⟨_,S,by rw[hT];exact hn.dO _,.jj (hL.rb (ah _) (vr ps)) (.bX rfl),ah _,rfl,rfl⟩
 |some x=>
  have cK:=(List.getElem?_eq_some_iff.1 hc).1;have aR:(i:Int)<l.length:=by omega
  have kq:(i:Int)+1=((i+1:Nat):Int):=by omega
  obtain⟨n,f,x1,x2,x3,x4⟩:=lK hk hc;have pE:=tC x3;have lY:rI (kQ t l) l.length 0 []=if(!f.BS||w4 ps i)=true then rI (kQ t l) (l.length-(i+1)) (i+1) ps else match J5 (kQ t l) ps i with
   |some k=>rI (kQ t l) (l.length-(i+1)) (i+1) (ps++[(i,k)])
   |none=>none:=by
   rw[hg,show l.length-i=(l.length-(i+1))+1 by omega,rI,pE];try rfl
  clear hg;have aaC:∀p∈ps,p.1<i+1:=fun p hp=>by have:=pC p hp;omega
  have hpd:=fun S=>pd ps (by omega) i S;rw[Ow pC (ah _)]at hpd;have adX:=fun S=>pt ps (by omega) i cK S;obtain⟨f1,f2,f3,f4,f5,rd,f7,f8,f9⟩:=f;cases rd with
  |false=>
   rw[aK (by rfl)]at lY;simp(disch:=first|omega|(simp only[ai];omega)) only[dT aR,hc,c9,x1,x2,fK,wrap_i64,kq,aj,↓eA,eB,aq,seval];exact⟨(i+1,ps,v,S1),⟨⟨by simp only;omega,lY,by simp only;omega,aaC⟩,hL,T,hT⟩,by simp only;omega,.inl ⟨by simp only[jn,↓eA,eB,aq,seval];try rfl,rfl⟩⟩
  |true=>
  have hpp:=Z6 (fl:=kQ t l) pC (by rw[pE]);rw[hpp]at adX;simp(disch:=first|omega|(simp only[ai];omega)) only[dT aR,hc,c9,x1,x2,fK,aj,↓eA,eB,aq,seval];refine(Fh (args:=[v,.int .i64 (i:Nat)]) (hpd (kill S1)) ⟨hL.Kl (vr ps),.bX rfl,trivial⟩).then ?_
  cases gK:w4 ps i with
  |true=>
   rw[gK,aK (by rfl)]at lY;simp(disch:=first|omega|(simp only[ai];omega)) only[wrap_i64,kq,aj,↓eA,eB,aq,seval];exact⟨(i+1,ps,v,S1),⟨⟨by simp only;omega,lY,by simp only;omega,aaC⟩,hL,T,hT⟩,by simp only;omega,.inl ⟨by simp only[jn,↓eA,eB,aq,seval];try rfl,rfl⟩⟩
  |false=>
   rw[gK,aC (by simp)]at lY;simp(disch:=first|omega|(simp only[ai];omega)) only[aj,↓eA,eB,aq,seval];refine(Fh (args:=[.agg [.sl 9 (t.bE.map fK),.sl 15 (t.rules.map cx),.sl 3 (t.cS.map eP),.sl 7 tx],.sl 4 (l.map c9),v,.int .i64 (i:Nat)]) (adX (kill S1)) ⟨.bX rfl,.bX rfl,hL.Kl (vr ps),.bX rfl,trivial⟩).then ?_
   cases hp:J5 (kQ t l) ps i with
   |none=>
    simp only[hp]at lY;rw[lY];simp(disch:=first|omega|(simp only[ai];omega)) only[ptI,aj,↓eA,eB,aq,seval];exact⟨_,S,by rw[hT];exact hn.dO _,.jj .nil (.bX rfl),ah _,rfl,rfl⟩
   |some k=>
    simp only[hp]at lY;have Fw:¬((k:Nat):Int)<0:=by omega
    simp(disch:=first|omega|(simp only[ai];omega)) only[ptI,dF Fw,aj,↓eA,eB,aq,seval];refine hL.app (r:=mS (i,k)) (by rw[hT];simp) (by simp;omega) fun v' S3 oq mU _=>?_;simp(disch:=first|omega|(simp only[ai];omega)) only[wrap_i64,kq,aj,↓eA,eB,aq,seval];refine⟨(i+1,ps++[(i,k)],v',S3),⟨⟨by simp only;omega,lY,by simp only[aH,aN];omega,?_⟩,by rw[bF];exact oq,mU.ext ⟨T,hT⟩ fun j hj=>(hL.lt hj).2⟩,by simp only;omega,.inl ⟨by simp only[jn,↓eA,eB,aq,seval];try rfl,rfl⟩⟩;intro p Kz;rcases List.mem_append.1 Kz with h|h
    ·exact aaC p h
    ·rw[List.mem_singleton.1 h];simp only;omega
end Go.Proofs.YtfgkgmmnldocaaaGreatDoor
