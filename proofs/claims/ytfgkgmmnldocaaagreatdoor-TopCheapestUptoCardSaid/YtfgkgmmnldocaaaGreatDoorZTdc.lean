/- Tdc -/
import Derived.Test.YtfgkgmmnldocaaaGreatDoorZTd9
import Derived.Test.YtfgkgmmnldocaaaGreatDoorZTp3
import Derived.Test.YtfgkgmmnldocaaaGreatDoorZAlF
set_option linter.unusedSectionVars false
set_option linter.unusedSimpArgs false
set_option linter.unusedVariables false
set_option maxHeartbeats 8000000
set_option maxRecDepth 10000
namespace Go.Proofs.YtfgkgmmnldocaaaGreatDoor
open Go Go.AL
variable[Go.AL.Mode][Go.AL.bR]
theorem Vm.eq{j:Jr}{e e':Int}(h:Vm j e)(k:Vm j e'):e=e':=by
 have fs:A7 j 0 []→ny j 0:=fun⟨e,h,_⟩=>⟨e,h⟩;rcases h with⟨a,rfl⟩|⟨a,⟨b,rfl⟩|⟨b,c,rfl⟩|⟨b,rfl⟩⟩<;>rcases k with⟨a',rfl⟩|⟨a',⟨b',rfl⟩|⟨b',c',rfl⟩|⟨b',rfl⟩⟩<;>first|rfl|omega|exact(b b').elim|exact(b' b).elim|exact(b (fs b')).elim|exact(b' (fs b)).elim|exact(c b').elim|exact(c' b).elim
inductive Sh (n:Nat):Nat→List Pa→Prop
 |nil:Sh n n []
 |cons {i k:Nat} {f:Int} {e:List Pa}:i<k→k≤n→Sh n k e→Sh n i (⟨(i:Nat),(k:Nat),f,0⟩::e)
theorem Sh.at{n:Nat}:∀{e:List Pa} {i q:Nat} {x:Pa},Sh n i e→e[q]?=some x→∃(a b:Nat) (f:Int),x=⟨(a:Nat),(b:Nat),f,0⟩∧a<b∧b≤n
 |[],_,_,_,_,hx=>by simp at hx
 |y::e,i,q,x,h,hx=>by
  cases h with
  |cons h1 h2 h3=>
   cases q with
   |zero=>cases hx;exact⟨_,_,_,rfl,h1,h2⟩
   |succ q=>exact Sh.at h3 hx
def XW(j:Jr)(x:Pa):Int×Int:=gg j.p j.t x.dz ((j.w.drop x.fr.toNat).take (x.to.toNat-x.fr.toNat)) j.iz
def wY(j:Jr)(x:Pa):Pa:={x with am:=(XW j x).1}
def gdX(j:Jr)(x:Pa):Prop:=uT j.p j.t x.dz ((j.w.drop x.fr.toNat).take (x.to.toNat-x.fr.toNat)) j.iz j.cj=0∧(XW j x).2=0
theorem Zx{p:fO}{t:gk}{f:Int}{l:List gv}{ty:bS}{cj:Int}(h:uT p t f l ty cj=0):∃i:Nat,f=(i:Nat)∧i<t.bE.length:=by
 unfold uT at h;split at h
 ·cases h
 ·rename_i h1;have h2:¬f<0:=fun h=>h1 (.inr h);cases hf:t.bE[f.toNat]? with
  |none=>rw[hf]at h;cases h
  |some y=>exact⟨f.toNat,by omega,(List.getElem?_eq_some_iff.1 hf).1⟩
theorem TD{j:Jr}{a b:Nat}{f:Int}(h:gdX j ⟨(a:Nat),(b:Nat),f,0⟩):wY j ⟨(a:Nat),(b:Nat),f,0⟩∈pL j a b:=by
 obtain⟨h1,h2⟩:=h;obtain⟨i,rfl,hi⟩:=Zx h1;simp only[cn,XW]at h1 h2;refine List.mem_map.2 ⟨mr j.p j.t ((j.w.drop a).take (b-a)) j.iz i,List.mem_map.2 ⟨i,List.mem_filter.2 ⟨List.mem_range.2 hi,?_⟩,rfl⟩,?_⟩
 ·unfold kx;rw[aW,aL,aL];exact⟨h1,h2⟩
 ·simp only[wY,XW,mr,cn]
theorem Sh.WY{j:Jr}:∀{e:List Pa} {i:Nat},Sh j.w.length i e→(∀x∈e,gdX j x)→rM j i (e.map (wY j))
 |[],_,h,_=>by
  cases h;exact .nil
 |y::e,_,h,hg=>by
  cases h with
  |cons h1 h2 h3=>exact .cons h1 h2 (TD (hg _ (fg ..))) (Sh.WY h3 fun x hx=>hg x (cc _ hx))
theorem Pj{j:Jr}(t:gk)(l:List Pa):kQ t (l.map (wY j))=kQ t l:=by
 unfold kQ;rw[fP];rfl
theorem VF{j:Jr}(l:List Pa)(k:Nat):rU j.w (l.map (wY j)) k=rU j.w l k:=by
 unfold rU;rw[bn];cases l[k]?<;>rfl
theorem ZK{j:Jr}(l:List Pa)(q:Nat×Nat):Sj j.p j.t j.w (l.map (wY j)) q=Sj j.p j.t j.w l q:=by
 unfold Sj JY;rw[VF,VF,Pj]
theorem Mh{j:Jr}(l:List Pa):∀ps,Ba j.p j.t j.w (l.map (wY j)) ps=Ba j.p j.t j.w l ps
 |[]=>rfl
 |q::r=>by rw[Ba,Ba,ZK,Mh l r]
theorem PH{j:Jr}(n:Int):∀(l:List Pa) (a:Int),pP n a (l.map (wY j))=pP n a l
 |[],_=>rfl
 |x::l,a=>by
  rw[bd,pP,pP,PH n l];rfl
theorem Ww{j:Jr}(t:gk)(l:List Pa):pT t (l.map (wY j))=pT t l:=by
 unfold pT;rw[List.all_map];rfl
theorem abf{j:Jr}(l:List Pa):wI j.p j.t j.w (l.map (wY j))=wI j.p j.t j.w l:=by
 have e1:pQ (l.map (wY j)) j.w.length=pQ l j.w.length:=by
  unfold pQ;rw[PH];cases l<;>rfl
 have e2:B8 j.t (l.map (wY j))=B8 j.t l:=by
  unfold B8;rw[Pj]
 have e3:yl j.t (l.map (wY j))=yl j.t l:=by
  unfold yl xb;rw[Ww,Pj]
 unfold wI;rw[e1,Ww,e2,e3];cases B8 j.t l with
 |none=>rfl
 |some ps=>simp only[Mh]
theorem adC(j:Jr)(ht:TSm j.t)(hx:∀x∈j.tx,x.fr.length≤1000000000)(cut a b:Int)(S:ae):ak Tryz.prog 3 [.agg (jk j),.int .i64 cut,.int .i64 a,.int .i64 b] S fun r S'=>r= .bool true∧S'=S:=by
 refine ak.bp Tryz.func3 Qr fun hn=>?_;refine ak.fin Tryz.func3 Qr (U rfl) fun σ b_=>?_;have aw:=Va;have sm:=fun S=>Tc j ht hx S;have fin:∀(X:ae),(∃T,X=S++T)→∃r1 S1,mV X S1∧jd X S1 (.bool true) r1∧S.length≤S1.length∧r1= .bool true∧S1=S:=fun X hX=>by
  obtain⟨T,rfl⟩:=hX;exact⟨_,S,hn.dO _,.bX rfl,ah _,rfl,rfl⟩
 obtain⟨c4,mN⟩:∃c4,c4=V.bK (jk j):=⟨_,rfl⟩;simp only[Sd];refine cm (fun E S'=>(E.get 4=c4∧E.get 1= .int .i64 cut∧E.get 2= .int .i64 a∧E.get 3= .int .i64 b)∧S'=S) ?_ ?_
 ·intro K hK;simp(disch:=first|omega|(simp only[ai];omega)) only[aj,↓eA,eB,aq,seval];exact hK _ _ ⟨⟨mN.symm,rfl,rfl,rfl⟩,rfl⟩
 rintro E S2 ⟨⟨e4,e1,e2,e3⟩,cO⟩;rw[cO];clear cO S2;refine cm (fun E S'=>(E.get 4=c4∧E.get 1= .int .i64 cut∧E.get 2= .int .i64 a∧E.get 3= .int .i64 b)∧(SmJ j∧0<j.w.length)∧S'=S) ?_ ?_
 ·intro K hK;have zb:=e4;rw[mN]at zb;unfold jk at zb sm;simp(disch:=first|omega|(simp only[ai];omega)) only[zb,aj,↓eA,eB,aq,seval];refine(sm _).mono ?_;rintro _ S2 ⟨bb,rfl,hb,cO⟩;rw[cO];clear cO S2;cases bb
  case false=>
   simp(disch:=first|omega|(simp only[ai];omega)) only[aj,↓eA,eB,aq,seval];refine(aw _).then ?_
   simp(disch:=first|omega|(simp only[ai];omega)) only[aj,↓eA,eB,aq,seval];exact fin _ ⟨[],by simp⟩
  by_cases h0:(j.w.length:Int)=0
  ·simp(disch:=first|omega|(simp only[ai];omega)) only[zb,dT h0,aj,↓eA,eB,aq,seval];refine(aw _).then ?_
   simp(disch:=first|omega|(simp only[ai];omega)) only[aj,↓eA,eB,aq,seval];exact fin _ ⟨[],by simp⟩
  ·simp(disch:=first|omega|(simp only[ai];omega)) only[zb,dF h0,aj,↓eA,eB,aq,seval];exact hK _ _ ⟨⟨e4,e1,e2,e3⟩,⟨hb rfl,by omega⟩,rfl⟩
 clear e4 e1 e2 e3 sm;rintro E S2 ⟨⟨e4,e1,e2,e3⟩,⟨Eb,Kt⟩,cO⟩;rw[cO];clear cO S2;have hj:=Eb.g ht hx;have hw4:=Eb.w.1;refine cm (fun E S'=>(E.get 4=c4∧E.get 1= .int .i64 cut∧E.get 2= .int .i64 a∧E.get 3= .int .i64 b∧E.get 9= .sl 4 ([⟨0,(j.w.length:Nat),a,0⟩].map c9))∧S'=S) ?_ ?_
 ·intro K hK;have zb:=e4;rw[mN]at zb;unfold jk at zb;simp(disch:=first|omega|(simp only[ai];omega)) only[zb,e2,aj,↓eA,eB,aq,seval];exact hK _ _ ⟨⟨e4,e1,e2,e3,rfl⟩,rfl⟩
 clear e4 e1 e2 e3;rintro E S2 ⟨⟨e4,e1,e2,e3,e9⟩,cO⟩;rw[cO];clear cO S2;refine cm (fun E S'=>∃ps:List Pa,Sh j.w.length 0 ps∧ps.length≤2∧(E.get 4=c4∧E.get 9= .sl 4 (ps.map c9))∧S'=S) ?_ ?_
 ·intro K hK;have zb:=e4;rw[mN]at zb;unfold jk at zb;have one:Sh j.w.length 0 [⟨0,(j.w.length:Nat),a,0⟩]:=.cons (i:=0) Kt (ah _) .nil;by_cases h1:0<cut
  ·by_cases h2:cut<j.w.length
   ·obtain⟨n,rfl⟩:∃n:Nat,cut=(n:Nat):=⟨cut.toNat,by omega⟩;simp(disch:=first|omega|(simp only[ai];omega)) only[zb,e1,e2,e3,dT h1,dT h2,aj,↓eA,eB,aq,seval];exact hK _ _ ⟨[⟨0,(n:Nat),a,0⟩,⟨(n:Nat),(j.w.length:Nat),b,0⟩],.cons (i:=0) (by omega) (by omega) (.cons (by omega) (ah _) .nil),ah _,⟨e4,rfl⟩,rfl⟩
   ·simp(disch:=first|omega|(simp only[ai];omega)) only[zb,e1,dT h1,dF h2,aj,↓eA,eB,aq,seval];exact hK _ _ ⟨_,one,by simp,⟨e4,e9⟩,rfl⟩
  ·simp(disch:=first|omega|(simp only[ai];omega)) only[zb,e1,dF h1,aj,↓eA,eB,aq,seval];exact hK _ _ ⟨_,one,by simp,⟨e4,e9⟩,rfl⟩
 clear e4 e1 e2 e3 e9;rintro E S2 ⟨ps,Us,pV,⟨e4,e9⟩,cO⟩;rw[cO];clear cO S2;refine cm (fun E S'=>(E.get 4=c4∧E.get 9= .sl 4 (ps.map c9)∧E.get 10= .int .i64 0)∧S'=S) ?_ ?_
 ·intro K hK;simp(disch:=first|omega|(simp only[ai];omega)) only[aj,↓eA,eB,aq,seval];exact hK _ _ ⟨⟨e4,e9,rfl⟩,rfl⟩
 clear e4 e9;rintro E S2 ⟨⟨e4,e9,uO⟩,cO⟩;rw[cO];clear cO S2;refine cm (fun E S'=>(E.get 4=c4∧E.get 9= .sl 4 (ps.map c9)∧E.get 10= .int .i64 (fW (ps.map (wY j))))∧(∀x∈ps,gdX j x)∧S'=S) ?_ ?_
 ·intro K hK;simp(disch:=first|omega|(simp only[ai];omega)) only[aj,↓eA,eB,aq,seval];refine dm (ι:=Nat) (fun i=>[(4,c4),(9,.sl 4 (ps.map c9)),(10,.int .i64 (fW ((ps.take i).map (wY j)))),(11,.int .i64 (i:Nat))]) (fun _=>S)
   (fun i=>i≤ps.length∧(0≤fW ((ps.take i).map (wY j))∧fW ((ps.take i).map (wY j))≤1099511627776)∧∀x∈ps.take i,gdX j x) (fun i=>ps.length-i) (fun i hi=>by rw[b_];exact ah _) 0 ⟨az _,by simp[fW,fL],fun x hx=>by simp at hx⟩ (.inl ⟨?_,rfl⟩) ?_
  ·simp only[e4,e9,uO,↓eA,eB,aq,seval];try rfl
  clear e4 e9 uO;rintro i ⟨hi,⟨Kv,tu⟩,hg⟩;cases hc:ps[i]? with
  |none=>
   obtain⟨eh,_⟩:=dE hc;have aR:¬((i:Int)<ps.length):=by omega
   rw[bh eh]at hg⊢;simp(disch:=first|omega|(simp only[ai];omega)) only[dF aR,aj,↓eA,eB,aq,seval];exact hK _ _ ⟨⟨rfl,rfl,rfl⟩,hg,rfl⟩
  |some x=>
  have cK:=(List.getElem?_eq_some_iff.1 hc).1;have aR:(i:Int)<ps.length:=by omega
  have om:(i:Int)+1=((i+1:Nat):Int):=by omega
  have xl:fW ((ps.take (i+1)).map (wY j))=fW ((ps.take i).map (wY j))+(XW j x).1:=by
   rw[kN hc,bF,uQ];simp[fW,fL,wY]
  obtain⟨u,v,f,rfl,huv,hvn⟩:=Us.at hc;have wy:=fun S=>Vu j.p hj.p j.t (j.tx.map fk) hj.t f ((j.w.drop u).take (v-u)) (by simp;omega) (zG hj.w u _) j.iz j.cj S;have am:=fun S=>lU j.p hj.p j.t (j.tx.map fk) hj.t f ((j.w.drop u).take (v-u)) (by simp;omega) j.iz S;obtain⟨wv,hwv⟩:∃wv,wv=uT j.p j.t f ((j.w.drop u).take (v-u)) j.iz j.cj:=⟨_,rfl⟩;obtain⟨av,hav⟩:∃av,av=gg j.p j.t f ((j.w.drop u).take (v-u)) j.iz:=⟨_,rfl⟩;have hgd:wv=0→av.2=0→gdX j ⟨(u:Nat),(v:Nat),f,0⟩:=fun h1 h2=>by
   unfold gdX XW;simp only[cn];exact⟨by rw[←hwv];exact h1,by rw[←hav];exact h2⟩
  have hax:XW j ⟨(u:Nat),(v:Nat),f,0⟩=av:=by
   unfold XW;simp only[cn];exact hav.symm
  rw[hax]at xl;rw[←hwv]at wy;rw[←hav]at am;clear hwv hav hax;simp only[dV,b9]at wy am;generalize fW ((ps.take i).map (wY j))=s at*;have tq:IntKind.i64.wrap (1099511627776-s)=1099511627776-s:=wrap_i64 (by omega) (by omega);have ahX:(u:Int)≤(v:Nat):=by omega
  have ahW:(v:Int)≤j.w.length:=by omega
  rw[mN];unfold jk;simp(disch:=first|omega|(simp only[ai];omega)) only[dT aR,hc,c9,aj,↓eA,eB,aq,seval];rw[aK ⟨ahX,ahW⟩];simp(disch:=first|omega|(simp only[ai];omega)) only[hc,c9,aj,↓eA,eB,aq,seval];refine(wy _).then ?_
  by_cases h1:wv=0
  case neg=>
   simp(disch:=first|omega|(simp only[ai];omega)) only[dF h1,dT (show wv≠0 from h1),aj,↓eA,eB,aq,seval];refine(aw _).then ?_
   simp(disch:=first|omega|(simp only[ai];omega)) only[aj,↓eA,eB,aq,seval];exact fin _ ⟨[],by simp⟩
  have Iy:¬wv≠0:=fun h=>h h1;simp(disch:=first|omega|(simp only[ai];omega)) only[dT h1,dF Iy,hc,c9,aj,↓eA,eB,aq,seval];refine(am _).then ?_
  by_cases h2:av.2=0
  case neg=>
   simp(disch:=first|omega|(simp only[ai];omega)) only[dF h2,dT (show av.2≠0 from h2),aj,↓eA,eB,aq,seval];refine(aw _).then ?_
   simp(disch:=first|omega|(simp only[ai];omega)) only[aj,↓eA,eB,aq,seval];exact fin _ ⟨[],by simp⟩
  have Ux:¬av.2≠0:=fun h=>h h2;by_cases h3:av.1<0
  ·simp(disch:=first|omega|(simp only[ai];omega)) only[dT h2,dF Ux,dT h3,aj,↓eA,eB,aq,seval];refine(aw _).then ?_
   simp(disch:=first|omega|(simp only[ai];omega)) only[aj,↓eA,eB,aq,seval];exact fin _ ⟨[],by simp⟩
  by_cases h4:1099511627776-s<av.1
  ·simp(disch:=first|omega|(simp only[ai];omega)) only[dT h2,dF Ux,dF h3,tq,dT h4,aj,↓eA,eB,aq,seval];refine(aw _).then ?_
   simp(disch:=first|omega|(simp only[ai];omega)) only[aj,↓eA,eB,aq,seval];exact fin _ ⟨[],by simp⟩
  have Lm:IntKind.i64.wrap (s+av.1)=s+av.1:=wrap_i64 (by omega) (by omega);simp(disch:=first|omega|(simp only[ai];omega)) only[dT h2,dF Ux,dF h3,tq,dF h4,Lm,wrap_i64,om,aj,↓eA,eB,aq,seval];refine⟨i+1,⟨by omega,by rw[xl];omega,fun x hx=>?_⟩,by omega,.inl ⟨?_,rfl⟩⟩
  ·rw[kN hc]at hx;rcases List.mem_append.1 hx with hx|hx
   ·exact hg x hx
   ·rw[List.mem_singleton.1 hx];exact hgd h1 h2
  ·rw[xl];simp only[↓eA,eB,aq,seval];try rfl
 clear e4 e9 uO;rintro E S2 ⟨⟨e4,e9,uO⟩,hg,cO⟩;rw[cO];clear cO S2;have WY:=Us.WY hg;have cb:=fun S=>PN j.p hj.f.ok.1 hj.f.zns j.t (j.tx.map fk) hj.f.ok.2.1 hj.f.ok.2.2.1 hj.f.cb j.w ps (by omega) S;have qt:=fun S=>Tu j hj (by omega) S;have rq:=fun S=>MU j hj (by omega) S;have hup:=abf (j:=j) ps;simp only[dV,b9]at cb qt rq;obtain⟨s,Eb⟩:∃s,s=fW (ps.map (wY j)):=⟨_,rfl⟩;rw[←Eb]at uO;have zb:=e4;rw[mN]at zb;unfold jk at zb;refine cm (fun E S'=>(E.get 4=c4∧E.get 10= .int .i64 s)∧wI j.p j.t j.w ps=0∧S'=S) ?_ ?_
 ·intro K hK;simp(disch:=first|omega|(simp only[ai];omega)) only[zb,e9,aj,↓eA,eB,aq,seval];refine(cb _).then ?_
  by_cases hk:wI j.p j.t j.w ps=0
  ·simp(disch:=first|omega|(simp only[ai];omega)) only[dT hk,dF (show ¬wI j.p j.t j.w ps≠0 from fun h=>h hk),aj,↓eA,eB,aq,seval];exact hK _ _ ⟨⟨e4,uO⟩,hk,rfl⟩
  ·simp(disch:=first|omega|(simp only[ai];omega)) only[dF hk,dT (show wI j.p j.t j.w ps≠0 from hk),aj,↓eA,eB,aq,seval];refine(aw _).then ?_
   simp(disch:=first|omega|(simp only[ai];omega)) only[aj,↓eA,eB,aq,seval];exact fin _ ⟨[],by simp⟩
 clear e4 e9 uO zb;rintro E S2 ⟨⟨e4,uO⟩,hk,cO⟩;rw[cO];clear cO S2;rw[hk]at hup;rw[mN]at e4;unfold jk at e4;simp(disch:=first|omega|(simp only[ai];omega)) only[e4,aj,↓eA,eB,aq,seval];refine ak.mono (qt _) ?_;rintro _ S2 ⟨⟨l,px,q,e,rfl,hq,hle⟩,cO⟩;rw[cO];clear cO S2;simp(disch:=first|omega|(simp only[ai];omega)) only[qR,e4,aj,↓eA,eB,aq,seval];refine ak.mono (rq _) ?_;rintro _ S2 ⟨⟨l2,px2,q2,e2,rfl,Ed⟩,cO⟩;rw[cO];clear cO S2;obtain rfl:=hq.eq Ed;have hee:e=e:=rfl;by_cases he:e=0
 ·have hqs:q.1≤s:=by rw[Eb];exact hle he _ WY hup
  simp(disch:=first|omega|(simp only[ai];omega)) only[qR,e4,uO,dT hee,dT he,dF (show ¬e≠0 from fun h=>h he),dT hqs,aj,↓eA,eB,aq,seval];refine(aw _).then ?_
  simp(disch:=first|omega|(simp only[ai];omega)) only[aj,↓eA,eB,aq,seval];exact fin _ ⟨_,rfl⟩
 ·simp(disch:=first|omega|(simp only[ai];omega)) only[qR,e4,uO,dT hee,dF he,dT (show e≠0 from he),aj,↓eA,eB,aq,seval];refine(aw _).then ?_
  simp(disch:=first|omega|(simp only[ai];omega)) only[aj,↓eA,eB,aq,seval];exact fin _ ⟨_,rfl⟩
end Go.Proofs.YtfgkgmmnldocaaaGreatDoor
namespace Go.Proofs.YtfgkgmmnldocaaaGreatDoor
open Go Go.AL
variable[Go.AL.Mode][Go.AL.bR]
theorem txO:ba Tryz.prog 9 eW (fun _=>True):=ba.as (ba.str (by kernel_rfl)) eW (fun _=>True) (fun p:bS=>p) (fun _=>rfl) (fun _ _=>trivial)
theorem inO:ba Tryz.prog 3 iu (fun _=>True):=ba.as (ba.int (k:=.i64) (by kernel_rfl)) iu (fun _=>True) (fun p:Int=>p) (fun _=>rfl) (fun _ _=>trivial)
theorem acW:ba Tryz.prog 70 (fun l:List bS=>[.sl 1 (l.map eW)]) (fun _=>True):=
 ba.as (ba.slice (q:=9) (sz:=1) (by kernel_rfl) (by kernel_rfl) (by omega) (fun _=>rfl) txO) (fun l:List bS=>[.sl 1 (l.map eW)]) (fun _=>True) (fun p=>p) (fun _=>rfl) (fun _ _=>trivial)
theorem ahJ:ba Tryz.prog 82 (fun l:List Int=>[.sl 1 (l.map iu)]) (fun _=>True):=
 ba.as (ba.slice (q:=3) (sz:=1) (by kernel_rfl) (by kernel_rfl) (by omega) (fun _=>rfl) inO) (fun l:List Int=>[.sl 1 (l.map iu)]) (fun _=>True) (fun p=>p) (fun _=>rfl) (fun _ _=>trivial)
theorem shO:ba Tryz.prog 177 (rT) (fun _=>True):=
 ba.as (ba.struct Tryz.underlying177 (by kernel_rfl) (bZ.cons (ba.int (k:=.i64) (by kernel_rfl)) (bZ.one (ba.int (k:=.i64) (by kernel_rfl))))) (rT) (fun _=>True) (fun p:Int×Int=>(p:Int×Int)) (fun _=>rfl) (fun _ _=>trivial)
theorem aht:ba Tryz.prog 63 (fun l:List ((Int×Int))=>[.sl 2 (l.map rT)]) (fun _=>True):=
 ba.as (ba.slice (q:=177) (sz:=2) (by kernel_rfl) (by kernel_rfl) (by omega) (fun _=>rfl) shO) (fun l:List ((Int×Int))=>[.sl 2 (l.map rT)]) (fun _=>True) (fun p=>p) (fun _=>rfl) (fun _ _=>trivial)
theorem znO:ba Tryz.prog 65 (fun z:Int×List (Int×Int)=>[.int .i64 z.1,.sl 2 (z.2.map rT)]) (fun _=>True):=
 ba.as (ba.struct Tryz.underlying65 (by kernel_rfl) (bZ.cons (ba.int (k:=.i64) (by kernel_rfl)) (bZ.one aht))) (fun z:Int×List (Int×Int)=>[.int .i64 z.1,.sl 2 (z.2.map rT)]) (fun _=>True) (fun p:Int×List (Int×Int)=>(p:Int×List (Int×Int))) (fun _=>rfl) (fun _ _=>trivial)
theorem ajS:ba Tryz.prog 137 (dG) (fun _=>True):=
 ba.as (ba.struct Tryz.underlying137 (by kernel_rfl) (bZ.cons (ba.str (by kernel_rfl)) (bZ.cons (ba.str (by kernel_rfl)) (bZ.cons (ba.str (by kernel_rfl)) (bZ.one znO))))) (dG) (fun _=>True) (fun p:bS×bS×bS×Int×List (Int×Int)=>(lX.mk p.1 p.2.1 p.2.2.1 p.2.2.2.1 p.2.2.2.2:lX)) (fun _=>rfl) (fun _ _=>trivial)
theorem af_:ba Tryz.prog 22 (fun l:List lX=>[.sl 5 (l.map dG)]) (fun _=>True):=
 ba.as (ba.slice (q:=137) (sz:=5) (by kernel_rfl) (by kernel_rfl) (by omega) (fun _=>rfl) ajS) (fun l:List lX=>[.sl 5 (l.map dG)]) (fun _=>True) (fun p=>p) (fun _=>rfl) (fun _ _=>trivial)
theorem ajw:ba Tryz.prog 200 (cZ) (fun _=>True):=
 ba.as (ba.struct Tryz.underlying200 (by kernel_rfl) (bZ.cons (ba.str (by kernel_rfl)) (bZ.cons (ba.str (by kernel_rfl)) (bZ.one (ba.int (k:=.i64) (by kernel_rfl)))))) (cZ) (fun _=>True) (fun p:bS×bS×Int=>(kB.mk p.1 p.2.1 p.2.2:kB)) (fun _=>rfl) (fun _ _=>trivial)
theorem aeM:ba Tryz.prog 23 (fun l:List kB=>[.sl 3 (l.map cZ)]) (fun _=>True):=
 ba.as (ba.slice (q:=200) (sz:=3) (by kernel_rfl) (by kernel_rfl) (by omega) (fun _=>rfl) ajw) (fun l:List kB=>[.sl 3 (l.map cZ)]) (fun _=>True) (fun p=>p) (fun _=>rfl) (fun _ _=>trivial)
theorem plO:ba Tryz.prog 25 (fun p:fO=>[.sl 5 (p.1.map dG),.sl 3 (p.2.map cZ)]) (fun _=>True):=
 ba.as (ba.struct Tryz.underlying25 (by kernel_rfl) (bZ.cons af_ (bZ.one aeM))) (fun p:fO=>[.sl 5 (p.1.map dG),.sl 3 (p.2.map cZ)]) (fun _=>True) (fun p:List lX×List kB=>(p:fO)) (fun _=>rfl) (fun _ _=>trivial)
theorem pdO:ba Tryz.prog 61 (nI) (fun _=>True):=
 ba.as (ba.struct Tryz.underlying61 (by kernel_rfl) (bZ.cons (ba.int (k:=.i64) (by kernel_rfl)) (bZ.cons (ba.int (k:=.i64) (by kernel_rfl)) (bZ.one (ba.int (k:=.i64) (by kernel_rfl)))))) (nI) (fun _=>True) (fun p:Int×Int×Int=>(Pd.mk p.1 p.2.1 p.2.2:Pd)) (fun _=>rfl) (fun _ _=>trivial)
theorem ahu:ba Tryz.prog 75 (gl) (fun _=>True):=
 ba.as (ba.struct Tryz.underlying75 (by kernel_rfl) (bZ.cons (ba.str (by kernel_rfl)) (bZ.cons (ba.int (k:=.i64) (by kernel_rfl)) (bZ.cons (ba.int (k:=.i64) (by kernel_rfl)) (bZ.cons (ba.str (by kernel_rfl)) (bZ.cons (ba.str (by kernel_rfl)) (bZ.cons (ba.int (k:=.i64) (by kernel_rfl)) (bZ.one (ba.int (k:=.i64) (by kernel_rfl)))))))))) (gl) (fun _=>True) (fun p:bS×Int×Int×bS×bS×Int×Int=>(Sg.mk p.1 p.2.1 p.2.2.1 p.2.2.2.1 p.2.2.2.2.1 p.2.2.2.2.2.1 p.2.2.2.2.2.2:Sg)) (fun _=>rfl) (fun _ _=>trivial)
theorem ahd:ba Tryz.prog 77 (cR) (fun _=>True):=
 ba.as (ba.struct Tryz.underlying77 (by kernel_rfl) (bZ.cons ahu (bZ.one (ba.str (by kernel_rfl))))) (cR) (fun _=>True) (fun p:Sg×bS=>(gv.mk p.1 p.2:gv)) (fun _=>rfl) (fun _ _=>trivial)
theorem acU:ba Tryz.prog 32 (fun l:List gv=>[.sl 8 (l.map cR)]) (fun _=>True):=
 ba.as (ba.slice (q:=77) (sz:=8) (by kernel_rfl) (by kernel_rfl) (by omega) (fun _=>rfl) ahd) (fun l:List gv=>[.sl 8 (l.map cR)]) (fun _=>True) (fun p=>p) (fun _=>rfl) (fun _ _=>trivial)
theorem frO:ba Tryz.prog 67 (fK) (fun _=>True):=
 ba.as (ba.struct Tryz.underlying67 (by kernel_rfl) (bZ.cons (ba.str (by kernel_rfl)) (bZ.cons (ba.str (by kernel_rfl)) (bZ.cons (ba.str (by kernel_rfl)) (bZ.cons (ba.str (by kernel_rfl)) (bZ.cons (ba.str (by kernel_rfl)) (bZ.cons (ba.bool (by kernel_rfl)) (bZ.cons (ba.int (k:=.i64) (by kernel_rfl)) (bZ.cons (ba.int (k:=.i64) (by kernel_rfl)) (bZ.one (ba.int (k:=.i64) (by kernel_rfl)))))))))))) (fK) (fun _=>True) (fun p:bS×bS×bS×bS×bS×Bool×Int×Int×Int=>(Fr.mk p.1 p.2.1 p.2.2.1 p.2.2.2.1 p.2.2.2.2.1 p.2.2.2.2.2.1 p.2.2.2.2.2.2.1 p.2.2.2.2.2.2.2.1 p.2.2.2.2.2.2.2.2:Fr)) (fun _=>rfl) (fun _ _=>trivial)
theorem ajp:ba Tryz.prog 26 (fun l:List Fr=>[.sl 9 (l.map fK)]) (fun _=>True):=
 ba.as (ba.slice (q:=67) (sz:=9) (by kernel_rfl) (by kernel_rfl) (by omega) (fun _=>rfl) frO) (fun l:List Fr=>[.sl 9 (l.map fK)]) (fun _=>True) (fun p=>p) (fun _=>rfl) (fun _ _=>trivial)
theorem ajy:ba Tryz.prog 81 b8.row (fun _=>True):=ba.ahz fun B ih=>by
 have ihB:fJ B Tryz.prog 79 (fun l:List b8=>[.sl 8 (l.map b8.row)]) (fun l=>∀a∈l,True):=(fJ.slice (q:=81) (sz:=8) (by kernel_rfl) (by kernel_rfl) (by omega) (fun c=>by cases c;rfl) ih).mono (dB _);exact fJ.as (fJ.struct Tryz.underlying81 (by kernel_rfl) (gz.cons (ba.El (ba.int (k:=.i64) (by kernel_rfl)) B) (gz.cons ihB (gz.cons (ba.El (ba.int (k:=.i64) (by kernel_rfl)) B) (gz.cons (ba.El (ba.int (k:=.i64) (by kernel_rfl)) B) (gz.cons (ba.El pdO B) (gz.one (ba.El acW B)))))))) b8.row (fun _=>True) (fun p:Int×List b8×Int×Int×Pd×List bS=>b8.mk p.1 p.2.1 p.2.2.1 p.2.2.2.1 p.2.2.2.2.1 p.2.2.2.2.2) (fun p=>by simp only[b8.row,b8.fI,nI,aS,a8]) (fun _ _=>trivial)
theorem ahA:ba Tryz.prog 146 (mK) (fun _=>True):=
 ba.as (ba.struct Tryz.underlying146 (by kernel_rfl) (bZ.cons (ba.str (by kernel_rfl)) (bZ.one (ba.int (k:=.i64) (by kernel_rfl))))) (mK) (fun _=>True) (fun p:bS×Int=>(p:bS×Int)) (fun _=>rfl) (fun _ _=>trivial)
theorem adk:ba Tryz.prog 83 (fun l:List ((bS×Int))=>[.sl 2 (l.map mK)]) (fun _=>True):=
 ba.as (ba.slice (q:=146) (sz:=2) (by kernel_rfl) (by kernel_rfl) (by omega) (fun _=>rfl) ahA) (fun l:List ((bS×Int))=>[.sl 2 (l.map mK)]) (fun _=>True) (fun p=>p) (fun _=>rfl) (fun _ _=>trivial)
theorem ahv:ba Tryz.prog 85 (cx) (fun _=>True):=
 ba.as (ba.struct Tryz.underlying85 (by kernel_rfl) (bZ.cons (ba.int (k:=.i64) (by kernel_rfl)) (bZ.cons ajy (bZ.cons ahJ (bZ.cons (ba.int (k:=.i64) (by kernel_rfl)) (bZ.cons (ba.int (k:=.i64) (by kernel_rfl)) (bZ.cons (ba.int (k:=.i64) (by kernel_rfl)) (bZ.cons (ba.int (k:=.i64) (by kernel_rfl)) (bZ.one adk))))))))) (cx) (fun _=>True) (fun p:Int×b8×List Int×Int×Int×Int×Int×List (bS×Int)=>(o9.mk p.1 p.2.1 p.2.2.1 p.2.2.2.1 p.2.2.2.2.1 p.2.2.2.2.2.1 p.2.2.2.2.2.2.1 p.2.2.2.2.2.2.2:o9)) (fun _=>rfl) (fun _ _=>trivial)
theorem MO(r:o9):(cx r).length=15:=by
 obtain⟨n,⟨k,l,a,b,p,tx⟩,comb,mn,mx,ch,rf,jb⟩:=r;rfl
theorem ada:ba Tryz.prog 27 (fun l:List o9=>[.sl 15 (l.map cx)]) (fun _=>True):=
 ba.as (ba.slice (q:=85) (sz:=15) (by kernel_rfl) (by kernel_rfl) (by omega) (MO) ahv) (fun l:List o9=>[.sl 15 (l.map cx)]) (fun _=>True) (fun p=>p) (fun _=>rfl) (fun _ _=>trivial)
theorem ahC:ba Tryz.prog 171 (ig) (fun _=>True):=
 ba.as (ba.struct Tryz.underlying171 (by kernel_rfl) (bZ.cons (ba.str (by kernel_rfl)) (bZ.one (ba.str (by kernel_rfl))))) (ig) (fun _=>True) (fun p:bS×bS=>(p:bS×bS)) (fun _=>rfl) (fun _ _=>trivial)
theorem adz:ba Tryz.prog 93 (fun l:List ((bS×bS))=>[.sl 2 (l.map ig)]) (fun _=>True):=
 ba.as (ba.slice (q:=171) (sz:=2) (by kernel_rfl) (by kernel_rfl) (by omega) (fun _=>rfl) ahC) (fun l:List ((bS×bS))=>[.sl 2 (l.map ig)]) (fun _=>True) (fun p=>p) (fun _=>rfl) (fun _ _=>trivial)
theorem ahy:ba Tryz.prog 95 (eP) (fun _=>True):=
 ba.as (ba.struct Tryz.underlying95 (by kernel_rfl) (bZ.cons (ba.int (k:=.i64) (by kernel_rfl)) (bZ.cons adz (bZ.one (ba.int (k:=.i64) (by kernel_rfl)))))) (eP) (fun _=>True) (fun p:Int×List (bS×bS)×Int=>(Gj.mk p.1 p.2.1 p.2.2:Gj)) (fun _=>rfl) (fun _ _=>trivial)
theorem ade:ba Tryz.prog 28 (fun l:List Gj=>[.sl 3 (l.map eP)]) (fun _=>True):=
 ba.as (ba.slice (q:=95) (sz:=3) (by kernel_rfl) (by kernel_rfl) (by omega) (fun _=>rfl) ahy) (fun l:List Gj=>[.sl 3 (l.map eP)]) (fun _=>True) (fun p=>p) (fun _=>rfl) (fun _ _=>trivial)
theorem ahf:ba Tryz.prog 125 (fk) (fun _=>True):=
 ba.as (ba.struct Tryz.underlying125 (by kernel_rfl) (bZ.cons (ba.str (by kernel_rfl)) (bZ.cons (ba.int (k:=.i64) (by kernel_rfl)) (bZ.cons (ba.str (by kernel_rfl)) (bZ.cons (ba.int (k:=.i64) (by kernel_rfl)) (bZ.cons (ba.int (k:=.i64) (by kernel_rfl)) (bZ.cons (ba.int (k:=.i64) (by kernel_rfl)) (bZ.one acW)))))))) (fk) (fun _=>True) (fun p:bS×Int×bS×Int×Int×Int×List bS=>(Tx.mk p.1 p.2.1 p.2.2.1 p.2.2.2.1 p.2.2.2.2.1 p.2.2.2.2.2.1 p.2.2.2.2.2.2:Tx)) (fun _=>rfl) (fun _ _=>trivial)
theorem ac1:ba Tryz.prog 29 (fun l:List Tx=>[.sl 7 (l.map fk)]) (fun _=>True):=
 ba.as (ba.slice (q:=125) (sz:=7) (by kernel_rfl) (by kernel_rfl) (by omega) (fun _=>rfl) ahf) (fun l:List Tx=>[.sl 7 (l.map fk)]) (fun _=>True) (fun p=>p) (fun _=>rfl) (fun _ _=>trivial)
theorem ahg:ba Tryz.prog 31 (fun t:gk×List Tx=>b9 t.1 (t.2.map fk)) (fun _=>True):=
 ba.as (ba.struct Tryz.underlying31 (by kernel_rfl) (bZ.cons ajp (bZ.cons ada (bZ.cons ade (bZ.one ac1))))) (fun t:gk×List Tx=>b9 t.1 (t.2.map fk)) (fun _=>True) (fun p:List Fr×List o9×List Gj×List Tx=>((gk.mk p.1 p.2.1 p.2.2.1,p.2.2.2):gk×List Tx)) (fun _=>rfl) (fun _ _=>trivial)
theorem jrO:ba Tryz.prog 34 (jk) (fun _=>True):=
 ba.as (ba.struct Tryz.underlying34 (by kernel_rfl) (bZ.cons plO (bZ.cons ahg (bZ.cons acU (bZ.cons (ba.str (by kernel_rfl)) (bZ.one (ba.int (k:=.i64) (by kernel_rfl)))))))) (jk) (fun _=>True) (fun p:fO×(gk×List Tx)×List gv×bS×Int=>(Jr.mk p.1 p.2.1.1 p.2.1.2 p.2.2.1 p.2.2.2.1 p.2.2.2.2:Jr)) (fun _=>rfl) (fun _ _=>trivial)
theorem nE(sz:Nat)(rows:List (List V))(h:∀r∈rows,1≤bD r):rows.length≤(V.sl sz rows).ij:=by
 have:=qF rows h;simp only[V.ij];omega
theorem oJ{v:V}(vs:List V)(h:1≤v.ij):1≤bD (v::vs):=by
 simp only[bD];omega
theorem BO(r:o9):r.comb.length≤bD (cx r)∧r.jb.length≤bD (cx r)∧1≤bD (cx r):=by
 have h1:(V.sl 1 (r.comb.map iu)).ij≤bD (cx r):=ek (by simp[cx]);have h2:(V.sl 2 (r.jb.map mK)).ij≤bD (cx r):=ek (by simp[cx]);have h3:=nE 1 (r.comb.map iu) (fun x hx=>by obtain⟨n,_,rfl⟩:=List.mem_map.1 hx;exact oJ _ (by simp[V.ij]));have h4:=nE 2 (r.jb.map mK) (fun x hx=>by obtain⟨n,_,rfl⟩:=List.mem_map.1 hx;exact oJ _ (by simp[V.ij]));have h5:(V.int .i64 r.n).ij≤bD (cx r):=ek (by simp[cx]);rw[aP]at h3 h4;simp only[V.ij]at h5;exact⟨by omega,by omega,by omega⟩
theorem BR(r:Gj):r.gO.length≤bD (eP r)∧1≤bD (eP r):=by
 have h1:(V.sl 2 (r.gO.map ig)).ij≤bD (eP r):=ek (by simp[eP]);have h3:=nE 2 (r.gO.map ig) (fun x hx=>by obtain⟨n,_,rfl⟩:=List.mem_map.1 hx;exact oJ _ (by simp[V.ij]));have h5:(V.int .i64 r.n).ij≤bD (eP r):=ek (by simp[eP]);rw[aP]at h3;simp only[V.ij]at h5;exact⟨by omega,by omega⟩
theorem L3(x:Tx):x.fr.length≤bD (fk x):=by
 have h1:(V.sl 1 (x.fr.map eW)).ij≤bD (fk x):=ek (by simp[fk]);have h3:=nE 1 (x.fr.map eW) (fun x hx=>by obtain⟨n,_,rfl⟩:=List.mem_map.1 hx;exact oJ _ (by simp[V.ij]));rw[aP]at h3;omega
theorem LY{c:Jr}(h:bD (jk c)≤1048576):TSm c.t∧∀x∈c.tx,x.fr.length≤1000000000:=by
 have h1:(V.sl 9 (c.t.bE.map fK)).ij≤bD (jk c):=ek (by simp[jk]);have h2:(V.sl 15 (c.t.rules.map cx)).ij≤bD (jk c):=ek (by simp[jk]);have h3:(V.sl 3 (c.t.cS.map eP)).ij≤bD (jk c):=ek (by simp[jk]);have h4:(V.sl 7 (c.tx.map fk)).ij≤bD (jk c):=ek (by simp[jk]);have g1:=nE 9 (c.t.bE.map fK) (fun x hx=>by obtain⟨n,_,rfl⟩:=List.mem_map.1 hx;exact oJ _ (by simp[V.ij]));have g2:=nE 15 (c.t.rules.map cx) (fun x hx=>by obtain⟨n,_,rfl⟩:=List.mem_map.1 hx;exact(BO n).2.2);have g3:=nE 3 (c.t.cS.map eP) (fun x hx=>by obtain⟨n,_,rfl⟩:=List.mem_map.1 hx;exact(BR n).2);rw[aP]at g1 g2 g3;refine⟨⟨by omega,by omega,by omega,fun r hr=>?_,fun r hr=>?_⟩,fun x hx=>?_⟩
 ·have:=k0 (rows:=c.t.rules.map cx) (r:=cx r) (kT hr);have:=BO r;simp only[V.ij]at h2;omega
 ·have:=k0 (rows:=c.t.cS.map eP) (r:=eP r) (kT hr);have:=BR r;simp only[V.ij]at h3;omega
 ·have:=k0 (rows:=c.tx.map fk) (r:=fk x) (kT hx);have:=L3 x;simp only[V.ij]at h4;omega
end Go.Proofs.YtfgkgmmnldocaaaGreatDoor
