/- Td3 -/
import Derived.Test.YtfgkgmmnldocaaaGreatDoorZTd1
set_option linter.unusedSectionVars false
set_option linter.unusedSimpArgs false
set_option linter.unusedVariables false
set_option maxHeartbeats 8000000
set_option maxRecDepth 4000
namespace Go.Proofs.YtfgkgmmnldocaaaGreatDoor
open Go Go.AL
variable[Go.AL.Mode][Go.AL.bR]
theorem FX{j:Jr}(hj:Vn j){i:Nat}{e:List Pa}(h:rM j i e):Nn (e.map (·.am)):=by
 induction h with
 |nil=>exact fun a h=>by simp at h
 |cons _ _ h3 _ ih=>
  intro a ha;rw[bd]at ha;rcases List.mem_cons.1 ha with rfl|ha
  ·exact hj.am _ _ _ h3
  ·exact ih a ha
theorem aai{a b:List Pa}(h:Nn (a.map (·.am)))(k:Nn (b.map (·.am))):Nn ((a++b).map (·.am)):=fun x hx=>by
 rw[bF]at hx;rcases List.mem_append.1 hx with hx|hx
 ·exact h x hx
 ·exact k x hx
theorem uQ(a b:List Pa):fW (a++b)=fW a+fW b:=by
 unfold fW;rw[bF,rD]
theorem rC(x:Pa)(e:List Pa):fW (x::e)=x.am+fW e:=rfl
theorem AW{l:List Pa}(h:Nn (l.map (·.am))):0≤fW l:=nM h
def ajU(j:Jr)(i:Nat)(v:Int):Prop:=(v= -1∧¬ny j i)∨((0≤v∧v≤8796093022208)∧ny j i∧∀e,rM j i e→v≤fW e)
def td(lf:Nat→Int)(n:Nat):List (List V):=(List.range n).map fun i=>[.int .i64 (lf i)]
theorem Cp{lf:Nat→Int}{n i:Nat}(h:i<n):(td lf n)[i]?=some [.int .i64 (lf i)]:=by
 unfold td;rw[bn,kU h];rfl
def OlB(lo b:Nat)(X:ae)(v:V)(li:List Pa):Prop:=(v= .aM∧li=[])∨∃c aI,(c<lo∧c≠b)∧v= .cU c aI 0 li.length∧X.bq c aI=some (38,4,li.map c9)
structure Vk(j:Jr)(lo b:Nat)(ov lv:V)(lf:Nat→Int)(X:ae):Prop where
 lt:b<lo∧lo≤X.length
 opt:∃oo rows to,ov= .cU oo 0 0 j.w.length∧(oo<lo∧oo≠b)∧X.bq oo 0=some (to,1,rows)∧∀i,i<j.w.length→∃v li,rows[i]?=some [v]∧OlB lo b X v li∧li.length≤100000∧∀x,x∈li↔∃k,i<k∧k≤j.w.length∧x∈pL j i k
 H6:∃ol tl,lv= .cU ol 0 0 (j.w.length+1)∧(ol<lo∧ol≠b)∧X.bq ol 0=some (tl,1,td lf (j.w.length+1))
 le:∀i,i≤j.w.length→ajU j i (lf i)
theorem Vk.pF{j:Jr}{lo b:Nat}{ov lv:V}{lf:Nat→Int}{X X':ae}(h:Vk j lo b ov lv lf X){D:Nat→Prop}(hf:f_ D X X')(hd:∀q,D q→q=b∨lo≤q):Vk j lo b ov lv lf X':=by
 obtain⟨h1,⟨oo,rows,to,a1,a2,a3,a4⟩,⟨ol,tl,c1,c2,c3⟩,h4⟩:=h;have nd:∀q,q<lo→q≠b→¬D q:=fun q k1 k2 k3=>by rcases hd q k3 with k|k<;>omega
 refine⟨⟨h1.1,dU h1.2 hf.1⟩,⟨oo,rows,to,a1,a2,hf.obj a3 (nd _ a2.1 a2.2),fun i hi=>?_⟩,⟨ol,tl,c1,c2,hf.obj c3 (nd _ c2.1 c2.2)⟩,h4⟩;obtain⟨v,li,b1,b2,b3⟩:=a4 i hi;refine⟨v,li,b1,?_,b3⟩;rcases b2 with b2|⟨c,aI,e1,e2,e3⟩
 ·exact .inl b2
 ·exact .inr ⟨c,aI,e1,e2,hf.obj e3 (nd _ e1.1 e1.2)⟩
theorem T5{t:gk}{a b:List Pa}(h:pT t (a++b)=true):pT t a=true:=by
 unfold pT at*;rw[List.all_append]at h;exact(Bool.and_eq_true_iff.1 h).1
theorem HQ:∀{a b p:List o9},Kd p (a++b)=true→Kd p a=true
 |[],_,_,_=>rfl
 |r::a,b,p,h=>by
  rw[aS,Kd,aW]at h;rw[Kd,aW];exact⟨h.1,HQ h.2⟩
theorem TO{t:gk}{a b:List Pa}(h:yl t (a++b)=0):yl t a=0:=by
 unfold yl at*;by_cases h1:pT t (a++b)=false
 ·rw[aK h1]at h;cases h
 rw[aC h1]at h;have h2:=T5 (a:=a) (b:=b) (t:=t) (by simpa using h1);rw[aC (by rw[h2];simp)];by_cases h3:Kd [] (xb t (a++b))=true
 ·unfold xb kQ at h3;rw[bF,bF]at h3;have h4:=HQ h3;unfold xb kQ;rw[aK h4]
 ·rw[aC h3]at h;cases h
theorem Z7{j:Jr}{a b:List Pa}(h:Bc j (a++b)=true):yl j.t a=0:=by
 unfold Bc at h;rw[aW,aL]at h;obtain⟨_,_,_,_,h4,_⟩:=wH h.1;exact TO h4
theorem EU{j:Jr}{a:List Pa}(h:Bc j a=true):okF (Bs j) j.tx (fW a):=by
 unfold Bc at h;rw[aW,aL,aL]at h;exact h.2
theorem Kf(σ:kL)(j:Jr)(hj:JrF j)(l:List Pa)(hl:l.length≤8)(x:Pa){ty:TypeId}{b lo:Nat}{ov lv pv:V}{sum:Int}{bo:Option BB}(S:ae)(Lo:zD lo S pv l [])(ho:S.bq b 0=some (ty,19,[kE j ov lv pv sum bo]))(E:Env)(Q:Exit→Env→ae→Prop)
 (e0:E.get 0= .ptr b 0 0 0)(e3:E.get 3= .bK (c9 x))(hQ:∀E' T,E'.get 4= .bool (decide (yl j.t (l++[x])=0))→Q .ret E' (S++T)):ji Tryz.prog 101 σ AR Q E S:=by
 obtain⟨h1,h2,h3,h4,h5,h6,h7⟩:=hj.ok;have cl:=IY Lo.H6 (by simp;omega);have mx:=fun S=>HX j.t (j.tx.map fk) h2 h3 hj.cb (l++[x]) (by simp;omega) S;have eI:=ho;unfold kE at eI;simp only[b9,jk,aS,a8]at mx eI;unfold c9 at e3;unfold AR;simp(disch:=first|omega|(simp only[ai];omega)) only[e0,e3,eI,aj,↓eA,eB,aq,seval];repeat' with_reducible refine ag ?_ ?_
 all_goals
  refine ak.mono cl ?_;rintro cv S2 ⟨oW,X,rfl⟩;have xq:=fc (X:=X) eI;simp(disch:=first|omega|(simp only[ai];omega)) only[eI,xq,aj,↓eA,eB,aq,seval];repeat' with_reducible refine ag ?_ ?_
  all_goals
   refine oW.app (r:=c9 x) (by simp) (by simp;omega) fun v3 S3 oq mU _=>?_;have ai8:=gW ho;have nV:=mU.obj xq fun k=>by have:=(oW.lt k).2;omega
   obtain⟨T,rfl⟩:=mU.ext ⟨X,rfl⟩ fun q hq=>(oW.lt hq).2;simp(disch:=first|omega|(simp only[ai];omega)) only[xq,nV,aj,↓eA,eB,aq,seval];refine(Fh (args:=[.agg [.sl 9 (j.t.bE.map fK),.sl 15 (j.t.rules.map cx),.sl 3 (j.t.cS.map eP),.sl 7 (j.tx.map fk)],v3]) (mx (kill _)) ⟨.bX rfl,lz.Kl (by rw[bF];exact oq) (z8 _),trivial⟩).then ?_
   simp(disch:=first|omega|(simp only[ai];omega)) only[aj,↓eA,eB,aq,seval];exact hQ _ _ rfl
theorem SG(j:Jr)(hj:Vn j)(l:List Pa)(hl:l.length≤8)(ha:Nn (l.map (·.am)))(x:Pa){i k:Nat}(hx:x∈pL j i k)(hk:k≤j.w.length){ty:TypeId}{b lo:Nat}{ov lv pv:V}{lf:Nat→Int}{bo:Option BB}(Ut:A_ j bo)(S:ae)(dq:Vk j lo b ov lv lf S)(Lo:zD lo S pv l [])(C7:fW l≤8796093022208)
 (ho:S.bq b 0=some (ty,19,[kE j ov lv pv (fW l) bo])):
 ak Tryz.prog 72 [.ptr b 0 0 0,.agg (c9 x)] S fun r S'=>(∃bb,r= .bool bb∧(bb=false→∀e,rM j k e→nz j bo (l++x::e)))∧S'=S:=by
 refine ak.bp Tryz.func72 Qh fun hn=>?_;refine ak.fin Tryz.func72 Qh (U rfl) fun σ b_=>?_;have hxa:=hj.am _ _ _ hx;have Ip:x.to=(k:Nat):=by
  obtain⟨y,_,rfl⟩:=List.mem_map.1 hx;rfl
 have aja:=AW ha;have out:∀(X:ae) (bb:Bool),(∃T,X=S++T)→(bb=false→∀e,rM j k e→nz j bo (l++x::e))→∃r1 S1,mV X S1∧jd X S1 (.bool bb) r1∧S.length≤S1.length∧(∃bb,r1= .bool bb∧(bb=false→∀e,rM j k e→nz j bo (l++x::e)))∧S1=S:=fun X bb hX h=>by
  obtain⟨T,rfl⟩:=hX;exact⟨_,S,hn.dO _,.bX rfl,ah _,⟨bb,rfl,h⟩,rfl⟩
 obtain⟨ol,tl,rfl,w6,qW⟩:=dq.H6;have nW:=Cp (lf:=lf) (show k<j.w.length+1 by omega);have hle:=dq.le k hk;have hlen:(td lf (j.w.length+1)).length=j.w.length+1:=by unfold td;simp
 have Sw:(k:Int)<((j.w.length+1:Nat):Int):=by omega
 have Uu:∃b1 b2 b3 b4 b5,l9 j bo=[b1,b2,b3,b4,b5]:=by
  cases bo with
  |none=>exact⟨_,_,_,_,_,rfl⟩
  |some x=>exact⟨_,_,_,_,_,rfl⟩
 obtain⟨b1,b2,b3,b4,b5,oX⟩:=Uu;have eI:=ho;unfold kE at eI;rw[oX]at eI;simp only[jk,aS,a8]at eI;obtain⟨rest,nU⟩:∃rest,rest=lf k:=⟨_,rfl⟩;rw[←nU]at nW hle;clear nU;by_cases Ec:rest= -1
 ·simp(disch:=first|omega|(simp only[ai];omega)) only[kK,c9,Ip,eI,qW,nW,hlen,dT Ec,aj,↓eA,eB,aq,seval];refine out S false ⟨[],by simp⟩ fun _ e he=>?_;rcases hle with⟨_,h⟩|⟨h,_⟩
  ·exact(h ⟨e,he⟩).elim
  ·omega
 obtain⟨⟨OK,hr3⟩,_,hr4⟩:(0≤rest∧rest≤8796093022208)∧ny j k∧∀e,rM j k e→rest≤fW e:=by
  rcases hle with⟨h,_⟩|h
  ·exact(Ec h).elim
  ·exact h
 have adN:∀e,rM j k e→fW l+x.am+rest≤fW (l++x::e):=fun e he=>by
  rw[uQ,rC];have:=hr4 e he;omega
 have tq:IntKind.i64.wrap (fW l+x.am)=fW l+x.am:=wrap_i64 (by omega) (by omega);have Lm:IntKind.i64.wrap (fW l+x.am+rest)=fW l+x.am+rest:=wrap_i64 (by omega) (by omega);by_cases OJ:1099511627776<fW l+x.am+rest
 ·simp(disch:=first|omega|(simp only[ai];omega)) only[kK,c9,Ip,eI,qW,nW,hlen,dF Ec,tq,Lm,dT OJ,aj,↓eA,eB,aq,seval];refine out S false ⟨[],by simp⟩ fun _ e he hp=>?_;have h1:=(EU hp).1;have h2:=adN e he;omega
 have mix:∀E Q,E.get 0= .ptr b 0 0 0→E.get 3= .bK [.int .i64 x.fr,.int .i64 (k:Nat),.int .i64 x.dz,.int .i64 x.am]→(∀E' T,E'.get 4= .bool (decide (yl j.t (l++[x])=0))→Q .ret E' (S++T))→ji Tryz.prog 101 σ AR Q E S:=fun E Q e0 e3 hQ=>Kf σ j hj.f l hl x S Lo ho E Q e0 (by rw[e3];unfold c9;rw[Ip]) hQ;have NN:∀e,rM j k e→decide (yl j.t (l++[x])=0)=false→nz j bo (l++x::e):=fun e he hm hp=>by
  rw[show l++x::e=(l++[x])++e by simp]at hp;rw[dT (Z7 hp)]at hm;cases hm
 have pV:=Lo.H6.len;rw[aP]at pV;have uc:(l.length:Int)+1=((l.length+1:Nat):Int):=by omega
 have vZ:((l.length+1:Nat):Int)+1=((l.length+2:Nat):Int):=by omega
 cases bo with
 |none=>
  simp only[l9,fh,and_true]at oX;obtain⟨rfl,rfl,rfl,rfl,rfl⟩:=oX;simp only[cg]at eI;simp(disch:=first|omega|(simp only[ai];omega)) only[kK,c9,Ip,eI,qW,nW,hlen,dF Ec,tq,Lm,dF OJ,aj,↓eA,eB,aq,seval];refine mix _ _ (by rfl) (by rfl) fun E' T g4=>?_;simp(disch:=first|omega|(simp only[ai];omega)) only[g4,aj,↓eA,eB,aq,seval];exact out _ _ ⟨T,rfl⟩ fun hm e he=>NN e he hm
 |some y=>
  simp only[l9,qR,fh,and_true]at oX;obtain⟨rfl,rfl,rfl,rfl,rfl⟩:=oX;simp only[dX]at eI;obtain⟨hyc,hyl⟩:=Ut y rfl;have CS:=AW (FX hj hyc.1);have C4:fW y.l≤fW l+x.am+rest→∀e,rM j k e→nz j (some y) (l++x::e):=fun h e he hp=>by
   have h1:=EU hp;have h2:=adN e he;have h3:=Cd (fun x hx=>((hj.f.ok.2.2.2.2.1) x hx).1) CS (show fW y.l≤fW (l++x::e) by omega) h1;exact⟨y,rfl,h3.2.1⟩
  obtain⟨dz,O2⟩:∃dz,dz=fW l+x.am+rest:=⟨_,rfl⟩;rw[←O2]at C4 OJ;rw[←O2]at Lm;have Sq:IntKind.i64.wrap (fW l+x.am+rest)=dz:=by rw[←O2];exact Lm
  by_cases h6:(k:Int)<j.w.length
  ·by_cases h7:fW y.l<dz
   ·simp(disch:=first|omega|(simp only[ai];omega)) only[kK,c9,Ip,eI,qW,nW,hlen,dF Ec,tq,Sq,dF OJ,pV,wrap_i64,uc,vZ,dT h6,dT h7,aj,↓eA,eB,aq,seval];exact out S false ⟨[],by simp⟩ fun _=>C4 (by omega)
   by_cases h8:dz=fW y.l
   ·by_cases h9:(y.l.length:Int)≤((l.length+2:Nat):Int)
    ·simp(disch:=first|omega|(simp only[ai];omega)) only[kK,c9,Ip,eI,qW,nW,hlen,dF Ec,tq,Sq,dF OJ,pV,wrap_i64,uc,vZ,dT h6,dF h7,dT h8,dT h9,aj,↓eA,eB,aq,seval];exact out S false ⟨[],by simp⟩ fun _=>C4 (by omega)
    ·simp(disch:=first|omega|(simp only[ai];omega)) only[kK,c9,Ip,eI,qW,nW,hlen,dF Ec,tq,Sq,dF OJ,pV,wrap_i64,uc,vZ,dT h6,dF h7,dT h8,dF h9,aj,↓eA,eB,aq,seval];refine mix _ _ (by rfl) (by rfl) fun E' T g4=>?_;simp(disch:=first|omega|(simp only[ai];omega)) only[g4,aj,↓eA,eB,aq,seval];exact out _ _ ⟨T,rfl⟩ fun hm e he=>NN e he hm
   ·simp(disch:=first|omega|(simp only[ai];omega)) only[kK,c9,Ip,eI,qW,nW,hlen,dF Ec,tq,Sq,dF OJ,pV,wrap_i64,uc,vZ,dT h6,dF h7,dF h8,aj,↓eA,eB,aq,seval];refine mix _ _ (by rfl) (by rfl) fun E' T g4=>?_;simp(disch:=first|omega|(simp only[ai];omega)) only[g4,aj,↓eA,eB,aq,seval];exact out _ _ ⟨T,rfl⟩ fun hm e he=>NN e he hm
  ·by_cases h7:fW y.l<dz
   ·simp(disch:=first|omega|(simp only[ai];omega)) only[kK,c9,Ip,eI,qW,nW,hlen,dF Ec,tq,Sq,dF OJ,pV,wrap_i64,uc,vZ,dF h6,dT h7,aj,↓eA,eB,aq,seval];exact out S false ⟨[],by simp⟩ fun _=>C4 (by omega)
   by_cases h8:dz=fW y.l
   ·by_cases h9:(y.l.length:Int)≤((l.length+1:Nat):Int)
    ·simp(disch:=first|omega|(simp only[ai];omega)) only[kK,c9,Ip,eI,qW,nW,hlen,dF Ec,tq,Sq,dF OJ,pV,wrap_i64,uc,vZ,dF h6,dF h7,dT h8,dT h9,aj,↓eA,eB,aq,seval];exact out S false ⟨[],by simp⟩ fun _=>C4 (by omega)
    ·simp(disch:=first|omega|(simp only[ai];omega)) only[kK,c9,Ip,eI,qW,nW,hlen,dF Ec,tq,Sq,dF OJ,pV,wrap_i64,uc,vZ,dF h6,dF h7,dT h8,dF h9,aj,↓eA,eB,aq,seval];refine mix _ _ (by rfl) (by rfl) fun E' T g4=>?_;simp(disch:=first|omega|(simp only[ai];omega)) only[g4,aj,↓eA,eB,aq,seval];exact out _ _ ⟨T,rfl⟩ fun hm e he=>NN e he hm
   ·simp(disch:=first|omega|(simp only[ai];omega)) only[kK,c9,Ip,eI,qW,nW,hlen,dF Ec,tq,Sq,dF OJ,pV,wrap_i64,uc,vZ,dF h6,dF h7,dF h8,aj,↓eA,eB,aq,seval];refine mix _ _ (by rfl) (by rfl) fun E' T g4=>?_;simp(disch:=first|omega|(simp only[ai];omega)) only[g4,aj,↓eA,eB,aq,seval];exact out _ _ ⟨T,rfl⟩ fun hm e he=>NN e he hm
end Go.Proofs.YtfgkgmmnldocaaaGreatDoor
namespace Go.Proofs.YtfgkgmmnldocaaaGreatDoor
open Go Go.AL
variable[Go.AL.Mode][Go.AL.bR]
theorem QT:∀{l:List Pa},Nn (l.map (·.am))→fW l≤l.length*1099511627776
 |[],_=>by simp[fW,fL]
 |x::l,h=>by
  have h1:=h x.am (by simp);have h2:=QT (l:=l) fun a ha=>h a (by simp at ha⊢;exact .inr ha);rw[rC,a_];omega
theorem ZC{P:Program}{f:FuncId}{args:List V}{R:V→ae→Prop}{j:Jr}{ty:TypeId}{b lo:Nat}{ov lv pv:V}{sum:Int}{bo:Option BB}{l:List Pa}{ex:List (List V)}{S:ae}(hb:b<lo)
 (ho:S.bq b 0=some (ty,19,[kE j ov lv pv sum bo]))(hp:zD lo S pv l ex)
 (h:∀pv' S',S'.bq b 0=some (ty,19,[kE j ov lv pv' sum bo])→zD lo S' pv' l []→f_ (fun q=>q=b∨lo≤q) S S'→ak P f args S' R):ak P f args S R:=by
 rcases hp with⟨rfl,rfl,rfl⟩|⟨c,aI,rfl,h1,h2⟩
 ·exact h _ S ho (.inl ⟨rfl,rfl,rfl⟩) (f_.refl _ _)
 ·have WK:b≠c:=by omega
  refine ak.trim (b:=b) (c:=c) (vb:=0) (aI:=aI) (n:=l.length) (k:=11) (GS:=19) (sz:=4) ho rfl h2 WK ?_;unfold Br;rw[show(kE j ov lv (.cU c aI 0 l.length) sum bo).set 11 (.cU c (aI+1) 0 l.length)=kE j ov lv (.cU c (aI+1) 0 l.length) sum bo from rfl,List.take_left' (by simp)];have hob:ae.bq (S.set c ⟨aI+1,some (.arr 38 4 (l.map c9))⟩) b 0=some (ty,19,[kE j ov lv (.cU c aI 0 l.length) sum bo]):=by rw[eX WK];exact ho
  refine h (.cU c (aI+1) 0 l.length) _ (ed hob) (.inr ⟨c,aI+1,rfl,h1,?_⟩) (((f_.refl _ _).set (fun _=>.inr h1) _).set (fun _=>.inl rfl) _);rw[eX (fun e=>WK e.symm),cw];exact ed h2
theorem zD.of{lo:Nat}{X:ae}{pv:V}{l:List Pa}(h:lz lo X 38 4 (l.map c9) pv):zD lo X pv l []:=by
 rcases h with⟨rfl,h⟩|⟨c,aI,h1,rfl,h2⟩
 ·exact .inl ⟨rfl,List.map_eq_nil_iff.1 h,rfl⟩
 ·exact .inr ⟨c,aI,by rw[aP],h1,by rw[cw];exact h2⟩
def Gl(j:Jr)(i:Nat)(l:List Pa)(bo:Option BB):Prop:=∀e,rM j i e→nz j bo (l++e)
theorem EZ{j:Jr}{i k:Nat}{x:Pa}(h:x∈pL j i k):x.to=(k:Nat):=by
 obtain⟨y,_,rfl⟩:=List.mem_map.1 h;rfl
theorem Gl.le{j:Jr}{i:Nat}{l:List Pa}{bo pR:Option BB}(h:Gl j i l bo)(k:A6 j bo pR):Gl j i l pR:=fun e he=>(h e he).le k
def zB(j:Jr)(i:Nat)(l:List Pa)(bo:Option BB)(li:List Pa):Prop:=∀x∈li,∀k,k≤j.w.length→x∈pL j i k→Gl j k (l++[x]) bo
theorem zB.snoc{j:Jr}{i:Nat}{l:List Pa}{bo pR:Option BB}{li:List Pa}{x:Pa}{k:Nat}(h:zB j i l bo li)(hle:A6 j bo pR)(hx:x∈pL j i k)(hd:Gl j k (l++[x]) pR):zB j i l pR (li++[x]):=fun y hy k' hk OY=>by
 rcases List.mem_append.1 hy with hy|hy
 ·exact(h y hy k' hk OY).le hle
 ·rw[List.mem_singleton.1 hy]at OY⊢;obtain rfl:k'=k:=by have:=EZ hx;have:=EZ OY;omega
  exact hd
theorem zB.all{j:Jr}{i:Nat}{l:List Pa}{bo:Option BB}{li:List Pa}(h:zB j i l bo li)(hi:i<j.w.length)(hm:∀x,x∈li↔∃k,i<k∧k≤j.w.length∧x∈pL j i k):Gl j i l bo:=fun e he=>by
 rcases he.inv with⟨h1,_⟩|⟨k,x,e',h1,h2,h3,h4,rfl⟩
 ·omega
 ·have:=h x ((hm x).2 ⟨k,h1,h2,h3⟩) k h2 h3 e' h4;rwa[bG]at this
theorem abb(j:Jr)(hj:Vn j)(ty:TypeId)(lo b:Nat)(ov lv:V)(lf:Nat→Int):∀(m i:Nat),i≤j.w.length→j.w.length-i<m→∀(l:List Pa),l.length≤i→Nn (l.map (·.am))→(∀e,rM j i e→rM j 0 (l++e))→
 ∀(bo:Option BB) (pv:V) (S:ae),A_ j bo→Vk j lo b ov lv lf S→zD lo S pv l []→S.bq b 0=some (ty,19,[kE j ov lv pv (fW l) bo])→
 ak Tryz.prog 38 [.ptr b 0 0 0,.int .i64 (i:Nat)] S fun r S'=>∃pR pv' ex,(S'.bq b 0=some (ty,19,[kE j ov lv pv' (fW l) pR])∧zD lo S' pv' l ex)∧A_ j pR∧A6 j bo pR∧Gl j i l pR∧f_ (fun q=>q=b∨lo≤q) S S':=by
 intro m;induction m with
 |zero=>intro i _ h;omega
 |succ m ih=>
 intro i hi qu l hl ha adY bo pv S Ut dq Lo ho;refine ak.bW Tryz.func38 abS (U rfl) fun σ b_=>?_;have hn8:=hj.n;have aaW:=dq.lt.1;have ho0:=ho;have fn:=fun oW=>Po j hj.f l (by omega) ha oW Ut S aaW Lo ho;have Uu:∃b1 b2 b3 b4 b5,l9 j bo=[b1,b2,b3,b4,b5]:=by
  cases bo with
  |none=>exact⟨_,_,_,_,_,rfl⟩
  |some x=>exact⟨_,_,_,_,_,rfl⟩
 obtain⟨b1,b2,b3,b4,b5,oX⟩:=Uu;unfold kE at ho;rw[oX]at ho;simp only[jk,aS,a8]at ho;by_cases hiN:i=j.w.length
 ·have hic:(i:Int)=j.w.length:=by omega
  simp(disch:=first|omega|(simp only[ai];omega)) only[Ge,ho,dT hic,aj,↓eA,eB,aq,seval];refine ak.mono (fn (by have:=adY [] (by rw[hiN];exact .nil);rwa[cw]at this)) ?_;rintro r S' ⟨pR,h1,h2,h3,h4,h5⟩;simp(disch:=first|omega|(simp only[ai];omega)) only[aj,↓eA,eB,aq,seval];refine⟨pR,pv,[],⟨h1,Lo.pF h5 fun q hq=>by have:=(Lo.ge hq).1;omega⟩,h2,h3,fun e he=>?_,h5.mono fun q _ hq=>.inl hq⟩;rw[hiN]at he;rw[AG he,cw];exact h4
 ·have hic:¬(i:Int)=j.w.length:=by omega
  obtain⟨oo,rows,to,hov,Su,aic,aib⟩:=dq.opt;obtain⟨v,li,gM,w6,aml,sB⟩:=aib i (by omega);have sC:(i:Int)<j.w.length:=by omega
  rw[hov]at ho;have hlv:oN S v=some (.int .i64 (li.length:Nat)):=by rcases w6 with⟨rfl,rfl⟩|⟨c,aI,_,rfl,_⟩<;>rfl
  simp(disch:=first|omega|(simp only[ai];omega)) only[Ge,ho,dF hic,aic,gM,hlv,aj,↓eA,eB,aq,seval];refine dm (ι:=Nat×Option BB×V×List (List V)×ae) (fun x=>[(0,.ptr b 0 0 0),(22,v),(23,.int .i64 li.length),(24,.int .i64 (x.1:Nat))]) (fun x=>x.2.2.2.2)
   (fun x=>(x.1≤li.length∧zB j i l x.2.1 (li.take x.1))∧(ae.bq x.2.2.2.2 b 0=some (ty,19,[kE j ov lv x.2.2.1 (fW l) x.2.1])∧zD lo x.2.2.2.2 x.2.2.1 l x.2.2.2.1)∧A_ j x.2.1∧A6 j bo x.2.1∧f_ (fun q=>q=b∨lo≤q) S x.2.2.2.2) (fun x=>li.length-x.1)
   (fun x hx=>by rw[b_];exact hx.2.2.2.2.1) (0,bo,pv,[],S) ⟨⟨az _,fun x hx=>by simp at hx⟩,⟨ho0,Lo⟩,Ut,A6.refl _ _,f_.refl _ _⟩ (.inl ⟨?_,rfl⟩) ?_
  ·simp only[↓eA,eB,aq,seval];try rfl
  clear ho oX b1 b2 b3 b4 b5 fn;rintro⟨n,Lw,pv1,ex1,S1⟩ ⟨⟨hn,htr⟩,⟨qX,OM⟩,O9,Ul,q7⟩;simp only at hn htr qX OM O9 Ul q7⊢;have alP:=dq.pF q7 fun q hq=>hq;cases hc:li[n]? with
  |none=>
   obtain⟨eh,_⟩:=dE hc;have Ao:¬((n:Int)<li.length):=by omega
   rw[bh eh]at htr;simp(disch:=first|omega|(simp only[ai];omega)) only[dF Ao,aj,↓eA,eB,aq,seval];exact⟨Lw,pv1,ex1,⟨qX,OM⟩,O9,Ul,htr.all (by omega) sB,q7⟩
  |some x=>
  have aiu:=(List.getElem?_eq_some_iff.1 hc).1;have Ao:(n:Int)<li.length:=by omega
  have rJ:(n:Int)+1=((n+1:Nat):Int):=by omega
  obtain⟨k,gP,hkN,hx⟩:=(sB x).1 (aB hc);have Ip:=EZ hx;obtain⟨oc,over,hoc,rfl,aij⟩:∃c aI,(c<lo∧c≠b)∧v= .cU c aI 0 li.length∧S.bq c aI=some (38,4,li.map c9):=by
   rcases w6 with⟨_,rfl⟩|h
   ·cases hc
   ·exact h
  have aii:=q7.obj aij fun q=>by rcases q with q|q<;>omega
  have qh:=f_.add (fun _=>False) S1 [⟨0,none⟩];have xq:=fc (X:=[⟨0,none⟩]) qX;have adW:=OM.pF qh fun _ _ q=>q;have aiW:=q7.trans (f_.add (fun q=>q=b∨lo≤q) S1 [⟨0,none⟩]);simp(disch:=first|omega|(simp only[ai];omega)) only[dT Ao,hc,aii,c9,aj,↓eA,eB,aq,seval];refine ZC aaW xq adW fun pv3 S3 nV CW mU=>?_;have Up:=aiW.trans mU;have aaw:=dq.pF Up fun q hq=>hq;have C7:fW l≤8796093022208:=by have:=QT ha;omega
  have aja:=AW ha;have hxa:=hj.am _ _ _ hx;refine ak.mono (SG j hj l (by omega) ha x hx hkN O9 S3 aaw CW C7 nV) ?_;rintro _ S9 ⟨⟨bb,rfl,C5⟩,rK⟩;rw[rK];clear rK S9;cases bb with
  |false=>
   simp(disch:=first|omega|(simp only[ai];omega)) only[wrap_i64,rJ,aj,↓eA,eB,aq,seval];exact⟨(n+1,Lw,pv3,[],S3),⟨⟨by simp only;omega,by rw[kN hc];exact htr.snoc (A6.refl _ _) hx fun e he=>by rw[bG];exact C5 rfl e he⟩,⟨nV,CW⟩,O9,Ul,Up⟩,by simp only;omega,.inl ⟨by simp only[↓eA,eB,aq,seval];try rfl,rfl⟩⟩
  |true=>
  clear C5;have Uu:∃b1 b2 b3 b4 b5,l9 j Lw=[b1,b2,b3,b4,b5]:=by
   cases Lw with
   |none=>exact⟨_,_,_,_,_,rfl⟩
   |some x=>exact⟨_,_,_,_,_,rfl⟩
  obtain⟨b1,b2,b3,b4,b5,oX⟩:=Uu;have oq:=CW.H6;unfold kE at nV;rw[oX]at nV;simp only[jk,aS,a8]at nV;have tq:IntKind.i64.wrap (fW l+x.am)=fW l+x.am:=wrap_i64 (by omega) (by omega);simp(disch:=first|omega|(simp only[ai];omega)) only[nV,tq,aj,↓eA,eB,aq,seval];repeat' with_reducible refine ag ?_ ?_
  all_goals
   refine oq.app (r:=c9 x) (dU dq.lt.2 Up.1) (by simp;omega) fun Z4 S4 hL4 It hi4=>?_;have ua:=It.obj nV fun k=>by have:=(oq.lt k).2;omega
   obtain⟨S5,hS5⟩:∃S5:ae,S5=S4.set b ⟨0,some (.arr ty 19 [jk j++ov::lv::Z4:: .int .i64 (fW l)::(l9 j Lw++[.bool Lw.isSome])])⟩:=⟨_,rfl⟩;obtain⟨S6,Ls⟩:∃S6:ae,S6=S5.set b ⟨0,some (.arr ty 19 [jk j++ov::lv::Z4:: .int .i64 (fW l+x.am)::(l9 j Lw++[.bool Lw.isSome])])⟩:=⟨_,rfl⟩;have KA:ae.bq S5 b 0=some (ty,19,[jk j++ov::lv::Z4:: .int .i64 (fW l)::(l9 j Lw++[.bool Lw.isSome])]):=by rw[hS5];exact ed ua
   have ho6:ae.bq S6 b 0=some (ty,19,[kE j ov lv Z4 (fW (l++[x])) Lw]):=by rw[Ls,uQ,show fW [x]=x.am by simp[fW,fL]];exact ed KA
   have hf6:f_ (fun q=>q=b∨lo≤q) S S6:=by rw[Ls,hS5];exact((Up.trans (It.mono fun q _ hq=>.inr (oq.lt hq).2)).set (fun _=>.inl rfl) _).set (fun _=>.inl rfl) _
   rw[oX]at hS5 Ls KA;simp only[jk,aS,a8]at hS5 Ls KA;simp(disch:=first|omega|(simp only[ai];omega)) only[nV,ua,tq,hL4.cells,hL4.dK,←hS5,KA,←Ls,aj,↓eA,eB,aq,seval];have ah1:=dq.pF hf6 fun q hq=>hq;have ah9:zD lo S6 Z4 (l++[x]) []:=by
    have h4:zD lo S4 Z4 (l++[x]) []:=.of (by rw[bF];exact hL4);have h5:f_ (fun q=>q=b) S4 S6:=by rw[Ls,hS5];exact((f_.refl (fun q=>q=b) _).set (fun _=>rfl) _).set (fun _=>rfl) _
    exact h4.pF h5 fun q hq=>by have:=(h4.ge hq).1;omega
   have hna:Nn ((l++[x]).map (·.am)):=aai ha fun a h=>by rw[show a=x.am by simpa using h];exact hxa
   have hll:(l++[x]).length=l.length+1:=by simp
   rw[Ip];clear KA hS5 Ls nV ua It hL4 hi4 oq;refine ak.mono (ih k hkN (by omega) (l++[x]) (by omega) hna (fun e he=>by rw[bG];exact adY _ (.cons gP hkN hx he)) Lw Z4 S6 O9 ah1 ah9 ho6) ?_;rintro r S7 ⟨bo7,pv7,ex7,⟨ho7,ah8⟩,ai4,ad_,hd7,hf7⟩;obtain⟨c7,v7,rfl,hc7,aev⟩:∃c aI,pv7= .cU c aI 0 (l.length+1)∧lo≤c∧S7.bq c aI=some (38,4,l.map c9++(c9 x::ex7)):=by
    rcases ah8 with⟨_,h,_⟩|⟨c,aI,h1,h2,h3⟩
    ·simp at h
    ·exact⟨c,aI,by rw[←hll];exact h1,h2,by rw[h3,bF,bG];rfl⟩
   have aiV:=hf6.trans hf7;have ai9:∃b1 b2 b3 b4 b5,l9 j bo7=[b1,b2,b3,b4,b5]:=by
    cases bo7 with
    |none=>exact⟨_,_,_,_,_,rfl⟩
    |some x=>exact⟨_,_,_,_,_,rfl⟩
   obtain⟨d1,d2,d3,d4,d5,aew⟩:=ai9;have Eb:fW (l++[x])=fW l+x.am:=by rw[uQ,show fW [x]=x.am by simp[fW,fL]]
   rw[Eb]at ho7;obtain⟨S8,Sz⟩:∃S8:ae,S8=S7.set b ⟨0,some (.arr ty 19 [kE j ov lv (.cU c7 v7 0 l.length) (fW l+x.am) bo7])⟩:=⟨_,rfl⟩;obtain⟨S9,rK⟩:∃S9:ae,S9=S8.set b ⟨0,some (.arr ty 19 [kE j ov lv (.cU c7 v7 0 l.length) (fW l) bo7])⟩:=⟨_,rfl⟩;have ho8:ae.bq S8 b 0=some (ty,19,[kE j ov lv (.cU c7 v7 0 l.length) (fW l+x.am) bo7]):=by rw[Sz];exact ed ho7
   have ho9:ae.bq S9 b 0=some (ty,19,[kE j ov lv (.cU c7 v7 0 l.length) (fW l) bo7]):=by rw[rK];exact ed ho8
   have hf9:f_ (fun q=>q=b) S7 S9:=by rw[rK,Sz];exact((f_.refl (fun q=>q=b) _).set (fun _=>rfl) _).set (fun _=>rfl) _
   have ah7:zD lo S9 (.cU c7 v7 0 l.length) l (c9 x::ex7):=.inr ⟨c7,v7,rfl,hc7,hf9.obj aev (by omega)⟩;have Sq:IntKind.i64.wrap (fW l+x.am-x.am)=fW l:=by rw[show fW l+x.am-x.am=fW l by omega];exact wrap_i64 (by omega) (by omega)
   have hw4:IntKind.i64.wrap (((l.length+1:Nat):Int)-1)=(l.length:Nat):=by rw[show((l.length+1:Nat):Int)-1=(l.length:Nat) by omega];exact wrap_i64 (by omega) (by omega)
   unfold kE at ho7 Sz rK ho8;rw[aew]at ho7 Sz rK ho8;simp only[jk,aS,a8]at ho7 Sz rK ho8;simp(disch:=first|omega|(simp only[ai];omega)) only[ho7,aev,Sq,hw4,aK (show(l.length:Int)≤((l.length+1:Nat):Int) by omega),←Sz,ho8,←rK,wrap_i64,rJ,aj,↓eA,eB,aq,seval];exact⟨(n+1,bo7,.cU c7 v7 0 l.length,_,S9),⟨⟨by simp only;omega,by rw[kN hc];exact htr.snoc ad_ hx hd7⟩,⟨ho9,ah7⟩,ai4,Ul.trans ad_,aiV.trans (hf9.mono fun q _ hq=>.inl hq)⟩,by simp only;omega,.inl ⟨by simp only[↓eA,eB,aq,seval];try rfl,rfl⟩⟩
end Go.Proofs.YtfgkgmmnldocaaaGreatDoor
