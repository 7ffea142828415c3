/- Td5 -/
import Derived.Test.YtfgkgmmnldocaaaGreatDoorZTd3
import Derived.Test.YtfgkgmmnldocaaaGreatDoorZTcM
import Derived.Test.YtfgkgmmnldocaaaGreatDoorZTd1
set_option linter.unusedSectionVars false
set_option linter.unusedSimpArgs false
set_option linter.unusedVariables false
set_option maxHeartbeats 8000000
set_option maxRecDepth 4000
namespace Go.Proofs.YtfgkgmmnldocaaaGreatDoor
open Go Go.AL
variable[Go.AL.Mode][Go.AL.bR]
def TZ(r a v:Int):Int:=if r= -1 then v else if v= -1∨a+r<v then a+r else v
def wZ(lf:Nat→Int)(i:Nat)(v:Int):Nat→Int:=fun x=>if x=i then v else lf x
theorem vL{lf:Nat→Int}{n i:Nat}{v:Int}:(td lf n).set i [.int .i64 v]=td (wZ lf i v) n:=by
 apply iM;intro q;unfold td wZ;rw[iK];simp only[aP,List.length_range,bn];by_cases hq:q<n
 ·rw[kU hq];by_cases h:i=q
  ·subst h;simp[hq]
  ·rw[aC h];simp[show ¬q=i from fun e=>h e.symm]
 ·rw[eO (by simp;omega)];by_cases h:i=q
  ·subst h;simp[hq]
  ·rw[aC h];rfl
theorem Cu(lf:Nat→Int)(i:Nat):wZ lf i (lf i)=lf:=by
 funext q
 unfold wZ;by_cases h:q=i
 ·rw[aK h,h]
 ·rw[aC h]
theorem J_(σ:kL)(j:Jr){i k:Nat}(hi:i<j.w.length)(gP:i<k)(hk:k≤j.w.length)(y:od)(hy:0≤y.am∧y.am≤1099511627776){ty to tl:TypeId}{b oo ol base:Nat}{rows:List (List V)}{v:V}{li:List Pa}{lf:Nat→Int}(S:ae)
 (ho:S.bq b 0=some (ty,19,[kE j (.cU oo 0 0 j.w.length) (.cU ol 0 0 (j.w.length+1)) .aM 0 none]))(Su:S.bq oo 0=some (to,1,rows))(w6:S.bq ol 0=some (tl,1,td lf (j.w.length+1)))
 (Kx:rows.length=j.w.length)(gM:rows[i]?=some [v])(hL:lz base S 38 4 (li.map c9) v)(hb:b<base∧oo<base∧ol<base)(eY:oo≠b∧ol≠b∧oo≠ol)(hbs:base≤S.length)(hli:li.length≤100000)
 (cN: -1≤lf k∧lf k≤8796093022208)(E:Env)(Q:Exit→Env→ae→Prop)
 (e0:E.get 0= .ptr b 0 0 0)(e3:E.get 3= .int .i64 (i:Nat))(e4:E.get 4= .int .i64 (k:Nat))(e7:E.get 7= .bK (e_ y))
 (hQ:∀E' S' v',(∀q,q=0∨q=2∨q=3∨q=4∨q=76∨q=77∨q=78→E'.get q=E.get q)→S'.bq oo 0=some (to,1,rows.set i [v'])→S'.bq ol 0=some (tl,1,td (wZ lf i (TZ (lf k) y.am (lf i))) (j.w.length+1))→lz base S' 38 4 ((li++[mJ i k y]).map c9) v'→
  f_ (fun q=>q=oo∨q=ol∨nn v q) S S'→(∀q,nn v' q→nn v q∨S.length≤q)→Q .normal E' S'):ji Tryz.prog 148 σ AS Q E S:=by
 have eI:=ho;unfold kE at eI;simp only[jk,l9,aS,a8,cg]at eI;unfold e_ at e7;have Sw:(k:Int)<((j.w.length+1:Nat):Int):=by omega
 have xw:(i:Int)<((j.w.length+1:Nat):Int):=by omega
 have gK:(i:Int)<j.w.length:=by omega
 have nW:=Cp (lf:=lf) (show k<j.w.length+1 by omega);have Uj:=Cp (lf:=lf) (show i<j.w.length+1 by omega);have hlen:∀lf,(td lf (j.w.length+1)).length=j.w.length+1:=fun lf=>by unfold td;simp
 obtain⟨b1,n_⟩:∃b,decide (lf k= -1)=b:=⟨_,rfl⟩;obtain⟨b2,nB⟩:∃b,decide (lf i= -1)=b:=⟨_,rfl⟩;obtain⟨b3,Au⟩:∃b,decide (y.am+lf k<lf i)=b:=⟨_,rfl⟩;have hw:IntKind.i64.wrap (y.am+lf k)=y.am+lf k:=wrap_i64 (by omega) (by omega);unfold AS;simp(disch:=omega) only[e0,e3,e4,e7,eI,Su,gM,Kx,aj,↓eA,eB,aq,seval];repeat' with_reducible refine ag ?_ ?_
 all_goals
  refine hL.app (r:=c9 (mJ i k y)) hbs (by simp;omega) fun v3 S3 oq mU hi3=>?_;have dD:∀q,nn v q→base≤q:=fun q h=>(hL.lt h).2;have nV:=mU.obj eI fun q=>by have:=dD _ q;omega
  have ad0:=mU.obj Su fun q=>by have:=dD _ q;omega
  have aid:=mU.obj w6 fun q=>by have:=dD _ q;omega
  obtain⟨S4,Av⟩:∃S4:ae,S4=S3.set oo ⟨0,some (.arr to 1 (rows.set i [v3]))⟩:=⟨_,rfl⟩;have ua:=(eX (aI:=0) (S:=S3) (o:=⟨0,some (.arr to 1 (rows.set i [v3]))⟩) (fun e=>eY.1 e.symm)).trans nV;have xp:=(eX (aI:=0) (S:=S3) (o:=⟨0,some (.arr to 1 (rows.set i [v3]))⟩) (fun e=>eY.2.2 e.symm)).trans aid;rw[←Av]at ua xp;have aaD:ae.bq S4 oo 0=some (to,1,rows.set i [v3]):=by rw[Av];exact ed ad0
  simp(disch:=omega) only[e0,e3,e4,e7,eI,nV,ad0,gM,Kx,oq.cells,oq.dK,←Av,ua,xp,nW,hlen,n_,aj,↓eA,eB,aq,seval];have gE:∀(E':Env),(∀q,q=0∨q=2∨q=3∨q=4∨q=76∨q=77∨q=78→E'.get q=E.get q)→∀S':ae,S'.bq oo 0=some (to,1,rows.set i [v3])→S'.bq ol 0=some (tl,1,td (wZ lf i (TZ (lf k) y.am (lf i))) (j.w.length+1))→f_ (fun q=>q=ol) S4 S'→Q .normal E' S':=fun E' g S' g1 g2 g3=>by
   have It:f_ (fun q=>q=oo∨q=ol∨nn v q) S S4:=by rw[Av];exact(mU.mono fun q _ h=>.inr (.inr h)).set (fun _=>.inl rfl) _
   have hf5:f_ (fun q=>q=oo∨q=ol) S3 S':=by have:=((f_.refl (fun q=>q=oo∨q=ol) S3).set (b:=oo) (fun _=>.inl rfl) ⟨0,some (.arr to 1 (rows.set i [v3]))⟩);rw[←Av]at this;exact this.trans (g3.mono fun q _ h=>.inr h)
   have eh:=fun q h=>(oq.lt (i:=q) h).2;exact hQ E' S' v3 g g1 g2 (by rw[bF];exact oq.pF hf5 fun q hq k=>by have:=eh _ hq;omega) (It.trans (g3.mono fun q _ h=>.inr (.inl h))) hi3
  have gq:∀E':Env,E'.get 0=E.get 0→E'.get 2=E.get 2→E'.get 3=E.get 3→E'.get 4=E.get 4→E'.get 76=E.get 76→E'.get 77=E.get 77→E'.get 78=E.get 78→∀q,q=0∨q=2∨q=3∨q=4∨q=76∨q=77∨q=78→E'.get q=E.get q:=by
   rintro E' h0 h2 h3 h4 h5 h6 h7 q (rfl|rfl|rfl|rfl|rfl|rfl|rfl)<;>assumption
  have ac6:∀v,ae.bq (S4.set ol ⟨0,some (.arr tl 1 (td v (j.w.length+1)))⟩) oo 0=some (to,1,rows.set i [v3]):=fun v=>by rw[eX eY.2.2];exact aaD
  cases b1<;>simp(disch:=omega) only[e0,e3,e4,e7,ua,xp,nW,Uj,hlen,n_,nB,Au,hw,vL,aj,↓eA,eB,aq,seval]
  ·have rJ:¬lf k= -1:=by simpa using n_
   cases b2
   ·have CY:¬lf i= -1:=by simpa using nB
    cases b3
    ·have hn3:¬y.am+lf k<lf i:=by simpa using Au
     simp(disch:=omega) only[e0,e3,e4,e7,ua,xp,nW,Uj,hlen,n_,nB,Au,hw,vL,aj,↓eA,eB,aq,seval];refine gE _ ?_ S4 aaD (by rw[TZ,aC rJ,aC (by simp[CY,hn3]),Cu];exact xp) (f_.refl _ _);exact gq _ rfl rfl rfl rfl rfl rfl rfl
    ·have hn3:y.am+lf k<lf i:=by simpa using Au
     simp(disch:=omega) only[e0,e3,e4,e7,ua,xp,nW,Uj,hlen,n_,nB,Au,hw,vL,aj,↓eA,eB,aq,seval];refine gE _ ?_ _ (ac6 _) (by rw[TZ,aC rJ,aK (.inr hn3)];exact ed xp) (mA _ _ _);exact gq _ rfl rfl rfl rfl rfl rfl rfl
   ·have CY:lf i= -1:=by simpa using nB
    simp(disch:=omega) only[e0,e3,e4,e7,ua,xp,nW,Uj,hlen,n_,nB,Au,hw,vL,aj,↓eA,eB,aq,seval];refine gE _ ?_ _ (ac6 _) (by rw[TZ,aC rJ,aK (.inl CY)];exact ed xp) (mA _ _ _);exact gq _ rfl rfl rfl rfl rfl rfl rfl
  ·have rJ:lf k= -1:=by simpa using n_
   refine gE _ ?_ S4 aaD (by rw[TZ,aK rJ,Cu];exact xp) (f_.refl _ _);exact gq _ rfl rfl rfl rfl rfl rfl rfl
end Go.Proofs.YtfgkgmmnldocaaaGreatDoor
namespace Go.Proofs.YtfgkgmmnldocaaaGreatDoor
open Go Go.AL
variable[Go.AL.Mode][Go.AL.bR]
def Ei(P:Int→Prop)(B v:Int):Prop:=(v= -1∧∀s,¬P s)∨((0≤v∧v≤B)∧(∃s,P s)∧∀s,P s→v≤s)
theorem Ei.iff{P P':Int→Prop}{B v:Int}(h:Ei P B v)(k:∀s,P s↔P' s):Ei P' B v:=by rwa[show P'=P from funext fun s=>propext (k s).symm]
def SD(j:Jr)(k:Nat)(a:Int)(s:Int):Prop:=∃e,rM j k e∧s=a+fW e
theorem Ei.step{P:Int→Prop}{B C v r a:Int}{j:Jr}{k:Nat}(h:Ei P B v)(hr:Ei (SD j k 0) C r)(ha:0≤a)(hB:a+C≤B):Ei (fun s=>P s∨SD j k a s) B (TZ r a v):=by
 unfold TZ;rcases hr with⟨rfl,h1⟩|⟨h1,⟨s1,e1,h2,Ux⟩,h3⟩
 ·rw[aK rfl];refine h.iff fun s=>⟨.inl,fun k=>k.elim id ?_⟩;rintro⟨e,he,_⟩;exact(h1 _ ⟨e,he,rfl⟩).elim
 rw[aC (by omega)];have h4:∀s,SD j k a s→a+r≤s:=by
  rintro s ⟨e,he,rfl⟩;have:=h3 _ ⟨e,he,rfl⟩;omega
 rcases h with⟨rfl,k1⟩|⟨k1,⟨s2,k2⟩,k3⟩
 ·rw[aK (.inl rfl)];exact .inr ⟨by omega,⟨_,.inr ⟨e1,h2,rfl⟩⟩,fun s hs=>hs.elim (fun h=>(k1 s h).elim) (h4 s)⟩
 ·by_cases h5:a+r<v
  ·rw[aK (.inr h5)];exact .inr ⟨by omega,⟨_,.inl k2⟩,fun s hs=>hs.elim (fun h=>by have:=k3 s h;omega) (h4 s)⟩
  ·rw[aC (by omega)];exact .inr ⟨k1,⟨_,.inl k2⟩,fun s hs=>hs.elim (k3 s) (fun h=>by have:=h4 s h;omega)⟩
def CvT(j:Jr)(i k:Nat)(s:Int):Prop:=∃k' x,(i<k'∧k'<k∧k'≤j.w.length)∧x∈pL j i k'∧SD j k' x.am s
def Lf(j:Jr)(i k:Nat)(x:Pa):Prop:=∃k',(i<k'∧k'<k∧k'≤j.w.length)∧x∈pL j i k'
def CvL(j:Jr)(k:Nat)(L:List od)(s:Int):Prop:=∃y∈L,SD j k y.am s
theorem PG{j:Jr}{i k:Nat}(gP:i<k)(hk:k≤j.w.length){L:List od}(hL:L.Perm (fF j.p j.t ((j.w.drop i).take (k-i)) j.iz j.cj j.t.bE.length))(s:Int):(CvT j i k s∨CvL j k L s)↔CvT j i (k+1) s:=by
 constructor
 ·rintro(⟨k',x,⟨a1,a2,a3⟩,a4,a5⟩|⟨y,hy,h⟩)
  ·exact⟨k',x,⟨a1,by omega,a3⟩,a4,a5⟩
  ·exact⟨k,mJ i k y,⟨gP,by omega,hk⟩,List.mem_map.2 ⟨y,hL.mem_iff.1 hy,rfl⟩,h⟩
 ·rintro⟨k',x,⟨a1,a2,a3⟩,a4,a5⟩;by_cases OY:k'=k
  ·subst OY;obtain⟨y,hy,rfl⟩:=List.mem_map.1 a4;exact .inr ⟨y,hL.mem_iff.2 hy,a5⟩
  ·exact .inl ⟨k',x,⟨a1,by omega,a3⟩,a4,a5⟩
theorem Kg{j:Jr}{i k:Nat}(gP:i<k)(hk:k≤j.w.length){L:List od}(hL:L.Perm (fF j.p j.t ((j.w.drop i).take (k-i)) j.iz j.cj j.t.bE.length))(x:Pa):(Lf j i k x∨x∈L.map (mJ i k))↔Lf j i (k+1) x:=by
 constructor
 ·rintro(⟨k',⟨a1,a2,a3⟩,a4⟩|h)
  ·exact⟨k',⟨a1,by omega,a3⟩,a4⟩
  ·obtain⟨y,hy,rfl⟩:=List.mem_map.1 h;exact⟨k,⟨gP,by omega,hk⟩,List.mem_map.2 ⟨y,hL.mem_iff.1 hy,rfl⟩⟩
 ·rintro⟨k',⟨a1,a2,a3⟩,a4⟩;by_cases OY:k'=k
  ·subst OY;obtain⟨y,hy,rfl⟩:=List.mem_map.1 a4;exact .inr (List.mem_map.2 ⟨y,hL.mem_iff.2 hy,rfl⟩)
  ·exact .inl ⟨k',⟨a1,by omega,a3⟩,a4⟩
theorem UX{j:Jr}{i:Nat}(hi:i<j.w.length)(s:Int):CvT j i (j.w.length+1) s↔SD j i 0 s:=by
 constructor
 ·rintro⟨k,x,⟨h1,_,h2⟩,h3,e',h4,rfl⟩;exact⟨_,.cons h1 h2 h3 h4,by rw[rC];omega⟩
 ·rintro⟨e,h,rfl⟩;rcases h.inv with⟨h,_⟩|⟨k,x,e',h1,h2,h3,h4,rfl⟩
  ·omega
  ·exact⟨k,x,⟨h1,by omega,h2⟩,h3,e',h4,by rw[rC];omega⟩
structure RSt where
 v:V
 li:List Pa
 rows:List (List V)
 lf:Nat→Int
 X:ae
structure xH(j:Jr)(ty to tl:TypeId)(b oo ol i:Nat)(S0:ae)(eu:List (List V))(Kk:Nat→Int)(x:RSt):Prop where
 o:x.X.bq b 0=some (ty,19,[kE j (.cU oo 0 0 j.w.length) (.cU ol 0 0 (j.w.length+1)) .aM 0 none])
 Su:x.X.bq oo 0=some (to,1,x.rows)
 w6:x.X.bq ol 0=some (tl,1,td x.lf (j.w.length+1))
 rl:x.rows.length=j.w.length
 row:x.rows[i]?=some [x.v]
 H6:lz S0.length x.X 38 4 (x.li.map c9) x.v
 R0:∀q,q≠i→x.rows[q]?=eu[q]?∧x.lf q=Kk q
 fr:f_ (fun q=>q=oo∨q=ol∨S0.length≤q) S0 x.X
theorem xH.pF{j:Jr}{ty to tl:TypeId}{b oo ol i:Nat}{S0:ae}{eu:List (List V)}{Kk:Nat→Int}{x:RSt}(h:xH j ty to tl b oo ol i S0 eu Kk x){X:ae}(hf:f_ (fun _=>False) x.X X):xH j ty to tl b oo ol i S0 eu Kk {x with X:=X}:=
 ⟨hf.obj h.o fun k=>k,hf.obj h.Su fun k=>k,hf.obj h.w6 fun k=>k,h.rl,h.row,h.H6.pF hf fun _ _ k=>k,h.R0,h.fr.trans (hf.mono fun _ _ k=>k.elim)⟩
theorem EY(σ:kL)(j:Jr){i k:Nat}(hi:i<j.w.length)(gP:i<k)(hk:k≤j.w.length)(y:od)(hy:0≤y.am∧y.am≤1099511627776){ty to tl:TypeId}{b oo ol:Nat}{S0:ae}{eu:List (List V)}{Kk:Nat→Int}{x:RSt}(h:xH j ty to tl b oo ol i S0 eu Kk x)
 (hb:b<S0.length∧oo<S0.length∧ol<S0.length)(eY:oo≠b∧ol≠b∧oo≠ol)(hli:x.li.length≤100000){B C:Int}{P:Int→Prop}(hC:C≤8796093022208)(hB:y.am+C≤B)(cN:Ei (SD j k 0) C (Kk k))(hv:Ei P B (x.lf i))(E:Env)(Q:Exit→Env→ae→Prop)
 (e0:E.get 0= .ptr b 0 0 0)(e3:E.get 3= .int .i64 (i:Nat))(e4:E.get 4= .int .i64 (k:Nat))(e7:E.get 7= .bK (e_ y))
 (hQ:∀E' x',(∀q,q=0∨q=2∨q=3∨q=4∨q=76∨q=77∨q=78→E'.get q=E.get q)→xH j ty to tl b oo ol i S0 eu Kk x'→Ei (fun s=>P s∨SD j k y.am s) B (x'.lf i)→x'.li=x.li++[mJ i k y]→
  f_ (fun q=>q=oo∨q=ol∨nn x.v q) x.X x'.X→(∀q,nn x'.v q→nn x.v q∨x.X.length≤q)→Q .normal E' x'.X):ji Tryz.prog 148 σ AS Q E x.X:=by
 have nW:x.lf k=Kk k:=(h.R0 k (by omega)).2;refine J_ σ j hi gP hk y hy x.X h.o h.Su h.w6 h.rl h.row h.H6 hb eY h.fr.1 hli (by rw[nW];rcases cN with⟨h,_⟩|⟨h,_⟩<;>omega) E Q e0 e3 e4 e7 fun E' S' v' g h1 h2 h3 h4 h5=>?_;refine hQ E' ⟨v',x.li++[mJ i k y],x.rows.set i [v'],wZ x.lf i (TZ (x.lf k) y.am (x.lf i)),S'⟩ g ⟨h4.obj h.o ?_,h1,h2,by rw[fQ];exact h.rl,?_,h3,fun q hq=>⟨?_,?_⟩,?_⟩ ?_ rfl h4 h5
 ·rintro(q|q|q)
  ·exact eY.1 q.symm
  ·exact eY.2.1 q.symm
  ·have:=(h.H6.lt q).2;omega
 ·simp only;rw[aT];rw[h.rl];exact hi
 ·simp only;rw[bB (fun e=>hq e.symm)];exact(h.R0 q hq).1
 ·simp only[wZ];rw[aC hq];exact(h.R0 q hq).2
 ·refine h.fr.trans (h4.mono fun q _ k=>?_);rcases k with k|k|k
  ·exact .inl k
  ·exact .inr (.inl k)
  ·exact .inr (.inr (h.H6.lt k).2)
 ·simp only[wZ,aK];rw[nW];exact hv.step cN hy.1 hB
end Go.Proofs.YtfgkgmmnldocaaaGreatDoor
namespace Go.Proofs.YtfgkgmmnldocaaaGreatDoor
open Go Go.AL
variable[Go.AL.Mode][Go.AL.bR]
def agw(j:Jr)(lo hi:Nat)(X:ae)(rows:List (List V))(i:Nat):Prop:=∃v li,rows[i]?=some [v]∧((v= .aM∧li=[])∨∃c aI,(lo≤c∧c<hi)∧v= .cU c aI 0 li.length∧X.bq c aI=some (38,4,li.map c9))∧li.length≤100000∧∀x,x∈li↔Lf j i (j.w.length+1) x
def Ia(j:Jr)(i:Nat):Int:=((j.w.length-i:Nat):Int)*1099511627776
structure xI(j:Jr)(ty to tl:TypeId)(b oo ol:Nat)(S1:ae)(m:Nat)(rows:List (List V))(lf:Nat→Int)(X:ae):Prop where
 o:X.bq b 0=some (ty,19,[kE j (.cU oo 0 0 j.w.length) (.cU ol 0 0 (j.w.length+1)) .aM 0 none])
 Su:X.bq oo 0=some (to,1,rows)
 w6:X.bq ol 0=some (tl,1,td lf (j.w.length+1))
 rl:rows.length=j.w.length
 low:∀q,q<m→rows[q]?=some [.aM]
 high:∀q,m≤q→q<j.w.length→agw j S1.length X.length X rows q
 le:∀q,m≤q→q≤j.w.length→Ei (SD j q 0) (Ia j q) (lf q)
 fr:f_ (fun q=>q=oo∨q=ol∨S1.length≤q) S1 X
theorem xI.row{j:Jr}{ty to tl:TypeId}{b oo ol:Nat}{S1:ae}{i:Nat}{rows:List (List V)}{lf:Nat→Int}{X:ae}(hb:b<S1.length∧oo<S1.length∧ol<S1.length)(eY:oo≠b∧ol≠b∧oo≠ol)(hi:i<j.w.length)(h:xI j ty to tl b oo ol S1 (i+1) rows lf X){x:RSt}
 (hx:xH j ty to tl b oo ol i (X.set ol ⟨0,some (.arr tl 1 (td (wZ lf i (-1)) (j.w.length+1)))⟩) rows (wZ lf i (-1)) x)(hm:∀p,p∈x.li↔Lf j i (j.w.length+1) p)(hl:x.li.length≤100000)(hv:Ei (CvT j i (j.w.length+1)) (Ia j i) (x.lf i)):xI j ty to tl b oo ol S1 i x.rows x.lf x.X:=by
 have hlen:(X.set ol ⟨0,some (.arr tl 1 (td (wZ lf i (-1)) (j.w.length+1)))⟩:ae).length=X.length:=fQ ..;have hf:f_ (fun q=>q=oo∨q=ol∨X.length≤q) X x.X:=by
  have h1:=(f_.refl (fun q=>q=oo∨q=ol∨X.length≤q) X).set (b:=ol) (fun _=>.inr (.inl rfl)) ⟨0,some (.arr tl 1 (td (wZ lf i (-1)) (j.w.length+1)))⟩;refine h1.trans (hx.fr.mono fun q _ k=>?_);rw[hlen]at k;exact k
 have CT:=hf.1;have hSl:=h.fr.1;refine⟨hx.o,hx.Su,hx.w6,hx.rl,fun q hq=>?_,fun q hq1 Ed=>?_,fun q hq1 Ed=>?_,h.fr.trans (hf.mono fun q _ k=>?_)⟩
 ·rw[(hx.R0 q (by omega)).1];exact h.low q (by omega)
 ·by_cases Wz:q=i
  ·subst Wz;refine⟨x.v,x.li,hx.row,?_,hl,hm⟩;rcases hx.H6 with⟨k1,k2⟩|⟨c,aI,k1,k2,k3⟩
   ·exact .inl ⟨k1,List.map_eq_nil_iff.1 k2⟩
   ·rw[aP]at k2;exact .inr ⟨c,aI,⟨by omega,gW k3⟩,k2,k3⟩
  ·obtain⟨v,li,k1,k2,k3,k4⟩:=h.high q (by omega) Ed;refine⟨v,li,by rw[(hx.R0 q Wz).1];exact k1,?_,k3,k4⟩;rcases k2 with k2|⟨c,aI,g1,g2,g3⟩
   ·exact .inl k2
   ·exact .inr ⟨c,aI,⟨g1.1,by omega⟩,g2,hf.obj g3 (by rintro(q|q|q)<;>omega)⟩
 ·by_cases Wz:q=i
  ·subst Wz;exact hv.iff (UX hi)
  ·rw[(hx.R0 q Wz).2,wZ,aC Wz];exact h.le q (by omega) Ed
 ·rcases k with k|k|k
  ·exact .inl k
  ·exact .inr (.inl k)
  ·exact .inr (.inr (by omega))
theorem vq(j:Jr)(hj:Vn j){ty to tl:TypeId}{b oo ol:Nat}{S1:ae}(σ:kL)(b_:σ.S.length≤S1.length)(hb:b<S1.length∧oo<S1.length∧ol<S1.length)(eY:oo≠b∧ol≠b∧oo≠ol){rows:List (List V)}{lf:Nat→Int}(h:xI j ty to tl b oo ol S1 j.w.length rows lf S1)(E:Env)(Q:Exit→Env→ae→Prop)
 (e0:E.get 0= .ptr b 0 0 0)(e2:E.get 2= .int .i64 (j.w.length:Nat))(hQ:∀E' bT lf' X,xI j ty to tl b oo ol S1 0 bT lf' X→Q .normal E' X):ji Tryz.prog 148 σ wq Q E S1:=by
 have hn8:=hj.n;have Kt:IntKind.i64.wrap ((j.w.length:Int)-1)=(j.w.length:Int)-1:=wrap_i64 (by omega) (by omega);have hlen:∀lf,(td lf (j.w.length+1)).length=j.w.length+1:=fun lf=>by unfold td;simp
 unfold wq;simp(disch:=first|omega|(simp only[ai];omega)) only[e0,e2,Kt,aj,↓eA,eB,aq,seval];refine dm (ι:=Nat×List (List V)×(Nat→Int)×ae) (fun x=>[(0,.ptr b 0 0 0),(2,.int .i64 j.w.length),(3,.int .i64 ((x.1:Nat)-1))]) (fun x=>x.2.2.2)
  (fun x=>x.1≤j.w.length∧xI j ty to tl b oo ol S1 x.1 x.2.1 x.2.2.1 x.2.2.2) (fun x=>x.1)
  (fun x hx=>dU b_ hx.2.fr.1) (j.w.length,rows,lf,S1) ⟨ah _,h⟩ (.inl ⟨?_,rfl⟩) ?_
 ·simp only[e0,e2,↓eA,eB,aq,seval];try rfl
 clear h rows lf;rintro⟨m,rows,lf,X⟩ ⟨hm,h⟩;simp only at hm h⊢;cases m with
 |zero=>
  simp(disch:=first|omega|(simp only[ai];omega)) only[aj,↓eA,eB,aq,seval];exact hQ _ _ _ _ h
 |succ i=>
 have kq:((i+1:Nat):Int)-1=(i:Nat):=by omega
 have om:(i:Int)+1=((i+1:Nat):Int):=by omega
 have hi3:IntKind.i64.wrap ((i:Int)-1)=(i:Int)-1:=wrap_i64 (by omega) (by omega);have hi4:(0:Int)≤(i:Int):=by omega
 have hi5:(i:Int)<((j.w.length+1:Nat):Int):=by omega
 have hli:=Cp (lf:=lf) (show i<j.w.length+1 by omega);have ho:=h.o;have w6:=h.w6;unfold kE at ho;simp only[jk,l9,aS,a8,cg]at ho;rw[kq];simp(disch:=first|omega|(simp only[ai];omega)) only[ho,w6,hli,hlen,vL,wrap_i64,om,dT hi4,aj,↓eA,eB,aq,seval];obtain⟨X0,hX0⟩:∃X0:ae,X0=X.set ol ⟨0,some (.arr tl 1 (td (wZ lf i (-1)) (j.w.length+1)))⟩:=⟨_,rfl⟩;have amM:X0.length=X.length:=by rw[hX0];exact fQ ..
 have hSl:=h.fr.1;have lR:b<X0.length∧oo<X0.length∧ol<X0.length:=by omega
 have hR0:xH j ty to tl b oo ol i X0 rows (wZ lf i (-1)) ⟨.aM,[],rows,wZ lf i (-1),X0⟩:=by
  refine⟨?_,?_,?_,h.rl,h.low i (by omega),.inl ⟨rfl,rfl⟩,fun _ _=>⟨rfl,rfl⟩,f_.refl _ _⟩
  ·simp only;rw[hX0,eX (fun e=>eY.2.1 e.symm)];exact h.o
  ·simp only;rw[hX0,eX eY.2.2];exact h.Su
  ·simp only;rw[hX0];exact ed w6
 have gM:∀x,xH j ty to tl b oo ol i X0 rows (wZ lf i (-1)) x→(∀p,p∈x.li↔Lf j i (j.w.length+1) p)→x.li.length≤100000→Ei (CvT j i (j.w.length+1)) (Ia j i) (x.lf i)→xI j ty to tl b oo ol S1 i x.rows x.lf x.X:=fun x hx=>h.row hb eY (by omega) (by rw[←hX0];exact hx);have hle:∀k,i<k→k≤j.w.length→Ei (SD j k 0) (Ia j k) (wZ lf i (-1) k):=fun k cN CZ=>by rw[wZ,aC (by omega)];exact h.le k cN CZ
 have lQ:wZ lf i (-1) i= -1:=aK rfl;rw[←hX0];clear hX0 ho w6 h hli;generalize wZ lf i (-1)=Kk at*;refine dm (ι:=Nat×RSt) (fun x=>[(0,.ptr b 0 0 0),(2,.int .i64 j.w.length),(3,.int .i64 (i:Nat)),(4,.int .i64 (x.1:Nat))]) (fun x=>x.2.X)
  (fun x=>(i<x.1∧x.1≤j.w.length+1)∧xH j ty to tl b oo ol i X0 rows Kk x.2∧(∀p,p∈x.2.li↔Lf j i x.1 p)∧x.2.li.length≤x.1*1000∧Ei (CvT j i x.1) (Ia j i) (x.2.lf i)) (fun x=>j.w.length+1-x.1)
  (fun x hx=>by have:=hx.2.1.fr.1;omega) (i+1,⟨.aM,[],rows,Kk,X0⟩) ⟨⟨by simp only;omega,by simp only;omega⟩,hR0,?_,by simp,.inl ⟨?_,?_⟩⟩ (.inl ⟨?_,rfl⟩) ?_
 ·intro p;simp only[List.not_mem_nil,false_iff];rintro⟨k',⟨h1,h2,_⟩,_⟩;omega
 ·exact lQ
 ·rintro s ⟨k',x,⟨h1,h2,_⟩,_⟩;omega
 ·simp only[↓eA,eB,aq,seval];try rfl
 clear hR0;rintro⟨k,x⟩ ⟨⟨gP,hkN⟩,hR,sB,hll,hv⟩;simp only at gP hkN hR sB hll hv⊢;have ho:=hR.o;unfold kE at ho;simp only[jk,l9,aS,a8,cg]at ho;by_cases pX:k=j.w.length+1
 ·have aR:¬(k:Int)≤j.w.length:=by omega
  simp(disch:=first|omega|(simp only[ai];omega)) only[dF aR,hi3,aj,↓eA,eB,aq,seval];subst pX;have:=gM x hR sB (by omega) hv;exact⟨(i,x.rows,x.lf,x.X),⟨by simp only;omega,this⟩,by simp only;omega,.inl ⟨by simp only[↓eA,eB,aq,seval];try rfl,rfl⟩⟩
 have aR:(k:Int)≤j.w.length:=by omega
 have cN:(k:Int)+1=((k+1:Nat):Int):=by omega
 have fa:=fun S=>UM j.p hj.p j.t (j.tx.map fk) hj.t ((j.w.drop i).take (k-i)) (by simp;omega) (zG hj.w i _) j.iz j.cj S;simp only[dV,b9]at fa;simp(disch:=first|omega|(simp only[ai];omega)) only[ho,dT aR,aj,↓eA,eB,aq,seval];rw[aK ⟨by omega,aR⟩];simp(disch:=first|omega|(simp only[ai];omega)) only[ho,aj,↓eA,eB,aq,seval];refine ak.mono (fa _) ?_;rintro _ S9 ⟨L,aI,rfl,hL,rfl⟩;have hLl:L.length≤1000:=by rw[hL.length_eq];have:=pw (p:=j.p) (t:=j.t) (l:=(j.w.drop i).take (k-i)) (ty:=j.iz) (cj:=j.cj) j.t.bE.length;have:=hj.t.bE;omega
 have hLf:∀y∈L,0≤y.dz∧y.dz<1000000:=fun y hy=>by
  obtain⟨q,hq,_,rfl⟩:=vx (hL.mem_iff.1 hy);have:=hj.t.bE;simp only[mr];omega
 simp(disch:=first|omega|(simp only[ai];omega)) only[aj,↓eA,eB,aq,seval];refine ak.mono (Tb L hLf _ x.X.length aI (by omega) (dP.trans cE)) ?_;rintro _ S9 ⟨rfl,L',hL',rK⟩;rw[show(x.X++[⟨aI,some (.arr 38 4 (L.map e_))⟩]:ae).set x.X.length ⟨aI,some (.arr 38 4 (L'.map e_))⟩=x.X++[⟨aI,some (.arr 38 4 (L'.map e_))⟩] by simp]at rK;subst rK;rw[←hL'.length_eq]at*;replace hL:=hL'.trans hL;clear hL' hLf fa;have hLm:∀y∈L',mJ i k y∈pL j i k:=fun y hy=>List.mem_map.2 ⟨y,hL.mem_iff.1 hy,rfl⟩;obtain⟨X1,hX1⟩:∃X1:ae,X1=x.X++[⟨aI,some (.arr 38 4 (L'.map e_))⟩]:=⟨_,rfl⟩;have q7:f_ (fun _=>False) x.X X1:=by rw[hX1];exact f_.add _ _ _
 have hR1:=hR.pF q7;have qX:ae.bq X1 x.X.length aI=some (38,4,L'.map e_):=by rw[hX1];exact dP.trans cE
 have aek:∀q,nn x.v q→q≠x.X.length:=fun q hq e=>by have:=(hR.H6.lt hq).1;omega
 have CT:X0.length≤x.X.length:=hR.fr.1;have amL:x.X.length<X1.length:=by rw[hX1];simp
 have hB1:Ia j k+1099511627776≤Ia j i∧Ia j i≤8796093022208∧0≤Ia j k:=by unfold Ia;omega
 rw[←hX1];clear hX1;refine dm (ι:=Nat×RSt) (fun y=>[(0,.ptr b 0 0 0),(2,.int .i64 j.w.length),(3,.int .i64 (i:Nat)),(4,.int .i64 (k:Nat)),(76,.cU x.X.length aI 0 L'.length),(77,.int .i64 L'.length),(78,.int .i64 (y.1:Nat))]) (fun y=>y.2.X)
  (fun y=>y.1≤L'.length∧xH j ty to tl b oo ol i X0 rows Kk y.2∧ae.bq y.2.X x.X.length aI=some (38,4,L'.map e_)∧(∀q,nn y.2.v q→q≠x.X.length)∧y.2.li=x.li++(L'.take y.1).map (mJ i k)∧Ei (fun s=>CvT j i k s∨CvL j k (L'.take y.1) s) (Ia j i) (y.2.lf i)∧X1.length≤y.2.X.length) (fun y=>L'.length-y.1)
  (fun y hy=>by have:=hy.2.1.fr.1;omega) (0,⟨x.v,x.li,x.rows,x.lf,X1⟩) ⟨az _,hR1,qX,aek,by simp,hv.iff fun s=>⟨.inl,fun k=>k.elim id fun⟨y,hy,_⟩=>by simp at hy⟩,ah _⟩ (.inl ⟨?_,rfl⟩) ?_
 ·simp only[↓eA,eB,aq,seval];try rfl
 clear hR1 qX aek q7;rintro⟨n,z⟩ ⟨hn,hZ,hzo,hzi,hzl,Lk,hzs⟩;simp only at hn hZ hzo hzi hzl Lk hzs⊢;cases hc:L'[n]? with
 |none=>
  obtain⟨eh,_⟩:=dE hc;have Ao:¬((n:Int)<L'.length):=by omega
  rw[bh eh]at hzl Lk;simp(disch:=first|omega|(simp only[ai];omega)) only[dF Ao,wrap_i64,cN,aj,↓eA,eB,aq,seval];refine⟨(k+1,z),⟨⟨by simp only;omega,by simp only;omega⟩,hZ,fun p=>?_,?_,Lk.iff (PG gP (by omega) hL)⟩,by simp only;omega,.inl ⟨by simp only[↓eA,eB,aq,seval];try rfl,rfl⟩⟩
  ·simp only;rw[hzl,List.mem_append,sB p];exact Kg gP (by omega) hL p
  ·simp only;rw[hzl,aH,aP];omega
 |some y=>
 have aiu:=(List.getElem?_eq_some_iff.1 hc).1;have Ao:(n:Int)<L'.length:=by omega
 have rJ:(n:Int)+1=((n+1:Nat):Int):=by omega
 have hym:=hLm y (aB hc);have hya:0≤y.am∧y.am≤1099511627776:=hj.am _ _ _ hym;simp(disch:=first|omega|(simp only[ai];omega)) only[dT Ao,hc,hzo,e_,aj,↓eA,eB,aq,seval];refine EY σ j (by omega) gP (by omega) y hya (x:={z with X:=z.X++[⟨0,none⟩]}) (hZ.pF (f_.add _ _ _)) lR eY ?_ (C:=Ia j k) (by omega) (by omega) (hle k gP (by omega)) Lk _ _ (by rfl) (by rfl) (by rfl) (by rfl) ?_
 ·simp only;rw[hzl,aH,aP,bV];omega
 rintro E' z2 g hZ2 Ss vZ qh om;simp only at Ss vZ qh om;have g0:E'.get 0= .ptr b 0 0 0:=(g 0 (by simp)).trans rfl;have g2:E'.get 2= .int .i64 (j.w.length:Nat):=(g 2 (by simp)).trans rfl;have g3:E'.get 3= .int .i64 (i:Nat):=(g 3 (by simp)).trans rfl;have g4:E'.get 4= .int .i64 (k:Nat):=(g 4 (by simp)).trans rfl;have g76:E'.get 76= .cU x.X.length aI 0 L'.length:=(g 76 (by simp)).trans rfl;have g77:E'.get 77= .int .i64 (L'.length:Nat):=(g 77 (by simp)).trans rfl;have g78:E'.get 78= .int .i64 (n:Nat):=(g 78 (by simp)).trans rfl;simp(disch:=first|omega|(simp only[ai];omega)) only[g78,wrap_i64,rJ,aj,↓eA,eB,aq,seval];have ahN:=qh.obj (fc (X:=[⟨0,none⟩]) hzo) fun q=>by
  rcases q with q|q|q
  ·omega
  ·omega
  ·exact hzi _ q rfl
 refine⟨(n+1,z2),⟨by simp only;omega,hZ2,ahN,fun q hq=>?_,?_,Ss.iff fun s=>?_,?_⟩,by simp only;omega,.inl ⟨?_,rfl⟩⟩
 ·rcases om q hq with h|h
  ·exact hzi q h
  ·rw[aH]at h;omega
 ·simp only;rw[vZ,hzl,kN hc,bF,bG];rfl
 ·simp only;rw[kN hc];constructor
  ·rintro((h|⟨y1,h1,h2⟩)|h)
   ·exact .inl h
   ·exact .inr ⟨y1,List.mem_append.2 (.inl h1),h2⟩
   ·exact .inr ⟨y,List.mem_append.2 (.inr (List.mem_singleton.2 rfl)),h⟩
  ·rintro(h|⟨y1,h1,h2⟩)
   ·exact .inl (.inl h)
   ·rcases List.mem_append.1 h1 with h1|h1
    ·exact .inl (.inr ⟨y1,h1,h2⟩)
    ·rw[List.mem_singleton.1 h1]at h2;exact .inr h2
 ·have:=qh.1;rw[aH]at this;simp only;omega
 ·simp only[g0,g2,g3,g4,g76,g77,↓eA,eB,aq,seval];try rfl
end Go.Proofs.YtfgkgmmnldocaaaGreatDoor
namespace Go.Proofs.YtfgkgmmnldocaaaGreatDoor
open Go Go.AL
variable[Go.AL.Mode][Go.AL.bR]
theorem xI.stb{j:Jr}(hn8:j.w.length≤8){ty to tl:TypeId}{b oo ol:Nat}{S1:ae}{rows:List (List V)}{lf:Nat→Int}{X:ae}(hb:b<S1.length∧oo<S1.length∧ol<S1.length)(eY:oo≠b∧ol≠b∧oo≠ol)(h:xI j ty to tl b oo ol S1 0 rows lf X):
 Vk j X.length b (.cU oo 0 0 j.w.length) (.cU ol 0 0 (j.w.length+1)) lf X:=by
 have hX:=h.fr.1;refine⟨⟨by omega,ah _⟩,⟨oo,rows,to,rfl,⟨by omega,eY.1⟩,h.Su,fun i hi=>?_⟩,⟨ol,tl,rfl,⟨by omega,eY.2.1⟩,h.w6⟩,fun i hi=>?_⟩
 ·obtain⟨v,li,h1,h2,h3,h4⟩:=h.high i (az _) hi;refine⟨v,li,h1,?_,h3,fun x=>(h4 x).trans ⟨fun⟨k,⟨a1,a2,a3⟩,a4⟩=>⟨k,a1,a3,a4⟩,fun⟨k,a1,a3,a4⟩=>⟨k,⟨a1,by omega,a3⟩,a4⟩⟩⟩;rcases h2 with h2|⟨c,aI,g1,g2,g3⟩
  ·exact .inl h2
  ·exact .inr ⟨c,aI,⟨g1.2,by omega⟩,g2,g3⟩
 ·rcases h.le i (az _) hi with⟨h1,h2⟩|⟨h1,⟨s,e,h2,Ux⟩,h3⟩
  ·exact .inl ⟨h1,fun⟨e,he⟩=>h2 _ ⟨e,he,rfl⟩⟩
  ·refine .inr ⟨⟨h1.1,?_⟩,⟨e,h2⟩,fun e he=>by have:=h3 _ ⟨e,he,rfl⟩;omega⟩;unfold Ia at h1;omega
theorem acS(n:Nat):eJ [V.int .i64 0] n=td (fun _=>0) n:=by
 unfold eJ td;apply iM;intro q;by_cases hq:q<n
 ·rw[bn,kU hq,List.getElem?_replicate_of_lt hq];rfl
 ·rw[eO (by simp;omega),eO (by simp;omega)]
theorem ado{j:Jr}{ty to tl:TypeId}{b oo ol:Nat}{S1:ae}(ho:S1.bq b 0=some (ty,19,[kE j (.cU oo 0 0 j.w.length) (.cU ol 0 0 (j.w.length+1)) .aM 0 none]))(h1:S1.bq oo 0=some (to,1,eJ [.aM] j.w.length))(h2:S1.bq ol 0=some (tl,1,eJ [.int .i64 0] (j.w.length+1))):
 xI j ty to tl b oo ol S1 j.w.length (eJ [.aM] j.w.length) (fun _=>0) S1:=by
 refine⟨ho,h1,by rw[←acS];exact h2,by unfold eJ;simp,fun q hq=>by unfold eJ;exact List.getElem?_replicate_of_lt hq,fun q h1 h2=>by omega,fun q h1 h2=>?_,f_.refl _ _⟩;obtain rfl:q=j.w.length:=by omega
 refine .inr ⟨by unfold Ia;simp,⟨0,[],.nil,rfl⟩,?_⟩;rintro s ⟨e,he,rfl⟩;rw[AG he];simp[fW,fL]
theorem J6(j:Jr)(hj:Vn j){ty:TypeId}{b:Nat}(S:ae)(ho:S.bq b 0=some (ty,19,[kE j .aM .aM .aM 0 none])):
 ak Tryz.prog 37 [.ptr b 0 0 0] S fun r S'=>∃ov lv lf,S'.bq b 0=some (ty,19,[kE j ov lv .aM 0 none])∧Vk j S'.length b ov lv lf S'∧f_ (fun q=>q=b) S S':=by
 refine ak.bW Tryz.func37 abT (U rfl) fun σ b_=>?_;have ai8:=gW ho;have hn8:=hj.n;have eI:=ho;unfold kE at eI;simp only[jk,l9,aS,a8,cg]at eI;obtain⟨m,hm⟩:∃m,m=j.w.length+1:=⟨_,rfl⟩;have rJ:(j.w.length:Int)+1=(m:Nat):=by omega
 have Ec:(j.w.length:Int)≤(dw:Int):=by unfold dw;omega
 have OK:(m:Int)≤(dw:Int):=by unfold dw;omega
 have hoX:∀X,ae.bq (S++X) b 0=_:=fun X=>fc (X:=X) eI;have tu:∀(X:ae) r,ae.bq (List.set (S++X) b ⟨0,some (.arr ty 19 [r])⟩) b 0=some (ty,19,[r]):=fun X r=>ed (hoX X);have mT:∀(X Y:ae) r,ae.bq (List.set (S++X) b ⟨0,some (.arr ty 19 [r])⟩++Y) b 0=some (ty,19,[r]):=fun X Y r=>fc (tu X r);have vZ:∀(o:Go.AL.Obj) r,List.length (List.set (S++[o]) b r)=S.length+1:=fun o r=>by simp
 have key:∀(t1 t2:TypeId) (z1 z2:List (List V)) (r1 r2:List V) (X:ae),X=((S++[⟨0,some (.arr t1 1 z1)⟩,⟨0,some (.arr t2 1 z2)⟩]:ae).set b ⟨0,some (.arr ty 19 [r1])⟩).set b ⟨0,some (.arr ty 19 [r2])⟩→
  X.bq b 0=some (ty,19,[r2])∧X.bq S.length 0=some (t1,1,z1)∧X.bq (S.length+1) 0=some (t2,1,z2)∧f_ (fun q=>q=b) S X∧X.length=S.length+2:=fun t1 t2 z1 z2 r1 r2 X hX=>by
  subst hX;refine⟨ed (ed (hoX _)),?_,?_,((f_.add (fun q=>q=b) _ _).set (fun _=>rfl) _).set (fun _=>rfl) _,by simp⟩
  ·rw[eX (by omega),eX (by omega)];exact dP.trans cE
  ·rw[eX (by omega),eX (by omega),iD,cT,cE]
 have ajr:∀(r1:List V) (X:ae),X=((S++[⟨0,some (.arr 39 1 (eJ [.aM] j.w.length))⟩,⟨0,some (.arr 3 1 (eJ [.int .i64 0] m))⟩]:ae).set b ⟨0,some (.arr ty 19 [r1])⟩).set b ⟨0,some (.arr ty 19 [kE j (.cU S.length 0 0 j.w.length) (.cU (S.length+1) 0 0 m) .aM 0 none])⟩→
  ∀(E:Env) (Q:Exit→Env→ae→Prop),E.get 0= .ptr b 0 0 0→E.get 2= .int .i64 (j.w.length:Nat)→(∀E' S',(∃ov lv lf,S'.bq b 0=some (ty,19,[kE j ov lv .aM 0 none])∧Vk j S'.length b ov lv lf S'∧f_ (fun q=>q=b) S S')→Q .normal E' S')→ji Tryz.prog 148 σ wq Q E X:=fun r1 X hX E Q e0 e2 hQ=>by
  subst hm;obtain⟨k1,k2,k3,k4,k5⟩:=key _ _ _ _ _ _ X hX;exact vq j hj (oo:=S.length) (ol:=S.length+1) σ (by rw[b_,k5];omega) ⟨by omega,by omega,by omega⟩ ⟨by omega,by omega,by omega⟩ (ado k1 k2 k3) E Q e0 e2 fun E' bT lf' X' hO=>
   hQ _ _ ⟨_,_,lf',hO.o,hO.stb hn8 ⟨by omega,by omega,by omega⟩ ⟨by omega,by omega,by omega⟩,⟨by have:=hO.fr.1;omega,fun q hq hn=>(hO.fr.2 q (by omega) (by omega)).trans (k4.2 q hq hn)⟩⟩
 have UK:∀(r1:List V) (X:ae),X=((S++[⟨0,some (.arr 3 1 (eJ [.int .i64 0] m))⟩,⟨0,some (.arr 39 1 (eJ [.aM] j.w.length))⟩]:ae).set b ⟨0,some (.arr ty 19 [r1])⟩).set b ⟨0,some (.arr ty 19 [kE j (.cU (S.length+1) 0 0 j.w.length) (.cU S.length 0 0 m) .aM 0 none])⟩→
  ∀(E:Env) (Q:Exit→Env→ae→Prop),E.get 0= .ptr b 0 0 0→E.get 2= .int .i64 (j.w.length:Nat)→(∀E' S',(∃ov lv lf,S'.bq b 0=some (ty,19,[kE j ov lv .aM 0 none])∧Vk j S'.length b ov lv lf S'∧f_ (fun q=>q=b) S S')→Q .normal E' S')→ji Tryz.prog 148 σ wq Q E X:=fun r1 X hX E Q e0 e2 hQ=>by
  subst hm;obtain⟨k1,k2,k3,k4,k5⟩:=key _ _ _ _ _ _ X hX;exact vq j hj (oo:=S.length+1) (ol:=S.length) σ (by rw[b_,k5];omega) ⟨by omega,by omega,by omega⟩ ⟨by omega,by omega,by omega⟩ (ado k1 k3 k2) E Q e0 e2 fun E' bT lf' X' hO=>
   hQ _ _ ⟨_,_,lf',hO.o,hO.stb hn8 ⟨by omega,by omega,by omega⟩ ⟨by omega,by omega,by omega⟩,⟨by have:=hO.fr.1;omega,fun q hq hn=>(hO.fr.2 q (by omega) (by omega)).trans (k4.2 q hq hn)⟩⟩
 have sl:∀(o o2:Go.AL.Obj) r,List.set (S++[o]) b r++[o2]=(S++[o,o2]).set b r:=fun o o2 r=>by
  rw[←List.set_append_left _ _ (by simp;omega),bG];rfl
 simp(disch:=omega) only[R4,eI,wrap_i64,rJ,cn,aj,↓eA,eB,aq,seval];repeat' with_reducible refine ag ?_ ?_
 all_goals first|omega|skip
 all_goals simp(disch:=omega) only[hoX,wrap_i64,cn,aj,↓eA,eB,aq,seval]
 repeat' with_reducible refine ag ?_ ?_
 all_goals first|omega|skip
 all_goals simp(disch:=omega) only[tu,mT,vZ,wrap_i64,cn,aj,↓eA,eB,aq,seval]
 all_goals try rw[sl]
 all_goals
  first
  |(refine ajr _ _ rfl _ _ (by rfl) (by rfl) fun E' X' h=>?_
    simp(disch:=omega) only[aj,↓eA,eB,aq,seval];exact h)
  |(refine UK _ _ rfl _ _ (by rfl) (by rfl) fun E' X' h=>?_
    simp(disch:=omega) only[aj,↓eA,eB,aq,seval];exact h)
theorem On(j:Jr)(S:ae):ak Tryz.prog 36 [.agg (jk j)] S fun r S'=>∃b,r= .bool b∧(b=true↔0<j.w.length∧j.w.length≤6)∧S'=S:=by
 refine ak.bW Tryz.func36 abU (U rfl) fun σ b_=>?_;by_cases h0:(0:Int)<j.w.length
 ·by_cases h6:(j.w.length:Int)≤6
  ·simp(disch:=omega) only[A0,jk,dT h0,dT h6,aj,↓eA,eB,aq,seval];exact⟨_,rfl,⟨fun _=>by omega,fun _=>rfl⟩⟩
  ·simp(disch:=omega) only[A0,jk,dT h0,dF h6,aj,↓eA,eB,aq,seval];exact⟨_,rfl,⟨fun h=>by(cases h),fun h=>by omega⟩⟩
 ·simp(disch:=omega) only[A0,jk,dF h0,aj,↓eA,eB,aq,seval];exact⟨_,rfl,⟨fun h=>by(cases h),fun h=>by omega⟩⟩
end Go.Proofs.YtfgkgmmnldocaaaGreatDoor
namespace Go.Proofs.YtfgkgmmnldocaaaGreatDoor
open Go Go.AL
variable[Go.AL.Mode][Go.AL.bR]
theorem Tu(j:Jr)(hj:Vn j)(hn6:j.w.length≤6)(S:ae):
 ak Tryz.prog 9 [dV j.p,.agg (b9 j.t (j.tx.map fk)),.sl 8 (j.w.map cR),.str j.iz,.int .i64 j.cj] S fun r S'=>(∃l ps q e,r= .dI [.agg (qR l ps q),.int .i64 e]∧Vm j e∧(e=0→∀m,rM j 0 m→wI j.p j.t j.w m=0→q.1≤fW m))∧S'=S:=by
 refine ak.bp Tryz.func9 Qq fun hn=>?_;refine ak.fin Tryz.func9 Qq (U rfl) fun σ b_=>?_;have out:∀(X:ae) (v:V) (l:List Pa) (ps:List (Nat×Nat)) (q:Int×List (bS×Int)×Int) (e:Int),(∃T,X=S++T)→jd X S v (.agg (qR l ps q))→Vm j e→(e=0→∀m,rM j 0 m→wI j.p j.t j.w m=0→q.1≤fW m)→
  ∃r1 S1,mV X S1∧jd X S1 (.dI [v,.int .i64 e]) r1∧S.length≤S1.length∧(∃l ps q e,r1= .dI [.agg (qR l ps q),.int .i64 e]∧Vm j e∧(e=0→∀m,rM j 0 m→wI j.p j.t j.w m=0→q.1≤fW m))∧S1=S:=fun X v l ps q e hX hq he hm=>by
  obtain⟨T,rfl⟩:=hX;exact⟨_,S,hn.dO _,.jj hq (.bX rfl),ah _,⟨_,_,_,_,rfl,he,hm⟩,rfl⟩
 simp only[dV,b9];have lR:ae.bq (S++[⟨0,some (.arr 48 5 [ow])⟩,⟨0,some (.arr 110 19 [kE j .aM .aM .aM 0 none])⟩]) S.length 0=some (48,5,[ow]):=by rw[dP,cE]
 have qX:ae.bq (S++[⟨0,some (.arr 48 5 [ow])⟩,⟨0,some (.arr 110 19 [kE j .aM .aM .aM 0 none])⟩]) (S.length+1) 0=some (110,19,[kE j .aM .aM .aM 0 none]):=by rw[iD,cT,cE]
 have hT0:∃T,(S++[⟨0,some (.arr 48 5 [ow])⟩,⟨0,some (.arr 110 19 [kE j .aM .aM .aM 0 none])⟩]:ae)=S++T:=⟨_,rfl⟩;have lQ:(S++[⟨0,some (.arr 48 5 [ow])⟩,⟨0,some (.arr 110 19 [kE j .aM .aM .aM 0 none])⟩]:ae).length=S.length+2:=by simp
 obtain⟨S1,Lt⟩:∃S1,S1=(S++[⟨0,some (.arr 48 5 [ow])⟩,⟨0,some (.arr 110 19 [kE j .aM .aM .aM 0 none])⟩]:ae):=⟨_,rfl⟩;rw[←Lt]at qX lR hT0 lQ;have ad6:=qX;simp only[kE,l9,jk,ow,aS,a8,cg]at Lt ad6;simp(disch:=first|omega|(simp only[ai];omega)) only[R_,←Lt,ad6,a_,bz,aj,↓eA,eB,aq,seval];refine ak.mono (On j _) ?_;rintro _ S9 ⟨b,rfl,hb,rK⟩;rw[rK];clear rK S9;have xm:∀(X:ae) r,(∃T,X=S++T)→X.bq S.length 0=some (48,5,[ow])→(∃T,X.set S.length ⟨0,some (.arr 48 5 [r])⟩=S++T)∧ae.bq (X.set S.length ⟨0,some (.arr 48 5 [r])⟩) S.length 0=some (48,5,[r]):=fun X r hT hb=>⟨(mA X S.length ⟨0,some (.arr 48 5 [r])⟩).ext hT fun q hq=>by omega,ed hb⟩;by_cases h0:j.w.length=0
 ·cases b
  case true=>have:=hb.1 rfl;omega
  obtain⟨xz,pY⟩:=xm S1 ow hT0 lR;unfold ow at xz pY lR;simp(disch:=first|omega|(simp only[ai];omega)) only[lR,pY,aj,↓eA,eB,aq,seval];exact out _ _ _ _ _ _ xz (lA _ _) (.inl ⟨h0,rfl⟩) fun h=>by cases h
 obtain rfl:b=true:=hb.2 ⟨by omega,hn6⟩;simp(disch:=first|omega|(simp only[ai];omega)) only[aj,↓eA,eB,aq,seval];refine ak.mono (J6 j hj S1 qX) ?_;rintro r S3 ⟨ov,lv,lf,nV,dq,mU⟩;have Au:=mU.obj lR (by omega);have Uw:=mU.ext hT0 fun q hq=>by omega
 have hl3:S.length+2≤S3.length:=by have:=mU.1;omega
 have hle:=dq.le 0 (az _);have pF:=fun bo pv h1 h2 h3 h4=>abb j hj 110 S3.length (S.length+1) ov lv lf (j.w.length+1) 0 (az _) (by omega) [] (ah _) (fun a h=>by simp at h) (fun e he=>he) bo pv S3 h1 h2 h3 h4;have fr:=pF none .aM (fun x hx=>by cases hx) dq (.inl ⟨rfl,rfl,rfl⟩) nV;clear pF;obtain⟨ol,tl,rfl,w6,qW⟩:=dq.H6;have nW:=Cp (lf:=lf) (show 0<j.w.length+1 by omega);have hlen:(td lf (j.w.length+1)).length=j.w.length+1:=by unfold td;simp
 have hz:(0:Int)<((j.w.length+1:Nat):Int):=by omega
 simp only[kE,l9,jk,aS,a8,cg]at nV;by_cases hr:lf 0= -1
 ·obtain⟨xz,pY⟩:=xm S3 ow Uw Au;unfold ow at xz pY Au;simp(disch:=first|omega|(simp only[ai];omega)) only[nV,qW,nW,hlen,dT hr,Au,pY,aj,↓eA,eB,aq,seval];refine out _ _ _ _ _ _ xz (lA _ _) (.inr ⟨by omega,.inl ⟨?_,rfl⟩⟩) fun h=>by cases h
  rcases hle with⟨_,h⟩|⟨h,_⟩
  ·exact h
  ·omega
 simp(disch:=first|omega|(simp only[ai];omega)) only[nV,qW,nW,hlen,dF hr,aj,↓eA,eB,aq,seval];refine ak.mono fr ?_;rintro r S4 ⟨bo,pv,ex,⟨ua,alZ⟩,ai5,amm,hd4,It⟩;have pY:=It.obj Au (by omega);have xz:=It.ext Uw fun q hq=>by omega
 have Eb:ny j 0:=by
  rcases hle with⟨h,_⟩|⟨_,h,_⟩
  ·exact(hr h).elim
  ·exact h
 cases bo with
 |none=>
  obtain⟨WM,Sy⟩:=xm S4 ow xz pY;simp only[kE,l9,jk,aS,a8,cg]at ua;unfold ow at WM Sy pY;simp(disch:=first|omega|(simp only[ai];omega)) only[ua,pY,Sy,aj,↓eA,eB,aq,seval];refine out _ _ _ _ _ _ WM (lA _ _) (.inr ⟨by omega,.inr (.inl ⟨Eb,?_,rfl⟩)⟩) fun h=>by cases h
  rintro⟨e,he,hp⟩;obtain⟨x,hx,_⟩:=hd4 e he hp;cases hx
 |some x=>
  obtain⟨WM,Sy⟩:=xm S4 (qR x.l x.ps (fW x.l,x.tx,tt j x.l)) xz pY;simp only[kE,l9,jk,qR,aS,a8,dX]at ua;unfold ow at pY;unfold qR at WM Sy;simp(disch:=first|omega|(simp only[ai];omega)) only[ua,pY,Sy,aj,↓eA,eB,aq,seval];obtain⟨hc,_⟩:=ai5 x rfl;refine out _ _ x.l x.ps (fW x.l,x.tx,tt j x.l) _ WM (.bX rfl) (.inr ⟨by omega,.inr (.inr ⟨⟨x.l,hc.1,hc.2⟩,rfl⟩)⟩) fun _ m hm hp=>?_;have h1:=EU hc.2;by_cases h2:fW m<fW x.l
  ·have h3:=Cd (fun z hz=>(hj.f.ok.2.2.2.2.1 z hz).1) (AW (FX hj hm)) (Int.le_of_lt h2) h1;obtain⟨y,hy,hle⟩:=hd4 m hm ((Hy (FX hj hm)).2 ⟨hp,h3.1⟩);cases hy;have h4:=h3.2.2 h2;unfold tt at hle;rw[a8]at hle;omega
  ·simp only;omega
end Go.Proofs.YtfgkgmmnldocaaaGreatDoor
