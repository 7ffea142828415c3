/- TcL -/
import Derived.Test.YtfgkgmmnldocaaaGreatDoorZCna
import Derived.Test.YtfgkgmmnldocaaaGreatDoorZAlJ
import Derived.Test.YtfgkgmmnldocaaaGreatDoorZTc1
set_option linter.unusedSectionVars false
set_option linter.unusedSimpArgs false
set_option linter.unusedVariables false
set_option maxHeartbeats 4000000
set_option maxRecDepth 4000
namespace Go.Proofs.YtfgkgmmnldocaaaGreatDoor
open Go Go.AL Go.RowKit
variable[Go.AL.Mode][Go.AL.bR]
theorem eX{S:ae}{i j aI:Nat}{o:Go.AL.Obj}(h:i≠j):ae.bq (S.set j o) i aI=S.bq i aI:=by
 unfold ae.bq;rw[bB (fun e=>h e.symm)]
def f_(D:Nat→Prop)(S S':ae):Prop:=S.length≤S'.length∧∀i,i<S.length→¬D i→S'[i]?=S[i]?
theorem f_.refl(D:Nat→Prop)(S:ae):f_ D S S:=⟨ah _,fun _ _ _=>rfl⟩
theorem f_.trans{D:Nat→Prop}{S S' Gi:ae}(h:f_ D S S')(k:f_ D S' Gi):f_ D S Gi:=
 ⟨dU h.1 k.1,fun i hi hd=>(k.2 i (by have:=h.1;omega) hd).trans (h.2 i hi hd)⟩
theorem f_.mono{D D':Nat→Prop}{S S':ae}(h:f_ D S S')(hd:∀i,i<S.length→D i→D' i):f_ D' S S':=
 ⟨h.1,fun i hi hn=>h.2 i hi fun k=>hn (hd i hi k)⟩
theorem f_.add(D:Nat→Prop)(S X:ae):f_ D S (S++X):=⟨by simp,fun i hi _=>aF hi⟩
theorem f_.set{D:Nat→Prop}{S S':ae}(h:f_ D S S'){b:Nat}(hb:b<S.length→D b)(o:Go.AL.Obj):f_ D S (S'.set b o):=
 ⟨by rw[fQ];exact h.1,fun i hi hn=>by
  rw[bB (fun e=>hn (by subst e;exact hb hi))];exact h.2 i hi hn⟩
theorem f_.obj{D:Nat→Prop}{S S':ae}(h:f_ D S S'){id aI:Nat}{r:TypeId×Nat×List (List V)}(ho:S.bq id aI=some r)(hd:¬D id):S'.bq id aI=some r:=by
 have aR:=gW ho;unfold ae.bq at*;rw[h.2 id aR hd];exact ho
theorem f_.ext{D:Nat→Prop}{S0 S S':ae}(h:f_ D S S')(hx:∃T,S=S0++T)(hd:∀i,D i→S0.length≤i):∃T,S'=S0++T:=by
 obtain⟨T,rfl⟩:=hx;have hl:=h.1;rw[aH]at hl;refine⟨S'.drop S0.length,?_⟩;apply iM;intro i;by_cases hi:i<S0.length
 ·rw[aF hi,h.2 i (by simp;omega) (fun k=>by have:=hd i k;omega),aF hi]
 ·rw[aD (by omega),List.getElem?_drop,show S0.length+(i-S0.length)=i by omega]
def nn(v:V)(i:Nat):Prop:=∃aI o l,v= .cU i aI o l
def lz(lo:Nat)(S:ae)(q:TypeId)(sz:Nat)(rows:List (List V))(v:V):Prop:=
 (v= .aM∧rows=[])∨∃c aI,lo≤c∧v= .cU c aI 0 rows.length∧S.bq c aI=some (q,sz,rows)
section
variable{lo:Nat}{S S':ae}{q:TypeId}{sz:Nat}{rows:List (List V)}{v:V}
theorem lz.pF{D:Nat→Prop}(h:lz lo S q sz rows v)(hf:f_ D S S')(hd:∀i,nn v i→¬D i):lz lo S' q sz rows v:=by
 rcases h with h|⟨c,aI,h1,h2,h3⟩
 ·exact .inl h
 ·exact .inr ⟨c,aI,h1,h2,hf.obj h3 (hd c ⟨_,_,_,h2⟩)⟩
theorem lz.lt(h:lz lo S q sz rows v){i:Nat}(hi:nn v i):i<S.length∧lo≤i:=by
 obtain⟨aI,o,l,rfl⟩:=hi;rcases h with⟨h,_⟩|⟨c,gS,h1,h2,h3⟩
 ·cases h
 ·cases h2;exact⟨gW h3,h1⟩
theorem lz.len(h:lz lo S q sz rows v)(S1:ae):oN S1 v=some (.int .i64 (rows.length:Nat)):=by
 rcases h with⟨rfl,rfl⟩|⟨c,aI,h1,rfl,h3⟩<;>rfl
theorem lz.cells(h:lz lo S q sz rows v):v.cells?=some [v]:=by
 rcases h with⟨rfl,rfl⟩|⟨c,aI,h1,rfl,h3⟩<;>rfl
theorem lz.app(h:lz lo S q sz rows v)(hlo:lo≤S.length){r:List V}{K:V→ae→Prop}(hl:rows.length≤1000000)
 (k:∀v' S',lz lo S' q sz (rows++[r]) v'→f_ (nn v) S S'→(∀i,nn v' i→nn v i∨S.length≤i)→K v' S'):kj q sz v (some (sz,[r])) S K:=by
 rcases h with⟨rfl,rfl⟩|⟨c,aI,h1,rfl,h3⟩
 ·rw[rB];refine⟨by unfold dw;simp,k _ _ (.inr ⟨S.length,0,hlo,by simp,?_⟩) (f_.add _ _ _) fun i ⟨aI,o,l,e⟩=>?_⟩
  ·rw[a8];exact dP.trans cE
  ·cases e;exact .inr (ah _)
 ·rw[ll,h3,iS];refine⟨rfl,by unfold dw;simp;omega,k _ _ (.inr ⟨c,aI+1,h1,by simp,ed h3⟩) ((f_.refl _ _).set (fun _=>⟨_,_,_,rfl⟩) _) fun i ⟨gS,o,l,e⟩=>?_⟩;cases e;exact .inl ⟨_,_,_,rfl⟩
end
theorem mA(S1:ae)(b:Nat)(o:Go.AL.Obj):f_ (fun i=>i=b) S1 (S1.set b o):=(f_.refl (fun i=>i=b) S1).set (fun _=>rfl) o
theorem lz.dK{lo:Nat}{S:ae}{q:TypeId}{sz:Nat}{rows:List (List V)}{v:V}(h:lz lo S q sz rows v):v.dK=true:=by
 rcases h with⟨rfl,rfl⟩|⟨c,aI,h1,rfl,h3⟩<;>rfl
theorem lz.rb{lo:Nat}{S S1:ae}{q:TypeId}{sz:Nat}{rows:List (List V)}{v:V}(h:lz lo S q sz rows v)(hl:S1.length≤lo)(hr:∀r∈rows,r.length=sz∧V.bQ r=true):jd S S1 v (.sl sz rows):=by
 rcases h with⟨rfl,rfl⟩|⟨c,aI,h1,rfl,h3⟩
 ·exact .nil
 ·exact .sl (by omega) h3 rfl hr
theorem wm{S:ae}(id:Nat):dead (kill S) id:=by
 have:=sG (S:=[]) (T:=S) (id:=id) (az _);simpa using this
def Pn:V→Bool
 | .int _ _=>true
 | .bool _=>true
 | .str _=>true
 |_=>false
def flat:V→Bool
 | .dI l=>l.all Pn
 |v=>Pn v
theorem Dd{ρ dn:AL.Place}{S S':ae}{w w':World}{b b':Bool}{v:V}{u:Value}(h:VR ρ S w b v u)(hf:Pn v=true):VR dn S' w' b' v u:=by
 cases h<;>first|(cases hf;done)|exact .int|exact .bool|skip
 exact .str ‹_› ‹_›
theorem UI{ρ dn:AL.Place}{S S':ae}{w w':World}{b b':Bool}{v:V}{u:Value}(h:VR ρ S w b v u)(hf:flat v=true):VR dn S' w' b' v u:=by
 by_cases ht:∃l,v= .dI l
 ·obtain⟨l,rfl⟩:=ht;cases h with
  |dI c hl hc hv=>exact .dI c hl hc fun j x hj=>Dd (hv j x hj) (List.all_eq_true.1 hf x (aB hj))
 ·refine Dd h ?_;cases v<;>first|exact hf|exact(ht ⟨_,rfl⟩).elim
theorem Fh{P:Program}{f:FuncId}{args p7:List V}{S:ae}{R:V→Prop}(h:ak P f p7 (kill S) fun x S'=>R x∧S'=kill S)(ha:D9 (jd S (kill S)) args p7)(hR:∀r,R r→flat r=true:=by rintro _ rfl;rfl):ak P f args S fun x S'=>R x∧S'=S:=by
 have eY:jv ([]:ae):=⟨fun id aI e sz rows h=>by simp at h,fun id aI m h=>by simp at h⟩;have hf:mV S (kill S):=by simpa using eY.Fi S
 obtain⟨h1,h2⟩:=ha.get;refine⟨h.1,fun ρ w us hi hv=>?_⟩;refine(h.2 ρ w us (hi.forget hf) ⟨by rw[hv.1,h1],fun j v1 hj=>?_⟩).mono fun en w' ⟨dn,S',r,u,e1,e2,e3,e4,e5⟩=>?_
 ·obtain⟨x,hx,hk⟩:=h2 j v1 hj;obtain⟨u,hu,hr⟩:=hv.2 j x hx;exact⟨u,hu,hk.rel hf hi hr⟩
 ·obtain⟨k1,rfl⟩:=e5;have hb:Below w.heap.size w w':=⟨e4.os,e4.tape.1,e4.output,e4.size,fun g hg=>(e4.un g ⟨hg,fun id o c g' db ho hc hr=>by
   have:=wm (S:=S) id o ho;rw[this]at hc;cases hc⟩).2⟩
  exact⟨ρ,S,_,_,e1,UI e2 (hR _ k1),yH hi hb,sF hb,k1,rfl⟩
theorem UL{S:ae}(hn:jv S){c aI:Nat}{r:TypeId×Nat×List (List V)}(ho:S.bq c aI=some r):mV S (S.set c ⟨aI,none⟩):=by
 have hlen:(S.set c ⟨aI,none⟩:ae).length=S.length:=fQ ..;have eY:∀{id:Nat} {o1:Go.AL.Obj},(S.set c ⟨aI,none⟩:ae)[id]?=some o1→(id=c∧o1=⟨aI,none⟩)∨S[id]?=some o1:=fun{id o1} h=>by
  by_cases dD:c=id
  ·subst dD;rw[aT (gW ho)]at h;cases h;exact .inl ⟨rfl,rfl⟩
  ·rw[bB dD]at h;exact .inr h
 refine⟨by omega,fun id o1 h=>?_,fun id o1 h m1 hm=>?_⟩
 ·rcases eY h with⟨rfl,rfl⟩|h1
  ·unfold ae.bq at ho;split at ho
   ·rename_i h2;split at ho
    ·exact⟨_,h2,by assumption,fun _ _ _ h=>by cases h⟩
    ·cases ho
   ·cases ho
  ·obtain⟨v,st⟩:=o1;refine⟨_,h1,rfl,fun t sz cW dq=>?_⟩;simp only at dq;subst dq;refine⟨cW,rfl,rfl,fun i r1 hr=>(hn.1 id v t sz cW h1 r1 (aB hr)).1,fun i r1 hr j v1 hj r x iA hx=>?_⟩;rw[hr]at iA;cases iA;rw[hj]at hx;cases hx;exact .same (.inr (by omega))
 ·rcases eY h with⟨rfl,rfl⟩|h1
  ·cases hm
  ·obtain⟨v,st⟩:=o1;simp only at hm;subst hm;refine⟨_,m1,h1,rfl,rfl,XF.same fun _ _ _=>.inr (by omega),rfl,rfl,fun p hp=>((hn.2 id v m1 h1).1 p hp).2.2,fun i p1 p h1 h2=>?_⟩;rw[h1]at h2;cases h2;exact⟨.same (.inr (by omega)),.same (.inr (by omega))⟩
theorem lz.aeF{P:Program}{f:FuncId}{lo:Nat}{S:ae}{q:TypeId}{sz:Nat}{rows:List (List V)}{a v c:V}{R:V→ae→Prop}(hn:jv S)(h:lz lo S q sz rows v)(hr:∀r∈rows,r.length=sz∧V.bQ r=true)
 (k:∀S1,f_ (nn v) S S1→S1.length=S.length→ak P f [a,.sl sz rows,c] S1 R):ak P f [a,v,c] S R:=by
 have key:∀S1,mV S S1→S1.length=S.length→jd S S1 v (.sl sz rows)→ak P f [a,.sl sz rows,c] S1 R→ak P f [a,v,c] S R:=fun S1 hf hl hz hc=>by
  refine hc.froze hf (by omega) rfl fun j v1 v0 h1 h0=>?_;match j with
  |0=>cases h1;cases h0;exact .same (.inr (by omega))
  |1=>cases h1;cases h0;exact hz
  |2=>cases h1;cases h0;exact .same (.inr (by omega))
  |j+3=>cases h1
 rcases h with⟨rfl,rfl⟩|⟨b,aI,h1,rfl,h3⟩
 ·exact key S hn.self rfl .nil (k S (f_.refl _ _) rfl)
 ·refine key (S.set b ⟨aI,none⟩) (UL hn h3) (fQ ..) (.dead (fun o ho=>?_) h3 rfl hr) (k _ ((f_.refl _ _).set (fun _=>⟨_,_,_,rfl⟩) _) (fQ ..));rw[aT (gW h3)]at ho;cases ho;rfl
theorem lz.Kl{lo:Nat}{S:ae}{q:TypeId}{sz:Nat}{rows:List (List V)}{v:V}(h:lz lo S q sz rows v)(hr:∀r∈rows,r.length=sz∧V.bQ r=true):jd S (kill S) v (.sl sz rows):=by
 rcases h with⟨rfl,rfl⟩|⟨c,aI,h1,rfl,h3⟩
 ·exact .nil
 ·exact .dead (wm c) h3 rfl hr
end Go.Proofs.YtfgkgmmnldocaaaGreatDoor
namespace Go.Proofs.YtfgkgmmnldocaaaGreatDoor
open Go Go.AL
variable[Go.AL.Mode][Go.AL.bR]
def dvB(x:Tx)(l:List Sg)(k n:Nat)(b1 b2:Bool):Bool:=
 if x.kd=1 then b1&&(decide (k=0)||!Iz (lE l (k-1)) (lE l k) x.tr)
 else if x.kd=2 then b2&&(decide (k+1=l.length)||!Iz (lE l k) (lE l (k+1)) x.tr)
 else if x.kd=3 then b1||b2 else(b1||b2)&&decide (n=0)
theorem KP(σ:kL)(x:Tx)(hx:j7 x)(l:List Sg)(hl:l.length≤1000)(ht:∀s∈l,rH s)(k n:Nat)(hk:k<l.length)(hn:n≤1000)(b1 b2:Bool)(E:Env)(S:ae)(bx:Nat)(Q:Exit→Env→ae→Prop)
 (e2:E.get 2= .sl 7 (l.map gl))(e5:E.get 5= .bK (fk x))(e9:E.get 9= .int .i64 (n:Nat))(uO:E.get 10= .int .i64 (k:Nat))(KO:E.get 11= .ptr bx 0 0 0)(KN:E.get 12= .bool b1)(KL:E.get 13= .bool b2)
 (hb:ae.bq S bx 0=some (75,7,[gl (lE l k)]))
 (hQ:∀E',E'.get 9= .int .i64 ((n+if dvB x l k n b1 b2=true then 1 else 0:Nat):Nat)→(∀j,j=2∨j=4∨j=5∨j=19∨j=20∨j=21→E'.get j=E.get j)→Q .normal E' S):ji Tryz.prog 121 σ F7 Q E S:=by
 obtain⟨s,hc⟩:∃s,l[k]?=some s:=⟨_,ax hk⟩;have uD:=ht s (aB hc);have f1:=fun a n (ha:a∈l) S=>yY a s n (ht a ha) uD S;have f2:=fun a n (ha:a∈l) S=>yY s a n uD (ht a ha) S;have cN:(k:Int)+1=((k+1:Nat):Int):=by omega
 unfold dvB at hQ;rw[p_ hc]at hQ hb;unfold j7 at hx;obtain⟨s1,s2,s3,s4,s5,s6,s7⟩:=s;obtain⟨x1,x2,x3,x4,x5,tr,x7⟩:=x;simp only[gl,fk]at hb e5 f1 f2 hx hQ;have fin:∀b:Bool,(b=if x2=1 then b1&&(decide (k=0)||!Iz (lE l (k-1)) ⟨s1,s2,s3,s4,s5,s6,s7⟩ tr)else if x2=2 then b2&&(decide (k+1=l.length)||!Iz ⟨s1,s2,s3,s4,s5,s6,s7⟩ (lE l (k+1)) tr)else if x2=3 then b1||b2 else(b1||b2)&&decide (n=0))→
  ∀E',E'.get 9= .int .i64 ((n+if b=true then 1 else 0:Nat):Nat)→(∀j,j=2∨j=4∨j=5∨j=19∨j=20∨j=21→E'.get j=E.get j)→Q .normal E' S:=fun b hb=>by
  rw[hb];exact hQ
 clear hQ;unfold F7;have rJ:((n:Nat):Int)+1=((n+1:Nat):Int):=by omega
 by_cases h1:x2=1
 ·have tz:(k:Int)-1=((k-1:Nat):Int)∨k=0:=by omega
  rw[aK h1]at fin;cases b1 with
  |false=>
   simp(disch:=first|omega|(simp only[ai];omega)) only[e2,e5,e9,uO,KO,KN,KL,dT h1,aj,↓eA,eB,aq,seval];exact fin false (by rfl) _ e9 (fun j hj=>by rcases hj with rfl|rfl|rfl|rfl|rfl|rfl<;>rfl)
  |true=>
   by_cases Fw:k=0
   ·simp(disch:=first|omega|(simp only[ai];omega)) only[e2,e5,e9,uO,KO,KN,KL,dT h1,dT (show(k:Int)=0 by omega),wrap_i64,cN,rJ,aj,↓eA,eB,aq,seval];exact fin true (by rw[dT Fw];rfl) _ rfl (fun j hj=>by rcases hj with rfl|rfl|rfl|rfl|rfl|rfl<;>rfl)
   ·obtain⟨a,ha⟩:∃a,l[k-1]?=some a:=⟨_,ax (by omega)⟩;have fa:=fun S=>f1 a tr (aB ha) S;rw[p_ ha,dF Fw,cQ,aX]at fin;obtain⟨fb,hfb⟩:∃fb,fb=Iz a ⟨s1,s2,s3,s4,s5,s6,s7⟩ tr:=⟨_,rfl⟩;rw[←hfb]at fin fa;clear hfb;obtain⟨a1,a2,a3,a4,a5,a6,a7⟩:=a;simp only at fa;simp(disch:=first|omega|(simp only[ai];omega)) only[e2,e5,e9,uO,KO,KN,KL,hb,ha,gl,dT h1,dF (show ¬(k:Int)=0 by omega),wrap_i64,cN,tz.resolve_right Fw,aj,↓eA,eB,aq,seval];refine(fa _).then ?_
    cases fb with
    |true=>
     simp(disch:=first|omega|(simp only[ai];omega)) only[e9,aj,↓eA,eB,aq,seval];exact fin false (by rfl) _ e9 (fun j hj=>by rcases hj with rfl|rfl|rfl|rfl|rfl|rfl<;>rfl)
    |false=>
     simp(disch:=first|omega|(simp only[ai];omega)) only[e9,wrap_i64,rJ,aj,↓eA,eB,aq,seval];exact fin true (by rfl) _ rfl (fun j hj=>by rcases hj with rfl|rfl|rfl|rfl|rfl|rfl<;>rfl)
 rw[aC h1]at fin;by_cases h2:x2=2
 ·skip
  rw[aK h2]at fin;cases b2 with
  |false=>
   simp(disch:=first|omega|(simp only[ai];omega)) only[e2,e5,e9,uO,KO,KN,KL,dT h2,dF h1,aj,↓eA,eB,aq,seval];exact fin false (by rfl) _ e9 (fun j hj=>by rcases hj with rfl|rfl|rfl|rfl|rfl|rfl<;>rfl)
  |true=>
   by_cases Fw:k+1=l.length
   ·simp(disch:=first|omega|(simp only[ai];omega)) only[e2,e5,e9,uO,KO,KN,KL,dT h2,dF h1,dT (show((k+1:Nat):Int)=l.length by omega),wrap_i64,cN,rJ,aj,↓eA,eB,aq,seval];exact fin true (by rw[dT Fw];rfl) _ rfl (fun j hj=>by rcases hj with rfl|rfl|rfl|rfl|rfl|rfl<;>rfl)
   ·obtain⟨a,ha⟩:∃a,l[k+1]?=some a:=⟨_,ax (by omega)⟩;have fa:=fun S=>f2 a tr (aB ha) S;rw[p_ ha,dF Fw,cQ,aX]at fin;obtain⟨fb,hfb⟩:∃fb,fb=Iz ⟨s1,s2,s3,s4,s5,s6,s7⟩ a tr:=⟨_,rfl⟩;rw[←hfb]at fin fa;clear hfb;obtain⟨a1,a2,a3,a4,a5,a6,a7⟩:=a;simp only at fa;simp(disch:=first|omega|(simp only[ai];omega)) only[e2,e5,e9,uO,KO,KN,KL,hb,ha,gl,dT h2,dF h1,dF (show ¬((k+1:Nat):Int)=l.length by omega),wrap_i64,cN,cN,aj,↓eA,eB,aq,seval];refine(fa _).then ?_
    cases fb with
    |true=>
     simp(disch:=first|omega|(simp only[ai];omega)) only[e9,aj,↓eA,eB,aq,seval];exact fin false (by rfl) _ e9 (fun j hj=>by rcases hj with rfl|rfl|rfl|rfl|rfl|rfl<;>rfl)
    |false=>
     simp(disch:=first|omega|(simp only[ai];omega)) only[e9,wrap_i64,rJ,aj,↓eA,eB,aq,seval];exact fin true (by rfl) _ rfl (fun j hj=>by rcases hj with rfl|rfl|rfl|rfl|rfl|rfl<;>rfl)
 rw[aC h2]at fin;by_cases h3:x2=3
 ·rw[aK h3]at fin;cases C5:b1||b2 with
  |false=>
   obtain⟨rfl,rfl⟩:=Bool.or_eq_false_iff.1 C5;simp(disch:=first|omega|(simp only[ai];omega)) only[e2,e5,e9,uO,KO,KN,KL,dF h1,dF h2,dT h3,aj,↓eA,eB,aq,seval];exact fin false (by rfl) _ e9 (fun j hj=>by rcases hj with rfl|rfl|rfl|rfl|rfl|rfl<;>rfl)
  |true=>
   rw[C5]at fin;cases b1<;>cases b2<;>first
    |(cases C5;done)
    |(simp(disch:=first|omega|(simp only[ai];omega)) only[e2,e5,e9,uO,KO,KN,KL,dF h1,dF h2,dT h3,wrap_i64,rJ,aj,↓eA,eB,aq,seval]
      exact fin true (by rfl) _ rfl (fun j hj=>by rcases hj with rfl|rfl|rfl|rfl|rfl|rfl<;>rfl))
 ·rw[aC h3]at fin;have h4:x2=4:=by omega
  cases C5:b1||b2 with
  |false=>
   obtain⟨rfl,rfl⟩:=Bool.or_eq_false_iff.1 C5;simp(disch:=first|omega|(simp only[ai];omega)) only[e2,e5,e9,uO,KO,KN,KL,dF h1,dF h2,dF h3,dT h4,aj,↓eA,eB,aq,seval];exact fin false (by rfl) _ e9 (fun j hj=>by rcases hj with rfl|rfl|rfl|rfl|rfl|rfl<;>rfl)
  |true=>
   rw[C5,aX]at fin;by_cases uE:n=0
   ·cases b1<;>cases b2<;>first
     |(cases C5;done)
     |(simp(disch:=first|omega|(simp only[ai];omega)) only[e2,e5,e9,uO,KO,KN,KL,dF h1,dF h2,dF h3,dT h4,dT (show(n:Int)=0 by omega),wrap_i64,rJ,aj,↓eA,eB,aq,seval]
       exact fin true (by rw[dT uE]) _ rfl (fun j hj=>by rcases hj with rfl|rfl|rfl|rfl|rfl|rfl<;>rfl))
   ·cases b1<;>cases b2<;>first
     |(cases C5;done)
     |(simp(disch:=first|omega|(simp only[ai];omega)) only[e2,e5,e9,uO,KO,KN,KL,dF h1,dF h2,dF h3,dT h4,dF (show ¬(n:Int)=0 by omega),aj,↓eA,eB,aq,seval]
       exact fin false (by rw[dF uE]) _ e9 (fun j hj=>by rcases hj with rfl|rfl|rfl|rfl|rfl|rfl<;>rfl))
def Jy(p:fO)(x:Tx)(l:List Sg)(k:Nat):Nat:=if x.kd=4 then min (DD p x l k) 1 else DD p x l k
theorem L0(p:fO)(x:Tx)(l:List Sg)(k:Nat):Jy p x l k≤k:=by
 have:=wx p x l k;unfold Jy;split<;>omega
theorem ZF{p:fO}{x:Tx}{l:List Sg}{k:Nat}(h:VG p x (lE l k)=false):Jy p x l (k+1)=Jy p x l k:=by
 have:FU p x l k=false:=by unfold FU;rw[h,aO]
 unfold Jy;rw[DD,this];rfl
theorem ZE{p:fO}{x:Tx}{l:List Sg}{k:Nat}{b1 b2:Bool}(h1:UE p x (lE l k)=b1)(h2:El p x (lE l k)=b2)(hx:j7 x)(h:x.sc=0∨x.sc=1∧(b1&&b2)=true∨x.sc=2∧(b1 !=b2)=true):
 Jy p x l (k+1)=Jy p x l k+if dvB x l k (Jy p x l k) b1 b2=true then 1 else 0:=by
 have hs:VG p x (lE l k)=(b1||b2):=by
  unfold VG;rw[h1,h2];rcases h with h|⟨h,hb⟩|⟨h,hb⟩
  ·rw[aK h]
  ·rw[aC (by omega),aK h,hb];cases b1<;>cases b2<;>first|rfl|cases hb
  ·rw[aC (by omega),aC (by omega),hb];cases b1<;>cases b2<;>first|rfl|cases hb
 unfold j7 at hx;unfold Jy dvB;rw[DD];unfold FU;rw[hs,h1,h2];by_cases k1:x.kd=1
 ·simp only[aC (show ¬x.kd=4 by omega),aK k1];cases b1<;>simp
 by_cases k2:x.kd=2
 ·simp only[aC (show ¬x.kd=4 by omega),aC k1,aK k2];cases b2<;>simp
 by_cases k3:x.kd=3
 ·simp only[aC (show ¬x.kd=4 by omega),aC k1,aC k2,aK k3,mW]
 simp only[aK (show x.kd=4 by omega),aC k1,aC k2,aC k3,mW];cases b1||b2 with
 |false=>simp
 |true=>
  by_cases h0:DD p x l k=0
  ·rw[h0];simp
  ·rw[aK rfl,aC (by simp;omega)];omega
theorem SR(p:fO)(hp:p.1.length≤1000)(x:Tx)(hx:j7 x)(l:List Sg)(hl:l.length≤1000)(ht:∀s∈l,rH s)(iz:bS)(S:ae):
 ak Tryz.prog 189 [dV p,.agg (fk x),.sl 7 (l.map gl),.str iz] S fun r S'=>r= .int .i64 (uZ p x l iz:Nat)∧S'=S:=by
 refine ak.bp Tryz.func189 P7 fun hn=>?_;refine ak.fin Tryz.func189 P7 (U rfl) fun σ b_=>?_;have hs:=fun S=>FD x.fr iz S;have cy:=fun c S=>KS p hp c S;unfold uZ;simp only[dV,fk]at cy⊢;obtain⟨c4,mN⟩:∃c4,c4=V.bK [.sl 5 (p.1.map dG),.sl 3 (p.2.map cZ)]:=⟨_,rfl⟩;obtain⟨c5,jm⟩:∃c5,c5=V.bK (fk x):=⟨_,rfl⟩;simp(disch:=first|omega|(simp only[ai];omega)) only[Rw,aj,↓eA,eB,aq,seval];refine(hs _).then ?_
 cases hcn:x.fr.contains iz with
 |true=>
  simp(disch:=first|omega|(simp only[ai];omega)) only[aj,↓eA,eB,aq,seval];exact⟨_,S,hn.self,.bX rfl,ah _,rfl,rfl⟩
 |false=>
 rw[aC (by simp),show(if x.kd=4 then min (DD p x l l.length) 1 else DD p x l l.length)=Jy p x l l.length from rfl];simp(disch:=first|omega|(simp only[ai];omega)) only[aj,↓eA,eB,aq,seval];refine dm (ι:=Nat×ae) (fun i=>[(2,.sl 7 (l.map gl)),(4,c4),(5,c5),(9,.int .i64 (Jy p x l i.1:Nat)),(19,.sl 7 (l.map gl)),(20,.int .i64 l.length),(21,.int .i64 (i.1:Nat))]) (fun i=>i.2) (fun i=>i.1≤l.length∧∃T,i.2=S++T) (fun i=>l.length-i.1)
  (fun i hi=>by rw[b_];obtain⟨T,hT⟩:=hi.2;rw[hT];simp) (0,S) ⟨az _,[],by simp⟩ (.inl ⟨?_,rfl⟩) ?_
 ·have h0:Jy p x l 0=0:=by have:=L0 p x l 0;omega
  rw[mN,jm];simp only[h0,fk,↓eA,eB,aq,seval];try rfl
 rintro⟨k,S1⟩ ⟨pX,T,hT⟩;simp only at pX hT⊢;cases hc:l[k]? with
 |none=>
  obtain⟨eh,he⟩:=dE hc;obtain rfl:k=l.length:=by omega
  have aR:¬((l.length:Int)<(l.length:Nat)):=by omega
  simp(disch:=first|omega|(simp only[ai];omega)) only[dF aR,aj,↓eA,eB,aq,seval];exact⟨_,S,by rw[hT];exact hn.dO _,.bX rfl,ah _,rfl,rfl⟩
 |some s=>
  have cK:=(List.getElem?_eq_some_iff.1 hc).1;have aR:(k:Int)<l.length:=by omega
  have cN:(k:Int)+1=((k+1:Nat):Int):=by omega
  have Fs:=L0 p x l k;have hsg:=p_ hc;obtain⟨b1,n_⟩:∃b,b=UE p x s:=⟨_,rfl⟩;obtain⟨b2,nB⟩:∃b,b=El p x s:=⟨_,rfl⟩;have hb:ae.bq (S1++[⟨0,some (.arr 75 7 [gl (lE l k)])⟩]) S1.length 0=some (75,7,[gl (lE l k)]):=dP.trans cE;have jU:∃T2,S1++[⟨0,some (.arr 75 7 [gl (lE l k)])⟩]=S++T2:=⟨T++_,by rw[hT];exact bG ..⟩;have ds:=fun E S2 bx Q e2 e5 e9 uO KO KN KL hb hQ=>KP σ x hx l hl ht k (Jy p x l k) cK (by omega) b1 b2 E S2 bx Q e2 e5 e9 uO KO KN KL hb hQ;have no:=fun h=>ZF (p:=p) (x:=x) (l:=l) (k:=k) h;have on:=fun h=>ZE (l:=l) (k:=k) (b1:=b1) (b2:=b2) (by rw[hsg,n_]) (by rw[hsg,nB]) hx h;rw[hsg]at hb jU no;unfold VG at no;rw[←n_,←nB]at no;have c1:=fun S=>cy s.f S;have c2:=fun S=>cy s.t S;unfold UE at n_;unfold El at nB;generalize Lv p s.f=y1 at*;generalize Lv p s.t=y2 at*;unfold j7 at hx;rw[mN,jm];simp(disch:=first|omega|(simp only[ai];omega)) only[dT aR,hc,gl,fk,aj,↓eA,eB,aq,seval];refine qv.intro (c1 _) ?_;simp(disch:=first|omega|(simp only[ai];omega)) only[aj,↓eA,eB,aq,seval];refine qv.intro (c2 _) ?_;obtain⟨S2,cO⟩:∃S2,S2=(S1++[⟨0,some (.arr 75 7 [gl s])⟩]:ae):=⟨_,rfl⟩;rw[←cO]at hb jU;simp only[gl]at cO;have hsc:x.sc=0∨x.sc=1∨x.sc=2:=by omega
  have q1:(false==true)=false:=rfl;have q2:(true==false)=false:=rfl;have q3:(false==false)=true:=rfl;have q4:(true==true)=true:=rfl;rcases hsc with h|h|h
  ·replace on:=on (.inl h);simp(disch:=first|omega|(simp only[ai];omega)) only[←n_,←nB,dT h,←cO,aj,↓eA,eB,aq,seval];refine ds _ _ S1.length _ (by rfl) (by rfl) (by rfl) (by rfl) (by rfl) (by rfl) (by rfl) (by rw[hsg];exact hb) fun E' g9 gs=>?_;rw[←on]at g9;have g2:=gs 2 (by simp);have g4:=gs 4 (by simp);have g5:=gs 5 (by simp);have g19:=gs 19 (by simp);have g20:=gs 20 (by simp);have g21:=gs 21 (by simp);simp only[↓eA,eB,aq,seval]at g2 g4 g5 g19 g20 g21;simp(disch:=first|omega|(simp only[ai];omega)) only[g21,wrap_i64,cN,aj,↓eA,eB,aq,seval];exact⟨(k+1,_),⟨by simp only;omega,jU⟩,by simp only;omega,.inl ⟨by simp only[mN,jm,fk,g2,g4,g5,g9,g19,g20,↓eA,eB,aq,seval];try rfl,rfl⟩⟩
  ·by_cases jn:(b1&&b2)=true
   ·replace on:=on (.inr (.inl ⟨h,jn⟩));cases b1<;>cases b2<;>first
     |(cases jn;done)
     |(simp(disch:=first|omega|(simp only[ai];omega)) only[←n_,←nB,dF (show ¬x.sc=0 by omega),dT h,←cO,aj,↓eA,eB,aq,seval]
       refine ds _ _ S1.length _ (by rfl) (by rfl) (by rfl) (by rfl) (by rfl) (by rfl) (by rfl) (by rw[hsg];exact hb) fun E' g9 gs=>?_;rw[←on]at g9;have g2:=gs 2 (by simp);have g4:=gs 4 (by simp);have g5:=gs 5 (by simp);have g19:=gs 19 (by simp);have g20:=gs 20 (by simp);have g21:=gs 21 (by simp);simp only[↓eA,eB,aq,seval]at g2 g4 g5 g19 g20 g21;simp(disch:=first|omega|(simp only[ai];omega)) only[g21,wrap_i64,cN,aj,↓eA,eB,aq,seval];exact⟨(k+1,_),⟨by simp only;omega,jU⟩,by simp only;omega,.inl ⟨by simp only[mN,jm,fk,g2,g4,g5,g9,g19,g20,↓eA,eB,aq,seval];try rfl,rfl⟩⟩)
   ·replace no:=no (by rw[aC (by omega),aK h];simpa using jn);cases b1<;>cases b2<;>first
     |exact(jn rfl).elim
     |(simp(disch:=first|omega|(simp only[ai];omega)) only[←n_,←nB,dF (show ¬x.sc=0 by omega),dT h,←cO,wrap_i64,cN,aj,↓eA,eB,aq,seval]
       exact⟨(k+1,_),⟨by simp only;omega,jU⟩,by simp only;omega,.inl ⟨by simp only[mN,jm,fk,no,↓eA,eB,aq,seval];try rfl,rfl⟩⟩)
  ·by_cases jn:(b1 !=b2)=true
   ·replace on:=on (.inr (.inr ⟨h,jn⟩));cases b1<;>cases b2<;>first
     |(cases jn;done)
     |(simp(disch:=first|omega|(simp only[ai];omega)) only[←n_,←nB,dF (show ¬x.sc=0 by omega),dF (show ¬x.sc=1 by omega),dT h,q1,q2,q3,q4,←cO,aj,↓eA,eB,aq,seval]
       refine ds _ _ S1.length _ (by rfl) (by rfl) (by rfl) (by rfl) (by rfl) (by rfl) (by rfl) (by rw[hsg];exact hb) fun E' g9 gs=>?_;rw[←on]at g9;have g2:=gs 2 (by simp);have g4:=gs 4 (by simp);have g5:=gs 5 (by simp);have g19:=gs 19 (by simp);have g20:=gs 20 (by simp);have g21:=gs 21 (by simp);simp only[↓eA,eB,aq,seval]at g2 g4 g5 g19 g20 g21;simp(disch:=first|omega|(simp only[ai];omega)) only[g21,wrap_i64,cN,aj,↓eA,eB,aq,seval];exact⟨(k+1,_),⟨by simp only;omega,jU⟩,by simp only;omega,.inl ⟨by simp only[mN,jm,fk,g2,g4,g5,g9,g19,g20,↓eA,eB,aq,seval];try rfl,rfl⟩⟩)
   ·replace no:=no (by rw[aC (by omega),aC (by omega)];simpa using jn);cases b1<;>cases b2<;>first
     |exact(jn rfl).elim
     |(simp(disch:=first|omega|(simp only[ai];omega)) only[←n_,←nB,dF (show ¬x.sc=0 by omega),dF (show ¬x.sc=1 by omega),dT h,q1,q2,q3,q4,←cO,wrap_i64,cN,aj,↓eA,eB,aq,seval]
       exact⟨(k+1,_),⟨by simp only;omega,jU⟩,by simp only;omega,.inl ⟨by simp only[mN,jm,fk,no,↓eA,eB,aq,seval];try rfl,rfl⟩⟩)
end Go.Proofs.YtfgkgmmnldocaaaGreatDoor
namespace Go.Proofs.YtfgkgmmnldocaaaGreatDoor
open Go Go.AL
variable[Go.AL.Mode][Go.AL.bR]
def zg(f:Int)(x:Tx)(n:Nat):Int×Int:=if n=0 then(0,0)else if x.kd=4 then((Ml.cG f x.am).2,(Ml.cG f x.am).1)else(0,n*x.am)
def lu(f:Int)(tm:Tx→Nat):List (bS×Int)→List Tx→Int×List (bS×Int)
 |acc,[]=>(0,acc)
 |acc,x::r=>if(zg f x (tm x)).1≠0 then((zg f x (tm x)).1,[])else if 1099511627776<(zg f x (tm x)).2 then(11,[])else if(zg f x (tm x)).2≠0 then lu f tm (acc++[(x.cd,(zg f x (tm x)).2)]) r else lu f tm acc r
def ot(c:bS×Int):List V:=[.str c.1,.int .i64 c.2]
def ofV(r:Int×List (bS×Int)):V:=.dI [.sl 2 (r.2.map ot),.int .i64 r.1]
theorem PS(l:List (bS×Int)):∀r∈l.map ot,r.length=2∧V.bQ r=true:=fun r hr=>by
 obtain⟨x,_,rfl⟩:=List.mem_map.1 hr;exact⟨rfl,rfl⟩
def Jl(l:List Tx):Prop:=∀x∈l,j7 x∧x.fr.length≤1000000000
theorem L2(p:fO)(x:Tx)(l:List Sg)(iz:bS):uZ p x l iz≤l.length∧(x.kd=4→uZ p x l iz≤1):=by
 have:=wx p x l l.length;unfold uZ;split
 ·omega
 split<;>omega
theorem aaf(p:fO)(hp:p.1.length≤1000)(kM:List Tx)(hx:Jl kM)(CT:kM.length≤100000)(l:List Sg)(hl:l.length≤1000)(ht:∀s∈l,rH s)(iz:bS)(f:Int)(S:ae):
 ak Tryz.prog 159 [dV p,.sl 7 (kM.map fk),.sl 7 (l.map gl),.str iz,.int .i64 f] S fun r S'=>r=ofV (lu f (fun x=>uZ p x l iz) [] kM)∧S'=S:=by
 refine ak.bp Tryz.func159 Qb fun hn=>?_;refine ak.fin Tryz.func159 Qb (U rfl) fun σ b_=>?_;have tm:=fun x (hm:x∈kM) S=>SR p hp x (hx x hm).1 l hl ht iz S;have pc:=fun h hh S=>Ml.pq f h S hh;simp only[dV,fk]at tm⊢;obtain⟨c5,jm⟩:∃c5,c5=V.bK [.sl 5 (p.1.map dG),.sl 3 (p.2.map cZ)]:=⟨_,rfl⟩;simp(disch:=first|omega|(simp only[ai];omega)) only[RI,aj,↓eA,eB,aq,seval];refine dm (ι:=Nat×List (bS×Int)×V×ae) (fun i=>[(2,.sl 7 (l.map gl)),(3,.str iz),(4,.int .i64 f),(5,c5),(12,i.2.2.1),(19,.sl 7 (kM.map fk)),(20,.int .i64 kM.length),(21,.int .i64 (i.1:Nat))]) (fun i=>i.2.2.2)
  (fun i=>(i.1≤kM.length∧lu f (fun x=>uZ p x l iz) [] kM=lu f (fun x=>uZ p x l iz) i.2.1 (kM.drop i.1)∧i.2.1.length≤i.1)∧lz S.length i.2.2.2 237 2 (i.2.1.map ot) i.2.2.1∧∃T,i.2.2.2=S++T) (fun i=>kM.length-i.1)
  (fun i hi=>by rw[b_];obtain⟨T,hT⟩:=hi.2.2;rw[hT];simp) (0,[],.aM,S) ⟨⟨az _,rfl,ah _⟩,.inl ⟨rfl,rfl⟩,[],by simp⟩ (.inl ⟨?_,rfl⟩) ?_
 ·rw[jm];simp only[↓eA,eB,aq,seval];try rfl
 rintro⟨k,acc,v,S1⟩ ⟨⟨hk,hi,C7⟩,hL,T,hT⟩;simp only at hk hi C7 hL hT⊢;rw[jm];cases hc:kM[k]? with
 |none=>
  obtain⟨eh,he⟩:=dE hc;have aR:¬((k:Int)<kM.length):=by omega
  rw[he,lu]at hi;rw[hi];simp(disch:=first|omega|(simp only[ai];omega)) only[dF aR,aj,↓eA,eB,aq,seval];exact⟨_,S,by rw[hT];exact hn.dO _,.jj (hL.rb (ah _) (PS acc)) (.bX rfl),ah _,rfl,rfl⟩
 |some x=>
  have cK:=(List.getElem?_eq_some_iff.1 hc).1;have aR:(k:Int)<kM.length:=by omega
  have cN:(k:Int)+1=((k+1:Nat):Int):=by omega
  have hm:=aB hc;have hxo:=(hx x hm).1;unfold j7 at hxo;have Bd:=L2 p x l iz;have tmx:=fun S=>tm x hm S;rw[mB hc,lu]at hi;generalize uZ p x l iz=n at*;obtain⟨h,hh⟩:∃h:Nat,x.am=h:=⟨x.am.toNat,by omega⟩;have pch:=fun hh S=>pc h hh S;unfold zg at hi;rw[hh]at hi tmx;generalize Ml.cG f h=q at*;obtain⟨a,e⟩:=q;simp only at pch hi;obtain⟨S2,cO⟩:∃S2,S2=(S1++[⟨0,some (.arr 125 7 [fk x])⟩]):=⟨_,rfl⟩;have rL:lz S.length S2 237 2 (acc.map ot) v:=by rw[cO];exact hL.pF (f_.add (fun _=>False) S1 _) fun _ _ h=>h
  obtain⟨T2,jU⟩:∃T2,S2=S++T2:=⟨T++_,by rw[cO,hT];exact bG ..⟩;have hb:ae.bq S2 S1.length 0=some (125,7,[fk x]):=by rw[cO];exact dP.trans cE
  simp only[fk,hh]at hb cO;simp(disch:=first|omega|(simp only[ai];omega)) only[dT aR,hc,fk,hh,←cO,hb,aj,↓eA,eB,aq,seval];refine(tmx _).then ?_
  obtain⟨a0,FF⟩:∃a0,a0=(n:Int)*h:=⟨_,rfl⟩;have Fu:(n:Int)≤1000:=by omega
  have eh:0≤a0:=by rw[FF];exact Int.mul_nonneg (by omega) (by omega)
  have hle:a0≤1000*1099511627776:=by rw[FF];exact Int.mul_le_mul Fu (by omega) (by omega) (by omega)
  have hw:IntKind.i64.wrap ((n:Int)*h)=a0:=by rw[←FF];exact wrap_i64 (by omega) (by omega)
  rw[←FF]at hi;by_cases uE:n=0
  ·have ub:(n:Int)=0:=by omega
   have aa1:a0=0:=by rw[FF,ub];simp
   rw[aK uE]at hi;simp only at hi;rw[aC (by omega),aC (by omega),aC (by omega)]at hi;simp(disch:=first|omega|(simp only[ai];omega)) only[dT ub,wrap_i64,cN,aj,↓eA,eB,aq,seval];exact⟨(k+1,acc,v,S2),⟨⟨by simp only;omega,hi,by simp only;omega⟩,rL,T2,jU⟩,by simp only;omega,.inl ⟨by simp only[jm,↓eA,eB,aq,seval];try rfl,rfl⟩⟩
  rw[aC uE]at hi;have ub:¬(n:Int)=0:=by omega
  by_cases h4:x.kd=4
  ·rw[aK h4]at hi;have rJ:(n:Int)=1:=by have:=Bd.2 h4;omega
   simp(disch:=first|omega|(simp only[ai];omega)) only[dF ub,dT h4,hw,hc,fk,hh,hb,aj,↓eA,eB,aq,seval];refine(pch (by have:=hxo.2.1.2.2 h4;omega) _).then ?_
   by_cases hz:e≠0
   ·rw[aK hz]at hi;rw[hi];simp(disch:=first|omega|(simp only[ai];omega)) only[dT hz,dF (show ¬e=0 from hz),aj,↓eA,eB,aq,seval];exact⟨_,S,by rw[jU];exact hn.dO _,.jj .nil (.bX rfl),ah _,rfl,rfl⟩
   ·rw[aC hz]at hi;by_cases hg:1099511627776<a
    ·rw[aK hg]at hi;rw[hi];simp(disch:=first|omega|(simp only[ai];omega)) only[dF hz,dT (show e=0 by omega),hc,fk,hh,hb,dT hg,aj,↓eA,eB,aq,seval];exact⟨_,S,by rw[jU];exact hn.dO _,.jj .nil (.bX rfl),ah _,rfl,rfl⟩
    rw[aC hg]at hi;by_cases h0:a=0
    ·rw[aC (by omega)]at hi;simp(disch:=first|omega|(simp only[ai];omega)) only[dF hz,dT (show e=0 by omega),hc,fk,hh,hb,dF hg,dF (show ¬a≠0 by omega),dT h0,wrap_i64,cN,aj,↓eA,eB,aq,seval];exact⟨(k+1,acc,v,S2),⟨⟨by simp only;omega,hi,by simp only;omega⟩,rL,T2,jU⟩,by simp only;omega,.inl ⟨by simp only[jm,↓eA,eB,aq,seval];try rfl,rfl⟩⟩
    ·rw[aK h0]at hi;simp(disch:=first|omega|(simp only[ai];omega)) only[dF hz,dT (show e=0 by omega),hc,fk,hh,hb,dF hg,dT (show a≠0 from h0),dF h0,aj,↓eA,eB,aq,seval];refine rL.app (r:=ot (x.cd,a)) (by rw[jU];simp) (by simp;omega) fun v' S3 oq mU _=>?_;simp(disch:=first|omega|(simp only[ai];omega)) only[wrap_i64,cN,aj,↓eA,eB,aq,seval];exact⟨(k+1,acc++[(x.cd,a)],v',S3),⟨⟨by simp only;omega,hi,by simp only[aH,aN];omega⟩,by rw[bF];exact oq,mU.ext ⟨T2,jU⟩ fun j hj=>(rL.lt hj).2⟩,by simp only;omega,.inl ⟨by simp only[jm,↓eA,eB,aq,seval];try rfl,rfl⟩⟩
  ·rw[aC h4]at hi;simp only at hi;rw[aC (show ¬(0:Int)≠0 by omega)]at hi;by_cases hg:1099511627776<a0
   ·rw[aK hg]at hi;rw[hi];simp(disch:=first|omega|(simp only[ai];omega)) only[dF ub,dF h4,hw,hc,fk,hh,hb,dT hg,aj,↓eA,eB,aq,seval];exact⟨_,S,by rw[jU];exact hn.dO _,.jj .nil (.bX rfl),ah _,rfl,rfl⟩
   rw[aC hg]at hi;by_cases h0:a0=0
   ·rw[aC (by omega)]at hi;simp(disch:=first|omega|(simp only[ai];omega)) only[dF ub,dF h4,hw,hc,fk,hh,hb,dF hg,dF (show ¬a0≠0 by omega),dT h0,wrap_i64,cN,aj,↓eA,eB,aq,seval];exact⟨(k+1,acc,v,S2),⟨⟨by simp only;omega,hi,by simp only;omega⟩,rL,T2,jU⟩,by simp only;omega,.inl ⟨by simp only[jm,↓eA,eB,aq,seval];try rfl,rfl⟩⟩
   ·rw[aK h0]at hi;simp(disch:=first|omega|(simp only[ai];omega)) only[dF ub,dF h4,hw,hc,fk,hh,hb,dF hg,dT (show a0≠0 from h0),dF h0,aj,↓eA,eB,aq,seval];refine rL.app (r:=ot (x.cd,a0)) (by rw[jU];simp) (by simp;omega) fun v' S3 oq mU _=>?_;simp(disch:=first|omega|(simp only[ai];omega)) only[wrap_i64,cN,aj,↓eA,eB,aq,seval];exact⟨(k+1,acc++[(x.cd,a0)],v',S3),⟨⟨by simp only;omega,hi,by simp only[aH,aN];omega⟩,by rw[bF];exact oq,mU.ext ⟨T2,jU⟩ fun j hj=>(rL.lt hj).2⟩,by simp only;omega,.inl ⟨by simp only[jm,↓eA,eB,aq,seval];try rfl,rfl⟩⟩
theorem adf(p:fO)(hp:p.1.length≤1000)(kM:List Tx)(hx:Jl kM)(CT:kM.length≤100000)(l:List Sg)(hl:l.length≤1000)(ht:∀s∈l,rH s)(iz:bS)(f:Int)(S:ae):
 ak Tryz.prog 166 [dV p,.sl 7 (kM.map fk),.sl 7 (l.map gl),.str iz,.int .i64 f] S fun r S'=>r=ofV (lu f (fun x=>uZ p x l iz) [] kM)∧S'=S:=by
 refine ak.bp Tryz.func166 P9 fun hn=>?_;refine ak.fin Tryz.func166 P9 (U rfl) fun σ b_=>?_;have tm:=fun x (hm:x∈kM) S=>MP p hp x (hx x hm).1 l hl ht iz (hx x hm).2 S;have pc:=fun h hh S=>Ml.k_ f h S hh;simp only[dV,fk]at tm⊢;obtain⟨c5,jm⟩:∃c5,c5=V.bK [.sl 5 (p.1.map dG),.sl 3 (p.2.map cZ)]:=⟨_,rfl⟩;simp(disch:=first|omega|(simp only[ai];omega)) only[RB,aj,↓eA,eB,aq,seval];refine dm (ι:=Nat×List (bS×Int)×V×ae) (fun i=>[(1,.sl 7 (kM.map fk)),(2,.sl 7 (l.map gl)),(3,.str iz),(4,.int .i64 f),(5,c5),(12,i.2.2.1),(13,.int .i64 (i.1:Nat))]) (fun i=>i.2.2.2)
  (fun i=>(i.1≤kM.length∧lu f (fun x=>uZ p x l iz) [] kM=lu f (fun x=>uZ p x l iz) i.2.1 (kM.drop i.1)∧i.2.1.length≤i.1)∧lz S.length i.2.2.2 237 2 (i.2.1.map ot) i.2.2.1∧∃T,i.2.2.2=S++T) (fun i=>kM.length-i.1)
  (fun i hi=>by rw[b_];obtain⟨T,hT⟩:=hi.2.2;rw[hT];simp) (0,[],.aM,S) ⟨⟨az _,rfl,ah _⟩,.inl ⟨rfl,rfl⟩,[],by simp⟩ (.inl ⟨?_,rfl⟩) ?_
 ·rw[jm];simp only[↓eA,eB,aq,seval];try rfl
 rintro⟨k,acc,v,S1⟩ ⟨⟨hk,hi,C7⟩,hL,T,hT⟩;simp only at hk hi C7 hL hT⊢;rw[jm];cases hc:kM[k]? with
 |none=>
  obtain⟨eh,he⟩:=dE hc;have aR:¬((k:Int)<kM.length):=by omega
  rw[he,lu]at hi;rw[hi];simp(disch:=first|omega|(simp only[ai];omega)) only[dF aR,aj,↓eA,eB,aq,seval];exact⟨_,S,by rw[hT];exact hn.dO _,.jj (hL.rb (ah _) (PS acc)) (.bX rfl),ah _,rfl,rfl⟩
 |some x=>
  have cK:=(List.getElem?_eq_some_iff.1 hc).1;have aR:(k:Int)<kM.length:=by omega
  have cN:(k:Int)+1=((k+1:Nat):Int):=by omega
  have hm:=aB hc;have hxo:=(hx x hm).1;unfold j7 at hxo;have Bd:=L2 p x l iz;have tmx:=fun S=>tm x hm S;rw[mB hc,lu]at hi;generalize uZ p x l iz=n at*;obtain⟨h,hh⟩:∃h:Nat,x.am=h:=⟨x.am.toNat,by omega⟩;have pch:=fun hh S=>pc h hh S;unfold zg at hi;rw[hh]at hi tmx;generalize Ml.cG f h=q at*;obtain⟨a,e⟩:=q;simp only at pch hi;obtain⟨S2,cO⟩:∃S2,S2=S1:=⟨_,rfl⟩;have rL:lz S.length S2 237 2 (acc.map ot) v:=by rw[cO];exact hL
  obtain⟨T2,jU⟩:∃T2,S2=S++T2:=⟨T,by rw[cO,hT]⟩;subst cO;simp(disch:=first|omega|(simp only[ai];omega)) only[dT aR,hc,fk,hh,aj,↓eA,eB,aq,seval];refine(tmx _).then ?_
  obtain⟨a0,FF⟩:∃a0,a0=(n:Int)*h:=⟨_,rfl⟩;have Fu:(n:Int)≤1000:=by omega
  have eh:0≤a0:=by rw[FF];exact Int.mul_nonneg (by omega) (by omega)
  have hle:a0≤1000*1099511627776:=by rw[FF];exact Int.mul_le_mul Fu (by omega) (by omega) (by omega)
  have hw:IntKind.i64.wrap ((n:Int)*h)=a0:=by rw[←FF];exact wrap_i64 (by omega) (by omega)
  rw[←FF]at hi;by_cases uE:n=0
  ·have ub:(n:Int)=0:=by omega
   have aa1:a0=0:=by rw[FF,ub];simp
   rw[aK uE]at hi;simp only at hi;rw[aC (by omega),aC (by omega),aC (by omega)]at hi;by_cases h4:x.kd=4
   ·simp(disch:=first|omega|(simp only[ai];omega)) only[dT h4,dF (show ¬(n:Int)=1 by omega),hw,aa1,hc,fk,hh,wrap_i64,cN,aj,↓eA,eB,aq,seval];exact⟨(k+1,acc,v,S2),⟨⟨by simp only;omega,hi,by simp only;omega⟩,rL,T2,jU⟩,by simp only;omega,.inl ⟨by simp only[jm,↓eA,eB,aq,seval];try rfl,rfl⟩⟩
   ·simp(disch:=first|omega|(simp only[ai];omega)) only[dF h4,dF (show ¬(n:Int)=1 by omega),hw,aa1,hc,fk,hh,wrap_i64,cN,aj,↓eA,eB,aq,seval];exact⟨(k+1,acc,v,S2),⟨⟨by simp only;omega,hi,by simp only;omega⟩,rL,T2,jU⟩,by simp only;omega,.inl ⟨by simp only[jm,↓eA,eB,aq,seval];try rfl,rfl⟩⟩
  rw[aC uE]at hi;have ub:¬(n:Int)=0:=by omega
  by_cases h4:x.kd=4
  ·rw[aK h4]at hi;have rJ:(n:Int)=1:=by have:=Bd.2 h4;omega
   simp(disch:=first|omega|(simp only[ai];omega)) only[dT rJ,dT h4,hw,hc,fk,hh,aj,↓eA,eB,aq,seval];refine(pch (by have:=hxo.2.1.2.2 h4;omega) _).then ?_
   by_cases hz:e≠0
   ·rw[aK hz]at hi;rw[hi];simp(disch:=first|omega|(simp only[ai];omega)) only[dT hz,dF (show ¬e=0 from hz),aj,↓eA,eB,aq,seval];exact⟨_,S,by rw[jU];exact hn.dO _,.jj .nil (.bX rfl),ah _,rfl,rfl⟩
   ·rw[aC hz]at hi;by_cases hg:1099511627776<a
    ·rw[aK hg]at hi;rw[hi];simp(disch:=first|omega|(simp only[ai];omega)) only[dF hz,dT (show e=0 by omega),hc,fk,hh,dT hg,aj,↓eA,eB,aq,seval];exact⟨_,S,by rw[jU];exact hn.dO _,.jj .nil (.bX rfl),ah _,rfl,rfl⟩
    rw[aC hg]at hi;by_cases h0:a=0
    ·rw[aC (by omega)]at hi;simp(disch:=first|omega|(simp only[ai];omega)) only[dF hz,dT (show e=0 by omega),hc,fk,hh,dF hg,dF (show ¬a≠0 by omega),dT h0,wrap_i64,cN,aj,↓eA,eB,aq,seval];exact⟨(k+1,acc,v,S2),⟨⟨by simp only;omega,hi,by simp only;omega⟩,rL,T2,jU⟩,by simp only;omega,.inl ⟨by simp only[jm,↓eA,eB,aq,seval];try rfl,rfl⟩⟩
    ·rw[aK h0]at hi;simp(disch:=first|omega|(simp only[ai];omega)) only[dF hz,dT (show e=0 by omega),hc,fk,hh,dF hg,dT (show a≠0 from h0),dF h0,aj,↓eA,eB,aq,seval];refine rL.app (r:=ot (x.cd,a)) (by rw[jU];simp) (by simp;omega) fun v' S3 oq mU _=>?_;simp(disch:=first|omega|(simp only[ai];omega)) only[wrap_i64,cN,aj,↓eA,eB,aq,seval];exact⟨(k+1,acc++[(x.cd,a)],v',S3),⟨⟨by simp only;omega,hi,by simp only[aH,aN];omega⟩,by rw[bF];exact oq,mU.ext ⟨T2,jU⟩ fun j hj=>(rL.lt hj).2⟩,by simp only;omega,.inl ⟨by simp only[jm,↓eA,eB,aq,seval];try rfl,rfl⟩⟩
  ·rw[aC h4]at hi;simp only at hi;rw[aC (show ¬(0:Int)≠0 by omega)]at hi;by_cases hg:1099511627776<a0
   ·rw[aK hg]at hi;rw[hi];simp(disch:=first|omega|(simp only[ai];omega)) only[dF ub,dF h4,hw,hc,fk,hh,dT hg,aj,↓eA,eB,aq,seval];exact⟨_,S,by rw[jU];exact hn.dO _,.jj .nil (.bX rfl),ah _,rfl,rfl⟩
   rw[aC hg]at hi;by_cases h0:a0=0
   ·rw[aC (by omega)]at hi;simp(disch:=first|omega|(simp only[ai];omega)) only[dF ub,dF h4,hw,hc,fk,hh,dF hg,dF (show ¬a0≠0 by omega),dT h0,wrap_i64,cN,aj,↓eA,eB,aq,seval];exact⟨(k+1,acc,v,S2),⟨⟨by simp only;omega,hi,by simp only;omega⟩,rL,T2,jU⟩,by simp only;omega,.inl ⟨by simp only[jm,↓eA,eB,aq,seval];try rfl,rfl⟩⟩
   ·rw[aK h0]at hi;simp(disch:=first|omega|(simp only[ai];omega)) only[dF ub,dF h4,hw,hc,fk,hh,dF hg,dT (show a0≠0 from h0),dF h0,aj,↓eA,eB,aq,seval];refine rL.app (r:=ot (x.cd,a0)) (by rw[jU];simp) (by simp;omega) fun v' S3 oq mU _=>?_;simp(disch:=first|omega|(simp only[ai];omega)) only[wrap_i64,cN,aj,↓eA,eB,aq,seval];exact⟨(k+1,acc++[(x.cd,a0)],v',S3),⟨⟨by simp only;omega,hi,by simp only[aH,aN];omega⟩,by rw[bF];exact oq,mU.ext ⟨T2,jU⟩ fun j hj=>(rL.lt hj).2⟩,by simp only;omega,.inl ⟨by simp only[jm,↓eA,eB,aq,seval];try rfl,rfl⟩⟩
end Go.Proofs.YtfgkgmmnldocaaaGreatDoor
