/- AlD -/
import Derived.Test.YtfgkgmmnldocaaaGreatDoorZAl6
import Derived.Deep.LoopGhost
set_option linter.unusedSectionVars false
set_option linter.unusedSimpArgs false
set_option linter.unusedVariables false
namespace Go.AL
variable[Mode]
def jM(e:Nat→V):Option Nat→V→Nat→V
 |some d,v=>fun t=>if t=d then v else e t
 |none,_=>e
theorem ng{E:Env}{d:Option Nat}{v:V}:(E.put d v).get=jM E.get d v:=by
 cases d with
 |none=>rfl
 |some d=>funext t;simp[Env.put,Env.get,jM]
theorem r5(e:Nat→V){x y:Option Nat}(v u:V)(h:∀d,x=some d→y≠some d):jM (jM e x v) y u=jM (jM e y u) x v:=by
 cases x with
 |none=>rfl
 |some d=>
  cases y with
  |none=>rfl
  |some c=>
   have eY:d≠c:=fun hh=>h d rfl (by rw[hh])
   funext t
   simp only[jM];by_cases h1:t=c
   ·subst h1;rw[aK rfl,aC (gQ eY),aK rfl]
   ·rw[aC h1];by_cases h2:t=d
    ·rw[aK h2,aK h2]
    ·rw[aC h2,aC h2,aC h1]
theorem cD{e e':Nat→V}{x:cJ}(h:∀t∈x.looks,e t=e' t):ev e x=ev e' x:=by
 cases x with
 |t n=>exact h n (by simp[cJ.looks])
 |c v=>rfl
theorem iQ{e e':Nat→V}:∀{l:List cJ},(∀t∈l.flatMap cJ.looks,e t=e' t)→iy e l=iy e' l
 |[],_=>rfl
 |x::r,h=>by
  have h1:=cD (x:=x) (e:=e) (e':=e') (fun t ht=>h t (by simp[ht]));have h2:=iQ (l:=r) (e:=e) (e':=e') (fun t ht=>h t (by rw[List.flatMap_cons];exact List.mem_append_right _ ht));simp only[iy,bd]at h2⊢;rw[h1,h2]
theorem mE{e e':Nat→V}{d:Nat}{x:Option cJ}(h:∀t∈E6 x,e t=e' t):bound e d x=bound e' d x:=by
 cases x with
 |none=>rfl
 |some x=>simp only[bound,cD (x:=x) h]
theorem tD{e e':Nat→V}:∀{l:List (Nat×Nat×cJ)} {cells:List V},(∀t∈l.flatMap (fun p=>p.2.2.looks),e t=e' t)→jV e cells l=jV e' cells l
 |[],_,_=>rfl
 |(a,b,x)::r,cells,h=>by
  have h1:=cD (x:=x) (e:=e) (e':=e') (fun t ht=>h t (by simp[ht]));have h2:=fun cs=>tD (l:=r) (cells:=cs) (e:=e) (e':=e') (fun t ht=>h t (by rw[List.flatMap_cons];exact List.mem_append_right _ ht));simp only[jV,h1,h2]
theorem oZ{e e':Nat→V}{sz:Nat}:∀{l:List (Nat×cJ)} {rows:List (List V)},(∀t∈l.flatMap (fun p=>p.2.looks),e t=e' t)→j_ e sz rows l=j_ e' sz rows l
 |[],_,_=>rfl
 |(a,x)::r,rows,h=>by
  have h1:=cD (x:=x) (e:=e) (e':=e') (fun t ht=>h t (by simp[ht]));have h2:=fun cs=>oZ (sz:=sz) (l:=r) (rows:=cs) (e:=e) (e':=e') (fun t ht=>h t (by rw[List.flatMap_cons];exact List.mem_append_right _ ht));simp only[j_,h1,h2]
theorem yc{e e':Nat→V}{S:ae}{op:jD}(h:∀t∈op.looks,e t=e' t):cu e S op=cu e' S op:=by
 cases op<;>simp only[jD.looks,List.mem_append,or_imp,forall_and]at h<;>simp only[cu]
 case mv x=>rw[cD h]
 case pick a b c=>rw[cD h.1.1,cD h.1.2,cD h.2]
 case bin op x y=>rw[cD h.1,cD h.2]
 case Pw n x y=>rw[cD h.1,cD h.2]
 case qS x y=>rw[cD h.1,cD h.2]
 case mM n x y=>rw[cD h.1,cD h.2]
 case pN m n x y=>rw[cD h.1,cD h.2]
 case CJ n x y=>rw[cD h.1,cD h.2]
 case lJ n x y=>rw[cD h.1,cD h.2]
 case build z ps=>rw[tD h]
 case XS sz z n ps=>rw[oZ h]
 case tY f a b=>rw[iQ h.1,iQ h.2]
 case Te x lo hi=>rw[cD h.1.1];simp only[mE h.1.2,mE h.2]
 case w_ n x lo hi=>rw[cD h.1.1];simp only[mE h.1.2,mE h.2]
 case xo op l=>rw[iQ h]
 all_goals rw[cD h]
section
variable{P:Program}{S:ae}
def nD(P:Program)(s:gj)(e:Nat→V)(S:ae)(v:V):Prop:=
 match s with
 | .p op=>cu e S op=some v
 | .call f args=>ak P f (iy e args) S (fun r S'=>r=v∧S'=S)
 | .gp x args=>match ev e x with
   | .func f first cap=>ak P f (first++iy e args++cap) S (fun r S'=>r=v∧S'=S)
   |_=>False
 |_=>False
theorem Ep{s:gj}{e e':Nat→V}{v:V}(h:∀t∈s.looks,e t=e' t)(hv:nD P s e S v):nD P s e' S v:=by
 cases s with
 |p op=>simp only[nD]at*;rw[←yc h];exact hv
 |call f args=>simp only[nD]at*;rw[←iQ h];exact hv
 |gp x args=>
  simp only[gj.looks,List.mem_append,or_imp,forall_and]at h;simp only[nD]at*;rw[←cD h.1,←iQ h.2];exact hv
 |_=>exact hv.elim
theorem nC{s:gj}{e:Nat→V}{K:V→Prop}(h:pK P s e S K):∃v,nD P s e S v∧K v:=by
 cases s with
 |p op=>
  simp only[pK]at h;split at h
  ·rename_i v hv;exact⟨v,hv,h⟩
  ·cases h
 |call f args=>exact h
 |gp x args=>
  simp only[pK]at h;split at h
  ·rename_i f first cap hf
   obtain⟨v,h1,h2⟩:=h;exact⟨v,by simp only[nD,hf];exact h1,h2⟩
  ·cases h
 |_=>exact h.elim
theorem zN{s:gj}{e:Nat→V}{v:V}(h:nD P s e S v):dJ P s e S (fun r S'=>r=v∧S'=S):=by
 cases s with
 |p op=>simp only[nD]at h;simp only[dJ,h,nh,mR]
 |call f args=>exact h
 |gp x args=>
  simp only[nD]at h;simp only[dJ];split at h
  ·rename_i f first cap hf;rw[hf];exact h
  ·cases h
 |_=>exact h.elim
def fS(g:Option (Nat×Bool))(e:Nat→V):Option Bool:=
 match g with
 |none=>some true
 |some (t,want)=>match e t with
  | .bool x=>some (x==want)
  | .cq=>some false
  |_=>none
def DV(P:Program)(it:bj)(e:Nat→V)(S:ae)(v:V):Prop:=
 (fS it.guard e=some true∧nD P it.stm e S v)∨(fS it.guard e=some false∧v= .cq)
theorem DV.congr{it:bj}{e e':Nat→V}{v:V}(h:∀t∈it.looks,e t=e' t)(hv:DV P it e S v):DV P it e' S v:=by
 obtain⟨d,g,s⟩:=it;have hs:∀t∈s.looks,e t=e' t:=fun t ht=>h t (by simp[bj.looks,ht]);have hw:fS g e=fS g e':=by
  cases g with
  |none=>rfl
  |some p=>obtain⟨t,want⟩:=p;simp only[fS];rw[h t (by simp[bj.looks])]
 rcases hv with⟨h1,h2⟩|⟨h1,h2⟩
 ·exact .inl ⟨by rw[←hw];exact h1,Ep hs h2⟩
 ·exact .inr ⟨by rw[←hw];exact h1,h2⟩
theorem apart_spec{x y:bj}(h:x.apart y=true):(∀d,x.dst=some d→d∉y.looks)∧(∀d,x.dst=some d→y.dst≠some d)∧(∀d,y.dst=some d→d∉x.looks):=by
 refine⟨fun d hd=>?_,fun d hd=>?_,fun d hd=>?_⟩<;>simp[bj.apart,hd]at h
 ·exact h.1.1
 ·exact h.1.2
 ·exact h.2
theorem DV.put{x y:bj}{e:Nat→V}{u v:V}(h:∀d,y.dst=some d→d∉x.looks):DV P x (jM e y.dst u) S v↔DV P x e S v:=by
 have hc:∀t∈x.looks,jM e y.dst u t=e t:=by
  intro t ht;cases hd:y.dst with
  |none=>rfl
  |some d=>
   simp only[jM];rw[aC];rintro rfl;exact h t hd ht
 exact⟨DV.congr hc,DV.congr fun t ht=>(hc t ht).symm⟩
theorem Er{s:gj}{e e':Nat→V}{K:V→ae→Prop}(h:∀t∈s.looks,e t=e' t)(hv:dJ P s e S K):dJ P s e' S K:=by
 cases s<;>simp only[gj.looks,List.mem_append,or_imp,forall_and]at h<;>simp only[dJ]at*
 case p op=>rw[←yc h];exact hv
 case call f args=>rw[←iQ h];exact hv
 case gp x args=>rw[←cD h.1,←iQ h.2];exact hv
 case AP t x=>rw[←cD h];exact hv
 case Cj t z=>exact hv
 case AO q sz z n ps=>rw[←oZ h];exact hv
 case st n x v=>rw[←cD h.1,←cD h.2];exact hv
 case app q sz x y=>rw[←cD h.1,←cD h.2];exact hv
 case qO q sz z x y=>rw[←cD h.1,←cD h.2];exact hv
 case E8 neg x=>rw[←cD h];exact hv
 case K_ q x y=>rw[←cD h.1,←cD h.2];exact hv
 case xs op l=>rw[←iQ h];exact hv
theorem ph{s:gj}{e:Nat→V}{K K':V→ae→Prop}(hk:∀v S',K v S'→K' v S')(hv:dJ P s e S K):dJ P s e S K':=by
 cases s<;>simp only[dJ]at*
 case p op=>
  unfold nh at*;split at hv
  ·exact hk _ _ hv
  ·cases hv
 case call f args=>exact hv.mono hk
 case gp x args=>
  split at hv
  ·exact hv.mono hk
  ·cases hv
 case AP t x=>
  split at hv
  ·exact hk _ _ hv
  ·cases hv
 case Cj t z=>exact hk _ _ hv
 case AO q sz z n ps=>
  split at hv
  ·exact hk _ _ hv
  ·cases hv
 case st n x v=>
  unfold SY at*;repeat'(split at hv)
  all_goals first|exact hv.elim|exact⟨hv.1,hv.2.1,hk _ _ hv.2.2⟩
 case app q sz x y=>
  unfold kj at*;repeat'(split at hv)
  all_goals first|exact hv.elim|exact⟨hv.1,hv.2.1,hk _ _ hv.2.2⟩|exact⟨hv.1,hv.2.1,hv.2.2.1,hv.2.2.2.1,hv.2.2.2.2.1,hk _ _ hv.2.2.2.2.2⟩
 case qO q sz z x y=>
  unfold Sm at*;repeat'(split at hv)
  all_goals first|exact hv.elim|exact⟨hv.1,hv.2.1,hv.2.2.1,hk _ _ hv.2.2.2⟩
 case K_ q x y=>
  unfold kj at*;repeat'(split at hv)
  all_goals first|exact hv.elim|exact⟨hv.1,hv.2.1,hk _ _ hv.2.2⟩|exact⟨hv.1,hv.2.1,hv.2.2.1,hv.2.2.2.1,hv.2.2.2.2.1,hk _ _ hv.2.2.2.2.2⟩
 case xs op l=>
  unfold eK at*;split at hv
  ·unfold GJ at*;split at hv
   ·exact⟨hv.1,hk _ _ hv.2⟩
   ·split at hv
    ·obtain⟨h1,h2,h3,h4,bs,h5,h6,h7,h8⟩:=hv;exact⟨h1,h2,h3,h4,bs,h5,h6,h7,hk _ _ h8⟩
    ·exact hv.elim
   ·exact hv.elim
  ·exact hk _ _ hv
  ·exact hk _ _ hv
  ·unfold NL at*;split at hv
   ·split at hv
    ·exact⟨hv.1,hv.2.1,hv.2.2.1,hk _ _ hv.2.2.2⟩
    ·exact hv.elim
   ·exact hv.elim
  ·unfold NL at*;split at hv
   ·split at hv
    ·exact⟨hv.1,hv.2.1,hv.2.2.1,hk _ _ hv.2.2.2⟩
    ·exact hv.elim
   ·exact hv.elim
  ·unfold yo at*;split at hv
   ·split at hv
    ·exact⟨hv.1,hk _ _ hv.2⟩
    ·exact hv.elim
   ·exact hv.elim
  ·unfold DM at*;split at hv
   ·exact⟨hv.1,hv.2.1,hk _ _ hv.2.2⟩
   ·split at hv
    ·exact⟨hv.1,hv.2.1,hv.2.2.1,hv.2.2.2.1,hk _ _ hv.2.2.2.2⟩
    ·exact hv.elim
   ·exact hv.elim
  ·unfold yw at*;split at hv
   ·split at hv
    ·exact⟨hv.1,hv.2.1,hv.2.2.1,fun j n p h1 h2 h3=>hk _ _ (hv.2.2.2 j n p h1 h2 h3)⟩
    ·exact hv.elim
   ·exact hv.elim
  ·unfold yu at*;split at hv
   ·split at hv
    ·exact⟨hv.1,hk _ _ hv.2⟩
    ·exact hv.elim
   ·exact hv.elim
  ·unfold oF at*;split at hv
   ·exact hk _ _ hv
   ·split at hv
    ·exact⟨hv.1,hk _ _ hv.2⟩
    ·exact hv.elim
   ·exact hv.elim
  ·unfold yk at*;split at hv
   ·split at hv
    ·exact hk _ _ hv
    ·split at hv
     ·exact⟨hv.1,fun h=>hk _ _ (hv.2.1 h),fun p r h=>hk _ _ (hv.2.2 p r h)⟩
     ·exact hv.elim
    ·exact hv.elim
   ·exact hv.elim
  ·exact hv.elim
 case E8 neg x=>
  unfold kO at*;split at hv
  ·exact⟨hk _ _ hv.1,hk _ _ hv.2⟩
  ·exact⟨hv.1,hk _ _ hv.2.1,hk _ _ hv.2.2⟩
  ·split at hv
   ·exact hk _ _ hv
   ·exact hv.elim
theorem Na{op:jD}(h:op.free=true)(e:Nat→V)(S S':ae):cu e S op=cu e S' op:=by
 cases op<;>first|rfl|(simp[jD.free]at h;done)
theorem Et{s:gj}{e:Nat→V}{v:V}(h:nD P s e S v)(hs:bJ P s e v)(S':ae):nD P s e S' v:=by
 cases s with
 |p op=>
  simp only[nD,bJ]at*;rcases hs with hs|hs
  ·rw[←Na hs e S S'];exact h
  ·exact hs S'
 |call f args=>exact hs S'
 |gp x args=>
  simp only[nD,bJ]at*;split at hs
  ·rename_i f first cap hf;rw[hf];exact hs S'
  ·cases hs
 |_=>exact h.elim
theorem fo{S T:ae}{id aI:Nat}{r:TypeId×Nat×List (List V)}(h:S.bq id aI=some r):ae.bq (S++T) id aI=some r:=by
 have aR:id<S.length:=by
  rcases o_ id S.length with h1|h1
  ·exact h1
  ·unfold ae.bq at h;rw[List.getElem?_eq_none_iff.2 h1]at h;cases h
 unfold ae.bq at h⊢;rw[aF aR];exact h
theorem qN{S T:ae}{id aI:Nat}{r:KD×List (V×V)×MX}(h:S.kp id aI=some r):ae.kp (S++T) id aI=some r:=by
 have aR:id<S.length:=by
  rcases o_ id S.length with h1|h1
  ·exact h1
  ·unfold ae.kp at h;rw[List.getElem?_eq_none_iff.2 h1]at h;cases h
 unfold ae.kp at h⊢;rw[aF aR];exact h
theorem Nw{S T:ae}{k:Nat}{v:V}{b:Bool}(h:lZ S k v=some b):lZ (S++T) k v=some b:=by
 unfold lZ at h⊢;split at h<;>(try(split<;>simp_all;done))<;>(try exact h)
 ·rename_i id aI _ len;cases hs:S.bq id aI with
  |none=>simp[hs]at h
  |some r=>simpa[hs,fo hs]using h
 ·rename_i id aI _ _;cases hs:S.bq id aI with
  |none=>simp[hs]at h
  |some r=>simpa[hs,fo hs]using h
 ·rename_i id aI;cases hs:S.kp id aI with
  |none=>simp[hs]at h
  |some r=>simpa[hs,qN hs]using h
theorem LC{S T:ae}{op:XOp}{l:List V}{v:V}(h:hU op l S=some v):hU op l (S++T)=some v:=by
 unfold hU at h⊢;split at h
 ·unfold Dq at h⊢;split at h
  ·rename_i id aI _ _ Ks gS _ _;cases hs:S.bq id aI with
   |none=>simp[hs]at h
   |some r=>
    cases iV:S.bq Ks gS with
    |none=>
     simp[hs,iV]at h;rw[aK (by rw[fo hs];exact⟨h.1.1,h.1.2.1,h.1.2.2.1,h.1.2.2.2,rfl⟩),h.2]
    |some r'=>simpa[hs,fo hs,iV,fo iV]using h
  ·cases h
 ·unfold Jw at h⊢;split at h
  ·rename_i id aI _ _;cases hs:S.bq id aI with
   |none=>simp[hs]at h
   |some r=>simpa[hs,fo hs]using h
  ·cases h
 ·unfold KE at h⊢;split at h
  ·rename_i id aI _ _;cases hs:S.bq id aI with
   |none=>simp[hs]at h
   |some r=>simpa[hs,fo hs]using h
  ·cases h
 ·unfold sP at h⊢;split at h
  ·exact h
  ·rename_i id aI _ _;cases hs:S.bq id aI with
   |none=>simp[hs]at h
   |some r=>simpa[hs,fo hs]using h
  ·cases h
 ·unfold Wp at h⊢;split at h
  ·exact h
  ·rename_i id aI;cases hs:S.kp id aI with
   |none=>simp[hs,Wq]at h
   |some r=>rw[hs]at h;simpa[qN hs]using h
  ·cases h
 ·unfold th at h⊢;split at h
  ·exact h
  ·rename_i id aI;cases hs:S.kp id aI with
   |none=>simp[hs,tj]at h
   |some r=>rw[hs]at h;simpa[qN hs]using h
  ·cases h
 ·exact h
 ·unfold Mj at h⊢;split at h
  ·exact h
  ·exact h
  ·rename_i id aI _ _ _ _ _ _;cases hs:S.bq id aI with
   |none=>simp[hs]at h
   |some r=>simpa[hs,fo hs]using h
  ·cases h
 ·unfold KK at h⊢;split at h
  ·rename_i id aI;cases hs:S.kp id aI with
   |none=>simp[hs,FQ]at h
   |some r=>
    rw[hs]at h;simp only[qN hs];unfold FQ at h⊢;split at h
    ·rename_i i2 v2 p _;cases mT:S.kp i2 v2 with
     |none=>simp[mT,y_]at h
     |some r2=>rw[mT]at h;simpa[qN mT]using h
    ·cases h
  ·cases h
 ·exact h
 ·cases h
theorem M_{e:Nat→V}{S T:ae}{op:jD}{v:V}(h:cu e S op=some v):cu e (S++T) op=some v:=by
 cases op
 case isNil k neg x=>
  simp only[cu]at h⊢;split at h
  ·rename_i b hb;rw[Nw hb];exact h
  ·cases h
 case xo op l=>simp only[cu]at h⊢;exact LC h
 case mM sz x i=>
  simp only[cu]at h⊢;split at h
  ·rename_i h1 h2;(try rw[h1,h2]);exact h
  ·rename_i id aI _ _ _ _ h1 h2
   (try rw[h1,h2])
   cases hs:S.bq id aI with
   |none=>simp[hs]at h
   |some r=>simpa[hs,fo hs]using h
  ·cases h
 case pN m sz x i=>
  simp only[cu]at h⊢;split at h
  ·rename_i h1 h2;(try rw[h1,h2]);exact h
  ·rename_i id aI _ _ _ _ h1 h2
   (try rw[h1,h2])
   cases hs:S.bq id aI with
   |none=>simp[hs]at h
   |some r=>simpa[hs,fo hs]using h
  ·cases h
 case nu n x=>
  simp only[cu]at h⊢;split at h
  ·rename_i h1;(try rw[h1]);exact h
  ·rename_i id aI _ _ h1
   (try rw[h1])
   cases hs:S.bq id aI with
   |none=>simp[hs]at h
   |some r=>simpa[hs,fo hs]using h
  ·cases h
 case ld1 x=>
  simp only[cu]at h⊢;split at h
  ·rename_i h1;(try rw[h1]);exact h
  ·rename_i id aI _ _ h1
   (try rw[h1])
   cases hs:S.bq id aI with
   |none=>simp[hs]at h
   |some r=>simpa[hs,fo hs]using h
  ·cases h
 case D_ n x=>
  simp only[cu]at h⊢;split at h
  ·rename_i h1;(try rw[h1]);exact h
  ·rename_i id aI _ _ h1
   (try rw[h1])
   cases hs:S.bq id aI with
   |none=>simp[hs]at h
   |some r=>simpa[hs,fo hs]using h
  ·cases h
 case w_ sz x lo hi=>
  simp only[cu]at h⊢;split at h
  ·rename_i h1;(try rw[h1]);exact h
  ·rename_i h1;(try rw[h1]);exact h
  ·rename_i id aI _ _ h1
   (try rw[h1])
   cases hs:S.bq id aI with
   |none=>simp only[hs]at h;split at h<;>simp at h
   |some r=>simpa[hs,fo hs]using h
  ·cases h
 case gX x=>
  simp only[cu]at h⊢;split at h
  ·rename_i id aI _ _ h1
   (try rw[h1])
   cases hs:S.bq id aI with
   |none=>simp[hs]at h
   |some r=>simpa[hs,fo hs]using h
  all_goals first|(rename_i h1;(try rw[h1]);exact h)|cases h
 case QO x=>
  simp only[cu]at h⊢;split at h
  ·rename_i h1;(try rw[h1]);exact h
  ·rename_i h1;(try rw[h1]);exact h
  ·rename_i id aI _ _ h1
   (try rw[h1])
   cases hs:S.bq id aI with
   |none=>simp[hs]at h
   |some r=>simpa[hs,fo hs]using h
  ·cases h
 all_goals exact h
theorem Pf{s:gj}{e:Nat→V}{v:V}(h:nD P s e S v)(hs:wc P s e S v)(T:ae):nD P s e (S++T) v:=by
 cases s with
 |p op=>
  simp only[nD]at*;exact M_ h
 |call f args=>exact hs T
 |gp x args=>
  simp only[nD,wc]at*;split at hs
  ·rename_i f first cap hf;rw[hf];exact hs T
  ·cases hs
 |_=>exact h.elim
def nS(P:Program)(it:bj)(K:(Nat→V)→ae→Prop)(e:Nat→V)(S:ae):Prop:=
 (fS it.guard e=some true∧dJ P it.stm e S fun r S'=>K (jM e it.dst r) S')∨(fS it.guard e=some false∧K (jM e it.dst .cq) S)
theorem BM{it:bj}{K:(Nat→V)→ae→Prop}{e:Nat→V}{S:ae}(hg:it.q_=true)(h:nS P it K e S):nS P it (fun e' S'=>(∃T,S'=S++T)∧K e' S') e S:=by
 obtain⟨d,g,s⟩:=it;rcases h with⟨h1,h2⟩|⟨h1,h2⟩
 ·refine .inl ⟨h1,?_⟩;simp only at h2⊢;cases s<;>simp only[bj.q_,aV]at hg
  case p op=>
   simp only[dJ,nh]at h2⊢;split at h2
   ·rename_i vs hv;exact⟨⟨[],by simp⟩,h2⟩
   ·exact h2.elim
  case qO q sz zero l c=>
   simp only[dJ,Sm]at h2⊢;split at h2
   ·exact⟨h2.1,h2.2.1,h2.2.2.1,⟨_,rfl⟩,h2.2.2.2⟩
   ·exact h2.elim
  ·simp only[dJ]at h2⊢;split at h2
   ·rename_i vs hv;exact⟨⟨_,rfl⟩,h2⟩
   ·exact h2.elim
  ·simp only[dJ]at h2⊢;exact⟨⟨_,rfl⟩,h2⟩
  ·simp only[dJ]at h2⊢;split at h2
   ·rename_i vs hv;exact⟨⟨_,rfl⟩,h2⟩
   ·exact h2.elim
 ·exact .inr ⟨h1,⟨[],by simp⟩,h2⟩
theorem zw{E:Env}{t:Nat}{v:V}(hv:E.get t=v):Env.get ((t,v)::E)=E.get:=by
 funext k
 simp only[Env.get];split
 ·rename_i hk;rw[hk,hv]
 ·rfl
theorem tB{g:Option (Nat×Bool)}{E:Env}{A B:Env→Prop}(h:mO g E A B):∃E':Env,E'.get=E.get∧((fS g E.get=some true∧A E')∨(fS g E.get=some false∧B E')):=by
 cases g with
 |none=>exact⟨E,rfl,.inl ⟨rfl,h⟩⟩
 |some p=>
  obtain⟨t,want⟩:=p;simp only[mO]at h;split at h
  ·rename_i x hx;by_cases hw:x=want
   ·subst hw;exact⟨_,zw hx,.inl ⟨by simp[fS,hx],h.1 rfl⟩⟩
   ·have hn:x=!want:=by cases x<;>cases want<;>simp_all
    exact⟨_,zw (by rw[hx,hn]),.inr ⟨by simp only[fS,hx];rw[beq_eq_false_iff_ne.2 hw],h.2 hn⟩⟩
  ·rename_i hx;exact⟨E,rfl,.inr ⟨by simp only[fS,hx],h⟩⟩
  ·cases h
theorem nc{it:bj}{r:List (Fl×bj)}{E:Env}{K:Env→ae→Prop}(h:ga P ((.ay,it)::r) E S K):nS P it (fun e S'=>∃E':Env,E'.get=e∧ga P r E' S' K) E.get S:=by
 obtain⟨d,g,s⟩:=it;simp only[ga]at h;obtain⟨E',Ay,hh⟩:=tB h;rcases hh with⟨h1,h2⟩|⟨h1,h2⟩
 ·refine .inl ⟨h1,?_⟩;simp only[ku]at h2;rw[Ay]at h2;exact ph (fun v S' hk=>⟨_,by rw[ng,Ay],hk⟩) h2
 ·exact .inr ⟨h1,_,by rw[ng,Ay],h2⟩
theorem qc{f:Fl}(hf:f≠ .ay){it:bj}{r:List (Fl×bj)}{E:Env}{K:Env→ae→Prop}(h:ga P ((f,it)::r) E S K):
 ∃v,DV P it E.get S v∧(f= .aJ→∀S',DV P it E.get S' v)∧(f= .grow→∀T,DV P it E.get (S++T) v)∧∃E':Env,E'.get=jM E.get it.dst v∧ga P r E' S K:=by
 obtain⟨d,g,s⟩:=it;simp only[ga]at h;obtain⟨E',Ay,hh⟩:=tB h;rcases hh with⟨h1,h2⟩|⟨h1,h2⟩
 ·cases f with
  |ay=>exact absurd rfl hf
  |quiet=>
   simp only[ku]at h2;rw[Ay]at h2;obtain⟨v,h3,h4⟩:=nC h2;exact⟨v,.inl ⟨h1,h3⟩,(fun hh=>by cases hh),(fun hh=>by cases hh),_,by rw[ng,Ay],h4⟩
  |grow=>
   simp only[ku]at h2;rw[Ay]at h2;obtain⟨v,h3,h4,h5⟩:=nC h2;exact⟨v,.inl ⟨h1,h3⟩,(fun hh=>by cases hh),(fun _ T=>.inl ⟨h1,Pf h3 h4 T⟩),_,by rw[ng,Ay],h5⟩
  |aJ=>
   simp only[ku]at h2;rw[Ay]at h2;obtain⟨v,h3,h4,h5⟩:=nC h2;exact⟨v,.inl ⟨h1,h3⟩,(fun _ S'=>.inl ⟨h1,Et h3 h4 S'⟩),(fun hh=>by cases hh),_,by rw[ng,Ay],h5⟩
 ·exact⟨.cq,.inr ⟨h1,rfl⟩,(fun _ S'=>.inr ⟨h1,rfl⟩),(fun _ T=>.inr ⟨h1,rfl⟩),_,by rw[ng,Ay],h2⟩
theorem sS{x y:bj}{e:Nat→V}{u:V}{K:(Nat→V)→ae→Prop}(h:∀d,y.dst=some d→d∉x.looks)(hc:nS P x K (jM e y.dst u) S):nS P x (fun e' S'=>∃r,e'=jM e x.dst r∧K (jM (jM e y.dst u) x.dst r) S') e S:=by
 have hg:∀t∈x.looks,jM e y.dst u t=e t:=by
  intro t ht;cases hd:y.dst with
  |none=>rfl
  |some d=>
   simp only[jM];rw[aC];rintro rfl;exact h t hd ht
 have hw:fS x.guard (jM e y.dst u)=fS x.guard e:=by
  obtain⟨d,g,s⟩:=x;cases g with
  |none=>rfl
  |some p=>obtain⟨t,want⟩:=p;simp only[fS];rw[hg t (by simp[bj.looks])]
 rcases hc with⟨h1,h2⟩|⟨h1,h2⟩
 ·refine .inl ⟨by rw[←hw];exact h1,ph (fun r S' hk=>⟨r,rfl,hk⟩) (Er (fun t ht=>hg t (by simp[bj.looks,ht])) h2)⟩
 ·exact .inr ⟨by rw[←hw];exact h1,.cq,rfl,h2⟩
theorem iC{x:bj}{e:Nat→V}{K K':(Nat→V)→ae→Prop}(hk:∀e' S',K e' S'→K' e' S')(h:nS P x K e S):nS P x K' e S:=by
 rcases h with⟨h1,h2⟩|⟨h1,h2⟩
 ·exact .inl ⟨h1,ph (fun r S'=>hk _ _) h2⟩
 ·exact .inr ⟨h1,hk _ _ h2⟩
end
section
variable{P:Program}{ops:Array Oper}{items:List bj}{fl:Nat→Fl}{Fin:(Nat→V)→ae→Prop}
def Sk(P:Program)(items:List bj)(fl:Nat→Fl)(i:Nat)(K:(Nat→V)→ae→Prop)(e:Nat→V)(S:ae):Prop:=
 match items[i]? with
 |none=>False
 |some it=>(fl i= .ay∧nS P it K e S)∨(fl i≠ .ay∧∃v,DV P it e S v∧K (jM e it.dst v) S)
def oB(P:Program)(ops:Array Oper)(items:List bj)(fl:Nat→Fl)(Fin:(Nat→V)→ae→Prop):Nat→Array Bool→(Nat→V)→ae→Prop
 |0,listed,e,S=>Region.ready .any ops listed=[]∧Fin e S
 |fuel+1,listed,e,S=>Region.ready .any ops listed≠[]∧∀i∈Region.ready .any ops listed,Sk P items fl i (oB P ops items fl Fin fuel (listed.setIfInBounds i true)) e S
def j1(ops:Array Oper)(listed:Array Bool):Prop:=∀i o,ops[i]?=some o→listed.getD i false=true→∀e∈o.after,Region.binds .any e=true→listed.getD e.on false=true
theorem iG{listed:Array Bool}(h:j1 ops listed){i:Nat}(hi:i∈Region.ready .any ops listed):j1 ops (listed.setIfInBounds i true):=by
 intro j o hj hl e he hb;obtain⟨_,oi,hoi,fY⟩:=mem_ready.1 hi;by_cases kh:j=i
 ·subst kh;rw[hoi]at hj;cases hj;exact getD_set_true (fY e he hb)
 ·rw[getD_set_ne false (gQ kh)]at hl;exact getD_set_true (h j o hj hl e he hb)
inductive Reach (ops:Array Oper):Nat→Nat→Prop
 |one {i:Nat} {o:Oper} {e:Edge} (ho:ops[i]?=some o) (he:e∈o.after) (hb:Region.binds .any e=true):Reach ops i e.on
 |more {i p:Nat} {o:Oper} {e:Edge} (ho:ops[i]?=some o) (he:e∈o.after) (hb:Region.binds .any e=true) (hr:Reach ops e.on p):Reach ops i p
theorem zV{listed:Array Bool}(h:j1 ops listed){i p:Nat}(hr:Reach ops i p):(∀o,ops[i]?=some o→∀e∈o.after,Region.binds .any e=true→listed.getD e.on false=true)→listed.getD p false=true:=by
 induction hr with
 |one ho he hb=>exact fun fY=>fY _ ho _ he hb
 |more ho he hb hr ih=>exact fun fY=>ih fun o' eI e' he' O'=>h _ o' eI (fY _ ho _ he hb) e' he' O'
theorem ja{listed:Array Bool}{i:Nat}(h:listed.getD i true=false):listed.getD i false=false:=by
 rw[aY]at*;cases hq:listed[i]? with
 |none=>rfl
 |some b=>rw[hq]at h;simpa using h
theorem h_{listed:Array Bool}(h:j1 ops listed){i j:Nat}(hj:j∈Region.ready .any ops listed)(hi:listed.getD i false=false):¬Reach ops j i:=fun hr=>by
 obtain⟨_,o,ho,fY⟩:=mem_ready.1 hj;have:=zV h hr fun o' eI e he hb=>by rw[ho]at eI;cases eI;exact fY e he hb
 rw[hi]at this;cases this
theorem nF{i:Nat}{it:bj}{v:V}(hi:items[i]?=some it)(hq:fl i≠ .ay):
 ∀(fuel:Nat) (listed:Array Bool) (e:Nat→V) (S:ae),j1 ops listed→
  (∀j jt,items[j]?=some jt→j≠i→listed.getD j true=false→¬Reach ops j i→it.apart jt=true∧(fl j= .ay→fl i= .aJ∨(fl i= .grow∧jt.q_=true)))→
  i∈Region.ready .any ops listed→DV P it e S v→(fl i= .aJ→∀S',DV P it e S' v)→(fl i= .grow→∀T,DV P it e (S++T) v)→
  oB P ops items fl Fin fuel (listed.setIfInBounds i true) (jM e it.dst v) S→oB P ops items fl Fin (fuel+1) listed e S:=by
 intro fuel;induction fuel with
 |zero=>
  intro listed e S kv iW hr hy dq Uo H;refine⟨fun h=>by rw[h]at hr;simp at hr,fun j hj=>?_⟩;by_cases n9:j=i
  ·subst n9;unfold Sk;rw[hi];exact .inr ⟨hq,v,hy,H⟩
  ·exfalso;have:=ready_mono hj n9;rw[H.1]at this;simp at this
 |succ fuel ih=>
  intro listed e S kv iW hr hy dq Uo H;refine⟨fun h=>by rw[h]at hr;simp at hr,fun j hj=>?_⟩;by_cases n9:j=i
  ·subst n9;unfold Sk;rw[hi];exact .inr ⟨hq,v,hy,H⟩
  ·have h1:=H.2 j (ready_mono hj n9);have OR:=h_ kv hj (ja (mem_ready.1 hr).1);have aec:=(mem_ready.1 hj).1;have Fx:∀k kt,items[k]?=some kt→k≠i→(listed.setIfInBounds j true).getD k true=false→¬Reach ops k i→it.apart kt=true∧(fl k= .ay→fl i= .aJ∨(fl i= .grow∧kt.q_=true)):=fun k kt hk Sw kP Fq=>by
    by_cases OZ:j=k
    ·subst OZ;exact iW j kt hk Sw aec Fq
    ·rw[getD_set_ne true OZ]at kP;exact iW k kt hk Sw kP Fq
   unfold Sk at h1⊢;split at h1
   ·exact h1.elim
   ·rename_i jt Ee;obtain⟨Iv,hls⟩:=iW j jt Ee n9 aec OR;obtain⟨a1,a2,a3⟩:=apart_spec Iv;rcases h1 with⟨hl,h1⟩|⟨hl,u,hu,hK⟩
    ·rcases hls hl with tu|⟨tu,mT⟩
     ·refine .inl ⟨hl,iC ?_ (sS a1 h1)⟩;rintro e' S' ⟨r,rfl,hK⟩;rw[r5 e v r a2,Array.setIfInBounds_comm _ _ (gQ n9)]at hK;have adO:=dq tu;exact ih (listed.setIfInBounds j true) _ S' (iG kv hj) Fx (ready_mono hr (gQ n9)) ((DV.put a3).2 (adO S')) (fun _ Gi=>(DV.put a3).2 (adO Gi)) (fun hh=>by rw[tu]at hh;cases hh) hK
     ·refine .inl ⟨hl,iC ?_ (BM mT (sS a1 h1))⟩;rintro e' S' ⟨⟨T,rfl⟩,r,rfl,hK⟩;rw[r5 e v r a2,Array.setIfInBounds_comm _ _ (gQ n9)]at hK;have aem:=Uo tu;exact ih (listed.setIfInBounds j true) _ (S++T) (iG kv hj) Fx (ready_mono hr (gQ n9)) ((DV.put a3).2 (aem T)) (fun hh=>by rw[tu]at hh;cases hh) (fun _ T'=>(DV.put a3).2 (by rw[bG];exact aem (T++T'))) hK
    ·refine .inr ⟨hl,u,(DV.put a1).1 hu,?_⟩;rw[r5 e v u a2,Array.setIfInBounds_comm _ _ (gQ n9)]at hK;exact ih (listed.setIfInBounds j true) _ S (iG kv hj) Fx (ready_mono hr (gQ n9)) ((DV.put a3).2 hy) (fun hs Gi=>(DV.put a3).2 (dq hs Gi)) (fun hs T=>(DV.put a3).2 (Uo hs T)) hK
theorem oz{i:Nat}{it:bj}(hi:items[i]?=some it)(hq:fl i= .ay){fuel:Nat}{listed:Array Bool}{e:Nat→V}{S:ae}(kv:j1 ops listed)
 (iW:∀j,j<ops.size→j≠i→listed.getD j true=false→Reach ops j i)(hr:i∈Region.ready .any ops listed)
 (H:nS P it (fun e' S'=>oB P ops items fl Fin fuel (listed.setIfInBounds i true) e' S') e S):oB P ops items fl Fin (fuel+1) listed e S:=by
 refine⟨fun h=>by rw[h]at hr;simp at hr,fun j hj=>?_⟩;by_cases n9:j=i
 ·subst n9;unfold Sk;rw[hi];exact .inl ⟨hq,H⟩
 ·exfalso;obtain⟨h1,o,ho,_⟩:=mem_ready.1 hj;exact h_ kv hj (ja (mem_ready.1 hr).1) (iW j (Array.getElem?_eq_some_iff.1 ho).1 n9 h1)
theorem Cn{ms:List Nat}{o:Oper}{i:Nat}(ho:ops[i]?=some o)(hms:∀k p,(ms.getD k 0).testBit p=true→Reach ops k p){p:Nat}(h:(Fb ms o).testBit p=true):Reach ops i p:=by
 have key:∀(l:List Edge) (m:Nat),(∀e∈l,e∈o.after)→(∀p,m.testBit p=true→Reach ops i p)→∀p,(l.foldl (fun m e=>if Region.binds .any e then m|||(2^e.on|||ms.getD e.on 0)else m) m).testBit p=true→Reach ops i p:=by
  intro l;induction l with
  |nil=>exact fun m _ hm p hp=>hm p hp
  |cons e l ih=>
   intro m hl hm p hp;simp only[List.foldl_cons]at hp;refine ih _ (fun x hx=>hl x (cc _ hx)) (fun q hq=>?_) p hp;split at hq
   ·rename_i hb;rw[jH,jH,dR,dR]at hq;have he:=hl e (fg ..);rcases hq with hq|hq|hq
    ·exact hm q hq
    ·rw[gA]at hq;have:=gw hq;subst this;exact .one ho he hb
    ·exact .more ho he hb (hms _ _ hq)
   ·exact hm q hq
 exact key o.after.toList 0 (fun e he=>by simpa using he) (fun p hp=>by simp at hp) p h
theorem qP:∀(l:List Oper) (ms:List Nat),(∀k o,l[k]?=some o→ops[ms.length+k]?=some o)→(∀k p,(ms.getD k 0).testBit p=true→Reach ops k p)→∀k p,((Ag l ms).getD k 0).testBit p=true→Reach ops k p
 |[],ms,_,h,k,p,hp=>h k p hp
 |o::l,ms,hl,h,k,p,hp=>by
  have ho:ops[ms.length]?=some o:=by simpa using hl 0 o rfl
  refine qP l (ms++[Fb ms o]) (fun k o' hk=>?_) (fun k p OX=>?_) k p hp
  ·have:=hl (k+1) o' (by simpa using hk);rw[←this]
   congr 1
   simp;omega
  ·by_cases aR:k<ms.length
   ·rw[oh,aF aR]at OX;exact h k p (by rw[oh];exact OX)
   ·by_cases Um:k=ms.length
    ·subst Um;rw[oh]at OX;simp at OX;exact Cn ho h OX
    ·rw[oh,eO (by simp;omega)]at OX;simp at OX
theorem ke{k p:Nat}(h:((mw ops).getD k 0).testBit p=true):Reach ops k p:=
 qP ops.toList [] (fun k o hk=>by simpa using hk) (fun k p hp=>by simp at hp) k p h
theorem nf{k:Nat}{listed:Array Bool}{o:Oper}(ho:ops[k]?=some o)(hk:listed.getD k true=false)(hl:∀e∈o.after,Region.binds .any e=true→listed.getD e.on false=true):k∈Region.ready .any ops listed:=
 mem_ready.2 ⟨hk,o,ho,hl⟩
theorem yg{ms:List Nat}{full:List (Nat×Fl)}:∀(l:List (Nat×Fl)) (done:Nat),TH ops items ms full done l=true→∀p∈l,iY full p.1=p.2
 |[],_,_,p,hp=>by simp at hp
 |(i,f)::l,done,h,p,hp=>by
  simp only[TH,aW,aL]at h;rcases List.mem_cons.1 hp with h1|h1
  ·subst h1;exact h.1.1.2
  ·exact yg l _ h.2 p h1
theorem ZQ(full:List (Nat×Fl))(K:Env→ae→Prop)(Ax:∀(E:Env) (S:ae),K E S→Fin E.get S):∀(l:List (Nat×Fl)) (qD:List (Fl×bj)) (done:Nat) (listed:Array Bool) (E:Env) (S:ae),(∀p∈l,iY full p.1=p.2)→TH ops items (mw ops) full done l=true→na items l=some qD→
 listed.size=ops.size→(∀j,listed.getD j false=done.testBit j)→j1 ops listed→(∀j,j<ops.size→done.testBit j=true∨∃p∈l,p.1=j)→ga P qD E S K→oB P ops items (iY full) Fin l.length listed E.get S
 |[],qD,done,listed,E,S,_,_,hs,hG,hd,_,hF,h=>by
  simp only[na,aa]at hs;subst hs;refine⟨?_,Ax E S h⟩;cases hq:Region.ready .any ops listed with
  |nil=>rfl
  |cons j js=>
   have hj:j∈Region.ready .any ops listed:=by rw[hq];simp
   obtain⟨h1,o,ho,_⟩:=mem_ready.1 hj;have aR:=(Array.getElem?_eq_some_iff.1 ho).1;rcases hF j aR with h2|⟨p,hp,_⟩
   ·rw[←hd j,ja h1]at h2;cases h2
   ·simp at hp
 |(i,f)::l,qD,done,listed,E,S,O1,eQ,hs,hG,hd,kv,hF,h=>by
  simp only[TH,aW,eT,aL]at eQ;obtain⟨⟨⟨ub,nK⟩,ix⟩,nU⟩:=eQ;split at ix
  ·rename_i o it ho qZ;simp only[na,qZ]at hs;split at hs
   ·rename_i Ic BH v8 sA;simp only[aa]at v8 hs;subst v8;subst hs;simp only[aW,fB,dR,eT,aL]at ix;obtain⟨wa,vX⟩:=ix;have xv:i<ops.size:=(Array.getElem?_eq_some_iff.1 ho).1;have OV:i<listed.size:=by omega
    have tf:∀j,j<ops.size→listed.getD j false=false→listed.getD j true=false:=fun j hj h=>by
     have cK:j<listed.size:=by omega
     simp only[aY,gR cK,bL]at h⊢;exact h
    have aaL:listed.getD i true=false:=tf i xv (by rw[hd,ub]);have jR:i∈Region.ready .any ops listed:=nf ho aaL fun e he hb=>by
     rcases wa e (by simpa using he)with h1|h1
     ·rw[hb]at h1;cases h1
     ·rw[hd];exact h1
    have oT:∀j,j<ops.size→j≠i→listed.getD j true=false→∃g,(j,g)∈l:=fun j hj eY kP=>by
     rcases hF j hj with h1|⟨⟨k,g⟩,h1,h2⟩
     ·rw[←hd,ja kP]at h1;cases h1
     ·simp only at h2;subst h2;rcases List.mem_cons.1 h1 with h3|h3
      ·simp only[cB]at h3;exact absurd h3.1 eY
      ·exact⟨g,h3⟩
    have WH:∀(E':Env) (S':ae),ga P BH E' S' K→oB P ops items (iY full) Fin l.length (listed.setIfInBounds i true) E'.get S':=fun E' S' hr=>
     ZQ full K Ax l BH (done|||2^i) (listed.setIfInBounds i true) E' S' (fun p hp=>O1 p (cc _ hp)) nU sA (by simpa using hG) (fun j=>by
      rw[jH,gA];by_cases n9:i=j
      ·subst n9;simp[aY,OV]
      ·rw[getD_set_ne false n9,hd];simp[n9]) (iG kv jR) (fun j hj=>by
      rw[jH,gA];rcases hF j hj with h1|⟨p,h1,h2⟩
      ·exact .inl (by rw[h1];rfl)
      ·rcases List.mem_cons.1 h1 with h3|h3
       ·subst h3;exact .inl (by simp[←h2])
       ·exact .inr ⟨p,h3,h2⟩) hr
    have iW:∀j g,(j,g)∈l→Reach ops j i∨(f≠ .ay∧∀jt,items[j]?=some jt→it.apart jt=true∧(g≠ .ay∨f= .aJ∨(f= .grow∧jt.q_=true))):=fun j g hj=>by
     have h1:=vX (j,g) hj;simp only at h1;rcases h1 with h1|⟨h1,h3⟩
     ·exact .inl (ke h1)
     ·refine .inr ⟨h1,fun jt Ee=>?_⟩;rw[Ee]at h3;simp only[aW,dR,aL]at h3;refine⟨h3.1,?_⟩;rcases h3.2 with(h4|h4)|h4
      ·exact .inl h4
      ·exact .inr (.inl h4)
      ·exact .inr (.inr h4)
    rw[a_];by_cases oU:f= .ay
    ·subst oU;refine oz qZ nK kv (fun j hj eY kP=>?_) jR (iC ?_ (nc h))
     ·obtain⟨g,hg⟩:=oT j hj eY kP;rcases iW j g hg with h1|h1
      ·exact h1
      ·exact absurd rfl h1.1
     ·rintro e' S' ⟨E',rfl,hr⟩;exact WH E' S' hr
    ·obtain⟨v,hv,dq,Uo,E',Ay,hr⟩:=qc oU h;refine nF qZ (by rw[nK];exact oU) _ listed E.get S kv (fun j jt Ee eY kP OR=>?_) jR hv (fun hs=>dq (by rw[←nK];exact hs)) (fun hs=>Uo (by rw[←nK];exact hs)) (by rw[←Ay];exact WH E' S hr);have hj:j<ops.size:=by
      rcases o_ j ops.size with aR|eh
      ·exact aR
      ·rw[aY,Array.getElem?_eq_none (by omega)]at kP;simp at kP
     obtain⟨g,hg⟩:=oT j hj eY kP;rcases iW j g hg with h1|⟨h1,h3⟩
     ·exact absurd h1 OR
     ·obtain⟨h3,h2⟩:=h3 jt Ee;refine⟨h3,fun hl=>?_⟩;have hgl:iY full j=g:=O1 (j,g) (cc _ hg);rw[nK];rcases h2 with h2|h2
      ·exact absurd (hgl.symm.trans hl) h2
      ·exact h2
   ·cases hs
  ·cases ix
theorem VK(full tail:List (Nat×Fl))(n UW:Nat)(K:Env→ae→Prop)(aeo:∀p∈tail,iY full p.1=p.2)(WL:∀(listed:Array Bool) (E:Env) (S:ae),listed.size=ops.size→(∀j,listed.getD j false=UW.testBit j)→j1 ops listed→(∀j,j<ops.size→UW.testBit j=true∨∃p∈tail,p.1=j)→K E S→oB P ops items (iY full) Fin n listed E.get S):∀(l:List (Nat×Fl)) (qD:List (Fl×bj)) (done:Nat) (listed:Array Bool) (E:Env) (S:ae),(∀p∈l,iY full p.1=p.2)→okP ops items (mw ops) full tail done l=some UW→na items l=some qD→
 listed.size=ops.size→(∀j,listed.getD j false=done.testBit j)→j1 ops listed→(∀j,j<ops.size→done.testBit j=true∨∃p∈l++tail,p.1=j)→ga P qD E S K→oB P ops items (iY full) Fin (l.length+n) listed E.get S
 |[],qD,done,listed,E,S,_,eQ,hs,hG,hd,kv,hF,h=>by
  simp only[na,aa]at hs;subst hs;simp only[okP,aa]at eQ;subst eQ;rw[bz,dv];exact WL listed E S hG hd kv (fun j hj=>by simpa using hF j hj) h
 |(i,f)::l,qD,done,listed,E,S,O1,eQ,hs,hG,hd,kv,hF,h=>by
  rw[okP]at eQ;split at eQ
  rotate_left
  ·cases eQ
  rename_i OP;simp only[okI,aW,eT,aL]at OP;obtain⟨⟨ub,nK⟩,ix⟩:=OP;have nU:=eQ;split at ix
  ·rename_i o it ho qZ;simp only[na,qZ]at hs;split at hs
   ·rename_i Ic BH v8 sA;simp only[aa]at v8 hs;subst v8;subst hs;simp only[aW,fB,dR,eT,aL]at ix;obtain⟨wa,vX⟩:=ix;have xv:i<ops.size:=(Array.getElem?_eq_some_iff.1 ho).1;have OV:i<listed.size:=by omega
    have tf:∀j,j<ops.size→listed.getD j false=false→listed.getD j true=false:=fun j hj h=>by
     have cK:j<listed.size:=by omega
     simp only[aY,gR cK,bL]at h⊢;exact h
    have aaL:listed.getD i true=false:=tf i xv (by rw[hd,ub]);have jR:i∈Region.ready .any ops listed:=nf ho aaL fun e he hb=>by
     rcases wa e (by simpa using he)with h1|h1
     ·rw[hb]at h1;cases h1
     ·rw[hd];exact h1
    have oT:∀j,j<ops.size→j≠i→listed.getD j true=false→∃g,(j,g)∈l++tail:=fun j hj eY kP=>by
     rcases hF j hj with h1|⟨⟨k,g⟩,h1,h2⟩
     ·rw[←hd,ja kP]at h1;cases h1
     ·simp only at h2;subst h2;rw[aS]at h1;rcases List.mem_cons.1 h1 with h3|h3
      ·simp only[cB]at h3;exact absurd h3.1 eY
      ·exact⟨g,h3⟩
    have WH:∀(E':Env) (S':ae),ga P BH E' S' K→oB P ops items (iY full) Fin (l.length+n) (listed.setIfInBounds i true) E'.get S':=fun E' S' hr=>
     VK full tail n UW K aeo WL l BH (done|||2^i) (listed.setIfInBounds i true) E' S' (fun p hp=>O1 p (cc _ hp)) nU sA (by simpa using hG) (fun j=>by
      rw[jH,gA];by_cases n9:i=j
      ·subst n9;simp[aY,OV]
      ·rw[getD_set_ne false n9,hd];simp[n9]) (iG kv jR) (fun j hj=>by
      rw[jH,gA];rcases hF j hj with h1|⟨p,h1,h2⟩
      ·exact .inl (by rw[h1];rfl)
      ·rw[aS]at h1;rcases List.mem_cons.1 h1 with h3|h3
       ·subst h3;exact .inl (by simp[←h2])
       ·exact .inr ⟨p,h3,h2⟩) hr
    have iW:∀j g,(j,g)∈l++tail→Reach ops j i∨(f≠ .ay∧∀jt,items[j]?=some jt→it.apart jt=true∧(g≠ .ay∨f= .aJ∨(f= .grow∧jt.q_=true))):=fun j g hj=>by
     have h1:=vX (j,g) hj;simp only at h1;rcases h1 with h1|⟨h1,h3⟩
     ·exact .inl (ke h1)
     ·refine .inr ⟨h1,fun jt Ee=>?_⟩;rw[Ee]at h3;simp only[aW,dR,aL]at h3;refine⟨h3.1,?_⟩;rcases h3.2 with(h4|h4)|h4
      ·exact .inl h4
      ·exact .inr (.inl h4)
      ·exact .inr (.inr h4)
    rw[a_,Nat.add_right_comm];by_cases oU:f= .ay
    ·subst oU;refine oz qZ nK kv (fun j hj eY kP=>?_) jR (iC ?_ (nc h))
     ·obtain⟨g,hg⟩:=oT j hj eY kP;rcases iW j g hg with h1|h1
      ·exact h1
      ·exact absurd rfl h1.1
     ·rintro e' S' ⟨E',rfl,hr⟩;exact WH E' S' hr
    ·obtain⟨v,hv,dq,Uo,E',Ay,hr⟩:=qc oU h;refine nF qZ (by rw[nK];exact oU) _ listed E.get S kv (fun j jt Ee eY kP OR=>?_) jR hv (fun hs=>dq (by rw[←nK];exact hs)) (fun hs=>Uo (by rw[←nK];exact hs)) (by rw[←Ay];exact WH E' S hr);have hj:j<ops.size:=by
      rcases o_ j ops.size with aR|eh
      ·exact aR
      ·rw[aY,Array.getElem?_eq_none (by omega)]at kP;simp at kP
     obtain⟨g,hg⟩:=oT j hj eY kP;rcases iW j g hg with h1|⟨h1,h3⟩
     ·exact absurd h1 OR
     ·obtain⟨h3,h2⟩:=h3 jt Ee;refine⟨h3,fun hl=>?_⟩;have hgl:iY full j=g:=by
       rcases List.mem_append.1 hg with hg|hg
       ·exact O1 (j,g) (cc _ hg)
       ·exact aeo (j,g) hg
      rw[nK];rcases h2 with h2|h2
      ·exact absurd (hgl.symm.trans hl) h2
      ·exact h2
   ·cases hs
  ·cases ix
theorem ac'(full:List (Nat×Fl))(K:Env→ae→Prop)(Ax:∀(E:Env) (S:ae),K E S→Fin E.get S)(post mq:List (Nat×Fl))(qD ac7:List (Fl×bj))(done:Nat)(listed:Array Bool)(E:Env)(S:ae)(nK:∀p∈post,iY full p.1=p.2)(aiS:∀p∈mq,iY full p.1=p.2)(eQ:aad ops items (mw ops) full done post mq=true)(hs:na items post=some qD)(mT:na items mq=some ac7)
 (hG:listed.size=ops.size)(hd:∀j,listed.getD j false=done.testBit j)(kv:j1 ops listed)(hF:∀j,j<ops.size→done.testBit j=true∨∃p∈post,p.1=j)(h1:ga P qD E S K)(h2:ga P ac7 E S K):oB P ops items (iY full) Fin post.length listed E.get S:=by
 unfold aad at eQ;split at eQ
 ·rename_i i r j r2;simp only[aW,eT,aL]at eQ;obtain⟨⟨⟨⟨⟨⟨⟨⟨⟨⟨⟨kh,fY⟩,jn⟩,nX⟩,hlen⟩,fi⟩,fj⟩,di⟩,dj⟩,ix⟩,ok1⟩,ok2⟩:=eQ;split at ix
  rotate_left
  ·cases ix
  rename_i o o' it jt ho eI qZ Ee;simp only[aW,fB,ib,dR,eT,beq_iff_eq]at ix fY jn nX;obtain⟨ei,ej⟩:=ix;have xv:i<ops.size:=(Array.getElem?_eq_some_iff.1 ho).1;have aiD:j<ops.size:=(Array.getElem?_eq_some_iff.1 eI).1;have tf:∀j,j<ops.size→listed.getD j false=false→listed.getD j true=false:=fun j hj h=>by
   have cK:j<listed.size:=by omega
   simp only[aY,gR cK,bL]at h⊢;exact h
  have ri:i∈Region.ready .any ops listed:=nf ho (tf i xv (by rw[hd,di])) fun e he hb=>by
   rcases ei e (by simpa using he)with h|h
   ·rw[hb]at h;cases h
   ·rw[hd];exact h
  have rj:j∈Region.ready .any ops listed:=nf eI (tf j aiD (by rw[hd,dj])) fun e he hb=>by
   rcases ej e (by simpa using he)with h|h
   ·rw[hb]at h;cases h
   ·rw[hd];exact h
  have step:∀(a:Nat) (l:List (Nat×Fl)) (sl:List (Fl×bj)),done.testBit a=false→a<listed.size→a∈Region.ready .any ops listed→(∀p∈l,iY full p.1=p.2)→na items l=some sl→TH ops items (mw ops) full (done|||2^a) l=true→(∀k,k<ops.size→done.testBit k=true∨k=a∨∃p∈l,p.1=k)→∀(E':Env) (S':ae),ga P sl E' S' K→oB P ops items (iY full) Fin l.length (listed.setIfInBounds a true) E'.get S':=by
   intro a l sl da hla ra aiT Fo aaE hc E' S' hr;refine ZQ full K Ax l sl (done|||2^a) (listed.setIfInBounds a true) E' S' aiT aaE Fo (by simpa using hG) (fun k=>?_) (iG kv ra) (fun k hk=>?_) hr
   ·rw[jH,gA];by_cases n9:a=k
    ·subst n9;simp[aY,hla]
    ·rw[getD_set_ne false n9,hd];simp[n9]
   ·rw[jH,gA];rcases hc k hk with h|h|h
    ·exact .inl (by rw[h];rfl)
    ·exact .inl (by simp[h])
    ·exact .inr h
  simp only[na,qZ]at hs;simp only[na,Ee]at mT;split at hs
  rotate_left
  ·cases hs
  rename_i it2 l2 e1 hsr;simp only[aa]at e1 hs;subst e1 hs;split at mT
  rotate_left
  ·cases mT
  rename_i jt2 l3 e2 ah3;simp only[aa]at e2 mT;subst e2 mT;have WY:∀k,k<ops.size→done.testBit k=true∨k=i∨∃p∈r,p.1=k:=fun k hk=>by
   rcases hF k hk with h|⟨p,hp,Ue⟩
   ·exact .inl h
   ·rcases List.mem_cons.1 hp with h|h
    ·subst h;exact .inr (.inl Ue.symm)
    ·exact .inr (.inr ⟨p,h,Ue⟩)
  rw[a_];refine⟨fun h=>by rw[h]at ri;simp at ri,fun k hk=>?_⟩;obtain⟨cN,ok,aaE,_⟩:=mem_ready.1 hk;have aaJ:=(Array.getElem?_eq_some_iff.1 aaE).1;have aiy:k=i∨k=j:=by
   rcases WY k aaJ with h|h|⟨p,hp,Ue⟩
   ·rw[←hd,ja cN]at h;cases h
   ·exact .inl h
   ·rcases fY p hp with(h3|h3)|h3
    ·exact .inr (Ue.symm.trans h3)
    ·exfalso;rw[Ue]at h3;exact h_ kv hk (by rw[hd,di]) (ke h3)
    ·exfalso;rw[Ue]at h3;exact h_ kv hk (by rw[hd,dj]) (ke h3)
  unfold Sk;rcases aiy with rfl|rfl
  ·rw[qZ];refine .inl ⟨fi,iC ?_ (nc h1)⟩;rintro e' S' ⟨E',rfl,hr⟩;exact step k r _ di (by omega) ri (fun p hp=>nK p (cc _ hp)) hsr ok1 WY E' S' hr
  ·rw[Ee];refine .inl ⟨fj,iC ?_ (nc h2)⟩;rintro e' S' ⟨E',rfl,hr⟩;rw[hlen];exact step k r2 _ dj (by omega) rj (fun p hp=>aiS p (cc _ hp)) ah3 ok2 (fun m hm=>by
    rcases WY m hm with h|h|⟨p,hp,Ue⟩
    ·exact .inl h
    ·obtain⟨q,hq,Wz⟩:=nX;exact .inr (.inr ⟨q,hq,Wz.trans h.symm⟩)
    ·rcases jn p hp with h|⟨q,hq,hqp⟩
     ·exact .inr (.inl (Ue.symm.trans h))
     ·exact .inr (.inr ⟨q,hq,hqp.trans Ue⟩)) E' S' hr
 ·cases eQ
end
section
variable{P:Program}{ops:Array Oper}{items:List bj}{Fin:(Nat→V)→ae→Prop}{S:ae}
theorem x8{it:bj}{r:AT (Fl×bj)}{E:Env}{K:Env→ae→Prop}(h:lG P (.one (.ay,it) r) E S K):nS P it (fun e S'=>∃E':Env,E'.get=e∧lG P r E' S' K) E.get S:=nc h
theorem EM{f:Fl}(hf:f≠ .ay){it:bj}{r:AT (Fl×bj)}{E:Env}{K:Env→ae→Prop}(h:lG P (.one (f,it) r) E S K):
 ∃v,DV P it E.get S v∧(f= .aJ→∀S',DV P it E.get S' v)∧(f= .grow→∀T,DV P it E.get (S++T) v)∧∃E':Env,E'.get=jM E.get it.dst v∧lG P r E' S K:=qc hf h
theorem Cm{full:List (Nat×Fl)}{done j:Nat}{g:Fl}(h:(j,g)∈full)(hd:done.testBit j=false):(j,g)∈J1 full done:=by
 unfold J1;rw[List.mem_filter];exact⟨h,by simp[hd]⟩
structure Zt(ops:Array Oper)(listed:Array Bool)(done:Nat):Prop where
 sz:listed.size=ops.size
 bit:∀j,listed.getD j false=done.testBit j
 cl:j1 ops listed
theorem Zt.set{listed:Array Bool}{done i:Nat}(h:Zt ops listed done)(hi:i∈Region.ready .any ops listed):Zt ops (listed.setIfInBounds i true) (done|||2^i):=by
 obtain⟨_,o,ho,_⟩:=mem_ready.1 hi;have xv:i<ops.size:=(Array.getElem?_eq_some_iff.1 ho).1;have OV:i<listed.size:=by have:=h.sz;omega
 refine⟨by simpa using h.sz,fun j=>?_,iG h.cl hi⟩;rw[jH,gA];by_cases n9:i=j
 ·subst n9;simp[aY,OV]
 ·rw[getD_set_ne false n9,h.bit];simp[n9]
theorem Zt.un{listed:Array Bool}{done j:Nat}(h:Zt ops listed done)(hj:j<ops.size)(hd:done.testBit j=false):listed.getD j true=false:=by
 have cK:j<listed.size:=by have:=h.sz;omega
 have h2:=h.bit j;rw[hd]at h2;simp only[aY,gR cK,bL]at h2⊢;exact h2
theorem yP{ms:List Nat}{full:List (Nat×Fl)}:∀(t:AT (Nat×Fl)) {n done:Nat},ye ops items ms full t true n done=true→jT t≠[]
 | .fin,n,done,h=>by simp[ye]at h
 | .one (i,f) r,n,done,_=>by simp[jT]
 | .alt a b,n,done,h=>by
   cases n with
   |zero=>simp[ye]at h
   |succ n=>
    simp only[ye,aW]at h;have:=yP a h.2.1;simp[jT,this]
theorem Hk(full:List (Nat×Fl))(K:Env→ae→Prop)(Ax:∀(E:Env) (S:ae),K E S→Fin E.get S)(hF:∀j,j<ops.size→∃g,(j,g)∈full∧iY full j=g):∀(t:AT (Nat×Fl)) (qD:AT (Fl×bj)),zR items t=some qD→
 (∀(n done:Nat) (listed:Array Bool) (E:Env) (S:ae),ye ops items (mw ops) full t false n done=true→Zt ops listed done→lG P qD E S K→oB P ops items (iY full) Fin n listed E.get S)∧
 (∀(n done:Nat) (listed:Array Bool) (E:Env) (S:ae),ye ops items (mw ops) full t true (n+1) done=true→Zt ops listed done→lG P qD E S K→∀k∈jT t,k∈Region.ready .any ops listed∧Sk P items (iY full) k (oB P ops items (iY full) Fin n (listed.setIfInBounds k true)) E.get S)
 | .fin,qD,hs=>by
   simp only[zR,aa]at hs;subst hs;refine⟨fun n done listed E S eQ hd h=>?_,fun n done listed E S eQ=>by simp[ye]at eQ⟩;simp only[ye,eH,aX,aW,aL,fB,List.mem_range]at eQ;obtain⟨rfl,fY⟩:=eQ;refine⟨?_,Ax E S h⟩;cases hq:Region.ready .any ops listed with
   |nil=>rfl
   |cons j js=>
    have hj:j∈Region.ready .any ops listed:=by rw[hq];simp
    obtain⟨h1,o,ho,_⟩:=mem_ready.1 hj;have aR:=(Array.getElem?_eq_some_iff.1 ho).1;have h2:=fY j aR;rw[←hd.bit j,ja h1]at h2;cases h2
 | .one (i,f) r,qD,hs=>by
   simp only[zR]at hs;split at hs
   rotate_left
   ·cases hs
   rename_i it BH qZ sA;simp only[aa]at hs;subst hs;have ih:=(Hk full K Ax hF r BH sA).1;refine⟨fun n done listed E S eQ hd h=>?_,fun n done listed E S eQ hd h k hk=>?_⟩
   ·cases n with
    |zero=>simp[ye]at eQ
    |succ n=>
     simp only[ye,aW,aV,aZ]at eQ;obtain⟨OP,nU⟩:=eQ;simp only[okI,aW,eT,aL]at OP;obtain⟨⟨ub,nK⟩,ix⟩:=OP;split at ix
     rotate_left
     ·cases ix
     rename_i o Ic ho v8;rw[qZ]at v8;cases v8;simp only[aW,fB,dR,eT,aL]at ix;obtain⟨wa,vX⟩:=ix;have xv:i<ops.size:=(Array.getElem?_eq_some_iff.1 ho).1;have jR:i∈Region.ready .any ops listed:=nf ho (hd.un xv ub) fun e he hb=>by
      rcases wa e (by simpa using he)with h1|h1
      ·rw[hb]at h1;cases h1
      ·rw[hd.bit];exact h1
     have oT:∀j,j<ops.size→j≠i→listed.getD j true=false→∃g,(j,g)∈J1 full (done|||2^i)∧iY full j=g:=fun j hj eY kP=>by
      obtain⟨g,hg,hgf⟩:=hF j hj;refine⟨g,Cm hg ?_,hgf⟩;rw[jH,gA,←hd.bit,ja kP];simp[gQ eY]
     have WH:∀(E':Env) (S':ae),lG P BH E' S' K→oB P ops items (iY full) Fin n (listed.setIfInBounds i true) E'.get S':=fun E' S' hr=>ih n _ _ E' S' nU (hd.set jR) hr;have iW:∀j g,(j,g)∈J1 full (done|||2^i)→Reach ops j i∨(f≠ .ay∧∀jt,items[j]?=some jt→it.apart jt=true∧(g≠ .ay∨f= .aJ∨(f= .grow∧jt.q_=true))):=fun j g hj=>by
      have h1:=vX (j,g) hj;simp only at h1;rcases h1 with h1|⟨h1,h3⟩
      ·exact .inl (ke h1)
      ·refine .inr ⟨h1,fun jt Ee=>?_⟩;rw[Ee]at h3;simp only[aW,dR,aL]at h3;refine⟨h3.1,?_⟩;rcases h3.2 with(h4|h4)|h4
       ·exact .inl h4
       ·exact .inr (.inl h4)
       ·exact .inr (.inr h4)
     by_cases oU:f= .ay
     ·subst oU;refine oz qZ nK hd.cl (fun j hj eY kP=>?_) jR (iC ?_ (x8 h))
      ·obtain⟨g,hg,_⟩:=oT j hj eY kP;rcases iW j g hg with h1|h1
       ·exact h1
       ·exact absurd rfl h1.1
      ·rintro e' S' ⟨E',rfl,hr⟩;exact WH E' S' hr
     ·obtain⟨v,hv,dq,Uo,E',Ay,hr⟩:=EM oU h;refine nF qZ (by rw[nK];exact oU) _ listed E.get S hd.cl (fun j jt Ee eY kP OR=>?_) jR hv (fun hs=>dq (by rw[←nK];exact hs)) (fun hs=>Uo (by rw[←nK];exact hs)) (by rw[←Ay];exact WH E' S hr);have hj:j<ops.size:=by
       rcases o_ j ops.size with aR|eh
       ·exact aR
       ·rw[aY,Array.getElem?_eq_none (by have:=hd.sz;omega)]at kP;simp at kP
      obtain⟨g,hg,hgf⟩:=oT j hj eY kP;rcases iW j g hg with h1|⟨h1,h3⟩
      ·exact absurd h1 OR
      ·obtain⟨h3,h2⟩:=h3 jt Ee;refine⟨h3,fun hl=>?_⟩;rw[nK];rcases h2 with h2|h2
       ·exact absurd (hgf.symm.trans hl) h2
       ·exact h2
   ·simp only[ye,aW,aQ,aL,eT]at eQ;obtain⟨⟨⟨⟨hf,nK⟩,ub⟩,ix⟩,nU⟩:=eQ;simp only[jT,bM]at hk;subst hk;split at ix
    rotate_left
    ·cases ix
    rename_i o Ic ho v8;rw[qZ]at v8;cases v8;simp only[fB,dR,eT]at ix;have xv:k<ops.size:=(Array.getElem?_eq_some_iff.1 ho).1;have jR:k∈Region.ready .any ops listed:=nf ho (hd.un xv ub) fun e he hb=>by
     rcases ix e (by simpa using he)with h1|h1
     ·rw[hb]at h1;cases h1
     ·rw[hd.bit];exact h1
    refine⟨jR,?_⟩;unfold Sk;rw[qZ];subst hf;refine .inl ⟨nK,iC ?_ (x8 h)⟩;rintro e' S' ⟨E',rfl,hr⟩;exact ih n _ _ E' S' nU (hd.set jR) hr
 | .alt a b,qD,hs=>by
   simp only[zR]at hs;split at hs
   rotate_left
   ·cases hs
   rename_i sa sb hsa Uc;simp only[aa]at hs;subst hs;have iha:=(Hk full K Ax hF a sa hsa).2;have ihb:=(Hk full K Ax hF b sb Uc).2;have both:∀(n done:Nat) (listed:Array Bool) (E:Env) (S:ae),ye ops items (mw ops) full a true (n+1) done=true→ye ops items (mw ops) full b true (n+1) done=true→Zt ops listed done→lG P (.alt sa sb) E S K→∀k∈jT a++jT b,k∈Region.ready .any ops listed∧Sk P items (iY full) k (oB P ops items (iY full) Fin n (listed.setIfInBounds k true)) E.get S:=by
    intro n done listed E S h1 h2 hd h k hk;rcases List.mem_append.1 hk with hk|hk
    ·exact iha n done listed E S h1 hd h.1 k hk
    ·exact ihb n done listed E S h2 hd h.2 k hk
   refine⟨fun n done listed E S eQ hd h=>?_,fun n done listed E S eQ hd h k hk=>?_⟩
   ·cases n with
    |zero=>simp[ye]at eQ
    |succ n=>
     simp only[ye,aW,cQ,fB,dR,List.contains_eq_mem,aL,ib]at eQ;obtain⟨fY,h1,h2⟩:=eQ;have hb:=both n done listed E S h1 h2 hd h;have eY:=yP a h1;refine⟨fun h0=>?_,fun k hk=>?_⟩
     ·cases hh:jT a with
      |nil=>exact eY hh
      |cons x l=>
       have:=(hb x (by rw[hh];simp)).1;rw[h0]at this;cases this
     ·obtain⟨cN,o,ho,_⟩:=mem_ready.1 hk;have aaJ:=(Array.getElem?_eq_some_iff.1 ho).1;obtain⟨g,hg,_⟩:=hF k aaJ;have qY:done.testBit k=false:=by rw[←hd.bit,ja cN]
      rcases fY (k,g) (Cm hg qY)with h3|⟨x,hx,h3⟩
      ·exact(hb k h3).2
      ·have hxr:=(hb x hx).1;exact absurd (ke h3) (h_ hd.cl hk (ja (mem_ready.1 hxr).1))
   ·simp only[ye,aW]at eQ;exact both n done listed E S eQ.2.1 eQ.2.2 hd h k hk
end
end Go.AL
namespace Go.AL
variable[Mode]
section
variable{P:Program}{own:Hint}{N:Nat}{σ:kL}
theorem Rel.put{ρ:Place}{S:ae}{w:World}{E:Env}{a:Act}(h:Rel N ρ S w E.get a){dn:Place}{S':ae}{w':World}(hx:Ext ρ S w dn S' w')(hi:Inv dn S' w'){d:Option Nat}
 (hd:(d.map (fun x=>decide (x<N))).getD true=true){v:V}{u:Value}(hv:VR dn S' w' false v u):Rel N dn S' w' (E.put d v).get (a.put d u):=by
 refine⟨hi,?_,?_,(h.jK.ext hx).put (by rw[h.size];exact hd) hv⟩
 ·cases d<;>exact h.defers
 ·cases d
  ·exact h.size
  ·simp[Act.put,h.size]
theorem yV{E:Env}{t:Nat}{v:V}(h:E.get t=v):Env.get ((t,v)::E)=E.get:=by
 funext k
 simp only[Env.get];split
 ·rename_i hk;rw[hk,h]
 ·rfl
theorem FH{ops:Array Oper}{g:Option (Nat×Bool)}{g':Option (Nat×Bool)}(hg:iR ops g=some g'){ρ:Place}{S:ae}{w:World}{E:Env}{a:Act}(he:cr ρ S w E.get a){A B:Env→Prop}(h:mO g' E A B)
 {o:Oper}(ho:o.guard=g):∃E':Env,E'.get=E.get∧((Region.wanted o (yielded ops a.tmps)=true∧A E')∨(Region.wanted o (yielded ops a.tmps)=false∧B E')):=by
 cases g with
 |none=>
  simp only[iR,aa]at hg;subst hg;exact⟨E,rfl,.inl ⟨by simp[Region.wanted,ho],h⟩⟩
 |some p=>
  obtain⟨j,want⟩:=p;simp only[iR]at hg;split at hg
  ·rename_i t ht;simp only[aa]at hg;subst hg;simp only[mO]at h;have hy:yielded ops a.tmps j=match a.tmps[t]? with|some (.bool b)=>some b|_=>none:=by
    unfold yielded;rw[ht];rfl
   have hs:=he t;split at h
   ·rename_i x hx;rw[hx]at hs;have hb:=hs.kz;have O':a.tmps[t]?=some (.bool x):=by
     rw[aY]at hb;cases hq:a.tmps[t]? with
     |none=>rw[hq]at hb;simp[Go.undef]at hb
     |some q=>rw[hq]at hb;simp at hb;rw[hb]
    rw[O']at hy;simp only at hy;have hw:Region.wanted o (yielded ops a.tmps)=(x==want):=by simp[Region.wanted,ho,hy]
    rw[hw];by_cases hxw:x=want
    ·subst hxw;exact⟨_,yV hx,.inl ⟨by simp,h.1 rfl⟩⟩
    ·have hxn:x=!want:=by cases x<;>cases want<;>simp_all
     exact⟨_,yV (by rw[hx,hxn]),.inr ⟨by simpa using hxw,h.2 hxn⟩⟩
   ·rename_i hx;rw[hx]at hs;have hb:=hs.sO;have hy':yielded ops a.tmps j=none:=by
     rw[hy];rw[aY]at hb;cases hq:a.tmps[t]? with
     |none=>rfl
     |some q=>rw[hq]at hb;simp at hb;rw[hb];rfl
    exact⟨E,rfl,.inr ⟨by simp[Region.wanted,ho,hy'],h⟩⟩
   ·cases h
  ·cases hg
theorem pk{ops:Array Oper}(Q:Exit→Env→ae→Prop):∀(l:List Oper) (is:List bj),fN P own N ops l=some is→∀(E:Env) (S:ae),nH P is E S (Q .normal)→
 ∀(ρ:Place) (a:Act) (w:World),Ext σ.ρ σ.S σ.w ρ S w→Rel N ρ S w E.get a→wpList P ops (post N σ Q) l a w
 |[],is,hc,E,S,h,ρ,a,w,hx,hr=>by
  simp only[fN,aa]at hc;subst hc;exact⟨trivial,ρ,E,S,hx,hr,h⟩
 |o::l,is,hc,E,S,h,ρ,a,w,hx,hr=>by
  simp only[fN]at hc;split at hc
  ·rename_i s g is' hs hg O0;split at hc
   ·rename_i hd;simp only[aa]at hc;subst hc;simp only[nH]at h;unfold wpList;obtain⟨E',Ay,hh⟩:=FH hg hr.jK h rfl;rw[←Ay]at hr;rcases hh with⟨hw,hA⟩|⟨hw,hB⟩
    ·rw[aK hw];refine .inl ?_;exact xP hs hr.jK hr.inv hA _ _ fun dn S' w' v u h1 h2 h3 h4=>pk Q l is' O0 _ _ h4 dn _ w' (hx.trans h3) (hr.put h3 h2 hd h1)
    ·rw[aC (by rw[hw];exact Bool.false_ne_true)];exact pk Q l is' O0 _ _ hB ρ _ w hx (hr.put (Ext.refl _ _ _) hr.inv hd .cq)
   ·cases hc
  ·cases hc
theorem o6{ops:Array Oper}:∀{l:List Oper} {is:List bj},fN P own N ops l=some is→is.length=l.length∧∀(j:Nat) (it:bj),is[j]?=some it→∃o,l[j]?=some o∧rm P own o=some it.stm∧iR ops o.guard=some it.guard∧o.dst=it.dst∧(o.dst.map (fun x=>decide (x<N))).getD true=true
 |[],is,h=>by simp only[fN,aa]at h;subst h;simp
 |o::l,is,h=>by
  simp only[fN]at h;split at h
  ·rename_i s g is' hs hg O0;split at h
   ·rename_i hd;simp only[aa]at h;subst h;obtain⟨a,b⟩:=o6 O0;refine⟨by simp[a],fun j it hj=>?_⟩;cases j with
    |zero=>simp at hj;subst hj;exact⟨o,rfl,hs,hg,rfl,hd⟩
    |succ j=>simp at hj;obtain⟨o',h1,h2⟩:=b j it hj;exact⟨o',by simpa using h1,h2⟩
   ·cases h
  ·cases h
theorem sK{ops:Array Oper}{o:Oper}{g:Option (Nat×Bool)}(hg:iR ops o.guard=some g){ρ:Place}{S:ae}{w:World}{e:Nat→V}{a:Act}(he:cr ρ S w e a){b:Bool}(h:fS g e=some b):
 Region.wanted o (yielded ops a.tmps)=b:=by
 cases ho:o.guard with
 |none=>
  rw[ho]at hg;simp only[iR,aa]at hg;subst hg;simp only[fS,aa]at h;simp[Region.wanted,ho,h]
 |some p=>
  obtain⟨j,want⟩:=p;rw[ho]at hg;simp only[iR]at hg;split at hg
  ·rename_i t ht;simp only[aa]at hg;subst hg;simp only[fS]at h;have hy:yielded ops a.tmps j=match a.tmps[t]? with|some (.bool b)=>some b|_=>none:=by
    unfold yielded;rw[ht];rfl
   have hs:=he t;split at h
   ·rename_i x hx;rw[hx]at hs;have hb:=hs.kz;have O':a.tmps[t]?=some (.bool x):=by
     rw[aY]at hb;cases hq:a.tmps[t]? with
     |none=>rw[hq]at hb;simp[Go.undef]at hb
     |some q=>rw[hq]at hb;simp at hb;rw[hb]
    rw[O']at hy;simp only at hy;simp only[aa]at h;simp[Region.wanted,ho,hy,←h]
   ·rename_i hx;rw[hx]at hs;have hb:=hs.sO;have hy':yielded ops a.tmps j=none:=by
     rw[hy];rw[aY]at hb;cases hq:a.tmps[t]? with
     |none=>rfl
     |some q=>rw[hq]at hb;simp at hb;rw[hb];rfl
    simp only[aa]at h;simp[Region.wanted,ho,hy',←h]
   ·cases h
  ·cases hg
theorem Rel.jM{ρ:Place}{S:ae}{w:World}{e:Nat→V}{a:Act}(h:Rel N ρ S w e a){dn:Place}{S':ae}{w':World}(hx:Ext ρ S w dn S' w')(hi:Inv dn S' w'){d:Option Nat}
 (hd:(d.map (fun x=>decide (x<N))).getD true=true){v:V}{u:Value}(hv:VR dn S' w' false v u):Rel N dn S' w' (AL.jM e d v) (a.put d u):=by
 refine⟨hi,?_,?_,?_⟩
 ·cases d<;>exact h.defers
 ·cases d
  ·exact h.size
  ·simp[Act.put,h.size]
 ·cases d with
  |none=>exact h.jK.ext hx
  |some d=>
   intro t;simp only[bU,bL,aL]at hd;simp only[AL.jM,Act.put,aY,iT];have hG:d<a.tmps.size:=by rw[h.size];exact hd
   by_cases ht:t=d
   ·subst ht;simp only[aQ,hG];exact hv
   ·rw[aC ht,aC (fun hh=>ht hh.symm)];have:=(h.jK.ext hx) t;rwa[aY]at this
theorem vM{ops:Array Oper}{Q:Exit→Act→World→Prop}{i:Nat}{o:Oper}{it:bj}{S:ae}{e:Nat→V}{ρ:Place}{a:Act}{w:World}{K:Act→World→Prop}{R:(Nat→V)→ae→Prop}(ho:ops[i]?=some o)(hs:rm P own o=some it.stm)
 (hg:iR ops o.guard=some it.guard)(O4:o.dst=it.dst)(hd:(o.dst.map (fun x=>decide (x<N))).getD true=true)(hx:Ext σ.ρ σ.S σ.w ρ S w)(hr:Rel N ρ S w e a)(hv:nS P it R e S)
 (hK:∀dn S' a' w' e',R e' S'→Ext σ.ρ σ.S σ.w dn S' w'→Rel N dn S' w' e' a'→K a' w'):wpOp P ops Q i K a w:=by
 unfold wpOp;rw[ho];rcases hv with⟨h1,h2⟩|⟨h1,h2⟩
 ·have hw:=sK hg hr.jK h1;simp only[hw,aQ];refine .inl (xP hs hr.jK hr.inv h2 _ _ fun dn S' w' v' u e1 e2 e3 e4=>?_);rw[O4]at hd⊢;exact hK dn S' _ w' _ e4 (hx.trans e3) (hr.jM e3 e2 hd e1)
 ·have hw:=sK hg hr.jK h1;simp only[hw,aV,aZ];rw[O4]at hd⊢;exact hK ρ S _ w _ h2 hx (hr.jM (Ext.refl _ _ _) hr.inv hd .cq)
theorem DV.ay{it:bj}{e:Nat→V}{S:ae}{v:V}(h:DV P it e S v):nS P it (fun e' S'=>e'=AL.jM e it.dst v∧S'=S) e S:=by
 rcases h with⟨h1,h2⟩|⟨h1,rfl⟩
 ·exact .inl ⟨h1,ph (fun r S' ⟨a,b⟩=>⟨by rw[a],b⟩) (zN h2)⟩
 ·exact .inr ⟨h1,rfl,rfl⟩
theorem lF{ops:Array Oper}{items:List bj}{fl:Nat→Fl}{Q:Exit→Env→ae→Prop}(hc:fN P own N ops ops.toList=some items):
 ∀(fuel:Nat) (listed:Array Bool) (e:Nat→V) (S:ae),oB P ops items fl (fun e S=>∃E:Env,E.get=e∧Q .normal E S) fuel listed e S→
 ∀ρ a w,Ext σ.ρ σ.S σ.w ρ S w→Rel N ρ S w e a→wpAny P .any ops (post N σ Q) fuel listed a w
 |0,listed,e,S,h,ρ,a,w,hx,hr=>by
  obtain⟨h1,E,rfl,h2⟩:=h;exact⟨h1,trivial,ρ,E,S,hx,hr,h2⟩
 |fuel+1,listed,e,S,h,ρ,a,w,hx,hr=>by
  refine⟨fun h0=>absurd h0 h.1,fun i hi=>?_⟩;have h1:=h.2 i hi;unfold Sk at h1;split at h1
  ·exact h1.elim
  ·rename_i it qZ;obtain⟨o,ho,hs,hg,O4,hd⟩:=(o6 hc).2 i it qZ;have eI:ops[i]?=some o:=by simpa using ho
   rcases h1 with⟨_,h1⟩|⟨_,v,hv,h1⟩
   ·exact vM eI hs hg O4 hd hx hr h1 fun dn S' a' w' e' hR su iA=>lF hc fuel _ _ _ hR dn a' w' su iA
   ·exact vM eI hs hg O4 hd hx hr hv.ay fun dn S' a' w' e' hR su iA=>by
     obtain⟨rfl,rfl⟩:=hR;exact lF hc fuel _ _ _ h1 dn a' w' su iA
theorem FV{ops:Array Oper}{items:List bj}{l:List (Nat×Fl)}{qD:List (Fl×bj)}{id:Nat}{Q:Exit→Env→ae→Prop}(hc:fN P own N ops ops.toList=some items)(hm:P.follows .mixedOrders=true)(eQ:z_ ops items l=true)(sA:na items l=some qD)
 {E:Env}{S:ae}(h:ga P qD E S (Q .normal)){ρ:Place}{a:Act}{w:World}(hx:Ext σ.ρ σ.S σ.w ρ S w)(hr:Rel N ρ S w E.get a):(Code.region id ops true).wp P (post N σ Q) a w:=by
 refine wp_region_any hm ?_;simp only[z_,aW,aL,fB,List.mem_range,ib,beq_iff_eq]at eQ;obtain⟨⟨hlen,hF⟩,eQ⟩:=eQ;have su:Ext σ.ρ σ.S σ.w ρ S w.drew:=hx.trans (Ext.drew _ _ _);have iA:Rel N ρ S w.drew E.get a:=⟨hr.inv.drew,hr.defers,hr.size,hr.jK.ext (Ext.drew _ _ _)⟩;have h0:=ZQ (P:=P) (ops:=ops) (items:=items) (Fin:=fun e S=>∃E:Env,E.get=e∧Q .normal E S) l (Q .normal) (fun E S hq=>⟨E,rfl,hq⟩) l qD 0 (Array.replicate ops.size false) E S (yg l 0 eQ) eQ sA (by simp)
  (fun j=>by
   rw[aY,kD,Nat.zero_testBit];split<;>rfl)
  (fun i o _ hl=>by
   rw[aY,kD]at hl;split at hl<;>cases hl)
  (fun j hj=>.inr (hF j hj)) h
 rw[hlen]at h0;exact lF hc _ _ _ _ h0 ρ a w.drew su iA
theorem Dy{ops:Array Oper}{items:List bj}{pre oH mq:List (Nat×Fl)}{sa sb sc:List (Fl×bj)}{id:Nat}{Q:Exit→Env→ae→Prop}(hc:fN P own N ops ops.toList=some items)(hm:P.follows .mixedOrders=true)(eQ:vz ops items pre oH mq=true)(hsa:na items pre=some sa)(Uc:na items oH=some sb)(hsc:na items mq=some sc)
 {E:Env}{S:ae}(h:ga P sa E S fun E S=>ga P sb E S (Q .normal)∧ga P sc E S (Q .normal)){ρ:Place}{a:Act}{w:World}(hx:Ext σ.ρ σ.S σ.w ρ S w)(hr:Rel N ρ S w E.get a):(Code.region id ops true).wp P (post N σ Q) a w:=by
 refine wp_region_any hm ?_;simp only[vz,aW,aL,fB,List.mem_range,ib,beq_iff_eq]at eQ;obtain⟨⟨⟨⟨hlen,hF⟩,eQ⟩,hft⟩,aiR⟩:=eQ;split at eQ
 rotate_left
 ·cases eQ
 rename_i d hd;have su:Ext σ.ρ σ.S σ.w ρ S w.drew:=hx.trans (Ext.drew _ _ _);have iA:Rel N ρ S w.drew E.get a:=⟨hr.inv.drew,hr.defers,hr.size,hr.jK.ext (Ext.drew _ _ _)⟩;have hfp:∀(l:List (Nat×Fl)) (done:Nat),okP ops items (mw ops) (pre++oH) oH done l=some d→∀p∈l,iY (pre++oH) p.1=p.2:=by
  intro l;induction l with
  |nil=>intro done _ p hp;simp at hp
  |cons q l ih=>
   intro done h p hp;obtain⟨i,f⟩:=q;rw[okP]at h;split at h
   ·rename_i h1;simp only[okI,aW,aL]at h1;rcases List.mem_cons.1 hp with h2|h2
    ·subst h2;exact h1.1.2
    ·exact ih _ h p h2
   ·cases h
 have h0:=VK (P:=P) (ops:=ops) (items:=items) (Fin:=fun e S=>∃E:Env,E.get=e∧Q .normal E S) (pre++oH) oH oH.length d (fun E S=>ga P sb E S (Q .normal)∧ga P sc E S (Q .normal)) hft
  (fun listed E S k1 k2 k3 k4 hk=>ac' (pre++oH) (Q .normal) (fun E S hq=>⟨E,rfl,hq⟩) oH mq sb sc d listed E S hft aiR eQ Uc hsc k1 k2 k3 k4 hk.1 hk.2) pre sa 0 (Array.replicate ops.size false) E S (hfp pre 0 hd) hd hsa (by simp)
  (fun j=>by
   rw[aY,kD,Nat.zero_testBit];split<;>rfl)
  (fun i o _ hl=>by
   rw[aY,kD]at hl;split at hl<;>cases hl)
  (fun j hj=>.inr (hF j hj)) h
 rw[aH]at hlen;rw[hlen]at h0;exact lF hc _ _ _ _ h0 ρ a w.drew su iA
theorem Dx{ops:Array Oper}{items:List bj}{t:AT (Nat×Fl)}{qD:AT (Fl×bj)}{id:Nat}{Q:Exit→Env→ae→Prop}(hc:fN P own N ops ops.toList=some items)(hm:P.follows .mixedOrders=true)(eQ:vy ops items t=true)(sA:zR items t=some qD)
 {E:Env}{S:ae}(h:lG P qD E S (Q .normal)){ρ:Place}{a:Act}{w:World}(hx:Ext σ.ρ σ.S σ.w ρ S w)(hr:Rel N ρ S w E.get a):(Code.region id ops true).wp P (post N σ Q) a w:=by
 refine wp_region_any hm ?_;simp only[vy,aW,aL,fB,List.mem_range,ib,beq_iff_eq]at eQ;obtain⟨hF,eQ⟩:=eQ;have su:Ext σ.ρ σ.S σ.w ρ S w.drew:=hx.trans (Ext.drew _ _ _);have iA:Rel N ρ S w.drew E.get a:=⟨hr.inv.drew,hr.defers,hr.size,hr.jK.ext (Ext.drew _ _ _)⟩;have h0:=(Hk (P:=P) (ops:=ops) (items:=items) (Fin:=fun e S=>∃E:Env,E.get=e∧Q .normal E S) (yW t) (Q .normal) (fun E S hq=>⟨E,rfl,hq⟩)
  (fun j hj=>by
   obtain⟨⟨i,f⟩,hp,hi,hf⟩:=hF j hj;simp only at hi hf;subst hi;exact⟨f,hp,hf⟩) t qD sA).1 ops.size 0 (Array.replicate ops.size false) E S eQ
  ⟨by simp,fun j=>by
   rw[aY,kD,Nat.zero_testBit];split<;>rfl,
  fun i o _ hl=>by
   rw[aY,kD]at hl;split at hl<;>cases hl⟩ h
 exact lF hc _ _ _ _ h0 ρ a w.drew su iA
theorem J7{b:Code}{K:Env→ae→Prop}{Q:Exit→Env→ae→Prop}(hb:∀E S,K E S→W P N σ b Q E S)(x:Exit)(a:Act)(w:World)(h:post N σ (mZ K Q) x a w):Exit.then (b.wp P (post N σ Q)) (post N σ Q) x a w:=by
 obtain⟨eQ,ρ,E,S,h1,h2,h3⟩:=h;cases x<;>simp only[qg]at eQ
 ·exact hb E S h3 ρ a w h1 h2
 ·exact⟨trivial,ρ,E,S,h1,h2,h3⟩
 ·exact⟨trivial,ρ,E,S,h1,h2,h3⟩
theorem yE{ρ:Place}{S:ae}{w:World}(hi:Inv ρ S w){id aI sz:Nat}{t:TypeId}{rows:List (List V)}(hs:S.bq id aI=some (t,sz,rows)):Inv ρ (S.set id ⟨aI,none⟩) w∧Ext ρ S w ρ (S.set id ⟨aI,none⟩) w:=by
 have iV:=df hs;have aR:=(List.getElem?_eq_some_iff.1 iV).1;have low:∀(i:Nat) (o:Obj) (c:eR),(S.set id ⟨aI,none⟩)[i]?=some o→o.st=some c→S[i]?=some o∧i≠id:=fun i o c ho hc=>by
  by_cases h:i=id
  ·subst h;rw[aT aR]at ho;cases ho;cases hc
  ·exact⟨by rwa[bB (fun e=>h e.symm)]at ho,h⟩
 have hx:Ext ρ S w ρ (S.set id ⟨aI,none⟩) w:=by
  refine⟨rfl,⟨rfl,fun _=>ah _⟩,rfl,ah _,fun k hk=>⟨⟨hk.1,fun i o c g' eU ho dq hr=>hk.2 i o c g' eU (low i o c ho dq).1 dq hr⟩,rfl⟩,by simp,fun i o o' ho eI=>?_⟩;by_cases h:i=id
  ·subst h;rw[aT aR]at eI;rw[iV]at ho;cases ho;cases eI;exact⟨ah _,fun _ c' As=>by cases As⟩
  ·rw[bB (fun e=>h e.symm),ho]at eI;cases eI;exact⟨ah _,fun _ c hc=>⟨c,hc,eR.fD c,rfl⟩⟩
 refine⟨⟨fun i v e s rs fH=>?_,fun i j o p c d q x y ho hp hc hd hr iA=>hi.inj i j o p c d q x y (low i o c ho hc).1 (low j p d hp hd).1 hc hd hr iA,jP hi hx (fun i v rs fH=>⟨(low i _ _ fH rfl).1,rfl⟩) (fun _ _ _ _ _ _=>rfl),jJ hi hx⟩,hx⟩;obtain⟨h1,h2⟩:=hi.rows i v e s rs (low i _ _ fH rfl).1;refine⟨h1,?_⟩;rcases h2 with h2|⟨g',eU,kI,a,b,c,d,f,k⟩
 ·exact .inl h2
 ·refine .inr ⟨g',eU,kI,a,b,c,d,f,fun i r fv j y hj=>?_⟩;obtain⟨u,hu,hv,h1⟩:=k i r fv j y hj;exact⟨u,hu,hv.ext hx,h1⟩
theorem Kq{ρ:Place}{S:ae}{w:World}(hi:Inv ρ S w){id aI sz:Nat}{t:TypeId}{cells:List V}(hs:S.bq id aI=some (t,sz,[cells])){u:Value}{b:Bool}(hr:VR ρ S w b (.ptr id aI 0 0) u)(qu:V.bQ cells=true):
 VR ρ (S.set id ⟨aI,none⟩) w false (.bK cells) u:=by
 have iV:=df hs;have aR:=(List.getElem?_eq_some_iff.1 iV).1;have hx:=(yE hi hs).2;obtain⟨g,db,hg,rfl⟩:=hr.fU hs;obtain⟨cur,b1,b2,b3,b4,b5,b6⟩:=ks hi hs hg;refine .bK (fun j=>(cur[j]?).getD Go.undef) ⟨(Array.getElem?_eq_some_iff.1 b1).1,fun i o c g' eU ho dq iA e=>?_⟩ (fun j v hj=>?_) (fun j v hj=>?_) (fun j v hj=>?_)
 ·by_cases h:i=id
  ·subst h;rw[aT aR]at ho;cases ho;cases dq
  ·rw[bB (fun e=>h e.symm)]at ho;subst e;exact h (hi.inj i id o _ c _ g' eU db ho iV dq rfl iA hg)
 ·obtain⟨x,x1,_,_⟩:=b6 0 cells rfl j v hj;rw[ik,dv]at x1;rw[x1];unfold World.cell?;simp only[b1,ik,dv];exact x1
 ·obtain⟨x,x1,x2,_⟩:=b6 0 cells rfl j v hj;rw[ik,dv]at x1;rw[x1];exact(x2.uX (V.eZ qu j v hj) true).ext hx
 ·obtain⟨x,x1,_,x3⟩:=b6 0 cells rfl j v hj;rw[ik,dv]at x1;rw[x1];exact x3
theorem UC{ρ:Place}{S:ae}{w:World}{E:Env}{a:Act}(h:Rel N ρ S w E.get a){t:Nat}{K:Env→ae→Prop}(hk:AA (E.get t) t E S K):∃E' S',Ext ρ S w ρ S' w∧Rel N ρ S' w E'.get a∧K E' S':=by
 unfold AA at hk;split at hk
 ·rename_i id aI he;unfold FJ at hk;split at hk
  ·rename_i ty sz cells hs;obtain⟨qu,hk⟩:=hk;obtain⟨i1,i2⟩:=yE h.inv hs;refine⟨_,_,i2,⟨i1,h.defers,h.size,fun k=>?_⟩,hk⟩;simp only[Env.get];by_cases hkt:k=t
   ·subst hkt;rw[aK rfl];have:=h.jK k;rw[he]at this;exact Kq h.inv hs this qu
   ·rw[aC hkt];exact(h.jK k).ext i2
  ·exact hk.elim
 ·exact hk.elim
theorem rQ:∀(c:Code) (ac:e8),jA P own N c=some ac→∀(Q:Exit→Env→ae→Prop) (E:Env) (S:ae),ji P N σ ac Q E S→W P N σ c Q E S:=by
 intro c;induction c with
 |skip=>
  intro ac hc Q E S h;simp only[jA,aa]at hc;subst hc;exact fun ρ a w hx hr=>wp_skip ⟨trivial,ρ,E,S,hx,hr,h⟩
 |region id ops draw=>
  intro ac hc Q E S h;cases draw
  ·simp only[jA,aG]at hc;obtain⟨is,O0,rfl⟩:=hc;cases hfz:WO own N id with
   |none=>
    rw[hfz]at h;exact fun ρ a w hx hr=>wp_region_list (pk Q ops.toList is O0 E S h ρ a w hx hr)
   |some t=>
    rw[hfz]at h;refine fun ρ a w hx hr=>wp_mono (wp_region_list (pk (mZ (fun E S=>AA (E.get t) t E S (Q .normal)) Q) ops.toList is O0 E S h ρ a w hx hr)) fun x a' w' hp=>?_;obtain⟨eQ,dn,E',S',h1,h2,h3⟩:=hp;cases x<;>simp only[qg]at eQ
    ·obtain⟨E2,S2,k1,k2,k3⟩:=UC h2 h3;exact⟨trivial,dn,E2,S2,h1.trans k1,k2,k3⟩
    ·exact⟨trivial,dn,E',S',h1,h2,h3⟩
    ·exact⟨trivial,dn,E',S',h1,h2,h3⟩
  ·simp only[jA]at hc;split at hc
   ·rename_i items O0 hm;split at hc
    ·split at hc
     ·rename_i t ht;split at hc
      ·rename_i eQ;simp only[aG]at hc;obtain⟨qD,sA,rfl⟩:=hc;simp only[ji]at h;exact fun ρ a w hx hr=>Dx O0 hm eQ sA h hx hr
      ·cases hc
     ·cases hc
    split at hc
    ·split at hc
     ·rename_i eQ;simp only[aG]at hc;obtain⟨qD,sA,rfl⟩:=hc;simp only[ji]at h;exact fun ρ a w hx hr=>FV O0 hm eQ sA h hx hr
     ·cases hc
    ·rename_i pre oH mq Ln;split at hc
     ·rename_i eQ;split at hc
      ·rename_i sa sb sc hsa Uc hsc;simp only[aa]at hc;subst hc;simp only[ji]at h;exact fun ρ a w hx hr=>Dy O0 hm eQ hsa Uc hsc h hx hr
      ·cases hc
     ·cases hc
   ·cases hc
 |seq a b iha ihb=>
  intro ac hc Q E S h;simp only[jA]at hc;split at hc
  ·rename_i a' b' ha hb;simp only[aa]at hc;subst hc;simp only[ji]at h;exact fun ρ ac w hx hr=>wp_seq (wp_mono (iha a' ha _ E S h ρ ac w hx hr) fun x a w hp=>J7 (fun E S hk=>ihb b' hb Q E S hk) x a w hp)
  ·cases hc
 |cond c x y ihx ihy=>
  intro ac hc Q E S h;simp only[jA]at hc;split at hc
  ·rename_i c' x' y' Be hx hy;simp only[aa]at hc;subst hc;simp only[ji,wB]at h;split at h
   ·rename_i b hb;intro ρ a w hxx hr;have hv:=bw hr.jK Be;rw[hb]at hv;refine wp_cond_split hv.kz (fun hbt=>ihx x' hx Q E S (h.1 hbt) ρ a w hxx hr) (fun hbf=>ihy y' hy Q E S (h.2 hbf) ρ a w hxx hr)
   ·cases h
  ·cases hc
 |block id c ih=>
  intro ac hc Q E S h;simp only[jA,aG]at hc;obtain⟨c',Be,rfl⟩:=hc;simp only[ji]at h;refine fun ρ a w hx hr=>wp_block (wp_mono (ih c' Be _ E S h ρ a w hx hr) fun x a w hp=>?_);obtain⟨eQ,dn,E',S',h1,h2,h3⟩:=hp;cases x<;>simp only[qg]at eQ
  ·exact⟨trivial,dn,E',S',h1,h2,h3⟩
  ·rename_i i;simp only[nL]at h3;simp only[Exit.inBlock];split
   ·rename_i xw;rw[aK xw]at h3;exact⟨trivial,dn,E',S',h1,h2,h3⟩
   ·rename_i xw;rw[aC xw]at h3;exact⟨trivial,dn,E',S',h1,h2,h3⟩
  ·exact⟨trivial,dn,E',S',h1,h2,h3⟩
 |loop c ih=>
  intro ac hc Q E S h;simp only[jA,aG]at hc;obtain⟨c',Be,rfl⟩:=hc;exact h c own Be
 |exit id=>
  intro ac hc Q E S h;simp only[jA,aa]at hc;subst hc;exact fun ρ a w hx hr=>wp_exit ⟨trivial,ρ,E,S,hx,hr,h⟩
 |ret=>
  intro ac hc Q E S h;simp only[jA,aa]at hc;subst hc;exact fun ρ a w hx hr=>wp_ret ⟨trivial,ρ,E,S,hx,hr,h⟩
 |_=>
  intro ac hc Q E S h;simp only[jA,aa]at hc;subst hc;exact h.elim
def sub:Env→Env→Prop
 |[],_=>True
 |(k,v)::r,E=>E.get k=v∧sub r E
theorem GV:∀{F E:Env},sub F E→∀t,F.get t= .undef∨F.get t=E.get t
 |[],_,_,_=>.inl rfl
 |(k,v)::r,E,h,t=>by
  simp only[Env.get];by_cases ht:t=k
  ·rw[aK ht];subst ht;exact .inr h.1.symm
  ·rw[aC ht];exact GV h.2 t
theorem Rel.sub{ρ:Place}{S:ae}{w:World}{E F:Env}{a:Act}(h:Rel N ρ S w E.get a)(hs:AL.sub F E):Rel N ρ S w F.get a:=
 ⟨h.inv,h.defers,h.size,fun t=>by
   rcases GV hs t with h1|h1
   ·rw[h1];exact .undef
   ·rw[h1];exact h.jK t⟩
theorem cH{ι:Type}(EI:ι→Env)(SI:ι→ae)(inv:ι→Prop)(μ:ι→Nat){b:e8}{Q:Exit→Env→ae→Prop}{E:Env}{S:ae}(i0:ι)(h0:inv i0)(hE:sub (EI i0) E)(hS:S=SI i0)
 (round:∀i,inv i→ji P N σ b (mZ (fun E' S'=>∃i',inv i'∧μ i'<μ i∧sub (EI i') E'∧S'=SI i') Q) (EI i) (SI i)):jC P N σ b Q E S:=by
 intro c own hc ρ a w hx hr;refine wp_loop_ghost (fun n a w=>∃ρ i,n=μ i∧inv i∧Ext σ.ρ σ.S σ.w ρ (SI i) w∧Rel N ρ (SI i) w (EI i).get a) (μ i0) ⟨ρ,i0,rfl,h0,by rw[←hS];exact hx,by rw[←hS];exact hr.sub hE⟩ ?_;rintro n a w ⟨ρ,i,rfl,hi,h1,h2⟩;refine wp_mono (rQ c b hc _ (EI i) (SI i) (round i hi) ρ a w h1 h2) fun x a w hp=>?_;obtain⟨eQ,dn,E',S',h3,h4,h5⟩:=hp;cases x<;>simp only[qg]at eQ
 ·obtain⟨i',fH,aR,hs,rfl⟩:=h5;exact⟨μ i',aR,dn,i',rfl,fH,h3,h4.sub hs⟩
 ·exact⟨trivial,dn,E',S',h3,h4,h5⟩
 ·exact⟨trivial,dn,E',S',h3,h4,h5⟩
inductive RS where
 |tmp (t:Nat)
 |cell (t:Nat) (n:Option Nat)
 deriving Inhabited
structure bA where
 N:Nat
 res:List RS
 code:e8
def jY(P:Program):List ResultVar→Option (List RS)
 |[]=>some []
 | .tmp t::r=>(jY P r).map (.tmp t::·)
 | .cell t ty::r=>match fX P ty,er P ty with
   |some false,_=>(jY P r).map (.cell t none::·)
   |some true,some n=>(jY P r).map (.cell t (some n)::·)
   |_,_=>none
def aU(P:Program)(own:Hint)(fn:Func):Option bA:=
 match fn.body,jY P fn.results.toList with
 |some c,some res=>if fn.name== "runtime.NumGoroutine" then none else(jA P own fn.ntmps c).map fun ac=>⟨fn.ntmps,res,ac⟩
 |_,_=>none
def rsV(e:Nat→V)(S:ae):RS→Option V
 | .tmp t=>some (e t)
 | .cell t none=>cu e S (.ld1 (.t t))
 | .cell t (some n)=>cu e S (.D_ n (.t t))
def uV:List V→V
 |[v]=>v
 |l=>.dI l
def k6(e:Nat→V)(S:ae)(R:V→ae→Prop):List RS→List V→Prop
 |[],acc=>R (uV acc) S
 |r::rs,acc=>match rsV e S r with
  |some v=>k6 e S R rs (acc++[v])
  |none=>False
def ju:Nat→List V→Env
 |_,[]=>[]
 |k,v::r=>(k,v)::ju (k+1) r
theorem wR:∀(l:List V) (k t:Nat),(ju k l).get t=if k≤t then(l[t-k]?).getD .undef else .undef
 |[],k,t=>by simp[ju,Env.get]
 |v::r,k,t=>by
  simp only[ju,Env.get,wR r (k+1) t];by_cases h:t=k
  ·subst h;simp
  ·rw[aC h];by_cases h2:k≤t
   ·rw[aK (by omega),aK h2];have:t-k=(t-(k+1))+1:=by omega
    rw[this];simp
   ·rw[aC (by omega),aC h2]
def vl(res:List RS)(R:V→ae→Prop):Exit→Env→ae→Prop:=fun x E S=>
 match x with
 | .normal| .ret=>k6 E.get S R res []
 |_=>False
end
end Go.AL
namespace Go.AL
variable[Mode]
section
variable{P:Program}
theorem Ki{ρ:Place}{S:ae}{w:World}{e:Nat→V}{v:V}{t:Nat}{ty:TypeId}{ux:Value}(ht:fX P ty=some false)(hi:Inv ρ S w)(h1:VR ρ S w false (e t) ux)(h:cu e S (.ld1 (.t t))=some v):
 ∃a u,ux= .pointer (some a)∧(loadVar ty a).run P w= .ok u w∧VR ρ S w false v u:=by
 have run:∀g off u,ux= .pointer (some ⟨g,off,none⟩)→w.cell? ⟨g,off,none⟩=some u→VR ρ S w false v u→∃a u,ux= .pointer (some a)∧(loadVar ty a).run P w= .ok u w∧VR ρ S w false v u:=by
  intro g off u hp hc hv;exact⟨_,u,hp,by simp[loadVar,lh ht,hc],hv⟩
 simp only[cu,ev]at h;split at h
 ·rename_i cells hl;rw[hl]at h1;cases h1 with
  | @bK _ _ g off c kP hc hv=>
    have h0:cells[0]?=some v:=by rw[←h];cases cells<;>rfl
    exact run g off (c 0) rfl (hc 0 v h0) ((hv 0 v h0).weaken false)
 ·rename_i id aI row off hl;rw[hl]at h1;simp only[cP]at h;obtain⟨⟨t',sz,rows⟩,hs,r,hr,hy⟩:=h;obtain⟨g,db,hg,hu⟩:=h1.fU hs;obtain⟨u,hc,hv,_⟩:=nJ hi hs hg hr hy;exact run g _ u hu hc hv
 ·cases h
theorem Kh{ρ:Place}{S:ae}{w:World}{e:Nat→V}{v:V}{t n:Nat}{ty:TypeId}{ux:Value}(ht:fX P ty=some true)(hz:er P ty=some n)(hi:Inv ρ S w)(h1:VR ρ S w false (e t) ux)(h:cu e S (.D_ n (.t t))=some v):
 ∃a u,ux= .pointer (some a)∧(loadVar ty a).run P w= .ok u w∧VR ρ S w false v u:=by
 obtain⟨ti,pO,hG⟩:=iB hz;have run:∀g off (vs:List V),vs.length=n→ux= .pointer (some ⟨g,off,none⟩)→(∀(j:Nat) (y:V),vs[j]?=some y→∃u,w.cell? ⟨g,off+j,none⟩=some u∧VR ρ S w false y u)→∃a u,ux= .pointer (some a)∧(loadVar ty a).run P w= .ok u w∧VR ρ S w false (.agg vs) u:=by
  intro g off vs CU hp hc;have hex:∃c:Nat→Value,∀(j:Nat) (y:V),vs[j]?=some y→w.cell? ⟨g,off+j,none⟩=some (c j)∧VR ρ S w false y (c j):=by
   refine⟨fun j=>(w.cell? ⟨g,off+j,none⟩).getD Go.undef,fun j y hy=>?_⟩;obtain⟨u,h2,h3⟩:=hc j y hy;simp[h2,h3]
  obtain⟨c,hc⟩:=hex;have hl:=run_loadCells (P:=P) w ⟨g,off,none⟩ n c (fun j hj=>by
   rw[Addr.add_lit];exact(hc j vs[j] (ax (by omega))).1)
  refine⟨_,.agg ((List.range n).map c).toArray,hp,?_,.DX (by simp[CU]) fun j y hj=>?_⟩
  ·simp[loadVar,oS ht,sizeOf,typeInfo,pO,hG,hl]
  ·have aR:j<n:=by rw[←CU];exact(List.getElem?_eq_some_iff.1 hj).1
   exact⟨c j,by simp[aR],(hc j y hj).2⟩
 simp only[cu,ev]at h;split at h
 ·rename_i cells hl;rw[hl]at h1;split at h
  ·rename_i hle;simp only[aa]at h;subst h;cases h1 with
   | @bK _ _ g off c kP hc hv=>
     refine run g off _ (by simp[hle]) rfl fun j y hj=>?_;have w7:cells[j]?=some y:=by
      rw[bC]at hj;split at hj
      ·exact hj
      ·cases hj
     exact⟨c j,hc j y w7,(hv j y w7).weaken false⟩
  ·cases h
 ·rename_i id aI row off hl;rw[hl]at h1;simp only[cP]at h;obtain⟨⟨t',sz,rows⟩,hs,r,hr,hy⟩:=h;split at hy
  ·rename_i hle;simp only[aa]at hy;subst hy;obtain⟨g,db,hg,hu⟩:=h1.fU hs;refine run g _ _ (by simp;omega) hu fun j y hj=>?_;have w7:r[off+j]?=some y:=by
    rw[bC]at hj;split at hj
    ·simpa using hj
    ·cases hj
   obtain⟨u,hc,hv,_⟩:=nJ hi hs hg hr w7;exact⟨u,by rw[jh];exact hc,hv⟩
  ·cases hy
 ·cases h
def rW(tmps:Array Value):ResultVar→Sem Value
 | .tmp t=>pure (tmps.getD t Go.undef)
 | .cell a t=>do loadVar t (←asAddr (tmps.getD a Go.undef))
theorem B1{ρ:Place}{S:ae}{w:World}{e:Nat→V}{tmps:Array Value}{R:V→ae→Prop}(hi:Inv ρ S w)(h:∀t,VR ρ S w false (e t) (tmps.getD t Go.undef)):∀(l:List ResultVar) (res:List RS) (acc:List V),jY P l=some res→k6 e S R res acc→
 ∃(us:List Value) (vs:List V),(l.mapM (rW tmps)).run P w= .ok us w∧us.length=vs.length∧(∀(j:Nat) (v:V),vs[j]?=some v→∃u,us[j]?=some u∧VR ρ S w false v u)∧R (uV (acc++vs)) S
 |[],res,acc,hc,hr=>by
  simp only[jY,aa]at hc;subst hc;exact⟨[],[],rfl,rfl,fun j v hj=>by simp at hj,by simpa[k6]using hr⟩
 |x::l,res,acc,hc,hr=>by
  have step:∀(r:RS) (xe:List RS),jY P l=some xe→res=r::xe→(∀v,rsV e S r=some v→∃u,(rW tmps x).run P w= .ok u w∧VR ρ S w false v u)→
   ∃(us:List Value) (vs:List V),((x::l).mapM (rW tmps)).run P w= .ok us w∧us.length=vs.length∧(∀(j:Nat) (v:V),vs[j]?=some v→∃u,us[j]?=some u∧VR ρ S w false v u)∧R (uV (acc++vs)) S:=by
   intro r xe As An hx;subst An;simp only[k6]at hr;split at hr
   ·rename_i v hv;obtain⟨u,hu,huv⟩:=hx v hv;obtain⟨us,vs,k1,k2,k3,k4⟩:=B1 hi h l xe _ As hr;refine⟨u::us,v::vs,?_,by simp[k2],fun j y hj=>?_,by simpa using k4⟩
    ·simp only[List.mapM_cons,Sem.run_bind,hu,Result.andThen_ok,k1,Sem.run_pure]
    ·cases j with
     |zero=>simp at hj;subst hj;exact⟨u,by simp,huv⟩
     |succ j=>simp at hj;obtain⟨z,z1,z2⟩:=k3 j y hj;exact⟨z,by simpa using z1,z2⟩
   ·cases hr
  cases x with
  |tmp t=>
   simp only[jY,aG]at hc;obtain⟨xe,As,rfl⟩:=hc;refine step (.tmp t) xe As rfl fun v hv=>?_;simp only[rsV,aa]at hv;subst hv;exact⟨_,rfl,h t⟩
  |cell t ty=>
   simp only[jY]at hc;split at hc
   ·rename_i ht;simp only[aG]at hc;obtain⟨xe,As,rfl⟩:=hc;refine step (.cell t none) xe As rfl fun v hv=>?_;obtain⟨a,u,e1,e2,e3⟩:=Ki (P:=P) ht hi (h t) hv;exact⟨u,by simp[rW,e1,asAddr,e2],e3⟩
   ·rename_i n ht hz;simp only[aG]at hc;obtain⟨xe,As,rfl⟩:=hc;refine step (.cell t (some n)) xe As rfl fun v hv=>?_;obtain⟨a,u,e1,e2,e3⟩:=Kh (P:=P) ht hz hi (h t) hv;exact⟨u,by simp[rW,e1,asAddr,e2],e3⟩
   ·cases hc
theorem BY{ρ:Place}{S:ae}{w:World}{e:Nat→V}{tmps:Array Value}{R:V→ae→Prop}{fn:Func}{res:List RS}(hi:Inv ρ S w)(h:∀t,VR ρ S w false (e t) (tmps.getD t Go.undef))(hc:jY P fn.results.toList=some res)(hr:k6 e S R res []):
 ∃u v,(results fn tmps).run P w= .ok u w∧VR ρ S w false v u∧R v S:=by
 obtain⟨us,vs,k1,k2,k3,k4⟩:=B1 hi h _ res [] hc hr;have ee:(results fn tmps).run P w= .ok (if h:us.toArray.size=1 then us.toArray[0]else .tuple us.toArray) w:=by
  have aiQ:results fn tmps=(do let vs ←fn.results.mapM (rW tmps);pure (if h:vs.size=1 then vs[0]else .tuple vs):Sem Value):=
   congrArg (fun f=>(do let vs ←fn.results.mapM f;pure (if h:vs.size=1 then vs[0]else .tuple vs):Sem Value)) (funext fun x=>by cases x<;>rfl)
  rw[aiQ,Sem.run_bind,Array.mapM_eq_mapM_toList,Sem.run_map,k1];rfl
 refine⟨_,uV vs,ee,?_,by simpa using k4⟩;match us,vs,k2,k3 with
 |[],[],_,k3=>exact .rR (by simp) fun j v hj=>by simp at hj
 |[u],[v],_,k3=>
  obtain⟨u',hu,hv⟩:=k3 0 v rfl;simp at hu;subst hu;exact hv
 |u::u2::us,v::v2::vs,hl,k3=>
  have eY:¬(u::u2::us).toArray.size=1:=by simp
  rw[dif_neg eY];exact .rR (by simpa using hl) fun j y hj=>by obtain⟨z,z1,z2⟩:=k3 j y hj;exact⟨z,by simpa using z1,z2⟩
theorem qA{ρ:Place}{S:ae}{w:World}(n:Nat):∀g,eo ρ S w g→eo ρ (S.take n) w g∧w.heap[g]?=w.heap[g]?:=fun g ⟨a,b⟩=>
 ⟨⟨a,fun id o c g' db ho dq hr=>b id o c g' db (by
   rw[bC]at ho;split at ho
   ·exact ho
   ·cases ho) dq hr⟩,rfl⟩
end
mutual
def V.under(n:Nat):V→Bool
 | .ptr id _ _ _=>decide (id<n)
 | .cU id _ _ _=>decide (id<n)
 | .eF id _=>decide (id<n)
 | .agg vs=>V.bI n vs
 | .dI vs=>V.bI n vs
 | .iface _ v=>v.under n
 | .func _ a b=>V.bI n a&&V.bI n b
 |_=>true
def V.bI(n:Nat):List V→Bool
 |[]=>true
 |v::r=>v.under n&&V.bI n r
end
theorem V.fe{n:Nat}:∀{vs:List V},V.bI n vs=true→∀(j:Nat) (v:V),vs[j]?=some v→v.under n=true
 |[],_,j,v,h=>by simp at h
 |x::r,h,j,v,hj=>by
  simp only[V.bI,aW]at h;cases j with
  |zero=>simp at hj;subst hj;exact h.1
  |succ j=>simp at hj;exact V.fe h.2 j v hj
def ae.U4(S:ae)(n:Nat):Prop:=∀(id:Nat) (aI:Nat) (e:TypeId) (sz:Nat) (rows:List (List V)),id<n→S[id]?=some ⟨aI,some (.arr e sz rows)⟩→∀r∈rows,V.bI n r=true
def ae.U3(S:ae)(n:Nat):Prop:=∀(id:Nat) (aI:Nat) (m:jF),id<n→S[id]?=some ⟨aI,some (.mp m)⟩→(∀p∈m.rows,p.1.under n=true∧p.2.under n=true∧jl m.kd p.1=true)∧∀of p,m.x= .iter of (some p)→p.1.under n=true∧p.2.under n=true
def ae.closed(S:ae)(n:Nat):Prop:=S.U4 n∧S.U3 n
section
variable{P:Program}
theorem KJ{ρ:Place}{S:ae}{w:World}{args:List V}{us:Array Value}{N:Nat}(hi:Inv ρ S w)(hv:D5 ρ S w args us)(hN:args.length≤N):
 Rel N ρ S w (ju 0 args).get {tmps:=us++Array.replicate (N-us.size) Go.undef,defers:=[]}:=by
 refine⟨hi,rfl,by have:=hv.1;simp;omega,fun t=>?_⟩;rw[wR];simp only[az,aQ,Nat.sub_zero];cases ha:args[t]? with
 |none=>exact .undef
 |some v=>
  obtain⟨u,hu,hr⟩:=hv.2 t v ha;simp only[bL];have aR:t<us.size:=(Array.getElem?_eq_some_iff.1 hu).1;rw[aY,jI aR,hu];exact hr
theorem wC{own:Hint}{fn:Func}{af:bA}(h:aU P own fn=some af):∃c,fn.body=some c∧(fn.name== "runtime.NumGoroutine")=false∧fn.ntmps=af.N∧jY P fn.results.toList=some af.res∧jA P own af.N c=some af.code:=by
 unfold aU at h;split at h
 ·rename_i c res hb hr;split at h
  ·cases h
  ·rename_i hn;simp only[aG]at h;obtain⟨ac,hac,rfl⟩:=h;exact⟨c,hb,by simpa using hn,rfl,hr,hac⟩
 ·cases h
theorem ak.bW{own:Hint}{f:FuncId}{fn:Func}{af:bA}{args:List V}{S:ae}{R:V→ae→Prop}(hf:P.funcs[f]?=some fn)(hc:aU P own fn=some af)(hN:args.length≤af.N)
 (h:∀σ:kL,σ.S=S→ji P af.N σ af.code (vl af.res R) (ju 0 args) S):ak P f args S R:=by
 obtain⟨c,hb,OU,hnt,An,Be⟩:=wC hc;refine⟨⟨fn,hf,OU,by simp[hb]⟩,fun ρ w us hi hv=>?_⟩;refine calls_of_wp hf hb ?_;rw[hnt];refine wp_mono (rQ c af.code Be _ _ _ (h ⟨ρ,S,w⟩ rfl) ρ _ w (Ext.refl _ _ _) (KJ hi hv hN)) fun x a w' hp=>?_;obtain⟨eQ,dn,E,S',h1,h2,h3⟩:=hp;have fin:k6 E.get S' R af.res []→a.defers=[]∧∃v,(results fn a.tmps).run P w'= .ok v w'∧∃dn S' r u,(Ending.returned v)= .returned u∧VR dn S' w' false r u∧Inv dn S' w'∧Ext ρ S w dn S' w'∧R r S':=fun hR=>by
  obtain⟨u,v,g1,g2,g3⟩:=BY (P:=P) h2.inv h2.jK An hR;exact⟨h2.defers,u,g1,dn,S',v,u,rfl,g2,h2.inv,h1,g3⟩
 cases x<;>simp only[qg]at eQ
 ·exact fin h3
 ·exact h3.elim
 ·exact fin h3
end
end Go.AL
