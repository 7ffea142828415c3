/- AlF -/
import Derived.Test.YtfgkgmmnldocaaaGreatDoorZAlD
import Derived.Test.YtfgkgmmnldocaaaGreatDoorRows
import Derived.ProofKit
import Derived.OpenShut
import Derived.JoinedCond
import Derived.Deep.Slices
set_option linter.unusedSectionVars false
set_option linter.unusedSimpArgs false
set_option linter.unusedVariables false
namespace Go.AL
variable[Mode]
def dead(S1:ae)(id:Nat):Prop:=∀o,S1[id]?=some o→o.st=none
inductive jd (S S1:ae):V→V→Prop
 |same {v:V} (h:v.under S1.length=true∨S.length≤S1.length):jd S S1 v v
 |cU {id aI off len sz:Nat} {t:TypeId} {rows bT:List (List V)} (hd:dead S1 id) (ho:S.bq id aI=some (t,sz,rows)) (h0:off=0∨0<len) (hl:bT.length=len)
  (hr:∀(i:Nat) (r:List V),bT[i]?=some r→r.length=sz)
  (hc:∀(i:Nat) (r:List V),bT[i]?=some r→∀(j:Nat) (v:V),r[j]?=some v→∀(q:List V) (x:V),rows[off+i]?=some q→q[j]?=some x→jd S S1 x v)
  (qu:∀(i:Nat) (r:List V),bT[i]?=some r→∀(j:Nat) (v:V),r[j]?=some v→v.dH=true):jd S S1 (.cU id aI off len) (.sl sz bT)
 |ptr {id aI row off sz:Nat} {t:TypeId} {rows:List (List V)} {q cells:List V} (hd:dead S1 id) (ho:S.bq id aI=some (t,sz,rows)) (hq:rows[row]?=some q) (hl:cells.length+off≤q.length)
  (hc:∀(j:Nat) (v:V),cells[j]?=some v→∀x,q[off+j]?=some x→jd S S1 x v)
  (qu:∀(j:Nat) (v:V),cells[j]?=some v→v.dH=true):jd S S1 (.ptr id aI row off) (.bK cells)
 |agg {vs ws:List V} (hl:ws.length=vs.length) (hc:∀(j:Nat) (v:V),ws[j]?=some v→∀x,vs[j]?=some x→jd S S1 x v):jd S S1 (.agg vs) (.agg ws)
 |dI {vs ws:List V} (hl:ws.length=vs.length) (hc:∀(j:Nat) (v:V),ws[j]?=some v→∀x,vs[j]?=some x→jd S S1 x v):jd S S1 (.dI vs) (.dI ws)
 |iface {t:TypeId} {v v':V} (h:jd S S1 v v'):jd S S1 (.iface t v) (.iface t v')
 |nil {sz:Nat}:jd S S1 .aM (.sl sz [])
def XF(S S1:ae):MX→MX→Prop
 |x,.free=>x.iw=false
 | .held i,.held j=>i=j
 | .opened j n,.opened j' n'=>j=j'∧n=n'
 | .iter of c,.iter of' c'=>of=of'∧∀p',c'=some p'→∃p,c=some p∧jd S S1 p.1 p'.1∧jd S S1 p.2 p'.2
 |_,_=>False
theorem XF.iw{S S1:ae}{x x1:MX}(h:XF S S1 x x1):x.iw=x1.iw:=by
 cases x<;>cases x1<;>first|rfl|exact h.elim|exact h
theorem XF.same{S S1:ae}{x:MX}(h:∀of p,x= .iter of (some p)→(p.1.under S1.length=true∧p.2.under S1.length=true)∨S.length≤S1.length):XF S S1 x x:=by
 cases x with
 |free=>rfl
 |held i=>rfl
 |opened j n=>exact⟨rfl,rfl⟩
 |iter of c=>
  refine⟨rfl,fun p hp=>⟨p,hp,?_⟩⟩;subst hp;rcases h of p rfl with⟨h1,h2⟩|h
  ·exact⟨.same (.inl h1),.same (.inl h2)⟩
  ·exact⟨.same (.inr h),.same (.inr h)⟩
structure mV(S S1:ae):Prop where
 len:S1.length≤S.length
 obj:∀(id:Nat) (o1:Obj),S1[id]?=some o1→∃o,S[id]?=some o∧o.aI=o1.aI∧
  ∀(t:TypeId) (sz:Nat) (cW:List (List V)),o1.st=some (.arr t sz cW)→∃rows,o.st=some (.arr t sz rows)∧cW.length=rows.length∧(∀(i:Nat) (r1:List V),cW[i]?=some r1→r1.length=sz)∧
   ∀(i:Nat) (r1:List V),cW[i]?=some r1→∀(j:Nat) (v1:V),r1[j]?=some v1→∀(r:List V) (x:V),rows[i]?=some r→r[j]?=some x→jd S S1 x v1
 Cg:∀(id:Nat) (o1:Obj),S1[id]?=some o1→∀(m1:jF),o1.st=some (.mp m1)→∃o m,S[id]?=some o∧o.aI=o1.aI∧o.st=some (.mp m)∧XF S S1 m.x m1.x∧m1.kd=m.kd∧m1.rows.length=m.rows.length∧(∀p∈m1.rows,jl m1.kd p.1=true)∧
  ∀(i:Nat) (p1 p:V×V),m1.rows[i]?=some p1→m.rows[i]?=some p→jd S S1 p.1 p1.1∧jd S S1 p.2 p1.2
section
variable{ρ:Place}{S S1:ae}{w:World}
theorem mV.alive(h:mV S S1){id:Nat}{o1:Obj}{c:eR}(h1:S1[id]?=some o1)(hc:o1.st=some c):∃o c0,S[id]?=some o∧o.st=some c0∧o.aI=o1.aI:=by
 cases c with
 |arr t sz cW=>
  obtain⟨o,h2,h3,h4⟩:=h.obj id o1 h1;obtain⟨rows,h5,_⟩:=h4 t sz cW hc;exact⟨o,_,h2,h5,h3⟩
 |mp cW=>
  obtain⟨o,rows,h2,h3,h4,_⟩:=h.Cg id o1 h1 cW hc;exact⟨o,_,h2,h4,h3⟩
theorem mV.un(h:mV S S1):∀g,eo ρ S w g→eo ρ S1 w g∧w.heap[g]?=w.heap[g]?:=fun g ⟨a,b⟩=>
 ⟨⟨a,fun id o c g' db ho dq hr=>by
   obtain⟨o0,c0,h1,h2,_⟩:=h.alive ho dq;exact b id o0 c0 g' db h1 h2 hr⟩,rfl⟩
theorem mV.WQ(h:mV S S1)(hi:Inv ρ S w){id aI sz g db:Nat}{t:TypeId}{rows:List (List V)}(hd:dead S1 id)(hs:S[id]?=some ⟨aI,some (.arr t sz rows)⟩)(hr:ρ id=some (g,db)):eo ρ S1 w g:=by
 obtain⟨cur,_,_,hh,_⟩:=hi.obj hs hr;refine⟨(Array.getElem?_eq_some_iff.1 hh).1,fun k o c g' eU ho dq hk hg=>?_⟩;subst hg;obtain⟨o0,c0,h1,h2,_⟩:=h.alive ho dq;have:=hi.inj k id o0 _ c0 _ g' eU db h1 hs h2 rfl hk hr;subst this;rw[hd o ho]at dq;cases dq
theorem VR.forget(h:mV S S1){b:Bool}{v:V}{u:Value}(hv:VR ρ S w b v u):v.under S1.length=true∨S.length≤S1.length→VR ρ S1 w b v u:=by
 have key:∀{id aI:Nat},(∀(o:Obj),S[id]?=some o→aI≤o.aI)→∀(o:Obj),S1[id]?=some o→aI≤o.aI:=by
  intro id aI iP o ho;obtain⟨o0,h1,h2,_⟩:=h.obj id o ho;rw[←h2];exact iP o0 h1
 have adD:∀{id aI sz:Nat} {e:TypeId} {cW:List (List V)},S1[id]?=some ⟨aI,some (.arr e sz cW)⟩→∃rows,S[id]?=some ⟨aI,some (.arr e sz rows)⟩∧cW.length=rows.length:=by
  intro id aI sz e cW hs;obtain⟨⟨v0,st0⟩,h1,h2,h3⟩:=h.obj id _ hs;obtain⟨rows,h4,h5,_⟩:=h3 e sz cW rfl;simp only at h2 h4;subst h2 h4;exact⟨rows,h1,h5⟩
 have ahE:∀{id aI:Nat} {cW:jF},S1[id]?=some ⟨aI,some (.mp cW)⟩→∃rows,S[id]?=some ⟨aI,some (.mp rows)⟩∧rows.x.iw=cW.x.iw:=by
  intro id aI cW hs;obtain⟨⟨v0,st0⟩,rows,h1,h2,h3,xj,_⟩:=h.Cg id _ hs cW rfl;simp only at h2 h3;subst h2 h3;exact⟨rows,h1,xj.iw⟩
 have ids:∀{id:Nat},id<S.length→(decide (id<S1.length)=true∨S.length≤S1.length)→id<S1.length:=fun aR hh=>by
  rcases hh with hh|hh
  ·exact gw hh
  ·omega
 have all:∀{vs:List V},V.bI S1.length vs=true∨S.length≤S1.length→∀(j:Nat) (v:V),vs[j]?=some v→v.under S1.length=true∨S.length≤S1.length:=fun hh j v hj=>by
  rcases hh with hh|hh
  ·exact .inl (V.fe hh j v hj)
  ·exact .inr hh
 induction hv with
 |undef=>exact fun _=>.undef
 |cq=>exact fun _=>.cq
 |int=>exact fun _=>.int
 |bool=>exact fun _=>.bool
 |str h1 h2=>exact fun _=>.str h1 h2
 |aM=>exact fun _=>.aM
 |gC=>exact fun _=>.gC
 |sl c hu hlen ki jS hG hc hv h1 ih=>
  exact fun _=>.sl c (h.un _ hu).1 hlen ki jS hG hc (fun i r hi j v hj=>(hv i r hi j v hj).bX h.un rfl true) h1
 |cU aR iP hh h1=>
  intro hb;refine .cU (ids aR hb) (key iP) (fun e sz rows hs=>?_) h1;obtain⟨eu,h2,h3⟩:=adD hs;rw[h3];exact hh e sz eu h2
 |nilPtr=>exact fun _=>.nilPtr
 |bK c hu hc hv h1 ih=>exact fun _=>.bK c (h.un _ hu).1 hc (fun j v hj=>(hv j v hj).bX h.un rfl true) h1
 |ptr aR iP hh h1=>
  intro hb;refine .ptr (ids aR hb) (key iP) (fun e sz rows hs=>?_) h1;obtain⟨eu,h2,h3⟩:=adD hs;exact hh e sz eu h2
 |func c d hl hm hc hv hd hw T8 Ea=>
  intro hb;have h1:V.bI S1.length _=true∨S.length≤S1.length:=hb.imp (fun hb=>(Bool.and_eq_true_iff.1 hb).1) id;have h2:V.bI S1.length _=true∨S.length≤S1.length:=hb.imp (fun hb=>(Bool.and_eq_true_iff.1 hb).2) id;exact .func c d hl hm hc (fun j v hj=>T8 j v hj (all h1 j v hj)) hd (fun j v hj=>Ea j v hj (all h2 j v hj))
 |jN=>exact fun _=>.jN
 |iface h ih=>exact fun hb=>.iface (ih hb)
 |nilIface=>exact fun _=>.nilIface
 |agg c hl hc hv ih=>exact fun hb=>.agg c hl hc fun j v hj=>ih j v hj (all hb j v hj)
 |dI c hl hc hv ih=>exact fun hb=>.dI c hl hc fun j v hj=>ih j v hj (all hb j v hj)
 |fp=>exact fun _=>.fp
 |eF aR iP hh h1=>
  intro hb;refine .eF (ids aR hb) (key iP) (fun rows hs=>?_) h1;obtain⟨eu,h2,qZ⟩:=ahE hs;have:=hh eu h2;unfold jF.addr at this⊢;rwa[qZ]at this
theorem jd.rel(h:mV S S1)(hi:Inv ρ S w){v v1:V}(hf:jd S S1 v v1):∀{u:Value},VR ρ S w false v u→VR ρ S1 w false v1 u:=by
 induction hf with
 |same hs=>exact fun hv=>hv.forget h hs
 | @cU id aI off len sz t rows bT hd ho h0 hl hr hc qu ih=>
   intro u hv;obtain⟨h1,h2⟩:=hv.gY ho;have hs:=df ho;rcases h2 with⟨_,rfl,rfl,rfl⟩|⟨g,db,cap,hp,rfl,Am,hlc,Lq⟩|⟨ha,hb,_⟩
   ·have:bT=[]:=List.length_eq_zero_iff.1 hl;subst this;exact .gC
   ·obtain⟨cur,a1,a2,a3,a4,a5,a6⟩:=hi.obj hs hp;have cell:∀(i:Nat) (r:List V),bT[i]?=some r→∀(j:Nat) (v:V),r[j]?=some v→∃x,w.cell? ⟨g,off*sz+(i*sz+j),none⟩=some x∧VR ρ S1 w false v x∧x.oneCell'=true:=by
     intro i r fv j v hj;have aR:i<len:=by rw[←hl];exact(List.getElem?_eq_some_iff.1 fv).1
     have hq:rows[off+i]?=some rows[off+i]:=ax (by omega);have oV:j<sz:=by rw[←hr i r fv];exact(List.getElem?_eq_some_iff.1 hj).1
     have hql:=a5 _ _ hq;have hx:(rows[off+i])[j]?=some (rows[off+i])[j]:=ax (by omega);obtain⟨x,b1,b2,b3⟩:=a6 _ _ hq j _ hx;refine⟨x,?_,ih i r fv j v hj _ _ hq hx b2,b3⟩;have:off*sz+(i*sz+j)=(off+i)*sz+j:=by rw[eM];omega
     simp[World.cell?,a3,this,b1]
    exact .sl (fun i j=>(w.cell? ⟨g,off*sz+(i*sz+j),none⟩).getD Go.undef) (h.WQ hi hd hs hp) hl.symm (by omega) (by omega) hr
     (fun i r fv j v hj=>by obtain⟨x,c1,_⟩:=cell i r fv j v hj;simp[c1])
     (fun i r fv j v hj=>by obtain⟨x,c1,c2,_⟩:=cell i r fv j v hj;simpa[c1]using c2.uX (qu i r fv j v hj) true)
     (fun i r fv j v hj=>by obtain⟨x,c1,_,c3⟩:=cell i r fv j v hj;simpa[c1]using c3)
   ·omega
 | @ptr id aI row off sz t rows q cells hd ho hq hl hc qu ih=>
   intro u hv;obtain⟨g,db,hp,rfl⟩:=hv.fU ho;have hs:=df ho;obtain⟨cur,a1,a2,a3,a4,a5,a6⟩:=hi.obj hs hp;have cell:∀(j:Nat) (v:V),cells[j]?=some v→∃x,w.cell? ⟨g,row*sz+off+j,none⟩=some x∧VR ρ S1 w false v x∧x.oneCell'=true:=by
    intro j v hj;have aR:=(List.getElem?_eq_some_iff.1 hj).1;have hx:q[off+j]?=some q[off+j]:=ax (by omega);obtain⟨x,b1,b2,b3⟩:=a6 _ _ hq _ _ hx;refine⟨x,?_,ih j v hj _ hx b2,b3⟩;have:row*sz+off+j=row*sz+(off+j):=by omega
    simp[World.cell?,a3,this,b1]
   exact .bK (fun j=>(w.cell? ⟨g,row*sz+off+j,none⟩).getD Go.undef) (h.WQ hi hd hs hp)
    (fun j v hj=>by obtain⟨x,c1,_⟩:=cell j v hj;simp[c1])
    (fun j v hj=>by obtain⟨x,c1,c2,_⟩:=cell j v hj;simpa[c1]using c2.uX (qu j v hj) true)
    (fun j v hj=>by obtain⟨x,c1,_,c3⟩:=cell j v hj;simpa[c1]using c3)
 | @agg vs ws hl hc ih=>
   intro u hv;cases hv with
   |agg c xu As yN=>
    refine .agg c (by omega) (fun j v hj=>?_) (fun j v hj=>?_)
    ·have aR:=(List.getElem?_eq_some_iff.1 hj).1;exact As j _ (ax (l:=vs) (i:=j) (by omega))
    ·have aR:=(List.getElem?_eq_some_iff.1 hj).1;have hx:=ax (l:=vs) (i:=j) (by omega);exact ih j v hj _ hx (yN j _ hx)
 | @dI vs ws hl hc ih=>
   intro u hv;cases hv with
   |dI c xu As yN=>
    refine .dI c (by omega) (fun j v hj=>?_) (fun j v hj=>?_)
    ·have aR:=(List.getElem?_eq_some_iff.1 hj).1;exact As j _ (ax (l:=vs) (i:=j) (by omega))
    ·have aR:=(List.getElem?_eq_some_iff.1 hj).1;have hx:=ax (l:=vs) (i:=j) (by omega);exact ih j v hj _ hx (yN j _ hx)
 |iface h ih=>
  intro u hv;cases hv with
  |iface hv=>exact .iface (ih hv)
 |nil=>intro u hv;cases hv;exact .gC
theorem Inv.forget(hi:Inv ρ S w)(h:mV S S1):Inv ρ S1 w where
 rows id aI e sz cW hs:=by
  obtain⟨⟨v0,st0⟩,h1,h2,h3⟩:=h.obj id _ hs;obtain⟨rows,h4,h5,h6,h7⟩:=h3 e sz cW rfl;simp only at h2 h4;subst h2 h4;refine⟨h6,?_⟩;obtain⟨k1,k2⟩:=hi.rows id _ e sz rows h1;rcases k2 with⟨k2,rfl⟩|⟨g,db,cur,a,b,c,d,f,k⟩
  ·exact .inl ⟨k2,List.length_eq_zero_iff.1 h5⟩
  ·refine .inr ⟨g,db,cur,a,by omega,c,d,f,fun i r hr j v hj=>?_⟩;have aR:=(List.getElem?_eq_some_iff.1 hr).1;have hq:=ax (l:=rows) (i:=i) (by omega);have oV:=(List.getElem?_eq_some_iff.1 hj).1;have h8:=h6 i r hr;have h9:=k1 i _ hq;have hx:=ax (l:=rows[i]) (i:=j) (by omega);obtain⟨u,hu,hv,Bf⟩:=k i _ hq j _ hx;exact⟨u,hu,(h7 i r hr j v hj _ _ hq hx).rel h hi hv,Bf⟩
 inj i j o p c d g x y ho hp hc hd hr iA:=by
  obtain⟨o',c',h1,h2,_⟩:=h.alive ho hc;obtain⟨p',d',h3,h4,_⟩:=h.alive hp hd;exact hi.inj i j o' p' c' d' g x y h1 h3 h2 h4 hr iA
 maps id aI m1 hs:=by
  obtain⟨⟨v0,st0⟩,m,h1,h2,h3,xj,_,h4,hk,h5⟩:=h.Cg id _ hs m1 rfl;simp only at h2 h3;subst h2 h3;obtain⟨g,a,b⟩:=hi.maps id _ m h1;refine⟨g,a,?_⟩;have XV:m.x.iw=false→∃es ck,w.heap[g]?=some (.map es ck)∧MR ρ S1 w m1 es∧xG es ck:=fun hx=>by
   obtain⟨es,ck,b,⟨c,_,d⟩,f⟩:=HR.map (kd:=m.kd) (rows:=m.rows) (x:=m.x) b hx;simp only at c d;refine⟨es,ck,b,⟨by rw[c,h4],hk,fun i k v gP=>?_⟩,f⟩;have aR:=(List.getElem?_eq_some_iff.1 gP).1;have hp:=ax (l:=m.rows) (i:=i) (by omega);obtain⟨e,h6,h7,h8⟩:=d i _ _ hp;obtain⟨h9,Bf⟩:=h5 i _ _ gP hp;exact⟨e,h6,h9.rel h hi h7,Bf.rel h hi h8⟩
  obtain⟨kd1,rs1,x1⟩:=m1;have hxi:=xj.iw;cases x1 with
  |free=>exact XV hxi
  |held i=>exact XV hxi
  |opened j n=>
   obtain⟨kd0,rs0,x0⟩:=m;cases x0 with
   |free=>exact xj.elim
   |held i=>exact xj.elim
   |iter _ _=>exact xj.elim
   |opened j0 n0=>
    obtain⟨rfl,rfl⟩:=xj;obtain⟨es,ck,b,⟨c,_,d⟩,f⟩:=b;simp only at c d h4 h5;refine⟨es,ck,b,⟨by rw[c,h4],hk,fun i k v gP=>?_⟩,f⟩;simp only at gP;have aR:=(List.getElem?_eq_some_iff.1 gP).1;have hp:=ax (l:=rs0) (i:=i) (by omega);obtain⟨e,h6,h7,h8⟩:=d i _ _ hp;obtain⟨h9,Bf⟩:=h5 i _ _ gP hp;exact⟨e,h6,h9.rel h hi h7,Bf.rel h hi h8⟩
  |iter of1 c1=>
   obtain⟨kd0,rs0,x0⟩:=m;cases x0 with
   |free=>exact xj.elim
   |held i=>exact xj.elim
   |opened _ _=>exact xj.elim
   |iter of c=>
    obtain⟨rfl,hc⟩:=xj;obtain⟨_,l,ce,⟨d1,d2⟩,f,q⟩:=b;simp only at h4 h5 d1 d2;refine⟨hk,l,ce,⟨by rw[d1,←h4],fun i k v gP=>?_⟩,fun p1 Ky=>?_,?_⟩
    ·simp only at gP;have aR:=(List.getElem?_eq_some_iff.1 gP).1;have hp:=ax (l:=rs0) (i:=i) (by omega);obtain⟨e,h6,h7,h8⟩:=d2 i _ _ hp;obtain⟨h9,Bf⟩:=h5 i _ _ gP hp;exact⟨e,h6,h9.rel h hi h7,Bf.rel h hi h8⟩
    ·obtain⟨p,hp,h9,Bf⟩:=hc p1 Ky;obtain⟨h7,h8⟩:=f p hp;exact⟨h9.rel h hi h7,Bf.rel h hi h8⟩
    ·cases of with
     |none=>exact q
     |some z=>
      obtain⟨si,tX⟩:=z;obtain⟨gm,since,seen,q1,q2⟩:=q;refine⟨gm,since,seen,q1,fun kd2 iU hm=>?_⟩;obtain⟨⟨v0,st0⟩,⟨kd3,rs3,x3⟩,e1,e2,e3,e4,_⟩:=h.Cg si _ hm _ rfl;simp only at e2 e3;subst e2 e3;cases x3 with
      |free=>exact e4.elim
      |iter _ _=>exact e4.elim
      |opened _ _=>exact e4.elim
      |held j=>
       have e4:j=id:=e4;subst e4;obtain⟨l1,es,l2,l3,l4,l5⟩:=q2 _ _ e1;refine⟨l1,es,l2,l3,l4,fun tu=>l5 ?_⟩;obtain⟨p1,Ky⟩:=Option.isSome_iff_exists.1 tu;obtain⟨p,hp,_⟩:=hc p1 Ky;rw[hp];rfl
 SS p hp:=by
  obtain⟨a,t,fr,b⟩:=hi.SS p hp;exact⟨(h.un _ a).1,t,fr,b⟩
theorem Ext.forget{ρ0:Place}{S0:ae}{w0:World}(hx:Ext ρ0 S0 w0 ρ S w)(h:mV S S1)(hl:S0.length≤S1.length):Ext ρ0 S0 w0 ρ S1 w where
 os:=hx.os
 tape:=hx.tape
 output:=hx.output
 size:=hx.size
 un g hg:=⟨(h.un _ (hx.un g hg).1).1,(hx.un g hg).2⟩
 len:=hl
 aI id o o1 ho qX:=by
  obtain⟨o',h1,h2,h3⟩:=h.obj id o1 qX;obtain⟨a,b⟩:=hx.aI id o o' ho h1;refine⟨by omega,fun hv c1 WJ=>?_⟩;cases c1 with
  |arr t sz cW=>
   obtain⟨rows,h4,h5,_⟩:=h3 t sz cW WJ;obtain⟨c,k1,k2,k3⟩:=b (by omega) _ h4;cases c with
   |arr t0 sz0 eu=>
    simp only[eR.Ct]at k2;exact⟨_,k1,⟨k2.1,k2.2.1,k2.2.2.trans h5.symm⟩,k3⟩
   |mp eu=>exact k2.elim
  |mp cW=>
   obtain⟨o2,rows,h4,_,h6,xj,h7,_⟩:=h.Cg id o1 qX cW WJ;rw[h1]at h4;cases h4;obtain⟨c,k1,k2,k3⟩:=b (by omega) _ h6;cases c with
   |arr t0 sz0 eu=>exact k2.elim
   |mp eu=>exact⟨_,k1,⟨Eq.trans k2.1 h7.symm,Eq.trans k2.2 xj.iw⟩,k3⟩
theorem mV.take{n:Nat}(kv:S.closed n)(hn:n≤S.length)(hG:∀(id aI:Nat) (e:TypeId) (sz:Nat) (rows:List (List V)),id<n→S[id]?=some ⟨aI,some (.arr e sz rows)⟩→∀(i:Nat) (r:List V),rows[i]?=some r→r.length=sz):mV S (S.take n) where
 len:=by simp;omega
 obj id o1 h:=by
  have dD:id<n∧S[id]?=some o1:=by
   rw[bC]at h;split at h
   ·rename_i aR;exact⟨aR,h⟩
   ·cases h
  refine⟨o1,dD.2,rfl,fun t sz rows dq=>⟨rows,dq,rfl,?_,?_⟩⟩
  ·obtain⟨aI,st⟩:=o1;simp only at dq;subst dq;exact hG id aI t sz rows dD.1 dD.2
  ·obtain⟨aI,st⟩:=o1;simp only at dq;subst dq;intro i r hr j v hj r' x iA hx;rw[hr]at iA;cases iA;rw[hj]at hx;cases hx;refine .same (.inl ?_);have hl:(S.take n).length=n:=by simp;omega
   rw[hl];exact V.fe (kv.1 id aI t sz rows dD.1 dD.2 r (aB hr)) j v hj
 Cg id o1 h cW dq:=by
  have dD:id<n∧S[id]?=some o1:=by
   rw[bC]at h;split at h
   ·rename_i aR;exact⟨aR,h⟩
   ·cases h
  obtain⟨aI,st⟩:=o1;simp only at dq;subst dq;have hl:(S.take n).length=n:=by simp;omega
  refine⟨_,cW,dD.2,rfl,rfl,.same fun of p hp=>.inl (by rw[hl];exact(kv.2 id aI cW dD.1 dD.2).2 of p hp),rfl,rfl,fun p hp=>((kv.2 id aI cW dD.1 dD.2).1 p hp).2.2,fun i p1 p Ky hp=>?_⟩;rw[Ky]at hp;cases hp;obtain⟨k1,k2,_⟩:=(kv.2 id aI cW dD.1 dD.2).1 p1 (aB Ky);exact⟨.same (.inl (by rw[hl];exact k1)),.same (.inl (by rw[hl];exact k2))⟩
end
def En(S S1:ae):Env→Env→Prop
 |[],_=>True
 |(k,v)::r,E=>jd S S1 (E.get k) v∧En S S1 r E
theorem Bx{S S1:ae}:∀{F E:Env},En S S1 F E→∀t,F.get t= .undef∨jd S S1 (E.get t) (F.get t)
 |[],_,_,_=>.inl rfl
 |(k,v)::r,E,h,t=>by
  simp only[Env.get];by_cases ht:t=k
  ·rw[aK ht];subst ht;exact .inr h.1
  ·rw[aC ht];exact Bx h.2 t
section
variable{P:Program}{N:Nat}{σ:kL}
theorem Rel.forget{ρ:Place}{S S1:ae}{w:World}{E F:Env}{a:Act}(h:Rel N ρ S w E.get a)(hf:mV S S1)(hs:En S S1 F E):Rel N ρ S1 w F.get a:=
 ⟨h.inv.forget hf,h.defers,h.size,fun t=>by
   rcases Bx hs t with h1|h1
   ·rw[h1];exact .undef
   ·exact h1.rel hf h.inv (h.jK t)⟩
def Li(E1:Env)(S1:ae)(E:Env)(S:ae):Prop:=(sub E1 E∧S=S1)∨(mV S S1∧En S S1 E1 E)
theorem dm{ι:Type}(EI:ι→Env)(SI:ι→ae)(inv:ι→Prop)(μ:ι→Nat){b:e8}{Q:Exit→Env→ae→Prop}{E:Env}{S:ae}(hn:∀i,inv i→σ.S.length≤(SI i).length)(i0:ι)(h0:inv i0)(hE:Li (EI i0) (SI i0) E S)
 (round:∀i,inv i→ji P N σ b (mZ (fun E' S'=>∃i',inv i'∧μ i'<μ i∧Li (EI i') (SI i') E' S') Q) (EI i) (SI i)):jC P N σ b Q E S:=by
 have back:∀{i:ι} {E':Env} {S':ae} {ρ:Place} {a:Act} {w:World},inv i→Li (EI i) (SI i) E' S'→Ext σ.ρ σ.S σ.w ρ S' w→Rel N ρ S' w E'.get a→Ext σ.ρ σ.S σ.w ρ (SI i) w∧Rel N ρ (SI i) w (EI i).get a:=by
  intro i E' S' ρ a w hi hb hx hr;rcases hb with⟨h1,rfl⟩|⟨h1,h2⟩
  ·exact⟨hx,hr.sub h1⟩
  ·exact⟨hx.forget h1 (hn i hi),hr.forget h1 h2⟩
 intro c own hc ρ a w hx hr;obtain⟨T_,OL⟩:=back h0 hE hx hr;refine wp_loop_ghost (fun n a w=>∃ρ i,n=μ i∧inv i∧Ext σ.ρ σ.S σ.w ρ (SI i) w∧Rel N ρ (SI i) w (EI i).get a) (μ i0) ⟨ρ,i0,rfl,h0,T_,OL⟩ ?_;rintro n a w ⟨ρ,i,rfl,hi,h1,h2⟩;refine wp_mono (rQ c b hc _ (EI i) (SI i) (round i hi) ρ a w h1 h2) fun x a w hp=>?_;obtain⟨eQ,dn,E',S',h3,h4,h5⟩:=hp;cases x<;>simp only[qg]at eQ
 ·obtain⟨i',fH,aR,hs⟩:=h5;obtain⟨h6,h7⟩:=back fH hs h3 h4;exact⟨μ i',aR,dn,i',rfl,fH,h6,h7⟩
 ·exact⟨trivial,dn,E',S',h3,h4,h5⟩
 ·exact⟨trivial,dn,E',S',h3,h4,h5⟩
theorem ak.fin{own:Hint}{f:FuncId}{fn:Func}{af:bA}{args:List V}{S:ae}{R:V→ae→Prop}(hf:P.funcs[f]?=some fn)(hc:aU P own fn=some af)(hN:args.length≤af.N)
 (h:∀σ:kL,σ.S=S→ji P af.N σ af.code (vl af.res fun r S'=>∃r1 S1,mV S' S1∧jd S' S1 r r1∧S.length≤S1.length∧R r1 S1) (ju 0 args) S):ak P f args S R:=by
 have hk:=ak.bW hf hc hN h;refine⟨hk.1,fun ρ w us hi hv=>(hk.2 ρ w us hi hv).mono fun en w' ⟨dn,S',r,u,h1,h2,h3,h4,r1,S1,h5,h6,h7,h8⟩=>?_⟩;exact⟨dn,S1,r1,u,h1,h6.rel h5 h3 h2,h3.forget h5,h4.forget h5 h7,h8⟩
theorem ak.froze{f:FuncId}{args p7:List V}{S S1:ae}{R:V→ae→Prop}(h:ak P f p7 S1 R)(hf:mV S S1)(hl:S.length≤S1.length)(hlen:args.length=p7.length)
 (ha:∀(j:Nat) (v1 v:V),p7[j]?=some v1→args[j]?=some v→jd S S1 v v1):ak P f args S R:=by
 refine⟨h.1,fun ρ w us hi hv=>?_⟩;have hx:Ext ρ S w ρ S1 w:=(Ext.refl ρ S w).forget hf hl;refine(h.2 ρ w us (hi.forget hf) ⟨by rw[hv.1,hlen],fun j v1 hj=>?_⟩).mono fun en w' ⟨dn,S',r,u,h1,h2,h3,h4,h5⟩=>⟨dn,S',r,u,h1,h2,h3,hx.trans h4,h5⟩;have aR:=(List.getElem?_eq_some_iff.1 hj).1;have hx:=ax (l:=args) (i:=j) (by omega);obtain⟨u,hu,hr⟩:=hv.2 j _ hx;exact⟨u,hu,(ha j v1 _ hj hx).rel hf hi hr⟩
end
end Go.AL
namespace Go.AL
variable[Mode]
open Go.Proofs.YtfgkgmmnldocaaaGreatDoor Go.ChangeShapes Go.WideShapes Go.ChangeAt Go.RowKit
mutual
def V.ij:V→Nat
 | .str l=>l.length+1
 | .sl _ rows=>gD rows+1
 | .agg vs=>bD vs
 |_=>1
def bD:List V→Nat
 |[]=>0
 |v::r=>v.ij+bD r
def gD:List (List V)→Nat
 |[]=>0
 |c::r=>bD c+gD r
end
theorem nv(a b:List V):bD (a++b)=bD a+bD b:=by
 induction a with
 |nil=>simp[bD]
 |cons v r ih=>simp only[aS,bD,ih];omega
def cI:Place:=fun _=>none
theorem mj{W:World}{g:Nat}(h:g<W.heap.size):eo cI [] W g:=⟨h,fun id o c g' db ho=>by simp at ho⟩
def A8(W:World)(vs:List V)(cs:List Value):Prop:=
 cs.length=vs.length∧∀(j:Nat) (v:V),vs[j]?=some v→∃u,cs[j]?=some u∧VR cI [] W true v u∧u.oneCell'=true
theorem A8.one{W:World}{v:V}{u:Value}(h:VR cI [] W true v u)(h1:u.oneCell'=true):A8 W [v] [u]:=
 ⟨rfl,fun j x hj=>by
  cases j with
  |zero=>simp at hj;subst hj;exact⟨u,rfl,h,h1⟩
  |succ j=>simp at hj⟩
theorem A8.append{W:World}{vs ws:List V}{cs ds:List Value}(h:A8 W vs cs)(k:A8 W ws ds):A8 W (vs++ws) (cs++ds):=
 ⟨by simp[h.1,k.1],fun j v hj=>by
  by_cases aR:j<vs.length
  ·rw[aF aR]at hj;obtain⟨u,hu,hr⟩:=h.2 j v hj;exact⟨u,by rw[aF (by rw[h.1];exact aR)];exact hu,hr⟩
  ·rw[aD (by omega)]at hj;obtain⟨u,hu,hr⟩:=k.2 _ v hj;exact⟨u,by rw[aD (by rw[h.1];omega),h.1];exact hu,hr⟩⟩
def nY(W W':World):Prop:=∀g,g<W.heap.size→W'.heap[g]?=W.heap[g]?
def ba(P:Program)(t:TypeId){α:Type}(en:α→List V)(wf:α→Prop):Prop:=
 ∀(H:Type) (e:TypeId×Value→H) (W:World) (fuel:Nat) (cs:List Value) (x:DataW H×List MemPlace),DataW.trod e P W 0 (fun _=>true) true fuel t cs=some x→
  ∃a,wf a∧A8 W (en a) cs∧bD (en a)≤Rows.uptoBulk x.1∧
   ∀(W':World) (sp:Nat→Bool),nY W W'→(∀g,g<W.heap.size→sp g=true)→∃n,DataW.trod e P W' 0 sp true n t cs=some x
section
variable{P:Program}{t q:TypeId}
theorem ba.bool(ht:P.underlying t=some .bool):ba P t (fun b:Bool=>[.bool b]) (fun _=>True):=by
 intro H e W fuel cs x h;cases fuel with
 |zero=>simp[DataW.trod]at h
 |succ n=>
  unfold DataW.trod at h;rw[ht]at h;split at h<;>simp_all [-Bool.exists_bool]
  subst h;exact⟨_,A8.one .bool rfl,by simp[V.ij,bD,Rows.uptoBulk],fun W' sp _ _=>⟨1,by simp[DataW.trod,ht]⟩⟩
theorem ba.int{k:IntKind}(ht:P.underlying t=some (.int k)):ba P t (fun n:Int=>[.int k n]) (fun n=>k.min≤n∧n≤k.max):=by
 intro H e W fuel cs x h;cases fuel with
 |zero=>simp[DataW.trod]at h
 |succ n=>
  unfold DataW.trod at h;rw[ht]at h;split at h<;>simp_all
  obtain⟨⟨rfl,hw⟩,rfl⟩:=h;simp only[Lit.wf,aW,aL]at hw;exact⟨_,hw,A8.one .int rfl,by simp[V.ij,bD,Rows.uptoBulk],fun W' sp _ _=>⟨1,by simp[DataW.trod,ht,Lit.wf,hw]⟩⟩
theorem ba.str(ht:P.underlying t=some .string):ba P t (fun l:List UInt8=>[.str l]) (fun _=>True):=by
 intro H e W fuel cs x h;cases fuel with
 |zero=>simp[DataW.trod]at h
 |succ n=>
  unfold DataW.trod at h;rw[ht]at h;split at h<;>simp_all
  obtain⟨hm,rfl⟩:=h;exact⟨_,A8.one (.str rfl hm) rfl,by simp[V.ij,bD,Rows.uptoBulk],fun W' sp _ _=>⟨1,by simp[DataW.trod,ht,hm]⟩⟩
theorem Ai{α:Type}{p:Nat→α→Prop}:∀(n:Nat),(∀i,i<n→∃a,p i a)→∃l:List α,l.length=n∧∀(i:Nat) (a:α),l[i]?=some a→p i a
 |0,_=>⟨[],rfl,fun i a h=>by simp at h⟩
 |n+1,h=>by
  obtain⟨l,hl,hp⟩:=Ai n fun i hi=>h i (by omega);obtain⟨a,ha⟩:=h n (by omega);refine⟨l++[a],by simp[hl],fun i x hx=>?_⟩;by_cases aR:i<l.length
  ·rw[aF aR]at hx;exact hp i x hx
  ·rw[aD (by omega)]at hx;have hi:i=n:=by
    have:=(List.getElem?_eq_some_iff.1 hx).1;simp at this;omega
   subst hi;rw[hl]at hx;simp at hx;subst hx;exact ha
theorem uP{W:World}{a:Addr}{k:Nat}{u:Value}(h:W.cell? (a.add k)=some u):W.cell? ⟨a.block,a.off+k,none⟩=some u∧a.block<W.heap.size∧(k=0→a.spot=none):=by
 by_cases hk:k=0
 ·subst hk;simp only[Addr.add,aQ]at h;unfold World.cell? at h;split at h
  ·rename_i c t f hb;split at h
   ·cases h
   ·rename_i hs;refine⟨by simp[World.cell?,hb,h],(Array.getElem?_eq_some_iff.1 hb).1,fun _=>by simpa using hs⟩
  ·cases h
 ·have hl:a.add k=⟨a.block,a.off+k,none⟩:=by simp[Addr.add,hk]
  rw[hl]at h;refine⟨h,?_,fun h0=>absurd h0 hk⟩;unfold World.cell? at h;split at h
  ·rename_i c t f hb;exact(Array.getElem?_eq_some_iff.1 hb).1
  ·cases h
theorem oC{α H:Type}{en:α→List V}:∀(l:List α) (D:List (DataW H)),l.length=D.length→(∀(i:Nat) (a:α) (d:DataW H),l[i]?=some a→D[i]?=some d→bD (en a)≤Rows.uptoBulk d)→gD (l.map en)≤Rows.uptoBulkAll D
 |[],D,_,_=>by simp[gD]
 |a::l,[],hl,_=>by simp at hl
 |a::l,d::D,hl,h=>by
  have h1:=h 0 a d rfl rfl;have h2:=oC l D (by simpa using hl) fun i x y hx hy=>h (i+1) x y (by simpa using hx) (by simpa using hy);simp only[bd,gD,Rows.uptoBulkAll];omega
theorem ba.slice{α:Type}{en:α→List V}{wf:α→Prop}{sz:Nat}(ht:P.underlying t=some (.slice q))(hG:P.cellsOf q=sz)(hp:0<sz)(lQ:∀a,(en a).length=sz)(hq:ba P q en wf):
 ba P t (fun l:List α=>[.sl sz (l.map en)]) (fun l=>∀a∈l,wf a):=by
 intro H e W fuel cs x h;rcases Deep.open_slice ht h with⟨rfl,rfl⟩|⟨a,len,cap,m,n,D,Pl,rfl,_,hl,hm,Ug,rfl,hx⟩
 ·exact⟨[],by simp,A8.one .gC rfl,by simp[V.ij,bD,gD,Rows.uptoBulk],fun W' sp _ _=>⟨1,by simp[DataW.trod,ht]⟩⟩
 simp only[aQ]at Ug;subst Ug;by_cases Ar:m=0
 ·subst Ar;have lQ:len=0:=by omega
  subst lQ;exact⟨[],by simp,A8.one .gC rfl,by simp[V.ij,bD,gD,Rows.uptoBulk],fun W' sp _ _=>⟨1,by simp[DataW.trod,ht,MemPlace.row]⟩⟩
 ·have key:∀i,i<m→∃y:α,wf y∧bD (en y)≤Rows.uptoBulk (D i)∧(∀(j:Nat) (v:V),(en y)[j]?=some v→∃u,W.cell? ⟨a.block,a.off+(i*sz+j),none⟩=some u∧VR cI [] W true v u∧u.oneCell'=true)∧
   a.block<W.heap.size∧(i=0→a.spot=none)∧
   ∀(W':World) (sp:Nat→Bool),nY W W'→(∀g,g<W.heap.size→sp g=true)→∃wA n,W'.cells? 0 (a.add (i*P.cellsOf q)) (P.cellsOf q)=some wA∧DataW.trod e P W' 0 sp true n q wA=some (D i,Pl i):=by
   intro i hi;obtain⟨wA,h1,h2⟩:=hx i hi;obtain⟨y,hy,hr,hb,hf⟩:=hq H e W n wA _ h2;obtain⟨_,hlen,C3⟩:=World.cells?_some h1;have l8:∀j u,wA[j]?=some u→W.cell? (a.add (i*sz+j))=some u:=by
    intro j u hu;have hj:j<P.cellsOf q:=by rw[←hlen];exact(List.getElem?_eq_some_iff.1 hu).1
    have:=C3 j hj;rw[Deep.add_add,hu,hG]at this;exact this
   have h0:∃u,wA[0]?=some u:=⟨wA[0]'(by omega),ax (by omega)⟩;obtain⟨u0,hu0⟩:=h0;have hblk:=uP (l8 0 u0 hu0);refine⟨y,hy,hb,fun j v hj=>?_,hblk.2.1,fun C0=>hblk.2.2 (by subst C0;simp),fun W' sp hk hs=>?_⟩
   ·obtain⟨u,hu,hv,h3⟩:=hr.2 j v hj;exact⟨u,(uP (l8 j u hu)).1,hv,h3⟩
   ·obtain⟨n',hn'⟩:=hf W' sp hk hs;refine⟨wA,n',?_,hn'⟩;rw[←h1];have jE:∀(x:Addr) (k:Nat),(x.add k).block=x.block:=fun x k=>by unfold Addr.add;split<;>rfl
    have Ef:∀k,W'.cell? ((a.add (i*P.cellsOf q)).add k)=W.cell? ((a.add (i*P.cellsOf q)).add k):=fun k=>by
     unfold World.cell?;rw[jE,jE,hk _ hblk.2.1]
    unfold World.cells?;simp only[Ef]
  obtain⟨all,C7,fY⟩:=Ai m key;obtain⟨y0,_,_,_,hblk,OG,_⟩:=key 0 (by omega);have ha:a=⟨a.block,a.off,none⟩:=by
   have:=OG rfl;cases a
   simp_all
  have Aq:∀i y,(all.take len)[i]?=some y→i<len∧all[i]?=some y:=by
   intro i y hy;rw[bC]at hy;split at hy
   ·rename_i h1;exact⟨h1,hy⟩
   ·cases hy
  have gM:∀(i:Nat) (r:List V),((all.take len).map en)[i]?=some r→∃y,all[i]?=some y∧r=en y:=by
   intro i r hr;simp only[bn,aG]at hr;obtain⟨y,hy,rfl⟩:=hr;exact⟨y,(Aq i y hy).2,rfl⟩
  refine⟨all.take len,fun y hy=>?_,?_,?_,fun W' sp hk hs=>?_⟩
  ·obtain⟨i,hi⟩:=ez hy;exact(fY i y (Aq i y hi).2).1
  ·refine A8.one ?_ rfl;rw[ha];refine .sl (fun i j=>(W.cell? ⟨a.block,a.off+(i*sz+j),none⟩).getD Go.undef) (mj hblk) (by simp;omega) hl hm (fun i r hr=>?_) (fun i r hr j v hj=>?_) (fun i r hr j v hj=>?_) (fun i r hr j v hj=>?_)
   ·obtain⟨y,_,rfl⟩:=gM i r hr;exact lQ y
   all_goals
    obtain⟨y,hy,rfl⟩:=gM i r hr;obtain⟨u,h1,h2,h3⟩:=(fY i y hy).2.2.1 j v hj;simp only[h1,bL];try assumption
  ·have:=oC (en:=en) (all.take len) ((List.range len).map D) (by simp;omega) fun i y d hy hd=>by
    obtain⟨h1,h2⟩:=Aq i y hy;simp only[bn,kU h1,bU,aa]at hd;subst hd;exact(fY i y h2).2.1
   simp only[V.ij,bD,Rows.uptoBulk];omega
  ·exact Deep.shut_slice_whole_cells ht (az _) hl hm (hs _ hblk) D Pl fun i hi=>(by
    obtain⟨y,_,_,_,_,_,hf⟩:=key i hi;exact hf W' sp hk hs)
def bZ(P:Program)(ts:List TypeId){α:Type}(en:α→List V)(wf:α→Prop):Prop:=
 ∀(H:Type) (e:TypeId×Value→H) (W:World) (wz:List (List Value)) (xs:List (DataW H×List MemPlace)),wz.length=ts.length→xs.length=ts.length→
  (∀(i:Nat) (t:TypeId) (cs:List Value) (x:DataW H×List MemPlace),ts[i]?=some t→wz[i]?=some cs→xs[i]?=some x→∃n,DataW.trod e P W 0 (fun _=>true) true n t cs=some x)→
  ∃a,wf a∧A8 W (en a) wz.flatten∧bD (en a)≤Rows.uptoBulkAll (xs.map (·.1))∧
   ∀(W':World) (sp:Nat→Bool),nY W W'→(∀g,g<W.heap.size→sp g=true)→
    ∀(i:Nat) (t:TypeId) (cs:List Value) (x:DataW H×List MemPlace),ts[i]?=some t→wz[i]?=some cs→xs[i]?=some x→∃n,DataW.trod e P W' 0 sp true n t cs=some x
theorem bZ.nil:bZ P [] (fun _:Unit=>[]) (fun _=>True):=by
 intro H e W wz xs h1 h2 _;rw[List.length_eq_zero_iff.1 h1,List.length_eq_zero_iff.1 h2];exact⟨(),trivial,⟨rfl,by simp⟩,by simp[bD],fun W' sp _ _ i t cs x h=>by simp at h⟩
theorem bZ.cons{ts:List TypeId}{α β:Type}{en:α→List V}{wf:α→Prop}{tI:β→List V}{GA:β→Prop}(h:ba P t en wf)(hr:bZ P ts tI GA):
 bZ P (t::ts) (fun p:α×β=>en p.1++tI p.2) (fun p=>wf p.1∧GA p.2):=by
 intro H e W wz xs h1 h2 hx;match wz,xs,h1,h2 with
 |cs::wz,x::xs,h1,h2=>
  obtain⟨n,hn⟩:=hx 0 t cs x rfl rfl rfl;obtain⟨a,ha,hc,hb,hf⟩:=h H e W n cs x hn;obtain⟨b,n_,nB,Au,pY⟩:=hr H e W wz xs (by simpa using h1) (by simpa using h2) fun i t cs x ht l8 OB=>hx (i+1) t cs x (by simpa using ht) (by simpa using l8) (by simpa using OB);refine⟨(a,b),⟨ha,n_⟩,by simpa using hc.append nB,by simp only[nv,bd,Rows.uptoBulkAll];omega,fun W' sp hk hs i t' wA x' ht l8 OB=>?_⟩;cases i with
  |zero=>simp at ht l8 OB;subst ht l8 OB;exact hf W' sp hk hs
  |succ i=>exact pY W' sp hk hs i t' wA x' (by simpa using ht) (by simpa using l8) (by simpa using OB)
theorem bZ.one{α:Type}{en:α→List V}{wf:α→Prop}(h:ba P t en wf):bZ P [t] en wf:=by
 intro H e W wz xs h1 h2 hx;obtain⟨p,hp,hc,hb,hf⟩:=bZ.cons h bZ.nil H e W wz xs h1 h2 hx;exact⟨p.1,hp.1,by simpa using hc,by simpa using hb,hf⟩
def Kp(P:Program):List Field→Nat→Option Nat
 |[],off=>some off
 |f::r,off=>if f.offset=off then Kp P r (off+P.cellsOf f.type)else none
theorem so{P:Program}:∀(fs:List Field) (off n:Nat) (cs:List Value),Kp P fs off=some n→cs.length=n→off≤n∧(fs.map fun f=>(cs.drop f.offset).take (P.cellsOf f.type)).flatten=cs.drop off
 |[],off,n,cs,h,hl=>by
  simp only[Kp,aa]at h;subst h;simp[hl]
 |f::r,off,n,cs,h,hl=>by
  simp only[Kp]at h;split at h
  ·rename_i ho;subst ho;obtain⟨h1,h2⟩:=so r _ n cs h hl;refine⟨by omega,?_⟩;simp only[bd,List.flatten_cons,h2];rw[←List.drop_drop,List.take_append_drop]
  ·cases h
theorem mapM_some{α β:Type}{f:α→Option β}:∀(l:List α) (xs:List β),l.length=xs.length→(∀(i:Nat) (a:α) (x:β),l[i]?=some a→xs[i]?=some x→f a=some x)→l.mapM f=some xs
 |[],xs,h,_=>by
  have:xs=[]:=List.length_eq_zero_iff.1 (by simpa using h.symm);subst this;rfl
 |a::l,[],h,_=>by simp at h
 |a::l,x::xs,h,hf=>by
  have h1:=hf 0 a x rfl rfl;have h2:=mapM_some l xs (by simpa using h) fun i b y hb hy=>hf (i+1) b y (by simpa using hb) (by simpa using hy);simp[List.mapM_cons,h1,h2]
theorem ba.struct{fs:Array Field}{α:Type}{en:α→List V}{wf:α→Prop}(ht:P.underlying t=some (.struct fs))(hl:Kp P fs.toList 0=some (P.cellsOf t))(h:bZ P (fs.toList.map (·.type)) en wf):ba P t en wf:=by
 intro H e W fuel cs x hx;obtain⟨xs,n,_,rfl,hlen,CT,hf⟩:=DataW.trod_struct ht hx;have C1:=(so fs.toList 0 _ cs hl hlen).2;rw[lp]at C1;have OC:xs.length=fs.toList.length:=by simpa using CT
 obtain⟨a,ha,hc,hb,w8⟩:=h H e W (fs.toList.map fun f=>(cs.drop f.offset).take (P.cellsOf f.type)) xs (by simp) (by simpa using OC) fun i t' wA x' h1 h2 h3=>by
  simp only[bn,aG]at h1 h2;obtain⟨f,q7,rfl⟩:=h1;obtain⟨f',qh,rfl⟩:=h2;rw[q7]at qh;cases qh;refine⟨n,?_⟩;rw[hf i f (by simpa using q7)];exact h3
 refine⟨a,ha,by rw[←C1];exact hc,by simp only[Rows.uptoBulk];omega,fun W' sp hk hs=>?_⟩;have fY:∀i,i<fs.toList.length→∃m,∀f x',fs.toList[i]?=some f→xs[i]?=some x'→DataW.trod e P W' 0 sp true m f.type ((cs.drop f.offset).take (P.cellsOf f.type))=some x':=by
  intro i hi;have h1:fs.toList[i]?=some fs.toList[i]:=ax hi;have h2:xs[i]?=some xs[i]:=ax (by omega);obtain⟨m,hm⟩:=w8 W' sp hk hs i fs.toList[i].type ((cs.drop fs.toList[i].offset).take (P.cellsOf fs.toList[i].type)) xs[i] (by simp only[bn,h1,bU]) (by simp only[bn,h1,bU]) h2;refine⟨m,fun f x' q7 hx1=>?_⟩;rw[h1]at q7;rw[h2]at hx1;cases q7;cases hx1;exact hm
 obtain⟨m,hm⟩:=Deep.fuel_lt (q:=fun i m=>∀f x',fs.toList[i]?=some f→xs[i]?=some x'→DataW.trod e P W' 0 sp true m f.type ((cs.drop f.offset).take (P.cellsOf f.type))=some x')
  (fun i a b hab hq f x' h1 h2=>DataW.trod_le hab (hq f x' h1 h2)) fY
 exact⟨m+1,trod_struct_mk ht hlen (mapM_some _ _ OC.symm fun i f x' h1 h2=>hm i (List.getElem?_eq_some_iff.1 h1).1 f x' h1 h2)⟩
theorem ba.as{α β:Type}{en:α→List V}{wf:α→Prop}(h:ba P t en wf)(tI:β→List V)(GA:β→Prop)(f:α→β)(he:∀a,tI (f a)=en a)(hw:∀a,wf a→GA (f a)):ba P t tI GA:=by
 intro H e W fuel cs x hx;obtain⟨a,ha,hc,hb,hf⟩:=h H e W fuel cs x hx;exact⟨f a,hw a ha,by rw[he];exact hc,by rw[he];exact hb,hf⟩
theorem ba.arg{α:Type}{mk:α→V}{wf:α→Prop}(h:ba P t (fun a=>[mk a]) wf)(hk:(match P.underlying t with|some .bool|some (.int _)|some .string|some (.slice _)=>true|_=>false)=true)
 {H:Type}{e:TypeId×Value→H}{W:World}{base:Nat}{v:Value}{d:DataW H}{ps:List MemPlace}(lN:Value.okWide P W .any base t v)(hd:DataW.Trod e P W 0 (fun _=>true) true t v d ps):
 ∃a,wf a∧VR cI [] W false (mk a) v∧(mk a).ij≤Rows.uptoBulk d∧∀(W':World) (sp:Nat→Bool),nY W W'→(∀g,g<W.heap.size→sp g=true)→DataW.Trod e P W' 0 sp true t v d ps:=by
 obtain⟨fuel,hd⟩:=hd;obtain⟨a,ha,hc,hb,hf⟩:=h H e W fuel _ _ hd;have FB:v.cells= #[v]:=by
  cases v with
  |agg cs=>
   exfalso;unfold Value.okWide at lN;split at lN
   ·rename_i hu;rw[hu]at hk;simp at hk
   ·rename_i hu;rw[hu]at hk;simp at hk
   ·unfold Cell.okWide at lN;split at lN<;>first|(rename_i heq _;cases heq;done)|skip
    all_goals first|(simp_all;done)|(unfold Cell.ok at lN;split at lN<;>simp_all)
  |_=>rfl
 rw[FB]at hc;obtain⟨u,hu,hv,_⟩:=hc.2 0 (mk a) rfl;simp at hu;subst hu;exact⟨a,ha,hv.weaken false,by simpa[bD]using hb,fun W' sp hk hs=>hf W' sp hk hs⟩
theorem ba.args{fs:Array Field}{α:Type}{en:α→List V}{wf:α→Prop}(ht:P.underlying t=some (.struct fs))(h:ba P t en wf)
 {H:Type}{e:TypeId×Value→H}{W:World}{base:Nat}{v:Value}{d:DataW H}{ps:List MemPlace}(lN:Value.okWide P W .any base t v)(hd:DataW.Trod e P W 0 (fun _=>true) true t v d ps):
 ∃a,wf a∧VR cI [] W false (.agg (en a)) v∧bD (en a)≤Rows.uptoBulk d∧∀(W':World) (sp:Nat→Bool),nY W W'→(∀g,g<W.heap.size→sp g=true)→DataW.Trod e P W' 0 sp true t v d ps:=by
 obtain⟨fuel,hd⟩:=hd;obtain⟨a,ha,hc,hb,hf⟩:=h H e W fuel _ _ hd;unfold Value.okWide at lN;rw[ht]at lN;obtain⟨cs,rfl,_,_⟩:=lN;refine⟨a,ha,.DX (by simpa[Value.cells]using hc.1) (fun j x hj=>?_),hb,fun W' sp hk hs=>hf W' sp hk hs⟩;obtain⟨u,hu,hv,_⟩:=hc.2 j x hj;exact⟨u,by simpa[Value.cells]using hu,hv.weaken false⟩
theorem Ob{H:Type}{enc:TypeId×Value→H}{fn:Func}{s:ChangeSpec}{W W':World}{args:Array Value}{ds gs:List (DataW H)}{before:List MemPlace}{dn:Place}{S':ae}{tb:TypeId}
 (hW:DataW.Whole enc P fn.params.toList s.vars false W args.toList ds gs before)(hx:Ext cI [] W dn S' W')(hv:s.vars=[])(hr:fn.resultTypes= #[tb])(htb:P.underlying tb=some .bool)
 (An:(s.fn H (ds++gs)).results=[.lit (.bool true)])(Pb:(s.fn H (ds++gs)).args=ds)(OD:(s.fn H (ds++gs)).vars=[])
 (hf:∃pa,DataW.TrodAll enc P W' 0 (fun b=>decide (b<W.heap.size)) true fn.params.toList args.toList ds pa):
 s.post enc P fn false true false false W args (.bool true) W':=by
 obtain⟨pa,hpa⟩:=hf;have hk:nY W W':=fun g hg=>(hx.un g (mj hg)).2;refine⟨ds,gs,before,[],pa,[],hW,?_,by rw[Pb];exact hpa,by rw[hv,OD];rfl,⟨hx.os,hx.output,fun i hi=>?_⟩,fun h=>by cases h⟩
 ·rw[An,hr];exact trodAll_cons_mk (p:=[]) (p':=[]) (shut_bool htb _) trodAll_mk0
 ·rw[hk i hi];cases hb:W.heap[i]? with
  |none=>simp
  |some o=>cases o<;>simp
def Ld(W:World):Prop:=∀p∈Em,p.1<W.heap.size∧∃t fr,W.heap[p.1]?=some (.cells p.2 t fr)
theorem Ld.ok{W:World}(h:Ld W):iI cI [] W:=fun p hp=>by
 obtain⟨a,b⟩:=h p hp;exact⟨⟨a,fun id o c g db hs=>by simp at hs⟩,b⟩
theorem K0{H:Type}{enc:TypeId×Value→H}{f:FuncId}{fn:Func}{s:ChangeSpec}{W:World}{args:Array Value}{ds gs:List (DataW H)}{before:List MemPlace}{tb:TypeId}{Vz:List V}
 (hc:ak P f Vz [] fun r _=>r= .bool true)(ha:D5 cI [] W Vz args)(ht:Ld W)
 (hW:DataW.Whole enc P fn.params.toList s.vars false W args.toList ds gs before)(hv:s.vars=[])(hr:fn.resultTypes= #[tb])(htb:P.underlying tb=some .bool)
 (An:(s.fn H (ds++gs)).results=[.lit (.bool true)])(Pb:(s.fn H (ds++gs)).args=ds)(OD:(s.fn H (ds++gs)).vars=[])
 (hf:∀(W':World) (sp:Nat→Bool),nY W W'→(∀g,g<W.heap.size→sp g=true)→∃pa,DataW.TrodAll enc P W' 0 sp true fn.params.toList args.toList ds pa):
 Calls P f args W fun e W'=>∃v,e= .returned v∧s.post enc P fn false true false false W args v W':=by
 refine(hc.2 cI W args ⟨fun id aI e sz rows h=>by simp at h,fun i j o p c d g x y h=>by simp at h,fun id aI rows h=>by simp at h,ht.ok⟩ ha).mono fun en W' ⟨dn,S',r,u,h1,h2,h3,h4,h5⟩=>?_;subst h5;have:=h2.kz;subst this;exact⟨_,h1,Ob hW h4 hv hr htb An Pb OD (hf W' _ (fun g hg=>(h4.un g (mj hg)).2) fun g hg=>by simpa using hg)⟩
theorem D5.nil{ρ:Place}{S:ae}{w:World}:D5 ρ S w [] #[]:=⟨rfl,fun j v h=>by simp at h⟩
theorem D5.of{ρ:Place}{S:ae}{w:World}{vs:List V}{us:List Value}(hl:vs.length=us.length)(h:∀(j:Nat) (v:V) (u:Value),vs[j]?=some v→us[j]?=some u→VR ρ S w false v u):D5 ρ S w vs us.toArray:=
 ⟨by simpa using hl.symm,fun j v hj=>by
  have aR:=(List.getElem?_eq_some_iff.1 hj).1;have hu:=ax (l:=us) (i:=j) (by omega);exact⟨us[j],by simp[aR,←hl],h j v _ hj hu⟩⟩
end
end Go.AL
namespace Go.AL
variable[Mode]
open Go.Proofs.YtfgkgmmnldocaaaGreatDoor Go.ChangeShapes Go.WideShapes Go.ChangeAt Go.RowKit
theorem qF:∀(rows:List (List V)),(∀r∈rows,1≤bD r)→rows.length≤gD rows
 |[],_=>az _
 |r::rows,h=>by
  have h1:=h r (fg ..);have h2:=qF rows fun x hx=>h x (cc _ hx);simp only[a_,gD];omega
theorem k0:∀{rows:List (List V)} {r:List V},r∈rows→bD r≤gD rows
 |x::rows,r,h=>by
  simp only[gD];rcases List.mem_cons.1 h with rfl|h
  ·omega
  ·have:=k0 h;omega
theorem ek:∀{vs:List V} {v:V},v∈vs→v.ij≤bD vs
 |x::vs,v,h=>by
  simp only[bD];rcases List.mem_cons.1 h with rfl|h
  ·omega
  ·have:=ek h;omega
section
variable{P:Program}{t:TypeId}{ts:List TypeId}
def A'(P:Program)(t:TypeId){α:Type}(mk:α→V)(wf:α→Prop):Prop:=
 ∀(H:Type) (e:TypeId×Value→H) (W:World) (base:Nat) (v:Value) (d:DataW H) (ps:List MemPlace),Value.okWide P W .any base t v→DataW.Trod e P W 0 (fun _=>true) true t v d ps→
  ∃a,wf a∧VR cI [] W false (mk a) v∧(mk a).ij≤Rows.uptoBulk d∧∀(W':World) (sp:Nat→Bool),nY W W'→(∀g,g<W.heap.size→sp g=true)→DataW.Trod e P W' 0 sp true t v d ps
theorem ba.AU{α:Type}{mk:α→V}{wf:α→Prop}(h:ba P t (fun a=>[mk a]) wf)(hk:(match P.underlying t with|some .bool|some (.int _)|some .string|some (.slice _)=>true|_=>false)=true):A' P t mk wf:=
 fun _ _ _ _ _ _ _ lN hd=>h.arg hk lN hd
theorem ba.QP{fs:Array Field}{α:Type}{en:α→List V}{wf:α→Prop}(ht:P.underlying t=some (.struct fs))(h:ba P t en wf):A' P t (fun a=>.agg (en a)) wf:=
 fun _ _ _ _ _ _ _ lN hd=>h.args ht lN hd
def ia(P:Program)(ts:List TypeId){α:Type}(en:α→List V)(wf:α→Prop):Prop:=
 ∀(H:Type) (e:TypeId×Value→H) (W:World) (base:Nat) (vs:List Value) (ds:List (DataW H)) (ps:List MemPlace),(∀(j:Nat) (t:TypeId) (v:Value),ts[j]?=some t→vs[j]?=some v→Value.okWide P W .any base t v)→
  DataW.TrodAll e P W 0 (fun _=>true) true ts vs ds ps→
  ∃a,wf a∧(en a).length=vs.length∧ds.length=ts.length∧(∀(j:Nat) (x:V) (u:Value),(en a)[j]?=some x→vs[j]?=some u→VR cI [] W false x u)∧bD (en a)≤Rows.uptoBulkAll ds∧
   ∀(W':World) (sp:Nat→Bool),nY W W'→(∀g,g<W.heap.size→sp g=true)→DataW.TrodAll e P W' 0 sp true ts vs ds ps
theorem ia.nil:ia P [] (fun _:Unit=>[]) (fun _=>True):=by
 intro H e W base vs ds ps _ h;obtain⟨rfl,rfl,rfl⟩:=trodAll_nil h;exact⟨(),trivial,rfl,rfl,fun j x u hx=>by simp at hx,by simp[bD,Rows.uptoBulkAll],fun _ _ _ _=>trodAll_mk0⟩
theorem ia.cons{α β:Type}{mk:α→V}{wf:α→Prop}{en:β→List V}{GA:β→Prop}(h:A' P t mk wf)(k:ia P ts en GA):ia P (t::ts) (fun p:α×β=>mk p.1::en p.2) (fun p=>wf p.1∧GA p.2):=by
 intro H e W base vs ds ps lN htr;obtain⟨v,SK,d,ds',p,q,rfl,rfl,rfl,h0,r0⟩:=trodAll_cons htr;obtain⟨a,a1,a2,a3,a4⟩:=h H e W base v d p (lN 0 t v rfl rfl) h0;obtain⟨b,b1,b2,b3,b4,b5,b6⟩:=k H e W base SK ds' q (fun j t' v' ht hv=>lN (j+1) t' v' (by simpa using ht) (by simpa using hv)) r0;refine⟨(a,b),⟨a1,b1⟩,by simp[b2],by simp[b3],fun j x u hx hu=>?_,by simp only[bD,Rows.uptoBulkAll];omega,fun W' sp hk hs=>trodAll_cons_mk (a4 W' sp hk hs) (b6 W' sp hk hs)⟩;cases j with
 |zero=>simp at hx hu;subst hx hu;exact a2
 |succ j=>exact b4 j x u (by simpa using hx) (by simpa using hu)
theorem Ak{α:Type}{en:α→List V}{wf:α→Prop}{f:FuncId}{fn:Func}{s:ChangeSpec}{tb:TypeId}(ho:ia P fn.params.toList en wf)
 (aeu:∀a,wf a→bD (en a)≤1048576→ak P f (en a) [] fun r _=>r= .bool true)
 (hv:s.vars=[])(hr:fn.resultTypes= #[tb])(htb:P.underlying tb=some .bool)
 (Ln:∀(H:Type) (ds:List (DataW H)),ds.length=fn.params.toList.length→(s.fn H ds).results=[.lit (.bool true)]∧(s.fn H ds).args=ds∧(s.fn H ds).vars=[])
 {H:Type}{enc:TypeId×Value→H}{W:World}{base:Nat}{args:Array Value}{ds gs:List (DataW H)}{before:List MemPlace}
 (lN:∀(j:Nat) t v,fn.params[j]?=some t→args[j]?=some v→Value.okWide P W .any base t v)
 (hW:DataW.Whole enc P fn.params.toList s.vars false W args.toList ds gs before)(hk:Rows.uptoSmall H (ds++gs)=true)(ht:Ld W:=by intro p hp;cases hp):
 Calls P f args W fun e W'=>∃v,e= .returned v∧s.post enc P fn false true false false W args v W':=by
 have hW':=hW;obtain⟨p,q,hA0,hV,rfl,hfz,hnd⟩:=hW;have hA:DataW.TrodAll enc P W 0 (fun _=>true) true fn.params.toList args.toList ds p:=hA0;rw[hv]at hV;obtain⟨rfl,rfl⟩:=trodVars_none hV;rw[cw]at hk;obtain⟨a,a1,a2,a3,a4,a5,a6⟩:=ho H enc W base args.toList ds p (fun j t v ht hv=>lN j t v (by simpa using ht) (by simpa using hv)) hA;have hb:Rows.uptoBulkAll ds≤1048576:=gw hk;obtain⟨s1,s2,s3⟩:=Ln H ds a3;refine K0 (aeu a a1 (by omega)) ?_ ht hW' hv hr htb (by rw[cw];exact s1) (by rw[cw];exact s2) (by rw[cw];exact s3) fun W' sp hk hs=>⟨p,a6 W' sp hk hs⟩;have:=D5.of (ρ:=cI) (S:=[]) (w:=W) a2 a4;simpa using this
end
end Go.AL
namespace Go.AL
variable[Mode]
open Go.Proofs.YtfgkgmmnldocaaaGreatDoor Go.ChangeShapes Go.WideShapes Go.ChangeAt Go.RowKit
def fJ(B:Nat)(P:Program)(t:TypeId){α:Type}(en:α→List V)(wf:α→Prop):Prop:=
 ∀(H:Type) (e:TypeId×Value→H) (W:World) (fuel:Nat) (cs:List Value) (x:DataW H×List MemPlace),SizeOf.sizeOf x.1≤B→DataW.trod e P W 0 (fun _=>true) true fuel t cs=some x→
  ∃a,wf a∧A8 W (en a) cs∧bD (en a)≤Rows.uptoBulk x.1∧
   ∀(W':World) (sp:Nat→Bool),nY W W'→(∀g,g<W.heap.size→sp g=true)→∃n,DataW.trod e P W' 0 sp true n t cs=some x
section
variable{P:Program}{t q:TypeId}{B:Nat}
theorem ba.El{α:Type}{en:α→List V}{wf:α→Prop}(h:ba P t en wf)(B:Nat):fJ B P t en wf:=fun H e W fuel cs x _ hx=>h H e W fuel cs x hx
theorem fJ.mono{α:Type}{en:α→List V}{wf:α→Prop}{C:Nat}(h:fJ B P t en wf)(hC:C≤B):fJ C P t en wf:=fun H e W fuel cs x hf hx=>h H e W fuel cs x (dU hf hC) hx
theorem ba.ofB{α:Type}{en:α→List V}{wf:α→Prop}(h:∀B,fJ B P t en wf):ba P t en wf:=fun H e W fuel cs x hx=>h (SizeOf.sizeOf x.1) H e W fuel cs x (ah _) hx
theorem abd{H:Type}(d:DataW H):0<SizeOf.sizeOf d:=by cases d<;>simp<;>omega
theorem fJ.zero{α:Type}{en:α→List V}{wf:α→Prop}:fJ 0 P t en wf:=by
 intro H e W fuel cs x hf h;have:=abd x.1;omega
theorem ba.ahz{α:Type}{en:α→List V}{wf:α→Prop}(h:∀B,fJ B P t en wf→fJ (B+1) P t en wf):ba P t en wf:=
 ba.ofB fun B=>by
  induction B with
  |zero=>exact fJ.zero
  |succ B ih=>exact h B ih
theorem fJ.slice{α:Type}{en:α→List V}{wf:α→Prop}{sz:Nat}(ht:P.underlying t=some (.slice q))(hG:P.cellsOf q=sz)(hp:0<sz)(lQ:∀a,(en a).length=sz){B:Nat}(hq:fJ B P q en wf):
 fJ (B+1) P t (fun l:List α=>[.sl sz (l.map en)]) (fun l=>∀a∈l,wf a):=by
 intro H e W fuel cs x hB h;rcases Deep.open_slice ht h with⟨rfl,rfl⟩|⟨a,len,cap,m,n,D,Pl,rfl,hnf,hl,hm,Ug,rfl,hx⟩
 ·exact⟨[],by simp,A8.one .gC rfl,by simp[V.ij,bD,gD,Rows.uptoBulk],fun W' sp _ _=>⟨1,by simp[DataW.trod,ht]⟩⟩
 simp only[aQ]at Ug;subst Ug;by_cases Ar:m=0
 ·subst Ar;have lQ:len=0:=by omega
  subst lQ;exact⟨[],by simp,A8.one .gC rfl,by simp[V.ij,bD,gD,Rows.uptoBulk],fun W' sp _ _=>⟨1,by simp[DataW.trod,ht,MemPlace.row]⟩⟩
 ·have key:∀i,i<m→∃y:α,wf y∧bD (en y)≤Rows.uptoBulk (D i)∧(∀(j:Nat) (v:V),(en y)[j]?=some v→∃u,W.cell? ⟨a.block,a.off+(i*sz+j),none⟩=some u∧VR cI [] W true v u∧u.oneCell'=true)∧
   a.block<W.heap.size∧(i=0→a.spot=none)∧
   ∀(W':World) (sp:Nat→Bool),nY W W'→(∀g,g<W.heap.size→sp g=true)→∃wA n,W'.cells? 0 (a.add (i*P.cellsOf q)) (P.cellsOf q)=some wA∧DataW.trod e P W' 0 sp true n q wA=some (D i,Pl i):=by
   intro i hi;obtain⟨wA,h1,h2⟩:=hx i hi;obtain⟨y,hy,hr,hb,hf⟩:=hq H e W n wA (D i,Pl i) (by
    have sB:D i∈(List.range len).map D∨D i∈(List.range (m-len)).map fun j=>D (len+j):=by
     by_cases sC:i<len
     ·exact .inl (List.mem_map.2 ⟨i,List.mem_range.2 sC,rfl⟩)
     ·exact .inr (List.mem_map.2 ⟨i-len,List.mem_range.2 (by omega),by rw[Nat.add_sub_cancel' (by omega)]⟩)
    have alN:SizeOf.sizeOf (D i)<SizeOf.sizeOf (DataW.slice ((List.range len).map D) ((List.range (m-len)).map fun j=>D (len+j))):=by
     rcases sB with h|h
     ·have:=List.sizeOf_lt_of_mem h;simp only[DataW.slice.sizeOf_spec];omega
     ·have:=List.sizeOf_lt_of_mem h;simp only[DataW.slice.sizeOf_spec];omega
    simp only at hB⊢;omega) h2
   obtain⟨_,hlen,C3⟩:=World.cells?_some h1;have l8:∀j u,wA[j]?=some u→W.cell? (a.add (i*sz+j))=some u:=by
    intro j u hu;have hj:j<P.cellsOf q:=by rw[←hlen];exact(List.getElem?_eq_some_iff.1 hu).1
    have:=C3 j hj;rw[Deep.add_add,hu,hG]at this;exact this
   have h0:∃u,wA[0]?=some u:=⟨wA[0]'(by omega),ax (by omega)⟩;obtain⟨u0,hu0⟩:=h0;have hblk:=uP (l8 0 u0 hu0);refine⟨y,hy,hb,fun j v hj=>?_,hblk.2.1,fun C0=>hblk.2.2 (by subst C0;simp),fun W' sp hk hs=>?_⟩
   ·obtain⟨u,hu,hv,h3⟩:=hr.2 j v hj;exact⟨u,(uP (l8 j u hu)).1,hv,h3⟩
   ·obtain⟨n',hn'⟩:=hf W' sp hk hs;refine⟨wA,n',?_,hn'⟩;rw[←h1];have jE:∀(x:Addr) (k:Nat),(x.add k).block=x.block:=fun x k=>by unfold Addr.add;split<;>rfl
    have Ef:∀k,W'.cell? ((a.add (i*P.cellsOf q)).add k)=W.cell? ((a.add (i*P.cellsOf q)).add k):=fun k=>by
     unfold World.cell?;rw[jE,jE,hk _ hblk.2.1]
    unfold World.cells?;simp only[Ef]
  obtain⟨all,C7,fY⟩:=Ai m key;obtain⟨y0,_,_,_,hblk,OG,_⟩:=key 0 (by omega);have ha:a=⟨a.block,a.off,none⟩:=by
   have:=OG rfl;cases a
   simp_all
  have Aq:∀i y,(all.take len)[i]?=some y→i<len∧all[i]?=some y:=by
   intro i y hy;rw[bC]at hy;split at hy
   ·rename_i h1;exact⟨h1,hy⟩
   ·cases hy
  have gM:∀(i:Nat) (r:List V),((all.take len).map en)[i]?=some r→∃y,all[i]?=some y∧r=en y:=by
   intro i r hr;simp only[bn,aG]at hr;obtain⟨y,hy,rfl⟩:=hr;exact⟨y,(Aq i y hy).2,rfl⟩
  refine⟨all.take len,fun y hy=>?_,?_,?_,fun W' sp hk hs=>?_⟩
  ·obtain⟨i,hi⟩:=ez hy;exact(fY i y (Aq i y hi).2).1
  ·refine A8.one ?_ rfl;rw[ha];refine .sl (fun i j=>(W.cell? ⟨a.block,a.off+(i*sz+j),none⟩).getD Go.undef) (mj hblk) (by simp;omega) hl hm (fun i r hr=>?_) (fun i r hr j v hj=>?_) (fun i r hr j v hj=>?_) (fun i r hr j v hj=>?_)
   ·obtain⟨y,_,rfl⟩:=gM i r hr;exact lQ y
   all_goals
    obtain⟨y,hy,rfl⟩:=gM i r hr;obtain⟨u,h1,h2,h3⟩:=(fY i y hy).2.2.1 j v hj;simp only[h1,bL];try assumption
  ·have:=oC (en:=en) (all.take len) ((List.range len).map D) (by simp;omega) fun i y d hy hd=>by
    obtain⟨h1,h2⟩:=Aq i y hy;simp only[bn,kU h1,bU,aa]at hd;subst hd;exact(fY i y h2).2.1
   simp only[V.ij,bD,Rows.uptoBulk];omega
  ·exact Deep.shut_slice_whole_cells ht (az _) hl hm (hs _ hblk) D Pl fun i hi=>(by
    obtain⟨y,_,_,_,_,_,hf⟩:=key i hi;exact hf W' sp hk hs)
def gz(B:Nat)(P:Program)(ts:List TypeId){α:Type}(en:α→List V)(wf:α→Prop):Prop:=
 ∀(H:Type) (e:TypeId×Value→H) (W:World) (wz:List (List Value)) (xs:List (DataW H×List MemPlace)),wz.length=ts.length→xs.length=ts.length→
  (∀(i:Nat) (t:TypeId) (cs:List Value) (x:DataW H×List MemPlace),ts[i]?=some t→wz[i]?=some cs→xs[i]?=some x→SizeOf.sizeOf x.1≤B∧∃n,DataW.trod e P W 0 (fun _=>true) true n t cs=some x)→
  ∃a,wf a∧A8 W (en a) wz.flatten∧bD (en a)≤Rows.uptoBulkAll (xs.map (·.1))∧
   ∀(W':World) (sp:Nat→Bool),nY W W'→(∀g,g<W.heap.size→sp g=true)→
    ∀(i:Nat) (t:TypeId) (cs:List Value) (x:DataW H×List MemPlace),ts[i]?=some t→wz[i]?=some cs→xs[i]?=some x→∃n,DataW.trod e P W' 0 sp true n t cs=some x
theorem gz.nil:gz B P [] (fun _:Unit=>[]) (fun _=>True):=by
 intro H e W wz xs h1 h2 _;rw[List.length_eq_zero_iff.1 h1,List.length_eq_zero_iff.1 h2];exact⟨(),trivial,⟨rfl,by simp⟩,by simp[bD],fun W' sp _ _ i t cs x h=>by simp at h⟩
theorem gz.cons{ts:List TypeId}{α β:Type}{en:α→List V}{wf:α→Prop}{tI:β→List V}{GA:β→Prop}(h:fJ B P t en wf)(hr:gz B P ts tI GA):
 gz B P (t::ts) (fun p:α×β=>en p.1++tI p.2) (fun p=>wf p.1∧GA p.2):=by
 intro H e W wz xs h1 h2 hx;match wz,xs,h1,h2 with
 |cs::wz,x::xs,h1,h2=>
  obtain⟨hnB,n,hn⟩:=hx 0 t cs x rfl rfl rfl;obtain⟨a,ha,hc,hb,hf⟩:=h H e W n cs x hnB hn;obtain⟨b,n_,nB,Au,pY⟩:=hr H e W wz xs (by simpa using h1) (by simpa using h2) fun i t cs x ht l8 OB=>hx (i+1) t cs x (by simpa using ht) (by simpa using l8) (by simpa using OB);refine⟨(a,b),⟨ha,n_⟩,by simpa using hc.append nB,by simp only[nv,bd,Rows.uptoBulkAll];omega,fun W' sp hk hs i t' wA x' ht l8 OB=>?_⟩;cases i with
  |zero=>simp at ht l8 OB;subst ht l8 OB;exact hf W' sp hk hs
  |succ i=>exact pY W' sp hk hs i t' wA x' (by simpa using ht) (by simpa using l8) (by simpa using OB)
theorem gz.one{α:Type}{en:α→List V}{wf:α→Prop}(h:fJ B P t en wf):gz B P [t] en wf:=by
 intro H e W wz xs h1 h2 hx;obtain⟨p,hp,hc,hb,hf⟩:=gz.cons h gz.nil H e W wz xs h1 h2 hx;exact⟨p.1,hp.1,by simpa using hc,by simpa using hb,hf⟩
theorem fJ.struct{fs:Array Field}{α:Type}{en:α→List V}{wf:α→Prop}(ht:P.underlying t=some (.struct fs))(hl:Kp P fs.toList 0=some (P.cellsOf t))(h:gz B P (fs.toList.map (·.type)) en wf):fJ (B+1) P t en wf:=by
 intro H e W fuel cs x hB hx;obtain⟨xs,n,hnf,rfl,hlen,CT,hf⟩:=DataW.trod_struct ht hx;have C1:=(so fs.toList 0 _ cs hl hlen).2;rw[lp]at C1;have OC:xs.length=fs.toList.length:=by simpa using CT
 obtain⟨a,ha,hc,hb,w8⟩:=h H e W (fs.toList.map fun f=>(cs.drop f.offset).take (P.cellsOf f.type)) xs (by simp) (by simpa using OC) fun i t' wA x' h1 h2 h3=>by
  simp only[bn,aG]at h1 h2;obtain⟨f,q7,rfl⟩:=h1;obtain⟨f',qh,rfl⟩:=h2;rw[q7]at qh;cases qh;refine⟨?_,n,?_⟩
  ·have hm:x'.1∈xs.map (·.1):=kT (aB h3);have h9:=List.sizeOf_lt_of_mem hm;simp only[DataW.agg.sizeOf_spec]at hB;omega
  rw[hf i f (by simpa using q7)];exact h3
 refine⟨a,ha,by rw[←C1];exact hc,by simp only[Rows.uptoBulk];omega,fun W' sp hk hs=>?_⟩;have fY:∀i,i<fs.toList.length→∃m,∀f x',fs.toList[i]?=some f→xs[i]?=some x'→DataW.trod e P W' 0 sp true m f.type ((cs.drop f.offset).take (P.cellsOf f.type))=some x':=by
  intro i hi;have h1:fs.toList[i]?=some fs.toList[i]:=ax hi;have h2:xs[i]?=some xs[i]:=ax (by omega);obtain⟨m,hm⟩:=w8 W' sp hk hs i fs.toList[i].type ((cs.drop fs.toList[i].offset).take (P.cellsOf fs.toList[i].type)) xs[i] (by simp only[bn,h1,bU]) (by simp only[bn,h1,bU]) h2;refine⟨m,fun f x' q7 hx1=>?_⟩;rw[h1]at q7;rw[h2]at hx1;cases q7;cases hx1;exact hm
 obtain⟨m,hm⟩:=Deep.fuel_lt (q:=fun i m=>∀f x',fs.toList[i]?=some f→xs[i]?=some x'→DataW.trod e P W' 0 sp true m f.type ((cs.drop f.offset).take (P.cellsOf f.type))=some x')
  (fun i a b hab hq f x' h1 h2=>DataW.trod_le hab (hq f x' h1 h2)) fY
 exact⟨m+1,trod_struct_mk ht hlen (mapM_some _ _ OC.symm fun i f x' h1 h2=>hm i (List.getElem?_eq_some_iff.1 h1).1 f x' h1 h2)⟩
theorem fJ.as{α β:Type}{en:α→List V}{wf:α→Prop}(h:fJ B P t en wf)(tI:β→List V)(GA:β→Prop)(f:α→β)(he:∀a,tI (f a)=en a)(hw:∀a,wf a→GA (f a)):fJ B P t tI GA:=by
 intro H e W fuel cs x hB hx;obtain⟨a,ha,hc,hb,hf⟩:=h H e W fuel cs x hB hx;exact⟨f a,hw a ha,by rw[he];exact hc,by rw[he];exact hb,hf⟩
end
end Go.AL
