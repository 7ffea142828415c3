/- AlJ -/
import Derived.Test.YtfgkgmmnldocaaaGreatDoorZAl9
import Derived.Below
import Derived.Laws.AppendOwn
import Derived.Test.YtfgkgmmnldocaaaGreatDoorZAlF
import Derived.Shelf.SlSortCmp.WholeK
set_option linter.unusedSectionVars false
set_option linter.unusedSimpArgs false
set_option linter.unusedVariables false
namespace Go.AL
variable[Mode]
def p9(S S1:ae)(sz:Nat)(rows cW:List (List V)):Prop:=
 cW.length=rows.length∧(∀r1∈cW,r1.length=sz)∧
  ∀(i:Nat) (r1:List V),cW[i]?=some r1→∀(j:Nat) (v1:V),r1[j]?=some v1→∀(r:List V) (x:V),rows[i]?=some r→r[j]?=some x→jd S S1 x v1
def TJ(S S1:ae)(o:Obj):Option eR→Prop
 |none=>True
 |some (.arr t sz cW)=>∃rows,o.st=some (.arr t sz rows)∧p9 S S1 sz rows cW
 |some (.mp m1)=>∃m,o.st=some (.mp m)∧XF S S1 m.x m1.x∧m1.kd=m.kd∧m1.rows.length=m.rows.length∧(∀p∈m1.rows,jl m1.kd p.1=true)∧∀(i:Nat) (p1 p:V×V),m1.rows[i]?=some p1→m.rows[i]?=some p→jd S S1 p.1 p1.1∧jd S S1 p.2 p1.2
def xJ(S S1:ae):ae→ae→Prop
 |_,[]=>True
 |[],_::_=>False
 |o::L,o1::L1=>o.aI=o1.aI∧TJ S S1 o o1.st∧xJ S S1 L L1
theorem xJ.len{S S1:ae}:∀{L L1:ae},xJ S S1 L L1→L1.length≤L.length
 |_,[],_=>az _
 |[],_::_,h=>h.elim
 |_::L,_::L1,h=>Nat.succ_le_succ (xJ.len (L:=L) (L1:=L1) h.2.2)
theorem xJ.get{S S1:ae}:∀{L L1:ae},xJ S S1 L L1→∀(k:Nat) (o1:Obj),L1[k]?=some o1→∃o,L[k]?=some o∧o.aI=o1.aI∧TJ S S1 o o1.st
 |_,[],_,k,o1,h1=>by simp at h1
 |[],_::_,h,_,_,_=>h.elim
 |o::L,x::L1,h,0,o1,h1=>by
  simp only[dL,aa]at h1;subst h1;exact⟨o,rfl,h.1,h.2.1⟩
 |_::L,_::L1,h,k+1,o1,h1=>by
  simp only[dM]at h1⊢;exact xJ.get (L:=L) (L1:=L1) h.2.2 k o1 h1
theorem jv.Dk{S L L1:ae}(h:jv S)(hf:xJ (S++L) (S++L1) L L1):mV (S++L) (S++L1) where
 len:=by simp only[aH];have:=hf.len;omega
 obj id o1 h1:=by
  by_cases dD:id<S.length
  ·rw[aF dD]at h1;refine⟨o1,by rw[aF dD];exact h1,rfl,fun t sz cW dq=>?_⟩;obtain⟨aI,st⟩:=o1;simp only at dq;subst dq;have hn:=h.1 id aI t sz cW h1;refine⟨cW,rfl,rfl,fun i r hi=>(hn r (aB hi)).1,fun i r hi j v hj r' x fH w7=>?_⟩;rw[hi]at fH;cases fH;rw[hj]at w7;cases w7;exact .same (.inl (V.fe (V.mG (by simp) (hn r (aB hi)).2) j v hj))
  ·rw[aD (by omega)]at h1;obtain⟨o,h2,h3,h4⟩:=hf.get _ _ h1;refine⟨o,by rw[aD (by omega)];exact h2,h3,fun t sz cW dq=>?_⟩;rw[dq]at h4;obtain⟨rows,h5,h6,h7,h8⟩:=h4;exact⟨rows,h5,h6,fun i r hi=>h7 r (aB hi),h8⟩
 Cg id o1 h1 cW dq:=by
  by_cases dD:id<S.length
  ·rw[aF dD]at h1;obtain⟨aI,st⟩:=o1;simp only at dq;subst dq;have up:∀v:V,v.under S.length=true→v.under (S++L1).length=true:=fun v hv=>by
    have:=V.mG (n:=S.length) (m:=(S++L1).length) (by simp) (r:=[v]) (by simp[V.bI,hv]);simpa[V.bI]using this
   refine⟨_,cW,by rw[aF dD];exact h1,rfl,rfl,.same fun of p hp=>.inl ⟨up _ ((h.2 id aI cW h1).2 of p hp).1,up _ ((h.2 id aI cW h1).2 of p hp).2⟩,rfl,rfl,fun p hp=>((h.2 id aI cW h1).1 p hp).2.2,fun i p1 p Ky hp=>?_⟩;rw[Ky]at hp;cases hp;obtain⟨k1,k2,_⟩:=(h.2 id aI cW h1).1 p1 (aB Ky);exact⟨.same (.inl (up _ k1)),.same (.inl (up _ k2))⟩
  ·rw[aD (by omega)]at h1;obtain⟨o,h2,h3,h4⟩:=hf.get _ _ h1;rw[dq]at h4;obtain⟨rows,h5,xj,h6,h7,h8,h9⟩:=h4;exact⟨o,rows,by rw[aD (by omega)];exact h2,h3,h5,xj,h6,h7,h8,h9⟩
section
variable{S S1:ae}{sz:Nat}{rows cW:List (List V)}
theorem p9.under(h:∀r∈rows,r.length=sz∧V.bI S1.length r=true):p9 S S1 sz rows rows:=
 ⟨rfl,fun r hr=>(h r hr).1,fun i r hi j v hj r' x fH w7=>by
  rw[hi]at fH;cases fH;rw[hj]at w7;cases w7;exact .same (.inl (V.fe (h r (aB hi)).2 j v hj))⟩
theorem rE:∀{l:List V} (n:Nat),V.bQ l=true→V.bI n l=true
 |[],_,_=>rfl
 |v::r,n,h=>by
  simp only[V.bQ,aW]at h;simp only[V.bI,aW];exact⟨oR n h.1,rE n h.2⟩
theorem p9.bX(h:∀r∈rows,r.length=sz∧V.bQ r=true):p9 S S1 sz rows rows:=
 .under fun r hr=>⟨(h r hr).1,rE _ (h r hr).2⟩
theorem p9.nil:p9 S S1 sz [] []:=.bX fun r h=>by cases h
def wX(S S1:ae):List V→List V→Prop
 |[],[]=>True
 |x::r,v::r1=>jd S S1 x v∧wX S S1 r r1
 |_,_=>False
theorem wX.get:∀{r r1:List V},wX S S1 r r1→r1.length=r.length∧∀(j:Nat) (v x:V),r1[j]?=some v→r[j]?=some x→jd S S1 x v
 |[],[],_=>⟨rfl,fun j v x h=>by simp at h⟩
 |x::r,v::r1,h=>by
  obtain⟨a,b⟩:=wX.get (r:=r) (r1:=r1) h.2;refine⟨by simp[a],fun j w y h1 h2=>?_⟩;cases j with
  |zero=>simp at h1 h2;subst h1 h2;exact h.1
  |succ j=>simp at h1 h2;exact b j w y h1 h2
 |[],_::_,h=>h.elim
 |_::_,[],h=>h.elim
end
def D9{α:Type}(R:α→α→Prop):List α→List α→Prop
 |[],[]=>True
 |x::l,y::m=>R x y∧D9 R l m
 |_,_=>False
theorem D9.get{α:Type}{R:α→α→Prop}:∀{l m:List α},D9 R l m→m.length=l.length∧∀(i:Nat) (y:α),m[i]?=some y→∃x,l[i]?=some x∧R x y
 |[],[],_=>⟨rfl,fun i y h=>by simp at h⟩
 |x::l,y::m,h=>by
  obtain⟨a,b⟩:=D9.get (l:=l) (m:=m) h.2;refine⟨by simp[a],fun i z hz=>?_⟩;cases i with
  |zero=>simp at hz;subst hz;exact⟨x,rfl,h.1⟩
  |succ i=>simp at hz;simpa using b i z hz
 |[],_::_,h=>h.elim
 |_::_,[],h=>h.elim
theorem D9.refl{α:Type}{R:α→α→Prop}(h:∀x,R x x):∀(l:List α),D9 R l l
 |[]=>trivial
 |x::l=>⟨h x,D9.refl h l⟩
inductive Wk:V→V→Prop
 |refl (v:V):Wk v v
 |nil (sz:Nat):Wk .aM (.sl sz [])
 |sl {sz:Nat} {rows cW:List (List V)} (hl:cW.length=rows.length)
  (hz:∀(i:Nat) (r1:List V),cW[i]?=some r1→∀r,rows[i]?=some r→r1.length=r.length)
  (h:∀(i:Nat) (r1:List V),cW[i]?=some r1→∀(j:Nat) (y:V),r1[j]?=some y→∀r,rows[i]?=some r→∀x,r[j]?=some x→Wk x y):Wk (.sl sz rows) (.sl sz cW)
 |agg {vs ws:List V} (hl:ws.length=vs.length) (h:∀(j:Nat) (y:V),ws[j]?=some y→∀x,vs[j]?=some x→Wk x y):Wk (.agg vs) (.agg ws)
 |dI {vs ws:List V} (hl:ws.length=vs.length) (h:∀(j:Nat) (y:V),ws[j]?=some y→∀x,vs[j]?=some x→Wk x y):Wk (.dI vs) (.dI ws)
theorem ak.VB{P:Program}{f:FuncId}{args:List V}{S S2:ae}{v:V}{R:V→ae→Prop}(h:ak P f args S fun r S'=>r=v∧S'=S2)(k:R v S2):ak P f args S R:=
 h.mono fun r S' ⟨h1,h2⟩=>by rw[h1,h2];exact k
theorem jv.self{S:ae}(h:jv S):mV S S:=by simpa using h.dO []
theorem dt{S S1:ae}(h:mV S S1):∀{E1 E:Env},sub E1 E→(E1.all fun p=>p.2.under S1.length)=true→Li E1 S1 E S:=by
 intro E1 E hs hu;refine .inr ⟨h,?_⟩;induction E1 with
 |nil=>trivial
 |cons p r ih=>
  obtain⟨k,v⟩:=p;simp only[gr,aW]at hu;simp only[sub]at hs;exact⟨by rw[hs.1];exact .same (.inl hu.1),ih hs.2 hu.2⟩
end Go.AL
namespace Go.AL
variable[Mode]
theorem F3{id aI:Nat}:(V.eF id aI).cells?=some [.eF id aI]:=rfl
theorem TG{id aI:Nat}:(V.eF id aI).dK=true:=rfl
theorem Ds{a b:List UInt8}:jX (.str a) (.str b)=decide (a=b):=by simp[jX,wi]
def tS{α:Type}(K:α→V)(rows:List (V×V)):Prop:=∀p∈rows,(∃a,p.1=K a)∧p.1.dH=true∧p.2.dH=true
section
variable{α:Type}{K:α→V}{rows:List (V×V)}
theorem tS.nil:tS K []:=fun p h=>by cases h
theorem B6{k v:V}:∀{rows:List (V×V)} {p:V×V},p∈kr k v rows→p=(k,v)∨p∈rows
 |[],p,h=>by simp only[kr,bM]at h;exact .inl h
 |q::rows,p,h=>by
  rw[kr]at h;split at h
  ·rcases List.mem_cons.1 h with h|h
   ·exact .inl h
   ·exact .inr (cc _ h)
  ·rcases List.mem_cons.1 h with h|h
   ·exact .inr (by rw[h];exact fg ..)
   ·exact(B6 h).imp id (cc _)
theorem tS.put(h:tS K rows){a:α}{v:V}(hk:(K a).dH=true)(hv:v.dH=true):tS K (kr (K a) v rows):=fun p hp=>by
 rcases B6 hp with rfl|hp
 ·exact⟨⟨a,rfl⟩,hk,hv⟩
 ·exact h p hp
theorem Df[DecidableEq α](hK:∀a b:α,jX (K a) (K b)=decide (a=b)){a b:α}{v:V}:∀{rows:List (V×V)},tS K rows→gn (K b) (kr (K a) v rows)=if b=a then some v else gn (K b) rows
 |[],_=>by simp only[kr,gn,hK,aL]
 |q::rows,h=>by
  obtain⟨⟨c,hc⟩,_⟩:=h q (fg ..);have ih:=Df hK (a:=a) (b:=b) (v:=v) (rows:=rows) fun p hp=>h p (cc _ hp);obtain⟨q1,q2⟩:=q;simp only at hc;subst hc;by_cases hac:a=c
  ·subst hac;by_cases hb:b=a
   ·simp[kr,gn,hK,hb]
   ·simp[kr,gn,hK,hb]
  ·by_cases hb:b=c
   ·subst hb;have:¬b=a:=fun h=>hac h.symm;simp[kr,gn,hK,hac,this]
   ·simp[kr,gn,hK,hac,hb,ih]
end
theorem Ng{α:Type}{K:α→V}{S S1:ae}{o:Obj}{kd:KD}{rows:List (V×V)}{x:MX}(ho:o.st=some (.mp ⟨kd,rows,x⟩))(hx:x.iw=false:=by rfl)(h:tS K rows)(hk:∀a,jl kd (K a)=true):TJ S S1 o (some (.mp ⟨kd,rows,x⟩)):=
 ⟨_,ho,.same fun of p hp=>(by simp only at hp;rw[hp]at hx;cases hx),rfl,rfl,fun p hp=>by obtain⟨⟨a,ha⟩,_⟩:=h p hp;rw[ha];exact hk a,fun i p1 p h1 h2=>by
   rw[h1]at h2;cases h2;obtain⟨_,i1,i2⟩:=h p1 (aB h1);exact⟨.bX i1,.bX i2⟩⟩
theorem Dj{S S1 T:ae}:xJ S S1 T []:=by cases T<;>trivial
end Go.AL
namespace Go.AL
open Go.RowKit
variable[Mode][bR]
section
variable{P:Program}{ρ:Place}{S:ae}{w:World}
theorem sF{w':World}(hb:Below w.heap.size w w'):Ext ρ S w ρ S w':=by
 refine⟨hb.os,⟨hb.tape,fun e=>absurd e bR.no⟩,hb.output,hb.size,fun g hg=>⟨⟨?_,hg.2⟩,hb.block g hg.1⟩,ah _,fun id o o' h h'=>?_⟩
 ·have:=hg.1;have:=hb.size;omega
 ·rw[h]at h';cases h';exact⟨ah _,fun _ c hc=>⟨c,hc,eR.fD c,rfl⟩⟩
theorem yH{w':World}(hi:Inv ρ S w)(hw:Below w.heap.size w w'):Inv ρ S w':=by
 have hx:=sF (ρ:=ρ) (S:=S) hw;refine⟨fun id aI e sz rows hs=>?_,hi.inj,jP hi hx (fun id aI rows hs=>⟨hs,rfl⟩) (fun id aI rows g hs hg=>hw.block g (hi.block hs rfl hg)),jJ hi hx⟩;obtain⟨h1,h2⟩:=hi.rows id aI e sz rows hs;refine⟨h1,?_⟩;rcases h2 with h2|⟨g,db,cur,a,b,c,d,f,h⟩
 ·exact .inl h2
 ·refine .inr ⟨g,db,cur,a,b,c,?_,f,fun i r fv j v hj=>?_⟩
  ·rw[hw.block g (Array.getElem?_eq_some_iff.1 d).1];exact d
  ·obtain⟨u,x,y,z⟩:=h i r fv j v hj;exact⟨u,x,y.ext hx,z⟩
end
end Go.AL
namespace Go.AL
open Go.RowKit
variable[Mode]
def nx(n:Nat):List (List V)→V
 |[]=>.aM
 |_::rs=>.cU n rs.length 0 (rs.length+1)
def lV(q:TypeId)(sz:Nat):List (List V)→ae
 |[]=>[]
 |r::rs=>[⟨rs.length,some (.arr q sz (r::rs))⟩]
theorem Az{S:ae}{q:TypeId}{sz:Nat}{rows:List (List V)}(hr:∀r∈rows,r.length=sz∧V.bQ r=true):jd (S++lV q sz rows) S (nx S.length rows) (.sl sz rows):=by
 cases rows with
 |nil=>exact .nil
 |cons x rows=>exact .sl (t:=q) (ah _) (by rw[lV,dP,cE]) (by simp) hr
theorem jC.sub{P:Program}{N:Nat}{σ:kL}{b:e8}{Q:Exit→Env→ae→Prop}{E0 E:Env}{S:ae}(h:jC P N σ b Q E0 S)(hs:sub E0 E):jC P N σ b Q E S:=fun c own hc ρ a w hx hr=>h c own hc ρ a w hx (hr.sub hs)
theorem jC.share{P:Program}{N:Nat}{σ:kL}{G:Prop}(E0:Env)(S0:ae)(b:e8)(Q:Exit→Env→ae→Prop)(k2:jC P N σ b Q E0 S0→G)(k1:jC P N σ b Q E0 S0):G:=k2 k1
theorem rG{n:Nat}:nx n []= .aM:=rfl
end Go.AL
namespace Go.AL
variable[Mode]
variable{P:Program}{ρ:Place}{S:ae}{w:World}
end Go.AL
namespace Go.AL
open Go.RowKit
variable[Mode]
theorem cm{P:Program}{N:Nat}{σ:kL}{A B:e8}{Q:Exit→Env→ae→Prop}{E:Env}{S:ae}(I:Env→ae→Prop)
 (hA:∀K:Env→ae→Prop,(∀E' S',I E' S'→K E' S')→ji P N σ A (mZ K Q) E S)(hB:∀E' S',I E' S'→ji P N σ B Q E' S'):ji P N σ (.seq A B) Q E S:=
 hA _ hB
structure LG(S:ae)(q:TypeId)(sz:Nat)(rows:List (List V))(v:V)(S':ae):Prop where
 ext:∃T,S'=S++T
 here:(v= .aM∧rows=[])∨∃id aI,S.length≤id∧v= .cU id aI 0 rows.length∧S'.bq id aI=some (q,sz,rows)
theorem LG.nil{S:ae}{q:TypeId}{sz:Nat}(T:ae):LG S q sz [] .aM (S++T):=⟨⟨T,rfl⟩,.inl ⟨rfl,rfl⟩⟩
theorem LG.TM{S:ae}{q:TypeId}{sz:Nat}:LG S q sz [] .aM S:=⟨⟨[],by simp⟩,.inl ⟨rfl,rfl⟩⟩
theorem fc{S X:ae}{id aI:Nat}{r:TypeId×Nat×List (List V)}(h:S.bq id aI=some r):(S++X).bq id aI=some r:=by
 have aR:id<S.length:=by
  unfold ae.bq at h;split at h
  ·rename_i h2;exact(List.getElem?_eq_some_iff.1 h2).1
  ·cases h
 unfold ae.bq at*;rw[aF aR];exact h
theorem LG.add{S:ae}{q:TypeId}{sz:Nat}{rows:List (List V)}{v:V}{S':ae}(h:LG S q sz rows v S')(X:ae):LG S q sz rows v (S'++X):=by
 obtain⟨⟨T,rfl⟩,h2⟩:=h;refine⟨⟨T++X,by simp⟩,?_⟩;rcases h2 with h2|⟨id,aI,h3,h4,h5⟩
 ·exact .inl h2
 ·exact .inr ⟨id,aI,h3,h4,fc h5⟩
theorem ed{S:ae}{id aI gS:Nat}{q:TypeId}{sz:Nat}{rows bT:List (List V)}(h:S.bq id aI=some (q,sz,rows)):ae.bq (S.set id ⟨gS,some (.arr q sz bT)⟩) id gS=some (q,sz,bT):=by
 have aR:id<S.length:=by
  unfold ae.bq at h;split at h
  ·rename_i h2;exact(List.getElem?_eq_some_iff.1 h2).1
  ·cases h
 unfold ae.bq;rw[aT aR];simp
theorem gW{S:ae}{id aI:Nat}{r:TypeId×Nat×List (List V)}(h:S.bq id aI=some r):id<S.length:=by
 unfold ae.bq at h;split at h
 ·rename_i h2;exact(List.getElem?_eq_some_iff.1 h2).1
 ·cases h
theorem LG.app{S:ae}{q:TypeId}{sz:Nat}{rows:List (List V)}{v:V}{S':ae}(h:LG S q sz rows v S'){rs:List (List V)}{K:V→ae→Prop}(hl:rows.length+rs.length≤1000000000)
 (k:∀v' Gi,LG S q sz (rows++rs) v' Gi→K v' Gi):kj q sz v (some (sz,rs)) S' K:=by
 obtain⟨⟨T,rfl⟩,h2⟩:=h;rcases h2 with⟨rfl,rfl⟩|⟨id,aI,h3,rfl,h5⟩
 ·rw[rB];refine⟨by unfold dw;simp at hl;omega,k _ _ ⟨⟨T++[⟨0,some (.arr q sz rs)⟩],by simp⟩,.inr ⟨(S++T).length,0,by simp,by simp,?_⟩⟩⟩;rw[a8];exact(dP (S:=S++T)).trans cE
 ·rw[ll,h5,iS];refine⟨rfl,by unfold dw;omega,k _ _ ⟨⟨T.set (id-S.length) ⟨aI+1,some (.arr q sz (rows++rs))⟩,?_⟩,.inr ⟨id,aI+1,h3,by simp,ed h5⟩⟩⟩;rw[List.set_append_right _ _ h3]
theorem LG.len{S:ae}{q:TypeId}{sz:Nat}{rows:List (List V)}{v:V}{S':ae}(h:LG S q sz rows v S'):oN S' v=some (.int .i64 (rows.length:Nat)):=by
 rcases h.here with⟨rfl,rfl⟩|⟨id,aI,h3,rfl,h5⟩<;>rfl
theorem LG.fin{S:ae}{q:TypeId}{sz:Nat}{rows:List (List V)}{v:V}{S':ae}(h:LG S q sz rows v S')(hn:jv S)(hr:∀r∈rows,r.length=sz∧V.bQ r=true):mV S' S∧jd S' S v (.sl sz rows):=by
 obtain⟨⟨T,rfl⟩,h2⟩:=h;refine⟨hn.dO T,?_⟩;rcases h2 with⟨rfl,rfl⟩|⟨id,aI,h3,rfl,h5⟩
 ·exact .nil
 ·exact .sl (t:=q) h3 h5 (by simp) hr
theorem LG.dO{S:ae}{q:TypeId}{sz:Nat}{rows:List (List V)}{v:V}{S':ae}(h:LG S q sz rows v S')(hn:jv S):mV S' S:=by
 obtain⟨⟨T,rfl⟩,h2⟩:=h;exact hn.dO T
end Go.AL
namespace Go.AL
open Go Go.Sort Go.Proofs
variable[Mode]
variable{P:Program}
theorem FP(hM:Mode.strict){W W':World}{dn:Place}(h:Ext cI [] W dn [] W'):∃q os,W'=grow (W.drewN q) os:=by
 refine⟨W'.drawn-W.drawn,W'.heap.extract W.heap.size W'.heap.size,?_⟩;have hd:W.drawn≤W'.drawn:=h.tape.2 hM;obtain⟨hp,tp,dr,os,ou⟩:=W;obtain⟨Kz,tp',dr',os',ou'⟩:=W';have h1:=h.os;have h2:=h.tape.1;have h3:=h.output;simp only at h1 h2 h3 hd;subst h1 h2 h3;have hh:Kz=hp++Kz.extract hp.size Kz.size:=by
  apply mg;intro i;by_cases hi:i<hp.size
  ·rw[jI hi];exact(h.un i (mj hi)).2
  ·have hs:hp.size≤Kz.size:=h.size;rw[Array.getElem?_append_right (by omega),Array.getElem?_extract];split
   ·rw[show hp.size+(i-hp.size)=i by omega]
   ·rw[Array.getElem?_eq_none_iff];omega
 simp only[grow,World.drewN];rw[show dr+(dr'-dr)=dr' by omega,←hh]
theorem T6(W:World)(hT:iI cI [] W):Inv cI [] W:=⟨fun id aI e sz rows h=>by simp at h,fun i j o p c d g x y h=>by simp at h,fun id aI rows h=>by simp at h,hT⟩
def A9(ρ:Place)(S:ae)(w:World)(vs:List V)(us:List Value):Prop:=
 us.length=vs.length∧∀(j:Nat) (v:V),vs[j]?=some v→∃u,us[j]?=some u∧VR ρ S w true v u∧u.oneCell'=true
abbrev xK{α:Type}(en:α→List V)(ρ:Place)(S:ae)(w:World):Type:={p:α×List Value//A9 ρ S w (en p.1) p.2}
theorem ac3{rn:Go.Shelf.Ren}(L:Go.Proofs.SlLaysF0.n6 P rn){sz:Nat}(hG:0<sz)(aE:∀w,(isAgg (rn.t 24)).run P w= .ok true w)(zE:∀w,(Go.sizeOf (rn.t 24)).run P w= .ok sz w)
 {α:Type}(en:α→List V)(hlen:∀x,(en x).length=sz)(qu:∀x,V.bQ (en x)=true)(z:α)(zr:List Value)(hz:∀ρ S w,A9 ρ S w (en z) zr)
 (cf:α→α→Int)(hO:SWO (ltOf cf))(g:FuncId)(hc:∀x y S,@ak (Mode.tight inferInstance) P g [.agg (en x),.agg (en y)] S fun r S'=>r= .int .i64 (cf x y)∧S'=S)
 (nq:o8 P (rn.f 6))(OS:∀S,ak P (rn.f 6) [.aM,.func g [] []] S fun r S'=>r= .dI []∧S'=S)
 (l:List α)(S:ae)(id aI:Nat)(hl:l.length≤1000000)(hs:S.bq id aI=some (rn.t 24,sz,l.map en)):
 ak P (rn.f 6) [.cU id aI 0 l.length,.func g [] []] S fun r S'=>r= .dI []∧∃l':List α,l'.Perm l∧(l'.Pairwise fun x y=>ltOf cf y x=false)∧S'=S.set id ⟨aI,some (.arr (rn.t 24) sz (l'.map en))⟩:=by
 refine⟨nq,fun ρ w us hi hv=>?_⟩;obtain⟨adM,hv⟩:=hv;obtain⟨u,hu,hr⟩:=hv 0 _ rfl;obtain⟨u1,hu1,Ec⟩:=hv 1 _ rfl;have iV:=df hs;have aR:=(List.getElem?_eq_some_iff.1 iV).1;have Fy:u1= .func (.func g) #[] #[]:=by
  cases Ec with
  | @func _ _ _ _ a b c d uc vZ _ _ _ _=>
    have e1:a= #[]:=Array.eq_empty_of_size_eq_zero (by simpa using uc);have e2:b= #[]:=Array.eq_empty_of_size_eq_zero (by simpa using vZ);rw[e1,e2]
 have sw:us= #[u,u1]:=by
  have h2:us.size=2:=adM;apply mg;intro i;match i with
  |0=>rw[hu];rfl
  |1=>rw[hu1];rfl
  |i+2=>rw[Array.getElem?_eq_none_iff.2 (by omega),Array.getElem?_eq_none_iff.2 (by simp)]
 obtain⟨m1,m2⟩:=hr.gY hs;rcases m2 with⟨hp,rfl,h0,_⟩|⟨gb,db,cap,hp,rfl,k1,k2,k3⟩|⟨h0,_⟩
 ·have lQ:l=[]:=dc h0;subst lQ;refine((OS S).2 ρ w us hi ⟨adM,fun j v hj=>?_⟩).mono ?_
  ·match j,hj with
   |0,hj=>simp at hj;subst hj;exact⟨_,hu,.aM⟩
   |1,hj=>simp at hj;subst hj;exact⟨_,hu1,Ec⟩
   |j+2,hj=>simp at hj
  ·rintro tI w' ⟨dn,S',r,v,h1,h2,h3,h4,rfl,rfl⟩;refine⟨dn,S',_,v,h1,h2,h3,h4,rfl,[],.refl _,.nil,?_⟩;apply iM;intro i;rw[iK];split
   ·rename_i dD;subst dD;exact iV
   ·rfl
 ·obtain⟨cur,b1,b2,b3,b4,b5,b6⟩:=ks hi hs hp;simp only[ik,aP]at*;have hel:∀(i:Nat) (x:α),l[i]?=some x→A9 ρ S w (en x) ((List.range sz).map fun c=>(cur[i*sz+c]?).getD Go.undef):=by
   intro i x hx;refine⟨by simp[hlen],fun j v hj=>?_⟩;have oV:j<sz:=by have:=(List.getElem?_eq_some_iff.1 hj).1;rw[hlen]at this;exact this
   obtain⟨y,f1,f2,f3⟩:=b6 i (en x) (by simp[hx]) j v hj;refine⟨y,by simp[oV,f1],f2.uX (V.eZ (qu x) j v hj) true,f3⟩
  letI:Inhabited (xK en ρ S w):=⟨⟨(z,zr),hz ρ S w⟩⟩
  have C6:∀i:Fin l.length,l[i.1]?=some l[i.1]:=fun i=>ax i.2
  let d:Array (xK en ρ S w):=Array.ofFn fun i:Fin l.length=>⟨(l[i.1],(List.range sz).map fun c=>(cur[i.1*sz+c]?).getD Go.undef),hel i.1 _ (C6 i)⟩
  have hd:d.size=l.length:=by simp[d]
  have hdl:d.toList.map (fun e=>e.1.1)=l:=by
   apply iM;intro i;rw[bn];by_cases fH:i<l.length
   ·have:d.toList[i]?=some d[i]:=by rw[Array.getElem?_toList];exact gR (by omega)
    rw[this];simp[d,ax fH]
   ·rw[List.getElem?_eq_none_iff.2 (by simp;omega),List.getElem?_eq_none_iff.2 (by omega)];rfl
  let enc:xK en ρ S w→List Value:=fun e=>e.1.2
  have enl:∀e:xK en ρ S w,(enc e).length=sz:=fun e=>by rw[e.2.1,hlen]
  have en1:∀e:xK en ρ S w,∀v∈enc e,v.oneCell'=true:=fun e v hv=>by
   obtain⟨j,hj⟩:=ez hv;have oV:j<(en e.1.1).length:=by have:=(List.getElem?_eq_some_iff.1 hj).1;rw[←e.2.1];exact this
   obtain⟨y,f1,_,f3⟩:=e.2.2 j _ (ax oV);change (e.1.2)[j]?=some v at hj;rw[hj]at f1;cases f1;exact f3
  have UJ:∀(d:Array (xK en ρ S w)) (j:Nat),j<d.size*sz→∃(i c:Nat),j=i*sz+c∧c<sz∧i<d.size∧(flatK enc sz d)[j]! =(enc d[i]!)[c]!:=fun d j h=>
   ⟨j/sz,j%sz,by rw[Nat.mul_comm];exact(Nat.div_add_mod j sz).symm,Nat.mod_lt _ hG,Nat.div_lt_of_lt_mul (by rw[Nat.mul_comm];exact h),get_flatK enc sz d j h⟩
  have hH:HoldsK enc sz w gb 0 d:=by
   intro j hj;rw[size_flatK,hd]at hj;obtain⟨i,c,rfl,mN,sC,nK⟩:=UJ d j (by rw[hd];exact hj);rw[hd]at sC;have hdi:d[i]! =d[i]'(by omega):=getElem!_pos d i (by omega);have hb:i*sz+c<cur.size:=by
    rw[b2];have h1:i<db:=by omega
    calc i*sz+c<i*sz+sz:=by omega
     _=(i+1)*sz:=by rw[eM,Nat.one_mul]
     _≤db*sz:=dA _ h1
   have hx:(enc d[i]!)[c]! =cur[i*sz+c]:=by
    rw[hdi];simp[enc,d,mN,hb]
   rw[nK,hx];refine⟨?_,?_⟩
   ·simp[World.cell?,b1,hb]
   ·simp[World.frozen?,b1]
  have hgb:gb<w.heap.size:=(Array.getElem?_eq_some_iff.1 b1).1;have aia:∀k,eo ρ S w k→k≠gb:=fun k hk hkg=>hk.2 id _ _ gb db iV rfl hp hkg.symm;obtain⟨fn,q1,q2,q3⟩:=(hc z z []).1;obtain⟨cd,q4⟩:∃cd,fn.body=some cd:=by
   cases hb:fn.body with
   |none=>rw[hb]at q3;cases q3
   |some cd=>exact⟨cd,rfl⟩
  have eg:=enters_of q1 q2 q4;have hold:∀(n:Nat) (d':Array (xK en ρ S w)) (os:Array _) (k:Nat),k<w.heap.size→k≠gb→(sortWorldK enc sz w gb 0 n d' os).heap[k]?=w.heap[k]?:=fun n d' os k hk eY=>by
   show(((Sort.ahead w n).heap.modify gb (onCells (putCells (fun v=>v) 0 (flatK enc sz d'))))++os)[k]?=_;rw[jI (by simpa using hk),fM,aC (fun h=>eY h.symm)];rfl
  have ai0:CmpLays P g #[] enc sz (fun x y=>cf x.1.1 y.1.1) gb 0 d.size w:=fun m os dk _ x y=>by
   have hsw:w.heap.size≤(sortWorldK enc sz w gb 0 m dk os).heap.size:=by
    show _≤(((Sort.ahead w m).heap.modify gb _)++os).size;rw[Array.size_append,Array.size_modify];show w.heap.size≤w.heap.size+_;omega
   have Fm:∀k,eo ρ S w k→eo cI [] (sortWorldK enc sz w gb 0 m dk os) k∧(sortWorldK enc sz w gb 0 m dk os).heap[k]?=w.heap[k]?:=fun k hk=>
    ⟨mj (mb hk.1 hsw),hold m dk os k hk.1 (aia k hk)⟩
   have hrel:∀e:xK en ρ S w,VR cI [] (sortWorldK enc sz w gb 0 m dk os) false (.agg (en e.1.1)) (.agg (enc e).toArray):=fun e=>
    .DX (by simpa using e.2.1) fun j v hj=>by
     obtain⟨u,f1,f2,_⟩:=e.2.2 j v hj;exact⟨u,by simpa[enc]using f1,f2.bX Fm rfl false⟩
   have hT:iI cI [] (sortWorldK enc sz w gb 0 m dk os):=fun p hp=>by
    obtain⟨a,t,fr,b⟩:=hi.SS p hp;exact⟨(Fm _ a).1,t,fr,(Fm _ a).2.trans b⟩
   refine((hc x.1.1 y.1.1 []).2 cI _ #[.agg (enc x).toArray,.agg (enc y).toArray] (@T6 (Mode.tight inferInstance) _ hT) ⟨rfl,fun j v hj=>?_⟩).mono ?_
   ·match j,hj with
    |0,hj=>simp at hj;subst hj;exact⟨_,rfl,hrel x⟩
    |1,hj=>simp at hj;subst hj;exact⟨_,rfl,hrel y⟩
    |j+2,hj=>simp at hj
   ·rintro e w' ⟨dn,S',r,u,h1,h2,h3,h4,rfl,rfl⟩;cases h2;exact⟨h1,@FP (Mode.tight inferInstance) trivial _ _ _ h4⟩
  have hO':SWO (ltOf fun x y:xK en ρ S w=>cf x.1.1 y.1.1):=⟨fun x=>hO.irrefl x.1.1,fun x y z=>hO.trans x.1.1 y.1.1 z.1.1,fun x y z=>hO.ntrans x.1.1 y.1.1 z.1.1⟩;have aet:=Go.Proofs.AnyQ.slices_SortFunc L sz aE zE enc enl en1 (fun x y=>cf x.1.1 y.1.1) hO' g #[] gb 0 cap d w eg ai0 hH hgb (by omega);rw[sw,Fy];rw[hd]at aet;refine aet.mono ?_;rintro tI w' ⟨he,d',n,os,⟨p1,_,p3⟩,ah2,rfl⟩;have hd':d'.size=l.length:=by omega
  have adZ:(d'.toList.map fun e=>e.1.1).Perm l:=by
   have e1:d'.extract 0 l.length=d':=by rw[←hd'];simp
   have e2:d.extract 0 l.length=d:=by rw[←hd];simp
   rw[e1,e2]at p3;have:=p3.map fun e:xK en ρ S w=>e.1.1;rw[hdl]at this;exact this
  have ael:(sortWorldK enc sz w gb 0 n d' os).heap[gb]?=some (.cells (putCells (fun v=>v) 0 (flatK enc sz d') cur) (rn.t 24) (0,0)):=by
   show(((Sort.ahead w n).heap.modify gb (onCells (putCells (fun v=>v) 0 (flatK enc sz d'))))++os)[gb]?=_;rw[jI (by simpa using hgb),fM,aK rfl];show Option.map _ w.heap[gb]?=_;rw[b1];rfl
  obtain⟨i1,i2⟩:=mo (w':=sortWorldK enc sz w gb 0 n d' os) (gS:=aI) (g':=gb) (eU:=db) (bT:=(d'.toList.map fun e=>e.1.1).map en) (cur:=putCells (fun v=>v) 0 (flatK enc sz d') cur) hi iV hp (.inl ⟨rfl,rfl,fun _=>by simp[hd']⟩) (ah _)
   (by show _≤(((Sort.ahead w n).heap.modify gb _)++os).size;rw[Array.size_append,Array.size_modify];show w.heap.size≤w.heap.size+_;omega) rfl ⟨rfl,Nat.le_add_right _ _⟩ rfl (fun k hk eY=>hold n d' os k hk eY) ael (by simp[hd'];omega) b4 (by simp[putCells,b2]) (by
    refine⟨fun i r hr=>?_,fun i r hr j v hj=>?_⟩
    ·simp only[bn,aG]at hr;obtain⟨x,_,rfl⟩:=hr;exact hlen x
    ·rw[fP,bn,aG]at hr;obtain⟨e,hx,rfl⟩:=hr;simp only[Function.comp]at hj;have hj4:j<sz:=by have:=(List.getElem?_eq_some_iff.1 hj).1;rw[hlen]at this;exact this
     obtain⟨u,f1,f2,f3⟩:=e.2.2 j v hj;have aej:i<d'.size:=by have:=(List.getElem?_eq_some_iff.1 hx).1;simpa using this
     have nB:i*sz+j<d'.size*sz:=by
      calc i*sz+j<i*sz+sz:=by omega
       _=(i+1)*sz:=by rw[eM,Nat.one_mul]
       _≤d'.size*sz:=dA _ aej
     have hb:i*sz+j<cur.size:=by
      rw[b2];exact mb nB (dA _ (by omega))
     have su:d'[i]! =e:=by
      rw[getElem!_pos d' i aej];have:=(List.getElem?_eq_some_iff.1 hx).2;simpa using this
     refine⟨u,?_,f2.weaken false,f3⟩;simp only[putCells,Array.getElem?_mapIdx,gR hb,bU,az,eG,dv,size_flatK,nB,aQ,Nat.sub_zero,aa];rw[get_flatK enc sz d' _ nB];have q1:(i*sz+j)/sz=i:=by rw[Nat.mul_comm,Nat.mul_add_div hG,Nat.div_eq_of_lt hj4,pb]
     have q2:(i*sz+j)%sz=j:=by rw[Nat.mul_comm,Nat.mul_add_mod,Nat.mod_eq_of_lt hj4]
     rw[q1,q2,su];have oV:j<(enc e).length:=by rw[enl];exact hj4
     rw[getElem!_pos (enc e) j oV];have:=(List.getElem?_eq_some_iff.1 f1).2;exact this)
  refine⟨_,_,_,_,he,.rR rfl (by simp),i1,i2,rfl,d'.toList.map fun e=>e.1.1,adZ,?_,rfl⟩;rw[List.pairwise_map,List.pairwise_iff_getElem];intro i j fH w7 kh;have hj2:j<d'.size:=by simpa using w7
  have om:i<d'.size:=by simpa using fH
  have:=ah2 i j (az _) kh (by omega);rw[getElem!_pos d' i om,getElem!_pos d' j hj2]at this;simpa[ltOf]using this
 ·omega
end Go.AL
