/- Cn3 -/
import Derived.Test.YtfgkgmmnldocaaaGreatDoorZCn0
import Derived.Test.YtfgkgmmnldocaaaGreatDoorZMil5
set_option linter.unusedSectionVars false
set_option linter.unusedSimpArgs false
set_option linter.unusedVariables false
namespace Go.Proofs.YtfgkgmmnldocaaaGreatDoor
open Go Go.AL
variable[Go.AL.Mode][Go.AL.bR]
def lW(S S1:ae):List V→List V→Prop
 |[],[]=>True
 |v::vs,w::ws=>jd S S1 v w∧lW S S1 vs ws
 |_,_=>False
theorem lW.get{S S1:ae}:∀{vs ws:List V},lW S S1 vs ws→ws.length=vs.length∧∀(j:Nat) (v:V),ws[j]?=some v→∀x,vs[j]?=some x→jd S S1 x v
 |[],[],_=>⟨rfl,fun j v h=>by simp at h⟩
 |[],_::_,h=>h.elim
 |_::_,[],h=>h.elim
 |a::vs,b::ws,h=>by
  obtain⟨e,k⟩:=lW.get h.2;refine⟨by simp[e],fun j v hv x hx=>?_⟩;cases j with
  |zero=>simp only[dL,aa]at hv hx;subst hv;subst hx;exact h.1
  |succ j=>simp only[dM]at hv hx;exact k j v hv x hx
theorem jf{S S1:ae}{vs ws:List V}(h:lW S S1 vs ws):jd S S1 (.agg vs) (.agg ws):=.agg h.get.1 h.get.2
theorem fat{α:Type}{l:List α}{q:α→Bool}{k:Nat}{a:α}(h:l.find? q=(l.drop k).find? q)(ha:l[k]?=some a)(hq:q a=true):l.find? q=some a:=by
 rw[h,fV ha,List.find?_cons_of_pos hq]
theorem fnx{α:Type}{l:List α}{q:α→Bool}{k:Nat}{a:α}(h:l.find? q=(l.drop k).find? q)(ha:l[k]?=some a)(hq:q a=false):l.find? q=(l.drop (k+1)).find? q:=by
 rw[h,fV ha,List.find?_cons_of_neg (by simp[hq])]
theorem fen{α:Type}{l:List α}{q:α→Bool}{k:Nat}(h:l.find? q=(l.drop k).find? q)(ha:l[k]?=none):l.find? q=none:=by
 rw[h,bO (List.getElem?_eq_none_iff.1 ha)];rfl
def b9(t:gk)(tx:List (List V)):List V:=[.sl 9 (t.bE.map fK),.sl 15 (t.rules.map cx),.sl 3 (t.cS.map eP),.sl 7 tx]
def Ae(o:Option o9):V:=.dI [.agg (cx (o.getD j5)),.bool o.isSome]
def E5(o:Option Gj):V:=.dI [.agg (eP (o.getD lB)),.bool o.isSome]
theorem qy{n m:Nat}(h:n≤m){v:V}(hv:v.under n=true):v.under m=true:=by
 have:=V.mG h (r:=[v]) (by simp[V.bI,hv]);simpa[V.bI]using this
theorem qM{S L:ae}(h:jv S)(hl:∀o∈L,Ad (S.length+L.length) o):jv (S++L):=by
 rw[NF]at h⊢;intro o ho;rw[aH];rcases List.mem_append.1 ho with ho|ho
 ·have:=h o ho;unfold Ad at this⊢;split at this
  ·trivial
  ·exact fun r hr=>⟨(this r hr).1,V.mG (Nat.le_add_right _ _) (this r hr).2⟩
  ·refine⟨fun p hp=>?_,fun of p hp=>?_⟩
   ·obtain⟨a,b,c⟩:=this.1 p hp;exact⟨qy (Nat.le_add_right _ _) a,qy (Nat.le_add_right _ _) b,c⟩
   ·obtain⟨a,b⟩:=this.2 of p hp;exact⟨qy (Nat.le_add_right _ _) a,qy (Nat.le_add_right _ _) b⟩
 ·exact hl o ho
theorem Ck{S L T:ae}(h:jv (S++L)):mV (S++(L++T)) (S++L):=by rw[←bG];exact h.dO T
theorem zM(t:gk)(tx:List (List V))(hl:t.rules.length≤1000000)(n:Int)(S:ae):ak Tryz.prog 24 [.agg (b9 t tx),.int .i64 n] S fun r S'=>r=Ae (fm t n)∧S'=S:=by
 refine ak.bp Tryz.func24 Xo fun hn=>?_;refine ak.fin Tryz.func24 Xo (U rfl) fun σ b_=>?_;simp(disch:=first|omega|(simp only[ai];omega)) only[YK,b9,aj,↓eA,eB,aq,seval];have hnb:jv (S++[⟨0,some (.arr 85 15 [[.int .i64 0,.int .i64 0,.aM,.int .i64 0,.int .i64 0,.int .i64 0,.int .i64 0,.int .i64 0,.aM,.aM,.int .i64 0,.int .i64 0,.int .i64 0,.int .i64 0,.aM]])⟩]):=qM hn (by intro o ho;simp only[bM]at ho;subst ho;intro r hr;simp only[bM]at hr;subst hr;exact⟨rfl,rfl⟩);refine dm (ι:=Nat) (fun k=>[(1,.int .i64 n),(2,.bK (b9 t tx)),(4,.ptr S.length 0 0 0),(9,.sl 15 (t.rules.map cx)),(10,.int .i64 t.rules.length),(11,.int .i64 (k:Nat))]) (fun _=>S++[⟨0,some (.arr 85 15 [[.int .i64 0,.int .i64 0,.aM,.int .i64 0,.int .i64 0,.int .i64 0,.int .i64 0,.int .i64 0,.aM,.aM,.int .i64 0,.int .i64 0,.int .i64 0,.int .i64 0,.aM]])⟩]) (fun k=>k≤t.rules.length∧t.rules.find? (fun a=>decide (a.n=n))=(t.rules.drop k).find? (fun a=>decide (a.n=n))) (fun k=>t.rules.length-k) (fun i hi=>by rw[b_];simp) 0 ⟨az _,rfl⟩ (.inl ⟨?_,rfl⟩) ?_
 ·simp only[b9,↓eA,eB,aq,seval];try rfl
 rintro k ⟨hk,hinv⟩;cases hc:t.rules[k]? with
 |none=>
  have eh:t.rules.length≤k:=List.getElem?_eq_none_iff.1 hc;have aR:¬((k:Int)<t.rules.length):=by omega
  rw[show fm t n=none from fen hinv hc];simp(disch:=first|omega|(simp only[ai];omega)) only[b9,dF aR,aj,↓eA,eB,aq,seval];exact⟨.dI [.agg (cx j5),.bool false],S,hn.dO _,.jj (jf ⟨.bX rfl,.bX rfl,.nil,.bX rfl,.bX rfl,.bX rfl,.bX rfl,.bX rfl,.nil,.nil,.bX rfl,.bX rfl,.bX rfl,.bX rfl,.nil,trivial⟩) (.bX rfl),ah _,rfl,rfl⟩
 |some a=>
  have cK:=(List.getElem?_eq_some_iff.1 hc).1;have aR:(k:Int)<t.rules.length:=by omega
  have cN:(k:Int)+1=((k+1:Nat):Int):=by omega
  by_cases h:a.n=n
  ·have he:decide (a.n=n)=true:=by simp[h]
   rw[show fm t n=some a from fat hinv hc he];obtain⟨n0,⟨c1,c2,c3,c4,c5,c6⟩,cb,mn,mx,ch,rf,jb⟩:=a;simp only at h he;simp(disch:=first|omega|(simp only[ai];omega)) only[b9,cx,b8.row,hc,dT aR,he,aj,↓eA,eB,aq,seval];exact⟨_,S,hn.dO _,.bX rfl,ah _,rfl,rfl⟩
  ·have h0:=h;have Fy:=fnx hinv hc (by simp[h]);obtain⟨n0,⟨c1,c2,c3,c4,c5,c6⟩,cb,mn,mx,ch,rf,jb⟩:=a;simp only at h;simp(disch:=first|omega|(simp only[ai];omega)) only[b9,cx,b8.row,wrap_i64,cN,hc,dT aR,dF h,aj,↓eA,eB,aq,seval];exact⟨k+1,⟨by omega,Fy⟩,by omega,dt (Ck hnb) (by simp only[b9,↓eA,eB,aq,seval];try rfl) (by simp[V.under,V.bI,b9])⟩
theorem uv(t:gk)(tx:List (List V))(hl:t.rules.length≤1000000)(n:Int)(S:ae):ak Tryz.prog 81 [.agg (b9 t tx),.int .i64 n] S fun r S'=>r=Ae (fm t n)∧S'=S:=by
 refine ak.bp Tryz.func81 Xm fun hn=>?_;refine ak.fin Tryz.func81 Xm (U rfl) fun σ b_=>?_;simp(disch:=first|omega|(simp only[ai];omega)) only[YI,b9,aj,↓eA,eB,aq,seval];have hnb:jv (S++[⟨0,some (.arr 85 15 [[.int .i64 0,.int .i64 0,.aM,.int .i64 0,.int .i64 0,.int .i64 0,.int .i64 0,.int .i64 0,.aM,.aM,.int .i64 0,.int .i64 0,.int .i64 0,.int .i64 0,.aM]])⟩]):=qM hn (by intro o ho;simp only[bM]at ho;subst ho;intro r hr;simp only[bM]at hr;subst hr;exact⟨rfl,rfl⟩);refine dm (ι:=Nat) (fun k=>[(1,.int .i64 n),(2,.bK (b9 t tx)),(4,.ptr S.length 0 0 0),(6,.int .i64 (k:Nat))]) (fun _=>S++[⟨0,some (.arr 85 15 [[.int .i64 0,.int .i64 0,.aM,.int .i64 0,.int .i64 0,.int .i64 0,.int .i64 0,.int .i64 0,.aM,.aM,.int .i64 0,.int .i64 0,.int .i64 0,.int .i64 0,.aM]])⟩]) (fun k=>k≤t.rules.length∧t.rules.find? (fun a=>decide (a.n=n))=(t.rules.drop k).find? (fun a=>decide (a.n=n))) (fun k=>t.rules.length-k) (fun i hi=>by rw[b_];simp) 0 ⟨az _,rfl⟩ (.inl ⟨?_,rfl⟩) ?_
 ·simp only[b9,↓eA,eB,aq,seval];try rfl
 rintro k ⟨hk,hinv⟩;cases hc:t.rules[k]? with
 |none=>
  have eh:t.rules.length≤k:=List.getElem?_eq_none_iff.1 hc;have aR:¬((k:Int)<t.rules.length):=by omega
  rw[show fm t n=none from fen hinv hc];simp(disch:=first|omega|(simp only[ai];omega)) only[b9,dF aR,aj,↓eA,eB,aq,seval];exact⟨.dI [.agg (cx j5),.bool false],S,hn.dO _,.jj (jf ⟨.bX rfl,.bX rfl,.nil,.bX rfl,.bX rfl,.bX rfl,.bX rfl,.bX rfl,.nil,.nil,.bX rfl,.bX rfl,.bX rfl,.bX rfl,.nil,trivial⟩) (.bX rfl),ah _,rfl,rfl⟩
 |some a=>
  have cK:=(List.getElem?_eq_some_iff.1 hc).1;have aR:(k:Int)<t.rules.length:=by omega
  have cN:(k:Int)+1=((k+1:Nat):Int):=by omega
  by_cases h:a.n=n
  ·have he:decide (a.n=n)=true:=by simp[h]
   rw[show fm t n=some a from fat hinv hc he];obtain⟨n0,⟨c1,c2,c3,c4,c5,c6⟩,cb,mn,mx,ch,rf,jb⟩:=a;simp only at h he;simp(disch:=first|omega|(simp only[ai];omega)) only[b9,cx,b8.row,hc,dT aR,he,aj,↓eA,eB,aq,seval];exact⟨_,S,hn.dO _,.bX rfl,ah _,rfl,rfl⟩
  ·have h0:=h;have Fy:=fnx hinv hc (by simp[h]);obtain⟨n0,⟨c1,c2,c3,c4,c5,c6⟩,cb,mn,mx,ch,rf,jb⟩:=a;simp only at h;simp(disch:=first|omega|(simp only[ai];omega)) only[b9,cx,b8.row,wrap_i64,cN,hc,dT aR,dF h,aj,↓eA,eB,aq,seval];exact⟨k+1,⟨by omega,Fy⟩,by omega,.inl ⟨by simp only[b9,↓eA,eB,aq,seval];try rfl,rfl⟩⟩
theorem GP(t:gk)(tx:List (List V))(hl:t.cS.length≤1000000)(n:Int)(S:ae):ak Tryz.prog 28 [.agg (b9 t tx),.int .i64 n] S fun r S'=>r=E5 (gN t n)∧S'=S:=by
 refine ak.bp Tryz.func28 Xn fun hn=>?_;refine ak.fin Tryz.func28 Xn (U rfl) fun σ b_=>?_;simp(disch:=first|omega|(simp only[ai];omega)) only[YJ,b9,aj,↓eA,eB,aq,seval];have hnb:jv (S++[⟨0,some (.arr 95 3 [[.int .i64 0,.aM,.int .i64 0]])⟩]):=qM hn (by intro o ho;simp only[bM]at ho;subst ho;intro r hr;simp only[bM]at hr;subst hr;exact⟨rfl,rfl⟩);refine dm (ι:=Nat) (fun k=>[(1,.int .i64 n),(2,.bK (b9 t tx)),(4,.ptr S.length 0 0 0),(9,.sl 3 (t.cS.map eP)),(10,.int .i64 t.cS.length),(11,.int .i64 (k:Nat))]) (fun _=>S++[⟨0,some (.arr 95 3 [[.int .i64 0,.aM,.int .i64 0]])⟩]) (fun k=>k≤t.cS.length∧t.cS.find? (fun a=>decide (a.n=n))=(t.cS.drop k).find? (fun a=>decide (a.n=n))) (fun k=>t.cS.length-k) (fun i hi=>by rw[b_];simp) 0 ⟨az _,rfl⟩ (.inl ⟨?_,rfl⟩) ?_
 ·simp only[b9,↓eA,eB,aq,seval];try rfl
 rintro k ⟨hk,hinv⟩;cases hc:t.cS[k]? with
 |none=>
  have eh:t.cS.length≤k:=List.getElem?_eq_none_iff.1 hc;have aR:¬((k:Int)<t.cS.length):=by omega
  rw[show gN t n=none from fen hinv hc];simp(disch:=first|omega|(simp only[ai];omega)) only[b9,dF aR,aj,↓eA,eB,aq,seval];exact⟨.dI [.agg (eP lB),.bool false],S,hn.dO _,.jj (jf ⟨.bX rfl,.nil,.bX rfl,trivial⟩) (.bX rfl),ah _,rfl,rfl⟩
 |some a=>
  have cK:=(List.getElem?_eq_some_iff.1 hc).1;have aR:(k:Int)<t.cS.length:=by omega
  have cN:(k:Int)+1=((k+1:Nat):Int):=by omega
  by_cases h:a.n=n
  ·have he:decide (a.n=n)=true:=by simp[h]
   rw[show gN t n=some a from fat hinv hc he];obtain⟨n0,lk,mi⟩:=a;simp only at h he;simp(disch:=first|omega|(simp only[ai];omega)) only[b9,eP,hc,dT aR,he,aj,↓eA,eB,aq,seval];exact⟨_,S,hn.dO _,.bX rfl,ah _,rfl,rfl⟩
  ·have h0:=h;have Fy:=fnx hinv hc (by simp[h]);obtain⟨n0,lk,mi⟩:=a;simp only at h;simp(disch:=first|omega|(simp only[ai];omega)) only[b9,eP,wrap_i64,cN,hc,dT aR,dF h,aj,↓eA,eB,aq,seval];exact⟨k+1,⟨by omega,Fy⟩,by omega,dt (Ck hnb) (by simp only[b9,↓eA,eB,aq,seval];try rfl) (by simp[V.under,V.bI,b9])⟩
theorem zS(t:gk)(tx:List (List V))(hl:t.cS.length≤1000000)(n:Int)(S:ae):ak Tryz.prog 82 [.agg (b9 t tx),.int .i64 n] S fun r S'=>r=E5 (gN t n)∧S'=S:=by
 refine ak.bp Tryz.func82 Xl fun hn=>?_;refine ak.fin Tryz.func82 Xl (U rfl) fun σ b_=>?_;simp(disch:=first|omega|(simp only[ai];omega)) only[YH,b9,aj,↓eA,eB,aq,seval];have hnb:jv (S++[⟨0,some (.arr 95 3 [[.int .i64 0,.aM,.int .i64 0]])⟩]):=qM hn (by intro o ho;simp only[bM]at ho;subst ho;intro r hr;simp only[bM]at hr;subst hr;exact⟨rfl,rfl⟩);refine dm (ι:=Nat) (fun k=>[(1,.int .i64 n),(2,.bK (b9 t tx)),(4,.ptr S.length 0 0 0),(6,.int .i64 (k:Nat))]) (fun _=>S++[⟨0,some (.arr 95 3 [[.int .i64 0,.aM,.int .i64 0]])⟩]) (fun k=>k≤t.cS.length∧t.cS.find? (fun a=>decide (a.n=n))=(t.cS.drop k).find? (fun a=>decide (a.n=n))) (fun k=>t.cS.length-k) (fun i hi=>by rw[b_];simp) 0 ⟨az _,rfl⟩ (.inl ⟨?_,rfl⟩) ?_
 ·simp only[b9,↓eA,eB,aq,seval];try rfl
 rintro k ⟨hk,hinv⟩;cases hc:t.cS[k]? with
 |none=>
  have eh:t.cS.length≤k:=List.getElem?_eq_none_iff.1 hc;have aR:¬((k:Int)<t.cS.length):=by omega
  rw[show gN t n=none from fen hinv hc];simp(disch:=first|omega|(simp only[ai];omega)) only[b9,dF aR,aj,↓eA,eB,aq,seval];exact⟨.dI [.agg (eP lB),.bool false],S,hn.dO _,.jj (jf ⟨.bX rfl,.nil,.bX rfl,trivial⟩) (.bX rfl),ah _,rfl,rfl⟩
 |some a=>
  have cK:=(List.getElem?_eq_some_iff.1 hc).1;have aR:(k:Int)<t.cS.length:=by omega
  have cN:(k:Int)+1=((k+1:Nat):Int):=by omega
  by_cases h:a.n=n
  ·have he:decide (a.n=n)=true:=by simp[h]
   rw[show gN t n=some a from fat hinv hc he];obtain⟨n0,lk,mi⟩:=a;simp only at h he;simp(disch:=first|omega|(simp only[ai];omega)) only[b9,eP,hc,dT aR,he,aj,↓eA,eB,aq,seval];exact⟨_,S,hn.dO _,.bX rfl,ah _,rfl,rfl⟩
  ·have h0:=h;have Fy:=fnx hinv hc (by simp[h]);obtain⟨n0,lk,mi⟩:=a;simp only at h;simp(disch:=first|omega|(simp only[ai];omega)) only[b9,eP,wrap_i64,cN,hc,dT aR,dF h,aj,↓eA,eB,aq,seval];exact⟨k+1,⟨by omega,Fy⟩,by omega,.inl ⟨by simp only[b9,↓eA,eB,aq,seval];try rfl,rfl⟩⟩
end Go.Proofs.YtfgkgmmnldocaaaGreatDoor
namespace Go.Proofs.YtfgkgmmnldocaaaGreatDoor
open Go Go.AL
variable[Go.AL.Mode][Go.AL.bR]
theorem tg{ln:List (bS×bS)}{cs:List bS}{k:Nat}{a b:bS}(ha:cs[k]?=some a)(hb:cs[k+1]?=some b):je ln (cs.drop k)=(ln.contains (a,b)&&je ln (cs.drop (k+1))):=by
 rw[fV ha,fV hb,je]
theorem vN{ln:List (bS×bS)}{cs:List bS}{k:Nat}(h:¬k+1<cs.length):je ln (cs.drop k)=true:=by
 have:(cs.drop k).length≤1:=by rw[List.length_drop];omega
 match cs.drop k,this with
 |[],_=>rfl
 |[_],_=>rfl
theorem QW(r:Gj)(cs:List bS)(hc:cs.length≤1000)(S:ae):ak Tryz.prog 58 [.agg (eP r),.sl 1 (cs.map eW)] S fun v S'=>v= .bool (jg r cs)∧S'=S:=by
 refine ak.bW Tryz.func58 afD (U rfl) fun σ b_=>?_;obtain⟨n0,ln,mi⟩:=r;simp(disch:=first|omega|(simp only[ai];omega)) only[YU,eP,aj,↓eA,eB,aq,seval];cases ln with
 |nil=>exact⟨fun _=>rfl,fun h=>absurd rfl h⟩
 |cons q ln=>
 have he:jg ⟨n0,q::ln,mi⟩ cs=je (q::ln) cs:=by simp[jg]
 have h0:¬(((q::ln).length:Nat):Int)=0:=by simp only[a_];omega
 rw[he];generalize q::ln=ln at h0⊢;refine⟨fun h=>absurd h h0,fun _=>?_⟩;refine cH (ι:=Nat) (fun k=>[(1,.sl 1 (cs.map eW)),(2,.bK [.int .i64 n0,.sl 2 (ln.map ig),.int .i64 mi]),(5,.int .i64 ((k:Nat)+1))]) (fun _=>S) (fun k=>je ln (cs.drop k)=je ln cs∧k≤cs.length) (fun k=>cs.length-k) 0 ⟨rfl,az _⟩ ?_ rfl ?_
 ·simp only[Int.natCast_zero,km,↓eA,eB,aq,seval];try rfl
 rintro k ⟨gK,hk⟩;by_cases lP:k+1<cs.length
 ·have aR:(k:Int)+1<cs.length:=by omega
  have ha:cs[k]?=some cs[k]:=ax (by omega);have hb:cs[k+1]?=some cs[k+1]:=ax lP;generalize cs[k]=a at ha;generalize cs[k+1]=b at hb;rw[tg ha hb]at gK;have wb:(k:Int)+1=((k+1:Nat):Int):=by omega
  have qi:((k+1:Nat):Int)-1=(k:Int):=by omega
  have Fv:((k+1:Nat):Int)<cs.length:=by omega
  have hh:=aaZ ln (a,b) S;simp only[ig]at hh;simp(disch:=first|omega|(simp only[ai];omega)) only[wb,qi,dT Fv,ha,hb,eW,wrap_i64,aj,↓eA,eB,aq,seval];refine hh.then ?_
  generalize hq:ln.contains (a,b)=z at gK⊢;cases z with
  |false=>
   rw[aO]at gK;simp(disch:=first|omega|(simp only[ai];omega)) only[←gK,aj,↓eA,eB,aq,seval]
  |true=>
   rw[aX]at gK;simp(disch:=first|omega|(simp only[ai];omega)) only[wrap_i64,aj,↓eA,eB,aq,seval];exact⟨k+1,⟨gK,by omega⟩,by omega,by first|rfl|exact⟨rfl,rfl⟩|exact⟨rfl,rfl,rfl⟩⟩
 ·have aR:¬(k:Int)+1<cs.length:=by omega
  rw[vN lP]at gK;simp(disch:=first|omega|(simp only[ai];omega)) only[dF aR,←gK,aj,↓eA,eB,aq,seval]
theorem aao{α:Type}(q:α→Bool)(l:List α)(k:Nat):decide (nk q l k<0)=!l.any q:=by
 rw[←oP q l k,←decide_not]
 congr 1
 exact propext ⟨fun h=>by omega,fun h=>by omega⟩
theorem N4(l:List (bS×bS))(a b:bS)(S:ae):ak Tryz.prog 88 [.sl 2 (l.map ig),.str a,.str b] S fun r S'=>r= .int .i64 (nk (fun x=>decide (x.1=a)&&decide (x.2=b)) l 0)∧S'=S:=by
 refine lD (fun hm=>?_) ⟨Tryz.f88,Tryz.func88,by kernel_rfl,by kernel_rfl⟩;rw[aP]at hm;have Sv:=mx _ hm;refine ak.bW Tryz.func88 afB (U rfl) fun σ b_=>?_;simp(disch:=first|omega|(simp only[ai];omega)) only[YS,aj,↓eA,eB,aq,seval];refine cH (ι:=Nat) (fun k=>[(0,.sl 2 (l.map ig)),(1,.str a),(2,.str b),(7,.int .i64 (k:Nat))]) (fun _=>S) (fun k=>k≤l.length∧nk (fun x=>decide (x.1=a)&&decide (x.2=b)) l 0=nk (fun x=>decide (x.1=a)&&decide (x.2=b)) (l.drop k) k) (fun k=>l.length-k) 0 ⟨az _,rfl⟩ ?_ rfl ?_
 ·simp only[↓eA,eB,aq,seval];try rfl
 rintro k ⟨hk,he⟩;cases hc:l[k]? with
 |none=>
  have eh:l.length≤k:=List.getElem?_eq_none_iff.1 hc;have aR:¬((k:Int)<l.length):=by omega
  rw[bO eh]at he;simp(disch:=first|omega|(simp only[ai];omega)) only[dF aR,he,nk,aj,↓eA,eB,aq,seval]
 |some y=>
  have cK:=(List.getElem?_eq_some_iff.1 hc).1;have aR:(k:Int)<l.length:=by omega
  have cN:(k:Int)+1=((k+1:Nat):Int):=by omega
  rw[fV hc,nk]at he;cases h1:decide (y.1=a)<;>cases h2:decide (y.2=b)<;>rw[h1,h2]at he<;>simp(disch:=first|omega|(simp only[ai];omega)) only[dT aR,h1,h2,hc,ig,wrap_i64,cN,aj,↓eA,eB,aq,seval]
  ·exact⟨k+1,⟨by omega,by simpa using he⟩,by omega,by first|rfl|exact⟨rfl,rfl⟩⟩
  ·exact⟨k+1,⟨by omega,by simpa using he⟩,by omega,by first|rfl|exact⟨rfl,rfl⟩⟩
  ·exact⟨k+1,⟨by omega,by simpa using he⟩,by omega,by first|rfl|exact⟨rfl,rfl⟩⟩
  ·exact(by simpa using he.symm)
theorem QR(l:List (bS×bS))(a b:bS):(l.any fun x=>decide (x.1=a)&&decide (x.2=b))=l.contains (a,b):=by
 rw[fR,ib,List.contains_iff_mem];simp only[aW,aL];constructor
 ·rintro⟨x,h1,rfl,rfl⟩;exact h1
 ·exact fun h=>⟨(a,b),h,rfl,rfl⟩
theorem J4(r:Gj)(cs:List bS)(hc:cs.length≤1000)(S:ae):ak Tryz.prog 178 [.agg (eP r),.sl 1 (cs.map eW)] S fun v S'=>v= .bool (jg r cs)∧S'=S:=by
 refine ak.bW Tryz.func178 afC (U rfl) fun σ b_=>?_;obtain⟨n0,ln,mi⟩:=r;simp(disch:=first|omega|(simp only[ai];omega)) only[YT,eP,aj,↓eA,eB,aq,seval];by_cases h0:(0:Int)<(ln.length:Nat)
 case' neg=>
  have hz:ln=[]:=by cases ln with
   |nil=>rfl
   |cons x y=>simp only[a_]at h0;omega
  have hr:jg ⟨n0,ln,mi⟩ cs=true:=by rw[hz];rfl
  rw[hr]
 case' pos=>
  have he:jg ⟨n0,ln,mi⟩ cs=je ln cs:=by
   cases ln with
   |nil=>simp at h0
   |cons x y=>simp[jg]
  rw[he]
 case neg=>
  refine cH (ι:=Unit) (fun k=>[(1,.sl 1 (cs.map eW)),(2,.bK [.int .i64 n0,.sl 2 (ln.map ig),.int .i64 mi]),(5,.int .i64 1)]) (fun _=>S) (fun k=>True) (fun k=>0) () trivial ?_ rfl ?_
  ·simp only[↓eA,eB,aq,seval];try rfl
  rintro _ _;by_cases h1:(1:Int)<cs.length
  ·simp(disch:=first|omega|(simp only[ai];omega)) only[dT h1,dF h0,aj,↓eA,eB,aq,seval]
  ·simp(disch:=first|omega|(simp only[ai];omega)) only[dF h1,aj,↓eA,eB,aq,seval]
 refine cH (ι:=Nat) (fun k=>[(1,.sl 1 (cs.map eW)),(2,.bK [.int .i64 n0,.sl 2 (ln.map ig),.int .i64 mi]),(5,.int .i64 ((k:Nat)+1))]) (fun _=>S) (fun k=>je ln (cs.drop k)=je ln cs∧k≤cs.length) (fun k=>cs.length-k) 0 ⟨rfl,az _⟩ ?_ rfl ?_
 ·simp only[Int.natCast_zero,km,↓eA,eB,aq,seval];try rfl
 rintro k ⟨gK,hk⟩;by_cases lP:k+1<cs.length
 ·have aR:(k:Int)+1<cs.length:=by omega
  have ha:cs[k]?=some cs[k]:=ax (by omega);have hb:cs[k+1]?=some cs[k+1]:=ax lP;generalize cs[k]=a at ha;generalize cs[k+1]=b at hb;rw[tg ha hb]at gK;have wb:(k:Int)+1=((k+1:Nat):Int):=by omega
  have qi:((k+1:Nat):Int)-1=(k:Int):=by omega
  have Fv:((k+1:Nat):Int)<cs.length:=by omega
  simp(disch:=first|omega|(simp only[ai];omega)) only[wb,qi,dT Fv,dT h0,ha,hb,eW,wrap_i64,aj,↓eA,eB,aq,seval];refine(N4 ln a b S).then ?_
  rw[←QR]at gK;simp(disch:=first|omega|(simp only[ai];omega)) only[aao,aj,↓eA,eB,aq,seval];generalize hq:(ln.any fun x=>decide (x.1=a)&&decide (x.2=b))=z at gK⊢;cases z with
  |false=>
   rw[aO]at gK;simp(disch:=first|omega|(simp only[ai];omega)) only[←gK,aj,↓eA,eB,aq,seval]
  |true=>
   rw[aX]at gK;simp(disch:=first|omega|(simp only[ai];omega)) only[wrap_i64,aj,↓eA,eB,aq,seval];exact⟨k+1,⟨gK,by omega⟩,by omega,by first|rfl|exact⟨rfl,rfl⟩|exact⟨rfl,rfl,rfl⟩⟩
 ·have aR:¬(k:Int)+1<cs.length:=by omega
  rw[vN lP]at gK;simp(disch:=first|omega|(simp only[ai];omega)) only[dF aR,←gK,aj,↓eA,eB,aq,seval]
theorem adn(r:o9)(hp:∀q∈r.jb,0≤q.2∧q.2≤1000)(ty:bS)(am:Int)(S:ae):ak Tryz.prog 31 [.agg (cx r),.str ty,.int .i64 am] S fun v S'=>v= .dI [.int .i64 (vu r ty am).1,.int .i64 (vu r ty am).2]∧S'=S:=by
 obtain⟨n0,⟨c1,c2,c3,c4,c5,c6⟩,cb,mn,m2,ch,rf,jb⟩:=r;simp only at hp;refine pH (j:=14) (sz:=2) (rows:=jb.map mK) rfl (fun hm=>?_) ⟨Tryz.f31,Tryz.func31,by kernel_rfl,by kernel_rfl⟩;rw[aP]at hm;have Sv:=mx _ hm;refine ak.bp Tryz.func31 Xt fun hn=>?_;refine ak.fin Tryz.func31 Xt (U rfl) fun σ b_=>?_;simp(disch:=first|omega|(simp only[ai];omega)) only[YQ,cx,b8.row,aj,↓eA,eB,aq,seval];refine dm (ι:=Nat) (fun k=>[(1,.str ty),(2,.int .i64 am),(11,.sl 2 (jb.map mK)),(12,.int .i64 jb.length),(13,.int .i64 (k:Nat))]) (fun _=>S) (fun k=>k≤jb.length∧jb.find? (fun q=>decide (q.1=ty))=(jb.drop k).find? (fun q=>decide (q.1=ty))) (fun k=>jb.length-k) (fun i hi=>by rw[b_];exact ah _) 0 ⟨az _,rfl⟩ (.inl ⟨?_,rfl⟩) ?_
 ·simp only[cx,b8.row,↓eA,eB,aq,seval];try rfl
 rintro k ⟨hk,hinv⟩;cases hc:jb[k]? with
 |none=>
  have eh:jb.length≤k:=List.getElem?_eq_none_iff.1 hc;have aR:¬((k:Int)<jb.length):=by omega
  have hf:=fen hinv hc;have pc:=Ml.pq am 10000 S (by omega);simp(disch:=first|omega|(simp only[ai];omega)) only[dF aR,cx,b8.row,aj,↓eA,eB,aq,seval];refine pc.then ?_
  simp(disch:=first|omega|(simp only[ai];omega)) only[aj,↓eA,eB,aq,seval];exact⟨_,S,hn.self,.bX rfl,ah _,by simp only[vu,hf],rfl⟩
 |some a=>
  have cK:=(List.getElem?_eq_some_iff.1 hc).1;have aR:(k:Int)<jb.length:=by omega
  have cN:(k:Int)+1=((k+1:Nat):Int):=by omega
  obtain⟨n_,nB⟩:=hp a (aB hc);by_cases h:a.1=ty
  ·have hf:=fat hinv hc (by simp[h]);have h4:100*a.2=(((100*a.2).toNat:Nat):Int):=by omega
   have pc:=fun S=>Ml.pq am (100*a.2).toNat S (by omega);rw[←h4]at pc;simp(disch:=first|omega|(simp only[ai];omega)) only[dT aR,hc,dT h,mK,cx,b8.row,wrap_i64,aj,↓eA,eB,aq,seval];refine(pc _).then ?_
   simp(disch:=first|omega|(simp only[ai];omega)) only[aj,↓eA,eB,aq,seval];exact⟨_,S,hn.dO _,.bX rfl,ah _,by simp only[vu,hf],rfl⟩
  ·have Fy:=fnx hinv hc (by simp[h]);simp(disch:=first|omega|(simp only[ai];omega)) only[dT aR,hc,dF h,mK,cx,b8.row,wrap_i64,cN,aj,↓eA,eB,aq,seval];exact⟨k+1,⟨by omega,Fy⟩,by omega,dt (hn.dO _) (by simp only[↓eA,eB,aq,seval];try rfl) (by simp[V.under,V.bI])⟩
theorem ZT(r:o9)(hp:∀q∈r.jb,0≤q.2∧q.2≤1000)(ty:bS)(am:Int)(S:ae):ak Tryz.prog 175 [.agg (cx r),.str ty,.int .i64 am] S fun v S'=>v= .dI [.int .i64 (vu r ty am).1,.int .i64 (vu r ty am).2]∧S'=S:=by
 obtain⟨n0,⟨c1,c2,c3,c4,c5,c6⟩,cb,mn,m2,ch,rf,jb⟩:=r;simp only at hp;refine pH (j:=14) (sz:=2) (rows:=jb.map mK) rfl (fun hm=>?_) ⟨Tryz.f175,Tryz.func175,by kernel_rfl,by kernel_rfl⟩;rw[aP]at hm;have Sv:=mx _ hm;refine ak.bp Tryz.func175 Xs fun hn=>?_;refine ak.fin Tryz.func175 Xs (U rfl) fun σ b_=>?_;simp(disch:=first|omega|(simp only[ai];omega)) only[YO,cx,b8.row,aj,↓eA,eB,aq,seval];refine dm (ι:=Nat) (fun k=>[(1,.str ty),(2,.int .i64 am),(3,.bK (cx ⟨n0,.mk c1 c2 c3 c4 c5 c6,cb,mn,m2,ch,rf,jb⟩)),(8,.int .i64 (k:Nat))]) (fun _=>S) (fun k=>k≤jb.length∧jb.find? (fun q=>decide (q.1=ty))=(jb.drop k).find? (fun q=>decide (q.1=ty))) (fun k=>jb.length-k) (fun i hi=>by rw[b_];exact ah _) 0 ⟨az _,rfl⟩ (.inl ⟨?_,rfl⟩) ?_
 ·simp only[cx,b8.row,↓eA,eB,aq,seval];try rfl
 rintro k ⟨hk,hinv⟩;cases hc:jb[k]? with
 |none=>
  have eh:jb.length≤k:=List.getElem?_eq_none_iff.1 hc;have aR:¬((k:Int)<jb.length):=by omega
  have hf:=fen hinv hc;have pc:=Ml.k_ am 10000 S (by omega);simp(disch:=first|omega|(simp only[ai];omega)) only[dF aR,cx,b8.row,aj,↓eA,eB,aq,seval];refine pc.then ?_
  simp(disch:=first|omega|(simp only[ai];omega)) only[aj,↓eA,eB,aq,seval];exact⟨_,S,hn.self,.bX rfl,ah _,by simp only[vu,hf],rfl⟩
 |some a=>
  have cK:=(List.getElem?_eq_some_iff.1 hc).1;have aR:(k:Int)<jb.length:=by omega
  have cN:(k:Int)+1=((k+1:Nat):Int):=by omega
  obtain⟨n_,nB⟩:=hp a (aB hc);by_cases h:a.1=ty
  ·have hf:=fat hinv hc (by simp[h]);have h4:100*a.2=(((100*a.2).toNat:Nat):Int):=by omega
   have pc:=fun S=>Ml.k_ am (100*a.2).toNat S (by omega);rw[←h4]at pc;simp(disch:=first|omega|(simp only[ai];omega)) only[dT aR,hc,dT h,mK,cx,b8.row,wrap_i64,aj,↓eA,eB,aq,seval];refine(pc _).then ?_
   simp(disch:=first|omega|(simp only[ai];omega)) only[aj,↓eA,eB,aq,seval];exact⟨_,S,hn.self,.bX rfl,ah _,by simp only[vu,hf],rfl⟩
  ·have Fy:=fnx hinv hc (by simp[h]);simp(disch:=first|omega|(simp only[ai];omega)) only[dT aR,hc,dF h,mK,cx,b8.row,wrap_i64,cN,aj,↓eA,eB,aq,seval];exact⟨k+1,⟨by omega,Fy⟩,by omega,.inl ⟨by simp only[cx,b8.row,↓eA,eB,aq,seval];try rfl,rfl⟩⟩
theorem QU(tx:List bS)(s:bS)(S:ae):ak Tryz.prog 137 [.str s,.bK [.sl 1 (tx.map eW)]] S fun v S'=>v= .bool (!tx.contains s)∧S'=S:=by
 refine ak.bW Tryz.func137 afs (U rfl) fun σ b_=>?_;simp(disch:=first|omega|(simp only[ai];omega)) only[YA,aj,↓eA,eB,aq,seval];refine(FD tx s S).then ?_
 simp(disch:=first|omega|(simp only[ai];omega)) only[aj,↓eA,eB,aq,seval]
theorem Jb(l tx:List bS)(S:ae):ak Tryz.prog 100 [.sl 1 (l.map eW),.sl 1 (tx.map eW)] S fun v S'=>v= .bool (l.all fun s=>tx.contains s)∧S'=S:=by
 refine ak.bW Tryz.func100 aft (U rfl) fun σ b_=>?_;simp(disch:=first|omega|(simp only[ai];omega)) only[YB,aj,↓eA,eB,aq,seval];refine(ab8 l (fun s=>!tx.contains s) _ _ S fun x _=>QU tx x S).then ?_
 simp(disch:=first|omega|(simp only[ai];omega)) only[List.not_any_eq_all_not,Bool.not_not,aj,↓eA,eB,aq,seval]
theorem q9(l:List bS)(s:bS)(S:ae):ak Tryz.prog 209 [.sl 1 (l.map eW),.str s] S fun v S'=>v= .bool (l.contains s)∧S'=S:=by
 refine lD (fun hm=>?_) ⟨Tryz.f209,Tryz.func209,by kernel_rfl,by kernel_rfl⟩;rw[aP]at hm;have Sv:=mx _ hm;refine ak.bW Tryz.func209 afo (U rfl) fun σ b_=>?_;simp(disch:=first|omega|(simp only[ai];omega)) only[Yw,aj,↓eA,eB,aq,seval];refine cH (ι:=Nat) (fun k=>[(0,.sl 1 (l.map eW)),(1,.str s),(5,.int .i64 (k:Nat))]) (fun _=>S) (fun k=>k≤l.length∧l.contains s=(l.drop k).contains s) (fun k=>l.length-k) 0 ⟨az _,rfl⟩ ?_ rfl ?_
 ·simp only[↓eA,eB,aq,seval];try rfl
 rintro k ⟨hk,he⟩;cases hc:l[k]? with
 |none=>
  have eh:l.length≤k:=List.getElem?_eq_none_iff.1 hc;have aR:¬((k:Int)<l.length):=by omega
  rw[bO eh]at he;simp(disch:=first|omega|(simp only[ai];omega)) only[dF aR,he,List.contains_nil,aj,↓eA,eB,aq,seval]
 |some y=>
  have cK:=(List.getElem?_eq_some_iff.1 hc).1;have aR:(k:Int)<l.length:=by omega
  have cN:(k:Int)+1=((k+1:Nat):Int):=by omega
  rw[fV hc,List.contains_cons]at he;by_cases h:y=s
  ·have hb:(s==y)=true:=by simp[h]
   rw[hb,eS]at he;simp(disch:=first|omega|(simp only[ai];omega)) only[dT aR,hc,dT h,he,eW,aj,↓eA,eB,aq,seval]
  ·have hb:(s==y)=false:=by rw[beq_eq_false_iff_ne];exact fun e=>h e.symm
   rw[hb,cQ]at he;simp(disch:=first|omega|(simp only[ai];omega)) only[dT aR,hc,dF h,eW,wrap_i64,cN,aj,↓eA,eB,aq,seval];exact⟨k+1,⟨by omega,he⟩,by omega,by first|rfl|exact⟨rfl,rfl⟩⟩
theorem Bl(l tx:List bS)(S:ae):ak Tryz.prog 224 [.sl 1 (l.map eW),.sl 1 (tx.map eW)] S fun v S'=>v= .bool (l.all fun s=>tx.contains s)∧S'=S:=by
 refine lD (fun hm=>?_) ⟨Tryz.f224,Tryz.func224,by kernel_rfl,by kernel_rfl⟩;rw[aP]at hm;have Sv:=mx _ hm;refine ak.bW Tryz.func224 afq (U rfl) fun σ b_=>?_;simp(disch:=first|omega|(simp only[ai];omega)) only[Yy,aj,↓eA,eB,aq,seval];refine cH (ι:=Nat) (fun k=>[(0,.sl 1 (l.map eW)),(1,.sl 1 (tx.map eW)),(5,.int .i64 (k:Nat))]) (fun _=>S) (fun k=>k≤l.length∧(l.all fun s=>tx.contains s)=((l.drop k).all fun s=>tx.contains s)) (fun k=>l.length-k) 0 ⟨az _,rfl⟩ ?_ rfl ?_
 ·simp only[↓eA,eB,aq,seval];try rfl
 rintro k ⟨hk,he⟩;cases hc:l[k]? with
 |none=>
  have eh:l.length≤k:=List.getElem?_eq_none_iff.1 hc;have aR:¬((k:Int)<l.length):=by omega
  rw[bO eh]at he;simp(disch:=first|omega|(simp only[ai];omega)) only[dF aR,he,gx,aj,↓eA,eB,aq,seval]
 |some y=>
  have cK:=(List.getElem?_eq_some_iff.1 hc).1;have aR:(k:Int)<l.length:=by omega
  have cN:(k:Int)+1=((k+1:Nat):Int):=by omega
  rw[fV hc,gr]at he;simp(disch:=first|omega|(simp only[ai];omega)) only[dT aR,hc,eW,aj,↓eA,eB,aq,seval];refine(q9 tx y S).then ?_
  generalize tx.contains y=z at he⊢;cases z with
  |false=>
   rw[aO]at he;simp(disch:=first|omega|(simp only[ai];omega)) only[he,aj,↓eA,eB,aq,seval]
  |true=>
   rw[aX]at he;simp(disch:=first|omega|(simp only[ai];omega)) only[wrap_i64,cN,aj,↓eA,eB,aq,seval];exact⟨k+1,⟨by omega,he⟩,by omega,by first|rfl|exact⟨rfl,rfl⟩⟩
theorem aah(c:b8)(a b:Int)(p:Pd)(tx:List bS)(k:Int)(l:List b8)(n:Int)(S:ae):ak Tryz.prog 102 [.int .i64 n,.bK (b8.mk k l a b p tx).row] S fun v S'=>v= .bool (!(decide (a≤n)&&decide (n≤b)))∧S'=S:=by
 refine ak.bW Tryz.func102 afu (U rfl) fun σ b_=>?_;by_cases h1:n<a
 ·have h2:¬a≤n:=by omega
  simp(disch:=first|omega|(simp only[ai];omega)) only[Jj,b8.row,dT h1,dF h2,aO,eH,aj,↓eA,eB,aq,seval]
 ·have h2:a≤n:=by omega
  by_cases h3:b<n
  ·have h4:¬n≤b:=by omega
   simp(disch:=first|omega|(simp only[ai];omega)) only[Jj,b8.row,dF h1,dT h2,dT h3,dF h4,cV,eH,aj,↓eA,eB,aq,seval]
  ·have h4:n≤b:=by omega
   simp(disch:=first|omega|(simp only[ai];omega)) only[Jj,b8.row,dF h1,dT h2,dF h3,dT h4,dC,aj,↓eA,eB,aq,seval]
theorem K7(l:List Int)(a b:Int)(S:ae):ak Tryz.prog 225 [.sl 1 (l.map iu),.int .i64 a,.int .i64 b] S fun v S'=>v= .bool (l.all fun n=>decide (a≤n)&&decide (n≤b))∧S'=S:=by
 refine lD (fun hm=>?_) ⟨Tryz.f225,Tryz.func225,by kernel_rfl,by kernel_rfl⟩;rw[aP]at hm;have Sv:=mx _ hm;refine ak.bW Tryz.func225 afp (U rfl) fun σ b_=>?_;simp(disch:=first|omega|(simp only[ai];omega)) only[Yx,aj,↓eA,eB,aq,seval];refine cH (ι:=Nat) (fun k=>[(0,.sl 1 (l.map iu)),(1,.int .i64 a),(2,.int .i64 b),(7,.int .i64 (k:Nat))]) (fun _=>S) (fun k=>k≤l.length∧(l.all fun n=>decide (a≤n)&&decide (n≤b))=((l.drop k).all fun n=>decide (a≤n)&&decide (n≤b))) (fun k=>l.length-k) 0 ⟨az _,rfl⟩ ?_ rfl ?_
 ·simp only[↓eA,eB,aq,seval];try rfl
 rintro k ⟨hk,he⟩;cases hc:l[k]? with
 |none=>
  have eh:l.length≤k:=List.getElem?_eq_none_iff.1 hc;have aR:¬((k:Int)<l.length):=by omega
  rw[bO eh]at he;simp(disch:=first|omega|(simp only[ai];omega)) only[dF aR,he,gx,aj,↓eA,eB,aq,seval]
 |some y=>
  have cK:=(List.getElem?_eq_some_iff.1 hc).1;have aR:(k:Int)<l.length:=by omega
  have cN:(k:Int)+1=((k+1:Nat):Int):=by omega
  rw[fV hc,gr]at he;by_cases h1:y<a
  ·have h2:¬a≤y:=by omega
   rw[dF h2,aO,aO]at he;simp(disch:=first|omega|(simp only[ai];omega)) only[dT aR,hc,dT h1,he,iu,aj,↓eA,eB,aq,seval]
  ·have h2:a≤y:=by omega
   by_cases h3:b<y
   ·have h4:¬y≤b:=by omega
    rw[dF h4,cV,aO]at he;simp(disch:=first|omega|(simp only[ai];omega)) only[dT aR,hc,dF h1,dT h3,he,iu,aj,↓eA,eB,aq,seval]
   ·have h4:y≤b:=by omega
    rw[dT h2,dT h4,aX,aX]at he;simp(disch:=first|omega|(simp only[ai];omega)) only[dT aR,hc,dF h1,dF h3,iu,wrap_i64,cN,aj,↓eA,eB,aq,seval];exact⟨k+1,⟨by omega,he⟩,by omega,by first|rfl|exact⟨rfl,rfl⟩⟩
end Go.Proofs.YtfgkgmmnldocaaaGreatDoor
