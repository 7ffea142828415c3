/- AlI -/
import Derived.Test.YtfgkgmmnldocaaaGreatDoorZAl4
import Derived.Lib.Builder
import Derived.Lib.UnsafeStr
import Derived.Lib.ConvBytes
import Derived.Laws.AppendOwn
set_option linter.unusedSectionVars false
set_option linter.unusedSimpArgs false
set_option linter.unusedVariables false
namespace Go.AL
variable[Mode]
section
variable{P:Program}{o:Oper}{a:Act}{ρ:Place}{S:ae}{w:World}{e:Nat→V}{v:V}{ao:jD}
theorem Kj{t:TypeId}{s db row:Nat}(hs:P.cellsOf t=s)(h0:s≠0)(hr:row<db):liesAt P P.depth t db (row*s) t 1=true:=by
 have hd:P.depth=(2*(P.types.size+Made.depth)+1)+1:=rfl;have hl:sameLayout P P.depth t t=true:=by rw[hd];simp[sameLayout]
 rw[hd,liesAt];have:rowAt P (fun x=>sameLayout P P.depth x t) P.depth t db (row*s) 1=true:=by
  generalize hf:(fun x=>sameLayout P P.depth x t)=f;have hft:f t=true:=by rw[←hf];exact hl
  rw[hd,rowAt];simp only[hs,aC h0];have h1:row*s/s=row:=Nat.mul_div_cancel _ (Nat.pos_of_ne_zero h0);have h2:row*s%s=0:=Nat.mul_mod_left _ _;rw[h1,h2];simp[hft,Nat.succ_le_of_lt hr]
 rw[this,eS]
theorem ks{id aI sz g db:Nat}{t:TypeId}{rows:List (List V)}(hi:Inv ρ S w)(hs:S.bq id aI=some (t,sz,rows))(hg:ρ id=some (g,db)):
 ∃cur,w.heap[g]?=some (.cells cur t (0,0))∧cur.size=db*sz∧rows.length≤db∧db≤maxLen∧(∀(i:Nat) (r:List V),rows[i]?=some r→r.length=sz)∧∀(i:Nat) (r:List V),rows[i]?=some r→∀(j:Nat) (v:V),r[j]?=some v→∃u,cur[i*sz+j]?=some u∧VR ρ S w false v u∧u.oneCell'=true:=by
 obtain⟨h1,h2⟩:=hi.rows id aI t sz rows (df hs);rcases h2 with⟨h2,_⟩|⟨g',eU,cur,a,b,c,d,f,k⟩
 ·rw[hg]at h2;cases h2
 ·rw[hg]at a;cases a;exact⟨cur,d,f,b,c,h1,k⟩
theorem xV{neg:Bool}{op:BinOp}{t t' u:TypeId}{j:TypeInfo}{x y:Operand}{x' y':cJ}(np:op=(if neg then .neq else .eql))(ho:o.op= .binOp op t x y t')(ht:P.underlying t=some (.pointer u))(hu:P.info? u=some j)(hG:j.size≠0)
 (he:cr ρ S w e a)(hi:Inv ρ S w)(hx:dp x=some x')(hy:dp y=some y')(h:cu e S (.xo (.eqP neg) [x',y'])=some v):Yields P o a ρ S w v:=by
 have h1:=bw he hx;have h2:=bw he hy;simp only[cu,iy,bd,bY,hU,Dq]at h;split at h
 ·rename_i id aI row off Ks gS xd xi e1 e2;split at h
  ·rename_i hc;obtain⟨rfl,rfl,rfl,rfl,OH⟩:=hc;simp only[aa]at h;subst h;obtain⟨⟨t0,sz,rows⟩,hs⟩:=Option.isSome_iff_exists.1 OH;rw[e1]at h1;rw[e2]at h2;obtain⟨g,db,p1,p2⟩:=h1.fU hs;obtain⟨g',eU,q1,q2⟩:=h2.fU hs;rw[p1]at q1;cases q1;have hg:∀op w,(eqGuard op t x y (.pointer (some ⟨g,row*sz+off,none⟩)) (.pointer (some ⟨g,row*sz+off,none⟩))).run P w= .ok () w:=by
    intro op w;unfold eqGuard;cases op<;>rfl
   have hn:=Lib.run_neq_ptr_same (P:=P) w (⟨g,row*sz+off,none⟩:Addr) ht hu;have aaQ:(binOp .eql t (.pointer (some ⟨g,row*sz+off,none⟩)) (.pointer (some ⟨g,row*sz+off,none⟩))).run P w= .ok (.bool true) w:=by
    have h:∀d:Nat,(Op.equalIn (d+1) t (.pointer (some ⟨g,row*sz+off,none⟩)) (.pointer (some ⟨g,row*sz+off,none⟩))).run P w= .ok true w:=fun d=>by
     simp[Op.equalIn,run_underlying ht,sizeOf,typeInfo,hu,run_sameAddr_same]
    simp only[binOp];simp[Op.equal,Op.maxDepth,h 9999]
   refine Yields.same hi (u:=.bool (!neg)) ?_ .bool;cases neg
   ·simp only[aV,aZ]at np;subst np;simp[execOp,ho,p2,q2,hg,aaQ]
   ·simp only[aQ]at np;subst np;simp[execOp,ho,p2,q2,hg,hn]
  ·rename_i hnc;split at h
   ·rename_i hc;obtain⟨eY,OH,aay⟩:=hc;simp only[aa]at h;subst h;obtain⟨⟨t0,sz,rows⟩,hs⟩:=Option.isSome_iff_exists.1 OH;obtain⟨⟨t1,ZH,cW⟩,tu⟩:=Option.isSome_iff_exists.1 aay;rw[e1]at h1;rw[e2]at h2;obtain⟨g,db,p1,p2⟩:=h1.fU hs;obtain⟨g',eU,q1,q2⟩:=h2.fU tu;have hgg:g≠g':=fun e=>eY (hi.inj id Ks _ _ _ _ g db eU (df hs) (df tu) rfl rfl p1 (by rw[e];exact q1));have hb:∃cur,w.heap[g]?=some (.cells cur t0 (0,0)):=by
     rcases(hi.rows id aI t0 sz rows (df hs)).2 with⟨z,_⟩|⟨g1,ahe,cur,z,_,_,hh,_⟩
     ·rw[z]at p1;cases p1
     ·rw[z]at p1;cases p1;exact⟨cur,hh⟩
    have O':∃cur,w.heap[g']?=some (.cells cur t1 (0,0)):=by
     rcases(hi.rows Ks gS t1 ZH cW (df tu)).2 with⟨z,_⟩|⟨g1,ahe,cur,z,_,_,hh,_⟩
     ·rw[z]at q1;cases q1
     ·rw[z]at q1;cases q1;exact⟨cur,hh⟩
    obtain⟨cur,hb⟩:=hb;obtain⟨kI,O'⟩:=O';have hg:∀op w,(eqGuard op t x y (.pointer (some ⟨g,row*sz+off,none⟩)) (.pointer (some ⟨g',xd*ZH+xi,none⟩))).run P w= .ok () w:=by
     intro op w;unfold eqGuard;cases op<;>rfl
    have Iv:(⟨g,row*sz+off,none⟩:Addr)≠⟨g',xd*ZH+xi,none⟩:=fun e=>hgg (by injection e);have heq:∀d:Nat,(Op.equalIn (d+1) t (.pointer (some ⟨g,row*sz+off,none⟩)) (.pointer (some ⟨g',xd*ZH+xi,none⟩))).run P w= .ok false w:=fun d=>by
     simp[Op.equalIn,run_underlying ht,sizeOf,typeInfo,hu,hG,run_sameAddr_other w Iv hb O']
    have hq:(Op.equal t (.pointer (some ⟨g,row*sz+off,none⟩)) (.pointer (some ⟨g',xd*ZH+xi,none⟩))).run P w= .ok false w:=by
     simp[Op.equal,Op.maxDepth,heq 9999]
    have aaQ:(binOp .eql t (.pointer (some ⟨g,row*sz+off,none⟩)) (.pointer (some ⟨g',xd*ZH+xi,none⟩))).run P w= .ok (.bool false) w:=by
     simp only[binOp];simp[hq]
    have ain:(binOp .neq t (.pointer (some ⟨g,row*sz+off,none⟩)) (.pointer (some ⟨g',xd*ZH+xi,none⟩))).run P w= .ok (.bool true) w:=by
     simp only[binOp];simp[hq]
    refine Yields.same hi (u:=.bool neg) ?_ .bool;cases neg
    ·simp only[aV,aZ]at np;subst np;simp[execOp,ho,p2,q2,hg,aaQ]
    ·simp only[aQ]at np;subst np;simp[execOp,ho,p2,q2,hg,ain]
   ·cases h
 ·cases h
theorem JB{src dst t:TypeId}{j:TypeInfo}{x:Operand}{x':cJ}(ho:o.op= .convert src dst x)(hs:P.underlying src=some (.pointer t))(hd:P.underlying dst=some .unsafePointer)(ht:P.info? t=some j)(hj:j.size≠0)
 (he:cr ρ S w e a)(hi:Inv ρ S w)(hx:dp x=some x')(h:cu e S (.xo .toU [x'])=some v):Yields P o a ρ S w v:=by
 have h1:=bw he hx;simp only[cu,iy,bd,bY,hU,Jw]at h;split at h
 ·rename_i id aI row off e1;rw[e1]at h1;split at h
  ·rename_i t0 sz rows nA;split at h
   ·rename_i hc;simp only[aa]at h;subst h;obtain⟨g,db,p1,p2⟩:=h1.fU nA;obtain⟨cur,b1,b2,b3,_⟩:=ks hi nA p1;rw[p2]at h1;refine Yields.same hi (u:=.pointer (some ⟨g,row*sz+off,none⟩)) ?_ h1;have aR:row*sz+off<db*sz:=by
     have h1:(row+1)*sz≤db*sz:=dA _ (by omega);rw[Nat.succ_mul]at h1;omega
    have ee:=Lib.run_to_unsafe (P:=P) w (src:=src) (dst:=dst) (⟨g,row*sz+off,none⟩:Addr) hs hd ht hj (e:=t0) (cells:=cur.size) (by simp[World.shape?,b1]) (by rw[b2];exact aR);simp[execOp,ho,p2,ee]
   ·cases h
  ·cases h
 ·cases h
theorem JL{src dst t:TypeId}{j:TypeInfo}{x:Operand}{x':cJ}(ho:o.op= .convert src dst x)(hs:P.underlying src=some .unsafePointer)(hd:P.underlying dst=some (.pointer t))(ht:P.info? t=some j)(hj:j.size≠0)
 (he:cr ρ S w e a)(hi:Inv ρ S w)(hx:dp x=some x')(h:cu e S (.xo (.frU t j.size) [x'])=some v):Yields P o a ρ S w v:=by
 have h1:=bw he hx;simp only[cu,iy,bd,bY,hU,KE]at h;split at h
 ·rename_i id aI row off e1;rw[e1]at h1;split at h
  ·rename_i t0 sz rows nA;split at h
   ·rename_i hc;obtain⟨rfl,rfl,rfl,gM⟩:=hc;simp only[aa]at h;subst h;obtain⟨g,db,p1,p2⟩:=h1.fU nA;obtain⟨cur,b1,b2,b3,_⟩:=ks hi nA p1;rw[p2]at h1;refine Yields.same hi (u:=.pointer (some ⟨g,row*j.size+0,none⟩)) ?_ h1;have Ef:P.cellsOf t0=j.size:=by simp[Program.cellsOf,ht]
    have ee:=Lib.run_from_unsafe (P:=P) w (src:=src) (dst:=dst) (⟨g,row*j.size+0,none⟩:Addr) hs hd ht (e:=t0) (cells:=cur.size) (by simp[World.shape?,b1]) (by
     rw[b2,Ef,Nat.mul_div_cancel _ (Nat.pos_of_ne_zero hj)];exact Kj Ef hj (by omega))
    simp only[execOp,ho,p2,Sem.run_bind,ee,Result.andThen_ok,Sem.run_pure]
   ·cases h
  ·cases h
 ·cases h
theorem Eu{c:Call}{x:Operand}{x':cJ}(ho:o.op= .call c)(hc:c.callee= .builtin .unsafeSliceData)(ha:c.args.toList=[x])(he:cr ρ S w e a)(hi:Inv ρ S w)(hx:dp x=some x')
 (h:cu e S (.xo .Tg [x'])=some v):Yields P o a ρ S w v:=by
 have h1:=bw he hx;have C8:c.args= #[x]:=by rw[←ha]
 simp only[cu,iy,bd,bY,hU,sP]at h;split at h
 ·rename_i aaR;rw[aaR]at h1;simp only[aa]at h;subst h;have sw:a.eval x= .slice none 0 0:=by generalize a.eval x=u at h1;cases h1;rfl
  refine Yields.same hi (u:=.pointer none) ?_ .nilPtr;simp[execOp,ho,hc,C8,sw,resolve,invoke,builtin,Lib.run_unsafeSliceData_nil]
 ·rename_i id aI off len aaR;rw[aaR]at h1;split at h
  ·rename_i hcd;simp only[aa]at h;subst h;obtain⟨⟨t0,sz,rows⟩,nA⟩:=Option.isSome_iff_exists.1 hcd.2;obtain⟨m1,m2⟩:=h1.gY nA;rcases m2 with⟨_,_,h0,_⟩|⟨g,db,cap,p1,p2,p3,p4,p5⟩|⟨_,h0,_⟩
   ·omega
   ·refine Yields.same hi (u:=.pointer (some ⟨g,off*sz,none⟩)) ?_ ?_
    ·simp[execOp,ho,hc,C8,p2,resolve,invoke,builtin,Lib.run_unsafeSliceData_row (P:=P) (w:=w) _ _ ⟨g,off*sz,none⟩ len cap (by omega)]
    ·rw[p2]at h1;cases h1 with
     |cU aR iP hh _=>
      refine .ptr aR iP (fun e s rs hs=>⟨g,db,p1,?_⟩) rfl;have mT:=df nA;rw[mT]at hs;cases hs;rfl
   ·omega
  ·cases h
 ·cases h
theorem FY{src dst:TypeId}{op:XOp}(h:PK P src dst=some op):
 (∃t j,P.underlying src=some (.pointer t)∧P.underlying dst=some .unsafePointer∧P.info? t=some j∧j.size≠0∧op= .toU)∨
 (∃t j,P.underlying src=some .unsafePointer∧P.underlying dst=some (.pointer t)∧P.info? t=some j∧j.size≠0∧op= .frU t j.size):=by
 unfold PK at h;split at h
 ·rename_i t hs hd;split at h
  ·rename_i j hj;split at h
   ·cases h
   ·rename_i h0;simp only[aa]at h;exact .inl ⟨t,j,hs,hd,hj,h0,h.symm⟩
  ·cases h
 ·rename_i t hs hd;split at h
  ·rename_i j hj;split at h
   ·cases h
   ·rename_i h0;simp only[aa]at h;exact .inr ⟨t,j,hs,hd,hj,h0,h.symm⟩
  ·cases h
 ·cases h
theorem Eo{l:List cJ}:cu e S (.xo .stuck l)=none:=by
 simp only[cu,hU]
theorem gZ{id aI:Nat}{kd:KD}{rows:List (V×V)}{x:MX}(h:S.kp id aI=some (kd,rows,x)):S[id]?=some ⟨aI,some (.mp ⟨kd,rows,x⟩)⟩:=by
 unfold ae.kp at h;split at h
 ·rename_i v m hs;split at h
  ·rename_i hv;subst hv;simp only[aa,cB]at h;obtain⟨rfl,rfl,rfl⟩:=h;exact hs
  ·cases h
 ·cases h
theorem VR.jO{id aI:Nat}{kd:KD}{rows:List (V×V)}{x:MX}{u:Value}{b:Bool}(h:VR ρ S w b (.eF id aI) u)(hs:S.kp id aI=some (kd,rows,x))(hx:x.iw=false):∃g,ρ id=some (g,0)∧u= .map (some g):=by
 cases h with
 |eF aR iP hh h1=>
  obtain⟨g,h2,h3⟩:=hh _ (gZ hs);exact⟨g,h2,by rw[h3];simp[jF.addr,hx]⟩
theorem VR.vS{id aI:Nat}{kd:KD}{rows:List (V×V)}{x:MX}{u:Value}{b:Bool}(h:VR ρ S w b (.eF id aI) u)(hs:S.kp id aI=some (kd,rows,x))(hx:x.iw=true):∃g,ρ id=some (g,0)∧u= .pointer (some ⟨g,0,none⟩):=by
 cases h with
 |eF aR iP hh h1=>
  obtain⟨g,h2,h3⟩:=hh _ (gZ hs);exact⟨g,h2,by rw[h3];simp[jF.addr,hx]⟩
theorem HR.map{id g:Nat}{kd:KD}{rows:List (V×V)}{x:MX}(h:HR ρ S w id ⟨kd,rows,x⟩ g)(hx:x.iw=false):∃es ck,w.heap[g]?=some (.map es ck)∧MR ρ S w ⟨kd,rows,x⟩ es∧xG es ck:=by
 cases x<;>first|exact h|(obtain⟨es,ck,h1,h2,h3,_⟩:=h;exact⟨es,ck,h1,h2,h3⟩)|cases hx
theorem oM(hi:Inv ρ S w){id aI g:Nat}{kd:KD}{rows:List (V×V)}{x:MX}{kt:TypeId}{k:V}{uk:Value}(hs:S.kp id aI=some (kd,rows,x))(hx:x.iw=false)(hr:ρ id=some (g,0))(hk:n5 P kt=some kd)(pD:jl kd k=true)(hv:VR ρ S w false k uk):
 ∃es ck,w.heap[g]?=some (.map es ck)∧MR ρ S w ⟨kd,rows,x⟩ es∧xG es ck∧
  (((Instr.findKey kt uk es.toList).run P w= .ok none w∧gn k rows=none∧∀(i:Nat) (p:V×V),rows[i]?=some p→jX k p.1=false)∨
   ∃i p e,(Instr.findKey kt uk es.toList).run P w= .ok (some (i,e.val)) w∧es[i]?=some e∧e.key=uk∧rows[i]?=some p∧jX k p.1=true∧gn k rows=some p.2∧VR ρ S w false p.2 e.val∧∀(j:Nat) (q:V×V),j<i→rows[j]?=some q→jX k q.1=false):=by
 obtain⟨g',a,b⟩:=hi.maps id aI ⟨kd,rows,x⟩ (gZ hs);rw[hr]at a;cases a;obtain⟨es,ck,b,c,cst⟩:=b.map hx;refine⟨es,ck,b,c,cst,?_⟩;obtain⟨c1,c2,c3⟩:=c;have tz:=KM.of pD hv;have each:∀(i:Nat) (e:MapEntry),es[i]?=some e→∃p,rows[i]?=some p∧VR ρ S w false p.1 e.key∧VR ρ S w false p.2 e.val∧jl kd p.1=true:=by
  intro i e he;have aR:=(Array.getElem?_eq_some_iff.1 he).1;have hp:=ax (l:=rows) (i:=i) (by simpa[←c1]using aR);obtain⟨e',he',h1,h2⟩:=c3 i _ _ hp;rw[he]at he';cases he';exact⟨_,hp,h1,h2,c2 _ (List.getElem_mem _)⟩
 have adw:∀(n:Nat),(∀e∈es.toList.take n,e.key≠uk)→∀(j:Nat) (q:V×V),j<n→rows[j]?=some q→jX k q.1=false:=by
  intro n h j q hj hq;obtain⟨e,he,h1,_⟩:=c3 j q.1 q.2 hq;have hm:e∈es.toList.take n:=by
   rw[List.mem_take_iff_getElem];have aR:=(Array.getElem?_eq_some_iff.1 he);have cK:=aR.1;exact⟨j,by simp;omega,by simpa using aR.2⟩
  have eY:=h e hm;have xy:=o3 (kd:=kd) pD (c2 q (aB hq)) hv h1;cases hb:jX k q.1
  ·rfl
  ·exact absurd (xy.1 hb).symm eY
 have Ka:∀(l:List (V×V)),(∀(i:Nat) (p:V×V),l[i]?=some p→jX k p.1=false)→gn k l=none:=by
  intro l;induction l with
  |nil=>intro _;rfl
  |cons p l ih=>
   intro h;rw[gn,h 0 p rfl];simp only[aV,aZ];exact ih fun i q hq=>h (i+1) q (by simpa using hq)
 have FM:∀(l:List (V×V)) (i:Nat) (p:V×V),l[i]?=some p→jX k p.1=true→(∀(j:Nat) (q:V×V),j<i→l[j]?=some q→jX k q.1=false)→gn k l=some p.2:=by
  intro l;induction l with
  |nil=>intro i p h;simp at h
  |cons x l ih=>
   intro i p h1 h2 h3;cases i with
   |zero=>
    simp at h1;subst h1;rw[gn,h2];simp
   |succ i=>
    rw[gn,h3 0 x (by omega) rfl];simp only[aV,aZ];exact ih i p (by simpa using h1) h2 fun j q hj hq=>h3 (j+1) q (by omega) (by simpa using hq)
 rcases De (P:=P) (w:=w) hk tz es.toList (fun e he=>by
  obtain⟨i,fH⟩:=ez he;obtain⟨p,_,h1,_,h2⟩:=each i e (by simpa using fH);exact KM.of h2 h1)with⟨h1,h2⟩|⟨i,e,h1,h2,h3,h4⟩
 ·have hm:∀(i:Nat) (p:V×V),rows[i]?=some p→jX k p.1=false:=fun i p hp=>by
   have aR:=(List.getElem?_eq_some_iff.1 hp).1;exact adw (es.size) (fun e he=>h2 e (List.mem_of_mem_take he)) i p (by simpa[c1]using aR) hp
  exact .inl ⟨h1,Ka _ hm,hm⟩
 ·have he:es[i]?=some e:=by simpa using h2
  obtain⟨p,hp,k1,k2,k3⟩:=each i e he;have heq:jX k p.1=true:=(o3 (kd:=kd) pD k3 hv k1).2 h3.symm;have hm:=adw i h4;exact .inr ⟨i,p,e,h1,he,h3,hp,heq,FM _ i p hp heq hm,k2,hm⟩
theorem xL{t:TypeId}{z:V}(h:zeroV P t=some z)(w:World):∃u,(zeroValue t).run P w= .ok u w∧V.j9 u=some z:=by
 unfold zeroV at h;split at h
 ·rename_i i hi;simp only[cP]at h;obtain⟨u,hu,hz⟩:=h;exact⟨u,by simp[zeroValue,typeInfo,hi,hu],hz⟩
 ·cases h
theorem sj{zero:V}{ok:Bool}{o:Option V}{u:Value}(h:VR ρ S w false (o.getD zero) u):VR ρ S w false (nT zero ok o) (if ok then .tuple #[u,.bool o.isSome]else u):=by
 cases ok
 ·simpa[nT]using h
 ·simp only[nT,aQ];refine .rR rfl fun j x hj=>?_;match j,hj with
  |0,hj=>simp at hj;subst hj;exact⟨u,rfl,h⟩
  |1,hj=>simp at hj;subst hj;exact⟨_,rfl,.bool⟩
  |j+2,hj=>simp at hj
theorem Me{t kt et:TypeId}{m k:Operand}{ok:Bool}{kd:KD}{zero:V}{m' k':cJ}(ho:o.op= .lookup t m k ok)(ht:P.underlying t=some (.map kt et))(hk:n5 P kt=some kd)(hz:zeroV P et=some zero)
 (he:cr ρ S w e a)(hi:Inv ρ S w)(hm:dp m=some m')(hkk:dp k=some k')(h:cu e S (.xo (.lk kd zero ok) [m',k'])=some v):Yields P o a ρ S w v:=by
 have h1:=bw he hm;have h2:=bw he hkk;obtain⟨z,hzr,Lk⟩:=xL hz w;have CP:=V.ic (ρ:=ρ) (S:=S) (w:=w) Lk false;simp only[cu,iy,bd,bY,hU,Wp]at h;split at h
 ·rename_i e1;split at h
  ·rename_i pD;simp only[aa]at h;subst h;rw[e1]at h1;have hu:a.eval m= .map none:=by generalize a.eval m=u at h1;cases h1;rfl
   have tz:=KM.of pD h2;have aep:(Instr.findKey kt (a.eval k) []).run P w= .ok none w:=by
    rcases De (P:=P) (w:=w) hk tz [] (by simp)with⟨h3,_⟩|⟨j,e,_,h3,_⟩
    ·exact h3
    ·simp at h3
   refine .same (u:=if ok then .tuple #[z,.bool false]else z) hi ?_ (sj (o:=none) CP);simp only[execOp,ho,Instr.lookup,Sem.run_bind,run_underlying ht,Result.andThen_ok,hu,Sem.run_pure,gI hk tz,aep,hzr]
  ·cases h
 ·rename_i id aI e1;unfold Wq at h;split at h
  ·rename_i oO rows x hs;split at h
   ·rename_i hc;obtain⟨rfl,pD,xj⟩:=hc;simp only[aa]at h;subst h;rw[e1]at h1;obtain⟨g,hg,hu⟩:=h1.jO hs xj;obtain⟨es,ck,hb,Ir,_,hf⟩:=oM (P:=P) hi hs xj hg hk pD h2;have tz:=KM.of pD h2;rcases hf with⟨f1,f2,_⟩|⟨i,p,en,f1,f2,f3,f4,f5,f6,f7,_⟩
    ·rw[f2];refine .same (u:=if ok then .tuple #[z,.bool false]else z) hi ?_ (sj (o:=none) CP);simp only[execOp,ho,Instr.lookup,Sem.run_bind,run_underlying ht,Result.andThen_ok,hu,Go.MapKept.run_getObj_map hb,Sem.run_pure,gI hk tz,f1,hzr]
    ·rw[f6];refine .same (u:=if ok then .tuple #[en.val,.bool true]else en.val) hi ?_ (sj (o:=some p.2) f7);simp only[execOp,ho,Instr.lookup,Sem.run_bind,run_underlying ht,Result.andThen_ok,hu,Go.MapKept.run_getObj_map hb,Sem.run_pure,gI hk tz,f1]
   ·cases h
  ·cases h
 ·cases h
theorem JN{x:Operand}{x':cJ}(ho:o.op= .entry x)(he:cr ρ S w e a)(hi:Inv ρ S w)(hx:dp x=some x')(h:cu e S (.xo .ent [x'])=some v):Yields P o a ρ S w v:=by
 have h1:=bw he hx;simp only[cu,iy,bd,bY,hU,KK]at h;split at h
 ·rename_i it iO e1;rw[e1]at h1;unfold FQ at h;split at h
  ·rename_i kd rows id aI p hs;unfold y_ at h;split at h
   ·rename_i oO bT Ic hm;split at h
    ·rename_i qZ;subst qZ;simp only[aa]at h;subst h;obtain⟨g,hg,hu⟩:=h1.vS hs rfl;obtain⟨g',a1,hb⟩:=hi.maps Ic iO _ (gZ hs);rw[hg]at a1;cases a1;obtain⟨_,l,ce,_,lc,gm,since,seen,hb,hl⟩:=hb;obtain⟨l1,es,l2,l3,l4,l5⟩:=hl oO bT (gZ hm);obtain⟨l6,Mo,rfl⟩:=l5 rfl;obtain⟨v1,v2⟩:=lc p rfl;have ee:=run_entry_at (P:=P) w g gm since Mo es since ce hb l2 l6 l3.2;refine .same (u:=.tuple #[ce.key,ce.val]) hi ?_ (.rR rfl fun j y hj=>?_)
     ·simp only[execOp,ho,hu,Sem.run_bind,ee,Result.andThen_ok,Sem.run_pure]
     ·match j,hj with
      |0,hj=>simp at hj;subst hj;exact⟨_,rfl,v1⟩
      |1,hj=>simp at hj;subst hj;exact⟨_,rfl,v2⟩
      |j+2,hj=>simp at hj
    ·cases h
   ·cases h
  ·cases h
 ·cases h
theorem Ez{c:Call}{t kt et:TypeId}{x:Operand}{x':cJ}(ho:o.op= .call c)(hc:c.callee= .builtin .len)(ha:c.args.toList=[x])(uD:c.argTypes.toList=[t])(ht:P.underlying t=some (.map kt et))
 (he:cr ρ S w e a)(hi:Inv ρ S w)(hx:dp x=some x')(h:cu e S (.xo .TX [x'])=some v):Yields P o a ρ S w v:=by
 have h1:=bw he hx;have C8:c.args= #[x]:=by rw[←ha]
 have xk:c.argTypes= #[t]:=by rw[←uD]
 simp only[cu,iy,bd,bY,hU,th]at h;split at h
 ·rename_i e1;simp only[aa]at h;subst h;rw[e1]at h1;have hu:a.eval x= .map none:=by generalize a.eval x=u at h1;cases h1;rfl
  refine .same (u:=.int .i64 0) hi ?_ .int;simp[execOp,ho,hc,C8,xk,hu,resolve,invoke,builtin,Builtin.len_,run_underlying ht,goInt]
 ·rename_i id aI e1;unfold tj at h;split at h
  ·rename_i kd rows x hs;split at h
   ·rename_i xj;simp only[aa]at h;subst h;rw[e1]at h1;obtain⟨g,hg,hu⟩:=h1.jO hs xj;obtain⟨g',k1,k2⟩:=hi.maps id aI ⟨kd,rows,x⟩ (gZ hs);rw[hg]at k1;cases k1;obtain⟨es,ck,k2,⟨k3,_⟩,_⟩:=k2.map xj;refine .same (u:=.int .i64 rows.length) hi ?_ .int;simp only at k3;simp[execOp,ho,hc,C8,xk,hu,resolve,invoke,builtin,Builtin.len_,run_underlying ht,Go.MapKept.run_getObj_map k2,k3,goInt]
   ·cases h
  ·cases h
 ·cases h
theorem vd{neg:Bool}{op:BinOp}{t t':TypeId}{l:List nZ}{x y:Operand}{x' y':cJ}(np:op=(if neg then .neq else .eql))(ho:o.op= .binOp op t x y t')(hl:∀(us vs:Array Value),zF l us.toList→zF l vs.toList→∃r,(Op.equalIn 10000 t (.agg us) (.agg vs)).run P w= .ok r w∧(r=true↔us=vs))(hg:P.eqGuardType P.depth t=false)
 (he:cr ρ S w e a)(hi:Inv ρ S w)(hx:dp x=some x')(hy:dp y=some y')(h:cu e S (.xo (.Pz l neg) [x',y'])=some v):Yields P o a ρ S w v:=by
 have h1:=bw he hx;have h2:=bw he hy;simp only[cu,iy,bd,bY,hU,Py]at h;split at h
 ·rename_i p q e1 e2;split at h
  ·rename_i hc;obtain⟨k1,k2⟩:=hc;simp only[aa]at h;subst h;rw[e1]at h1;rw[e2]at h2;obtain⟨us,hu,sw⟩:=KM.of (kd:=.st l) (by exact k1) h1;obtain⟨vs,hv,CU⟩:=KM.of (kd:=.st l) (by exact k2) h2;have xy:=o3 (kd:=.st l) (v:=.agg p) (v':=.agg q) k1 k2 h1 h2;obtain⟨r,hr,kG⟩:=hl us vs sw CU;have hrb:r=o4 p q:=by
    rw[hu,hv,Value.agg.injEq]at xy;exact Bool.eq_iff_iff.2 (kG.trans xy.symm)
   subst hrb;refine .same (u:=.bool (if neg then !o4 p q else o4 p q)) hi ?_ .bool;cases neg
   ·simp only[aV,aZ]at np;subst np;simp only[execOp,ho,Sem.run_bind,hu,hv,run_eqGuard_agg w _ t x y us vs hg,Result.andThen_ok,run_eql_struct,hr,Sem.run_pure];rfl
   ·simp only[aQ]at np;subst np;simp only[execOp,ho,Sem.run_bind,hu,hv,run_eqGuard_agg w _ t x y us vs hg,Result.andThen_ok,run_neq_struct,hr,Sem.run_pure];rfl
  ·cases h
 ·cases h
theorem xW{neg:Bool}{op:BinOp}{t t':TypeId}{l:List nZ}{x y:Operand}{x' y':cJ}(np:op=(if neg then .neq else .eql))(ho:o.op= .binOp op t x y t')(hl:lL P t=some l)(hg:P.eqGuardType P.depth t=false)
 (he:cr ρ S w e a)(hi:Inv ρ S w)(hx:dp x=some x')(hy:dp y=some y')(h:cu e S (.xo (.Pz l neg) [x',y'])=some v):Yields P o a ρ S w v:=
 vd np ho (fun _ _ h1 h2=>IL hl h1 h2 9998) hg he hi hx hy h
theorem sN{neg:Bool}{op:BinOp}{t t':TypeId}{l:List nZ}{x y:Operand}{x' y':cJ}(np:op=(if neg then .neq else .eql))(ho:o.op= .binOp op t x y t')(hl:Cz P t=some l)(hg:P.eqGuardType P.depth t=false)
 (he:cr ρ S w e a)(hi:Inv ρ S w)(hx:dp x=some x')(hy:dp y=some y')(h:cu e S (.xo (.Pz l neg) [x',y'])=some v):Yields P o a ρ S w v:=
 vd np ho (fun _ _ h1 h2=>KI hl h1 h2 9998) hg he hi hx hy h
theorem Dg{place:Nat→Option (Nat×Nat)}(hp:∀i,place i=some (i,1))(he:cr ρ S w e a):∀(parts:List (Nat×Operand)) (ps:List (Nat×Nat×cJ)) (vs ws:List V) (us:Array Value),
 pz parts=some ps→jV e vs ps=some ws→CR ρ S w vs us→∃xs,Instr.fill place us (parts.map fun p=>(p.1,a.eval p.2))=some xs∧CR ρ S w ws xs:=by
 intro parts;induction parts with
 |nil=>
  intro ps vs ws us h1 h2 h3;simp only[pz,aa]at h1;subst h1;simp only[jV,aa]at h2;subst h2;exact⟨us,rfl,h3⟩
 |cons p parts ih=>
  intro ps vs ws us h1 h2 h3;obtain⟨i,x⟩:=p;simp only[pz]at h1;split at h1
  ·rename_i y ys hy T9;simp only[aa]at h1;subst h1;simp only[jV]at h2;split at h2
   ·rename_i cs l8;split at h2
    ·rename_i hle;have hv:=(bw he hy).uY l8;obtain⟨xs,hx,hr⟩:=ih _ _ _ _ T9 h2 (h3.gU hv (by omega));refine⟨xs,?_,hr⟩;simp only[bd,Instr.fill,hp i];rw[aC]
     ·exact hx
     ·have h4:=hv.1;have h5:=h3.1;simp only[dR,aL,not_or,ne_eq,Decidable.not_not];omega
    ·cases h2
   ·cases h2
  ·cases h1
theorem zP{t q:TypeId}{m:Nat}{parts:Array (Nat×Operand)}{i:TypeInfo}{vs:List V}{ps:List (Nat×Nat×cJ)}(ho:o.op= .build t parts)(ht:P.underlying t=some (.array m q))(pO:P.info? t=some i)(hz:i.zero.bind V.j9=some (.agg vs))
 (eQ:vs.all V.dK=true)(hp:pz parts.toList=some ps)(hG:er P q=some 1)(he:cr ρ S w e a)(hi:Inv ρ S w)(h:cu e S (.build vs ps)=some v):Yields P o a ρ S w v:=by
 simp only[cu,aG]at h;obtain⟨ws,h,rfl⟩:=h;simp only[cP]at hz;obtain⟨z,hz,hv⟩:=hz;have h0:=(V.ic (ρ:=ρ) (S:=S) (w:=w) hv false).uY (show(V.agg vs).cells?=some vs by simp only[V.cells?,eQ,aQ]);obtain⟨xs,hx,hr⟩:=Dg (place:=fun i=>some (i*1,1)) (fun i=>by rw[Nat.mul_one]) he _ _ _ _ _ hp h h0;refine Yields.same hi (u:=.agg xs) ?_ (.DX hr.1 fun j y hj=>let⟨x,h1,h2,_⟩:=hr.2 j y hj;⟨x,h1,h2⟩);have su:Instr.fill (fun i=>some (i*1,1)) z.cells (parts.map fun x=>(x.fst,a.eval x.snd)).toList=some xs:=by
  rw[←hx];simp
 simp only[execOp,ho,Sem.run_bind,Instr.build,zeroValue,typeInfo,run_program,Result.andThen_ok,pO,hz,Sem.run_pure,run_underlying ht,kc hG,su]
theorem xF(p:Option Addr):p.map (·.add 0)=p:=by cases p<;>simp[Addr.add]
theorem kZ{o:Oper}{a:Act}{x h m:Operand}{t q:TypeId}{n:Nat}(ho:o.op= .slice t x none (some h) (some m))(ht:P.underlying t=some (.slice q))(hz:er P q=some n){p:Option Addr}{len cap:Nat}{k k':IntKind}{b c:Int}
 (e1:a.eval x= .slice p len cap)(e2:a.eval h= .int k b)(e3:a.eval m= .int k' c)(h0:0≤b)(h1:b≤c)(h2:c≤cap)(w:World):(execOp a.eval o).run P w= .ok (.value (.slice p b.toNat c.toNat)) w:=by
 have e4:((c.toNat:Nat):Int)=c:=Int.toNat_of_nonneg (by omega);have r1:=fun code=>run_sliceBound (P:=P) w k' c cap code (by omega) h2;have r2:=fun code=>run_sliceBound (P:=P) w k b c.toNat code h0 (by omega);simp[execOp,ho,e1,e2,e3,Instr.sliceAt,Instr.slice,Instr.sliceBounds,run_underlying ht,kc hz,r1,r2,xF]
theorem JF{x h m:Operand}{t q:TypeId}{n:Nat}{x' h' m':cJ}(ho:o.op= .slice t x none (some h) (some m))(ht:P.underlying t=some (.slice q))(hz:er P q=some n)(he:cr ρ S w e a)(hi:Inv ρ S w)
 (hx:dp x=some x')(hh:dp h=some h')(hm:dp m=some m')(hv:cu e S (.xo (.sl3 n) [x',h',m'])=some v):Yields P o a ρ S w v:=by
 have h1:=bw he hx;have h2:=bw he hh;have h3:=bw he hm;simp only[cu,iy,bd,bY,hU]at hv;unfold Mj at hv;split at hv
 ·rename_i b _ c e1 e2 e3;split at hv
  ·rename_i hc;obtain⟨rfl,rfl⟩:=hc;simp only[aa]at hv;subst hv;rw[e1]at h1;rw[e2]at h2;rw[e3]at h3;have hu:a.eval x= .slice none 0 0:=by generalize a.eval x=u at h1;cases h1;rfl
   exact Yields.same hi (by simpa using kZ ho ht hz hu h2.cL h3.cL (cM _) (cM _) (by omega) w) .aM
  ·cases hv
 ·rename_i kW rows _ b _ c e1 e2 e3;split at hv
  ·rename_i hc;obtain⟨rfl,c0,c1,c2⟩:=hc;simp only[aa]at hv;subst hv;rw[e1]at h1;rw[e2]at h2;rw[e3]at h3;generalize hu:a.eval x=u at h1;cases h1 with
   | @gC _ _ pp=>
     have hr:=kZ ho ht hz hu h2.cL h3.cL c0 c1 (by simpa using c2) w;have lR:b.toNat=0:=by simp at c2;omega
     have Ar:c.toNat=0:=by simp at c2;omega
     rw[lR,Ar]at hr;rw[lR];exact Yields.same hi hr (by simpa using VR.gC)
   | @sl _ _ _ g off len cap cf kP hlen ki jS Ua Be hvv Uy=>
     have hr:=kZ ho ht hz hu h2.cL h3.cL c0 c1 (by omega) w;have gM:∀(i:Nat) (r:List V),(rows.take b.toNat)[i]?=some r→rows[i]?=some r:=by
      intro i r fv;rw[bC]at fv;split at fv
      ·exact fv
      ·cases fv
     exact Yields.same hi hr (.sl cf kP (by simp;omega) (by omega) (by omega) (fun i r fv=>Ua _ r (gM i r fv)) (fun i r fv j y hj=>Be _ r (gM i r fv) j y hj) (fun i r fv j y hj=>hvv _ r (gM i r fv) j y hj) (fun i r fv j y hj=>Uy _ r (gM i r fv) j y hj))
  ·cases hv
 ·rename_i id aI off len _ b _ c e1 e2 e3;split at hv
  ·rename_i hc;obtain⟨hs,c0,c1,c2⟩:=hc;simp only[aa]at hv;subst hv;rw[e1]at h1;rw[e2]at h2;rw[e3]at h3;simp only[aG]at hs;obtain⟨⟨t',sz,rows⟩,hs,CV⟩:=hs;simp only at CV;subst CV;obtain⟨hle,hk⟩:=h1.gY hs;have cK:id<S.length:=by cases h1;assumption
   have qU:∀(o:Obj),S[id]?=some o→aI≤o.aI:=by cases h1;assumption
   have fin:∀u,(execOp a.eval o).run P w= .ok (.value u) w→(∃p c,u= .slice p b.toNat c)→((ρ id=none∧u= .slice none 0 0∧b.toNat=0∧off=0)∨(∃g db cap,ρ id=some (g,db)∧u= .slice (some ⟨g,off*sz,none⟩) b.toNat cap∧off+b.toNat≤db∧b.toNat≤cap∧off+cap≤db)∨(0<off∧b.toNat=0∧∃p,u= .slice (some p) 0 0))→
    Yields P o a ρ S w (.cU id aI off b.toNat):=by
    intro u ee h6 h7;refine Yields.same hi ee (.cU cK qU (fun e' sz2 iU mT=>?_) h6);rw[df hs]at mT;simp only[aa,Obj.mk.injEq,eR.arr.injEq,eG]at mT;obtain⟨_,rfl,rfl⟩:=mT;exact⟨by omega,h7⟩
   rcases hk with⟨OL,hu,lQ,ho0⟩|⟨g,db,cap,hg,hu,Am,hlc,Lq⟩|⟨ad4,lQ,p,hu⟩
   ·have lR:b=0:=by omega
    have Ar:c=0:=by omega
    subst lR Ar;exact fin _ (kZ ho ht hz hu h2.cL h3.cL (cM _) (cM _) (by omega) w) ⟨_,_,rfl⟩ (.inl ⟨OL,rfl,rfl,ho0⟩)
   ·exact fin _ (kZ ho ht hz hu h2.cL h3.cL c0 c1 (by omega) w) ⟨_,_,rfl⟩ (.inr (.inl ⟨g,db,c.toNat,hg,rfl,by omega,by omega,by omega⟩))
   ·have lR:b=0:=by omega
    have Ar:c=0:=by omega
    subst lR Ar;exact fin _ (kZ ho ht hz hu h2.cL h3.cL (cM _) (cM _) (by omega) w) ⟨_,_,rfl⟩ (.inr (.inr ⟨ad4,rfl,p,rfl⟩))
  ·cases hv
 ·cases hv
theorem JG{x:Operand}{src dst q:TypeId}{x':cJ}(ho:o.op= .convert src dst x)(hs:P.underlying src=some .string)(hd:P.underlying dst=some (.slice q))(hq:P.underlying q=some (.int .u8))(he:cr ρ S w e a)(hi:Inv ρ S w)
 (hx:dp x=some x')(h:cu e S (.xo .s2b [x'])=some v):Yields P o a ρ S w v:=by
 have h1:=bw he hx;simp only[cu,iy,bd,bY,hU]at h;unfold Ti at h;split at h
 ·rename_i l e1;simp only[aa]at h;subst h;rw[e1]at h1;generalize hu:a.eval x=u at h1;cases h1 with
  | @str _ _ s Fo hm=>
    have ee:(execOp a.eval o).run P w= .ok (.value (.slice (some ⟨w.heap.size,0,none⟩) s.size (grownCap w s.size 0 q))) (Lib.bytesWorld w q s):=by
     simp only[execOp,ho,hu,Sem.run_bind,Lib.run_convert_string_bytes w src dst q s hs hd hq,Result.andThen_ok,Sem.run_pure]
    have FB:∀j,j<s.size→(Lib.bytesWorld w q s).cell? ⟨w.heap.size,j,none⟩=some (.int .u8 (s.data.toList.getD j 0).toNat):=fun j hj=>Lib.bytesWorld_cell w q s j hj;have hex:Ext ρ S w ρ S (Lib.bytesWorld w q s):=by
     refine⟨rfl,⟨rfl,fun _=>dB _⟩,rfl,by rw[Lib.bytesWorld_size];omega,fun g hg=>⟨⟨by rw[Lib.bytesWorld_size];have:=hg.1;omega,hg.2⟩,Lib.bytesWorld_at_old w q s g hg.1⟩,ah _,fun id o o' h h'=>?_⟩;rw[h]at h';cases h';exact⟨ah _,fun _ c hc=>⟨c,hc,eR.fD c,rfl⟩⟩
    have hinv:Inv ρ S (Lib.bytesWorld w q s):=by
     refine⟨fun id aI e sz rows hs=>?_,hi.inj,jP hi hex (fun id aI rows hs=>⟨hs,rfl⟩) (fun id aI rows g hs hg=>Lib.bytesWorld_at_old w q s g (hi.block hs rfl hg)),jJ hi hex⟩;obtain⟨h1,h2⟩:=hi.rows id aI e sz rows hs;refine⟨h1,?_⟩;rcases h2 with h2|⟨g,db,cur,a,b,c,d,f,h⟩
     ·exact .inl h2
     ·refine .inr ⟨g,db,cur,a,b,c,?_,f,fun i r fv j v hj=>?_⟩
      ·rw[Lib.bytesWorld_at_old w q s g (Array.getElem?_eq_some_iff.1 d).1];exact d
      ·obtain⟨u,x,y,z⟩:=h i r fv j v hj;exact⟨u,x,y.ext hex,z⟩
    have hG:s.size=l.length:=by rw[←Fo,bP];rfl
    have gM:∀(i:Nat) (r:List V),(l.map fun b:UInt8=>[V.int .u8 (b.toNat:Nat)])[i]?=some r→i<s.size∧r=[V.int .u8 ((s.data.toList.getD i 0).toNat:Nat)]:=fun i r hr=>by
     rw[bn,aG]at hr;obtain⟨b,hb,rfl⟩:=hr;have aR:=(List.getElem?_eq_some_iff.1 hb).1;refine⟨by omega,?_⟩;rw[Fo,oh,hb];rfl
    refine⟨_,_,ee,.sl (fun i _=>.int .u8 ((s.data.toList.getD i 0).toNat:Nat)) ⟨by rw[Lib.bytesWorld_size];exact Nat.lt_succ_self _,fun id o c g' db eI hc hr=>by have:=hi.block eI hc hr;omega⟩ (by rw[aP,hG]) (grownCap_ge w s.size 0 q) (grownCap_le_maxLen w s.size 0 q hm) (fun i r hr=>by rw[(gM i r hr).2];rfl) (fun i r hr j y hj=>?_) (fun i r hr j y hj=>?_) (fun i r hr j y hj=>?_),hex,hinv⟩
    ·obtain⟨h5,rfl⟩:=gM i r hr;match j,hj with
     |0,hj=>
      have:=FB i h5;simpa using this
    ·obtain⟨h5,rfl⟩:=gM i r hr;match j,hj with
     |0,hj=>cases hj;exact .int
    ·rfl
 ·cases h
theorem DI(hc:PM P o=ao)(he:cr ρ S w e a)(hi:Inv ρ S w)(h:cu e S ao=some v):Yields P o a ρ S w v:=by
 have no:∀{ao:jD},jD.xo .stuck []=ao→cu e S ao=some v→Yields P o a ρ S w v:=by
  intro ao h1 h2;subst h1;rw[Eo]at h2;cases h2
 unfold PM at hc;split at hc
 ·rename_i op t x y t' ho;split at hc
  ·rename_i u x' y' ht hx hy;split at hc
   ·rename_i j hj;split at hc
    ·exact no hc h
    ·rename_i hz;subst hc;exact xV (neg:=false) rfl ho ht hj hz he hi hx hy h
   ·rename_i j hj;split at hc
    ·exact no hc h
    ·rename_i hz;subst hc;exact xV (neg:=true) rfl ho ht hj hz he hi hx hy h
   ·exact no hc h
  ·rename_i fs x' y' ht hx hy;split at hc
   ·rename_i l hl hg;subst hc;exact xW (neg:=false) rfl ho hl hg he hi hx hy h
   ·rename_i l hl hg;subst hc;exact xW (neg:=true) rfl ho hl hg he hi hx hy h
   ·exact no hc h
  ·rename_i n' e' x' y' ht hx hy;split at hc
   ·rename_i l hl hg;subst hc;exact sN (neg:=false) rfl ho hl hg he hi hx hy h
   ·rename_i l hl hg;subst hc;exact sN (neg:=true) rfl ho hl hg he hi hx hy h
   ·exact no hc h
  ·exact no hc h
 ·rename_i t parts ho;split at hc
  ·rename_i n' e' i' ps ht pO pC;split at hc
   ·rename_i vs hz hG;split at hc
    ·rename_i eQ;subst hc;exact zP ho ht pO hz eQ pC hG he hi h
    ·exact no hc h
   ·exact no hc h
  ·exact no hc h
 ·rename_i t m k ok ho;split at hc
  ·rename_i kt et m' k' ht hm hk;split at hc
   ·rename_i kd z qY hz;subst hc;exact Me ho ht qY hz he hi hm hk h
   ·exact no hc h
  ·exact no hc h
 ·rename_i x ho;split at hc
  ·rename_i x' hx;subst hc;exact JN ho he hi hx h
  ·exact no hc h
 ·rename_i src dst x ho;split at hc
  ·rename_i op x' np hx;subst hc;rcases FY np with⟨t,j,h1,h2,h3,h4,rfl⟩|⟨t,j,h1,h2,h3,h4,rfl⟩
   ·exact JB ho h1 h2 h3 h4 he hi hx h
   ·exact JL ho h1 h2 h3 h4 he hi hx h
  ·rename_i x' _ hx;split at hc
   ·rename_i q hs hd;split at hc
    ·rename_i hq;subst hc;exact JG ho hs hd hq he hi hx h
    ·exact no hc h
   ·exact no hc h
  ·exact no hc h
 ·rename_i c ho;split at hc
  ·rename_i x nq ha;split at hc
   ·rename_i x' hx;subst hc;exact Eu ho nq ha he hi hx h
   ·exact no hc h
  ·rename_i x nq ha;split at hc
   ·rename_i t x' uD hx;split at hc
    ·rename_i kt et ht;subst hc;exact Ez ho nq ha uD ht he hi hx h
    ·exact no hc h
   ·exact no hc h
  ·exact no hc h
 ·rename_i t x hh mm ho;split at hc
  ·rename_i q x' h' m' ht hx hhh Ug;split at hc
   ·rename_i n hz;subst hc;exact JF ho ht hz he hi hx hhh Ug h
   ·exact no hc h
  ·exact no hc h
 ·exact no hc h
theorem J'(hc:F0 P o=some ao)(he:cr ρ S w e a)(hi:Inv ρ S w)(h:cu e S ao=some v):Yields P o a ρ S w v:=by
 unfold F0 at hc;split at hc
 ·rename_i a' h0;simp only[aa]at hc;subst hc;exact E3 h0 he hi h
 ·simp only[aa]at hc;exact DI hc he hi h
end
end Go.AL
namespace Go.AL
variable[Mode]
section
variable{P:Program}{ρ:Place}{S:ae}{w:World}
def gJ(ρ:Place)(id g db:Nat):Place:=fun k=>if k=id then some (g,db)else ρ k
theorem oG(hi:Inv ρ S w){w':World}{g db sz aI:Nat}{t:TypeId}{rows:List (List V)}{cur:Array Value}(hg:g=w.heap.size)(hG:w'.heap.size=w.heap.size+1)(CX:w'.os=w.os)(vV:w'.tape=w.tape∧w.drawn≤w'.drawn)(vY:w'.output=w.output)
 (hold:∀k,k<w.heap.size→w'.heap[k]?=w.heap[k]?)(OT:w'.heap[g]?=some (.cells cur t (0,0)))(hlen:rows.length≤db)(Am:db≤maxLen)(O5:cur.size=db*sz)(xn:D6 ρ S w sz rows cur):
 Inv (gJ ρ S.length g db) (S++[⟨aI,some (.arr t sz rows)⟩]) w'∧Ext ρ S w (gJ ρ S.length g db) (S++[⟨aI,some (.arr t sz rows)⟩]) w':=by
 have hx:Ext ρ S w (gJ ρ S.length g db) (S++[⟨aI,some (.arr t sz rows)⟩]) w':=by
  refine⟨CX,⟨vV.1,by first|exact vV.2|exact fun _=>vV.2⟩,vY,by omega,fun k hk=>⟨⟨by have:=hk.1;omega,fun id o c g' eU ho dq hr=>?_⟩,hold k hk.1⟩,by simp,fun id o o' ho eI=>?_⟩
  ·by_cases dD:id=S.length
   ·subst dD;simp only[gJ,aQ,aa,cB]at hr;have:=hk.1;omega
   ·rw[aF (by have:=(List.getElem?_eq_some_iff.1 ho).1;simp at this;omega)]at ho;simp only[gJ,dD,aZ]at hr;exact hk.2 id o c g' eU ho dq hr
  ·have aR:=(List.getElem?_eq_some_iff.1 ho).1;rw[aF aR,ho]at eI;cases eI;exact⟨ah _,fun _ c hc=>⟨c,hc,eR.fD c,by simp[gJ,Nat.ne_of_lt aR]⟩⟩
 refine⟨⟨fun id v e s rs hs=>?_,fun i j o p c d q x y ho hp hc hd hr iA=>?_,jP hi hx (fun id v rs hs=>?_) (fun id v rs q hs hq=>?_),jJ hi hx⟩,hx⟩
 ·by_cases dD:id=S.length
  ·subst dD;rw[aD (ah _)]at hs;simp at hs;obtain⟨_,rfl,rfl,rfl⟩:=hs;exact⟨xn.1,.inr ⟨g,db,cur,by simp[gJ],hlen,Am,OT,O5,(xn.ext hx).2⟩⟩
  ·rw[aF (by have:=(List.getElem?_eq_some_iff.1 hs).1;simp at this;omega)]at hs;obtain⟨h1,h2⟩:=hi.rows id v e s rs hs;refine⟨h1,?_⟩;simp only[gJ,dD,aZ];rcases h2 with h2|⟨g',eU,kI,a,b,c,d,f,k⟩
   ·exact .inl h2
   ·refine .inr ⟨g',eU,kI,a,b,c,?_,f,fun i r fv j y hj=>?_⟩
    ·rw[hold g' (Array.getElem?_eq_some_iff.1 d).1];exact d
    ·obtain⟨u,hu,hv,h1⟩:=k i r fv j y hj;exact⟨u,hu,hv.ext hx,h1⟩
 ·have blk:∀(i:Nat) (o:Obj) (c:eR) (q x:Nat),S[i]?=some o→o.st=some c→ρ i=some (q,x)→q<w.heap.size:=by
   intro i o c q x ho hc hr;exact hi.block ho hc hr
  have low:∀(i:Nat) (o:Obj),(S++[⟨aI,some (.arr t sz rows)⟩])[i]?=some o→i≠S.length→S[i]?=some o∧i<S.length:=by
   intro i o ho eY;have aR:i<S.length:=by have:=(List.getElem?_eq_some_iff.1 ho).1;simp at this;omega
   exact⟨by rwa[aF aR]at ho,aR⟩
  by_cases h1:i=S.length<;>by_cases h2:j=S.length
  ·rw[h1,h2]
  ·exfalso;obtain⟨Kz,_⟩:=low j p hp h2;simp only[gJ,h1,aQ,aa,cB]at hr;simp only[gJ,h2,aZ]at iA;have:=blk j p d q y Kz hd iA;omega
  ·exfalso;obtain⟨eI,_⟩:=low i o ho h1;simp only[gJ,h2,aQ,aa,cB]at iA;simp only[gJ,h1,aZ]at hr;have:=blk i o c q x eI hc hr;omega
  ·obtain⟨eI,_⟩:=low i o ho h1;obtain⟨Kz,_⟩:=low j p hp h2;simp only[gJ,h1,aZ]at hr;simp only[gJ,h2,aZ]at iA;exact hi.inj i j o p c d q x y eI Kz hc hd hr iA
 ·by_cases dD:id=S.length
  ·subst dD;rw[aD (ah _)]at hs;simp at hs
  ·rw[aF (by have:=(List.getElem?_eq_some_iff.1 hs).1;simp at this;omega)]at hs;exact⟨hs,by simp[gJ,dD]⟩
 ·by_cases dD:id=S.length
  ·subst dD;rw[aD (ah _)]at hs;simp at hs
  ·rw[aF (by have:=(List.getElem?_eq_some_iff.1 hs).1;simp at this;omega)]at hs;exact hold q (hi.block hs rfl hq)
theorem mo(hi:Inv ρ S w){w':World}{id aI gS g g' db eU sz:Nat}{t:TypeId}{rows bT:List (List V)}{cur:Array Value}(hs:S[id]?=some ⟨aI,some (.arr t sz rows)⟩)(hr:ρ id=some (g,db))
 (hg:(g'=g∧eU=db∧(gS=aI→rows.length=bT.length))∨(w.heap.size≤g'∧aI<gS))(iP:aI≤gS)(hG:w.heap.size≤w'.heap.size)(CX:w'.os=w.os)(vV:w'.tape=w.tape∧w.drawn≤w'.drawn)(vY:w'.output=w.output)
 (hold:∀k,k<w.heap.size→k≠g→w'.heap[k]?=w.heap[k]?)(OT:w'.heap[g']?=some (.cells cur t (0,0)))(hlen:bT.length≤eU)(Am:eU≤maxLen)(O5:cur.size=eU*sz)
 (xn:D6 ρ S w sz bT cur):
 Inv (gJ ρ id g' eU) (S.set id ⟨gS,some (.arr t sz bT)⟩) w'∧Ext ρ S w (gJ ρ id g' eU) (S.set id ⟨gS,some (.arr t sz bT)⟩) w':=by
 have dD:=(List.getElem?_eq_some_iff.1 hs).1;have hgo:∀k,eo ρ S w k→k≠g:=fun k hk hkg=>hk.2 id _ _ g db hs rfl hr hkg.symm;have hx:Ext ρ S w (gJ ρ id g' eU) (S.set id ⟨gS,some (.arr t sz bT)⟩) w':=by
  refine⟨CX,⟨vV.1,by first|exact vV.2|exact fun _=>vV.2⟩,vY,hG,fun k hk=>⟨⟨by have:=hk.1;omega,fun i o c q x ho dq kG=>?_⟩,hold k hk.1 (hgo k hk)⟩,by simp,fun i o o' ho eI=>?_⟩
  ·by_cases h1:i=id
   ·subst h1;simp only[gJ,aQ,aa,cB]at kG;rcases hg with⟨rfl,_⟩|⟨h2,_⟩
    ·have:=hgo k hk;omega
    ·have:=hk.1;omega
   ·rw[bB (gQ h1)]at ho;simp only[gJ,h1,aZ]at kG;exact hk.2 i o c q x ho dq kG
  ·by_cases h1:i=id
   ·subst h1;rw[aT dD]at eI;rw[hs]at ho;cases ho;cases eI;refine⟨iP,fun hv c hc=>?_⟩;simp only at hv;simp only[aa]at hc;subst hc;rcases hg with⟨rfl,rfl,hl⟩|⟨_,h2⟩
    ·exact⟨_,rfl,⟨rfl,rfl,hl hv⟩,by simp[gJ,hr]⟩
    ·omega
   ·rw[bB (gQ h1),ho]at eI;cases eI;exact⟨ah _,fun _ c hc=>⟨c,hc,eR.fD c,by simp[gJ,h1]⟩⟩
 refine⟨⟨fun i v e s rs fH=>?_,fun i j o p c d q x y ho hp hc hd kG w5=>?_,jP hi hx (fun i v rs iV=>?_) (fun i v rs q iV hq=>?_),jJ hi hx⟩,hx⟩
 ·by_cases h1:i=id
  ·subst h1;rw[aT dD]at fH;simp only[aa,Obj.mk.injEq,eR.arr.injEq]at fH;obtain⟨_,rfl,rfl,rfl⟩:=fH;exact⟨xn.1,.inr ⟨g',eU,cur,by simp[gJ],hlen,Am,OT,O5,(xn.ext hx).2⟩⟩
  ·rw[bB (gQ h1)]at fH;obtain⟨h2,h3⟩:=hi.rows i v e s rs fH;refine⟨h2,?_⟩;simp only[gJ,h1,aZ];rcases h3 with h3|⟨g2,qz,wu,a,b,c,d,f,k⟩
   ·exact .inl h3
   ·refine .inr ⟨g2,qz,wu,a,b,c,?_,f,fun i r fv j y hj=>?_⟩
    ·rw[hold g2 (Array.getElem?_eq_some_iff.1 d).1 (fun hh=>h1 (hi.inj i id _ _ _ _ g qz db fH hs rfl rfl (by rw[←hh];exact a) hr))];exact d
    ·obtain⟨u,hu,hv,h4⟩:=k i r fv j y hj;exact⟨u,hu,hv.ext hx,h4⟩
 ·have low:∀(i:Nat) (o:Obj),(S.set id ⟨gS,some (.arr t sz bT)⟩)[i]?=some o→i≠id→S[i]?=some o:=fun i o ho eY=>by rwa[bB (gQ eY)]at ho
  have blk:∀(i:Nat) (o:Obj) (c:eR) (q x:Nat),S[i]?=some o→o.st=some c→ρ i=some (q,x)→q<w.heap.size:=by
   intro i o c q x ho hc hr;exact hi.block ho hc hr
  have other:∀(i:Nat) (o:Obj) (c:eR) (q x:Nat),S[i]?=some o→o.st=some c→ρ i=some (q,x)→i≠id→q≠g':=by
   intro i o c q x ho hc kG eY heq;rcases hg with⟨rfl,_⟩|⟨h2,_⟩
   ·exact eY (hi.inj i id o _ c _ q x db ho hs hc rfl kG (by rw[heq];exact hr))
   ·have:=blk i o c q x ho hc kG;omega
  by_cases h1:i=id<;>by_cases h2:j=id
  ·rw[h1,h2]
  ·exfalso;simp only[gJ,h1,aQ,aa,cB]at kG;simp only[gJ,h2,aZ]at w5;exact other j p d q y (low j p hp h2) hd w5 h2 kG.1.symm
  ·exfalso;simp only[gJ,h2,aQ,aa,cB]at w5;simp only[gJ,h1,aZ]at kG;exact other i o c q x (low i o ho h1) hc kG h1 w5.1.symm
  ·simp only[gJ,h1,aZ]at kG;simp only[gJ,h2,aZ]at w5;exact hi.inj i j o p c d q x y (low i o ho h1) (low j p hp h2) hc hd kG w5
 ·by_cases h1:i=id
  ·subst h1;rw[aT dD]at iV;simp at iV
  ·rw[bB (gQ h1)]at iV;exact⟨iV,by simp[gJ,h1]⟩
 ·by_cases h1:i=id
  ·subst h1;rw[aT dD]at iV;simp at iV
  ·rw[bB (gQ h1)]at iV;exact hold q (hi.block iV rfl hq) (fun hh=>h1 (hi.inj i id _ _ _ _ g 0 db iV hs rfl rfl (by rw[←hh];exact hq) hr))
theorem Hw{dn:Place}{w':World}{g db sz aI:Nat}{t:TypeId}{rows:List (List V)}(hr:dn S.length=some (g,db)):VR dn (S++[⟨aI,some (.arr t sz rows)⟩]) w' false (.ptr S.length aI 0 0) (.pointer (some ⟨g,0,none⟩)):=
 .ptr (by simp) (fun o ho=>by rw[aD (ah _)]at ho;simp at ho;rw[←ho];exact ah _)
  (fun e s rs _=>⟨g,db,hr,by simp⟩) rfl
theorem Af{dn:Place}{w':World}{g db sz aI n:Nat}{t:TypeId}{rows:List (List V)}(hr:dn S.length=some (g,db))(hn:n≤rows.length)(ht:n≤db):
 VR dn (S++[⟨aI,some (.arr t sz rows)⟩]) w' false (.cU S.length aI 0 n) (.slice (some ⟨g,0,none⟩) n db):=
 .cU (by simp) (fun o ho=>by rw[aD (ah _)]at ho;simp at ho;rw[←ho];exact ah _)
  (fun e s rs hs=>by
   rw[aD (ah _)]at hs;simp at hs;obtain⟨_,_,rfl⟩:=hs;exact⟨by omega,.inr (.inl ⟨g,db,db,hr,by simp,by omega,by omega,by omega⟩)⟩) ⟨_,_,rfl⟩
theorem pB{dn:Place}{w':World}{id g db cap sz aI n:Nat}{t:TypeId}{rows:List (List V)}(dD:id<S.length)(hr:dn id=some (g,db))(hn:n≤rows.length)(ht:n≤cap)(hc:cap≤db):
 VR dn (S.set id ⟨aI,some (.arr t sz rows)⟩) w' false (.cU id aI 0 n) (.slice (some ⟨g,0,none⟩) n cap):=
 .cU (by simpa using dD) (fun o ho=>by rw[aT dD]at ho;simp at ho;rw[←ho];exact ah _)
  (fun e s rs hs=>by
   rw[aT dD]at hs;simp at hs;obtain⟨_,_,rfl⟩:=hs;exact⟨by omega,.inr (.inl ⟨g,db,cap,hr,by simp,by omega,by omega,by omega⟩)⟩) ⟨_,_,rfl⟩
theorem M4(hi:Inv ρ S w){aI sz:Nat}{t:TypeId}:Inv (fun k=>if k=S.length then none else ρ k) (S++[⟨aI,some (.arr t sz [])⟩]) w∧Ext ρ S w (fun k=>if k=S.length then none else ρ k) (S++[⟨aI,some (.arr t sz [])⟩]) w:=by
 have low:∀(i:Nat) (o:Obj),(S++[⟨aI,some (.arr t sz [])⟩])[i]?=some o→i≠S.length→S[i]?=some o:=by
  intro i o ho eY;have aR:i<S.length:=by have:=(List.getElem?_eq_some_iff.1 ho).1;simp at this;omega
  rwa[aF aR]at ho
 have hx:Ext ρ S w (fun k=>if k=S.length then none else ρ k) (S++[⟨aI,some (.arr t sz [])⟩]) w:=by
  refine⟨rfl,⟨rfl,by first|exact ah _|exact az _|exact fun _=>ah _⟩,rfl,ah _,fun k hk=>⟨⟨hk.1,fun id o c g' eU ho dq hr=>?_⟩,rfl⟩,by simp,fun id o o' ho eI=>?_⟩
  ·by_cases dD:id=S.length
   ·simp[dD]at hr
   ·simp only[dD,aZ]at hr;exact hk.2 id o c g' eU (low id o ho dD) dq hr
  ·have aR:=(List.getElem?_eq_some_iff.1 ho).1;rw[aF aR,ho]at eI;cases eI;exact⟨ah _,fun _ c hc=>⟨c,hc,eR.fD c,by simp[Nat.ne_of_lt aR]⟩⟩
 refine⟨⟨fun id v e s rs hs=>?_,fun i j o p c d q x y ho hp hc hd hr iA=>?_,jP hi hx (fun id v rs hs=>?_) (fun id v rs q hs hq=>rfl),jJ hi hx⟩,hx⟩
 ·by_cases dD:id=S.length
  ·subst dD;rw[aD (ah _)]at hs;simp at hs;obtain⟨_,rfl,rfl,rfl⟩:=hs;exact⟨by simp,.inl ⟨by simp,rfl⟩⟩
  ·obtain⟨h1,h2⟩:=hi.rows id v e s rs (low id _ hs dD);refine⟨h1,?_⟩;simp only[dD,aZ];rcases h2 with h2|⟨g',eU,kI,a,b,c,d,f,k⟩
   ·exact .inl h2
   ·refine .inr ⟨g',eU,kI,a,b,c,d,f,fun i r fv j y hj=>?_⟩;obtain⟨u,hu,hv,h1⟩:=k i r fv j y hj;exact⟨u,hu,hv.ext hx,h1⟩
 ·by_cases h1:i=S.length
  ·simp[h1]at hr
  ·by_cases h2:j=S.length
   ·simp[h2]at iA
   ·simp only[h1,aZ]at hr;simp only[h2,aZ]at iA;exact hi.inj i j o p c d q x y (low i o ho h1) (low j p hp h2) hc hd hr iA
 ·by_cases dD:id=S.length
  ·subst dD;rw[aD (ah _)]at hs;simp at hs
  ·exact⟨low id _ hs dD,by simp[dD]⟩
theorem TR{dn:Place}{w':World}{sz aI:Nat}{t:TypeId}(hr:dn S.length=none):VR dn (S++[⟨aI,some (.arr t sz [])⟩]) w' false (.cU S.length aI 0 0) (.slice none 0 0):=
 .cU (by simp) (fun o ho=>by rw[aD (ah _)]at ho;simp at ho;rw[←ho];exact ah _)
  (fun e s rs _=>⟨by omega,.inl ⟨hr,rfl,rfl,rfl⟩⟩) ⟨_,_,rfl⟩
theorem set_nil(hi:Inv ρ S w){id aI sz:Nat}{t:TypeId}(hs:S[id]?=some ⟨aI,some (.arr t sz [])⟩)(hr:ρ id=none):
 Inv ρ (S.set id ⟨aI+1,some (.arr t sz [])⟩) w∧Ext ρ S w ρ (S.set id ⟨aI+1,some (.arr t sz [])⟩) w:=by
 have dD:=(List.getElem?_eq_some_iff.1 hs).1;have low:∀(i:Nat) (o:Obj),(S.set id ⟨aI+1,some (.arr t sz [])⟩)[i]?=some o→i≠id→S[i]?=some o:=fun i o ho eY=>by rwa[bB (gQ eY)]at ho
 have hx:Ext ρ S w ρ (S.set id ⟨aI+1,some (.arr t sz [])⟩) w:=by
  refine⟨rfl,⟨rfl,by first|exact ah _|exact az _|exact fun _=>ah _⟩,rfl,ah _,fun k hk=>⟨⟨hk.1,fun i o c q x ho dq kG=>?_⟩,rfl⟩,by simp,fun i o o' ho eI=>?_⟩
  ·by_cases h1:i=id
   ·rw[h1,hr]at kG;cases kG
   ·exact hk.2 i o c q x (low i o ho h1) dq kG
  ·by_cases h1:i=id
   ·subst h1;rw[aT dD]at eI;rw[hs]at ho;cases ho;cases eI;exact⟨dB _,fun hv=>by simp at hv⟩
   ·rw[bB (gQ h1),ho]at eI;cases eI;exact⟨ah _,fun _ c hc=>⟨c,hc,eR.fD c,rfl⟩⟩
 refine⟨⟨fun i v e s rs fH=>?_,fun i j o p c d q x y ho hp hc hd kG w5=>?_,jP hi hx (fun i v rs iV=>?_) (fun i v rs q iV hq=>rfl),jJ hi hx⟩,hx⟩
 ·by_cases h1:i=id
  ·subst h1;rw[aT dD]at fH;simp only[aa,Obj.mk.injEq,eR.arr.injEq]at fH;obtain⟨_,rfl,rfl,rfl⟩:=fH;exact⟨by simp,.inl ⟨hr,rfl⟩⟩
  ·obtain⟨h2,h3⟩:=hi.rows i v e s rs (low i _ fH h1);refine⟨h2,?_⟩;rcases h3 with h3|⟨g2,qz,wu,a,b,c,d,f,k⟩
   ·exact .inl h3
   ·refine .inr ⟨g2,qz,wu,a,b,c,d,f,fun i r fv j y hj=>?_⟩;obtain⟨u,hu,hv,h4⟩:=k i r fv j y hj;exact⟨u,hu,hv.ext hx,h4⟩
 ·by_cases h1:i=id
  ·rw[h1,hr]at kG;cases kG
  ·by_cases h2:j=id
   ·rw[h2,hr]at w5;cases w5
   ·exact hi.inj i j o p c d q x y (low i o ho h1) (low j p hp h2) hc hd kG w5
 ·by_cases h1:i=id
  ·subst h1;rw[aT dD]at iV;simp at iV
  ·exact⟨low i _ iV h1,rfl⟩
theorem oL{dn:Place}{w':World}{id sz aI:Nat}{t:TypeId}(dD:id<S.length)(hr:dn id=none):VR dn (S.set id ⟨aI,some (.arr t sz [])⟩) w' false (.cU id aI 0 0) (.slice none 0 0):=
 .cU (by simpa using dD) (fun o ho=>by rw[aT dD]at ho;simp at ho;rw[←ho];exact ah _)
  (fun e s rs _=>⟨by omega,.inl ⟨hr,rfl,rfl,rfl⟩⟩) ⟨_,_,rfl⟩
theorem Mn(hi:Inv ρ S w){w':World}{id aI gS g' eU sz:Nat}{t:TypeId}{rows bT:List (List V)}{cur:Array Value}(hs:S[id]?=some ⟨aI,some (.arr t sz rows)⟩)(hr:ρ id=none)
 (hg:w.heap.size≤g')(iP:aI<gS)(hG:w.heap.size≤w'.heap.size)(CX:w'.os=w.os)(vV:w'.tape=w.tape∧w.drawn≤w'.drawn)(vY:w'.output=w.output)
 (hold:∀k,k<w.heap.size→w'.heap[k]?=w.heap[k]?)(OT:w'.heap[g']?=some (.cells cur t (0,0)))(hlen:bT.length≤eU)(Am:eU≤maxLen)(O5:cur.size=eU*sz)
 (xn:D6 ρ S w sz bT cur):
 Inv (gJ ρ id g' eU) (S.set id ⟨gS,some (.arr t sz bT)⟩) w'∧Ext ρ S w (gJ ρ id g' eU) (S.set id ⟨gS,some (.arr t sz bT)⟩) w':=by
 have dD:=(List.getElem?_eq_some_iff.1 hs).1;have low:∀(i:Nat) (o:Obj),(S.set id ⟨gS,some (.arr t sz bT)⟩)[i]?=some o→i≠id→S[i]?=some o:=fun i o ho eY=>by rwa[bB (gQ eY)]at ho
 have hx:Ext ρ S w (gJ ρ id g' eU) (S.set id ⟨gS,some (.arr t sz bT)⟩) w':=by
  refine⟨CX,⟨vV.1,by first|exact vV.2|exact fun _=>vV.2⟩,vY,hG,fun k hk=>⟨⟨by have:=hk.1;omega,fun i o c q x ho dq kG=>?_⟩,hold k hk.1⟩,by simp,fun i o o' ho eI=>?_⟩
  ·by_cases h1:i=id
   ·subst h1;simp only[gJ,aQ,aa,cB]at kG;have:=hk.1;omega
   ·simp only[gJ,h1,aZ]at kG;exact hk.2 i o c q x (low i o ho h1) dq kG
  ·by_cases h1:i=id
   ·subst h1;rw[aT dD]at eI;rw[hs]at ho;cases ho;cases eI;refine⟨Nat.le_of_lt iP,fun hv=>?_⟩;simp only at hv;omega
   ·rw[bB (gQ h1),ho]at eI;cases eI;exact⟨ah _,fun _ c hc=>⟨c,hc,eR.fD c,by simp[gJ,h1]⟩⟩
 have blk:∀(i:Nat) (o:Obj) (c:eR) (q x:Nat),S[i]?=some o→o.st=some c→ρ i=some (q,x)→q<w.heap.size:=by
  intro i o c q x ho hc hr;exact hi.block ho hc hr
 refine⟨⟨fun i v e s rs fH=>?_,fun i j o p c d q x y ho hp hc hd kG w5=>?_,jP hi hx (fun i v rs iV=>?_) (fun i v rs q iV hq=>?_),jJ hi hx⟩,hx⟩
 ·by_cases h1:i=id
  ·subst h1;rw[aT dD]at fH;simp only[aa,Obj.mk.injEq,eR.arr.injEq]at fH;obtain⟨_,rfl,rfl,rfl⟩:=fH;exact⟨xn.1,.inr ⟨g',eU,cur,by simp[gJ],hlen,Am,OT,O5,(xn.ext hx).2⟩⟩
  ·obtain⟨h2,h3⟩:=hi.rows i v e s rs (low i _ fH h1);refine⟨h2,?_⟩;simp only[gJ,h1,aZ];rcases h3 with h3|⟨g2,qz,wu,a,b,c,d,f,k⟩
   ·exact .inl h3
   ·refine .inr ⟨g2,qz,wu,a,b,c,?_,f,fun i r fv j y hj=>?_⟩
    ·rw[hold g2 (Array.getElem?_eq_some_iff.1 d).1];exact d
    ·obtain⟨u,hu,hv,h4⟩:=k i r fv j y hj;exact⟨u,hu,hv.ext hx,h4⟩
 ·by_cases h1:i=id<;>by_cases h2:j=id
  ·rw[h1,h2]
  ·exfalso;simp only[gJ,h1,aQ,aa,cB]at kG;simp only[gJ,h2,aZ]at w5;have:=blk j p d q y (low j p hp h2) hd w5;omega
  ·exfalso;simp only[gJ,h2,aQ,aa,cB]at w5;simp only[gJ,h1,aZ]at kG;have:=blk i o c q x (low i o ho h1) hc kG;omega
  ·simp only[gJ,h1,aZ]at kG;simp only[gJ,h2,aZ]at w5;exact hi.inj i j o p c d q x y (low i o ho h1) (low j p hp h2) hc hd kG w5
 ·by_cases h1:i=id
  ·subst h1;rw[aT dD]at iV;simp at iV
  ·exact⟨low i _ iV h1,by simp[gJ,h1]⟩
 ·by_cases h1:i=id
  ·subst h1;rw[aT dD]at iV;simp at iV
  ·exact hold q (hi.block (low i _ iV h1) rfl hq)
theorem vo(hi:Inv ρ S w){w':World}{g aI:Nat}{rows:jF}(iW:∀i,rows.x≠ .held i)(hg:g=w.heap.size)(hG:w'.heap.size=w.heap.size+1)(CX:w'.os=w.os)(vV:w'.tape=w.tape∧w.drawn≤w'.drawn)(vY:w'.output=w.output)
 (hold:∀k,k<w.heap.size→w'.heap[k]?=w.heap[k]?)(xn:Ext ρ S w (gJ ρ S.length g 0) (S++[⟨aI,some (.mp rows)⟩]) w'→HR (gJ ρ S.length g 0) (S++[⟨aI,some (.mp rows)⟩]) w' S.length rows g):
 Inv (gJ ρ S.length g 0) (S++[⟨aI,some (.mp rows)⟩]) w'∧Ext ρ S w (gJ ρ S.length g 0) (S++[⟨aI,some (.mp rows)⟩]) w':=by
 have low:∀(i:Nat) (o:Obj),(S++[⟨aI,some (.mp rows)⟩])[i]?=some o→i≠S.length→S[i]?=some o∧i<S.length:=by
  intro i o ho eY;have aR:i<S.length:=by have:=(List.getElem?_eq_some_iff.1 ho).1;simp at this;omega
  exact⟨by rwa[aF aR]at ho,aR⟩
 have hx:Ext ρ S w (gJ ρ S.length g 0) (S++[⟨aI,some (.mp rows)⟩]) w':=by
  refine⟨CX,⟨vV.1,by first|exact vV.2|exact fun _=>vV.2⟩,vY,by omega,fun k hk=>⟨⟨by have:=hk.1;omega,fun id o c g' eU ho dq hr=>?_⟩,hold k hk.1⟩,by simp,fun id o o' ho eI=>?_⟩
  ·by_cases dD:id=S.length
   ·subst dD;simp only[gJ,aQ,aa,cB]at hr;have:=hk.1;omega
   ·simp only[gJ,dD,aZ]at hr;exact hk.2 id o c g' eU (low id o ho dD).1 dq hr
  ·have aR:=(List.getElem?_eq_some_iff.1 ho).1;rw[aF aR,ho]at eI;cases eI;exact⟨ah _,fun _ c hc=>⟨c,hc,eR.fD c,by simp[gJ,Nat.ne_of_lt aR]⟩⟩
 refine⟨⟨fun id v e s rs hs=>?_,fun i j o p c d q x y ho hp hc hd hr iA=>?_,fun id v rs hs=>?_,jJ hi hx⟩,hx⟩
 ·by_cases dD:id=S.length
  ·subst dD;rw[aD (ah _)]at hs;simp at hs
  ·obtain⟨h1,h2⟩:=hi.rows id v e s rs (low id _ hs dD).1;refine⟨h1,?_⟩;simp only[gJ,dD,aZ];rcases h2 with h2|⟨g',eU,kI,a,b,c,d,f,k⟩
   ·exact .inl h2
   ·refine .inr ⟨g',eU,kI,a,b,c,?_,f,fun i r fv j y hj=>?_⟩
    ·rw[hold g' (Array.getElem?_eq_some_iff.1 d).1];exact d
    ·obtain⟨u,hu,hv,h1⟩:=k i r fv j y hj;exact⟨u,hu,hv.ext hx,h1⟩
 ·by_cases h1:i=S.length<;>by_cases h2:j=S.length
  ·rw[h1,h2]
  ·exfalso;simp only[gJ,h1,aQ,aa,cB]at hr;simp only[gJ,h2,aZ]at iA;have:=hi.block (low j p hp h2).1 hd iA;omega
  ·exfalso;simp only[gJ,h2,aQ,aa,cB]at iA;simp only[gJ,h1,aZ]at hr;have:=hi.block (low i o ho h1).1 hc hr;omega
  ·simp only[gJ,h1,aZ]at hr;simp only[gJ,h2,aZ]at iA;exact hi.inj i j o p c d q x y (low i o ho h1).1 (low j p hp h2).1 hc hd hr iA
 ·by_cases dD:id=S.length
  ·subst dD;rw[aD (ah _)]at hs;simp at hs;obtain⟨_,rfl⟩:=hs;exact⟨g,by simp[gJ],xn hx⟩
  ·obtain⟨g',a,b⟩:=hi.maps id v rs (low id _ hs dD).1;refine⟨g',by simp only[gJ,dD,aZ];exact a,b.ext hx ?_ fun si tX kd bT hm=>?_⟩
   ·obtain⟨_,b⟩:=b.there;exact hold g' (Array.getElem?_eq_some_iff.1 b).1
   ·by_cases ix:si=S.length
    ·subst ix;rw[aD (ah _)]at hm;simp at hm;obtain⟨_,rfl⟩:=hm;exact absurd rfl (iW _)
    ·obtain⟨h1,h2⟩:=low si _ hm ix;exact⟨h1,by simp[gJ,ix],fun gm hgm=>hold gm (hi.block h1 rfl hgm)⟩
theorem uq(hi:Inv ρ S w){w':World}{id aI g:Nat}{rows bT:jF}(iW:∀i,bT.x≠ .held i)(hs:S[id]?=some ⟨aI,some (.mp rows)⟩)(hr:ρ id=some (g,0))(hG:w'.heap.size=w.heap.size)(CX:w'.os=w.os)(vV:w'.tape=w.tape∧w.drawn≤w'.drawn)(vY:w'.output=w.output)
 (hold:∀k,k≠g→w'.heap[k]?=w.heap[k]?)(qY:rows.kd=bT.kd∧rows.x.iw=bT.x.iw)(xn:Ext ρ S w ρ (S.set id ⟨aI,some (.mp bT)⟩) w'→HR ρ (S.set id ⟨aI,some (.mp bT)⟩) w' id bT g):
 Inv ρ (S.set id ⟨aI,some (.mp bT)⟩) w'∧Ext ρ S w ρ (S.set id ⟨aI,some (.mp bT)⟩) w':=by
 have dD:=(List.getElem?_eq_some_iff.1 hs).1;have low:∀(i:Nat) (o:Obj),(S.set id ⟨aI,some (.mp bT)⟩)[i]?=some o→i≠id→S[i]?=some o:=fun i o ho eY=>by rwa[bB (gQ eY)]at ho
 have any:∀(i:Nat) (o:Obj) (c:eR),(S.set id ⟨aI,some (.mp bT)⟩)[i]?=some o→o.st=some c→∃o' c',S[i]?=some o'∧o'.st=some c':=by
  intro i o c ho hc;by_cases h1:i=id
  ·subst h1;exact⟨_,_,hs,rfl⟩
  ·exact⟨o,c,low i o ho h1,hc⟩
 have hgo:∀k,eo ρ S w k→k≠g:=fun k hk hkg=>hk.2 id _ _ g 0 hs rfl hr hkg.symm;have hx:Ext ρ S w ρ (S.set id ⟨aI,some (.mp bT)⟩) w':=by
  refine⟨CX,⟨vV.1,by first|exact vV.2|exact fun _=>vV.2⟩,vY,by omega,fun k hk=>⟨⟨by have:=hk.1;omega,fun i o c q x ho dq kG=>?_⟩,hold k (hgo k hk)⟩,by simp,fun i o o' ho eI=>?_⟩
  ·obtain⟨o',c',h1,h2⟩:=any i o c ho dq;exact hk.2 i o' c' q x h1 h2 kG
  ·by_cases h1:i=id
   ·subst h1;rw[aT dD]at eI;rw[hs]at ho;cases ho;cases eI;exact⟨ah _,fun _ c hc=>by cases hc;exact⟨_,rfl,qY,rfl⟩⟩
   ·rw[bB (gQ h1),ho]at eI;cases eI;exact⟨ah _,fun _ c hc=>⟨c,hc,eR.fD c,rfl⟩⟩
 refine⟨⟨fun i v e s rs fH=>?_,fun i j o p c d q x y ho hp hc hd kG w5=>?_,fun i v rs fH=>?_,jJ hi hx⟩,hx⟩
 ·by_cases h1:i=id
  ·subst h1;rw[aT dD]at fH;simp at fH
  ·obtain⟨h2,h3⟩:=hi.rows i v e s rs (low i _ fH h1);refine⟨h2,?_⟩;rcases h3 with h3|⟨g2,qz,wu,a,b,c,d,f,k⟩
   ·exact .inl h3
   ·refine .inr ⟨g2,qz,wu,a,b,c,?_,f,fun i r fv j y hj=>?_⟩
    ·rw[hold g2 (fun hh=>h1 (hi.inj i id _ _ _ _ g qz 0 (low i _ fH h1) hs rfl rfl (by rw[←hh];exact a) hr))];exact d
    ·obtain⟨u,hu,hv,h4⟩:=k i r fv j y hj;exact⟨u,hu,hv.ext hx,h4⟩
 ·obtain⟨o',c',h1,h2⟩:=any i o c ho hc;obtain⟨p',d',h3,h4⟩:=any j p d hp hd;exact hi.inj i j o' p' c' d' q x y h1 h3 h2 h4 kG w5
 ·by_cases h1:i=id
  ·subst h1;rw[aT dD]at fH;simp only[aa,Obj.mk.injEq,eR.mp.injEq]at fH;obtain⟨_,rfl⟩:=fH;exact⟨g,hr,xn hx⟩
  ·obtain⟨g',a,b⟩:=hi.maps i v rs (low i _ fH h1);refine⟨g',a,b.ext hx (hold g' (fun hh=>h1 (hi.inj i id _ _ _ _ g 0 0 (low i _ fH h1) hs rfl rfl (by rw[←hh];exact a) hr))) fun si tX kd iU hm=>?_⟩;by_cases ix:si=id
   ·subst ix;rw[aT dD]at hm;simp only[aa,Obj.mk.injEq,eR.mp.injEq]at hm;obtain⟨_,rfl⟩:=hm;exact absurd rfl (iW _)
   ·exact⟨low si _ hm ix,rfl,fun gm hgm=>hold gm (fun hh=>ix (hi.inj si id _ _ _ _ g 0 0 (low si _ hm ix) hs rfl rfl (by rw[←hh];exact hgm) hr))⟩
theorem NZ(hi:Inv ρ S w){id aI it iO g:Nat}{kd:KD}{rows:List (V×V)}{mi:jF}{since:Nat}{seen:Array Nat}(hs:S[id]?=some ⟨aI,some (.mp ⟨kd,rows,.free⟩)⟩)(hr:ρ id=some (g,0))
 {l:List MapEntry}{ce:MapEntry}(qZ:S[it]?=some ⟨iO,some (.mp mi)⟩)(Lp:mi.x= .iter (some (id,aI)) none)(gK:∀gi,ρ it=some (gi,0)→w.heap[gi]?=some (.mapIter (some g) since seen since))(pD:∀p∈mi.rows,jl mi.kd p.1=true)(Uq:ER ρ S w mi.rows l)(hl:Sf ρ w none l ce id g since seen):
 Inv ρ (S.set id ⟨aI,some (.mp ⟨kd,rows,.held it⟩)⟩) w∧Ext ρ S w ρ (S.set id ⟨aI,some (.mp ⟨kd,rows,.held it⟩)⟩) w:=by
 have dD:=(List.getElem?_eq_some_iff.1 hs).1;have eY:it≠id:=by
  rintro rfl;rw[hs]at qZ;simp only[aa,Obj.mk.injEq,eR.mp.injEq]at qZ;obtain⟨_,rfl⟩:=qZ;cases Lp
 have low:∀(i:Nat) (o:Obj),(S.set id ⟨aI,some (.mp ⟨kd,rows,.held it⟩)⟩)[i]?=some o→i≠id→S[i]?=some o:=fun i o ho eY=>by rwa[bB (gQ eY)]at ho
 have any:∀(i:Nat) (o:Obj) (c:eR),(S.set id ⟨aI,some (.mp ⟨kd,rows,.held it⟩)⟩)[i]?=some o→o.st=some c→∃o' c',S[i]?=some o'∧o'.st=some c':=by
  intro i o c ho hc;by_cases h1:i=id
  ·subst h1;exact⟨_,_,hs,rfl⟩
  ·exact⟨o,c,low i o ho h1,hc⟩
 have hx:Ext ρ S w ρ (S.set id ⟨aI,some (.mp ⟨kd,rows,.held it⟩)⟩) w:=by
  refine⟨rfl,⟨rfl,by first|exact ah _|exact az _|exact fun _=>ah _⟩,rfl,ah _,fun k hk=>⟨⟨hk.1,fun i o c q x ho dq kG=>?_⟩,rfl⟩,by simp,fun i o o' ho eI=>?_⟩
  ·obtain⟨o',c',h1,h2⟩:=any i o c ho dq;exact hk.2 i o' c' q x h1 h2 kG
  ·by_cases h1:i=id
   ·subst h1;rw[aT dD]at eI;rw[hs]at ho;cases ho;cases eI;exact⟨ah _,fun _ c hc=>by cases hc;exact⟨_,rfl,⟨rfl,rfl⟩,rfl⟩⟩
   ·rw[bB (gQ h1),ho]at eI;cases eI;exact⟨ah _,fun _ c hc=>⟨c,hc,eR.fD c,rfl⟩⟩
 refine⟨⟨fun i v e s rs fH=>?_,fun i j o p c d q x y ho hp hc hd kG w5=>?_,fun i v rs fH=>?_,jJ hi hx⟩,hx⟩
 ·by_cases h1:i=id
  ·subst h1;rw[aT dD]at fH;simp at fH
  ·obtain⟨h2,h3⟩:=hi.rows i v e s rs (low i _ fH h1);refine⟨h2,?_⟩;rcases h3 with h3|⟨g2,qz,wu,a,b,c,d,f,k⟩
   ·exact .inl h3
   ·refine .inr ⟨g2,qz,wu,a,b,c,d,f,fun i r fv j y hj=>?_⟩;obtain⟨u,hu,hv,h4⟩:=k i r fv j y hj;exact⟨u,hu,hv.ext hx,h4⟩
 ·obtain⟨o',c',h1,h2⟩:=any i o c ho hc;obtain⟨p',d',h3,h4⟩:=any j p d hp hd;exact hi.inj i j o' p' c' d' q x y h1 h3 h2 h4 kG w5
 ·by_cases h1:i=id
  ·subst h1;rw[aT dD]at fH;simp only[aa,Obj.mk.injEq,eR.mp.injEq]at fH;obtain⟨rfl,rfl⟩:=fH;obtain⟨g',a,b⟩:=hi.maps _ _ _ hs;obtain⟨es,ck,b1,b2,b3⟩:=b.map rfl;exact⟨g',a,es,ck,b1,b2.ext hx,b3⟩
  ·obtain⟨g',a,b⟩:=hi.maps i v rs (low i _ fH h1);by_cases h2:i=it
   ·subst h2;have om:=low i _ fH h1;rw[qZ]at om;simp only[aa,Obj.mk.injEq,eR.mp.injEq]at om;obtain⟨_,rfl⟩:=om;refine⟨g',a,?_⟩;unfold HR;rw[Lp];exact⟨pD,l,ce,Uq.ext hx,fun p hp=>(by cases hp),g,since,seen,gK g' a,fun kd2 iU _=>hl⟩
   ·refine⟨g',a,b.ext hx rfl fun si tX kd2 iU hm=>?_⟩;by_cases ix:si=id
    ·subst ix;rw[aT dD]at hm;simp only[aa,Obj.mk.injEq,eR.mp.injEq,jF.mk.injEq,MX.held.injEq]at hm;exact absurd hm.2.2.2.symm h2
    ·exact⟨low si _ hm ix,rfl,fun _ _=>rfl⟩
end
end Go.AL
