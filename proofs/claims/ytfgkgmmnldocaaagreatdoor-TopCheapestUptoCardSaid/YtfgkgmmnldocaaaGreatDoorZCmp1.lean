/- Cmp1 -/
import Derived.Test.YtfgkgmmnldocaaaGreatDoorZCsA
import Derived.Test.YtfgkgmmnldocaaaGreatDoorZAlF
import Derived.Test.YtfgkgmmnldocaaaGreatDoorZAlJ
import Derived.Test.YtfgkgmmnldocaaaGreatDoorZCmpC
set_option linter.unusedSectionVars false
set_option linter.unusedSimpArgs false
set_option linter.unusedVariables false
namespace Go.Proofs.YtfgkgmmnldocaaaGreatDoor
open Go Go.AL
variable[Go.AL.Mode][Go.AL.bR]
def eW(s:bS):List V:=[.str s]
inductive b8 where
 |mk (k:Int) (l:List b8) (a b:Int) (p:Pd) (tx:List bS)
mutual
def b8.row:b8→List V
 | .mk k l a b p tx=>[.int .i64 k,.sl 8 (b8.rows l),.int .i64 a,.int .i64 b,.int .i64 p.f,.int .i64 p.t,.int .i64 p.d,.sl 1 (tx.map eW)]
def b8.rows:List b8→List (List V)
 |[]=>[]
 |c::l=>c.row::b8.rows l
end
theorem b8.fI:∀l:List b8,b8.rows l=l.map b8.row
 |[]=>rfl
 |c::l=>by rw[b8.rows,b8.fI l];rfl
structure A4 where
 ty:bS
 cj:Int
 day:Int
 min:Int
 stops:Int
 trans:Int
 aeR:List bS
 aag:List Int
 acV:List bS
def dN(t:A4):List V:=[.str t.ty,.int .i64 t.cj,.int .i64 t.day,.int .i64 t.min,.int .i64 t.stops,.int .i64 t.trans,.sl 1 (t.aeR.map eW),.sl 1 (t.aag.map iu),.sl 1 (t.acV.map eW)]
structure gv where
 s:Sg
 cl:bS
def cR(w:gv):List V:=gl w.s++[.str w.cl]
structure Fr where
 c:bS
 f:bS
 t:bS
 bas:bS
 cl:bS
 BS:Bool
 am:Int
 iv:Int
 gu:Int
def fK(f:Fr):List V:=[.str f.c,.str f.f,.str f.t,.str f.bas,.str f.cl,.bool f.BS,.int .i64 f.am,.int .i64 f.iv,.int .i64 f.gu]
structure o9 where
 n:Int
 w:b8
 comb:List Int
 mn:Int
 mx:Int
 ch:Int
 rf:Int
 jb:List (bS×Int)
def mK(p:bS×Int):List V:=[.str p.1,.int .i64 p.2]
def cx(r:o9):List V:=[.int .i64 r.n]++(r.w.row++[.sl 1 (r.comb.map iu),.int .i64 r.mn,.int .i64 r.mx,.int .i64 r.ch,.int .i64 r.rf,.sl 2 (r.jb.map mK)])
structure Gj where
 n:Int
 gO:List (bS×bS)
 mi:Int
def ig(p:bS×bS):List V:=[.str p.1,.str p.2]
def eP(r:Gj):List V:=[.int .i64 r.n,.sl 2 (r.gO.map ig),.int .i64 r.mi]
mutual
def b8.holds(t:A4):b8→Bool
 | .mk k l a b p tx=>
   if k=1 then true else if k=2 then b8.QY t l else if k=3 then b8.Vg t l else if k=4 then !b8.QY t l
   else if k=5 then FE p t.day else if k=6 then FE p t.cj else if k=7 then decide (a≤IntKind.i64.wrap (t.day-t.cj))
   else if k=8 then(if a≤b then decide (a≤t.min)&&decide (t.min≤b)else decide (a≤t.min)||decide (t.min≤b))
   else if k=9 then decide (t.stops≤a)else if k=10 then decide (t.trans≤a)
   else if k=11 then t.aeR.all fun s=>tx.contains s else if k=12 then t.aag.all fun n=>decide (a≤n)&&decide (n≤b)
   else if k=13 then t.acV.all fun s=>tx.contains s else if k=14 then tx.contains t.ty else false
def b8.QY(t:A4):List b8→Bool
 |[]=>true
 |c::l=>c.holds t&&b8.QY t l
def b8.Vg(t:A4):List b8→Bool
 |[]=>false
 |c::l=>c.holds t||b8.Vg t l
end
theorem b8.rF(t:A4):∀l:List b8,b8.QY t l=l.all (b8.holds t)
 |[]=>rfl
 |c::l=>by rw[b8.QY,b8.rF t l];rfl
theorem b8.AV(t:A4):∀l:List b8,b8.Vg t l=l.any (b8.holds t)
 |[]=>rfl
 |c::l=>by rw[b8.Vg,b8.AV t l];rfl
mutual
def b8.right:b8→Prop
 | .mk k l _ _ _ _=>1≤k∧k≤14∧(k=4→l.length=1)∧b8.vk l
def b8.vk:List b8→Prop
 |[]=>True
 |c::l=>c.right∧b8.vk l
end
theorem b8.nG:∀l:List b8,b8.vk l↔∀c∈l,c.right
 |[]=>by simp[b8.vk]
 |c::l=>by simp[b8.vk,b8.nG l]
mutual
theorem b8.ind{Q:b8→Prop}(h:∀k l a b p tx,(∀c∈l,Q c)→Q (.mk k l a b p tx)):∀c,Q c
 | .mk k l a b p tx=>h k l a b p tx (b8.adG h l)
theorem b8.adG{Q:b8→Prop}(h:∀k l a b p tx,(∀c∈l,Q c)→Q (.mk k l a b p tx)):∀(l:List b8),∀c∈l,Q c
 |[],c,hc=>by cases hc
 |x::l,c,hc=>match List.mem_cons.1 hc with
  | .inl e=>e▸b8.ind h x
  | .inr m=>b8.adG h l c m
end
end Go.Proofs.YtfgkgmmnldocaaaGreatDoor
namespace Go.Proofs.YtfgkgmmnldocaaaGreatDoor
open Go Go.AL
variable[Go.AL.Mode][Go.AL.bR]
def xh:Int→List (Int×Int)→Int→Int
 |off,[],_=>off
 |off,s::l,u=>if u<s.1 then off else xh s.2 l u
def xg:Int→List (Int×Int)→Int→Int
 |off,[],_=>off
 |off,s::l,u=>xg (if s.1≤u then s.2 else off) l u
def zC(l:List (Int×Int)):Prop:=l.Pairwise fun a b=>a.1<b.1
theorem yh:∀(l:List (Int×Int)) (off u:Int),(∀s∈l,u<s.1)→xg off l u=off
 |[],_,_,_=>rfl
 |s::l,off,u,h=>by
  have h1:=h s (.head _);rw[xg,aC (by omega)];exact yh l off u fun x hx=>h x (.tail _ hx)
theorem Ce:∀(l:List (Int×Int)) (off u:Int),zC l→xh off l u=xg off l u
 |[],_,_,_=>rfl
 |s::l,off,u,h=>by
  obtain⟨h1,h2⟩:=List.pairwise_cons.1 h;rw[xh,xg];by_cases hu:u<s.1
  ·rw[aK hu,aC (by omega),yh l off u fun x hx=>by have:=h1 x hx;omega]
  ·rw[aC hu,aK (by omega)];exact Ce l s.2 u h2
def ew(m:Int):Int×Int:=(m/1440,m%1440)
structure od where
 to:Int
 dz:Int
 am:Int
 deriving DecidableEq
def e_(x:od):List V:=[.int .i64 0,.int .i64 x.to,.int .i64 x.dz,.int .i64 x.am]
end Go.Proofs.YtfgkgmmnldocaaaGreatDoor
namespace Go.Proofs.YtfgkgmmnldocaaaGreatDoor.Ml
open Go Go.AL
variable[Go.AL.Mode][Go.AL.bR]
def fT(d:kB):Bool:=decide (1≤d.mi)&&decide (d.mi≤20000)
abbrev cY:=List (bS×Int)
def look:cY→bS→Option Int
 |[],_=>none
 |p::l,c=>if p.1=c then some p.2 else look l c
def gF:cY→bS→Int→cY
 |[],c,m=>[(c,m)]
 |p::l,c,m=>if p.1=c then(p.1,m)::l else p::gF l c m
theorem jQ(c:bS)(m:Int)(b:bS):∀l:cY,look (gF l c m) b=if c=b then some m else look l b
 |[]=>by simp[gF,look]
 |p::l=>by
  have ih:=jQ c m b l;by_cases h:p.1=c
  ·by_cases hb:c=b
   ·simp[gF,look,h,hb]
   ·have:¬p.1=b:=fun e=>hb (h.symm.trans e);simp[gF,look,h,hb]
  ·by_cases hb:p.1=b
   ·have:¬c=b:=fun e=>h (hb.trans e.symm);simp only[gF,aC h,look,aK hb,aC this]
   ·simp[gF,look,h,hb,ih]
theorem iE{l:cY}{c:bS}{v:Int}:look l c=some v→(c,v)∈l:=by
 induction l with
 |nil=>intro h;cases h
 |cons p l ih=>
  intro h;rw[look]at h;split at h
  ·rename_i e;cases h;rw[←e];exact fg ..
  ·exact cc _ (ih h)
theorem Hv{l:cY}{c:bS}{m:Int}{p:bS×Int}:p∈gF l c m→p=(c,m)∨p∈l:=by
 induction l with
 |nil=>intro h;simp[gF]at h;exact .inl h
 |cons q l ih=>
  intro h;rw[gF]at h;split at h
  ·rename_i e;rcases List.mem_cons.1 h with h|h
   ·rw[e]at h;exact .inl h
   ·exact .inr (cc _ h)
  ·rcases List.mem_cons.1 h with h|h
   ·exact .inr (by rw[h];exact fg ..)
   ·exact(ih h).imp id (cc _)
def dZ(l:cY)(c:bS)(m:Int):cY×Bool:=match look l c with
 |some v=>if v≤m then(l,false)else(gF l c m,true)
 |none=>(gF l c m,true)
def gV(l:cY)(x y:bS)(n:Int):cY×Bool:=match look l x with
 |some m=>dZ l y (m+n)
 |none=>(l,false)
def gB(s:cY×Bool)(d:kB):cY×Bool:=
 if fT d then
  let a:=gV s.1 d.fr d.to d.mi
  let b:=gV a.1 d.to d.fr d.mi
  (b.1,s.2||a.2||b.2)
 else s
def ie(ds:List kB)(l:cY):cY×Bool:=ds.foldl gB (l,false)
def dY(s:cY×Bool)(d:kB):cY×Bool:=
 if fT d then
  let x:=look s.1 d.fr
  let y:=look s.1 d.to
  let a:=match x with
   |some m=>dZ s.1 d.to (m+d.mi)
   |none=>(s.1,false)
  let b:=match y with
   |some m=>dZ a.1 d.fr (m+d.mi)
   |none=>(a.1,false)
  (b.1,s.2||a.2||b.2)
 else s
theorem pn{l:cY}{c:bS}{m v:Int}(h:look l c=some v)(hv:v≤m):dZ l c m=(l,false):=by
 simp only[dZ,h,hv,aQ]
theorem ES(s:cY×Bool)(d:kB):dY s d=gB s d:=by
 unfold dY gB;split
 ·rename_i hu;simp only[fT,aW,aL]at hu;obtain⟨hu1,hu2⟩:=hu;simp only[gV];cases hx:look s.1 d.fr with
  |none=>
   simp only
  |some m=>
   simp only;cases hy:look s.1 d.to with
   |none=>
    simp only;have hr:dZ s.1 d.to (m+d.mi)=(gF s.1 d.to (m+d.mi),true):=by simp only[dZ,hy]
    rw[hr];simp only[jQ,aQ];by_cases e:d.to=d.fr
    ·rw[e]at hy;rw[hy]at hx;cases hx
    ·have h1:look (gF s.1 d.to (m+d.mi)) d.fr=some m:=by rw[jQ,aC e,hx]
     rw[pn h1 (by omega)]
   |some old=>
    simp only;by_cases ho:old≤m+d.mi
    ·rw[pn hy ho];simp only[hy]
    ·have hr:dZ s.1 d.to (m+d.mi)=(gF s.1 d.to (m+d.mi),true):=by simp only[dZ,hy,ho,aZ]
     rw[hr];simp only[jQ,aQ];by_cases e:d.to=d.fr
     ·rw[e,hx]at hy;cases hy;exact absurd (show m≤m+d.mi by omega) ho
     ·have h1:look (gF s.1 d.to (m+d.mi)) d.fr=some m:=by rw[jQ,aC e,hx]
      rw[pn h1 (by omega),pn h1 (by omega)]
 ·rfl
def un(N:List bS)(l:cY):Nat:=(N.filter fun c=>(look l c).isNone).length
def qq(N:List bS)(l:cY):Prop:=(∀p∈l,0≤p.2∧p.2+20000*un N l≤20000*N.length)∧l.length+un N l≤N.length+1
def tT(l:cY):Int:=(l.map (·.2)).sum
def oE(N:List bS)(l:cY):Nat:=un N l*(20000*N.length+1)+(tT l).toNat
theorem IE{p q:bS→Bool}(h:∀x,q x=true→p x=true):∀N:List bS,(N.filter q).length≤(N.filter p).length
 |[]=>ah _
 |c::N=>by
  have ih:=IE h N;cases hq:q c with
  |true=>rw[iL hq,iL (h c hq)];simp only[a_];omega
  |false=>
   rw[rP (by simp[hq])];cases hp:p c with
   |true=>rw[iL hp];simp only[a_];omega
   |false=>rw[rP (by simp[hp])];exact ih
theorem ID{p q:bS→Bool}(h:∀x,q x=true→p x=true){a:bS}(hp:p a=true)(hq:q a=false):∀N:List bS,a∈N→(N.filter q).length<(N.filter p).length
 |[],ha=>by cases ha
 |c::N,ha=>by
  have hle:=IE h N;rcases List.mem_cons.1 ha with e|C8
  ·subst e;rw[rP (by simp[hq]),iL hp];simp only[a_];omega
  ·have ih:=ID h hp hq N C8;cases hqc:q c with
   |true=>rw[iL hqc,iL (h c hqc)];simp only[a_];omega
   |false=>
    rw[rP (by simp[hqc])];cases hpc:p c with
    |true=>rw[iL hpc];simp only[a_];omega
    |false=>rw[rP (by simp[hpc])];exact ih
theorem zI{l:cY}{c:bS}{m:Int}:look l c=none→tT (gF l c m)=tT l+m:=by
 induction l with
 |nil=>intro _;simp[gF,tT]
 |cons p l ih=>
  intro h;rw[look]at h;split at h
  ·cases h
  ·rename_i e;have:=ih h;simp only[gF,aC e,tT,bd,List.sum_cons]at this⊢;omega
theorem zH{l:cY}{c:bS}{m v:Int}:look l c=some v→tT (gF l c m)=tT l+m-v:=by
 induction l with
 |nil=>intro h;cases h
 |cons p l ih=>
  intro h;rw[look]at h;split at h
  ·rename_i e;cases h;simp only[gF,aK e,tT,bd,List.sum_cons];omega
  ·rename_i e;have:=ih h;simp only[gF,aC e,tT,bd,List.sum_cons]at this⊢;omega
theorem Cw{l:cY}{c:bS}{m:Int}:look l c=none→(gF l c m).length=l.length+1:=by
 induction l with
 |nil=>intro _;simp[gF]
 |cons p l ih=>
  intro h;rw[look]at h;split at h
  ·cases h
  ·rename_i e;simp only[gF,aC e,a_,ih h]
theorem Cv{l:cY}{c:bS}{m v:Int}:look l c=some v→(gF l c m).length=l.length:=by
 induction l with
 |nil=>intro h;cases h
 |cons p l ih=>
  intro h;rw[look]at h;split at h
  ·rename_i e;simp only[gF,aK e,a_]
  ·rename_i e;simp only[gF,aC e,a_,ih h]
theorem uU{l:cY}(h:∀p∈l,0≤p.2):0≤tT l:=by
 induction l with
 |nil=>simp[tT]
 |cons p l ih=>
  have h1:=h p (fg ..);have h2:=ih fun q hq=>h q (cc _ hq);simp only[tT,bd,List.sum_cons]at h2⊢;omega
def agy(N:List bS)(l:cY)(r:cY×Bool):Prop:=qq N r.1∧((r.2=false∧r.1=l)∨(r.2=true∧oE N r.1<oE N l))
theorem qd{N:List bS}{l:cY}{c:bS}{m0 n:Int}(hi:qq N l)(hc:c∈N)(h0:∃x,look l x=some m0)(hn:1≤n)(CY:n≤20000):agy N l (dZ l c (m0+n)):=by
 obtain⟨x,hx⟩:=h0;have hm:=hi.1 _ (iE hx);simp only at hm;have hv:=uU fun p hp=>(hi.1 p hp).1;have Ao:=hi.2;unfold dZ;cases hy:look l c with
 |some v=>
  simp only;have Ss:=hi.1 _ (iE hy);simp only at Ss;split
  ·exact⟨hi,.inl ⟨rfl,rfl⟩⟩
  ·rename_i aR;have hu:un N (gF l c (m0+n))=un N l:=by
    unfold un
    congr 1
    refine List.filter_congr fun b _=>?_;rw[jQ];by_cases e:c=b
    ·rw[aK e,←e,hy];rfl
    ·rw[aC e]
   have hs:=zH (m:=m0+n) hy;have hI:qq N (gF l c (m0+n)):=⟨fun p hp=>by
    rw[hu];rcases Hv hp with rfl|hp
    ·simp only;omega
    ·exact hi.1 p hp,by rw[hu,Cv hy];exact Ao⟩
   have hv3:=uU fun p hp=>(hI.1 p hp).1;refine⟨hI,.inr ⟨rfl,?_⟩⟩;simp only[oE,hu];omega
 |none=>
  simp only;have hu:un N (gF l c (m0+n))<un N l:=by
   unfold un;refine ID (fun b hb=>?_) (a:=c) (by rw[hy];rfl) (by rw[jQ,aK rfl];rfl) N hc;rw[jQ]at hb;by_cases e:c=b
   ·rw[aK e]at hb;cases hb
   ·rwa[aC e]at hb
  have hs:=zI (m:=m0+n) hy;have hI:qq N (gF l c (m0+n)):=⟨fun p hp=>by
   rcases Hv hp with rfl|hp
   ·simp only;omega
   ·have:=hi.1 p hp;omega,by rw[Cw hy];omega⟩
  have hv3:=uU fun p hp=>(hI.1 p hp).1;refine⟨hI,.inr ⟨rfl,?_⟩⟩;simp only[oE];have h1:(un N (gF l c (m0+n))+1)*(20000*N.length+1)≤un N l*(20000*N.length+1):=dA _ hu;rw[eM,Nat.one_mul]at h1;have h2:m0+n≤20000*N.length:=by omega
  omega
theorem qb{N:List bS}{l:cY}{x y:bS}{n:Int}(hi:qq N l)(hy:y∈N)(hn:1≤n)(CY:n≤20000):agy N l (gV l x y n):=by
 unfold gV;cases hx:look l x with
 |none=>exact⟨hi,.inl ⟨rfl,rfl⟩⟩
 |some m=>exact qd hi hy ⟨x,hx⟩ hn CY
def Jo(N:List bS)(l:cY)(s:cY×Bool):Prop:=qq N s.1∧((s.2=false∧s.1=l)∨(s.2=true∧oE N s.1<oE N l))
theorem Es{N:List bS}{l:cY}{s:cY×Bool}{d:kB}(h:Jo N l s)(hf:d.fr∈N)(ht:d.to∈N):Jo N l (gB s d):=by
 unfold gB;split
 ·rename_i hu;simp only[fT,aW,aL]at hu;obtain⟨i1,h1⟩:=h;obtain⟨i2,h2⟩:=qb (x:=d.fr) i1 ht hu.1 hu.2;obtain⟨i3,h3⟩:=qb (x:=d.to) i2 hf hu.1 hu.2;refine⟨i3,?_⟩;simp only;rcases h1 with⟨Rk,b1⟩|⟨Rk,b1⟩<;>rcases h2 with⟨Rj,b2⟩|⟨Rj,b2⟩<;>rcases h3 with⟨Ri,b3⟩|⟨Ri,b3⟩
  ·exact .inl ⟨by rw[Rk,Rj,Ri];rfl,by rw[b3,b2,b1]⟩
  all_goals refine .inr ⟨by simp[Rk,Rj,Ri],?_⟩
  all_goals(try rw[b3])<;>(try rw[b2]at*)<;>(try rw[b1]at*)<;>omega
 ·exact h
theorem jy{N:List bS}{l:cY}(hi:qq N l):∀(ds:List kB),(∀d∈ds,d.fr∈N∧d.to∈N)→∀s,Jo N l s→Jo N l (ds.foldl gB s)
 |[],_,s,h=>h
 |d::ds,hd,s,h=>jy hi ds (fun x hx=>hd x (cc _ hx)) _ (Es h (hd d (fg ..)).1 (hd d (fg ..)).2)
inductive Clo (ds:List kB):cY→cY→Prop
 |stop {l:cY} (h:(ie ds l).2=false):Clo ds l (ie ds l).1
 |more {l r:cY} (h:(ie ds l).2=true) (k:Clo ds (ie ds l).1 r):Clo ds l r
def sI(ds:List kB):Nat→cY→cY
 |0,l=>l
 |n+1,l=>if(ie ds l).2 then sI ds n (ie ds l).1 else(ie ds l).1
theorem wF{N:List bS}{ds:List kB}(hd:∀d∈ds,d.fr∈N∧d.to∈N):∀(n:Nat) (l:cY),qq N l→oE N l<n→Clo ds l (sI ds n l)
 |0,l,_,h=>by omega
 |n+1,l,hi,h=>by
  have hs:=jy hi ds hd (l,false) ⟨hi,.inl ⟨rfl,rfl⟩⟩;rw[sI];cases hb:(ie ds l).2 with
  |false=>exact .stop hb
  |true=>
   rcases hs.2 with⟨h1,_⟩|⟨_,h2⟩
   ·rw[show(ds.foldl gB (l,false)).2=true from hb]at h1;cases h1
   ·exact .more hb (wF hd n _ hs.1 (by have:oE N (ie ds l).1<oE N l:=h2
                                       omega))
end Go.Proofs.YtfgkgmmnldocaaaGreatDoor.Ml
namespace Go.Proofs.YtfgkgmmnldocaaaGreatDoor.Ml
open Go Go.AL
variable[Go.AL.Mode][Go.AL.bR]
theorem ab_{a:Int}(h0:0≤a)(h1:a<18446744073709551616):IntKind.u64.wrap (((BitVec.ofInt IntKind.u64.bits a&&&BitVec.ofInt IntKind.u64.bits 4294967295).toNat:Nat):Int)=a%4294967296:=by
 obtain⟨n,rfl⟩:=Int.eq_ofNat_of_zero_le h0;have hn:n<2^64:=by omega
 have e1:(BitVec.ofInt IntKind.u64.bits ((n:Nat):Int)).toNat=n:=by
  simp only[IntKind.bits,BitVec.toNat_ofInt];omega
 have e2:(BitVec.ofInt IntKind.u64.bits 4294967295).toNat=2^32-1:=by decide
 rw[BitVec.toNat_and,e1,e2,Nat.and_two_pow_sub_one_eq_mod,wrap_u64 (by omega) (by omega)];omega
theorem ZO{a:Int}:jL false .u64 a 32=some (.int .u64 (a/4294967296)):=by
 simp only[jL,IntKind.bits];rw[Int.fdiv_eq_ediv_of_nonneg _ (by decide)];rfl
theorem TQ(a b:Nat)(S:ae)(ha:a≤1099511627776)(hb:b≤100000):ak Tryz.prog 143 [.int .u64 a,.int .u64 b] S fun r S'=>r= .dI [.int .u64 0,.int .u64 ((a*b:Nat):Int)]∧S'=S:=by
 refine ak.bW Tryz.func143 afO (U rfl) fun σ b_=>?_;have lR:(b:Int)%4294967296=b:=by omega
 have n_:(b:Int)/4294967296=0:=by omega
 have q0:(a%4294967296)*b≤4294967296*100000:=og (by omega) hb;have q1:(a/4294967296)*b≤256*100000:=og (by omega) hb;have q2:a*b≤1099511627776*100000:=og ha hb;have p0:(a:Int)%4294967296*b=(((a%4294967296)*b:Nat):Int):=by simp
 have p1:(a:Int)/4294967296*b=(((a/4294967296)*b:Nat):Int):=by simp
 have p2:(a:Int)*b=((a*b:Nat):Int):=by simp
 generalize (a%4294967296)*b=u at q0 p0;generalize (a/4294967296)*b=v at q1 p1;generalize a*b=w at q2 p2;simp(disch:=omega) only[Za,ab_,ZO,wrap_u64,lR,n_,p0,p1,p2,Int.mul_zero,Int.add_zero,km,↓eA,eB,aq,seval];have e:((v:Int)+(u:Int)/4294967296)/4294967296+((v:Int)+(u:Int)/4294967296)%4294967296/4294967296=0:=by omega
 rw[e]
theorem UU(n m:Nat)(S:ae)(hn:n<18446744073709551616)(hm0:0<m)(hm:m<18446744073709551616):ak Tryz.prog 144 [.int .u64 0,.int .u64 n,.int .u64 m] S fun r S'=>r= .dI [.int .u64 ((n/m:Nat):Int),.int .u64 ((n%m:Nat):Int)]∧S'=S:=by
 refine ak.bW Tryz.func144 afN (U rfl) fun σ b_=>?_;have h1:¬(m:Int)=0:=by omega
 have h2:¬(m:Int)≤0:=by omega
 have e1:(n:Int).tdiv m=((n/m:Nat):Int):=by rw[dd (by omega)];simp
 have e2:(n:Int).tmod m=((n%m:Nat):Int):=by rw[bH (by omega)];simp
 have e3:n/m≤n:=Nat.div_le_self n m;generalize n/m=q at e1 e3;generalize n%m=r at e2;simp(disch:=omega) only[Y',h1,h2,e1,e2,wrap_u64,eq_self,aA,↓eA,eB,aq,seval]
theorem FL(a:Int)(S:ae):ak Tryz.prog 106 [.int .i64 a] S fun r S'=>r= .bool (decide (-1099511627776≤a∧a≤1099511627776))∧S'=S:=by
 refine ak.bW Tryz.func106 afX (U rfl) fun σ b_=>?_;by_cases h1: -1099511627776≤a
 ·have e:decide (-1099511627776≤a∧a≤1099511627776)=decide (a≤1099511627776):=by simp[h1]
  simp only[Rh,h1,e,↓eA,eB,aq,seval]
 ·have e:decide (-1099511627776≤a∧a≤1099511627776)=false:=by simp[h1]
  rw[e];simp only[Rh,h1,aA,↓eA,eB,aq,seval]
theorem lU(a:Int)(S:ae):ak Tryz.prog 218 [.int .i64 a] S fun r S'=>r= .bool (decide (-1099511627776≤a∧a≤1099511627776))∧S'=S:=by
 refine ak.bW Tryz.func218 afU (U rfl) fun σ b_=>?_;by_cases h1: -1099511627776≤a
 ·have e:decide (-1099511627776≤a∧a≤1099511627776)=decide (a≤1099511627776):=by simp[h1]
  simp only[Rf,h1,e,↓eA,eB,aq,seval]
 ·have e:decide (-1099511627776≤a∧a≤1099511627776)=false:=by simp[h1]
  rw[e];simp only[Rf,h1,aA,↓eA,eB,aq,seval]
theorem qx{a:Int}(h0:a<0)(h1: -18446744073709551616≤a):IntKind.u64.wrap a=a+18446744073709551616:=by
 simp[IntKind.wrap,IntKind.bits,IntKind.signed];omega
theorem HT(a:Int)(S:ae)(h0: -1099511627776≤a)(h1:a≤1099511627776):ak Tryz.prog 108 [.int .i64 a] S fun r S'=>r= .int .u64 (a.natAbs:Int)∧S'=S:=by
 refine ak.bW Tryz.func108 afV (U rfl) fun σ b_=>?_;by_cases h:a<0
 ·have e:0-(a+18446744073709551616)= -18446744073709551616-a:=by omega
  have e2:IntKind.u64.wrap (-18446744073709551616-a)=(a.natAbs:Int):=by rw[qx (by omega) (by omega)];omega
  simp(disch:=omega) only[Rg,h,qx,e,e2,↓eA,eB,aq,seval]
 ·have e:a=(a.natAbs:Int):=by omega
  generalize a.natAbs=n at e;subst e;simp(disch:=omega) only[Rg,h,wrap_u64,aA,↓eA,eB,aq,seval]
theorem Hp(a:Int)(S:ae)(h0: -1099511627776≤a)(h1:a≤1099511627776):ak Tryz.prog 220 [.int .i64 a] S fun r S'=>r= .int .i64 (a.natAbs:Int)∧S'=S:=by
 refine ak.bW Tryz.func220 afT (U rfl) fun σ b_=>?_;by_cases h:a<0
 ·have e:0-a=(a.natAbs:Int):=by omega
  simp(disch:=omega) only[Re,h,e,wrap_i64,↓eA,eB,aq,seval]
 ·have e:a=(a.natAbs:Int):=by omega
  generalize a.natAbs=n at e;subst e;simp(disch:=omega) only[Re,h,wrap_i64,aA,↓eA,eB,aq,seval]
theorem Th(a b:Nat)(S:ae)(ha:a≤1099511627776)(hb:b≤100000):ak Tryz.prog 107 [.int .u64 a,.int .u64 b,.int .u64 10000] S fun r S'=>r= .dI [.int .u64 ((a*b/10000:Nat):Int),.int .u64 ((a*b%10000:Nat):Int),.bool true]∧S'=S:=by
 refine ak.bW Tryz.func107 afW (U rfl) fun σ b_=>?_;have q2:a*b≤1099511627776*100000:=og ha hb;have h0:¬(10000:Int)≤0:=by omega
 simp only[Zf,↓eA,eB,aq,seval];refine(TQ a b S ha hb).then ?_
 simp only[h0,aA,↓eA,eB,aq,seval];refine(UU (a*b) 10000 S (by omega) (by omega) (by omega)).then ?_
 simp only[↓eA,eB,aq,seval]
def cG(a h:Int):Int×Int:=
 if a< -1099511627776∨1099511627776<a then(0,11)
 else if(2*(a*h)+10000)/20000< -1099511627776∨1099511627776<(2*(a*h)+10000)/20000 then(0,11)
 else((2*(a*h)+10000)/20000,0)
theorem pq(a:Int)(h:Nat)(S:ae)(hh:h≤100000):ak Tryz.prog 61 [.int .i64 a,.int .i64 h] S fun r S'=>r= .dI [.int .i64 (cG a h).1,.int .i64 (cG a h).2]∧S'=S:=by
 refine ak.bW Tryz.func61 af1 (U rfl) fun σ b_=>?_;have hf:decide (-1099511627776≤(h:Int)∧(h:Int)≤1099511627776)=true:=by simp;omega
 simp only[Zl,↓eA,eB,aq,seval];refine(FL a S).then ?_
 by_cases hr: -1099511627776≤a∧a≤1099511627776
 ·obtain⟨r1,r2⟩:=hr;simp only[r1,r2,mR,↓eA,eB,aq,seval];refine(FL h S).then ?_
  simp only[hf,↓eA,eB,aq,seval];refine(HT a S r1 r2).then ?_
  simp only[↓eA,eB,aq,seval];refine(HT h S (by omega) (by omega)).then ?_
  simp only[Int.natAbs_natCast,↓eA,eB,aq,seval];refine(Th a.natAbs h S (by omega) hh).then ?_
  have hng:¬(h:Int)<0:=by omega
  have hw:a.natAbs*h≤1099511627776*100000:=og (by omega) hh;have hah:(a<0→a*(h:Int)= -((a.natAbs*h:Nat):Int))∧(¬a<0→a*(h:Int)=((a.natAbs*h:Nat):Int)):=by
   refine⟨fun hn=>?_,fun hn=>?_⟩
   ·have e:a= -(a.natAbs:Int):=by omega
    rw[Int.natCast_mul,←Int.neg_mul,←e]
   ·have e:a=(a.natAbs:Int):=by omega
    rw[Int.natCast_mul,←e]
  have EX:((2*(a*(h:Int))+10000)/20000< -1099511627776∨1099511627776<(2*(a*(h:Int))+10000)/20000)→cG a h=(0,11):=fun hc=>by
   unfold cG;rw[aC (by omega),aK hc]
  have Z_:∀n:Int,n=(2*(a*(h:Int))+10000)/20000→-1099511627776≤n→n≤1099511627776→cG a h=(n,0):=fun n hn h1 h2=>by
   unfold cG;rw[aC (by omega),aC (by omega),hn]
  generalize a.natAbs*h=w at hw hah;generalize a*(h:Int)=x at hah EX Z_;have z6:((2*x+10000)/20000< -1099511627776∨1099511627776<(2*x+10000)/20000)→V.dI [V.int IntKind.i64 0,V.int IntKind.i64 11]=V.dI [V.int IntKind.i64 (cG a h).1,V.int IntKind.i64 (cG a h).2]:=fun hc=>by rw[EX hc]
  have M8:∀n:Int,n=(2*x+10000)/20000→-1099511627776≤n→n≤1099511627776→V.dI [V.int IntKind.i64 n,V.int IntKind.i64 0]=V.dI [V.int IntKind.i64 (cG a h).1,V.int IntKind.i64 (cG a h).2]:=fun n h1 h2 h3=>by rw[Z_ n h1 h2 h3]
  have hwr:IntKind.u64.wrap (((w/10000:Nat):Int)+1)=((w/10000:Nat):Int)+1:=wrap_u64 (by omega) (by omega);clear EX Z_;generalize cG a h=pf at z6 M8;by_cases ha:a<0
  ·have hx:=hah.1 ha;simp only[hng,ha,aA,hwr,show(true==false)=false from rfl,↓eA,eB,aq,seval];repeat' first
    |intro _
    |refine ag ?_ ?_
   all_goals first
    |(exfalso;rename_i hc;exact Bool.noConfusion hc)
    |(refine z6 ?_;omega)
    |(simp(disch:=omega) only[wrap_u64,wrap_i64];refine M8 _ ?_ ?_ ?_<;>omega)
    |omega
  ·have hx:=hah.2 ha;simp only[hng,ha,aA,hwr,show(false==false)=true from rfl,↓eA,eB,aq,seval];repeat' first
    |intro _
    |refine ag ?_ ?_
   all_goals first
    |(exfalso;rename_i hc;exact Bool.noConfusion hc)
    |(refine z6 ?_;omega)
    |(simp(disch:=omega) only[wrap_u64,wrap_i64];refine M8 _ ?_ ?_ ?_<;>omega)
    |omega
 ·have e:cG a h=(0,11):=aK (by omega);have hd:decide (-1099511627776≤a∧a≤1099511627776)=false:=by simpa using hr
  simp only[hd,e,↓eA,eB,aq,seval]
end Go.Proofs.YtfgkgmmnldocaaaGreatDoor.Ml
namespace Go.Proofs.YtfgkgmmnldocaaaGreatDoor.Ml
open Go Go.AL
variable[Go.AL.Mode][Go.AL.bR]
theorem tdm{a b:Int}(hb:0<b):(0≤a→a.tdiv b=a/b∧a.tmod b=a%b)∧(a<0→a.tdiv b= -((-a)/b)∧a.tmod b= -((-a)%b)):=by
 refine⟨fun h=>⟨dd h,bH h⟩,fun h=>?_⟩;have e:a= -(-a):=by omega
 have h1:a.tdiv b= -((-a).tdiv b):=by conv=>lhs;rw[e,Int.neg_tdiv]
 have h2:a.tmod b= -((-a).tmod b):=by conv=>lhs;rw[e,Int.neg_tmod]
 rw[h1,h2,dd (by omega),bH (by omega)];exact⟨rfl,rfl⟩
theorem AB(a:Int)(S:ae)(h0: -1152921504606846976≤a)(h1:a≤1152921504606846976):ak Tryz.prog 219 [.int .i64 a,.int .i64 10000] S fun r S'=>r= .dI [.int .i64 (a/10000),.int .i64 (a%10000)]∧S'=S:=by
 refine ak.bW Tryz.func219 XP (U rfl) fun σ b_=>?_;have ht:=tdm (a:=a) (b:=10000) (by omega);have lR:(10000:Int)≠0:=by omega
 by_cases ha:0≤a
 ·obtain⟨e1,e2⟩:=ht.1 ha;have h2:¬a%10000<0:=by omega
  simp(disch:=omega) only[wU,j3 lR,i_ lR,e1,e2,h2,wrap_i64,aA,↓eA,eB,aq,seval]
 ·obtain⟨e1,e2⟩:=ht.2 (by omega);by_cases hr:(-a)%10000=0
  ·have e3:a.tdiv 10000=a/10000:=by rw[e1];omega
   have e4:a.tmod 10000=a%10000:=by rw[e2];omega
   have h2:¬a%10000<0:=by omega
   simp(disch:=omega) only[wU,j3 lR,i_ lR,e3,e4,h2,wrap_i64,aA,↓eA,eB,aq,seval]
  ·have e3:a.tdiv 10000=a/10000+1:=by rw[e1];omega
   have e4:a.tmod 10000=a%10000-10000:=by rw[e2];omega
   have h2:a%10000-10000<0:=by omega
   have e5:a/10000+1-1=a/10000:=by omega
   have e6:a%10000-10000+10000=a%10000:=by omega
   simp(disch:=omega) only[wU,j3 lR,i_ lR,e3,e4,e5,e6,h2,wrap_i64,↓eA,eB,aq,seval]
theorem re(a:Int)(S:ae)(h0: -1152921504606846976≤a)(h1:a≤1152921504606846976):ak Tryz.prog 219 [.int .i64 a,.int .i64 20000] S fun r S'=>r= .dI [.int .i64 (a/20000),.int .i64 (a%20000)]∧S'=S:=by
 refine ak.bW Tryz.func219 XP (U rfl) fun σ b_=>?_;have ht:=tdm (a:=a) (b:=20000) (by omega);have lR:(20000:Int)≠0:=by omega
 by_cases ha:0≤a
 ·obtain⟨e1,e2⟩:=ht.1 ha;have h2:¬a%20000<0:=by omega
  simp(disch:=omega) only[wU,j3 lR,i_ lR,e1,e2,h2,wrap_i64,aA,↓eA,eB,aq,seval]
 ·obtain⟨e1,e2⟩:=ht.2 (by omega);by_cases hr:(-a)%20000=0
  ·have e3:a.tdiv 20000=a/20000:=by rw[e1];omega
   have e4:a.tmod 20000=a%20000:=by rw[e2];omega
   have h2:¬a%20000<0:=by omega
   simp(disch:=omega) only[wU,j3 lR,i_ lR,e3,e4,h2,wrap_i64,aA,↓eA,eB,aq,seval]
  ·have e3:a.tdiv 20000=a/20000+1:=by rw[e1];omega
   have e4:a.tmod 20000=a%20000-20000:=by rw[e2];omega
   have h2:a%20000-20000<0:=by omega
   have e5:a/20000+1-1=a/20000:=by omega
   have e6:a%20000-20000+20000=a%20000:=by omega
   simp(disch:=omega) only[wU,j3 lR,i_ lR,e3,e4,e5,e6,h2,wrap_i64,↓eA,eB,aq,seval]
theorem k_(a:Int)(h:Nat)(S:ae)(hh:h≤100000):ak Tryz.prog 194 [.int .i64 a,.int .i64 h] S fun r S'=>r= .dI [.int .i64 (cG a h).1,.int .i64 (cG a h).2]∧S'=S:=by
 refine ak.bW Tryz.func194 af0 (U rfl) fun σ b_=>?_;have hf:decide (-1099511627776≤(h:Int)∧(h:Int)≤1099511627776)=true:=by simp;omega
 simp only[Zk,↓eA,eB,aq,seval];refine(lU a S).then ?_
 by_cases hr: -1099511627776≤a∧a≤1099511627776
 ·obtain⟨r1,r2⟩:=hr;simp only[r1,r2,mR,↓eA,eB,aq,seval];refine(lU h S).then ?_
  simp only[hf,↓eA,eB,aq,seval];refine(AB h S (by omega) (by omega)).then ?_
  obtain⟨w,q,hw,hq,hhe⟩:∃w q:Nat,w≤10∧q<10000∧h=10000*w+q:=⟨h/10000,h%10000,by omega,by omega,by omega⟩;have WI:(h:Int)/10000=(w:Nat):=by omega
  have hd2:(h:Int)%10000=(q:Nat):=by omega
  have hx:a*(h:Int)=10000*(a*(w:Nat))+a*(q:Nat):=by
   have e:(h:Int)=10000*(w:Nat)+(q:Nat):=by omega
   rw[e,Int.mul_add,Int.mul_left_comm]
  have pW:2*a*(q:Nat)=2*(a*(q:Nat)):=by rw[Int.mul_assoc]
  have Wy:(a*((q:Nat):Int)).natAbs=a.natAbs*q:=by rw[Int.natAbs_mul,Int.natAbs_natCast]
  have hy:a.natAbs*q≤1099511627776*10000:=og (by omega) (by omega);have Ss:(a*((w:Nat):Int)).natAbs=a.natAbs*w:=by rw[Int.natAbs_mul,Int.natAbs_natCast]
  have hv:a.natAbs*w≤1099511627776*10:=og (by omega) (by omega);have sy1:0≤a→0≤a*((q:Nat):Int):=fun h=>Int.mul_nonneg h (by omega);have sy2:a≤0→a*((q:Nat):Int)≤0:=fun h=>Int.mul_nonpos_of_nonpos_of_nonneg h (by omega);have sv1:0≤a→0≤a*((w:Nat):Int):=fun h=>Int.mul_nonneg h (by omega);have sv2:a≤0→a*((w:Nat):Int)≤0:=fun h=>Int.mul_nonpos_of_nonpos_of_nonneg h (by omega);rw[←Wy]at hy;rw[←Ss]at hv;have pc:cG a h=if a*((w:Nat):Int)+(2*(a*((q:Nat):Int))+10000)/20000< -1099511627776∨1099511627776<a*((w:Nat):Int)+(2*(a*((q:Nat):Int))+10000)/20000 then(0,11)else(a*((w:Nat):Int)+(2*(a*((q:Nat):Int))+10000)/20000,0):=by
   have e:(2*(a*(h:Int))+10000)/20000=a*((w:Nat):Int)+(2*(a*((q:Nat):Int))+10000)/20000:=by omega
   unfold cG;rw[aC (by omega),e]
  rw[WI,hd2,pc];generalize a*((q:Nat):Int)=y at pW hy sy1 sy2;generalize hve:a*((w:Nat):Int)=v at hv Ss sv1 sv2;clear hx Wy pc;have fin:ak Tryz.prog 219 [.int .i64 (2*y+10000),.int .i64 20000] S fun r S'=>r= .dI [.int .i64 ((2*y+10000)/20000),.int .i64 ((2*y+10000)%20000)]∧S'=S:=re _ S (by omega) (by omega);by_cases ha:a=0
  ·obtain rfl:y=0:=by have:=sy1 (by omega);have:=sy2 (by omega);omega
   obtain rfl:v=0:=by have:=sv1 (by omega);have:=sv2 (by omega);omega
   subst ha;have ajs:=re 10000 S (by omega) (by omega);have hd0:decide (-1099511627776≤(0:Int)∧(0:Int)≤1099511627776)=true:=by decide
   have hz:(10000:Int)/20000=0:=by decide
   have hpc:(if(0:Int)+(2*0+10000)/20000< -1099511627776∨1099511627776<(0:Int)+(2*0+10000)/20000 then((0:Int),(11:Int))else(0+(2*0+10000)/20000,0))=(0,0):=by decide
   rw[hpc];simp(disch:=omega) only[pW,wrap_i64,aA,Int.mul_zero,Int.zero_mul,km,↓eA,eB,aq,seval];refine ajs.then ?_
   simp(disch:=omega) only[hz,wrap_i64,Int.mul_one,Int.mul_zero,Int.zero_mul,km,↓eA,eB,aq,seval];refine(lU 0 S).then ?_
   simp(disch:=omega) only[hd0,wrap_i64,Int.mul_one,Int.mul_zero,Int.zero_mul,km,↓eA,eB,aq,seval]
  ·simp(disch:=omega) only[ha,pW,wrap_i64,aA,↓eA,eB,aq,seval];refine(Hp (w:Nat) S (by omega) (by omega)).then ?_
   simp(disch:=omega) only[↓eA,eB,aq,seval];refine(Hp a S (by omega) (by omega)).then ?_
   have uE:((a.natAbs:Nat):Int)≠0:=by omega
   have Ed:(2199023255552:Int).tdiv ((a.natAbs:Nat):Int)≤2199023255552:=by
    rw[dd (by omega)];exact Int.ediv_le_self _ (by omega)
   have h1a:((Int.natAbs ((w:Nat):Int):Nat):Int)=(w:Nat):=by rw[Int.natAbs_natCast]
   have hq0:0≤(2199023255552:Int).tdiv ((a.natAbs:Nat):Int):=Int.tdiv_nonneg (by omega) (by omega);have aex:(2199023255552:Int).tdiv ((a.natAbs:Nat):Int)<(w:Nat)→2199023255552<v.natAbs:=fun h=>by
    rw[dd (by omega),Int.ediv_lt_iff_lt_mul (by omega)]at h;rw[Ss,Nat.mul_comm];rw[←Int.natCast_mul]at h;generalize w*a.natAbs=zz at h⊢;omega
   generalize hz:(2199023255552:Int).tdiv ((a.natAbs:Nat):Int)=z at Ed hq0 aex;by_cases hzw:z<(w:Nat)
   ·have hb:=aex hzw;have hc:v+(2*y+10000)/20000< -1099511627776∨1099511627776<v+(2*y+10000)/20000:=by
     rcases Int.lt_or_le a 0 with h|h
     ·have:=sv2 (by omega);have:=sy2 (by omega);omega
     ·have:=sv1 h;have:=sy1 h;omega
    rw[aK hc];have hd:decide (z<((w:Nat):Int))=true:=oe hzw;simp(disch:=omega) only[j3 uE,hz,h1a,hd,wrap_i64,↓eA,eB,aq,seval]
   ·have hd:decide (z<((w:Nat):Int))=false:=gL hzw;simp(disch:=omega) only[j3 uE,hz,h1a,hd,pW,wrap_i64,↓eA,eB,aq,seval];refine fin.then ?_
    simp(disch:=omega) only[hve,pW,wrap_i64,↓eA,eB,aq,seval];refine(lU (v+(2*y+10000)/20000) S).then ?_
    by_cases hc:v+(2*y+10000)/20000< -1099511627776∨1099511627776<v+(2*y+10000)/20000
    ·have hd:decide (-1099511627776≤v+(2*y+10000)/20000∧v+(2*y+10000)/20000≤1099511627776)=false:=by simp;omega
     simp(disch:=omega) only[hd,aK hc,↓eA,eB,aq,seval]
    ·have hd:decide (-1099511627776≤v+(2*y+10000)/20000∧v+(2*y+10000)/20000≤1099511627776)=true:=by simp;omega
     simp(disch:=omega) only[hd,aC hc,hve,wrap_i64,↓eA,eB,aq,seval]
 ·have e:cG a h=(0,11):=aK (by omega);have hd:decide (-1099511627776≤a∧a≤1099511627776)=false:=by simpa using hr
  simp only[hd,e,↓eA,eB,aq,seval]
end Go.Proofs.YtfgkgmmnldocaaaGreatDoor.Ml
namespace Go.Proofs.YtfgkgmmnldocaaaGreatDoor.Ml
open Go Go.AL
variable[Go.AL.Mode][Go.AL.bR]
def lC(p:Int):Prop:=p=0∨p=5∨p=10∨p=15∨p=20∨p=25
instance(p:Int):Decidable (lC p):=by unfold lC;infer_instance
def fZ(a p:Int):Int×Int:=if lC p then cG a ((100+p)*100)else(0,2)
theorem Vb(a p:Int)(S:ae):ak Tryz.prog 30 [.int .i64 a,.int .i64 p] S fun r S'=>r= .dI [.int .i64 (fZ a p).1,.int .i64 (fZ a p).2]∧S'=S:=by
 refine ak.bW Tryz.func30 af5 (U rfl) fun σ b_=>?_;have h5:(5:Int)≠0:=by omega
 by_cases hp:lC p
 ·have e:fZ a p=cG a ((100+p)*100):=aK hp;unfold lC at hp;have h1:¬p<0:=by omega
  have h2:¬25<p:=by omega
  have h3:p.tmod 5=0:=by rw[bH (by omega)];omega
  have h4:(100+p)*100=((((100+p)*100).toNat:Nat):Int):=by omega
  have hn:((100+p)*100).toNat≤100000:=by omega
  rw[e];have pc:=pq a ((100+p)*100).toNat S hn;rw[←h4]at pc;simp(disch:=omega) only[D3,i_ h5,h1,h2,h3,wrap_i64,aA,↓eA,eB,aq,seval];refine pc.then ?_
  simp only[↓eA,eB,aq,seval]
 ·have e:fZ a p=(0,2):=aC hp;rw[e];unfold lC at hp;have ht:=tdm (a:=p) (b:=5) (by omega);by_cases h1:p<0
  ·simp(disch:=omega) only[D3,i_ h5,h1,wrap_i64,aA,↓eA,eB,aq,seval]
  by_cases h2:25<p
  ·simp(disch:=omega) only[D3,i_ h5,h1,h2,wrap_i64,aA,↓eA,eB,aq,seval]
  have h3:¬p.tmod 5=0:=by rw[(ht.1 (by omega)).2];omega
  simp(disch:=omega) only[D3,i_ h5,h1,h2,h3,wrap_i64,aA,↓eA,eB,aq,seval]
def jx(p:Int):Prop:=p=0∨p=5∨p=10∨p=15∨p=20∨p=25∨p=30
theorem EP(a p:Int)(S:ae):ak Tryz.prog 174 [.int .i64 a,.int .i64 p] S fun r S'=>r= .dI [.int .i64 (fZ a p).1,.int .i64 (fZ a p).2]∧S'=S:=by
 refine ak.bW Tryz.func174 af4 (U rfl) fun σ b_=>?_;simp only[Zo,↓eA,eB,aq,seval];refine cH (ι:=Int) (fun i=>[(0,.int .i64 a),(1,.int .i64 p),(6,.int .i64 i)]) (fun _=>S) (fun i=>jx i∧∀j,lC j→j<i→¬p=j) (fun i=>(30-i).toNat) 0 ⟨.inl rfl,fun j hj h=>by unfold lC at hj;omega⟩ ?_ rfl ?_
 ·simp only[↓eA,eB,aq,seval]
 ·rintro i ⟨hi,Fq⟩;by_cases h25:i≤25
  ·have hip:lC i:=by unfold lC;unfold jx at hi;omega
   have hib:0≤i:=by unfold lC at hip;omega
   by_cases e:i=p
   ·subst e;have ef:fZ a i=cG a ((100+i)*100):=aK hip;have h4:(100+i)*100=((((100+i)*100).toNat:Nat):Int):=by omega
    have pc:=k_ a ((100+i)*100).toNat S (by omega);rw[←h4]at pc;rw[ef];simp(disch:=omega) only[h25,wrap_i64,eq_self,aA,↓eA,eB,aq,seval];refine pc.then ?_
    simp only[↓eA,eB,aq,seval]
   ·simp(disch:=omega) only[h25,e,wrap_i64,eq_self,aA,↓eA,eB,aq,seval];refine⟨i+5,⟨by unfold jx;unfold lC at hip;omega,fun j hj aR hpj=>?_⟩,by omega,rfl⟩;by_cases ais:j<i
    ·exact Fq j hj ais hpj
    ·unfold lC at hj hip;omega
  ·have h30:i=30:=by unfold jx at hi;omega
   have ef:fZ a p=(0,2):=aC fun hp=>Fq p hp (by unfold lC at hp;omega) rfl;rw[ef];simp(disch:=omega) only[h25,wrap_i64,aA,↓eA,eB,aq,seval]
def Aj(m n:Int):Int×Int:=
 if m<0∨1099511627776<m∨n<1∨1099511627776<n then(0,2)
 else if m*100≤n*100 then(0,0)else if m*100≤n*105 then(5,0)else if m*100≤n*110 then(10,0)else if m*100≤n*115 then(15,0)else if m*100≤n*120 then(20,0)else if m*100≤n*125 then(25,0)else(0,22)
theorem TW(m n:Int)(S:ae):ak Tryz.prog 60 [.int .i64 m,.int .i64 n] S fun r S'=>r= .dI [.int .i64 (Aj m n).1,.int .i64 (Aj m n).2]∧S'=S:=by
 refine ak.bW Tryz.func60 af7 (U rfl) fun σ b_=>?_;by_cases h:m<0∨1099511627776<m∨n<1∨1099511627776<n
 ·have e:Aj m n=(0,2):=aK h;rw[e];by_cases h1:m<0
  ·simp(disch:=omega) only[zA,h1,aA,↓eA,eB,aq,seval]
  by_cases h2:1099511627776<m
  ·simp(disch:=omega) only[zA,h1,h2,aA,↓eA,eB,aq,seval]
  by_cases h3:n<1
  ·simp(disch:=omega) only[zA,h1,h2,h3,aA,↓eA,eB,aq,seval]
  have h4:1099511627776<n:=by omega
  simp(disch:=omega) only[zA,h1,h2,h3,h4,aA,↓eA,eB,aq,seval]
 ·have h1:¬m<0:=by omega
  have h2:¬1099511627776<m:=by omega
  have h3:¬n<1:=by omega
  have h4:¬1099511627776<n:=by omega
  have e:Aj m n=if m*100≤n*100 then(0,0)else if m*100≤n*105 then(5,0)else if m*100≤n*110 then(10,0)else if m*100≤n*115 then(15,0)else if m*100≤n*120 then(20,0)else if m*100≤n*125 then(25,0)else(0,22):=aC h
  rw[e];simp(disch:=omega) only[zA,h1,h2,h3,h4,aA,↓eA,eB,aq,seval];refine cH (ι:=Int) (fun i=>[(0,.int .i64 m),(1,.int .i64 n),(6,.int .i64 i)]) (fun _=>S) (fun i=>jx i∧(0<i→¬m*100≤n*100)∧(5<i→¬m*100≤n*105)∧(10<i→¬m*100≤n*110)∧(15<i→¬m*100≤n*115)∧(20<i→¬m*100≤n*120)∧(25<i→¬m*100≤n*125)) (fun i=>(30-i).toNat) 0
   ⟨.inl rfl,fun h=>by omega,fun h=>by omega,fun h=>by omega,fun h=>by omega,fun h=>by omega,fun h=>by omega⟩ ?_ rfl ?_
  ·simp only[↓eA,eB,aq,seval]
  ·rintro i ⟨hi,g0,g1,g2,g3,g4,g5⟩;unfold jx at hi;rcases hi with rfl|rfl|rfl|rfl|rfl|rfl|rfl
   ·by_cases hc:m*100≤n*100
    ·rw[aK hc];simp(disch:=omega) only[hc,wrap_i64,aA,Int.reduceAdd,Int.reduceLE,↓eA,eB,aq,seval]
    ·simp(disch:=omega) only[hc,wrap_i64,aA,Int.reduceAdd,Int.reduceLE,↓eA,eB,aq,seval];exact⟨5,⟨by unfold jx;omega,by omega⟩,by decide,rfl⟩
   ·by_cases hc:m*100≤n*105
    ·rw[aC (g0 (by omega)),aK hc];simp(disch:=omega) only[hc,wrap_i64,aA,Int.reduceAdd,Int.reduceLE,↓eA,eB,aq,seval]
    ·simp(disch:=omega) only[hc,wrap_i64,aA,Int.reduceAdd,Int.reduceLE,↓eA,eB,aq,seval];exact⟨10,⟨by unfold jx;omega,by omega⟩,by decide,rfl⟩
   ·by_cases hc:m*100≤n*110
    ·rw[aC (g0 (by omega)),aC (g1 (by omega)),aK hc];simp(disch:=omega) only[hc,wrap_i64,aA,Int.reduceAdd,Int.reduceLE,↓eA,eB,aq,seval]
    ·simp(disch:=omega) only[hc,wrap_i64,aA,Int.reduceAdd,Int.reduceLE,↓eA,eB,aq,seval];exact⟨15,⟨by unfold jx;omega,by omega⟩,by decide,rfl⟩
   ·by_cases hc:m*100≤n*115
    ·rw[aC (g0 (by omega)),aC (g1 (by omega)),aC (g2 (by omega)),aK hc];simp(disch:=omega) only[hc,wrap_i64,aA,Int.reduceAdd,Int.reduceLE,↓eA,eB,aq,seval]
    ·simp(disch:=omega) only[hc,wrap_i64,aA,Int.reduceAdd,Int.reduceLE,↓eA,eB,aq,seval];exact⟨20,⟨by unfold jx;omega,by omega⟩,by decide,rfl⟩
   ·by_cases hc:m*100≤n*120
    ·rw[aC (g0 (by omega)),aC (g1 (by omega)),aC (g2 (by omega)),aC (g3 (by omega)),aK hc];simp(disch:=omega) only[hc,wrap_i64,aA,Int.reduceAdd,Int.reduceLE,↓eA,eB,aq,seval]
    ·simp(disch:=omega) only[hc,wrap_i64,aA,Int.reduceAdd,Int.reduceLE,↓eA,eB,aq,seval];exact⟨25,⟨by unfold jx;omega,by omega⟩,by decide,rfl⟩
   ·by_cases hc:m*100≤n*125
    ·rw[aC (g0 (by omega)),aC (g1 (by omega)),aC (g2 (by omega)),aC (g3 (by omega)),aC (g4 (by omega)),aK hc];simp(disch:=omega) only[hc,wrap_i64,aA,Int.reduceAdd,Int.reduceLE,↓eA,eB,aq,seval]
    ·simp(disch:=omega) only[hc,wrap_i64,aA,Int.reduceAdd,Int.reduceLE,↓eA,eB,aq,seval];exact⟨30,⟨by unfold jx;omega,by omega⟩,by decide,rfl⟩
   ·rw[aC (g0 (by omega)),aC (g1 (by omega)),aC (g2 (by omega)),aC (g3 (by omega)),aC (g4 (by omega)),aC (g5 (by omega))];simp(disch:=omega) only[wrap_i64,aA,Int.reduceAdd,Int.reduceLE,↓eA,eB,aq,seval]
theorem EO(m n:Int)(S:ae):ak Tryz.prog 197 [.int .i64 m,.int .i64 n] S fun r S'=>r= .dI [.int .i64 (Aj m n).1,.int .i64 (Aj m n).2]∧S'=S:=by
 refine ak.bW Tryz.func197 af6 (U rfl) fun σ b_=>?_;by_cases h:m<0∨1099511627776<m∨n<1∨1099511627776<n
 ·have e:Aj m n=(0,2):=aK h;rw[e];by_cases h1:m<0
  ·simp(disch:=omega) only[zy,h1,aA,↓eA,eB,aq,seval]
  by_cases h2:1099511627776<m
  ·simp(disch:=omega) only[zy,h1,h2,aA,↓eA,eB,aq,seval]
  by_cases h3:n<1
  ·simp(disch:=omega) only[zy,h1,h2,h3,aA,↓eA,eB,aq,seval]
  have h4:1099511627776<n:=by omega
  simp(disch:=omega) only[zy,h1,h2,h3,h4,aA,↓eA,eB,aq,seval]
 ·have h1:¬m<0:=by omega
  have h2:¬1099511627776<m:=by omega
  have h3:¬n<1:=by omega
  have h4:¬1099511627776<n:=by omega
  have e:Aj m n=if m*100≤n*100 then(0,0)else if m*100≤n*105 then(5,0)else if m*100≤n*110 then(10,0)else if m*100≤n*115 then(15,0)else if m*100≤n*120 then(20,0)else if m*100≤n*125 then(25,0)else(0,22):=aC h
  rw[e];simp(disch:=omega) only[zy,h1,h2,h3,h4,aA,↓eA,eB,aq,seval];refine cH (ι:=Int) (fun i=>[(0,.int .i64 m),(1,.int .i64 n),(6,.int .i64 i)]) (fun _=>S) (fun i=>jx i∧(0<i→¬m*100≤n*100)∧(5<i→¬m*100≤n*105)∧(10<i→¬m*100≤n*110)∧(15<i→¬m*100≤n*115)∧(20<i→¬m*100≤n*120)∧(25<i→¬m*100≤n*125)) (fun i=>(30-i).toNat) 0
   ⟨.inl rfl,fun h=>by omega,fun h=>by omega,fun h=>by omega,fun h=>by omega,fun h=>by omega,fun h=>by omega⟩ ?_ rfl ?_
  ·simp only[↓eA,eB,aq,seval]
  ·rintro i ⟨hi,g0,g1,g2,g3,g4,g5⟩;unfold jx at hi;rcases hi with rfl|rfl|rfl|rfl|rfl|rfl|rfl
   ·by_cases hc:m*100≤n*100
    ·rw[aK hc];simp(disch:=omega) only[hc,wrap_i64,aA,Int.reduceAdd,Int.reduceLE,↓eA,eB,aq,seval]
    ·simp(disch:=omega) only[hc,wrap_i64,aA,Int.reduceAdd,Int.reduceLE,↓eA,eB,aq,seval];exact⟨5,⟨by unfold jx;omega,by omega⟩,by decide,rfl⟩
   ·by_cases hc:m*100≤n*105
    ·rw[aC (g0 (by omega)),aK hc];simp(disch:=omega) only[hc,wrap_i64,aA,Int.reduceAdd,Int.reduceLE,↓eA,eB,aq,seval]
    ·simp(disch:=omega) only[hc,wrap_i64,aA,Int.reduceAdd,Int.reduceLE,↓eA,eB,aq,seval];exact⟨10,⟨by unfold jx;omega,by omega⟩,by decide,rfl⟩
   ·by_cases hc:m*100≤n*110
    ·rw[aC (g0 (by omega)),aC (g1 (by omega)),aK hc];simp(disch:=omega) only[hc,wrap_i64,aA,Int.reduceAdd,Int.reduceLE,↓eA,eB,aq,seval]
    ·simp(disch:=omega) only[hc,wrap_i64,aA,Int.reduceAdd,Int.reduceLE,↓eA,eB,aq,seval];exact⟨15,⟨by unfold jx;omega,by omega⟩,by decide,rfl⟩
   ·by_cases hc:m*100≤n*115
    ·rw[aC (g0 (by omega)),aC (g1 (by omega)),aC (g2 (by omega)),aK hc];simp(disch:=omega) only[hc,wrap_i64,aA,Int.reduceAdd,Int.reduceLE,↓eA,eB,aq,seval]
    ·simp(disch:=omega) only[hc,wrap_i64,aA,Int.reduceAdd,Int.reduceLE,↓eA,eB,aq,seval];exact⟨20,⟨by unfold jx;omega,by omega⟩,by decide,rfl⟩
   ·by_cases hc:m*100≤n*120
    ·rw[aC (g0 (by omega)),aC (g1 (by omega)),aC (g2 (by omega)),aC (g3 (by omega)),aK hc];simp(disch:=omega) only[hc,wrap_i64,aA,Int.reduceAdd,Int.reduceLE,↓eA,eB,aq,seval]
    ·simp(disch:=omega) only[hc,wrap_i64,aA,Int.reduceAdd,Int.reduceLE,↓eA,eB,aq,seval];exact⟨25,⟨by unfold jx;omega,by omega⟩,by decide,rfl⟩
   ·by_cases hc:m*100≤n*125
    ·rw[aC (g0 (by omega)),aC (g1 (by omega)),aC (g2 (by omega)),aC (g3 (by omega)),aC (g4 (by omega)),aK hc];simp(disch:=omega) only[hc,wrap_i64,aA,Int.reduceAdd,Int.reduceLE,↓eA,eB,aq,seval]
    ·simp(disch:=omega) only[hc,wrap_i64,aA,Int.reduceAdd,Int.reduceLE,↓eA,eB,aq,seval];exact⟨30,⟨by unfold jx;omega,by omega⟩,by decide,rfl⟩
   ·rw[aC (g0 (by omega)),aC (g1 (by omega)),aC (g2 (by omega)),aC (g3 (by omega)),aC (g4 (by omega)),aC (g5 (by omega))];simp(disch:=omega) only[wrap_i64,aA,Int.reduceAdd,Int.reduceLE,↓eA,eB,aq,seval]
end Go.Proofs.YtfgkgmmnldocaaaGreatDoor.Ml
