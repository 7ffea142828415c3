/- CsA -/
import Derived.Test.YtfgkgmmnldocaaaGreatDoorZAlJ
import Derived.Test.YtfgkgmmnldocaaaGreatDoorZCmpC
import Derived.Test.YtfgkgmmnldocaaaGreatDoorZAlF
set_option linter.unusedSectionVars false
set_option linter.unusedSimpArgs false
set_option linter.unusedVariables false
namespace Go.Proofs.YtfgkgmmnldocaaaGreatDoor
open Go Go.AL
variable[Go.AL.Mode][Go.AL.bR]
abbrev bS:=List UInt8
structure lX where
 code:bS
 iH:bS
 IU:bS
 off:Int
 sh:List (Int×Int)
 deriving DecidableEq,Inhabited
structure kB where
 fr:bS
 to:bS
 mi:Int
 deriving DecidableEq,Inhabited
abbrev fO:=List lX×List kB
structure Pd where
 f:Int
 t:Int
 d:Int
 deriving DecidableEq,Inhabited
structure Lg where
 f:bS
 t:bS
 dep:Int
 arr:Int
 eq:bS
 deriving DecidableEq,Inhabited
structure Fl where
 c:bS
 n:Int
 p:Pd
 TY:List Lg
 deriving DecidableEq,Inhabited
structure Dt where
 c:bS
 n:Int
 day:Int
 f:bS
 t:bS
 dep:Int
 arr:Int
 eq:bS
 deriving DecidableEq,Inhabited
structure Sg where
 c:bS
 n:Int
 day:Int
 f:bS
 t:bS
 dep:Int
 arr:Int
 deriving DecidableEq,Inhabited
structure Sr where
 c:bS
 n:Int
 p:Pd
 oc:bS
 oas:Int
 f:bS
 t:bS
 deriving DecidableEq,Inhabited
structure Ft where
 err:Int
 at_:bS
 deriving DecidableEq,Inhabited
structure Id where
 c:bS
 n:Int
 day:Int
 f:bS
 deriving DecidableEq,Inhabited
def rT(p:Int×Int):List V:=[.int .i64 p.1,.int .i64 p.2]
def dG(a:lX):List V:=[.str a.code,.str a.iH,.str a.IU,.int .i64 a.off,.sl 2 (a.sh.map rT)]
def cZ(d:kB):List V:=[.str d.fr,.str d.to,.int .i64 d.mi]
def dV(p:fO):V:=.agg [.sl 5 (p.1.map dG),.sl 3 (p.2.map cZ)]
def nI(p:Pd):List V:=[.int .i64 p.f,.int .i64 p.t,.int .i64 p.d]
def gl(x:Sg):List V:=[.str x.c,.int .i64 x.n,.int .i64 x.day,.str x.f,.str x.t,.int .i64 x.dep,.int .i64 x.arr]
def Bg(x:Ft):List V:=[.int .i64 x.err,.str x.at_]
def iu(n:Int):List V:=[.int .i64 n]
def up(c:UInt8):Bool:=decide (65≤c.toNat∧c.toNat≤90)
def Eh(c:UInt8):Bool:=decide (48≤c.toNat∧c.toNat≤57)
def codeF(s:bS)(a b:Nat):Bool:=decide (a≤s.length∧s.length≤b)&&s.all fun c=>up c||Eh c
def PV(s:bS):Bool:=codeF s 2 2&&!s.all Eh
def tW(p:Pd):Int:=if p.f<0∨p.t<p.f∨36525≤p.t then 12 else if 800≤p.t-p.f then 4 else if p.d<1∨127<p.d then 2 else 0
def iN(d:Int):Nat:=((d%7+12)%7).toNat
def Ca(ds d:Int):Bool:=decide (ds/2^iN d%2=1)
def FE(p:Pd)(d:Int):Bool:=decide (tW p=0∧p.f≤d∧d≤p.t)&&Ca p.d d
def mD(p:Pd):List Int:=if tW p=0 then((List.range (p.t-p.f+1).toNat).map fun k=>p.f+(k:Nat)).filter (Ca p.d)else []
def adx(a b:Pd):Bool:=(mD a).any (FE b)
theorem dT{p:Prop}[Decidable p](h:p):decide p=true:=oe h
theorem dF{p:Prop}[Decidable p](h:¬p):decide p=false:=gL h
theorem GQ(d:Int):((d.tmod 7)+12).tmod 7=((iN d:Nat):Int)∧-6≤d.tmod 7∧d.tmod 7≤6:=by
 have h1:d.tmod 7=d%7∨d.tmod 7=d%7-7:=by
  rcases Int.le_total 0 d with h|h
  ·exact .inl (bH h)
  ·have e:d= -(-d):=by omega
   have h2:d.tmod 7= -((-d).tmod 7):=by conv=>lhs;rw[e,Int.neg_tmod]
   have h3:(-d).tmod 7=(-d)%7:=bH (by omega);omega
 have h0: -6≤d.tmod 7∧d.tmod 7≤6:=by
  rcases Int.le_total 0 d with h|h
  ·have:d.tmod 7=d%7:=bH h;omega
  ·have e:d= -(-d):=by omega
   have h2:d.tmod 7= -((-d).tmod 7):=by conv=>lhs;rw[e,Int.neg_tmod]
   have h3:(-d).tmod 7=(-d)%7:=bH (by omega);omega
 refine⟨?_,h0⟩;rw[bH (by omega)];unfold iN;omega
theorem mh(d:Int):iN d<7:=by unfold iN;omega
theorem pg(d:Int)(S:ae):ak Tryz.prog 134 [.int .i64 d] S fun r S'=>r= .int .i64 (iN d:Nat)∧S'=S:=by
 obtain⟨h1,h2,h3⟩:=GQ d;refine ak.bW Tryz.func134 ajC (U rfl) fun σ b_=>?_;have:=mh d;simp(disch:=omega) only[agf,wrap_i64,h1,↓eA,eB,aq,seval]
theorem EK(d:Int)(S:ae):ak Tryz.prog 236 [.int .i64 d] S fun r S'=>r= .int .i64 (iN d:Nat)∧S'=S:=by
 obtain⟨h1,h2,h3⟩:=GQ d;refine ak.bW Tryz.func236 ajB (U rfl) fun σ b_=>?_;have:=mh d;simp(disch:=omega) only[age,wrap_i64,h1,↓eA,eB,aq,seval]
theorem AK(p:Pd)(S:ae):ak Tryz.prog 93 [.agg (nI p)] S fun r S'=>r= .int .i64 (tW p)∧S'=S:=by
 refine ak.bW Tryz.func93 ajN (U rfl) fun σ b_=>?_;unfold tW;by_cases h1:p.f<0
 ·simp only[DZ,nI,dT h1,h1,l_,aQ,aj,↓eA,eB,aq,seval]
 by_cases h2:p.t<p.f
 ·simp only[DZ,nI,dF h1,dT h2,h1,h2,l_,or_true,aQ,aj,↓eA,eB,aq,seval]
 by_cases h3:36525≤p.t
 ·simp only[DZ,nI,dF h1,dF h2,dT h3,h1,h2,h3,l_,or_true,aQ,aj,↓eA,eB,aq,seval]
 by_cases h4:800≤p.t-p.f
 ·simp(disch:=omega) only[DZ,nI,dF h1,dF h2,dF h3,dT h4,h1,h2,h3,h4,wrap_i64,ma,aZ,aQ,aj,↓eA,eB,aq,seval]
 by_cases h5:p.d<1
 ·simp(disch:=omega) only[DZ,nI,dF h1,dF h2,dF h3,dF h4,dT h5,h1,h2,h3,h4,h5,wrap_i64,ma,l_,aZ,aQ,aj,↓eA,eB,aq,seval]
 by_cases h6:127<p.d
 ·simp(disch:=omega) only[DZ,nI,dF h1,dF h2,dF h3,dF h4,dF h5,dT h6,h1,h2,h3,h4,h5,h6,wrap_i64,ma,or_true,aZ,aQ,aj,↓eA,eB,aq,seval]
 simp(disch:=omega) only[DZ,nI,dF h1,dF h2,dF h3,dF h4,dF h5,dF h6,h1,h2,h3,h4,h5,h6,wrap_i64,ma,aZ,aj,↓eA,eB,aq,seval]
theorem B2(p:Pd)(S:ae):ak Tryz.prog 206 [.agg (nI p)] S fun r S'=>r= .int .i64 (tW p)∧S'=S:=by
 refine ak.bW Tryz.func206 ajJ (U rfl) fun σ b_=>?_;unfold tW;by_cases h1:p.f<0
 ·simp only[DY,nI,dT h1,h1,l_,aQ,aj,↓eA,eB,aq,seval]
 by_cases h2:p.t<p.f
 ·simp only[DY,nI,dF h1,dT h2,h1,h2,l_,or_true,aQ,aj,↓eA,eB,aq,seval]
 by_cases h3:36525≤p.t
 ·simp only[DY,nI,dF h1,dF h2,dT h3,h1,h2,h3,l_,or_true,aQ,aj,↓eA,eB,aq,seval]
 by_cases h4:800≤p.t-p.f
 ·simp(disch:=omega) only[DY,nI,dF h1,dF h2,dF h3,dT h4,h1,h2,h3,h4,wrap_i64,ma,aZ,aQ,aj,↓eA,eB,aq,seval]
 by_cases h5:p.d<1
 ·simp(disch:=omega) only[DY,nI,dF h1,dF h2,dF h3,dF h4,dT h5,h1,h2,h3,h4,h5,wrap_i64,ma,l_,aZ,aQ,aj,↓eA,eB,aq,seval]
 by_cases h6:127<p.d
 ·simp(disch:=omega) only[DY,nI,dF h1,dF h2,dF h3,dF h4,dF h5,dT h6,h1,h2,h3,h4,h5,h6,wrap_i64,ma,or_true,aZ,aQ,aj,↓eA,eB,aq,seval]
 simp(disch:=omega) only[DY,nI,dF h1,dF h2,dF h3,dF h4,dF h5,dF h6,h1,h2,h3,h4,h5,h6,wrap_i64,ma,aZ,aj,↓eA,eB,aq,seval]
theorem yb{p:Pd}(h:tW p=0):0≤p.f∧p.f≤p.t∧p.t<36525∧p.t-p.f<800∧1≤p.d∧p.d≤127:=by
 unfold tW at h;split at h
 ·cases h
 ·split at h
  ·cases h
  ·split at h
   ·cases h
   ·omega
theorem Aa:∀m:Nat,m<128→IntKind.i64.wrap ((BitVec.ofInt IntKind.i64.bits (m:Int)&&&BitVec.ofInt IntKind.i64.bits 1).toNat:Nat)=(m:Int)%2:=by decide+kernel
theorem Mk(d:Int){k:Nat}(hk:k<7):jL false .i64 d (k:Nat)=some (.int .i64 (d/2^k)):=by
 have e:min ((k:Int).toNat) IntKind.i64.bits=k:=by
  have:IntKind.i64.bits=64:=rfl;rw[this];omega
 unfold jL;rw[aK (by omega),e,Int.fdiv_eq_ediv_of_nonneg _ (Int.pow_nonneg (by decide))];rfl
theorem ly{d:Int}(h0:0≤d)(h1:d≤127)(k:Nat):0≤d/2^k∧d/2^k≤127:=by
 have hp:(0:Int)<2^k:=Int.pow_pos (by decide);refine⟨Int.ediv_nonneg h0 (by omega),?_⟩;have:=Int.ediv_le_self (2^k) h0;omega
theorem aac(d:Int)(h0:1≤d)(h1:d≤127)(day:Int)(S:ae):ak Tryz.prog 94 [.int .i64 d,.int .i64 day] S fun r S'=>r= .bool (Ca d day)∧S'=S:=by
 refine ak.bW Tryz.func94 ajL (U rfl) fun σ b_=>?_;simp only[agm,↓eA,eB,aq,seval];refine(pg day S).then ?_
 obtain⟨m,hm⟩:=Int.eq_ofNat_of_zero_le (ly (by omega) h1 (iN day)).1;have hb:=Aa m (by have:=(ly (by omega:0≤d) h1 (iN day)).2;omega);simp(disch:=omega) only[Mk d (mh day),hm,hb,↓eA,eB,aq,seval];simp only[Ca,hm,mR]
theorem qe{k:Nat}(hk:k≤7):(1:Int)≤2^k∧(2:Int)^k≤128:=by
 match k,hk with
 |0,_=>decide
 |1,_=>decide
 |2,_=>decide
 |3,_=>decide
 |4,_=>decide
 |5,_=>decide
 |6,_=>decide
 |7,_=>decide
theorem af9(d:Int)(S:ae):ak Tryz.prog 235 [.int .i64 d] S fun r S'=>r= .int .i64 (2^iN d)∧S'=S:=by
 refine ak.bW Tryz.func235 ajI (U rfl) fun σ b_=>?_;have hw:=mh d;simp only[agk,↓eA,eB,aq,seval];refine cH (ι:=Nat) (fun k=>[(0,.int .i64 d),(3,.int .i64 (2^k)),(4,.int .i64 (k:Nat))]) (fun _=>S) (fun k=>k≤iN d) (fun k=>iN d-k) 0 (az _) ?_ rfl ?_
 ·simp only[↓eA,eB,aq,seval];try rfl
 intro k hk;simp only[↓eA,eB,aq,seval];refine(EK d S).then ?_
 by_cases h:k<iN d
 ·have aR:(k:Int)<(iN d:Nat):=by omega
  have hp:=qe (k:=k) (by omega);have e:(2:Int)*2^k=2^(k+1):=by rw[Int.pow_succ,Int.mul_comm]
  have Kz:=qe (k:=k+1) (by omega);have cN:(k:Int)+1=((k+1:Nat):Int):=by omega
  simp(disch:=omega) only[dT aR,wrap_i64,e,cN,↓eA,eB,aq,seval];exact⟨k+1,by omega,by omega,rfl,rfl⟩
 ·have eh:¬(k:Int)<(iN d:Nat):=by omega
  have e:k=iN d:=by omega
  simp(disch:=omega) only[dF eh,e,↓eA,eB,aq,seval]
theorem aey(p:Pd)(day:Int)(S:ae):ak Tryz.prog 99 [.agg (nI p),.int .i64 day] S fun r S'=>r= .bool (FE p day)∧S'=S:=by
 refine ak.bW Tryz.func99 ajQ (U rfl) fun σ b_=>?_;simp only[ags,nI,aj,↓eA,eB,aq,seval];refine(AK p S).then ?_
 unfold FE;by_cases h1:tW p=0
 ·by_cases h2:p.f≤day
  ·by_cases h3:day≤p.t
   ·simp only[dT h1,dT h2,dT h3,h1,h2,h3,aj,↓eA,eB,aq,seval];refine(aac p.d (yb h1).2.2.2.2.1 (yb h1).2.2.2.2.2 day S).then ?_
    simp only[mR,aX,aj,↓eA,eB,aq,seval]
   ·simp only[dT h1,dT h2,dF h3,h1,h2,h3,and_false,aA,aO,aj,↓eA,eB,aq,seval]
  ·simp only[dT h1,dF h2,h1,h2,and_false,false_and,aA,aO,aj,↓eA,eB,aq,seval]
 ·simp only[dF h1,h1,false_and,aA,aO,aj,↓eA,eB,aq,seval]
theorem ZX(p:Pd)(day:Int)(S:ae):ak Tryz.prog 223 [.agg (nI p),.int .i64 day] S fun r S'=>r= .bool (FE p day)∧S'=S:=by
 refine ak.bW Tryz.func223 ajO (U rfl) fun σ b_=>?_;simp only[agq,nI,aj,↓eA,eB,aq,seval];refine(B2 p S).then ?_
 unfold FE;by_cases h1:tW p=0
 ·by_cases h2:p.f≤day
  ·by_cases h3:day≤p.t
   ·have hp:=qe (k:=iN day) (Nat.le_of_lt (mh day));have hd:=yb h1;have hb:=ly (d:=p.d) (by omega) (by omega) (iN day);have he:p.d.tdiv (2^iN day)=p.d/2^iN day:=dd (by omega);have hm:(p.d/2^iN day).tmod 2=p.d/2^iN day%2:=bH hb.1;have eY:((2:Int)^iN day)≠0:=by omega
    simp only[dT h1,dT h2,dT h3,h1,h2,h3,aj,↓eA,eB,aq,seval];refine qv.intro (af9 day S) ?_;simp(disch:=omega) only[eY,ne_eq,not_false_eq_true,he,hm,wrap_i64,aj,↓eA,eB,aq,seval];simp only[Ca,mR,decide_true,aX]
   ·simp only[dT h1,dT h2,dF h3,h1,h2,h3,and_false,aA,aO,aj,↓eA,eB,aq,seval]
  ·simp only[dT h1,dF h2,h1,h2,and_false,false_and,aA,aO,aj,↓eA,eB,aq,seval]
 ·simp only[dF h1,h1,false_and,aA,aO,aj,↓eA,eB,aq,seval]
end Go.Proofs.YtfgkgmmnldocaaaGreatDoor
namespace Go.Proofs.YtfgkgmmnldocaaaGreatDoor
open Go Go.AL
variable[Go.AL.Mode][Go.AL.bR]
theorem my(l:List Int):∀r∈l.map iu,r.length=1∧V.bQ r=true:=fun r hr=>by
 obtain⟨d,_,rfl⟩:=List.mem_map.1 hr;exact⟨rfl,rfl⟩
def fC:List V:=[.str [],.str [],.str [],.int .i64 0,.aM]
def jc(o:Option lX):V:=match o with
 |some a=>.dI [.agg (dG a),.bool true]
 |none=>.dI [.agg fC,.bool false]
theorem lx{α:Type}{l:List α}{q:α→Bool}{k:Nat}{a:α}(h:l.find? q=(l.drop k).find? q)(ha:l[k]?=some a)(hq:q a=false):l.find? q=(l.drop (k+1)).find? q:=by
 have e:l.drop k=a::l.drop (k+1):=by
  obtain⟨aR,rfl⟩:=List.getElem?_eq_some_iff.1 ha;exact dQ aR
 rw[h,e,List.find?_cons_of_neg (by simp[hq])]
theorem nt{α:Type}{l:List α}{q:α→Bool}{k:Nat}(h:l.find? q=(l.drop k).find? q)(ha:l[k]?=none):l.find? q=none:=by
 rw[h,bO (List.getElem?_eq_none_iff.1 ha)];rfl
structure POk(p:fO):Prop where
 h1:p.1.length≤1100000
 h2:∀a∈p.1,a.sh.length≤100000
theorem gy{α:Type}{l:List α}{k:Nat}{x:α}(h:l[k]?=some x):l.take (k+1)=l.take k++[x]:=by
 rw[List.take_add_one,h];rfl
end Go.Proofs.YtfgkgmmnldocaaaGreatDoor
namespace Go.Proofs.YtfgkgmmnldocaaaGreatDoor
open Go Go.AL
variable[Go.AL.Mode][Go.AL.bR]
section
variable{S:ae}{n j:Nat}{a:Dt}{L:List Dt}{r:List V}{rs:List (List V)}
end
theorem Pp{α:Type}{l:List α}{q:α→Bool}{k:Nat}{a:α}(h:l.find? q=(l.drop k).find? q)(ha:l[k]?=some a)(hq:q a=true):l.find? q=some a:=by
 have e:l.drop k=a::l.drop (k+1):=by
  obtain⟨aR,rfl⟩:=List.getElem?_eq_some_iff.1 ha;exact dQ aR
 rw[h,e,List.find?_cons_of_pos hq]
structure FOk(l:List Fl):Prop where
 h1:l.length≤1000
 h2:∀x∈l,x.TY.length≤300
end Go.Proofs.YtfgkgmmnldocaaaGreatDoor
namespace Go.Proofs.YtfgkgmmnldocaaaGreatDoor
open Go Go.AL
variable[Go.AL.Mode][Go.AL.bR]
def xB(n:Nat):bS:=if n<10 then [UInt8.ofNat (48+n)]else [UInt8.ofNat (48+n/10),UInt8.ofNat (48+n%10)]
def aeN:bS:=[48,49,50,51,52,53,54,55,56,57]
theorem IS{n:Nat}(h:n<10):(aeN.drop n).take 1=xB n:=by
 have:∀n:Fin 10,(aeN.drop n.val).take 1=xB n.val:=by decide+kernel
 exact this ⟨n,h⟩
theorem IQ(n:Nat)(S:ae)(hn:n<10):ak Tryz.prog 83 [.int .u64 n] S fun r S'=>r= .str (xB n)∧S'=S:=by
 refine ak.bW Tryz.func83 ae3 (U rfl) fun σ b_=>?_;have h':(n:Int)<10:=by omega
 have hc:(n:Int)+1=((n+1:Nat):Int):=by omega
 have hs:KR [48,49,50,51,52,53,54,55,56,57] (some (n:Int)) (some ((n+1:Nat):Int))=some (.str (xB n)):=by
  rw[pG,aK ⟨by omega,by omega,by simp only[a_,bz];omega⟩,←IS hn,cn,cn,iJ];rfl
 simp(disch:=omega) only[acb,h',hc,hs,wrap_u64,↓eA,eB,aq,seval]
theorem Hm(c:UInt8)(S:ae):ak Tryz.prog 128 [.int .u8 c.toNat] S fun r S'=>r= .bool (up c)∧S'=S:=by
 refine ak.bW Tryz.func128 ajE (U rfl) fun σ b_=>?_;by_cases h1:(65:Int)≤c.toNat
 ·by_cases h2:(c.toNat:Int)≤90
  ·have:up c=true:=by unfold up;exact oe ⟨by omega,by omega⟩
   simp only[Vi,this,dT h1,dT h2,↓eA,eB,aq,seval]
  ·have:up c=false:=by unfold up;exact gL (fun h=>by omega)
   simp only[Vi,this,dT h1,dF h2,↓eA,eB,aq,seval]
 ·have:up c=false:=by unfold up;exact gL (fun h=>by omega)
  simp only[Vi,this,dF h1,↓eA,eB,aq,seval]
theorem Z0(c:UInt8)(S:ae):ak Tryz.prog 129 [.int .u8 c.toNat] S fun r S'=>r= .bool (Eh c)∧S'=S:=by
 refine ak.bW Tryz.func129 ajD (U rfl) fun σ b_=>?_;by_cases h1:(48:Int)≤c.toNat
 ·by_cases h2:(c.toNat:Int)≤57
  ·have:Eh c=true:=by unfold Eh;exact oe ⟨by omega,by omega⟩
   simp only[Vh,this,dT h1,dT h2,↓eA,eB,aq,seval]
  ·have:Eh c=false:=by unfold Eh;exact gL (fun h=>by omega)
   simp only[Vh,this,dT h1,dF h2,↓eA,eB,aq,seval]
 ·have:Eh c=false:=by unfold Eh;exact gL (fun h=>by omega)
  simp only[Vh,this,dF h1,↓eA,eB,aq,seval]
theorem QX{l:bS}{q:UInt8→Bool}{k:Nat}{c:UInt8}(hc:l[k]?=some c):(l.drop k).all q=(q c&&(l.drop (k+1)).all q):=by
 have e:l.drop k=c::l.drop (k+1):=by
  obtain⟨aR,rfl⟩:=List.getElem?_eq_some_iff.1 hc;exact dQ aR
 rw[e,gr]
theorem qB{f:FuncId}{s:bS}{rest:List V}{S:ae}{R:V→ae→Prop}(h:s.length≤maxLen→ak Tryz.prog f (.str s::rest) S R)(h0:o8 Tryz.prog f):ak Tryz.prog f (.str s::rest) S R:=
 ⟨h0,fun ρ w us hi hv=>by
  obtain⟨u,_,hu⟩:=hv.2 0 _ rfl;cases hu with
  |str h1 h2=>exact(h (by rw[←h1];simpa using h2)).2 ρ w us hi hv⟩
theorem Ht(s:bS)(a b:Nat)(hs:s.length≤9223372036854775807)(S:ae):ak Tryz.prog 78 [.str s,.int .i64 (a:Nat),.int .i64 (b:Nat)] S fun r S'=>r= .bool (codeF s a b)∧S'=S:=by
 refine ak.bW Tryz.func78 ajM (U rfl) fun σ b_=>?_;simp(disch:=omega) only[agn,aj,↓eA,eB,aq,seval];refine cH (ι:=Nat) (fun k=>[(0,.str s),(1,.int .i64 (a:Nat)),(2,.int .i64 (b:Nat)),(7,.int .i64 (k:Nat))]) (fun _=>S) (fun k=>k≤s.length∧(s.all fun c=>up c||Eh c)=((s.drop k).all fun c=>up c||Eh c)) (fun k=>s.length-k) 0 ⟨az _,rfl⟩ ?_ rfl ?_
 ·simp only[↓eA,eB,aq,seval]
 rintro k ⟨hk,he⟩;cases hc:s[k]? with
 |none=>
  have eh:s.length≤k:=List.getElem?_eq_none_iff.1 hc;have aR:¬((k:Int)<s.length):=by omega
  rw[bO eh]at he;unfold codeF;rw[he];by_cases h1:a≤s.length
  ·have Iy:(a:Int)≤s.length:=by omega
   by_cases h2:s.length≤b
   ·have Ux:(s.length:Int)≤b:=by omega
    simp(disch:=omega) only[dF aR,dT Iy,dT Ux,h1,h2,mR,gx,dC,aj,↓eA,eB,aq,seval]
   ·have Ux:¬(s.length:Int)≤b:=by omega
    simp(disch:=omega) only[dF aR,dT Iy,dF Ux,h1,h2,and_false,aA,aO,aj,↓eA,eB,aq,seval]
  ·have Iy:¬(a:Int)≤s.length:=by omega
   simp(disch:=omega) only[dF aR,dF Iy,h1,false_and,aA,aO,aj,↓eA,eB,aq,seval]
 |some c=>
  have cK:=(List.getElem?_eq_some_iff.1 hc).1;have aR:(k:Int)<s.length:=by omega
  have cN:(k:Int)+1=((k+1:Nat):Int):=by omega
  rw[QX hc]at he;simp(disch:=omega) only[dT aR,hc,aj,↓eA,eB,aq,seval];refine(Hm c S).then ?_
  cases h:up c with
  |true=>
   rw[h,eS,aX]at he;simp(disch:=omega) only[wrap_i64,cN,aj,↓eA,eB,aq,seval];exact⟨k+1,⟨by omega,he⟩,by omega,rfl⟩
  |false=>
   simp(disch:=omega) only[hc,aj,↓eA,eB,aq,seval];refine(Z0 c S).then ?_
   cases h2:Eh c with
   |true=>
    rw[h,h2,mf,aX]at he;simp(disch:=omega) only[wrap_i64,cN,aj,↓eA,eB,aq,seval];exact⟨k+1,⟨by omega,he⟩,by omega,rfl⟩
   |false=>
    rw[h,h2,Bool.or_self,aO]at he;unfold codeF;simp(disch:=omega) only[he,cV,aj,↓eA,eB,aq,seval]
theorem U7{a b:UInt8}(h:codeF [a,b] 2 2=true):(!([a,b]:bS).all Eh)=(up a||up b):=by
 have key:∀c:UInt8,(up c||Eh c)=true→Eh c=!up c:=fun c hc=>by
  cases hu:up c with
  |false=>rw[hu,cQ]at hc;rw[hc];rfl
  |true=>
   have h1:=gw hu;have:Eh c=false:=gL (fun h=>by omega);rw[this];rfl
 simp only[codeF,a_,bz,gr,gx,mW,aW]at h;rw[gr,gr,gx,mW,key a h.2.1,key b h.2.2];cases up a<;>cases up b<;>rfl
theorem ET(s:bS)(hs:s.length≤9223372036854775807)(S:ae):ak Tryz.prog 77 [.str s] S fun r S'=>r= .bool (PV s)∧S'=S:=by
 refine ak.bW Tryz.func77 ajH (U rfl) fun σ b_=>?_;unfold PV;simp(disch:=omega) only[agj,aj,↓eA,eB,aq,seval];refine(Ht s 2 2 hs S).then ?_
 cases h:codeF s 2 2 with
 |true=>
  obtain⟨a,b,rfl⟩:∃a b,s=[a,b]:=by
   have:s.length=2:=by
    simp only[codeF,aW,aL]at h;omega
   match s,this with
   |[a,b],_=>exact⟨a,b,rfl⟩
  rw[U7 h];simp(disch:=omega) only[dL,aj,↓eA,eB,aq,seval];refine(Hm a S).then ?_
  cases ha:up a with
  |true=>simp(disch:=omega) only[eS,dC,aj,↓eA,eB,aq,seval]
  |false=>
   simp(disch:=omega) only[dL,dM,aj,↓eA,eB,aq,seval];refine(Hm b S).then ?_
   cases hb:up b<;>simp(disch:=omega) only[cQ,dC,aX,aj,↓eA,eB,aq,seval]
 |false=>simp(disch:=omega) only[aO,aj,↓eA,eB,aq,seval]
theorem qG(s:bS)(a b:Nat)(S:ae):ak Tryz.prog 78 [.str s,.int .i64 (a:Nat),.int .i64 (b:Nat)] S fun r S'=>r= .bool (codeF s a b)∧S'=S:=
 qB (fun h=>Ht s a b (by unfold maxLen at h;omega) S) ⟨Tryz.f78,Tryz.func78,by kernel_rfl,by kernel_rfl⟩
theorem sT(s:bS)(S:ae):ak Tryz.prog 77 [.str s] S fun r S'=>r= .bool (PV s)∧S'=S:=
 qB (fun h=>ET s (by unfold maxLen at h;omega) S) ⟨Tryz.f77,Tryz.func77,by kernel_rfl,by kernel_rfl⟩
def ajq(L:List Lg)(i:Nat)(l:Lg):Bool:=(match i with
 |0=>true
 |j+1=>match L[j]? with
  |some l0=>decide (l.f=l0.t)
  |none=>true)&&!((L.take (i+1)).any fun x=>decide (x.f=l.t))
end Go.Proofs.YtfgkgmmnldocaaaGreatDoor
