/- Mil5 -/
import Derived.Test.YtfgkgmmnldocaaaGreatDoorZCmp1
set_option linter.unusedSectionVars false
set_option linter.unusedSimpArgs false
set_option linter.unusedVariables false
namespace Go.Proofs.YtfgkgmmnldocaaaGreatDoor.Ml
open Go Go.AL
variable[Go.AL.Mode][Go.AL.bR]
def fA(l:List lX):V:=.sl 5 (l.map dG)
def fw(l:List kB):V:=.sl 3 (l.map cZ)
def fC:List V:=[.str [],.str [],.str [],.int .i64 0,.aM]
def jc(l:List lX)(q:lX→Bool):V:=match l.find? q with
 |some a=>.dI [.agg (dG a),.bool true]
 |none=>.dI [.agg fC,.bool false]
theorem uJ{l:List lX}{q:lX→Bool}{k:Nat}{a:lX}(h:l.find? q=(l.drop k).find? q)(ha:l[k]?=some a)(hq:q a=true):jc l q= .dI [.agg (dG a),.bool true]:=by
 have e:l.drop k=a::l.drop (k+1):=by
  obtain⟨aR,rfl⟩:=List.getElem?_eq_some_iff.1 ha;exact dQ aR
 rw[jc,h,e,List.find?_cons_of_pos hq]
theorem lx{l:List lX}{q:lX→Bool}{k:Nat}{a:lX}(h:l.find? q=(l.drop k).find? q)(ha:l[k]?=some a)(hq:q a=false):l.find? q=(l.drop (k+1)).find? q:=by
 have e:l.drop k=a::l.drop (k+1):=by
  obtain⟨aR,rfl⟩:=List.getElem?_eq_some_iff.1 ha;exact dQ aR
 rw[h,e,List.find?_cons_of_neg (by simp[hq])]
theorem nt{l:List lX}{q:lX→Bool}{k:Nat}(h:l.find? q=(l.drop k).find? q)(ha:l[k]?=none):jc l q= .dI [.agg fC,.bool false]:=by
 rw[jc,h,bO (List.getElem?_eq_none_iff.1 ha)];rfl
theorem FN(p:List lX×List kB)(c:bS)(S:ae)(hl:p.1.length≤1048576):ak Tryz.prog 55 [dV p,.str c] S fun r S'=>r=jc p.1 (fun a=>decide (a.code=c))∧S'=S:=by
 refine ak.bp Tryz.func55 XL fun hn=>?_;refine ak.fin Tryz.func55 XL (U rfl) fun σ b_=>?_;simp(disch:=first|omega|(simp only[ai];omega)) only[Y_,dV,fA,fw,aj,↓eA,eB,aq,seval];refine dm (ι:=Nat) (fun k=>[(1,.str c),(4,.ptr S.length 0 0 0),(9,fA p.1),(10,.int .i64 p.1.length),(11,.int .i64 k)]) (fun _=>S++[⟨0,some (.arr 137 5 [fC])⟩]) (fun k=>k≤p.1.length∧p.1.find? (fun a=>decide (a.code=c))=(p.1.drop k).find? (fun a=>decide (a.code=c))) (fun k=>p.1.length-k) (fun i hi=>by rw[b_];simp) 0 ⟨az _,rfl⟩ (.inl ⟨?_,rfl⟩) ?_
 ·simp only[fA,fw,↓eA,eB,aq,seval]
 ·rintro k ⟨hk,hinv⟩;cases hc:p.1[k]? with
  |none=>
   have aR:¬((k:Int)<p.1.length):=by rw[eC]at hc;omega
   rw[nt hinv hc];simp(disch:=first|omega|(simp only[ai];omega)) only[fA,fw,fC,aR,aA,aj,↓eA,eB,aq,seval];exact⟨_,S,hn.dO _,.bX rfl,ah _,rfl,rfl⟩
  |some a=>
   have cK:=(List.getElem?_eq_some_iff.1 hc).1;have aR:(k:Int)<p.1.length:=by omega
   by_cases h:a.code=c
   ·have he:decide (a.code=c)=true:=by simp[h]
    rw[uJ hinv hc he];simp(disch:=first|omega|(simp only[ai];omega)) only[fA,fw,dG,fC,hc,aR,he,aj,↓eA,eB,aq,seval];exact⟨_,S,hn.dO _,.bX rfl,ah _,rfl,rfl⟩
   ·simp(disch:=first|omega|(simp only[ai];omega)) only[fA,fw,dG,fC,wrap_i64,hc,aR,h,aA,aj,↓eA,eB,aq,seval];refine⟨k+1,⟨by omega,lx hinv hc (by simp[h])⟩,by omega,dt ?_ (by simp only[fA,fw,↓eA,eB,aq,seval];rfl) (by simp[V.under,fA])⟩;exact hn.Dk (L:=[_,_]) (L1:=[_]) ⟨rfl,⟨_,rfl,.bX (fun r hr=>by simp only[fC,bM]at hr;subst hr;exact⟨rfl,rfl⟩)⟩,trivial⟩
theorem LZ(p:List lX×List kB)(c:bS)(S:ae)(hl:p.1.length≤1048576):ak Tryz.prog 95 [dV p,.str c] S fun r S'=>r=jc p.1 (fun a=>decide (a.iH=c))∧S'=S:=by
 refine ak.bp Tryz.func95 XK fun hn=>?_;refine ak.fin Tryz.func95 XK (U rfl) fun σ b_=>?_;simp(disch:=first|omega|(simp only[ai];omega)) only[Y9,dV,fA,fw,aj,↓eA,eB,aq,seval];refine dm (ι:=Nat) (fun k=>[(1,.str c),(4,.ptr S.length 0 0 0),(9,fA p.1),(10,.int .i64 p.1.length),(11,.int .i64 k)]) (fun _=>S++[⟨0,some (.arr 137 5 [fC])⟩]) (fun k=>k≤p.1.length∧p.1.find? (fun a=>decide (a.iH=c))=(p.1.drop k).find? (fun a=>decide (a.iH=c))) (fun k=>p.1.length-k) (fun i hi=>by rw[b_];simp) 0 ⟨az _,rfl⟩ (.inl ⟨?_,rfl⟩) ?_
 ·simp only[fA,fw,↓eA,eB,aq,seval]
 ·rintro k ⟨hk,hinv⟩;cases hc:p.1[k]? with
  |none=>
   have aR:¬((k:Int)<p.1.length):=by rw[eC]at hc;omega
   rw[nt hinv hc];simp(disch:=first|omega|(simp only[ai];omega)) only[fA,fw,fC,aR,aA,aj,↓eA,eB,aq,seval];exact⟨_,S,hn.dO _,.bX rfl,ah _,rfl,rfl⟩
  |some a=>
   have cK:=(List.getElem?_eq_some_iff.1 hc).1;have aR:(k:Int)<p.1.length:=by omega
   by_cases h:a.iH=c
   ·have he:decide (a.iH=c)=true:=by simp[h]
    rw[uJ hinv hc he];simp(disch:=first|omega|(simp only[ai];omega)) only[fA,fw,dG,fC,hc,aR,he,aj,↓eA,eB,aq,seval];exact⟨_,S,hn.dO _,.bX rfl,ah _,rfl,rfl⟩
   ·simp(disch:=first|omega|(simp only[ai];omega)) only[fA,fw,dG,fC,wrap_i64,hc,aR,h,aA,aj,↓eA,eB,aq,seval];refine⟨k+1,⟨by omega,lx hinv hc (by simp[h])⟩,by omega,dt ?_ (by simp only[fA,fw,↓eA,eB,aq,seval];rfl) (by simp[V.under,fA])⟩;exact hn.Dk (L:=[_,_]) (L1:=[_]) ⟨rfl,⟨_,rfl,.bX (fun r hr=>by simp only[fC,bM]at hr;subst hr;exact⟨rfl,rfl⟩)⟩,trivial⟩
theorem zU(p:List lX×List kB)(c:bS)(S:ae)(hl:p.1.length≤1048576):ak Tryz.prog 200 [dV p,.str c] S fun r S'=>r=jc p.1 (fun a=>decide (a.code=c))∧S'=S:=by
 refine ak.bp Tryz.func200 XJ fun hn=>?_;refine ak.fin Tryz.func200 XJ (U rfl) fun σ b_=>?_;simp(disch:=first|omega|(simp only[ai];omega)) only[Y8,dV,fA,fw,aj,↓eA,eB,aq,seval];refine dm (ι:=Nat) (fun k=>[(1,.str c),(2,.bK [fA p.1,fw p.2]),(4,.ptr S.length 0 0 0),(6,.int .i64 k)]) (fun _=>S++[⟨0,some (.arr 137 5 [fC])⟩]) (fun k=>k≤p.1.length∧p.1.find? (fun a=>decide (a.code=c))=(p.1.drop k).find? (fun a=>decide (a.code=c))) (fun k=>p.1.length-k) (fun i hi=>by rw[b_];simp) 0 ⟨az _,rfl⟩ (.inl ⟨?_,rfl⟩) ?_
 ·simp only[fA,fw,↓eA,eB,aq,seval]
 ·rintro k ⟨hk,hinv⟩;cases hc:p.1[k]? with
  |none=>
   have aR:¬((k:Int)<p.1.length):=by rw[eC]at hc;omega
   rw[nt hinv hc];simp(disch:=first|omega|(simp only[ai];omega)) only[fA,fw,fC,aR,aA,aj,↓eA,eB,aq,seval];exact⟨_,S,hn.dO _,.bX rfl,ah _,rfl,rfl⟩
  |some a=>
   have cK:=(List.getElem?_eq_some_iff.1 hc).1;have aR:(k:Int)<p.1.length:=by omega
   by_cases h:a.code=c
   ·have he:decide (a.code=c)=true:=by simp[h]
    rw[uJ hinv hc he];simp(disch:=first|omega|(simp only[ai];omega)) only[fA,fw,dG,fC,hc,aR,he,aj,↓eA,eB,aq,seval];exact⟨_,S,hn.dO _,.bX rfl,ah _,rfl,rfl⟩
   ·simp(disch:=first|omega|(simp only[ai];omega)) only[fA,fw,dG,fC,wrap_i64,hc,aR,h,aA,aj,↓eA,eB,aq,seval];exact⟨k+1,⟨by omega,lx hinv hc (by simp[h])⟩,by omega,.inl ⟨by simp only[fA,fw,↓eA,eB,aq,seval];rfl,rfl⟩⟩
theorem qE(p:List lX×List kB)(c:bS)(S:ae)(hl:p.1.length≤1048576):ak Tryz.prog 126 [dV p,.str c] S fun r S'=>r=jc p.1 (fun a=>decide (a.iH=c))∧S'=S:=by
 refine ak.bp Tryz.func126 I5 fun hn=>?_;refine ak.fin Tryz.func126 I5 (U rfl) fun σ b_=>?_;simp(disch:=first|omega|(simp only[ai];omega)) only[Rb,dV,fA,fw,aj,↓eA,eB,aq,seval];refine dm (ι:=Nat) (fun k=>[(1,.str c),(2,.bK [fA p.1,fw p.2]),(4,.ptr S.length 0 0 0),(6,.int .i64 k)]) (fun _=>S++[⟨0,some (.arr 137 5 [fC])⟩]) (fun k=>k≤p.1.length∧p.1.find? (fun a=>decide (a.iH=c))=(p.1.drop k).find? (fun a=>decide (a.iH=c))) (fun k=>p.1.length-k) (fun i hi=>by rw[b_];simp) 0 ⟨az _,rfl⟩ (.inl ⟨?_,rfl⟩) ?_
 ·simp only[fA,fw,↓eA,eB,aq,seval]
 ·rintro k ⟨hk,hinv⟩;cases hc:p.1[k]? with
  |none=>
   have aR:¬((k:Int)<p.1.length):=by rw[eC]at hc;omega
   rw[nt hinv hc];simp(disch:=first|omega|(simp only[ai];omega)) only[fA,fw,fC,aR,aA,aj,↓eA,eB,aq,seval];exact⟨_,S,hn.dO _,.bX rfl,ah _,rfl,rfl⟩
  |some a=>
   have cK:=(List.getElem?_eq_some_iff.1 hc).1;have aR:(k:Int)<p.1.length:=by omega
   by_cases h:a.iH=c
   ·have he:decide (a.iH=c)=true:=by simp[h]
    rw[uJ hinv hc he];simp(disch:=first|omega|(simp only[ai];omega)) only[fA,fw,dG,fC,hc,aR,he,aj,↓eA,eB,aq,seval];exact⟨_,S,hn.dO _,.bX rfl,ah _,rfl,rfl⟩
   ·simp(disch:=first|omega|(simp only[ai];omega)) only[fA,fw,dG,fC,wrap_i64,hc,aR,h,aA,aj,↓eA,eB,aq,seval];exact⟨k+1,⟨by omega,lx hinv hc (by simp[h])⟩,by omega,.inl ⟨by simp only[fA,fw,↓eA,eB,aq,seval];rfl,rfl⟩⟩
def dS(l:List lX)(c:bS):bS:=match l.find? fun a=>decide (a.code=c)with
 |some a=>a.iH
 |none=>if(l.find? fun a=>decide (a.iH=c)).isSome then c else []
theorem F2(p:List lX×List kB)(c:bS)(S:ae)(hl:p.1.length≤1048576):ak Tryz.prog 52 [dV p,.str c] S fun r S'=>r= .str (dS p.1 c)∧S'=S:=by
 refine ak.bp Tryz.func52 XO fun hn=>?_;refine ak.fin Tryz.func52 XO (U rfl) fun σ b_=>?_;simp(disch:=first|omega|(simp only[ai];omega)) only[Ze,dV,fA,fw,aj,↓eA,eB,aq,seval];refine(FN p c S hl).then ?_
 unfold jc dS;cases h1:p.1.find? fun a=>decide (a.code=c)with
 |some a=>
  simp(disch:=first|omega|(simp only[ai];omega)) only[dG,aj,↓eA,eB,aq,seval];exact⟨_,S,hn.dO _,.bX rfl,ah _,rfl,rfl⟩
 |none=>
  simp(disch:=first|omega|(simp only[ai];omega)) only[fC,aj,↓eA,eB,aq,seval];refine(LZ p c _ hl).then ?_
  unfold jc;cases h2:p.1.find? fun a=>decide (a.iH=c)with
  |some a=>
   simp(disch:=first|omega|(simp only[ai];omega)) only[dG,dX,aQ,aj,↓eA,eB,aq,seval];exact⟨_,S,hn.dO _,.bX rfl,ah _,rfl,rfl⟩
  |none=>
   simp(disch:=first|omega|(simp only[ai];omega)) only[fC,cg,aV,aZ,aj,↓eA,eB,aq,seval];exact⟨_,S,hn.dO _,.bX rfl,ah _,rfl,rfl⟩
theorem zW(p:List lX×List kB)(c:bS)(S:ae)(hl:p.1.length≤1048576):ak Tryz.prog 198 [dV p,.str c] S fun r S'=>r= .str (dS p.1 c)∧S'=S:=by
 refine ak.bp Tryz.func198 XN fun hn=>?_;refine ak.fin Tryz.func198 XN (U rfl) fun σ b_=>?_;simp(disch:=first|omega|(simp only[ai];omega)) only[Zd,dV,fA,fw,aj,↓eA,eB,aq,seval];refine(zU p c S hl).then ?_
 unfold jc dS;cases h1:p.1.find? fun a=>decide (a.code=c)with
 |some a=>
  simp(disch:=first|omega|(simp only[ai];omega)) only[dG,aj,↓eA,eB,aq,seval];exact⟨_,S,hn.dO _,.bX rfl,ah _,rfl,rfl⟩
 |none=>
  simp(disch:=first|omega|(simp only[ai];omega)) only[fC,aj,↓eA,eB,aq,seval];refine(qE p c _ hl).then ?_
  unfold jc;cases h2:p.1.find? fun a=>decide (a.iH=c)with
  |some a=>
   simp(disch:=first|omega|(simp only[ai];omega)) only[dG,dX,aQ,aj,↓eA,eB,aq,seval];exact⟨_,S,hn.dO _,.bX rfl,ah _,rfl,rfl⟩
  |none=>
   simp(disch:=first|omega|(simp only[ai];omega)) only[fC,cg,aV,aZ,aj,↓eA,eB,aq,seval];exact⟨_,S,hn.dO _,.bX rfl,ah _,rfl,rfl⟩
end Go.Proofs.YtfgkgmmnldocaaaGreatDoor.Ml
namespace Go.Proofs.YtfgkgmmnldocaaaGreatDoor.Ml
open Go Go.AL
variable[Go.AL.Mode][Go.AL.bR]
theorem LU(d:kB)(S:ae):ak Tryz.prog 142 [.agg (cZ d)] S fun r S'=>r= .bool (fT d)∧S'=S:=by
 refine ak.bW Tryz.func142 afR (U rfl) fun σ b_=>?_;by_cases h:1≤d.mi
 ·have e:fT d=decide (d.mi≤20000):=by simp[fT,h]
  rw[e];simp(disch:=omega) only[Rc,cZ,h,aj,↓eA,eB,aq,seval]
 ·have e:fT d=false:=by simp[fT,h]
  rw[e];simp(disch:=omega) only[Rc,cZ,h,aA,aj,↓eA,eB,aq,seval]
theorem JW(d:kB)(S:ae):ak Tryz.prog 127 [.agg (cZ d)] S fun r S'=>r= .bool (fT d)∧S'=S:=by
 refine ak.bW Tryz.func127 XM (U rfl) fun σ b_=>?_;by_cases h:1≤d.mi
 ·have e:fT d=decide (d.mi≤20000):=by simp[fT,h]
  rw[e];simp(disch:=omega) only[Jk,cZ,h,aj,↓eA,eB,aq,seval]
 ·have e:fT d=false:=by simp[fT,h]
  rw[e];simp(disch:=omega) only[Jk,cZ,h,aA,aj,↓eA,eB,aq,seval]
def BC(p:bS×Int):List V:=[.str p.1,.int .i64 p.2]
def fG(l:cY)(c:bS):Int:=match look l c with
 |some v=>v
 |none=>-1
theorem H7{l:cY}{k:Nat}{c:bS}{p:bS×Int}(h:look l c=look (l.drop k) c)(hp:l[k]?=some p):look l c=if p.1=c then some p.2 else look (l.drop (k+1)) c:=by
 have e:l.drop k=p::l.drop (k+1):=by
  obtain⟨aR,rfl⟩:=List.getElem?_eq_some_iff.1 hp;exact dQ aR
 rw[h,e,look]
theorem Cq{l:cY}{k:Nat}{c:bS}(h:look l c=look (l.drop k) c)(hp:l[k]?=none):look l c=none:=by
 rw[h,bO (List.getElem?_eq_none_iff.1 hp)];rfl
theorem rX(l:cY)(c:bS)(S T:ae)(w:Nat)(hl:l.length≤1000000):
 ak Tryz.prog 233 [.cU S.length w 0 l.length,.str c] (S++⟨w,some (.arr 265 2 (l.map BC))⟩::T) fun r S'=>r= .int .i64 (fG l c)∧S'=S++⟨w,some (.arr 265 2 (l.map BC))⟩::T:=by
 refine ak.bW Tryz.func233 afQ (U rfl) fun σ b_=>?_;simp(disch:=omega) only[Zc,aj,↓eA,eB,aq,seval];refine cH (ι:=Nat) (fun k=>[(0,.cU S.length w 0 l.length),(1,.str c),(5,.int .i64 k)]) (fun _=>S++⟨w,some (.arr 265 2 (l.map BC))⟩::T) (fun k=>k≤l.length∧look l c=look (l.drop k) c) (fun k=>l.length-k) 0 ⟨az _,rfl⟩ ?_ rfl ?_
 ·simp only[↓eA,eB,aq,seval]
 ·rintro k ⟨hk,hinv⟩;cases hc:l[k]? with
  |none=>
   have aR:¬((k:Int)<l.length):=by rw[eC]at hc;omega
   have e:fG l c= -1:=by rw[fG,Cq hinv hc]
   simp(disch:=omega) only[aR,e,aA,aj,↓eA,eB,aq,seval]
  |some p=>
   have cK:=(List.getElem?_eq_some_iff.1 hc).1;have aR:(k:Int)<l.length:=by omega
   have hs:=H7 hinv hc;by_cases h:p.1=c
   ·rw[aK h]at hs;have e:fG l c=p.2:=by rw[fG,hs]
    have he:decide (p.1=c)=true:=by simp[h]
    simp(disch:=omega) only[BC,aR,hc,he,e,dv,aj,↓eA,eB,aq,seval]
   ·rw[aC h]at hs;simp(disch:=omega) only[BC,aR,hc,h,wrap_i64,aA,dv,aj,↓eA,eB,aq,seval];exact⟨k+1,⟨by omega,hs⟩,by omega,rfl⟩
theorem Z5{l:cY}{c:bS}{m:Int}:∀{k:Nat} {p:bS×Int},l[k]?=some p→p.1=c→(∀j q,j<k→l[j]?=some q→¬q.1=c)→gF l c m=l.set k (p.1,m):=by
 induction l with
 |nil=>intro k p h;simp at h
 |cons x l ih=>
  intro k p hk hp Fq;cases k with
  |zero=>
   simp at hk;subst hk;simp[gF,hp]
  |succ k=>
   have h0:=Fq 0 x (by omega) rfl;rw[gF,aC h0,me]
   congr 1
   exact ih (by simpa using hk) hp fun j q hj hq=>Fq (j+1) q (by omega) (by simpa using hq)
theorem Tw{l:cY}{c:bS}{m:Int}(h:look l c=none):gF l c m=l++[(c,m)]:=by
 induction l with
 |nil=>rfl
 |cons x l ih=>
  rw[look]at h;split at h
  ·cases h
  ·rename_i e;rw[gF,aC e,ih h];rfl
theorem ko(l:cY)(c:bS)(m:Int)(S T:ae)(w:Nat)(hl:l.length≤1000000):
 ak Tryz.prog 234 [.cU S.length w 0 l.length,.str c,.int .i64 m] (S++⟨w,some (.arr 265 2 (l.map BC))⟩::T) fun r S'=>∃w',r= .dI [.cU S.length w' 0 (dZ l c m).1.length,.bool (dZ l c m).2]∧S'=S++⟨w',some (.arr 265 2 ((dZ l c m).1.map BC))⟩::T:=by
 refine ak.bW Tryz.func234 afP (U rfl) fun σ b_=>?_;simp(disch:=omega) only[Zb,aj,↓eA,eB,aq,seval];refine cH (ι:=Nat) (fun k=>[(0,.cU S.length w 0 l.length),(1,.str c),(2,.int .i64 m),(8,.int .i64 k)]) (fun _=>S++⟨w,some (.arr 265 2 (l.map BC))⟩::T) (fun k=>k≤l.length∧look l c=look (l.drop k) c∧∀j q,j<k→l[j]?=some q→¬q.1=c) (fun k=>l.length-k) 0 ⟨az _,rfl,fun j q h=>by omega⟩ ?_ rfl ?_
 ·simp only[↓eA,eB,aq,seval]
 ·rintro k ⟨hk,hinv,Fq⟩;cases hc:l[k]? with
  |none=>
   have aR:¬((k:Int)<l.length):=by rw[eC]at hc;omega
   have WC:=Cq hinv hc;have e:dZ l c m=(l++[(c,m)],true):=by simp only[dZ,WC,Tw WC]
   simp(disch:=omega) only[aR,e,aA,aj,↓eA,eB,aq,seval];exact⟨by unfold dw;omega,w+1,by simp,by simp[BC]⟩
  |some p=>
   have cK:=(List.getElem?_eq_some_iff.1 hc).1;have aR:(k:Int)<l.length:=by omega
   have hs:=H7 hinv hc;by_cases h:p.1=c
   ·rw[aK h]at hs;have he:decide (p.1=c)=true:=by simp[h]
    by_cases hv:p.2≤m
    ·have e:dZ l c m=(l,false):=by simp only[dZ,hs,hv,aQ]
     simp(disch:=omega) only[BC,aR,hc,he,hv,e,dv,aj,↓eA,eB,aq,seval];exact⟨w,rfl,rfl⟩
    ·have e:dZ l c m=(l.set k (p.1,m),true):=by simp only[dZ,hs,hv,aZ,Z5 hc h Fq]
     simp(disch:=omega) only[BC,aR,hc,he,hv,e,aA,dv,aj,↓eA,eB,aq,seval];exact⟨w,by simp,by simp[List.map_set,BC]⟩
   ·rw[aC h]at hs;simp(disch:=omega) only[BC,aR,hc,h,wrap_i64,aA,dv,aj,↓eA,eB,aq,seval];refine⟨k+1,⟨by omega,hs,fun j q hj hq=>?_⟩,by omega,rfl⟩;by_cases OZ:j<k
    ·exact Fq j q OZ hq
    ·obtain rfl:j=k:=by omega
     rw[hc]at hq;cases hq;exact h
end Go.Proofs.YtfgkgmmnldocaaaGreatDoor.Ml
namespace Go.Proofs.YtfgkgmmnldocaaaGreatDoor.Ml
open Go Go.AL
variable[Go.AL.Mode][Go.AL.bR]
def lI(ds:List kB)(f:bS):List bS:=f::ds.flatMap fun d=>[d.fr,d.to]
def start(f:bS):cY:=[(f,0)]
def PQ(ds:List kB)(f:bS):cY:=sI ds (oE (lI ds f) (start f)+1) (start f)
def g_(p:List lX×List kB)(a b:bS):Int×Int:=
 if dS p.1 a=[]∨dS p.1 b=[]then(0,14)
 else match look (PQ p.2 (dS p.1 a)) (dS p.1 b)with
  |some n=>(n,0)
  |none=>(0,7)
theorem pA{ds:List kB}{f:bS}:∀d∈ds,d.fr∈lI ds f∧d.to∈lI ds f:=fun d hd=>
 ⟨cc _ (List.mem_flatMap.2 ⟨d,hd,by simp⟩),cc _ (List.mem_flatMap.2 ⟨d,hd,by simp⟩)⟩
theorem se(ds:List kB)(f:bS):(lI ds f).length=2*ds.length+1:=by
 unfold lI;rw[a_,List.length_flatMap]
 congr 1
 induction ds with
 |nil=>rfl
 |cons d ds ih=>simp only[bd,List.sum_cons,a_,bz]at ih⊢;omega
theorem pj(ds:List kB)(f:bS):qq (lI ds f) (start f):=by
 have:un (lI ds f) (start f)≤(lI ds f).length:=List.length_filter_le _ _;refine⟨fun p hp=>?_,by simp only[start,a_,bz]at this⊢;omega⟩;simp only[start,bM]at hp;subst hp;refine⟨cM _,?_⟩;simp only;omega
theorem DL(ds:List kB)(f:bS):Clo ds (start f) (PQ ds f):=wF pA _ _ (pj ds f) (Nat.lt_succ_self _)
def Head(ds:List kB)(N:List bS)(R l:cY)(more:Bool):Prop:=qq N l∧if more then Clo ds l R else l=R
theorem yQ{ds:List kB}{N:List bS}{R l:cY}(hd:∀d∈ds,d.fr∈N∧d.to∈N)(h:Head ds N R l true):Head ds N R (ie ds l).1 (ie ds l).2∧(if(ie ds l).2 then oE N (ie ds l).1+1 else 0)<oE N l+1:=by
 obtain⟨hi,hc⟩:=h;simp only[aQ]at hc;have hs:=jy hi ds hd (l,false) ⟨hi,.inl ⟨rfl,rfl⟩⟩;have tu:qq N (ie ds l).1:=hs.1;cases hb:(ie ds l).2 with
 |false=>
  refine⟨⟨tu,?_⟩,by simp⟩;cases hc with
  |stop h=>simp
  |more h k=>rw[hb]at h;cases h
 |true=>
  have aR:oE N (ie ds l).1<oE N l:=by
   rcases hs.2 with⟨h1,_⟩|⟨_,h2⟩
   ·rw[show(ds.foldl gB (l,false)).2=true from hb]at h1;cases h1
   ·exact h2
  refine⟨⟨tu,?_⟩,by simp;exact aR⟩;cases hc with
  |stop h=>rw[hb]at h;cases h
  |more h k=>simpa using k
theorem y5{ds:List kB}{k:Nat}{d:kB}{s0:cY×Bool}(h:ds[k]?=some d):(ds.take (k+1)).foldl gB s0=gB ((ds.take k).foldl gB s0) d:=by
 rw[List.take_add_one,h,List.foldl_append];rfl
theorem Bu{ds:List kB}{N:List bS}(hd:∀d∈ds,d.fr∈N∧d.to∈N)(k:Nat):∀d∈ds.take k,d.fr∈N∧d.to∈N:=fun d h=>hd d (List.mem_of_mem_take h)
theorem EN(p:List lX×List kB)(a b:bS)(S:ae)(hl:p.1.length≤1048576)(hd:p.2.length≤1000):
 ak Tryz.prog 221 [dV p,.str a,.str b] S fun r S'=>r= .dI [.int .i64 (g_ p a b).1,.int .i64 (g_ p a b).2]∧S'=S:=by
 refine ak.bp Tryz.func221 XQ fun hn=>?_;refine ak.fin Tryz.func221 XQ (U rfl) fun σ b_=>?_;simp(disch:=first|omega|(simp only[ai];omega)) only[Zg,dV,fA,fw,aj,↓eA,eB,aq,seval];refine qv.intro (zW p a S hl) ?_;simp(disch:=first|omega|(simp only[ai];omega)) only[fA,fw,aj,↓eA,eB,aq,seval];refine(zW p b S hl).then ?_
 unfold g_;generalize dS p.1 a=f;generalize dS p.1 b=t;by_cases hf:f=[]
 ·subst hf;simp(disch:=first|omega|(simp only[ai];omega)) only[eq_self,l_,aQ,↓eA,eB,aq,seval];exact⟨_,S,hn.self,.bX rfl,ah _,rfl,rfl⟩
 by_cases ht:t=[]
 ·subst ht;simp(disch:=first|omega|(simp only[ai];omega)) only[hf,eq_self,or_true,aQ,aA,↓eA,eB,aq,seval];exact⟨_,S,hn.self,.bX rfl,ah _,rfl,rfl⟩
 have Fs:=se p.2 f;have Iq:=pA (ds:=p.2) (f:=f);generalize hN:lI p.2 f=N at Fs Iq;simp(disch:=first|omega|(simp only[ai];omega)) only[hf,ht,ma,aZ,aA,aj,↓eA,eB,aq,seval];refine dm (ι:=Nat×cY×Bool) (fun i=>[(3,.bK [fA p.1,fw p.2]),(9,.str t),(10,.cU S.length i.1 0 i.2.1.length),(11,.bool i.2.2)]) (fun i=>S++[⟨i.1,some (.arr 265 2 (i.2.1.map BC))⟩])
  (fun i=>Head p.2 N (PQ p.2 f) i.2.1 i.2.2) (fun i=>if i.2.2 then oE N i.2.1+1 else 0) (fun i hi=>by rw[b_];simp) (0,start f,true) ⟨by rw[←hN];exact pj _ _,by simp only[aQ];exact DL _ _⟩ (.inl ⟨?_,?_⟩) ?_
 ·simp only[start,fA,fw,↓eA,eB,aq,seval]
 ·rfl
 ·rintro⟨w,l,more⟩ hh;simp only at hh⊢;cases more with
  |false=>
   obtain⟨hi,he⟩:=hh;simp only[aV,aZ]at he;rw[←he];have hlen:=hi.2;simp(disch:=first|omega|(simp only[ai];omega)) only[aj,↓eA,eB,aq,seval];refine(rX l t S [] w (by omega)).VB ?_;cases hk:look l t with
   |none=>
    have e:fG l t= -1:=by rw[fG,hk]
    simp(disch:=first|omega|(simp only[ai];omega)) only[e,Int.reduceNeg,Int.reduceLT,aj,↓eA,eB,aq,seval];exact⟨_,S,hn.dO _,.bX rfl,ah _,rfl,rfl⟩
   |some v=>
    have e:fG l t=v:=by rw[fG,hk]
    have hv:=(hi.1 _ (iE hk)).1;have Ss:¬v<0:=by simp only at hv;omega
    simp(disch:=first|omega|(simp only[ai];omega)) only[e,Ss,aA,aj,↓eA,eB,aq,seval];exact⟨_,S,hn.dO _,.bX rfl,ah _,rfl,rfl⟩
  |true=>
   have hnx:=yQ Iq hh;have hi:=hh.1;simp(disch:=first|omega|(simp only[ai];omega)) only[fw,aj,↓eA,eB,aq,seval];refine dm (ι:=Nat×Nat) (fun i=>[(3,.bK [fA p.1,fw p.2]),(9,.str t),(10,.cU S.length i.1 0 ((p.2.take i.2).foldl gB (l,false)).1.length),(11,.bool ((p.2.take i.2).foldl gB (l,false)).2),(12,.int .i64 i.2)])
    (fun i=>S++[⟨i.1,some (.arr 265 2 (((p.2.take i.2).foldl gB (l,false)).1.map BC))⟩]) (fun i=>i.2≤p.2.length) (fun i=>p.2.length-i.2) (fun i hi=>by rw[b_];simp) (w,0) (az _) (.inl ⟨?_,?_⟩) ?_
   ·simp only[fA,fw,List.foldl_nil,↓eA,eB,aq,seval]
   ·rfl
   ·rintro⟨w',k⟩ hk;simp only at hk⊢;have nA:=jy hi (p.2.take k) (Bu Iq k) (l,false) ⟨hi,.inl ⟨rfl,rfl⟩⟩;cases l7:p.2[k]? with
    |none=>
     have aR:¬((k:Int)<p.2.length):=by rw[eC]at l7;omega
     rw[bh (List.getElem?_eq_none_iff.1 l7)];simp(disch:=first|omega|(simp only[ai];omega)) only[fA,fw,cZ,wrap_i64,l7,aR,aA,aj,↓eA,eB,aq,seval];exact⟨(w',ie p.2 l),hnx.1,hnx.2,.inl ⟨⟨rfl,rfl,rfl,rfl,trivial⟩,rfl⟩⟩
    |some d=>
     have cK:=(List.getElem?_eq_some_iff.1 l7).1;have aR:(k:Int)<p.2.length:=by omega
     have qV:=y5 (s0:=(l,false)) l7;rw[←ES]at qV;generalize hS:(p.2.take k).foldl gB (l,false)=s at nA qV;obtain⟨l1,b1⟩:=s;have kq:qq N l1:=nA.1;have Ao:=kq.2;have fin:∀(w2:Nat) (l2:cY) (b2:Bool) (T:ae) (E:Env),dY (l1,b1) d=(l2,b2)→sub [(3,.bK [fA p.1,fw p.2]),(9,.str t),(10,.cU S.length w2 0 l2.length),(11,.bool b2),(12,.int .i64 (k+1))] E→
      ∃i':Nat×Nat,i'.2≤p.2.length∧p.2.length-i'.2<p.2.length-k∧Li [(3,.bK [fA p.1,fw p.2]),(9,.str t),(10,.cU S.length i'.1 0 ((p.2.take i'.2).foldl gB (l,false)).1.length),(11,.bool ((p.2.take i'.2).foldl gB (l,false)).2),(12,.int .i64 i'.2)] (S++[⟨i'.1,some (.arr 265 2 (((p.2.take i'.2).foldl gB (l,false)).1.map BC))⟩]) E (S++⟨w2,some (.arr 265 2 (l2.map BC))⟩::T):=by
      intro w2 l2 b2 T E hr hE;rw[hr]at qV;refine⟨(w2,k+1),by simp only;omega,by simp only;omega,?_⟩;simp only[qV];refine dt ?_ hE (by simp[V.under,fA,fw,V.bI]);exact hn.Dk (L:=_::T) (L1:=[_]) ⟨rfl,⟨_,rfl,.bX (fun r hr=>by obtain⟨q,_,rfl⟩:=List.mem_map.1 hr;exact⟨rfl,rfl⟩)⟩,by cases T<;>trivial⟩
     simp(disch:=first|omega|(simp only[ai];omega)) only[fA,fw,cZ,wrap_i64,l7,aR,aA,aj,↓eA,eB,aq,seval];refine(JW d _).then ?_
     cases hu:fT d with
     |false=>
      simp(disch:=first|omega|(simp only[ai];omega)) only[fA,fw,cZ,wrap_i64,l7,aR,aA,aj,↓eA,eB,aq,seval];exact fin w' l1 b1 _ _ (by simp only[dY,hu,aV,aZ]) ⟨rfl,rfl,rfl,rfl,rfl,trivial⟩
     |true=>
      have Lp:1≤d.mi∧d.mi≤20000:=by simpa[fT]using hu
      simp(disch:=first|omega|(simp only[ai];omega)) only[fA,fw,cZ,wrap_i64,l7,aR,aA,aj,↓eA,eB,aq,seval];refine qv.intro (rX l1 d.fr S _ w' (by omega)) ?_;simp(disch:=first|omega|(simp only[ai];omega)) only[fA,fw,cZ,wrap_i64,l7,aR,aA,aj,↓eA,eB,aq,seval];refine(rX l1 d.to S _ w' (by omega)).VB ?_;have hdm:=Iq d (aB l7);have xr:¬(0:Int)≤-1:=by decide
      cases b1
      ·skip
       cases hx:look l1 d.fr with
       |none=>
        have ex:fG l1 d.fr= -1:=by rw[fG,hx]
        cases hy:look l1 d.to with
        |none=>
         have ey:fG l1 d.to= -1:=by rw[fG,hy]
         simp(disch:=first|omega|(simp only[ai];omega)) only[ex,ey,xr,fA,fw,cZ,wrap_i64,l7,aR,aA,aj,↓eA,eB,aq,seval];exact fin w' l1 _ _ _ (by simp only[dY,hu,hx,hy,aQ];rfl) ⟨rfl,rfl,rfl,rfl,rfl,trivial⟩
        |some y=>
         have ey:fG l1 d.to=y:=by rw[fG,hy]
         have CS:=kq.1 _ (iE hy);simp only at CS;simp(disch:=first|omega|(simp only[ai];omega)) only[ex,ey,xr,CS.1,fA,fw,cZ,wrap_i64,l7,aR,aA,aj,↓eA,eB,aq,seval];refine(ko l1 d.fr (y+d.mi) S _ w' (by omega)).mono ?_;rintro _ _ ⟨w3,rfl,rfl⟩;generalize C9:dZ l1 d.fr (y+d.mi)=A3 at*;obtain⟨l3,b3⟩:=A3;cases b3
         ·simp(disch:=first|omega|(simp only[ai];omega)) only[fA,fw,cZ,wrap_i64,l7,aR,aA,aj,↓eA,eB,aq,seval];exact fin w3 l3 _ _ _ (by simp only[dY,hu,hx,hy,C9,aQ];rfl) ⟨rfl,rfl,rfl,rfl,rfl,trivial⟩
         ·simp(disch:=first|omega|(simp only[ai];omega)) only[fA,fw,cZ,wrap_i64,l7,aR,aA,aj,↓eA,eB,aq,seval];exact fin w3 l3 _ _ _ (by simp only[dY,hu,hx,hy,C9,aQ];rfl) ⟨rfl,rfl,rfl,rfl,rfl,trivial⟩
       |some x=>
        have ex:fG l1 d.fr=x:=by rw[fG,hx]
        have T_:=kq.1 _ (iE hx);simp only at T_;have OK:=(qd kq hdm.2 ⟨_,hx⟩ Lp.1 Lp.2).1;cases hy:look l1 d.to with
        |none=>
         have ey:fG l1 d.to= -1:=by rw[fG,hy]
         simp(disch:=first|omega|(simp only[ai];omega)) only[ex,ey,xr,T_.1,fA,fw,cZ,wrap_i64,l7,aR,aA,aj,↓eA,eB,aq,seval];refine(ko l1 d.to (x+d.mi) S _ w' (by omega)).mono ?_;rintro _ _ ⟨w2,rfl,rfl⟩;generalize FG:dZ l1 d.to (x+d.mi)=A2 at*;obtain⟨l2,b2⟩:=A2;cases b2
         ·simp(disch:=first|omega|(simp only[ai];omega)) only[xr,fA,fw,cZ,wrap_i64,l7,aR,aA,aj,↓eA,eB,aq,seval];exact fin w2 l2 _ _ _ (by simp only[dY,hu,hx,hy,FG,aQ];rfl) ⟨rfl,rfl,rfl,rfl,rfl,trivial⟩
         ·simp(disch:=first|omega|(simp only[ai];omega)) only[xr,fA,fw,cZ,wrap_i64,l7,aR,aA,aj,↓eA,eB,aq,seval];exact fin w2 l2 _ _ _ (by simp only[dY,hu,hx,hy,FG,aQ];rfl) ⟨rfl,rfl,rfl,rfl,rfl,trivial⟩
        |some y=>
         have ey:fG l1 d.to=y:=by rw[fG,hy]
         have CS:=kq.1 _ (iE hy);simp only at CS;simp(disch:=first|omega|(simp only[ai];omega)) only[ex,ey,T_.1,CS.1,fA,fw,cZ,wrap_i64,l7,aR,aA,aj,↓eA,eB,aq,seval];refine(ko l1 d.to (x+d.mi) S _ w' (by omega)).mono ?_;rintro _ _ ⟨w2,rfl,rfl⟩;generalize FG:dZ l1 d.to (x+d.mi)=A2 at*;obtain⟨l2,b2⟩:=A2;have aaH:=OK.2;simp only at aaH;cases b2
         ·simp(disch:=first|omega|(simp only[ai];omega)) only[CS.1,fA,fw,cZ,wrap_i64,l7,aR,aA,aj,↓eA,eB,aq,seval];refine(ko l2 d.fr (y+d.mi) S _ w2 (by omega)).mono ?_;rintro _ _ ⟨w3,rfl,rfl⟩;generalize C9:dZ l2 d.fr (y+d.mi)=A3 at*;obtain⟨l3,b3⟩:=A3;cases b3
          ·simp(disch:=first|omega|(simp only[ai];omega)) only[fA,fw,cZ,wrap_i64,l7,aR,aA,aj,↓eA,eB,aq,seval];exact fin w3 l3 _ _ _ (by simp only[dY,hu,hx,hy,FG,C9,aQ];rfl) ⟨rfl,rfl,rfl,rfl,rfl,trivial⟩
          ·simp(disch:=first|omega|(simp only[ai];omega)) only[fA,fw,cZ,wrap_i64,l7,aR,aA,aj,↓eA,eB,aq,seval];exact fin w3 l3 _ _ _ (by simp only[dY,hu,hx,hy,FG,C9,aQ];rfl) ⟨rfl,rfl,rfl,rfl,rfl,trivial⟩
         ·simp(disch:=first|omega|(simp only[ai];omega)) only[CS.1,fA,fw,cZ,wrap_i64,l7,aR,aA,aj,↓eA,eB,aq,seval];refine(ko l2 d.fr (y+d.mi) S _ w2 (by omega)).mono ?_;rintro _ _ ⟨w3,rfl,rfl⟩;generalize C9:dZ l2 d.fr (y+d.mi)=A3 at*;obtain⟨l3,b3⟩:=A3;cases b3
          ·simp(disch:=first|omega|(simp only[ai];omega)) only[fA,fw,cZ,wrap_i64,l7,aR,aA,aj,↓eA,eB,aq,seval];exact fin w3 l3 _ _ _ (by simp only[dY,hu,hx,hy,FG,C9,aQ];rfl) ⟨rfl,rfl,rfl,rfl,rfl,trivial⟩
          ·simp(disch:=first|omega|(simp only[ai];omega)) only[fA,fw,cZ,wrap_i64,l7,aR,aA,aj,↓eA,eB,aq,seval];exact fin w3 l3 _ _ _ (by simp only[dY,hu,hx,hy,FG,C9,aQ];rfl) ⟨rfl,rfl,rfl,rfl,rfl,trivial⟩
      ·skip
       cases hx:look l1 d.fr with
       |none=>
        have ex:fG l1 d.fr= -1:=by rw[fG,hx]
        cases hy:look l1 d.to with
        |none=>
         have ey:fG l1 d.to= -1:=by rw[fG,hy]
         simp(disch:=first|omega|(simp only[ai];omega)) only[ex,ey,xr,fA,fw,cZ,wrap_i64,l7,aR,aA,aj,↓eA,eB,aq,seval];exact fin w' l1 _ _ _ (by simp only[dY,hu,hx,hy,aQ];rfl) ⟨rfl,rfl,rfl,rfl,rfl,trivial⟩
        |some y=>
         have ey:fG l1 d.to=y:=by rw[fG,hy]
         have CS:=kq.1 _ (iE hy);simp only at CS;simp(disch:=first|omega|(simp only[ai];omega)) only[ex,ey,xr,CS.1,fA,fw,cZ,wrap_i64,l7,aR,aA,aj,↓eA,eB,aq,seval];refine(ko l1 d.fr (y+d.mi) S _ w' (by omega)).mono ?_;rintro _ _ ⟨w3,rfl,rfl⟩;generalize C9:dZ l1 d.fr (y+d.mi)=A3 at*;obtain⟨l3,b3⟩:=A3;cases b3
         ·simp(disch:=first|omega|(simp only[ai];omega)) only[fA,fw,cZ,wrap_i64,l7,aR,aA,aj,↓eA,eB,aq,seval];exact fin w3 l3 _ _ _ (by simp only[dY,hu,hx,hy,C9,aQ];rfl) ⟨rfl,rfl,rfl,rfl,rfl,trivial⟩
         ·simp(disch:=first|omega|(simp only[ai];omega)) only[fA,fw,cZ,wrap_i64,l7,aR,aA,aj,↓eA,eB,aq,seval];exact fin w3 l3 _ _ _ (by simp only[dY,hu,hx,hy,C9,aQ];rfl) ⟨rfl,rfl,rfl,rfl,rfl,trivial⟩
       |some x=>
        have ex:fG l1 d.fr=x:=by rw[fG,hx]
        have T_:=kq.1 _ (iE hx);simp only at T_;have OK:=(qd kq hdm.2 ⟨_,hx⟩ Lp.1 Lp.2).1;cases hy:look l1 d.to with
        |none=>
         have ey:fG l1 d.to= -1:=by rw[fG,hy]
         simp(disch:=first|omega|(simp only[ai];omega)) only[ex,ey,xr,T_.1,fA,fw,cZ,wrap_i64,l7,aR,aA,aj,↓eA,eB,aq,seval];refine(ko l1 d.to (x+d.mi) S _ w' (by omega)).mono ?_;rintro _ _ ⟨w2,rfl,rfl⟩;generalize FG:dZ l1 d.to (x+d.mi)=A2 at*;obtain⟨l2,b2⟩:=A2;cases b2
         ·simp(disch:=first|omega|(simp only[ai];omega)) only[xr,fA,fw,cZ,wrap_i64,l7,aR,aA,aj,↓eA,eB,aq,seval];exact fin w2 l2 _ _ _ (by simp only[dY,hu,hx,hy,FG,aQ];rfl) ⟨rfl,rfl,rfl,rfl,rfl,trivial⟩
         ·simp(disch:=first|omega|(simp only[ai];omega)) only[xr,fA,fw,cZ,wrap_i64,l7,aR,aA,aj,↓eA,eB,aq,seval];exact fin w2 l2 _ _ _ (by simp only[dY,hu,hx,hy,FG,aQ];rfl) ⟨rfl,rfl,rfl,rfl,rfl,trivial⟩
        |some y=>
         have ey:fG l1 d.to=y:=by rw[fG,hy]
         have CS:=kq.1 _ (iE hy);simp only at CS;simp(disch:=first|omega|(simp only[ai];omega)) only[ex,ey,T_.1,CS.1,fA,fw,cZ,wrap_i64,l7,aR,aA,aj,↓eA,eB,aq,seval];refine(ko l1 d.to (x+d.mi) S _ w' (by omega)).mono ?_;rintro _ _ ⟨w2,rfl,rfl⟩;generalize FG:dZ l1 d.to (x+d.mi)=A2 at*;obtain⟨l2,b2⟩:=A2;have aaH:=OK.2;simp only at aaH;cases b2
         ·simp(disch:=first|omega|(simp only[ai];omega)) only[CS.1,fA,fw,cZ,wrap_i64,l7,aR,aA,aj,↓eA,eB,aq,seval];refine(ko l2 d.fr (y+d.mi) S _ w2 (by omega)).mono ?_;rintro _ _ ⟨w3,rfl,rfl⟩;generalize C9:dZ l2 d.fr (y+d.mi)=A3 at*;obtain⟨l3,b3⟩:=A3;cases b3
          ·simp(disch:=first|omega|(simp only[ai];omega)) only[fA,fw,cZ,wrap_i64,l7,aR,aA,aj,↓eA,eB,aq,seval];exact fin w3 l3 _ _ _ (by simp only[dY,hu,hx,hy,FG,C9,aQ];rfl) ⟨rfl,rfl,rfl,rfl,rfl,trivial⟩
          ·simp(disch:=first|omega|(simp only[ai];omega)) only[fA,fw,cZ,wrap_i64,l7,aR,aA,aj,↓eA,eB,aq,seval];exact fin w3 l3 _ _ _ (by simp only[dY,hu,hx,hy,FG,C9,aQ];rfl) ⟨rfl,rfl,rfl,rfl,rfl,trivial⟩
         ·simp(disch:=first|omega|(simp only[ai];omega)) only[CS.1,fA,fw,cZ,wrap_i64,l7,aR,aA,aj,↓eA,eB,aq,seval];refine(ko l2 d.fr (y+d.mi) S _ w2 (by omega)).mono ?_;rintro _ _ ⟨w3,rfl,rfl⟩;generalize C9:dZ l2 d.fr (y+d.mi)=A3 at*;obtain⟨l3,b3⟩:=A3;cases b3
          ·simp(disch:=first|omega|(simp only[ai];omega)) only[fA,fw,cZ,wrap_i64,l7,aR,aA,aj,↓eA,eB,aq,seval];exact fin w3 l3 _ _ _ (by simp only[dY,hu,hx,hy,FG,C9,aQ];rfl) ⟨rfl,rfl,rfl,rfl,rfl,trivial⟩
          ·simp(disch:=first|omega|(simp only[ai];omega)) only[fA,fw,cZ,wrap_i64,l7,aR,aA,aj,↓eA,eB,aq,seval];exact fin w3 l3 _ _ _ (by simp only[dY,hu,hx,hy,FG,C9,aQ];rfl) ⟨rfl,rfl,rfl,rfl,rfl,trivial⟩
end Go.Proofs.YtfgkgmmnldocaaaGreatDoor.Ml
namespace Go.Proofs.YtfgkgmmnldocaaaGreatDoor.Ml
open Go Go.AL
variable[Go.AL.Mode][Go.AL.bR]
def A5(l:cY)(rows:List (V×V)):Prop:=tS V.str rows∧∀c,gn (.str c) rows=(look l c).map (V.int .i64)
theorem A5.put{l:cY}{rows:List (V×V)}{c:bS}{m:Int}(h:A5 l rows):A5 (gF l c m) (kr (.str c) (.int .i64 m) rows):=by
 refine⟨h.1.put rfl rfl,fun b=>?_⟩;rw[Df (K:=V.str) (fun a b=>Ds) h.1,jQ];by_cases e:b=c
 ·rw[aK e,aK e.symm];rfl
 ·rw[aC e,aC (fun h=>e h.symm)];exact h.2 b
theorem Hs(l:cY)(x y:bS)(n:Int)(S T:ae)(rows:List (V×V))(hm:A5 l rows)(hb:∀p∈l,0≤p.2∧p.2≤1000000000)(hn:1≤n∧n≤20000):
 ak Tryz.prog 141 [.str x,.str y,.int .i64 n,.ptr (S.length+1) 0 0 0] (S++⟨0,some (.mp ⟨.one .str,rows,.free⟩)⟩::⟨0,some (.arr 211 1 [[.eF S.length 0]])⟩::T) fun r S'=>r= .bool (gV l x y n).2∧∃bT,A5 (gV l x y n).1 bT∧S'=S++⟨0,some (.mp ⟨.one .str,bT,.free⟩)⟩::⟨0,some (.arr 211 1 [[.eF S.length 0]])⟩::T:=by
 refine ak.bW Tryz.func141 afS (U rfl) fun σ b_=>?_;have fx:=hm.2 x;have fy:=hm.2 y;cases hx:look l x with
 |none=>
  rw[hx,qw]at fx;cases hy:look l y with
  |none=>
   rw[hy,qw]at fy;have e:gV l x y n=(l,false):=by simp only[gV,hx]
   simp(disch:=first|omega|(simp only[ai];omega)) only[zx,fx,fy,e,jw,cg,aj,↓eA,eB,aq,seval];exact⟨rows,hm,rfl⟩
  |some v=>
   rw[hy,bU]at fy;have e:gV l x y n=(l,false):=by simp only[gV,hx]
   simp(disch:=first|omega|(simp only[ai];omega)) only[zx,fx,fy,e,jw,cg,bL,dX,aj,↓eA,eB,aq,seval];exact⟨rows,hm,rfl⟩
 |some m=>
  rw[hx,bU]at fx;have h1:=hb _ (iE hx);simp only at h1;cases hy:look l y with
  |none=>
   rw[hy,qw]at fy;have e:gV l x y n=(gF l y (m+n),true):=by simp only[gV,hx,dZ,hy]
   simp(disch:=first|omega|(simp only[ai];omega)) only[zx,fx,fy,e,wrap_i64,jw,cg,bL,dX,aj,↓eA,eB,aq,seval];exact⟨_,hm.put,rfl⟩
  |some v=>
   rw[hy,bU]at fy;by_cases h:v≤m+n
   ·have e:gV l x y n=(l,false):=by simp only[gV,hx,dZ,hy,h,aQ]
    simp(disch:=first|omega|(simp only[ai];omega)) only[zx,fx,fy,e,h,wrap_i64,jw,cg,bL,dX,aj,↓eA,eB,aq,seval];exact⟨rows,hm,rfl⟩
   ·have e:gV l x y n=(gF l y (m+n),true):=by simp only[gV,hx,dZ,hy,h,aZ]
    simp(disch:=first|omega|(simp only[ai];omega)) only[zx,fx,fy,e,h,wrap_i64,aA,jw,cg,bL,dX,aj,↓eA,eB,aq,seval];exact⟨_,hm.put,rfl⟩
theorem uB(p:List lX×List kB)(a b:bS)(S:ae)(hl:p.1.length≤1048576)(hd:p.2.length≤1000):
 ak Tryz.prog 105 [dV p,.str a,.str b] S fun r S'=>r= .dI [.int .i64 (g_ p a b).1,.int .i64 (g_ p a b).2]∧S'=S:=by
 refine ak.bp Tryz.func105 XR fun hn=>?_;refine ak.fin Tryz.func105 XR (U rfl) fun σ b_=>?_;simp(disch:=first|omega|(simp only[ai];omega)) only[Zh,dV,fA,fw,aj,↓eA,eB,aq,seval];refine qv.intro (F2 p a S hl) ?_;simp(disch:=first|omega|(simp only[ai];omega)) only[fA,fw,aj,↓eA,eB,aq,seval];refine(F2 p b S hl).then ?_
 unfold g_;generalize dS p.1 a=f;generalize dS p.1 b=t;by_cases hf:f=[]
 ·subst hf;simp(disch:=first|omega|(simp only[ai];omega)) only[eq_self,l_,aQ,↓eA,eB,aq,seval];exact⟨_,S,hn.self,.bX rfl,ah _,rfl,rfl⟩
 by_cases ht:t=[]
 ·subst ht;simp(disch:=first|omega|(simp only[ai];omega)) only[hf,eq_self,or_true,aQ,aA,↓eA,eB,aq,seval];exact⟨_,S,hn.self,.bX rfl,ah _,rfl,rfl⟩
 have Fs:=se p.2 f;have Iq:=pA (ds:=p.2) (f:=f);generalize hN:lI p.2 f=N at Fs Iq;simp(disch:=first|omega|(simp only[ai];omega)) only[hf,ht,ma,aZ,aA,kr,F3,TG,aj,↓eA,eB,aq,seval];refine dm (ι:=List (V×V)×cY×Bool) (fun i=>[(3,.bK [fA p.1,fw p.2]),(9,.str t),(10,.ptr (S.length+1) 0 0 0),(11,.func 141 [] [.ptr (S.length+1) 0 0 0]),(12,.bool i.2.2)]) (fun i=>S++⟨0,some (.mp ⟨.one .str,i.1,.free⟩)⟩::⟨0,some (.arr 211 1 [[.eF S.length 0]])⟩::[])
  (fun i=>Head p.2 N (PQ p.2 f) i.2.1 i.2.2∧A5 i.2.1 i.1) (fun i=>if i.2.2 then oE N i.2.1+1 else 0) (fun i hi=>by rw[b_];simp) ([(.str f,.int .i64 0)],start f,true) ⟨⟨by rw[←hN];exact pj _ _,by simp only[aQ];exact DL _ _⟩,?_⟩ (.inl ⟨?_,?_⟩) ?_
 ·refine⟨fun q hq=>?_,fun c=>?_⟩
  ·simp only[bM]at hq;subst hq;exact⟨⟨f,rfl⟩,rfl,rfl⟩
  ·simp only[gn,Ds,start,look,aL];by_cases e:c=f
   ·rw[aK e,aK e.symm];rfl
   ·rw[aC e,aC (fun h=>e h.symm)];rfl
 ·simp only[fA,fw,↓eA,eB,aq,seval]
 ·rfl
 ·rintro⟨rows,l,more⟩ ⟨hh,hm⟩;simp only at hh hm⊢;cases more with
  |false=>
   obtain⟨hi,he⟩:=hh;simp only[aV,aZ]at he;rw[←he];have ft:=hm.2 t;cases hk:look l t with
   |none=>
    rw[hk,qw]at ft;simp(disch:=first|omega|(simp only[ai];omega)) only[ft,jw,cg,aj,↓eA,eB,aq,seval];exact⟨_,S,hn.dO _,.bX rfl,ah _,rfl,rfl⟩
   |some v=>
    rw[hk,bU]at ft;simp(disch:=first|omega|(simp only[ai];omega)) only[ft,bL,dX,aj,↓eA,eB,aq,seval];exact⟨_,S,hn.dO _,.bX rfl,ah _,rfl,rfl⟩
  |true=>
   have hnx:=yQ Iq hh;have hi:=hh.1;simp(disch:=first|omega|(simp only[ai];omega)) only[fw,aj,↓eA,eB,aq,seval];refine dm (ι:=List (V×V)×Nat) (fun i=>[(3,.bK [fA p.1,fw p.2]),(9,.str t),(10,.ptr (S.length+1) 0 0 0),(11,.func 141 [] [.ptr (S.length+1) 0 0 0]),(12,.bool ((p.2.take i.2).foldl gB (l,false)).2),(37,fw p.2),(38,.int .i64 p.2.length),(39,.int .i64 i.2)])
    (fun i=>S++⟨0,some (.mp ⟨.one .str,i.1,.free⟩)⟩::⟨0,some (.arr 211 1 [[.eF S.length 0]])⟩::[]) (fun i=>i.2≤p.2.length∧A5 ((p.2.take i.2).foldl gB (l,false)).1 i.1) (fun i=>p.2.length-i.2) (fun i hi=>by rw[b_];simp) (rows,0) ⟨az _,hm⟩ (.inl ⟨?_,?_⟩) ?_
   ·simp only[fA,fw,List.foldl_nil,↓eA,eB,aq,seval]
   ·rfl
   ·rintro⟨bT,k⟩ ⟨hk,hmk⟩;simp only at hk hmk⊢;have nA:=jy hi (p.2.take k) (Bu Iq k) (l,false) ⟨hi,.inl ⟨rfl,rfl⟩⟩;cases l7:p.2[k]? with
    |none=>
     have aR:¬((k:Int)<p.2.length):=by rw[eC]at l7;omega
     rw[bh (List.getElem?_eq_none_iff.1 l7)]at hmk⊢;simp(disch:=first|omega|(simp only[ai];omega)) only[fA,fw,aR,aA,aj,↓eA,eB,aq,seval];exact⟨(bT,ie p.2 l),⟨hnx.1,hmk⟩,hnx.2,.inl ⟨⟨rfl,rfl,rfl,rfl,rfl,trivial⟩,rfl⟩⟩
    |some d=>
     have cK:=(List.getElem?_eq_some_iff.1 l7).1;have aR:(k:Int)<p.2.length:=by omega
     have qV:=y5 (s0:=(l,false)) l7;have hdm:=Iq d (aB l7);generalize hS:(p.2.take k).foldl gB (l,false)=s at nA qV hmk;obtain⟨l1,b1⟩:=s;have kq:qq N l1:=nA.1;have fin:∀(iU:List (V×V)) (l2:cY) (b2:Bool) (T:ae) (E:Env),gB (l1,b1) d=(l2,b2)→A5 l2 iU→sub [(3,.bK [fA p.1,fw p.2]),(9,.str t),(10,.ptr (S.length+1) 0 0 0),(11,.func 141 [] [.ptr (S.length+1) 0 0 0]),(12,.bool b2),(37,fw p.2),(38,.int .i64 p.2.length),(39,.int .i64 (k+1))] E→
      ∃i':List (V×V)×Nat,(i'.2≤p.2.length∧A5 ((p.2.take i'.2).foldl gB (l,false)).1 i'.1)∧p.2.length-i'.2<p.2.length-k∧Li [(3,.bK [fA p.1,fw p.2]),(9,.str t),(10,.ptr (S.length+1) 0 0 0),(11,.func 141 [] [.ptr (S.length+1) 0 0 0]),(12,.bool ((p.2.take i'.2).foldl gB (l,false)).2),(37,fw p.2),(38,.int .i64 p.2.length),(39,.int .i64 i'.2)]
       (S++⟨0,some (.mp ⟨.one .str,i'.1,.free⟩)⟩::⟨0,some (.arr 211 1 [[.eF S.length 0]])⟩::[]) E (S++⟨0,some (.mp ⟨.one .str,iU,.free⟩)⟩::⟨0,some (.arr 211 1 [[.eF S.length 0]])⟩::T):=by
      intro iU l2 b2 T E hr pW hE;rw[hr]at qV;refine⟨(iU,k+1),⟨by simp only;omega,by simp only[qV];exact pW⟩,by simp only;omega,?_⟩;simp only[qV];refine dt ?_ hE (by simp[V.under,fA,fw,V.bI]);exact hn.Dk (L:=_::_::T) (L1:=[_,_]) ⟨rfl,Ng rfl rfl pW.1 (fun a=>rfl),rfl,⟨_,rfl,.under (by simp[V.bI,V.under])⟩,by cases T<;>trivial⟩
     simp(disch:=first|omega|(simp only[ai];omega)) only[fA,fw,cZ,l7,aR,aj,↓eA,eB,aq,seval];refine(LU d _).then ?_
     cases hu:fT d with
     |false=>
      simp(disch:=first|omega|(simp only[ai];omega)) only[fA,fw,wrap_i64,aj,↓eA,eB,aq,seval];exact fin bT l1 b1 _ _ (by simp only[gB,hu,aV,aZ]) hmk ⟨rfl,rfl,rfl,rfl,rfl,rfl,rfl,rfl,trivial⟩
     |true=>
      have Lp:1≤d.mi∧d.mi≤20000:=by simpa[fT]using hu
      have OK:=(qb (x:=d.fr) kq hdm.2 Lp.1 Lp.2).1;simp(disch:=first|omega|(simp only[ai];omega)) only[fA,fw,wrap_i64,aj,↓eA,eB,aq,seval];refine(Hs l1 d.fr d.to d.mi S _ bT hmk (fun q hq=>⟨(kq.1 q hq).1,by have:=(kq.1 q hq).2;omega⟩) Lp).mono ?_;rintro _ _ ⟨rfl,iU,pW,rfl⟩;generalize hA:gV l1 d.fr d.to d.mi=A at OK pW;obtain⟨l2,b2⟩:=A;simp(disch:=first|omega|(simp only[ai];omega)) only[fA,fw,wrap_i64,aj,↓eA,eB,aq,seval];refine(Hs l2 d.to d.fr d.mi S _ iU pW (fun q hq=>⟨(OK.1 q hq).1,by have:=(OK.1 q hq).2;omega⟩) Lp).mono ?_;rintro _ _ ⟨rfl,adb,WA,rfl⟩;generalize hB:gV l2 d.to d.fr d.mi=B at WA;obtain⟨l3,b3⟩:=B;have dq:gB (l1,b1) d=(l3,b1||b2||b3):=by simp only[gB,hu,hA,hB,aQ]
      cases b1<;>cases b2<;>cases b3;all_goals
       simp(disch:=first|omega|(simp only[ai];omega)) only[fA,fw,wrap_i64,aj,↓eA,eB,aq,seval];exact fin adb l3 _ _ _ dq WA ⟨rfl,rfl,rfl,rfl,rfl,rfl,rfl,rfl,trivial⟩
end Go.Proofs.YtfgkgmmnldocaaaGreatDoor.Ml
namespace Go.Proofs.YtfgkgmmnldocaaaGreatDoor.Ml
open Go Go.AL
variable[Go.AL.Mode][Go.AL.bR]
theorem wE{N:List bS}{ds:List kB}(hd:∀d∈ds,d.fr∈N∧d.to∈N):∀(n:Nat) (l:cY),qq N l→qq N (sI ds n l)
 |0,l,hi=>hi
 |n+1,l,hi=>by
  have hs:=jy hi ds hd (l,false) ⟨hi,.inl ⟨rfl,rfl⟩⟩;rw[sI];split
  ·exact wE hd n _ hs.1
  ·exact hs.1
theorem s_(p:List lX×List kB)(a b:bS)(hd:p.2.length≤1000):0≤(g_ p a b).1∧(g_ p a b).1≤50000000:=by
 unfold g_;split
 ·simp
 ·have hi:=wE (pA (ds:=p.2) (f:=dS p.1 a)) (oE (lI p.2 (dS p.1 a)) (start (dS p.1 a))+1) _ (pj p.2 (dS p.1 a));have hn:=se p.2 (dS p.1 a);cases h:look (PQ p.2 (dS p.1 a)) (dS p.1 b)with
  |none=>simp
  |some v=>
   have:=hi.1 _ (iE h);simp only at this⊢;omega
def j8(p:List lX×List kB)(n:Int):List bS→Int×Int
 |[]=>(n,0)
 |[_]=>(n,0)
 |a::b::r=>if(g_ p a b).2=0 then j8 p (n+(g_ p a b).1) (b::r)else(0,(g_ p a b).2)
def Bb(l:List bS):V:=.sl 1 (l.map fun s=>[.str s])
theorem wj{α:Type}{l:List α}{k:Nat}{x:α}(h:l[k]?=some x):l.drop k=x::l.drop (k+1):=by
 obtain⟨aR,rfl⟩:=List.getElem?_eq_some_iff.1 h;exact dQ aR
theorem GB{p:List lX×List kB}{n:Int}{l:List bS}{k:Nat}(h:¬k+1<l.length):j8 p n (l.drop k)=(n,0):=by
 have:(l.drop k).length≤1:=by rw[List.length_drop];omega
 match l.drop k,this with
 |[],_=>rfl
 |[_],_=>rfl
theorem Bo{p:List lX×List kB}{n:Int}{l:List bS}{k:Nat}{a b:bS}(ha:l[k]?=some a)(hb:l[k+1]?=some b):j8 p n (l.drop k)=if(g_ p a b).2=0 then j8 p (n+(g_ p a b).1) (l.drop (k+1))else(0,(g_ p a b).2):=by
 rw[wj ha,wj hb,j8]
theorem LL(p:List lX×List kB)(cs:List bS)(S:ae)(hl:p.1.length≤1048576)(hd:p.2.length≤1000)(hc:cs.length≤1048576):
 ak Tryz.prog 59 [dV p,Bb cs] S fun r S'=>r= .dI [.int .i64 (j8 p 0 cs).1,.int .i64 (j8 p 0 cs).2]∧S'=S:=by
 refine ak.bW Tryz.func59 afZ (U rfl) fun σ b_=>?_;simp(disch:=first|omega|(simp only[ai];omega)) only[Zj,dV,fA,fw,Bb,↓eA,eB,aq,seval];refine cH (ι:=Nat×Int) (fun i=>[(1,Bb cs),(2,.bK [fA p.1,fw p.2]),(6,.int .i64 i.2),(7,.int .i64 (i.1+1))]) (fun _=>S) (fun i=>j8 p i.2 (cs.drop i.1)=j8 p 0 cs∧0≤i.2∧i.2≤50000000*i.1∧i.1≤cs.length) (fun i=>cs.length-i.1) (0,0) ⟨rfl,cM _,by simp,az _⟩ ?_ rfl ?_
 ·simp only[Bb,fA,fw,Int.reduceAdd,↓eA,eB,aq,seval];try rfl
 ·rintro⟨k,n⟩ ⟨hinv,rJ,CY,pX⟩;simp only at hinv rJ CY pX⊢;by_cases lP:k+1<cs.length
  ·have aR:(k:Int)+1<cs.length:=by omega
   have ha:cs[k]?=some cs[k]:=ax (by omega);have hb:cs[k+1]?=some cs[k+1]:=ax lP;generalize cs[k]=a at ha;generalize cs[k+1]=b at hb;rw[Bo ha hb]at hinv;have wb:(k:Int)+1=((k+1:Nat):Int):=by omega
   have qi:((k+1:Nat):Int)-1=(k:Int):=by omega
   have Fv:((k+1:Nat):Int)<cs.length:=by omega
   have hmb:=s_ p a b hd;simp(disch:=first|omega|(simp only[ai];omega)) only[Bb,fA,fw,wb,qi,Fv,ha,hb,wrap_i64,↓eA,eB,aq,seval];refine(uB p a b S hl hd).then ?_
   by_cases he:(g_ p a b).2=0
   ·rw[aK he]at hinv;simp(disch:=first|omega|(simp only[ai];omega)) only[Bb,fA,fw,he,wrap_i64,aA,↓eA,eB,aq,seval];refine⟨(k+1,n+(g_ p a b).1),⟨hinv,by simp only;omega,by simp only;omega,by simp only;omega⟩,by simp only;omega,?_⟩;simp
   ·rw[aC he]at hinv;simp(disch:=first|omega|(simp only[ai];omega)) only[Bb,fA,fw,he,←hinv,wrap_i64,aA,↓eA,eB,aq,seval]
  ·have aR:¬(k:Int)+1<cs.length:=by omega
   rw[GB lP]at hinv;simp(disch:=first|omega|(simp only[ai];omega)) only[Bb,fA,fw,aR,←hinv,wrap_i64,aA,↓eA,eB,aq,seval]
theorem M1(p:List lX×List kB)(cs:List bS)(S:ae)(hl:p.1.length≤1048576)(hd:p.2.length≤1000)(hc:cs.length≤1048576):
 ak Tryz.prog 196 [dV p,Bb cs] S fun r S'=>r= .dI [.int .i64 (j8 p 0 cs).1,.int .i64 (j8 p 0 cs).2]∧S'=S:=by
 refine ak.bW Tryz.func196 afY (U rfl) fun σ b_=>?_;simp(disch:=first|omega|(simp only[ai];omega)) only[Zi,dV,fA,fw,Bb,↓eA,eB,aq,seval];refine cH (ι:=Nat×Int) (fun i=>[(1,Bb cs),(2,.bK [fA p.1,fw p.2]),(6,.int .i64 i.2),(7,.int .i64 (i.1))]) (fun _=>S) (fun i=>j8 p i.2 (cs.drop i.1)=j8 p 0 cs∧0≤i.2∧i.2≤50000000*i.1∧i.1≤cs.length) (fun i=>cs.length-i.1) (0,0) ⟨rfl,cM _,by simp,az _⟩ ?_ rfl ?_
 ·simp only[Bb,fA,fw,Int.reduceAdd,↓eA,eB,aq,seval];try rfl
 ·rintro⟨k,n⟩ ⟨hinv,rJ,CY,pX⟩;simp only at hinv rJ CY pX⊢;by_cases lP:k+1<cs.length
  ·have aR:(k:Int)+1<cs.length:=by omega
   have ha:cs[k]?=some cs[k]:=ax (by omega);have hb:cs[k+1]?=some cs[k+1]:=ax lP;generalize cs[k]=a at ha;generalize cs[k+1]=b at hb;rw[Bo ha hb]at hinv;have wb:(k:Int)+1=((k+1:Nat):Int):=by omega
   have qi:((k+1:Nat):Int)-1=(k:Int):=by omega
   have Fv:((k+1:Nat):Int)<cs.length:=by omega
   have hmb:=s_ p a b hd;simp(disch:=first|omega|(simp only[ai];omega)) only[Bb,fA,fw,wb,qi,Fv,ha,hb,wrap_i64,↓eA,eB,aq,seval];refine(EN p a b S hl hd).then ?_
   by_cases he:(g_ p a b).2=0
   ·rw[aK he]at hinv;simp(disch:=first|omega|(simp only[ai];omega)) only[Bb,fA,fw,he,wrap_i64,aA,↓eA,eB,aq,seval];refine⟨(k+1,n+(g_ p a b).1),⟨hinv,by simp only;omega,by simp only;omega,by simp only;omega⟩,by simp only;omega,?_⟩;simp
   ·rw[aC he]at hinv;simp(disch:=first|omega|(simp only[ai];omega)) only[Bb,fA,fw,he,←hinv,wrap_i64,aA,↓eA,eB,aq,seval]
  ·have aR:¬(k:Int)+1<cs.length:=by omega
   rw[GB lP]at hinv;simp(disch:=first|omega|(simp only[ai];omega)) only[Bb,fA,fw,aR,←hinv,wrap_i64,aA,↓eA,eB,aq,seval]
def Cf(p:List lX×List kB)(cs:List bS)(m:Int):Int×Int:=if(j8 p 0 cs).2=0 then Aj (j8 p 0 cs).1 m else(0,(j8 p 0 cs).2)
theorem aaf(p:List lX×List kB)(cs:List bS)(m:Int)(S:ae)(hl:p.1.length≤1048576)(hd:p.2.length≤1000)(hc:cs.length≤1048576):
 ak Tryz.prog 29 [dV p,Bb cs,.int .i64 m] S fun r S'=>r= .dI [.int .i64 (Cf p cs m).1,.int .i64 (Cf p cs m).2]∧S'=S:=by
 refine ak.bW Tryz.func29 af3 (U rfl) fun σ b_=>?_;simp(disch:=first|omega|(simp only[ai];omega)) only[Zn,dV,fA,fw,↓eA,eB,aq,seval];refine(LL p cs S hl hd hc).then ?_
 unfold Cf;by_cases he:(j8 p 0 cs).2=0
 ·simp(disch:=first|omega|(simp only[ai];omega)) only[he,aQ,aA,↓eA,eB,aq,seval];refine(TW _ _ S).then ?_
  simp(disch:=first|omega|(simp only[ai];omega)) only[↓eA,eB,aq,seval]
 ·simp(disch:=first|omega|(simp only[ai];omega)) only[he,aZ,aA,↓eA,eB,aq,seval]
theorem Tn(p:List lX×List kB)(cs:List bS)(m:Int)(S:ae)(hl:p.1.length≤1048576)(hd:p.2.length≤1000)(hc:cs.length≤1048576):
 ak Tryz.prog 172 [dV p,Bb cs,.int .i64 m] S fun r S'=>r= .dI [.int .i64 (Cf p cs m).1,.int .i64 (Cf p cs m).2]∧S'=S:=by
 refine ak.bW Tryz.func172 af2 (U rfl) fun σ b_=>?_;simp(disch:=first|omega|(simp only[ai];omega)) only[Zm,dV,fA,fw,↓eA,eB,aq,seval];refine(M1 p cs S hl hd hc).then ?_
 unfold Cf;by_cases he:(j8 p 0 cs).2=0
 ·simp(disch:=first|omega|(simp only[ai];omega)) only[he,aQ,aA,↓eA,eB,aq,seval];refine(EO _ _ S).then ?_
  simp(disch:=first|omega|(simp only[ai];omega)) only[↓eA,eB,aq,seval]
 ·simp(disch:=first|omega|(simp only[ai];omega)) only[he,aZ,aA,↓eA,eB,aq,seval]
end Go.Proofs.YtfgkgmmnldocaaaGreatDoor.Ml
namespace Go.Proofs.YtfgkgmmnldocaaaGreatDoor
open Go Go.AL
variable[Go.AL.Mode][Go.AL.bR]
def Gn(p:fO)(c:bS):Int×List (Int×Int):=match p.1.find? fun a=>decide (a.code=c)with
 |some a=>(a.off,a.sh)
 |none=>(0,[])
def Ah(z:Int×List (Int×Int))(u:Int):Int:=IntKind.i64.wrap (u+xh z.1 z.2 u)
def cF(p:fO):List gv→List bS
 |[]=>[]
 |w::l=>Ml.dS p.1 w.s.f::(w::l).map fun w=>Ml.dS p.1 w.s.t
def iq(a b:gv):Bool:=decide (1440≤b.s.dep-a.s.arr)
def lS(q:gv→gv→Bool)(l:List gv):Nat→Nat
 |0=>0
 |i+1=>lS q l i+if i=0 then 0 else match l[i-1]?,l[i]? with
  |some a,some b=>if q a b then 1 else 0
  |_,_=>0
def im(p:fO)(l:List gv)(ty:bS)(cj:Int):A4:=match l with
 |[]=>⟨ty,cj,0,0,0,0,[],[],[]⟩
 |w::r=>⟨ty,cj,(ew (Ah (Gn p w.s.f) w.s.dep)).1,(ew (Ah (Gn p w.s.f) w.s.dep)).2,(lS iq (w::r) (w::r).length:Nat),(lS (fun a b=>!iq a b) (w::r) (w::r).length:Nat),
  (w::r).map (fun w=>w.s.c),(w::r).map (fun w=>w.s.n),(cF p (w::r)).tail.dropLast⟩
structure gk where
 bE:List Fr
 rules:List o9
 cS:List Gj
def pJ:b8:=.mk 0 [] 0 0 ⟨0,0,0⟩ []
def j5:o9:=⟨0,pJ,[],0,0,0,0,[]⟩
def lB:Gj:=⟨0,[],0⟩
def fm(t:gk)(n:Int):Option o9:=t.rules.find? fun r=>decide (r.n=n)
def gN(t:gk)(n:Int):Option Gj:=t.cS.find? fun r=>decide (r.n=n)
def je(gO:List (bS×bS)):List bS→Bool
 |a::b::l=>gO.contains (a,b)&&je gO (b::l)
 |_=>true
def jg(r:Gj)(cs:List bS):Bool:=r.gO.isEmpty||je r.gO cs
def vu(r:o9)(ty:bS)(am:Int):Int×Int:=match r.jb.find? fun q=>decide (q.1=ty)with
 |some q=>Ml.cG am (100*q.2)
 |none=>Ml.cG am 10000
def Js(p:fO)(t:gk)(f:Fr)(cs:List bS):Int:=
 if f.gu=0 then 0 else if jg ((gN t f.gu).getD lB) cs=false then 21 else if((gN t f.gu).getD lB).mi≤0 then 0 else(Ml.Cf p cs ((gN t f.gu).getD lB).mi).2
def tH(f:Fr)(l:List gv)(cs:List bS):Bool:=(l.all fun w=>decide (w.s.c=f.c))&&(decide (cs.head?=some f.f)&&decide (cs.getLast?=some f.t))
def uT(p:fO)(t:gk)(at_:Int)(l:List gv)(ty:bS)(cj:Int):Int:=
 if l=[]∨at_<0 then 2 else match t.bE[at_.toNat]? with
 |none=>2
 |some f=>if tH f l (cF p l)=false then 19 else if(l.any fun w=>decide (w.cl≠f.cl))then 16
  else if b8.holds (im p l ty cj) ((fm t f.iv).getD j5).w=false then 20 else Js p t f (cF p l)
def iF(p:fO)(t:gk)(f:Fr)(l:List gv):Int×Int:=
 if f.gu=0∨((gN t f.gu).getD lB).mi≤0 then(0,0)else Ml.Cf p (cF p l) ((gN t f.gu).getD lB).mi
def gg(p:fO)(t:gk)(at_:Int)(l:List gv)(ty:bS):Int×Int:=
 if l=[]∨at_<0 then(0,2)else match t.bE[at_.toNat]? with
 |none=>(0,2)
 |some f=>if(iF p t f l).2≠0 then(0,(iF p t f l).2)else if(Ml.fZ f.am (iF p t f l).1).2≠0 then(0,(Ml.fZ f.am (iF p t f l).1).2)
  else vu ((fm t f.iv).getD j5) ty (Ml.fZ f.am (iF p t f l).1).1
end Go.Proofs.YtfgkgmmnldocaaaGreatDoor
