/- Td1 -/
import Derived.Test.YtfgkgmmnldocaaaGreatDoorZTch
import Derived.Test.YtfgkgmmnldocaaaGreatDoorZTcM
set_option linter.unusedSectionVars false
set_option linter.unusedSimpArgs false
set_option linter.unusedVariables false
set_option maxHeartbeats 4000000
namespace Go.Proofs.YtfgkgmmnldocaaaGreatDoor
open Go Go.AL
variable[Go.AL.Mode][Go.AL.bR]
def Vm(j:Jr)(e:Int):Prop:=(j.w.length=0∧e=2)∨(0<j.w.length∧((¬ny j 0∧e=19)∨(ny j 0∧¬A7 j 0 []∧e=23)∨(A7 j 0 []∧e=0)))
def ow:List V:=[.aM,.aM,.aM,.int .i64 0,.int .i64 0]
theorem MU(j:Jr)(hj:Vn j)(hn6:j.w.length≤6)(S:ae):
 ak Tryz.prog 10 [dV j.p,.agg (b9 j.t (j.tx.map fk)),.sl 8 (j.w.map cR),.str j.iz,.int .i64 j.cj] S fun r S'=>(∃l ps q e,r= .dI [.agg (qR l ps q),.int .i64 e]∧Vm j e)∧S'=S:=by
 refine ak.bp Tryz.func10 Qp fun hn=>?_;refine ak.fin Tryz.func10 Qp (U rfl) fun σ b_=>?_;have out:∀(X:ae) (v:V) (l:List Pa) (ps:List (Nat×Nat)) (q:Int×List (bS×Int)×Int) (e:Int),(∃T,X=S++T)→jd X S v (.agg (qR l ps q))→Vm j e→∃r1 S1,mV X S1∧jd X S1 (.dI [v,.int .i64 e]) r1∧S.length≤S1.length∧(∃l ps q e,r1= .dI [.agg (qR l ps q),.int .i64 e]∧Vm j e)∧S1=S:=fun X v l ps q e hX hq he=>by
  obtain⟨T,rfl⟩:=hX;exact⟨_,S,hn.dO _,.jj hq (.bX rfl),ah _,⟨_,_,_,_,rfl,he⟩,rfl⟩
 simp only[dV,b9];by_cases h0:j.w.length=0
 ·have Kt:(j.w.length:Int)=0:=by omega
  simp(disch:=first|omega|(simp only[ai];omega)) only[Gh,dT Kt,aj,↓eA,eB,aq,seval];exact out _ _ _ _ _ _ ⟨_,rfl⟩ (lA _ _) (.inl ⟨h0,rfl⟩)
 have Kt:¬(j.w.length:Int)=0:=by omega
 have hw6:¬(6:Int)<(j.w.length:Nat):=by omega
 have hR:Le j 114 (S.length+1) (S++[⟨0,some (.arr 48 5 [ow])⟩,⟨0,some (.arr 114 16 [kF j false false ow])⟩]) (S++[⟨0,some (.arr 48 5 [ow])⟩,⟨0,some (.arr 114 16 [kF j false false ow])⟩]) false false:=⟨⟨ow,by rw[iD,cT,cE],.inl ⟨rfl,rfl⟩⟩,f_.refl _ _⟩;have lR:ae.bq (S++[⟨0,some (.arr 48 5 [ow])⟩,⟨0,some (.arr 114 16 [kF j false false ow])⟩]) S.length 0=some (48,5,[ow]):=by rw[dP,cE]
 have hT0:∃T,(S++[⟨0,some (.arr 48 5 [ow])⟩,⟨0,some (.arr 114 16 [kF j false false ow])⟩]:ae)=S++T:=⟨_,rfl⟩;have lQ:(S++[⟨0,some (.arr 48 5 [ow])⟩,⟨0,some (.arr 114 16 [kF j false false ow])⟩]:ae).length=S.length+2:=by simp
 obtain⟨S1,Lt⟩:∃S1,S1=(S++[⟨0,some (.arr 48 5 [ow])⟩,⟨0,some (.arr 114 16 [kF j false false ow])⟩]:ae):=⟨_,rfl⟩;rw[←Lt]at hR lR hT0 lQ;simp only[kF,jk,ow,aS,a8]at Lt;simp(disch:=first|omega|(simp only[ai];omega)) only[Gh,dF Kt,dF hw6,←Lt,a_,bz,aj,↓eA,eB,aq,seval];refine ak.bp Tryz.func39 F4 fun eY=>?_;refine lz.aeF (lo:=0) (q:=38) (sz:=4) (rows:=[]) eY (.inl ⟨rfl,rfl⟩) (by simp) fun S2 qh vZ=>?_;have hR2:=hR.pF qh fun q ⟨_,_,_,h⟩=>by cases h
 have nB:=qh.obj lR fun⟨_,_,_,h⟩=>by cases h
 have jU:=qh.ext hT0 fun q ⟨_,_,_,h⟩=>by cases h
 refine ak.mono (Tl j hj 114 (j.w.length+1) 0 (az _) (by omega) [] (az _) (fun a h=>by simp at h) (S.length+1) false false S1 S2 hR2 (by omega)) ?_;rintro r S3 ⟨sm,fd,hR3,hs3,mU⟩;have Au:=hR3.f.obj nB (by omega);have Uw:=hR3.f.ext jU fun q hq=>by omega
 obtain⟨AN,nV,Ut⟩:=hR3.o;simp only[kF,jk,ow,aS,a8]at nV Au;have xm:∀r,(∃T,S3.set S.length ⟨0,some (.arr 48 5 [r])⟩=S++T)∧ae.bq (S3.set S.length ⟨0,some (.arr 48 5 [r])⟩) S.length 0=some (48,5,[r]):=fun r=>⟨(mA S3 S.length ⟨0,some (.arr 48 5 [r])⟩).ext Uw fun q hq=>by omega,ed Au⟩;simp only[aV,false_or]at hs3 mU;cases sm with
 |false=>
  obtain⟨xz,pY⟩:=xm ow;unfold ow at xz pY;simp(disch:=first|omega|(simp only[ai];omega)) only[nV,Au,pY,aj,↓eA,eB,aq,seval];exact out _ _ _ _ _ _ xz (lA _ _) (.inr ⟨by omega,.inl ⟨(fun h=>by cases hs3.2 h),rfl⟩⟩)
 |true=>
 cases fd with
 |false=>
  obtain⟨xz,pY⟩:=xm ow;unfold ow at xz pY;simp(disch:=first|omega|(simp only[ai];omega)) only[nV,Au,pY,aj,↓eA,eB,aq,seval];exact out _ _ _ _ _ _ xz (lA _ _) (.inr ⟨by omega,.inr (.inl ⟨hs3.1 rfl,(fun h=>by cases mU.2 h),rfl⟩)⟩)
 |true=>
  rcases Ut with⟨k,_⟩|⟨l,ps,q,_,rfl⟩
  ·cases k
  obtain⟨xz,pY⟩:=xm (qR l ps q);unfold qR at xz pY nV;simp(disch:=first|omega|(simp only[ai];omega)) only[nV,Au,pY,aj,↓eA,eB,aq,seval];exact out _ _ l ps q _ xz (.bX rfl) (.inr ⟨by omega,.inr (.inr ⟨mU.1 rfl,rfl⟩)⟩)
end Go.Proofs.YtfgkgmmnldocaaaGreatDoor
namespace Go.Proofs.YtfgkgmmnldocaaaGreatDoor
open Go Go.AL
variable[Go.AL.Mode][Go.AL.bR]
def fW(l:List Pa):Int:=fL (l.map (·.am))
def tt(j:Jr)(l:List Pa):Int:=Jv (Bs j) j.tx (fW l)
structure BB where
 l:List Pa
 ps:List (Nat×Nat)
 tx:List (bS×Int)
def l9(j:Jr):Option BB→List V
 |none=>[.aM,.aM,.aM,.int .i64 0,.int .i64 0]
 |some x=>qR x.l x.ps (fW x.l,x.tx,tt j x.l)
def kE(j:Jr)(ov lv pv:V)(sum:Int)(bo:Option BB):List V:=jk j++ov::lv::pv:: .int .i64 sum::(l9 j bo++[.bool bo.isSome])
def agC(j:Jr)(l:List Pa):Prop:=rM j 0 l∧Bc j l=true
def A_(j:Jr)(bo:Option BB):Prop:=∀x,bo=some x→agC j x.l∧x.l.length≤100000
def A6(j:Jr)(bo pR:Option BB):Prop:=∀x,bo=some x→∃x',pR=some x'∧tt j x'.l≤tt j x.l
theorem A6.refl(j:Jr)(bo:Option BB):A6 j bo bo:=fun x h=>⟨x,h,cM _⟩
theorem A6.trans{j:Jr}{a b c:Option BB}(h:A6 j a b)(k:A6 j b c):A6 j a c:=fun x hx=>by
 obtain⟨y,hy,h1⟩:=h x hx;obtain⟨z,hz,h2⟩:=k y hy;exact⟨z,hz,by omega⟩
def nz(j:Jr)(bo:Option BB)(l:List Pa):Prop:=Bc j l=true→∃x,bo=some x∧tt j x.l≤tt j l
theorem nz.le{j:Jr}{bo pR:Option BB}{l:List Pa}(h:nz j bo l)(k:A6 j bo pR):nz j pR l:=fun hp=>by
 obtain⟨x,hx,h1⟩:=h hp;obtain⟨y,hy,h2⟩:=k x hx;exact⟨y,hy,by omega⟩
def zD(lo:Nat)(X:ae)(pv:V)(l:List Pa)(ex:List (List V)):Prop:=(pv= .aM∧l=[]∧ex=[])∨∃c aI,pv= .cU c aI 0 l.length∧lo≤c∧X.bq c aI=some (38,4,l.map c9++ex)
theorem zD.H6{lo:Nat}{X:ae}{pv:V}{l:List Pa}(h:zD lo X pv l []):lz lo X 38 4 (l.map c9) pv:=by
 rcases h with⟨rfl,rfl,_⟩|⟨c,aI,rfl,h1,h2⟩
 ·exact .inl ⟨rfl,rfl⟩
 ·exact .inr ⟨c,aI,h1,by simp,by rw[cw]at h2;exact h2⟩
theorem zD.pF{lo:Nat}{X X':ae}{pv:V}{l:List Pa}{ex:List (List V)}(h:zD lo X pv l ex){D:Nat→Prop}(hf:f_ D X X')(hd:∀i,nn pv i→¬D i):zD lo X' pv l ex:=by
 rcases h with h|⟨c,aI,rfl,h1,h2⟩
 ·exact .inl h
 ·exact .inr ⟨c,aI,rfl,h1,hf.obj h2 (hd c ⟨_,_,_,rfl⟩)⟩
theorem zD.ge{lo:Nat}{X:ae}{pv:V}{l:List Pa}{ex:List (List V)}(h:zD lo X pv l ex){i:Nat}(hi:nn pv i):lo≤i∧i<X.length:=by
 obtain⟨aI,o,n,rfl⟩:=hi;rcases h with⟨h,_⟩|⟨c,gS,h,h1,h2⟩
 ·cases h
 ·cases h;exact⟨h1,gW h2⟩
theorem Hy{j:Jr}{l:List Pa}(ha:Nn (l.map (·.am))):Bc j l=true↔wI j.p j.t j.w l=0∧okF (Bs j) j.tx (fW l):=by
 unfold Bc fW;rw[aW,aL,aL]
theorem Po(j:Jr)(hj:JrF j)(l:List Pa)(hl:l.length≤100000)(ha:Nn (l.map (·.am)))(oW:rM j 0 l){ty:TypeId}{b lo:Nat}{ov lv pv:V}{sum:Int}{bo:Option BB}(Ut:A_ j bo)(S:ae)(aaW:b<lo)(Lo:zD lo S pv l [])(ho:S.bq b 0=some (ty,19,[kE j ov lv pv sum bo])):
 ak Tryz.prog 71 [.ptr b 0 0 0] S fun r S'=>∃pR,S'.bq b 0=some (ty,19,[kE j ov lv pv sum pR])∧A_ j pR∧A6 j bo pR∧nz j pR l∧f_ (fun i=>i=b) S S':=by
 refine ak.bW Tryz.func71 abK (U rfl) fun σ b_=>?_;have hjo:=hj.ok;obtain⟨h1,h2,h3,h4,h5,h6,h7⟩:=hj.ok;have hL:=Lo.H6;have ck:=PN j.p h1 hj.zns j.t (j.tx.map fk) h2 h3 hj.cb j.w l hl (kill S);have ckl:=Fh (args:=[dV j.p,.agg (b9 j.t (j.tx.map fk)),.sl 8 (j.w.map cR),pv]) ck ⟨.bX rfl,.bX rfl,.bX rfl,hL.Kl (z8 l),trivial⟩;clear ck;have pr:=fun hk ps pC id aI S ho=>Tz j hjo l hl hk ps pC (id:=id) (aI:=aI) S ho;have Uu:∃b1 b2 b3 b4 b5,l9 j bo=[b1,b2,b3,b4,b5]:=by
  cases bo with
  |none=>exact⟨_,_,_,_,_,rfl⟩
  |some x=>exact⟨_,_,_,_,_,rfl⟩
 obtain⟨b1,b2,b3,b4,b5,oX⟩:=Uu;have hqe:=Z2 (Bs j) j.tx (fun x h=>(h5 x h).1) ha;rw[show(fun x=>uZ j.p x (ve j.w) j.iz)=Bs j from rfl]at pr;have hpi:=Hy (j:=j) ha;have same:∀X,Bc j l=false→∃pR,(S++X).bq b 0=some (ty,19,[kE j ov lv pv sum pR])∧A_ j pR∧A6 j bo pR∧nz j pR l∧f_ (fun i=>i=b) S (S++X):=fun X hp=>⟨bo,fc ho,Ut,A6.refl _ _,fun h=>(by rw[hp]at h;cases h),f_.add _ _ _⟩;have eI:=ho;unfold kE at eI;rw[oX]at eI;simp only[dV,b9,jk,aS,a8]at ckl pr eI;by_cases uH:wI j.p j.t j.w l=0
 ·obtain⟨k1,k2,ps,k3,k4,k5⟩:=wH uH;obtain⟨c,aI,OM,adW,CW⟩:∃c aI,pv= .cU c aI 0 l.length∧lo≤c∧S.bq c aI=some (38,4,l.map c9):=by
   rcases Lo with⟨_,rfl,_⟩|⟨c,aI,h,h',h''⟩
   ·cases k1
   ·exact⟨c,aI,h,h',by rw[cw]at h'';exact h''⟩
  subst OM;have TB:=fun S ho=>pr k2 ps k3 c aI S ho;clear pr;rw[uH]at ckl;simp(disch:=first|omega|(simp only[ai];omega)) only[Gb,eI,aj,↓eA,eB,aq,seval];refine(ckl).then ?_
  simp(disch:=first|omega|(simp only[ai];omega)) only[eI,aj,↓eA,eB,aq,seval];by_cases eQ:okF (Bs j) j.tx (fW l)
  ·obtain⟨tx,htx⟩:∃tx,tx=(lu (fW l) (Bs j) [] j.tx).2:=⟨_,rfl⟩;have hq:=hqe.2 eQ;rw[show fL (l.map (·.am))=fW l from rfl,←htx,show Jv (Bs j) j.tx (fW l)=tt j l from rfl]at hq;rw[hq]at TB;unfold B7 at TB;simp only[qR]at TB;rw[aC (by omega)]at TB;have hcd:agC j l:=⟨oW,hpi.2 ⟨uH,eQ⟩⟩;have ai6:A_ j (some ⟨l,ps,tx⟩):=fun x hx=>by cases hx;exact⟨hcd,hl⟩
   have ai3:nz j (some ⟨l,ps,tx⟩) l:=fun _=>⟨_,rfl,cM _⟩;have xq:=fc (X:=[⟨0,some (.arr 48 5 [qR l ps (fW l,tx,tt j l)])⟩]) eI;have Ed:ae.bq (S++[⟨0,some (.arr 48 5 [qR l ps (fW l,tx,tt j l)])⟩]) S.length 0=some (48,5,[qR l ps (fW l,tx,tt j l)]):=dP.trans cE;have qh:=f_.add (fun i=>i=b) S [⟨0,some (.arr 48 5 [qR l ps (fW l,tx,tt j l)])⟩];have hSb:S.length≠b:=by have:=gW ho;omega
   unfold qR at xq Ed qh;obtain⟨S2,cO⟩:∃S2,S2=(S++[⟨0,some (.arr 48 5 [[.sl 4 (l.map c9),.sl 2 (ps.map mS),.sl 2 (tx.map ot),.int .i64 (fW l),.int .i64 (tt j l)]])⟩]:ae):=⟨_,rfl⟩;rw[←cO]at xq Ed qh;have fin:∀(S3 S4:ae) (fd:Bool),S3=S2.set b ⟨0,some (.arr ty 19 [jk j++ov::lv:: .cU c aI 0 l.length:: .int .i64 sum::(qR l ps (fW l,tx,tt j l)++[.bool fd])])⟩→S4=S3.set b ⟨0,some (.arr ty 19 [kE j ov lv (.cU c aI 0 l.length) sum (some ⟨l,ps,tx⟩)])⟩→
    A6 j bo (some ⟨l,ps,tx⟩)→∃pR,ae.bq S4 b 0=some (ty,19,[kE j ov lv (.cU c aI 0 l.length) sum pR])∧A_ j pR∧A6 j bo pR∧nz j pR l∧f_ (fun i=>i=b) S S4:=fun S3 S4 fd e3 e4 hle=>
    ⟨some ⟨l,ps,tx⟩,by rw[e4,e3];exact ed (ed xq),ai6,hle,ai3,by rw[e4,e3];exact(qh.set (fun _=>rfl) _).set (fun _=>rfl) _⟩
   refine⟨?_,?_⟩;all_goals
    refine(TB _ (by first|exact CW|exact fc CW)).then ?_
    obtain⟨S3,Pc⟩:∃S3:ae,S3=S2.set b ⟨0,some (.arr ty 19 [jk j++ov::lv:: .cU c aI 0 l.length:: .int .i64 sum::(qR l ps (fW l,tx,tt j l)++[.bool bo.isSome])])⟩:=⟨_,rfl⟩;obtain⟨S4,Av⟩:∃S4:ae,S4=S3.set b ⟨0,some (.arr ty 19 [kE j ov lv (.cU c aI 0 l.length) sum (some ⟨l,ps,tx⟩)])⟩:=⟨_,rfl⟩;have UK:=fin S3 S4 _ Pc Av;have nV:ae.bq S3 b 0=some (ty,19,[jk j++ov::lv:: .cU c aI 0 l.length:: .int .i64 sum::(qR l ps (fW l,tx,tt j l)++[.bool bo.isSome])]):=by rw[Pc];exact ed xq
    simp only[jk,qR,kE,l9,aS,a8]at Pc Av nV;clear fin same ckl;cases bo with
    |none=>
     simp only[cg,dX,l9,fh,and_true]at Pc Av nV oX xq;obtain⟨rfl,rfl,rfl,rfl,rfl⟩:=oX;simp(disch:=first|omega|(simp only[ai];omega)) only[←cO,xq,Ed,←Pc,nV,←Av,aj,↓eA,eB,aq,seval];exact UK fun x hx=>by cases hx
    |some x=>
     have bt:=fun S=>QL l x.l hl ps x.ps (fW l,tx,tt j l) (fW x.l,x.tx,tt j x.l) S;simp only[qR]at bt;simp only[dX,l9,qR,fh,and_true]at Pc Av nV oX xq;obtain⟨rfl,rfl,rfl,rfl,rfl⟩:=oX;simp(disch:=first|omega|(simp only[ai];omega)) only[←cO,xq,Ed,aj,↓eA,eB,aq,seval];refine(bt _).mono ?_;rintro _ S9 ⟨⟨bb,rfl,n_,nB⟩,rK⟩;rw[rK];clear rK S9;cases bb with
     |true=>
      simp(disch:=first|omega|(simp only[ai];omega)) only[xq,Ed,←Pc,nV,←Av,aj,↓eA,eB,aq,seval];exact UK fun y hy=>by cases hy;exact⟨_,rfl,n_ rfl⟩
     |false=>
      simp(disch:=first|omega|(simp only[ai];omega)) only[aj,↓eA,eB,aq,seval];exact⟨some x,xq,Ut,A6.refl _ _,fun _=>⟨_,rfl,nB rfl⟩,qh⟩
  ·have hp:Bc j l=false:=by
    cases h:Bc j l with
    |false=>rfl
    |true=>exact(eQ (hpi.1 h).2).elim
   have eY:(Z3 (Bs j) j.tx (l.map (·.am))).1≠0:=fun h=>eQ (hqe.1.1 h);unfold B7 at TB;rw[aK eY]at TB;generalize (Z3 (Bs j) j.tx (l.map (·.am))).1=e at*;simp only[qR,bY]at TB;refine⟨?_,?_⟩;all_goals
    refine(TB _ (by first|exact CW|exact fc CW)).then ?_
    simp(disch:=first|omega|(simp only[ai];omega)) only[dT eY,dF (show ¬e=0 from eY),aj,↓eA,eB,aq,seval];exact same _ hp
 ·have hp:Bc j l=false:=by
   cases h:Bc j l with
   |false=>rfl
   |true=>exact(uH (hpi.1 h).1).elim
  simp(disch:=first|omega|(simp only[ai];omega)) only[Gb,eI,aj,↓eA,eB,aq,seval];refine(ckl).then ?_
  simp(disch:=first|omega|(simp only[ai];omega)) only[dF uH,dT (show wI j.p j.t j.w l≠0 from uH),aj,↓eA,eB,aq,seval];simpa using same [] hp
end Go.Proofs.YtfgkgmmnldocaaaGreatDoor
