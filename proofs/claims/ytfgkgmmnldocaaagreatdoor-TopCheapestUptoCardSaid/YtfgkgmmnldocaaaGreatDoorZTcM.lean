/- TcM -/
import Derived.Test.YtfgkgmmnldocaaaGreatDoorZTcL
import Derived.Test.YtfgkgmmnldocaaaGreatDoorZTcC
import Derived.Test.YtfgkgmmnldocaaaGreatDoorZCmp1
import Derived.Shelf.SlSortCmp.WholeK
import Derived.Test.YtfgkgmmnldocaaaGreatDoorProg
import Derived.Test.YtfgkgmmnldocaaaGreatDoorZAlJ
set_option linter.unusedSectionVars false
set_option linter.unusedSimpArgs false
set_option linter.unusedVariables false
set_option maxRecDepth 100000
namespace Go.Proofs.YtfgkgmmnldocaaaGreatDoor
open Go Go.AL
variable[Go.AL.Mode][Go.AL.bR]
def Br(S:ae)(b c vb aI n k GS sz:Nat)(tb tc:TypeId)(row:List V)(rows:List (List V)):ae:=
 (S.set c ⟨aI+1,some (.arr tc sz (rows.take n))⟩).set b ⟨vb,some (.arr tb GS [row.set k (.cU c (aI+1) 0 n)])⟩
section
variable{ρ:AL.Place}{S:ae}{w:World}{b c vb aI n k GS sz:Nat}{tb tc:TypeId}{row:List V}{rows:List (List V)}
theorem Bq{dn:AL.Place}{S1:ae}(hi:Inv ρ S w)(kq:Inv dn S1 w)(hx:Ext ρ S w dn S1 w)(hρ:dn b=ρ b)(hb:S.bq b vb=some (tb,GS,[row]))(n_:S1.bq b vb=some (tb,GS,[row]))(hk:row[k]?=some (.cU c aI 0 n))
 (hv:∀u,VR ρ S w false (.cU c aI 0 n) u→VR dn S1 w false (.cU c (aI+1) 0 n) u):∃Zu,Inv Zu (S1.set b ⟨vb,some (.arr tb GS [row.set k (.cU c (aI+1) 0 n)])⟩) w∧Ext ρ S w Zu (S1.set b ⟨vb,some (.arr tb GS [row.set k (.cU c (aI+1) 0 n)])⟩) w:=by
 have hs:=df hb;have tu:=df n_;obtain⟨hlen,hr⟩:=kq.rows _ _ _ _ _ tu;have hlr:=hlen 0 row rfl;rcases hr with⟨_,h⟩|⟨g,db,cur,h1,h2,h3,h4,h5,h6⟩
 ·cases h
 obtain⟨anc,_,_,d3,_,_,d5⟩:=hi.obj hs (hρ.symm.trans h1);rw[h4]at d3;cases d3;have xn:D6 dn S1 w GS [row.set k (.cU c (aI+1) 0 n)] cur:=by
  refine⟨fun i r hr=>?_,fun i r hr j v hj=>?_⟩
  ·cases i with
   |zero=>cases hr;rw[fQ];exact hlr
   |succ i=>cases hr
  ·cases i with
   |succ i=>cases hr
   |zero=>
    cases hr;by_cases OZ:k=j
    ·subst OZ;rw[aT (List.getElem?_eq_some_iff.1 hk).1]at hj;cases hj;obtain⟨u,e1,e2,e3⟩:=d5 0 row rfl k _ hk;exact⟨u,e1,hv u e2,e3⟩
    ·rw[bB OZ]at hj;exact h6 0 row rfl j v hj
 obtain⟨k1,k2⟩:=mo (w':=w) (gS:=vb) (g':=g) (eU:=db) (bT:=[row.set k (.cU c (aI+1) 0 n)]) (cur:=cur) kq tu h1 (.inl ⟨rfl,rfl,fun _=>rfl⟩) (ah _) (ah _) rfl ⟨rfl,by first|exact ah _|exact az _⟩ rfl (fun _ _ _=>rfl) h4 h2 h3 h5 xn;exact⟨_,k1,hx.trans k2⟩
theorem trim(hi:Inv ρ S w)(hb:S.bq b vb=some (tb,GS,[row]))(hk:row[k]?=some (.cU c aI 0 n))(hc:S.bq c aI=some (tc,sz,rows))(WK:b≠c):
 ∃Zu,Inv Zu (Br S b c vb aI n k GS sz tb tc row rows) w∧Ext ρ S w Zu (Br S b c vb aI n k GS sz tb tc row rows) w:=by
 have hs:=df hb;have nA:=df hc;have dD:=gW hc;have n_:ae.bq (S.set c ⟨aI+1,some (.arr tc sz (rows.take n))⟩) b vb=some (tb,GS,[row]):=by rw[eX WK];exact hb
 obtain⟨_,hr⟩:=hi.rows _ _ _ _ _ hs;rcases hr with⟨_,h⟩|⟨g,db,cur,h1,h2,h3,h4,h5,h6⟩
 ·cases h
 obtain⟨u,_,hu,_⟩:=h6 0 row rfl k _ hk;obtain⟨hle,m2⟩:=hu.gY hc;unfold Br;rcases m2 with⟨m2,_,lQ,_⟩|⟨g0,acX,cap,m2,_,m3,m4,m5⟩|⟨m2,_⟩
 ·have lO:rows=[]:=by
   obtain⟨_,h4⟩:=hi.rows _ _ _ _ _ nA;rcases h4 with⟨_,h5⟩|⟨g,db,cur,h5,_⟩
   ·exact h5
   ·rw[m2]at h5;cases h5
  subst lO lQ;obtain⟨k1,k2⟩:=set_nil hi nA m2;exact Bq hi k1 k2 rfl hb n_ hk fun u hu=>by
   obtain⟨_,m3⟩:=hu.gY hc;rcases m3 with⟨_,rfl,_,_⟩|⟨g1,t1,c1,m3,_⟩|⟨m3,_⟩
   ·exact oL dD m2
   ·rw[m2]at m3;cases m3
   ·exact absurd m3 (Nat.lt_irrefl 0)
 ·obtain⟨ajx,d1,d2,d3,d4,d5⟩:=hi.obj nA m2;have gM:∀(i:Nat) (r:List V),(rows.take n)[i]?=some r→rows[i]?=some r:=by
   intro i r fv;rw[bC]at fv;split at fv
   ·exact fv
   ·cases fv
  obtain⟨k1,k2⟩:=mo (w':=w) (gS:=aI+1) (g':=g0) (eU:=acX) (bT:=rows.take n) (cur:=ajx) hi nA m2 (.inl ⟨rfl,rfl,fun hv=>by omega⟩) (by omega) (ah _) rfl ⟨rfl,by first|exact ah _|exact az _⟩ rfl (fun _ _ _=>rfl) d3 (by simp;omega) d2 d4
   ⟨fun i r hr=>d5.1 i r (gM i r hr),fun i r hr j y hj=>d5.2 i r (gM i r hr) j y hj⟩
  refine Bq hi k1 k2 (by unfold gJ;rw[aC WK]) hb n_ hk fun u hu=>?_;obtain⟨_,m6⟩:=hu.gY hc;rcases m6 with⟨m6,_⟩|⟨g1,t1,c1,m6,rfl,m7,m8,m9⟩|⟨m6,_⟩
  ·rw[m2]at m6;cases m6
  ·rw[m2]at m6;cases m6;simp only[ik,dv]at m7 m9⊢;exact pB (g:=g0) (db:=acX) (cap:=c1) dD (by unfold gJ;simp) (by rw[bV];omega) m8 m9
  ·exact absurd m6 (Nat.lt_irrefl 0)
 ·exact absurd m2 (Nat.lt_irrefl 0)
theorem ak.trim{P:Program}{f:FuncId}{args:List V}{R:V→ae→Prop}(hb:S.bq b vb=some (tb,GS,[row]))(hk:row[k]?=some (.cU c aI 0 n))(hc:S.bq c aI=some (tc,sz,rows))(WK:b≠c)
 (h:ak P f args (Br S b c vb aI n k GS sz tb tc row rows) R):ak P f args S R:=by
 refine⟨h.1,fun ρ w us hi hv=>?_⟩;obtain⟨Zu,k1,k2⟩:=Go.Proofs.YtfgkgmmnldocaaaGreatDoor.trim hi hb hk hc WK;refine(h.2 Zu w us k1 ⟨hv.1,fun j v hj=>?_⟩).mono fun en w' ⟨dn,S',r,u,h1,h2,h3,h4,h5⟩=>⟨dn,S',r,u,h1,h2,h3,k2.trans h4,h5⟩;obtain⟨u,hu,hr⟩:=hv.2 j v hj;exact⟨u,hu,hr.ext k2⟩
end
end Go.Proofs.YtfgkgmmnldocaaaGreatDoor
namespace Go.Proofs.YtfgkgmmnldocaaaGreatDoor
open Go Go.AL
variable[Go.AL.Mode]
abbrev Sp:={x:od//0≤x.dz∧x.dz<1000000}
def cfP(x y:Sp):Int:=x.val.dz-y.val.dz
theorem aam(x y:Sp)(S:ae):ak Tryz.prog 70 [.agg (e_ x.val),.agg (e_ y.val)] S fun r S'=>r= .int .i64 (cfP x y)∧S'=S:=by
 refine ak.bW Tryz.func70 abL (U rfl) fun σ b_=>?_;have hx:=x.2;have hy:=y.2;simp(disch:=omega) only[RW,e_,wrap_i64,aj,↓eA,eB,aq,seval];rfl
end Go.Proofs.YtfgkgmmnldocaaaGreatDoor
namespace Go.Proofs.YtfgkgmmnldocaaaGreatDoor
open Go Go.Shelf
def JR:Go.Shelf.Ren:=⟨fun|6=>69|15=>115|14=>114|28=>156|29=>157|20=>148|21=>149|22=>150|23=>151|24=>152|25=>153|26=>154|27=>155|46=>184|47=>185|48=>186|49=>187|50=>188|57=>211|n=>n,fun|22=>39|24=>38|25=>158|3=>3|39=>184|0=>0|53=>226|55=>166|4=>4|46=>220|45=>219|50=>153|5=>5|9=>9|66=>244|70=>248|76=>253|77=>140|n=>n,fun|n=>n⟩
theorem ac2:Go.Proofs.SlLaysF0.n6 Tryz.prog JR:={
 mixed:=by kernel_rfl
 f6:=⟨Tryz.f69.name,by decide,Tryz.func69.trans (congrArg some (by kernel_rfl))⟩
 f14:=⟨Tryz.f114.name,by decide,Tryz.func114.trans (congrArg some (by kernel_rfl))⟩
 f15:=Tryz.func115.trans (congrArg some (by kernel_rfl))
 f20:=⟨Tryz.f148.name,by decide,Tryz.func148.trans (congrArg some (by kernel_rfl))⟩
 f21:=⟨Tryz.f149.name,by decide,Tryz.func149.trans (congrArg some (by kernel_rfl))⟩
 f22:=⟨Tryz.f150.name,by decide,Tryz.func150.trans (congrArg some (by kernel_rfl))⟩
 f23:=⟨Tryz.f151.name,by decide,Tryz.func151.trans (congrArg some (by kernel_rfl))⟩
 f24:=⟨Tryz.f152.name,by decide,Tryz.func152.trans (congrArg some (by kernel_rfl))⟩
 f25:=⟨Tryz.f153.name,by decide,Tryz.func153.trans (congrArg some (by kernel_rfl))⟩
 f26:=⟨Tryz.f154.name,by decide,Tryz.func154.trans (congrArg some (by kernel_rfl))⟩
 f27:=⟨Tryz.f155.name,by decide,Tryz.func155.trans (congrArg some (by kernel_rfl))⟩
 f28:=Tryz.func156.trans (congrArg some (by kernel_rfl))
 f29:=Tryz.func157.trans (congrArg some (by kernel_rfl))
 f46:=⟨Tryz.f184.name,by decide,Tryz.func184.trans (congrArg some (by kernel_rfl))⟩
 f47:=Tryz.func185.trans (congrArg some (by kernel_rfl))
 f48:=Tryz.func186.trans (congrArg some (by kernel_rfl))
 f49:=⟨Tryz.f187.name,by decide,Tryz.func187.trans (congrArg some (by kernel_rfl))⟩
 f50:=⟨Tryz.f188.name,by decide,Tryz.func188.trans (congrArg some (by kernel_rfl))⟩
 f57:=⟨Tryz.f211.name,by decide,Tryz.func211.trans (congrArg some (by kernel_rfl))⟩
 t0:=Tryz.underlying0
 a0:=Tryz.isAgg0
 z0:=Tryz.sizeOf0
 v0:=Tryz.zeroValue0
 t3:=Tryz.underlying3
 a3:=Tryz.isAgg3
 z3:=Tryz.sizeOf3
 v3:=Tryz.zeroValue3
 t4:=Tryz.underlying4
 a4:=Tryz.isAgg4
 z4:=Tryz.sizeOf4
 v4:=Tryz.zeroValue4
 t5:=Tryz.underlying5
 a5:=Tryz.isAgg5
 z5:=Tryz.sizeOf5
 v5:=Tryz.zeroValue5
 t9:=Tryz.underlying9
 a9:=Tryz.isAgg9
 z9:=Tryz.sizeOf9
 v9:=Tryz.zeroValue9
 t22:=Tryz.underlying39
 a22:=Tryz.isAgg39
 z22:=Tryz.sizeOf39
 v22:=Tryz.zeroValue39
 t25:=Tryz.underlying158
 a25:=Tryz.isAgg158
 z25:=Tryz.sizeOf158
 v25:=Tryz.zeroValue158
 t39:=Tryz.underlying184
 a39:=Tryz.isAgg184
 z39:=Tryz.sizeOf184
 v39:=Tryz.zeroValue184
 t45:=Tryz.underlying219
 a45:=Tryz.isAgg219
 z45:=Tryz.sizeOf219
 v45:=Tryz.zeroValue219
 t46:=Tryz.underlying220
 a46:=Tryz.isAgg220
 z46:=Tryz.sizeOf220
 v46:=Tryz.zeroValue220
 t50:=Tryz.underlying153
 a50:=Tryz.isAgg153
 z50:=Tryz.sizeOf153
 v50:=Tryz.zeroValue153
 t53:=Tryz.underlying226
 a53:=Tryz.isAgg226
 z53:=Tryz.sizeOf226
 v53:=Tryz.zeroValue226
 t55:=Tryz.underlying166
 a55:=Tryz.isAgg166
 z55:=Tryz.sizeOf166
 v55:=Tryz.zeroValue166
 t66:=Tryz.underlying244
 a66:=Tryz.isAgg244
 z66:=Tryz.sizeOf244
 v66:=Tryz.zeroValue244
 t70:=Tryz.underlying248
 a70:=Tryz.isAgg248
 z70:=Tryz.sizeOf248
 v70:=Tryz.zeroValue248
 t76:=Tryz.underlying253
 a76:=Tryz.isAgg253
 z76:=Tryz.sizeOf253
 v76:=Tryz.zeroValue253
 t77:=Tryz.underlying140
 a77:=Tryz.isAgg140
 z77:=Tryz.sizeOf140
 v77:=Tryz.zeroValue140}
end Go.Proofs.YtfgkgmmnldocaaaGreatDoor
namespace Go.Proofs.YtfgkgmmnldocaaaGreatDoor
open Go Go.AL Go.Sort
variable[Go.AL.Mode][Go.AL.bR]
theorem ahn:SWO (ltOf cfP) where
 irrefl x:=by unfold ltOf cfP;simp
 trans x y z h k:=by unfold ltOf cfP at*;simp only[aL]at*;omega
 ntrans x y z h k:=by unfold ltOf cfP at*;simp only[rN]at*;omega
theorem N8(S:ae):ak Tryz.prog 157 [.int .u64 0] S fun r S'=>r= .int .i64 0∧S'=S:=by
 refine ak.bW Tryz.func157 abA (U rfl) fun σ b_=>?_;simp(disch:=omega) only[RK,wrap_u64,wrap_u8,wrap_i64,aj,↓eA,eB,aq,seval]
theorem aan(S:ae):ak Tryz.prog 115 [.int .u64 0] S fun r S'=>r= .int .i64 0∧S'=S:=by
 refine ak.bW Tryz.func115 abF (U rfl) fun σ b_=>?_;simp(disch:=omega) only[RT,aj,↓eA,eB,aq,seval];refine(N8 S).then ?_
 simp(disch:=omega) only[aj,↓eA,eB,aq,seval]
theorem aar(g:FuncId)(S:ae):ak Tryz.prog 148 [.aM,.int .i64 0,.int .i64 0,.func g [] []] S fun r S'=>r= .dI []∧S'=S:=by
 refine ak.bW Tryz.func148 abB (U rfl) fun σ b_=>?_;simp(disch:=omega) only[RL,wrap_i64,aj,↓eA,eB,aq,seval];refine cH (ι:=Unit) (fun _=>[(2,.int .i64 0),(8,.int .i64 1)]) (fun _=>S) (fun _=>True) (fun _=>0) () trivial ?_ rfl ?_
 ·simp only[↓eA,eB,aq,seval];try rfl
 ·rintro _ _;simp(disch:=omega) only[wrap_i64,aj,↓eA,eB,aq,seval]
theorem Z8(g:FuncId)(S:ae):ak Tryz.prog 114 [.aM,.int .i64 0,.int .i64 0,.int .i64 0,.func g [] []] S fun r S'=>r= .dI []∧S'=S:=by
 refine ak.bW Tryz.func114 abG (U rfl) fun σ b_=>?_;simp(disch:=omega) only[RU,wrap_i64,aj,↓eA,eB,aq,seval];refine cH (ι:=Unit) (fun _=>[(0,.aM),(1,.int .i64 0),(2,.int .i64 0),(4,.func g [] [])]) (fun _=>S) (fun _=>True) (fun _=>0) () trivial ?_ rfl ?_
 ·simp only[↓eA,eB,aq,seval];try rfl
 ·rintro _ _;simp(disch:=omega) only[wrap_i64,aj,↓eA,eB,aq,seval];refine(aar g S).then ?_
  simp(disch:=omega) only[wrap_i64,aj,↓eA,eB,aq,seval]
theorem JQ(g:FuncId)(S:ae):ak Tryz.prog 69 [.aM,.func g [] []] S fun r S'=>r= .dI []∧S'=S:=by
 refine ak.bW Tryz.func69 abM (U rfl) fun σ b_=>?_;simp(disch:=omega) only[RX,wrap_u64,aj,↓eA,eB,aq,seval];refine(aan S).then ?_
 simp(disch:=omega) only[aj,↓eA,eB,aq,seval];refine(Z8 g S).then ?_
 simp(disch:=omega) only[aj,↓eA,eB,aq,seval]
def Zv:Sp:=⟨⟨0,0,0⟩,by simp⟩
def acT:List Value:=[.int .i64 0,.int .i64 0,.int .i64 0,.int .i64 0]
theorem Zw(ρ:AL.Place)(S:ae)(w:World):A9 ρ S w (e_ Zv.val) acT:=⟨rfl,fun j v hj=>by
 match j,hj with
 |0,hj=>simp[e_,Zv]at hj;subst hj;exact⟨_,rfl,.int,rfl⟩
 |1,hj=>simp[e_,Zv]at hj;subst hj;exact⟨_,rfl,.int,rfl⟩
 |2,hj=>simp[e_,Zv]at hj;subst hj;exact⟨_,rfl,.int,rfl⟩
 |3,hj=>simp[e_,Zv]at hj;subst hj;exact⟨_,rfl,.int,rfl⟩
 |j+4,hj=>simp[e_,Zv]at hj⟩
theorem Tb(l:List od)(hr:∀x∈l,0≤x.dz∧x.dz<1000000)(S:ae)(id aI:Nat)(hl:l.length≤1000000)(hs:S.bq id aI=some (38,4,l.map e_)):
 ak Tryz.prog 69 [.cU id aI 0 l.length,.func 70 [] []] S fun r S'=>r= .dI []∧∃l':List od,l'.Perm l∧S'=S.set id ⟨aI,some (.arr 38 4 (l'.map e_))⟩:=by
 obtain⟨L,rfl⟩:∃L:List Sp,l=L.map (·.val):=⟨l.attach.map fun x=>⟨x.1,hr x.1 x.2⟩,by simp⟩;rw[aP]at hl⊢;rw[fP]at hs;refine(ac3 ac2 (sz:=4) (by decide) (fun w=>Tryz.isAgg38 w) (fun w=>Tryz.sizeOf38 w) (e_∘fun x:Sp=>x.val) (fun _=>rfl) (fun _=>rfl) Zv acT Zw cfP ahn 70 (fun x y S=>@aam (Go.AL.Mode.tight inferInstance) x y S) ⟨Tryz.f69,Tryz.func69,by kernel_rfl,by kernel_rfl⟩ (fun S=>JQ _ S) L S id aI hl hs).mono ?_;rintro r S' ⟨h1,l',h2,h3,h4⟩;exact⟨h1,l'.map (·.val),h2.map _,by rw[h4,fP];rfl⟩
end Go.Proofs.YtfgkgmmnldocaaaGreatDoor
