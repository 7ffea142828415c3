/- Tp3 -/
import Derived.WalkKit
import Derived.Lib.SmallJoins
import Derived.Test.YtfgkgmmnldocaaaGreatDoorZCmpC
import Derived.Test.YtfgkgmmnldocaaaGreatDoorZAlJ
import Derived.Test.YtfgkgmmnldocaaaGreatDoorZAl9
import Derived.Below
import Derived.Test.YtfgkgmmnldocaaaGreatDoorZAlF
import Derived.CallsIn
import Derived.RangeFuncBox
import Derived.RangeFuncNested
import Derived.RangeFuncLeaves
import Derived.Shelf.Abstract
import Derived.OwnWalkIn
import Derived.TacticsInMore
import Derived.LoopNIn
import Derived.LoopIn
import Derived.Maps.AppendAt
set_option linter.unusedSectionVars false
set_option linter.unusedSimpArgs false
set_option linter.unusedVariables false
namespace Go.Proofs.YtfgkgmmnldocaaaGreatDoor
open Go Go.AL
variable[Go.AL.Mode][Go.AL.bR]
namespace Pe
theorem dT{p:Prop}[Decidable p](h:p):decide p=true:=decide_eq_true h
theorem dF{p:Prop}[Decidable p](h:¬p):decide p=false:=decide_eq_false h
end Pe
theorem Fg(w:World)(hc:w.cell? ⟨0,0,none⟩=some (.int .i64 31)):Calls Tryz.prog 91 #[.int .i64 2026,.int .i64 1] w fun e w'=>e= .returned (.int .i64 31)∧w'=w:=by
 go_enter Tryz.func91,Tryz.ntmps91
 go_wp2
 all_goals first
  |(go_ret;exact⟨rfl,rfl⟩)
  |(exfalso;simp_all)
theorem N6(S:ae):ak Tryz.prog 91 [.int .i64 2026,.int .i64 1] S fun r S'=>r= .int .i64 31∧S'=S:=by
 refine⟨⟨_,Tryz.func91,by kernel_rfl,by kernel_rfl⟩,fun ρ w us hi hv=>?_⟩;obtain⟨u,x,rfl,hu,hx⟩:=hv.two;cases hu;cases hx;obtain⟨_,t,fr,hh⟩:=hi.SS _ (List.mem_cons_self ..);have hh':w.heap[0]?=_:=hh;have hl:w.cell? ⟨0,0,none⟩=some (.int .i64 31):=by
  simp only[World.cell?,hh'];rfl
 refine(Fg w hl).mono fun en w' ⟨he,hw⟩=>?_;subst hw;exact⟨ρ,S,_,_,he,.int,hi,AL.Ext.refl _ _ _,rfl,rfl⟩
theorem AD(y v:Int)(h0:2000≤y)(h1:y≤2100)(hv:v=365*(y-2000)+(y-2000+3)/4)(S:ae):ak Tryz.prog 90 [.int .i64 y] S fun r S'=>r= .int .i64 v∧S'=S:=by
 refine ak.bW Tryz.func90 aeV (Nat.le_of_ble_eq_true rfl) fun σ b_=>?_;have e4:(y-2000+3).tdiv 4=(y-2000+3)/4:=Int.tdiv_eq_ediv_of_nonneg (by omega);simp(disch:=omega) only[X2,e4,wrap_i64,aj,↓eA,eB,aq,seval];omega
set_option maxRecDepth 10000 in
theorem abe(S:ae):ak Tryz.prog 48 [.int .i64 9497] S fun r S'=>r= .dI [.int .i64 2026,.int .i64 1,.int .i64 1]∧S'=S:=by
 refine ak.bW Tryz.func48 aeY (Nat.le_of_ble_eq_true rfl) fun σ b_=>?_;have aju:(9497:Int).tdiv 366=25:=by decide
 simp(disch:=omega) only[X6,aju,wrap_i64,aj,↓eA,eB,aq,seval];refine cH (ι:=Bool) (fun q=>[(0,.int .i64 9497),(5,.int .i64 (if q=true then 2026 else 2025))]) (fun _=>S) (fun _=>True) (fun q=>if q=true then 0 else 1) false trivial ?_ rfl ?_
 ·simp only[↓eA,eB,aq,seval];try rfl
 intro q _;cases q
 ·simp(disch:=omega) only[Bool.false_eq_true,if_false,wrap_i64,aj,↓eA,eB,aq,seval];refine(AD 2026 9497 (by decide) (by decide) (by decide) S).then ?_
  simp(disch:=omega) only[wrap_i64,aj,↓eA,eB,aq,seval];refine⟨true,by decide,?_⟩;first|rfl|exact⟨rfl,rfl⟩|exact⟨rfl,rfl,rfl⟩|simp
 ·simp(disch:=omega) only[if_true,wrap_i64,aj,↓eA,eB,aq,seval];refine(AD 2027 9862 (by decide) (by decide) (by decide) S).then ?_
  simp(disch:=omega) only[wrap_i64,aj,↓eA,eB,aq,seval];refine(AD 2026 9497 (by decide) (by decide) (by decide) S).then ?_
  simp(disch:=omega) only[wrap_i64,aj,↓eA,eB,aq,seval];refine cH (ι:=Unit) (fun q=>[(5,.int .i64 2026),(6,.int .i64 0),(29,.int .i64 0)]) (fun _=>S) (fun _=>True) (fun q=>0) () trivial ?_ rfl ?_
  ·simp only[↓eA,eB,aq,seval];try rfl
  intro q _;simp(disch:=omega) only[wrap_i64,aj,↓eA,eB,aq,seval];refine(N6 S).then ?_
  simp(disch:=omega) only[wrap_i64,aj,↓eA,eB,aq,seval]
def kb(n:Nat):List UInt8:=[UInt8.ofNat (48+n/10),UInt8.ofNat (48+n%10)]
theorem GO(n:Nat)(hn:n<1000000)(S:ae):ak Tryz.prog 49 [.int .i64 n] S fun r S'=>r= .str (kb n)∧S'=S:=by
 refine ak.bW Tryz.func49 aeX (Nat.le_of_ble_eq_true rfl) fun σ b_=>?_;have e1:(n:Int).tdiv 10=((n/10:Nat):Int):=by rw[Int.tdiv_eq_ediv_of_nonneg (by omega)];omega
 have e2:(n:Int).tmod 10=((n%10:Nat):Int):=by rw[Int.tmod_eq_emod_of_nonneg (by omega)];omega
 have u:∀a:Nat,IntKind.u8.wrap (48+(a:Int))=(((UInt8.ofNat (48+a)).toNat:Nat):Int):=fun a=>by
  simp only[IntKind.wrap,IntKind.signed,IntKind.bits,UInt8.toNat_ofNat'];simp
 have hb:AQ S (.sl 1 [[.int .u8 (IntKind.u8.wrap (48+(n/10:Nat)))],[.int .u8 (IntKind.u8.wrap (48+(n%10:Nat)))]])=some (.str (kb n)):=by
  rw[u,u];exact F6 (l:=kb n)
 simp(disch:=omega) only[X4,e1,e2,hb,wrap_i64,aj,↓eA,eB,aq,seval]
set_option maxRecDepth 10000 in
theorem Ty(S:ae):ak Tryz.prog 16 [.int .i64 9497] S fun r S'=>r= .str [50,48,50,54,45,48,49,45,48,49]∧S'=S:=by
 refine ak.bW Tryz.func16 ae0 (Nat.le_of_ble_eq_true rfl) fun σ b_=>?_;have e1:(2026:Int).tdiv 100=20:=by decide
 have e2:(2026:Int).tmod 100=26:=by decide
 simp(disch:=omega) only[X8,aj,↓eA,eB,aq,seval];refine(abe S).then ?_
 simp(disch:=omega) only[e1,aj,↓eA,eB,aq,seval];refine(GO 20 (by decide) S).then ?_
 simp(disch:=omega) only[e2,aj,↓eA,eB,aq,seval];refine(GO 26 (by decide) S).then ?_
 have b1:dW .add (.str (kb 20)) (.str (kb 26))=some (.str (kb 20++kb 26)):=kJ (Nat.le_of_ble_eq_true rfl);have b2:dW .add (.str (kb 20++kb 26)) (.str [45])=some (.str (kb 20++kb 26++[45])):=kJ (Nat.le_of_ble_eq_true rfl);have b3:dW .add (.str (kb 20++kb 26++[45])) (.str (kb 1))=some (.str (kb 20++kb 26++[45]++kb 1)):=kJ (Nat.le_of_ble_eq_true rfl);have b4:dW .add (.str (kb 20++kb 26++[45]++kb 1)) (.str [45])=some (.str (kb 20++kb 26++[45]++kb 1++[45])):=kJ (Nat.le_of_ble_eq_true rfl);have b5:dW .add (.str (kb 20++kb 26++[45]++kb 1++[45])) (.str (kb 1))=some (.str [50,48,50,54,45,48,49,45,48,49]):=kJ (Nat.le_of_ble_eq_true rfl);simp(disch:=omega) only[b1,b2,aj,↓eA,eB,aq,seval];refine(GO 1 (by decide) S).then ?_
 simp(disch:=omega) only[b3,b4,aj,↓eA,eB,aq,seval];refine(GO 1 (by decide) S).then ?_
 simp(disch:=omega) only[b5,aj,↓eA,eB,aq,seval]
theorem Lz(S:ae):ak Tryz.prog 18 [.agg [.int .i64 60,.aM],.int .i64 5] S fun r S'=>r= .int .i64 65∧S'=S:=by
 have of:ak Tryz.prog 51 [.agg [.int .i64 60,.aM],.int .i64 5] S fun r S'=>r= .int .i64 60∧S'=S:=by
  refine ak.bW Tryz.func51 aeW (Nat.le_of_ble_eq_true rfl) fun σ b_=>?_;simp(disch:=omega) only[X3,aj,↓eA,eB,aq,seval];refine cH (ι:=Unit) (fun _=>[(5,.int .i64 60),(12,.int .i64 0),(13,.int .i64 0)]) (fun _=>S) (fun _=>True) (fun _=>0) () trivial ?_ rfl ?_
  ·simp only[↓eA,eB,aq,seval];try rfl
  intro q _;simp(disch:=omega) only[wrap_i64,aj,↓eA,eB,aq,seval]
 refine ak.bW Tryz.func18 aeZ (Nat.le_of_ble_eq_true rfl) fun σ b_=>?_;simp(disch:=omega) only[X7,aj,↓eA,eB,aq,seval];refine of.then ?_
 simp(disch:=omega) only[wrap_i64,aj,↓eA,eB,aq,seval]
end Go.Proofs.YtfgkgmmnldocaaaGreatDoor
namespace Go.Proofs.YtfgkgmmnldocaaaGreatDoor
open Go Go.AL
variable[Go.AL.Mode][Go.AL.bR]
namespace Pe
structure Pd where
 f:Int
 t:Int
 d:Int
def nI(p:Pd):List V:=[.int .i64 p.f,.int .i64 p.t,.int .i64 p.d]
def tW(p:Pd):Int:=if p.f<0∨p.t<p.f∨36525≤p.t then 12 else if 800≤p.t-p.f then 4 else if p.d<1∨127<p.d then 2 else 0
def iN(d:Int):Nat:=((d%7+12)%7).toNat
def Ca(ds d:Int):Bool:=decide (ds/2^iN d%2=1)
def mD(p:Pd):List Int:=if tW p=0 then((List.range (p.t-p.f+1).toNat).map fun k=>p.f+(k:Nat)).filter (Ca p.d)else []
theorem GQ(d:Int):((d.tmod 7)+12).tmod 7=((iN d:Nat):Int)∧-6≤d.tmod 7∧d.tmod 7≤6:=by
 have h1:d.tmod 7=d%7∨d.tmod 7=d%7-7:=by
  rcases Int.le_total 0 d with h|h
  ·exact .inl (Int.tmod_eq_emod_of_nonneg h)
  ·have e:d= -(-d):=by omega
   have h2:d.tmod 7= -((-d).tmod 7):=by conv=>lhs;rw[e,Int.neg_tmod]
   have h3:(-d).tmod 7=(-d)%7:=Int.tmod_eq_emod_of_nonneg (by omega);omega
 have h0: -6≤d.tmod 7∧d.tmod 7≤6:=by
  rcases Int.le_total 0 d with h|h
  ·have:d.tmod 7=d%7:=Int.tmod_eq_emod_of_nonneg h;omega
  ·have e:d= -(-d):=by omega
   have h2:d.tmod 7= -((-d).tmod 7):=by conv=>lhs;rw[e,Int.neg_tmod]
   have h3:(-d).tmod 7=(-d)%7:=Int.tmod_eq_emod_of_nonneg (by omega);omega
 refine⟨?_,h0⟩;rw[Int.tmod_eq_emod_of_nonneg (by omega)];unfold iN;omega
theorem mh(d:Int):iN d<7:=by unfold iN;omega
theorem pg(d:Int)(S:ae):ak Tryz.prog 134 [.int .i64 d] S fun r S'=>r= .int .i64 (iN d:Nat)∧S'=S:=by
 obtain⟨h1,h2,h3⟩:=GQ d;refine ak.bW Tryz.func134 aeS (Nat.le_of_ble_eq_true rfl) fun σ b_=>?_;have:=mh d;simp(disch:=omega) only[XY,wrap_i64,h1,↓eA,eB,aq,seval]
theorem AK(p:Pd)(S:ae):ak Tryz.prog 93 [.agg (nI p)] S fun r S'=>r= .int .i64 (tW p)∧S'=S:=by
 refine ak.bW Tryz.func93 aeU (Nat.le_of_ble_eq_true rfl) fun σ b_=>?_;unfold tW;by_cases h1:p.f<0
 ·simp only[tR,nI,dT h1,h1,true_or,if_true,aj,↓eA,eB,aq,seval]
 by_cases h2:p.t<p.f
 ·simp only[tR,nI,dF h1,dT h2,h1,h2,true_or,or_true,if_true,aj,↓eA,eB,aq,seval]
 by_cases h3:36525≤p.t
 ·simp only[tR,nI,dF h1,dF h2,dT h3,h1,h2,h3,true_or,or_true,if_true,aj,↓eA,eB,aq,seval]
 by_cases h4:800≤p.t-p.f
 ·simp(disch:=omega) only[tR,nI,dF h1,dF h2,dF h3,dT h4,h1,h2,h3,h4,wrap_i64,or_self,if_false,if_true,aj,↓eA,eB,aq,seval]
 by_cases h5:p.d<1
 ·simp(disch:=omega) only[tR,nI,dF h1,dF h2,dF h3,dF h4,dT h5,h1,h2,h3,h4,h5,wrap_i64,or_self,true_or,if_false,if_true,aj,↓eA,eB,aq,seval]
 by_cases h6:127<p.d
 ·simp(disch:=omega) only[tR,nI,dF h1,dF h2,dF h3,dF h4,dF h5,dT h6,h1,h2,h3,h4,h5,h6,wrap_i64,or_self,or_true,if_false,if_true,aj,↓eA,eB,aq,seval]
 simp(disch:=omega) only[tR,nI,dF h1,dF h2,dF h3,dF h4,dF h5,dF h6,h1,h2,h3,h4,h5,h6,wrap_i64,or_self,if_false,aj,↓eA,eB,aq,seval]
theorem yb{p:Pd}(h:tW p=0):0≤p.f∧p.f≤p.t∧p.t<36525∧p.t-p.f<800∧1≤p.d∧p.d≤127:=by
 unfold tW at h;split at h
 ·cases h
 ·split at h
  ·cases h
  ·split at h
   ·cases h
   ·omega
theorem Aa:∀m:Nat,m<128→IntKind.i64.wrap ((BitVec.ofInt IntKind.i64.bits (m:Int)&&&BitVec.ofInt IntKind.i64.bits 1).toNat:Nat)=(m:Int)%2:=by decide+kernel
theorem Mk(d:Int){k:Nat}(hk:k<7):jL false .i64 d (k:Nat)=some (.int .i64 (d/2^k)):=by
 have e:min ((k:Int).toNat) IntKind.i64.bits=k:=by
  have:IntKind.i64.bits=64:=rfl;rw[this];omega
 unfold jL;rw[if_pos (by omega),e,Int.fdiv_eq_ediv_of_nonneg _ (Int.pow_nonneg (by decide))];rfl
theorem ly{d:Int}(h0:0≤d)(h1:d≤127)(k:Nat):0≤d/2^k∧d/2^k≤127:=by
 have hp:(0:Int)<2^k:=Int.pow_pos (by decide);refine⟨Int.ediv_nonneg h0 (by omega),?_⟩;have:=Int.ediv_le_self (2^k) h0;omega
theorem aac(d:Int)(h0:1≤d)(h1:d≤127)(day:Int)(S:ae):ak Tryz.prog 94 [.int .i64 d,.int .i64 day] S fun r S'=>r= .bool (Ca d day)∧S'=S:=by
 refine ak.bW Tryz.func94 aeT (Nat.le_of_ble_eq_true rfl) fun σ b_=>?_;simp only[XZ,↓eA,eB,aq,seval];refine(pg day S).then ?_
 obtain⟨m,hm⟩:=Int.eq_ofNat_of_zero_le (ly (by omega) h1 (iN day)).1;have hb:=Aa m (by have:=(ly (by omega:0≤d) h1 (iN day)).2;omega);simp(disch:=omega) only[Mk d (mh day),hm,hb,↓eA,eB,aq,seval];simp only[Ca,hm,and_self]
theorem CC{W:World}(ht:iI cI [] W):Inv cI [] W:=
 ⟨fun id aI e sz rows hs=>by simp at hs,fun i j o p c d g x y ho=>by simp at ho,fun id aI rows hs=>by simp at hs,ht⟩
theorem yS{W W':World}{dn:AL.Place}{S':ae}(hx:Ext cI [] W dn S' W'):W.grownBy W' none:=
 ⟨hx.os,hx.tape.1,hx.output,hx.size,fun k hk _=>(hx.un k (mj hk)).2⟩
theorem u_{j6:Nat}{W W':World}(h:iI cI [] W)(hn:∀p∈Em,p.1<j6)(hb:RowKit.Below j6 W W'):iI cI [] W':=fun p hp=>by
 obtain⟨h1,t,fr,h2⟩:=h p hp;exact⟨⟨Nat.lt_of_lt_of_le h1.1 hb.size,fun id o c g' db ho=>by simp at ho⟩,t,fr,(hb.block p.1 (hn p hp)).trans h2⟩
theorem L5{ρ:AL.Place}{S:ae}{W:World}(h:iI ρ S W):∀p∈Em,p.1<W.heap.size:=fun p hp=>(h p hp).1.1
theorem L4{ρ:AL.Place}{S:ae}{W:World}(h:iI ρ S W):iI cI [] W:=fun p hp=>⟨mj (h p hp).1.1,(h p hp).2⟩
theorem Hu{f:FuncId}{vs:List V}{us:Array Value}{m:Int}{k:Nat}(h:ak Tryz.prog f vs [] fun r S'=>r= .int .i64 m∧S'=[])(W:World)(ht:iI cI [] W)(hv:D5 cI [] W vs us):
 CallsIn Fence.wide k Tryz.prog f us W fun e W'=>e= .returned (.int .i64 m)∧W.grownBy W' none:=by
 refine callsIn_wide.2 ((h.2 cI W us (CC ht) hv).mono ?_);rintro en w' ⟨dn,S',r,u,rfl,hr,_,hx,rfl,rfl⟩;cases hr;exact⟨rfl,yS hx⟩
theorem M3{f:FuncId}{vs:List V}{us:Array Value}{m:Bool}{k:Nat}(h:ak Tryz.prog f vs [] fun r S'=>r= .bool m∧S'=[])(W:World)(ht:iI cI [] W)(hv:D5 cI [] W vs us):
 CallsIn Fence.wide k Tryz.prog f us W fun e W'=>e= .returned (.bool m)∧W.grownBy W' none:=by
 refine callsIn_wide.2 ((h.2 cI W us (CC ht) hv).mono ?_);rintro en w' ⟨dn,S',r,u,rfl,hr,_,hx,rfl,rfl⟩;cases hr;exact⟨rfl,yS hx⟩
def pdU(p:Pd):Value:=.agg #[.int .i64 p.f,.int .i64 p.t,.int .i64 p.d]
theorem Z9(p:Pd){ρ:AL.Place}{S:ae}{W:World}{b:Bool}:VR ρ S W b (.agg (nI p)) (pdU p):=by
 refine VR.agg (fun i=>match i with|0=>.int .i64 p.f|1=>.int .i64 p.t|_=>.int .i64 p.d) rfl (fun i v hv=>?_) (fun i v hv=>?_)
 ·match i,hv with
  |0,hv=>rfl
  |1,hv=>rfl
  |2,hv=>rfl
 ·match i,hv with
  |0,hv=>cases hv;exact .int
  |1,hv=>cases hv;exact .int
  |2,hv=>cases hv;exact .int
theorem PR(p:Pd)(k:Nat)(W:World)(ht:iI cI [] W):CallsIn Fence.wide k Tryz.prog 93 #[.agg #[.int .i64 p.f,.int .i64 p.t,.int .i64 p.d]] W fun e W'=>e= .returned (.int .i64 (tW p))∧W.grownBy W' none:=
 Hu (AK p []) W ht ⟨rfl,fun i v hv=>match i,hv with
  |0,hv=>by cases hv;exact⟨_,rfl,Z9 p⟩⟩
theorem adp(d day:Int)(h0:1≤d)(h1:d≤127)(k:Nat)(W:World)(ht:iI cI [] W):CallsIn Fence.wide k Tryz.prog 94 #[.int .i64 d,.int .i64 day] W fun e W'=>e= .returned (.bool (Ca d day))∧W.grownBy W' none:=
 M3 (aac d h0 h1 day []) W ht ⟨rfl,fun i v hv=>match i,hv with
  |0,hv=>by cases hv;exact⟨_,rfl,.int⟩
  |1,hv=>by cases hv;exact⟨_,rfl,.int⟩⟩
theorem Ej(day:Int)(k:Nat)(W:World)(ht:iI cI [] W):CallsIn Fence.wide k Tryz.prog 134 #[.int .i64 day] W fun e W'=>e= .returned (.int .i64 (iN day:Nat))∧W.grownBy W' none:=
 Hu (pg day []) W ht ⟨rfl,fun i v hv=>match i,hv with
  |0,hv=>by cases hv;exact⟨_,rfl,.int⟩⟩
def iZ(p:Pd)(k:Nat):List Int:=((List.range k).map fun i=>p.f+(i:Nat)).filter (Ca p.d)
theorem mC(p:Pd)(k:Nat):iZ p (k+1)=if Ca p.d (p.f+(k:Nat))then iZ p k++[p.f+(k:Nat)]else iZ p k:=by
 unfold iZ;rw[List.range_succ,List.map_append,List.filter_append];by_cases h:Ca p.d (p.f+(k:Nat))=true
 ·simp[h]
 ·simp[h]
theorem wo{p:Pd}(h:tW p=0):mD p=iZ p (p.t-p.f+1).toNat:=by unfold mD iZ;rw[if_pos h]
theorem FW(p:Pd)(k:Nat):(iZ p k).length≤k:=by
 unfold iZ;exact Nat.le_trans (List.length_filter_le _ _) (by simp)
theorem DC(p:Pd){j k:Nat}(h:j≤k):(iZ p j).length≤(iZ p k).length:=by
 induction k with
 |zero=>obtain rfl:j=0:=by omega
        exact Nat.le_refl _
 |succ k ih=>
  by_cases e:j=k+1
  ·rw[e];exact Nat.le_refl _
  ·refine Nat.le_trans (ih (by omega)) ?_;rw[mC];split<;>simp
theorem KQ(p:Pd){k K:Nat}(h:k<K)(ho:Ca p.d (p.f+(k:Nat))=true):(iZ p k).length<(iZ p K).length:=by
 have:=DC p (j:=k+1) (k:=K) h;rw[mC,if_pos ho]at this;simp at this;omega
end Pe
end Go.Proofs.YtfgkgmmnldocaaaGreatDoor
namespace Go.Proofs.YtfgkgmmnldocaaaGreatDoor
open Go Go.RowKit Go.Shelf
namespace Pe
variable[Go.AL.Mode][Go.AL.bR]
attribute [local go_sem] Oper.semAt_some
structure Leaves(F:Fence):Prop where
 r:F.round=none
 f1:F.fn 93
 f2:F.fn 94
 f3:F.fn 92
 f4:F.fn 50
 f5:F.fn 17
 f7:F.fn 134
 chk:∀(p:Pd) (k:Nat) (W:World),AL.iI AL.cI [] W→CallsIn F k Tryz.prog 93 #[.agg #[.int .i64 p.f,.int .i64 p.t,.int .i64 p.d]] W fun e W'=>e= .returned (.int .i64 (tW p))∧W.grownBy W' none
 on:∀(d day:Int) (h0:1≤d) (h1:d≤127) (k:Nat) (W:World),AL.iI AL.cI [] W→CallsIn F k Tryz.prog 94 #[.int .i64 d,.int .i64 day] W fun e W'=>e= .returned (.bool (Ca d day))∧W.grownBy W' none
 wd:∀(day:Int) (k:Nat) (W:World),AL.iI AL.cI [] W→CallsIn F k Tryz.prog 134 #[.int .i64 day] W fun e W'=>e= .returned (.int .i64 (iN day:Nat))∧W.grownBy W' none
theorem leaves:Leaves Fence.wide:=⟨rfl,trivial,trivial,trivial,trivial,trivial,trivial,PR,adp,Ej⟩
theorem Da{j6:Nat}{W W':World}(h:W.grownBy W' none)(hn:j6≤W.heap.size):Below j6 W W':=⟨h.os,h.tape,h.output,h.size,fun k hk=>h.block k (by omega) (fun e=>by cases e)⟩
def Jp(j6 Bn:Nat)(A B:World):Prop:=Below j6 A B∧B.heap[Bn]?=A.heap[Bn]?
theorem Jp.trans{j6 Bn:Nat}{A B C:World}(h:Jp j6 Bn A B)(k:Jp j6 Bn B C):Jp j6 Bn A C:=⟨h.1.trans k.1,k.2.trans h.2⟩
theorem Jp.refl{j6 Bn:Nat}{A:World}:Jp j6 Bn A A:=⟨Below.refl _ _,rfl⟩
theorem C_{j6 Bn:Nat}{W W':World}(h:W.grownBy W' none)(hn:j6≤W.heap.size)(hb:Bn<W.heap.size):Jp j6 Bn W W':=⟨Da h hn,h.block Bn hb (fun e=>by cases e)⟩
def N9(p:Pd):Value→Nat
 | .int _ d=>(p.t+1-d).toNat
 |_=>0
set_option maxRecDepth 100000 in
set_option maxHeartbeats 1000000 in
theorem PC(F:Fence)(L:Leaves F)(n:Nat)(hn:1≤n)(l Bn j6:Nat)(p:Pd)(J Jx:List Int→World→Prop)
 (hY:∀pre x W,J pre W→pre.length<(mD p).length→YieldAt F (n-1) Tryz.prog l #[.int .i64 x] W fun e W'=>
  (e= .returned (.bool true)∧J (pre++[x]) W'∧Jp j6 Bn W W')∨(e= .returned (.bool false)∧Jx (pre++[x]) W'))
 (W:World)(hJ:AbidesFrom W.heap.size J)(uE:j6≤W.heap.size)(ht:AL.iI AL.cI [] W)(htn:∀q∈AL.Em,q.1<j6)
 (hb:W.heap[Bn]?=some (.cells #[.int .i64 p.f,.int .i64 p.t,.int .i64 p.d] 61 (0,0)))(h0:J [] W):
 CallsIn F n Tryz.prog 92 #[.func (.yield l) #[] #[],.pointer (some ⟨Bn,0,none⟩)] W fun e W'=>(∃v,e= .returned v)∧
  ((∃ys,ys=mD p∧J ys W')∨(∃pre,Jx pre W')):=by
 have Ud:=L.r;have h76:=L.f1;have am3:=L.f2;refine callsIn_of_wp Tryz.func92 rfl L.f3 ?_ Ud;simp only[Tryz.ntmps92,List.size_toArray,List.length_cons,List.length_nil,Nat.reduceAdd,Nat.reduceSub,Array.replicate_succ,Array.replicate_zero,List.push_toArray,List.append_toArray,List.nil_append,List.cons_append];have aji:Bn<W.heap.size:=(Array.getElem?_eq_some_iff.1 hb).1;have cell:∀{W':World},Jp j6 Bn W W'→W'.cell? ⟨Bn,0,none⟩=some (.int .i64 p.f)∧W'.cell? ⟨Bn,1,none⟩=some (.int .i64 p.t)∧W'.cell? ⟨Bn,2,none⟩=some (.int .i64 p.d):=fun hB=>by
  unfold World.cell?;simp only[hB.2,hb];exact⟨rfl,rfl,rfl⟩
 obtain⟨d0,d1,d2⟩:=cell Jp.refl
 gi_wp2_with (gi_at_call 93;refine(L.chk p (n-1) _ ht).mono ?_;rintro e w1 ⟨rfl,lY⟩;have hB1:=C_ (Bn:=Bn) lY uE aji;obtain⟨e0,e1,e2⟩:=cell hB1;have hJ1:J [] w1:=hJ [] W w1 none h0 lY (fun r e=>by cases e))
 ·have eY:tW p≠0:=by simpa using ‹(tW p !=0)=true›
  refine bodyPost_ret (results_none rfl _ _ _) rfl ?_;exact⟨⟨_,rfl⟩,.inl ⟨[],by unfold mD;rw[if_neg eY],hJ1⟩⟩
 ·have eQ:tW p=0:=by simpa using ‹(tW p !=0)=false›
  obtain⟨q1,q2,q3,q4,q5,q6⟩:=yb eQ;simp only[eQ,bne_self_eq_false]
  gi_loopw [3] (fun v wr=>∃k:Nat,v= .int .i64 (p.f+(k:Nat))∧k≤(p.t-p.f+1).toNat∧J (iZ p k) wr∧Jp j6 Bn W wr)
   (fun v wr=>N9 p v)
  case atStart=>exact⟨0,by simp,Nat.zero_le _,by simpa[iZ]using hJ1,hB1⟩
  case round=>
   obtain⟨k,rfl,hk,hJk,hBk⟩:=hrel;obtain⟨c0,c1,c2⟩:=cell hBk;have xl:AL.iI AL.cI [] wr:=u_ ht htn hBk.1;have hG:W.heap.size≤wr.heap.size:=hBk.1.size
   gi_wp2_with (gi_at_call 94;refine(L.on p.d (p.f+(k:Nat)) q5 q6 (n-1) _ xl).mono ?_;rintro e w2 ⟨rfl,Is⟩;have hB2:Jp j6 Bn wr w2:=C_ Is (by omega) (by omega);have hJ2:J (iZ p k) w2:=hJ _ wr w2 none hJk Is (fun r e=>by cases e))
   ·have hon:Ca p.d (p.f+(k:Nat))=true:=by assumption
    obtain⟨fn,tmps,assign,body,hy,hR⟩:=hY (iZ p k) (p.f+(k:Nat)) w2 hJ2 (by rw[wo eQ];exact KQ p (by omega) hon);rw[hy]
    gi_wp2
    refine hR.mono ?_;rintro e W3 (⟨rfl,hJ3,hk3⟩|⟨rfl,ajh⟩)
    ·gi_wp2
     go_roundw
     case rel=>exact⟨k+1,by simp[Int.add_assoc],by omega,by rw[mC,if_pos hon];exact hJ3,(hBk.trans hB2).trans hk3⟩
     case measure=>simp only[N9];omega
    ·gi_wp2
     refine bodyPost_ret (results_none rfl _ _ _) rfl ?_;exact⟨⟨_,rfl⟩,.inr ⟨_,ajh⟩⟩
   ·refine⟨fun f hf=>(by cases hf),?_⟩;have hof:¬Ca p.d (p.f+(k:Nat))=true:=by
     assumption
    gi_wp2
    go_roundw
    case rel=>exact⟨k+1,by simp[Int.add_assoc],by omega,by rw[mC,if_neg hof];exact hJ2,hBk.trans hB2⟩
    case measure=>simp only[N9];omega
   ·go_end0
    refine⟨⟨_,rfl⟩,.inl ⟨_,?_,hJk⟩⟩;rw[wo eQ]
    congr 1
    omega
theorem FT(F:Fence)(L:Leaves F)(n:Nat)(hn:1≤n)(Bn j6:Nat)(p:Pd)(w:World)(uE:j6≤w.heap.size)(ht:AL.iI AL.cI [] w)(htn:∀q∈AL.Em,q.1<j6)
 (hb:w.heap[Bn]?=some (.cells #[.int .i64 p.f,.int .i64 p.t,.int .i64 p.d] 61 (0,0))):
 SeqStopsK F n Tryz.prog 92 #[.pointer (some ⟨Bn,0,none⟩)] (fun x:Int=>#[Value.int .i64 x]) (Jp j6 Bn) (fun ys=>ys=mD p) (fun _=>True) (mD p).length w:=fun l J Jx W hW hJ _ hY h0=>
 (PC F L n hn l Bn j6 p J Jx hY W hJ (Nat.le_trans uE hW.size) (u_ ht htn (hW.mono uE)) htn ((hW.block Bn (Array.getElem?_eq_some_iff.1 hb).1).trans hb) h0).mono
  fun e W' h=>⟨h.1,h.2.elim .inl fun⟨pre,hp⟩=>.inr ⟨pre,trivial,hp⟩⟩
set_option maxHeartbeats 1000000 in
theorem US(F:Fence)(L:Leaves F)(n:Nat)(p:Pd)(w:World):
 CallsIn F n Tryz.prog 50 #[.agg #[.int .i64 p.f,.int .i64 p.t,.int .i64 p.d]] w fun e w'=>e= .returned (.func (.func 92) #[] #[.pointer (some ⟨w.heap.size,0,none⟩)])∧w'=w.alloc (.cells #[.int .i64 p.f,.int .i64 p.t,.int .i64 p.d] 61):=by
 have Ud:=L.r;refine callsIn_of_wp Tryz.func50 rfl L.f4 ?_ Ud;simp only[Tryz.ntmps50,List.size_toArray,List.length_cons,List.length_nil,Nat.reduceAdd,Nat.reduceSub,Array.replicate_succ,Array.replicate_zero,List.push_toArray,List.append_toArray,List.nil_append,List.cons_append]
 gi_wp2
 go_ret
 exact⟨rfl,rfl⟩
theorem Ja(Bn k:Nat)(ty:TypeId)(ok:List Int→Array Value→Prop):OwnFrom k (fun(pre:List Int) W=>∃cs,ok pre cs∧W.heap[Bn]?=some (.cells cs ty (0,0))):=by
 rintro s A B row ⟨cs,eQ,h⟩ hg hr;refine⟨cs,eQ,(hg.block Bn (Array.getElem?_eq_some_iff.1 h).1 fun e=>?_).trans h⟩;obtain⟨_,o,ho,hc⟩:=hr Bn e.symm;rw[h]at ho;cases ho;cases hc
theorem JV{W:World}{k:Nat}{cs:Array Value}{ty:TypeId}{fr:Nat×Nat}(h:W.heap[k]?=some (.cells cs ty fr))(o:Nat)(v:Value):(W.setCell ⟨k,o,none⟩ v).heap[k]?=some (.cells (cs.setIfInBounds o v) ty fr):=by
 show(W.heap.modify k _)[k]?=_;rw[Array.getElem?_modify,if_pos rfl,h];rfl
def agB(n:Nat)(p:Pd)(pre:List Int)(W:World):Prop:=
 (∃cs:Array Value,cs= #[.int .i64 (pre.length:Nat)]∧W.heap[n+1]?=some (.cells cs 3 (0,0)))∧
  (∃cs:Array Value,cs= #[.int .i64 p.f,.int .i64 p.t,.int .i64 p.d]∧W.heap[n+2]?=some (.cells cs 61 (0,0)))
set_option maxRecDepth 100000 in
set_option maxHeartbeats 2000000 in
theorem PJ(F:Fence)(L:Leaves F)(n:Nat)(hn:3≤n)(p:Pd)(w:World)(ht:AL.iI AL.cI [] w):
 CallsIn F n Tryz.prog 17 #[.agg #[.int .i64 p.f,.int .i64 p.t,.int .i64 p.d]] w fun e W'=>e= .returned (.int .i64 ((mD p).length:Nat))∧Below w.heap.size w W':=by
 have Ud:=L.r;have am2:=L.f4;have h1:1≤n:=by omega
 have hlen:(mD p).length≤800:=by
  by_cases eQ:tW p=0
  ·rw[wo eQ];have:=FW p (p.t-p.f+1).toNat;have:=yb eQ;omega
  ·unfold mD;rw[if_neg eQ];simp
 refine callsIn_of_wp_marks Tryz.func17 rfl L.f5 ?_ Ud;simp only[Tryz.ntmps17,List.size_toArray,List.length_cons,List.length_nil,Nat.reduceAdd,Nat.reduceSub,Array.replicate_succ,Array.replicate_zero,List.push_toArray,List.append_toArray,List.nil_append,List.cons_append]
 gi_wp2_with (gi_at_call 50;refine(US F L (n-1) p _).mono ?_;rintro e w' ⟨rfl,rfl⟩)
 obtain⟨W4,hW4⟩:∃W4:World,W4=((w.alloc (.cells #[.int .i64 p.f,.int .i64 p.t,.int .i64 p.d] 61)).alloc (.cells #[.int .i64 0] 3)).alloc (.cells #[.int .i64 p.f,.int .i64 p.t,.int .i64 p.d] 61):=⟨_,rfl⟩;rw[←hW4];have hG:W4.heap.size=w.heap.size+3:=by rw[hW4];simp
 have hB0:Below w.heap.size w W4:=by
  rw[hW4];exact(((Below.refl _ w).alloc (Nat.le_refl _) _).alloc (by simp) _).alloc (by simp;omega) _
 have hJ0:agB w.heap.size p [] W4:=by
  have g2:=World.alloc_heap_new ((w.alloc (.cells #[.int .i64 p.f,.int .i64 p.t,.int .i64 p.d] 61)).alloc (.cells #[.int .i64 0] 3)) (.cells #[.int .i64 p.f,.int .i64 p.t,.int .i64 p.d] 61);have g1:=World.alloc_heap_new (w.alloc (.cells #[.int .i64 p.f,.int .i64 p.t,.int .i64 p.d] 61)) (.cells #[.int .i64 0] 3);simp only[World.size_alloc]at g1 g2;refine⟨⟨_,rfl,?_⟩,⟨_,rfl,?_⟩⟩
  ·rw[hW4,Below.heap_alloc _ _ _ (by simp)];exact g1
  ·rw[hW4];exact g2
 obtain⟨c4,mN,bN⟩:=hJ0.2;subst mN;refine wpIn_rangeFunc_ownG Ud h1 (gf:=92) (lb:=#[.pointer (some ⟨w.heap.size+1+1,0,none⟩)]) (by simp[Act.eval]) L.f3 (enters_of Tryz.func92 (by kernel_rfl) rfl)
  (FT F L (n-1) (by omega) (w.heap.size+2) w.heap.size p _ (by omega) (u_ ht (L5 ht) hB0) (L5 ht) bN) Jp.trans (fun W l o o' hl hb k1 k2=>⟨belowK_b (w:=w) (Nat.le_refl _) W l o o' (by omega) hb k1 k2,World.putObj_heap_other (by omega)⟩) (Below.refl _ _) (fun _=>rfl)
  (fun pre W=>agB w.heap.size p pre W∧Below w.heap.size w W)
  (fun _ _ _=>False)
  (OwnFrom.and (OwnFrom.and (Ja _ _ _ fun pre cs=>cs= #[.int .i64 (pre.length:Nat)]) (Ja _ _ _ fun _ cs=>cs= #[.int .i64 p.f,.int .i64 p.t,.int .i64 p.d])) (ownFrom_below (Nat.le_refl _) (by omega)))
  (fun _ _ _ _ _ hs _ _=>hs)
  ⟨hJ0,hB0⟩
  (fun x=>{tmps:=#[.agg #[.int .i64 p.f,.int .i64 p.t,.int .i64 p.d],.pointer (some ⟨w.heap.size,0,none⟩),.int .i64 0,.pointer (some ⟨w.heap.size+1,0,none⟩),.agg #[.int .i64 p.f,.int .i64 p.t,.int .i64 p.d],.func (.func 92) #[] #[.pointer (some ⟨w.heap.size+1+1,0,none⟩)],.int .i64 x,undef,undef,undef],defers:=[]}) ?assign ?body ?done ?stop
 case assign=>
  intro l x W K hK
  gi_wp2
  simpa using hK
 case body=>
  rintro l pre x W ⟨⟨⟨c1,rfl,e1⟩,⟨c4,rfl,e4⟩⟩,hB⟩ aR;have ce1:W.cell? ⟨w.heap.size+1,0,none⟩=some (.int .i64 (pre.length:Nat)):=by unfold World.cell?;simp[e1]
  have fz1:W.frozen? ⟨w.heap.size+1,0,none⟩=false:=by unfold World.frozen?;simp[e1]
  gi_wp2
  have e:((pre.length:Nat):Int)+1=((pre++[x]).length:Nat):=by simp
  refine⟨(KeepsOthers.setCell _ _ _).from _,⟨(Below.refl _ W).setCell (by simp only;omega) _,Below.heap_setCell _ _ _ _ (by simp)⟩,⟨⟨_,rfl,?_⟩,⟨_,rfl,?_⟩⟩,hB.setCell (by simp only;omega) _⟩
  ·rw[←e];exact JV e1 0 _
  ·rw[Below.heap_setCell _ _ _ _ (by simp)];exact e4
 case done=>
  rintro D ys W hD rfl ⟨⟨⟨c1,rfl,e1⟩,⟨c4,rfl,e4⟩⟩,hB⟩ hK;have ce1:W.cell? ⟨w.heap.size+1,0,none⟩=some (.int .i64 ((mD p).length:Nat)):=by unfold World.cell?;simp[e1]
  gi_wp2
  refine⟨by simp,.inl ⟨_,_,rfl,run_takeDeferred hK,?_⟩⟩;exact⟨_,results_tmp rfl _ _ _,rfl,hB.trans (belowK_b (w:=w) (Nat.le_refl _) W D _ _ (by omega) hK rfl rfl)⟩
 case stop=>
  rintro D c pre W _ _ h _;exact h.elim
end Pe
end Go.Proofs.YtfgkgmmnldocaaaGreatDoor
namespace Go.Proofs.YtfgkgmmnldocaaaGreatDoor
open Go Go.AL
variable[Go.AL.Mode][Go.AL.bR]
namespace Pe
theorem Q2{ρ:AL.Place}{S:ae}{w:World}{b:Bool}{p:Pd}{u:Value}(h:VR ρ S w b (.agg (nI p)) u):u= .agg #[.int .i64 p.f,.int .i64 p.t,.int .i64 p.d]:=by
 cases h with
 |agg c hl hc hv=>
  rename_i us
  congr 1
  apply Array.ext_getElem?;intro i;match i with
  |0=>
   have h0:=hv 0 (.int .i64 p.f) rfl;rw[hc 0 _ rfl];generalize c 0=x at h0;cases h0;rfl
  |1=>
   have h0:=hv 1 (.int .i64 p.t) rfl;rw[hc 1 _ rfl];generalize c 1=x at h0;cases h0;rfl
  |2=>
   have h0:=hv 2 (.int .i64 p.d) rfl;rw[hc 2 _ rfl];generalize c 2=x at h0;cases h0;rfl
  |i+3=>rw[Array.getElem?_eq_none_iff.2 (by rw[hl];simp[nI]),Array.getElem?_eq_none_iff.2 (by simp)]
theorem TF{ρ:AL.Place}{S:ae}{w:World}{p:Pd}{us:Array Value}(h:D5 ρ S w [.agg (nI p)] us):us= #[.agg #[.int .i64 p.f,.int .i64 p.t,.int .i64 p.d]]:=by
 obtain⟨h2,CU⟩:=h;obtain⟨u0,e0,r0⟩:=CU 0 _ rfl;rw[Q2 r0]at e0;apply Array.ext_getElem?;intro i;match i with
 |0=>rw[e0];rfl
 |i+1=>rw[Array.getElem?_eq_none_iff.2 (by simp at h2;omega),Array.getElem?_eq_none_iff.2 (by simp)]
theorem AH(S:ae):ak Tryz.prog 17 [.agg [.int .i64 9497,.int .i64 9503,.int .i64 96]] S fun r S'=>r= .int .i64 2∧S'=S:=by
 have hd:(mD ⟨9497,9503,96⟩).length=2:=by decide
 refine⟨⟨Tryz.f17,Tryz.func17,by kernel_rfl,by kernel_rfl⟩,fun ρ w us hi CU=>?_⟩;rw[TF (p:=⟨9497,9503,96⟩) CU];refine(callsIn_wide.1 (PJ Fence.wide leaves 3 (Nat.le_refl _) ⟨9497,9503,96⟩ w (L4 hi.SS))).mono ?_;rintro en w' ⟨rfl,hB⟩;rw[hd];exact⟨ρ,S,_,_,rfl,.int,yH hi hB,sF hB,rfl,rfl⟩
end Pe
theorem Va(S:ae):ak Tryz.prog 5 [] S fun r S'=>r= .bool true∧S'=S:=by
 refine ak.bW Tryz.func5 ae1 (Nat.le_of_ble_eq_true rfl) fun σ b_=>?_;simp(disch:=omega) only[X9,aj,↓eA,eB,aq,seval];refine(Ty S).then ?_
 simp(disch:=omega) only[aj,↓eA,eB,aq,seval];refine(Pe.AH S).then ?_
 simp(disch:=omega) only[aj,↓eA,eB,aq,seval];refine(Lz S).then ?_
 simp(disch:=omega) only[aj,↓eA,eB,aq,seval]
end Go.Proofs.YtfgkgmmnldocaaaGreatDoor
