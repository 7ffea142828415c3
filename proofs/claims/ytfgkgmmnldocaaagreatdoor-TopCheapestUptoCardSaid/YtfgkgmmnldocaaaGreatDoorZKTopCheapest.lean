/- TopCheapest returns true for every input of bulk at most 1048576, and the input reads as it did: the row, and the card. No further condition. -/
import Derived.Test.YtfgkgmmnldocaaaGreatDoorZAlF
import Derived.Test.YtfgkgmmnldocaaaGreatDoorZTdc
import Derived.Test.YtfgkgmmnldocaaaGreatDoorCards
import Derived.Test.YtfgkgmmnldocaaaGreatDoorTie
import Derived.WalkKit
import Derived.ProofKit
import Derived.OpenShut
import Derived.Deep.DeepHandedRow
import Derived.Lib.LaidTab
set_option linter.unusedSectionVars false
set_option linter.unusedSimpArgs false
set_option linter.unusedVariables false
set_option maxRecDepth 100000
namespace Go.Proofs.YtfgkgmmnldocaaaGreatDoor.topCheapest
open Go Go.AL Go.ChangeShapes Go.WideShapes Go.ChangeAt Go.RowKit
instance aj6:Go.AL.Mode:={strict:=False}
instance ahB:Go.AL.bR:=⟨fun h=>h⟩
theorem own:ownKnob Tryz.prog.godebug=none:=by kernel_rfl
section
variable[Go.AL.Mode][Go.AL.bR]
def en(p:Jr×Int×Int×Int×Unit):List V:=[.agg (jk p.1),.int .i64 p.2.1,.int .i64 p.2.2.1,.int .i64 p.2.2.2.1]
def wf(p:Jr×Int×Int×Int×Unit):Prop:=True∧(IntKind.i64.min≤p.2.1∧p.2.1≤IntKind.i64.max)∧(IntKind.i64.min≤p.2.2.1∧p.2.2.1≤IntKind.i64.max)∧(IntKind.i64.min≤p.2.2.2.1∧p.2.2.2.1≤IntKind.i64.max)∧True
theorem opens:ia Tryz.prog Tryz.f3.params.toList en wf:=
 ia.cons (ba.QP Tryz.underlying34 jrO) (ia.cons (ba.AU (ba.int (k:=.i64) (by kernel_rfl)) (by kernel_rfl)) (ia.cons (ba.AU (ba.int (k:=.i64) (by kernel_rfl)) (by kernel_rfl)) (ia.cons (ba.AU (ba.int (k:=.i64) (by kernel_rfl)) (by kernel_rfl)) ia.nil)))
theorem called(p:Jr×Int×Int×Int×Unit)(_:wf p)(hb:bD (en p)≤1048576):ak Tryz.prog 3 (en p) [] fun r _=>r= .bool true:=
 have h:=LY (c:=p.1) (by simp only[en,bD,V.ij]at hb;omega)
 (adC p.1 h.1 h.2 p.2.1 p.2.2.1 p.2.2.2.1 []).mono fun r S h=>h.1
end
def ai:List Int:=[31,28,31,30,31,30,31,31,30,31,30,31]
theorem WN:Tryz.prog.globalNamed "airline/calendar.lengths" =some 0:=by kernel_rfl
theorem ahh{W:World}(h:laidMet Tryz.prog Rows.topCheapestUptoRow.laid W):Ld W:=by
 have h4:=Lib.tabIs_of_head WN (t:=205) (e:=3) (n:=12) (by kernel_rfl) (by kernel_rfl) (by kernel_rfl) (by kernel_rfl) (by kernel_rfl) (show laidMet Tryz.prog (("airline/calendar.lengths",Lib.tabData .i64 ai)::_) W from h);unfold Lib.TabIs World.var? at h4;rw[WN]at h4;simp only[Option.bind_some]at h4;split at h4
 ·next cs t fr hh=>
  cases h4;intro p hp;simp only[Em,bM]at hp;subst hp;exact⟨(Array.getElem?_eq_some_iff.1 hh).1,t,fr,hh.trans rfl⟩
 ·cases h4
theorem PL(H:Type)(enc:TypeId×Value→H)(W:World)(base:Nat)(args:Array Value)(ds gs:List (DataW H))(before:List MemPlace)
 (lN:∀(j:Nat) t v,Tryz.f3.params[j]?=some t→args[j]?=some v→Value.okWide Tryz.prog W .any base t v)
 (hW:DataW.Whole enc Tryz.prog Tryz.f3.params.toList Rows.topCheapestSpec.vars false W args.toList ds gs before)(hk:Rows.uptoSmall H (ds++gs)=true)(ht:Ld W):
 Calls Tryz.prog 3 args W fun e W'=>∃v,e= .returned v∧Rows.topCheapestSpec.post enc Tryz.prog Tryz.f3 false true false false W args v W':=
 Ak (tb:=4) opens called rfl (by kernel_rfl) (by kernel_rfl) (fun H ds h=>by
  have h':ds.length=4:=h;match ds,h' with
  |[d1,d2,d3,d4],_=>exact⟨rfl,rfl,rfl⟩) lN hW hk (ht:=ht)
noncomputable def sq (os:Os):World:=
 {World.holding Tryz.prog os ⟨#[],#[],[]⟩with heap:=((World.holding Tryz.prog os ⟨#[],#[],[]⟩).heap).modify 0 (fun| .cells _ t frozen=>.cells #[.int .i64 31,.int .i64 28,.int .i64 31,.int .i64 30,.int .i64 31,.int .i64 30,.int .i64 31,.int .i64 31,.int .i64 30,.int .i64 31,.int .i64 30,.int .i64 31] t frozen|o=>o)}
def wit:Array Value:=#[.agg #[.slice none 0 0,.slice none 0 0,.slice none 0 0,.slice none 0 0,.slice none 0 0,.slice none 0 0,.slice none 0 0,.string ⟨#[]⟩,.int .i64 0],.int .i64 0,.int .i64 0,.int .i64 0]
theorem Oc(os:Os):laidMet Tryz.prog Rows.topCheapestUptoRow.laid ((sq os).forCall (fun _ _=>0) ⟨#[],wit,[]⟩).memory:=
 laidMet_of_run' 8 (by kernel_rfl) (by kernel_rfl)
theorem reads(os:Os){H:Type}(enc:TypeId×Value→H):∃places,DataW.whole enc Tryz.prog ((sq os).forCall (fun _ _=>0) ⟨#[],wit,[]⟩).memory Tryz.f3.params.toList Rows.topCheapestSpec.vars false wit.toList 8=some ([.agg [.agg [.nil,.nil],.agg [.nil,.nil,.nil,.nil],.nil,.lit (.string []),.lit (.int .i64 0)],.lit (.int .i64 0),.lit (.int .i64 0),.lit (.int .i64 0)],[],places):=
 ⟨[],by kernel_rfl⟩
theorem lifted(os:Os)(started:os.Started)(H:Type)(enc:TypeId×Value→H)(F:Stop.Interp):
 ReturnsInHanded {} Tryz.checked os 3 .any ((Rows.OpenSpec.upto Rows.topCheapestSpec).preRow enc Tryz.prog Tryz.f3 Rows.topCheapestUptoRow.domain false Rows.topCheapestUptoRow.laid) (((Rows.OpenSpec.upto Rows.topCheapestSpec).at F).post enc Tryz.prog Tryz.f3 false true false false):=by
 obtain⟨places,hx⟩:=reads os enc;refine returnsInHanded_of_row (C:=Tryz.checked) (s:=Rows.OpenSpec.upto Rows.topCheapestSpec) own started (by kernel_rfl) Tryz.func3
  (witness_row_at (enc:=enc) (C:=Tryz.checked) false (sq os) wit rfl (by kernel_rfl) (by kernel_rfl) (by kernel_rfl)
   (OpenSpec.preRow_of_cond 8 hx (by kernel_rfl) (fun k hk=>by cases hk;kernel_rfl) (by kernel_rfl) (Oc os))) ?_
 intro W base args ds gs before lN hW h1 q8 h3 hL h5 h6;exact PL H enc W base args ds gs before lN hW (q8 _ rfl) (ahh hL)
theorem over:Rows.TopCheapestUptoSaid:=
 OpenClaim.holds_of_cond 3 Tryz.f3 rfl rfl rfl rfl rfl rfl rfl ⟨rfl,rfl,rfl,rfl,rfl⟩ rfl rfl rfl rfl rfl (by kernel_rfl) Tryz.func3 (by kernel_rfl)
  (gw (by kernel_rfl)) (by unfold Func.isWrapper;first|(rw[aK (by decide+kernel)];kernel_rfl)|(rw[aC (by decide+kernel)];exact⟨rfl,rfl⟩))
  (fun os started H enc _ F=>by rw[OpenClaim.pre_eq_preRow];exact lifted os started H enc F)
theorem plain(f:FuncId)(fn:Func)(hf:Tryz.pinned.checked.prog.funcNamed "airline/airlinetop.TopCheapest" =some f)(Fy:Tryz.pinned.checked.prog.funcs[f]?=some fn):
 false=Tryz.pinned.checked.prog.looks []∧∀(j:Nat) t,fn.params[j]?=some t→Tryz.pinned.checked.prog.wantsStandIn t=false:=by
 obtain rfl:f=3:=Option.some.inj ((show Tryz.prog.funcNamed "airline/airlinetop.TopCheapest" =some 3 by kernel_rfl).symm.trans hf)|>.symm;obtain rfl:fn=Tryz.f3:=(Option.some.inj (Tryz.func3.symm.trans Fy)).symm;refine⟨by kernel_rfl,fun j t ht=>?_⟩;rw[Tryz.params3]at ht;match j,ht with
 |0,ht=>obtain rfl:=Option.some.inj (show some 34=some t from ht);exact(show Tryz.prog.wantsStandIn 34=false by kernel_rfl)
 |1,ht=>obtain rfl:=Option.some.inj (show some 3=some t from ht);exact(show Tryz.prog.wantsStandIn 3=false by kernel_rfl)
 |2,ht=>obtain rfl:=Option.some.inj (show some 3=some t from ht);exact(show Tryz.prog.wantsStandIn 3=false by kernel_rfl)
 |3,ht=>obtain rfl:=Option.some.inj (show some 3=some t from ht);exact(show Tryz.prog.wantsStandIn 3=false by kernel_rfl)
 |n+4,ht=>simp at ht
theorem proved:Rows.TopCheapestUptoCardSaid:=
 Claim7.holds_tied_plain_at .later [] _ _ _ _ over (fun _ h=>by cases h) (by kernel_rfl) (fun _ h=>by cases h) topCheapestUpto_row_tie rfl ⟨rfl,rfl⟩ (by kernel_rfl) rfl plain (by kernel_rfl)
end Go.Proofs.YtfgkgmmnldocaaaGreatDoor.topCheapest
