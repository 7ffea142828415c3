/- ScheduleChecks returns true for every input of bulk at most 1048576, and the input reads as it did: the row, and the card. No further condition. -/
import Derived.Test.YtiihkfjbllpiaaaGreatDoorWAlC
import Derived.Test.YtiihkfjbllpiaaaGreatDoorWSg1
import Derived.Test.YtiihkfjbllpiaaaGreatDoorCards
import Derived.Test.YtiihkfjbllpiaaaGreatDoorTie
import Derived.WalkKit
import Derived.ProofKit
import Derived.OpenShut
import Derived.Deep.DeepHandedRow
import Derived.Lib.LaidTab
namespace Go.Proofs.YtiihkfjbllpiaaaGreatDoor.scheduleChecks
open Go Go.AL Go.ChangeShapes Go.WideShapes Go.ChangeAt Go.RowKit
instance modeI : Go.AL.Mode:=⟨False⟩
instance looseI : Go.AL.LooseM:=⟨fun h=>h⟩
set_option linter.unusedVariables false

theorem own : ownKnob Tryz.prog.godebug = none:=by kernel_rfl

theorem shiftO : Opens Tryz.prog 130 (fun l : List (Int × Int)=>[.sl 2 (l.map shR)]) (fun l=>∀ s ∈ l,True) :=
  Opens.slice (q:=180) (sz:=2) (by kernel_rfl) (by kernel_rfl) (by omega) (fun _=>rfl)
    (Opens.as (Opens.struct Tryz.underlying180 (by kernel_rfl) (OpensL.cons (Opens.int (k:=.i64) (by kernel_rfl)) (OpensL.one (Opens.int (k:=.i64) (by kernel_rfl))))) shR (fun _=>True) (fun p=>p) (fun _=>rfl) (fun _ _=>trivial))
theorem aptO : Opens Tryz.prog 134 aptR (fun _=>True) :=
  Opens.as (Opens.struct Tryz.underlying134 (by kernel_rfl) (OpensL.cons (Opens.str (by kernel_rfl)) (OpensL.cons (Opens.str (by kernel_rfl)) (OpensL.cons (Opens.str (by kernel_rfl))
    (OpensL.one (Opens.struct Tryz.underlying132 (by kernel_rfl) (OpensL.cons (Opens.int (k:=.i64) (by kernel_rfl)) (OpensL.one shiftO)))))))) aptR (fun _=>True) (fun p : Txt × Txt × Txt × Int × List (Int × Int)=>Apt.mk p.1 p.2.1 p.2.2.1 p.2.2.2.1 p.2.2.2.2) (fun _=>rfl) (fun _ _=>trivial)
theorem dstO : Opens Tryz.prog 155 dstR (fun _=>True) :=
  Opens.as (Opens.struct Tryz.underlying155 (by kernel_rfl) (OpensL.cons (Opens.str (by kernel_rfl)) (OpensL.cons (Opens.str (by kernel_rfl)) (OpensL.one (Opens.int (k:=.i64) (by kernel_rfl)))))) dstR (fun _=>True) (fun p : Txt × Txt × Int=>Dst.mk p.1 p.2.1 p.2.2) (fun _=>rfl) (fun _ _=>trivial)
theorem placesO : Opens Tryz.prog 25 (fun p : Pls=>[.sl 5 (p.1.map aptR),.sl 3 (p.2.map dstR)]) (fun _=>True) :=
  Opens.as (Opens.struct Tryz.underlying25 (by kernel_rfl) (OpensL.cons (Opens.slice (q:=134) (sz:=5) (by kernel_rfl) (by kernel_rfl) (by omega) (fun _=>rfl) aptO) (OpensL.one (Opens.slice (q:=155) (sz:=3) (by kernel_rfl) (by kernel_rfl) (by omega) (fun _=>rfl) dstO)))) (fun p : Pls=>[.sl 5 (p.1.map aptR),.sl 3 (p.2.map dstR)]) (fun _=>True) (fun p=>p) (fun _=>rfl) (fun _ _=>trivial)
theorem pdO : Opens Tryz.prog 38 pdR (fun _=>True) :=
  Opens.as (Opens.struct Tryz.underlying38 (by kernel_rfl) (OpensL.cons (Opens.int (k:=.i64) (by kernel_rfl)) (OpensL.cons (Opens.int (k:=.i64) (by kernel_rfl)) (OpensL.one (Opens.int (k:=.i64) (by kernel_rfl)))))) pdR (fun _=>True) (fun p : Int × Int × Int=>Pd.mk p.1 p.2.1 p.2.2) (fun _=>rfl) (fun _ _=>trivial)
theorem lgO : Opens Tryz.prog 96 lgR (fun _=>True) :=
  Opens.as (Opens.struct Tryz.underlying96 (by kernel_rfl) (OpensL.cons (Opens.str (by kernel_rfl)) (OpensL.cons (Opens.str (by kernel_rfl)) (OpensL.cons (Opens.int (k:=.i64) (by kernel_rfl)) (OpensL.cons (Opens.int (k:=.i64) (by kernel_rfl)) (OpensL.one (Opens.str (by kernel_rfl)))))))) lgR (fun _=>True) (fun p : Txt × Txt × Int × Int × Txt=>Lg.mk p.1 p.2.1 p.2.2.1 p.2.2.2.1 p.2.2.2.2) (fun _=>rfl) (fun _ _=>trivial)
theorem flO : Opens Tryz.prog 41 flR (fun _=>True) :=
  Opens.as (Opens.struct Tryz.underlying41 (by kernel_rfl) (OpensL.cons (Opens.str (by kernel_rfl)) (OpensL.cons (Opens.int (k:=.i64) (by kernel_rfl)) (OpensL.cons pdO (OpensL.one (Opens.slice (q:=96) (sz:=5) (by kernel_rfl) (by kernel_rfl) (by omega) (fun _=>rfl) lgO)))))) flR (fun _=>True) (fun p : Txt × Int × Pd × List Lg=>Fl.mk p.1 p.2.1 p.2.2.1 p.2.2.2) (fun _=>rfl) (fun _ _=>trivial)
theorem flightsO : Opens Tryz.prog 26 (fun l : List Fl=>[.sl 6 (l.map flR)]) (fun l=>∀ b ∈ l,True) :=
  Opens.slice (q:=41) (sz:=6) (by kernel_rfl) (by kernel_rfl) (by omega) (fun _=>rfl) flO
theorem aptB (a : Apt) : a.sh.length + 5 ≤ cellsBulk (aptR a):=by
  have h:=rowsBulk_len (a.sh.map shR) (fun r hr=>by obtain ⟨n,_,rfl⟩:=List.mem_map.1 hr;simp only[cellsBulk,shR,V.bulk];omega)
  simp only[List.length_map] at h
  simp only[cellsBulk,aptR,V.bulk]
  omega
theorem flB (x : Fl) : x.legs.length + 6 ≤ cellsBulk (flR x):=by
  have h:=rowsBulk_len (x.legs.map lgR) (fun r hr=>by obtain ⟨n,_,rfl⟩:=List.mem_map.1 hr;simp only[cellsBulk,lgR,V.bulk];omega)
  simp only[List.length_map] at h
  simp only[cellsBulk,flR,V.bulk]
  omega
theorem psm {p : Pls} (h : (plV p).bulk ≤ 1048576) : PSm p:=by
  have h1:=rowsBulk_len (p.1.map aptR) (fun r hr=>by obtain ⟨n,_,rfl⟩:=List.mem_map.1 hr;have:=aptB n;omega)
  have h2:=rowsBulk_len (p.2.map dstR) (fun r hr=>by obtain ⟨n,_,rfl⟩:=List.mem_map.1 hr;simp only[cellsBulk,dstR,V.bulk];omega)
  simp only[List.length_map] at h1 h2
  simp only[plV,V.bulk,cellsBulk] at h
  refine ⟨by omega,by omega,fun a ha=>?_⟩
  have h3:=rowsBulk_mem (rows:=p.1.map aptR) (r:=aptR a) (List.mem_map_of_mem ha)
  have:=aptB a
  omega
theorem flsm {l : List Fl} (h : (V.sl 6 (l.map flR)).bulk ≤ 1048576) : l.length ≤ 1100000 ∧ ∀ x ∈ l,x.legs.length ≤ 1100000:=by
  have h1:=rowsBulk_len (l.map flR) (fun r hr=>by obtain ⟨n,_,rfl⟩:=List.mem_map.1 hr;have:=flB n;omega)
  simp only[List.length_map] at h1
  simp only[V.bulk] at h
  refine ⟨by omega,fun x hx=>?_⟩
  have h3:=rowsBulk_mem (rows:=l.map flR) (r:=flR x) (List.mem_map_of_mem hx)
  have:=flB x
  omega
def en (p : Pls × List Fl × Unit) : List V:=[plV p.1,.sl 6 (p.2.1.map flR)]
def wf (p : Pls × List Fl × Unit) : Prop:=True ∧ (∀ b ∈ p.2.1,True) ∧ True
theorem opens : ArgsOpen Tryz.prog Tryz.f3.params.toList en wf :=
  ArgsOpen.cons (Opens.argsOpen Tryz.underlying25 placesO) (ArgsOpen.cons (Opens.argOpen flightsO (by kernel_rfl)) (ArgsOpen.nil))
theorem called (p : Pls × List Fl × Unit) (hw : wf p) (hb : cellsBulk (en p) ≤ 1048576) : CallA Tryz.prog 3 (en p) [] fun r _=>r = .bool true:=by
  have h1:=cellsBulk_mem (vs:=en p) (v:=plV p.1) (by simp [en])
  have h2:=cellsBulk_mem (vs:=en p) (v:=.sl 6 (p.2.1.map flR)) (by simp [en])
  have hf:=flsm (l:=p.2.1) (by omega)
  exact (sl_checks (lenP) p.1 p.2.1 ⟨psm (by omega),hf.1,hf.2⟩ []).mono fun r S h=>h.1
def lenT : List Int:=[31,28,31,30,31,30,31,31,30,31,30,31]
theorem glob1 : Tryz.prog.globalNamed "airline/calendar.lengths" = some 1:=by kernel_rfl
theorem tabW {W : World} (h : laidMet Tryz.prog Rows.scheduleChecksUptoRow.laid W) : TabW W:=by
  have h4:=Lib.tabIs_of_head glob1 (t:=193) (e:=3) (n:=12) (by kernel_rfl) (by kernel_rfl) (by kernel_rfl) (by kernel_rfl) (by kernel_rfl) (show laidMet Tryz.prog (("airline/calendar.lengths",Lib.tabData .i64 lenT) :: _) W from h)
  unfold Lib.TabIs World.var? at h4
  rw[glob1] at h4
  simp only[Option.bind_some] at h4
  split at h4
  · next cs t fr hh =>
    cases h4
    intro p hp
    simp only[tabs,List.mem_singleton] at hp
    subst hp
    exact ⟨(Array.getElem?_eq_some_iff.1 hh).1,t,fr,hh.trans rfl⟩
  · cases h4

set_option maxRecDepth 100000 in
theorem contract (H : Type) (enc : TypeId × Value → H) (W : World) (base : Nat) (args : Array Value) (ds gs : List (DataW H)) (before : List MemPlace)
    (hval : ∀ (j : Nat) t v,Tryz.f3.params[j]? = some t → args[j]? = some v → Value.okWide Tryz.prog W .any base t v)
    (hW : DataW.Whole enc Tryz.prog Tryz.f3.params.toList Rows.scheduleChecksSpec.vars false W args.toList ds gs before) (hk : Rows.uptoSmall H (ds ++ gs) = true) (ht : TabW W) :
    Calls Tryz.prog 3 args W fun e W'=>∃ v,e = .returned v ∧ Rows.scheduleChecksSpec.post enc Tryz.prog Tryz.f3 false true false false W args v W' :=
  law_contract (tb:=4) opens called rfl (by kernel_rfl) (by kernel_rfl) (fun H ds h=>by
    have h' : ds.length = 2:=h
    match ds,h' with
    | [d1,d2],_=>exact ⟨rfl,rfl,rfl⟩) hval hW hk (ht:=ht)

/-- A world for the witness: the settled one,the tables holding what their initialisers lay. -/
noncomputable def laidWorld (os : Os) : World :=
  { World.holding Tryz.prog os ⟨#[],#[],[]⟩ with heap:=(((((World.holding Tryz.prog os ⟨#[],#[],[]⟩).heap).modify 0 (fun | .cells _ t frozen=>.cells #[.int .u64 1,.int .u64 10,.int .u64 100,.int .u64 1000,.int .u64 10000,.int .u64 100000,.int .u64 1000000,.int .u64 10000000,.int .u64 100000000,.int .u64 1000000000,.int .u64 10000000000,.int .u64 100000000000,.int .u64 1000000000000,.int .u64 10000000000000,.int .u64 100000000000000,.int .u64 1000000000000000,.int .u64 10000000000000000,.int .u64 100000000000000000,.int .u64 1000000000000000000,.int .u64 10000000000000000000] t frozen | o=>o)).modify 1 (fun | .cells _ t frozen=>.cells #[.int .i64 31,.int .i64 28,.int .i64 31,.int .i64 30,.int .i64 31,.int .i64 30,.int .i64 31,.int .i64 31,.int .i64 30,.int .i64 31,.int .i64 30,.int .i64 31] t frozen | o=>o)).modify 2 (fun | .cells _ t frozen=>.cells #[.int .u8 0,.int .u8 1,.int .u8 28,.int .u8 2,.int .u8 29,.int .u8 14,.int .u8 24,.int .u8 3,.int .u8 30,.int .u8 22,.int .u8 20,.int .u8 15,.int .u8 25,.int .u8 17,.int .u8 4,.int .u8 8,.int .u8 31,.int .u8 27,.int .u8 13,.int .u8 23,.int .u8 21,.int .u8 19,.int .u8 16,.int .u8 7,.int .u8 26,.int .u8 12,.int .u8 18,.int .u8 6,.int .u8 11,.int .u8 5,.int .u8 10,.int .u8 9] t frozen | o=>o)).modify 3 (fun | .cells _ t frozen=>.cells #[.int .u8 0,.int .u8 1,.int .u8 56,.int .u8 2,.int .u8 57,.int .u8 49,.int .u8 28,.int .u8 3,.int .u8 61,.int .u8 58,.int .u8 42,.int .u8 50,.int .u8 38,.int .u8 29,.int .u8 17,.int .u8 4,.int .u8 62,.int .u8 47,.int .u8 59,.int .u8 36,.int .u8 45,.int .u8 43,.int .u8 51,.int .u8 22,.int .u8 53,.int .u8 39,.int .u8 33,.int .u8 30,.int .u8 24,.int .u8 18,.int .u8 12,.int .u8 5,.int .u8 63,.int .u8 55,.int .u8 48,.int .u8 27,.int .u8 60,.int .u8 41,.int .u8 37,.int .u8 16,.int .u8 46,.int .u8 35,.int .u8 44,.int .u8 21,.int .u8 52,.int .u8 32,.int .u8 23,.int .u8 11,.int .u8 54,.int .u8 26,.int .u8 40,.int .u8 15,.int .u8 34,.int .u8 20,.int .u8 31,.int .u8 10,.int .u8 25,.int .u8 14,.int .u8 19,.int .u8 9,.int .u8 13,.int .u8 8,.int .u8 7,.int .u8 6] t frozen | o=>o) }
def wit : Array Value:=#[.agg #[.slice none 0 0,.slice none 0 0],.slice none 0 0]
theorem laid_met (os : Os) : laidMet Tryz.prog Rows.scheduleChecksUptoRow.laid ((laidWorld os).forCall (fun _ _=>0) ⟨#[],wit,[]⟩).memory :=
  laidMet_of_run' 8 (by kernel_rfl) (by kernel_rfl)
theorem reads (os : Os) {H : Type} (enc : TypeId × Value → H) : ∃ places,DataW.whole enc Tryz.prog ((laidWorld os).forCall (fun _ _=>0) ⟨#[],wit,[]⟩).memory Tryz.f3.params.toList Rows.scheduleChecksSpec.vars false wit.toList 8 = some ([.agg [.nil,.nil],.nil],[],places) :=
  ⟨[],by kernel_rfl⟩

set_option maxRecDepth 100000 in
theorem lifted (os : Os) (started : os.Started) (H : Type) (enc : TypeId × Value → H) (F : Stop.Interp) :
    ReturnsInHanded {} Tryz.checked os 3 .any ((Rows.OpenSpec.upto Rows.scheduleChecksSpec).preRow enc Tryz.prog Tryz.f3 Rows.scheduleChecksUptoRow.domain false Rows.scheduleChecksUptoRow.laid) (((Rows.OpenSpec.upto Rows.scheduleChecksSpec).at F).post enc Tryz.prog Tryz.f3 false true false false):=by
  obtain ⟨places,hx⟩:=reads os enc
  refine returnsInHanded_of_row (C:=Tryz.checked) (s:=Rows.OpenSpec.upto Rows.scheduleChecksSpec) own started (by kernel_rfl) Tryz.func3
    (witness_row_at (enc:=enc) (C:=Tryz.checked) false (laidWorld os) wit rfl (by kernel_rfl) (by kernel_rfl) (by kernel_rfl)
      (OpenSpec.preRow_of_cond 8 hx (by kernel_rfl) (fun k hk=>by cases hk;kernel_rfl) (by kernel_rfl) (laid_met os))) ?_
  intro W base args ds gs before hval hW h1 hcond h3 hL h5 h6
  exact contract H enc W base args ds gs before hval hW (hcond _ rfl) (tabW hL)

theorem over : Rows.ScheduleChecksUptoSaid :=
  OpenClaim.holds_of_cond 3 Tryz.f3 rfl rfl rfl rfl rfl rfl rfl ⟨rfl,rfl,rfl,rfl,rfl⟩ rfl rfl rfl rfl rfl (by kernel_rfl) Tryz.func3 (by kernel_rfl)
    (of_decide_eq_true (by kernel_rfl)) (by unfold Func.isWrapper;first | (rw[if_pos (by decide +kernel)];kernel_rfl) | (rw[if_neg (by decide +kernel)];exact ⟨rfl,rfl⟩))
    (fun os started H enc _ F=>by rw[OpenClaim.pre_eq_preRow];exact lifted os started H enc F)

theorem plain (f : FuncId) (fn : Func) (hf : Tryz.pinned.checked.prog.funcNamed "airline/airlinelaw08.ScheduleChecks" = some f) (hfn : Tryz.pinned.checked.prog.funcs[f]? = some fn) :
    false = Tryz.pinned.checked.prog.looks [] ∧ ∀ (j : Nat) t,fn.params[j]? = some t → Tryz.pinned.checked.prog.wantsStandIn t = false:=by
  obtain rfl : f = 3:=Option.some.inj ((show Tryz.prog.funcNamed "airline/airlinelaw08.ScheduleChecks" = some 3 by kernel_rfl).symm.trans hf) |>.symm
  obtain rfl : fn = Tryz.f3:=(Option.some.inj (Tryz.func3.symm.trans hfn)).symm
  refine ⟨by kernel_rfl,fun j t ht=>?_⟩
  rw[Tryz.params3] at ht
  match j,ht with
  | 0,ht=>obtain rfl:=Option.some.inj (show some 25 = some t from ht);exact (show Tryz.prog.wantsStandIn 25 = false by kernel_rfl)
  | 1,ht=>obtain rfl:=Option.some.inj (show some 26 = some t from ht);exact (show Tryz.prog.wantsStandIn 26 = false by kernel_rfl)
  | n + 2,ht=>simp at ht

theorem proved : Rows.ScheduleChecksUptoCardSaid :=
  Claim7.holds_tied_plain_at .later [] _ _ _ _ over (fun _ h=>by cases h) (by kernel_rfl) (fun _ h=>by cases h) scheduleChecksUpto_row_tie rfl ⟨rfl,rfl⟩ (by kernel_rfl) rfl plain (by kernel_rfl)
end Go.Proofs.YtiihkfjbllpiaaaGreatDoor.scheduleChecks
