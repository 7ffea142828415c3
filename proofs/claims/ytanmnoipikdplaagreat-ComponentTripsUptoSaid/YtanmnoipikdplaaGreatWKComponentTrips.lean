/- ComponentTrips returns true for every input of bulk at most 1048576, and the input reads as it did. No further condition. -/
import Derived.Test.YtanmnoipikdplaaGreatWAlB
import Derived.Test.YtanmnoipikdplaaGreatWCng
import Derived.WalkKit
import Derived.ProofKit
import Derived.OpenShut
import Derived.JoinedCond
namespace Go.Proofs.YtanmnoipikdplaaGreat.componentTrips
open Go Go.AL Go.ChangeShapes Go.WideShapes Go.ChangeAt Go.RowKit
instance modeI : Go.AL.Mode:=⟨True⟩
set_option linter.unusedVariables false

theorem own : ownKnob Tryz.prog.godebug = none:=by kernel_rfl

def en (p : Pls × List Wnt × Txt × Int × Unit) : List V:=[plV p.1,.sl 8 (p.2.1.map wntR),.str p.2.2.1,.int .i64 p.2.2.2.1]
def wf (p : Pls × List Wnt × Txt × Int × Unit) : Prop:=True ∧ True ∧ True ∧ (IntKind.i64.min ≤ p.2.2.2.1 ∧ p.2.2.2.1 ≤ IntKind.i64.max) ∧ True
theorem opens : ArgsOpen Tryz.prog Tryz.f3.params.toList en wf :=
  ArgsOpen.cons (Opens.argsOpen Tryz.underlying25 plO) (ArgsOpen.cons (Opens.argOpen wntsO (by kernel_rfl)) (ArgsOpen.cons (Opens.argOpen (Opens.str (by kernel_rfl)) (by kernel_rfl)) (ArgsOpen.cons (Opens.argOpen (Opens.int (k:=.i64) (by kernel_rfl)) (by kernel_rfl)) ArgsOpen.nil)))
theorem called (p : Pls × List Wnt × Txt × Int × Unit) (_ : wf p) (hb : cellsBulk (en p) ≤ 1048576) : CallA Tryz.prog 3 (en p) [] fun r _=>r = .bool true :=
  (law_trips p.1 p.2.1 p.2.2.1 p.2.2.2.1 []).mono fun r S h=>h.1

set_option maxRecDepth 100000 in
theorem contract (H : Type) (enc : TypeId × Value → H) (W : World) (base : Nat) (args : Array Value) (ds gs : List (DataW H)) (before : List MemPlace)
    (hval : ∀ (j : Nat) t v,Tryz.f3.params[j]? = some t → args[j]? = some v → Value.okWide Tryz.prog W .any base t v)
    (hW : DataW.Whole enc Tryz.prog Tryz.f3.params.toList Rows.componentTripsSpec.vars false W args.toList ds gs before) (hk : Rows.uptoSmall H (ds ++ gs) = true) :
    Calls Tryz.prog 3 args W fun e W'=>∃ v,e = .returned v ∧ Rows.componentTripsSpec.post enc Tryz.prog Tryz.f3 false true false false W args v W' :=
  law_contract (tb:=4) opens called rfl (by kernel_rfl) (by kernel_rfl) (fun H ds h=>by
    have h' : ds.length = 4:=h
    match ds,h' with
    | [d1,d2,d3,d4],_=>exact ⟨rfl,rfl,rfl⟩) hval hW hk

set_option maxRecDepth 100000 in
theorem lifted (os : Os) (started : os.Started) (H : Type) (enc : TypeId × Value → H) (F : Stop.Interp) :
    ReturnsInHanded {} Tryz.checked os 3 .any ((Rows.OpenSpec.upto Rows.componentTripsSpec).pre6 enc Tryz.prog Tryz.f3 Rows.componentTripsUptoRow.domain false) (((Rows.OpenSpec.upto Rows.componentTripsSpec).at F).post enc Tryz.prog Tryz.f3 false true false false):=by
  refine returnsInHanded_of_cond (C:=Tryz.checked) (s:=Rows.OpenSpec.upto Rows.componentTripsSpec) (k:=Rows.uptoSmall) rfl own started (by kernel_rfl) Tryz.func3
    (OpenSpec.witness (enc:=enc) (C:=Tryz.checked) (s:=Rows.OpenSpec.upto Rows.componentTripsSpec) (k:=Rows.uptoSmall) rfl false ⟨#[],#[.agg #[.slice none 0 0,.slice none 0 0],.slice none 0 0,.string ⟨#[]⟩,.int .i64 0],[]⟩ 8 (by kernel_rfl) (by kernel_rfl) (by kernel_rfl)
      (x:=([.agg [.nil,.nil],.nil,.lit (.string []),.lit (.int .i64 0)],[],[])) (by kernel_rfl) rfl (by kernel_rfl)) ?_
  intro W base args ds gs before hval hW _ hk _
  exact contract H enc W base args ds gs before hval hW hk

theorem over : Rows.componentTripsUptoRow.holds Tryz.pinned (Rows.OpenSpec.upto Rows.componentTripsSpec) :=
  OpenClaim.holds_of_cond 3 Tryz.f3 rfl rfl rfl rfl rfl rfl rfl ⟨rfl,rfl,rfl,rfl,rfl⟩ rfl rfl rfl rfl rfl (by kernel_rfl) Tryz.func3 (by kernel_rfl)
    (of_decide_eq_true (by kernel_rfl)) (by unfold Func.isWrapper;first | (rw[if_pos (by decide +kernel)];kernel_rfl) | (rw[if_neg (by decide +kernel)];exact ⟨rfl,rfl⟩))
    (fun os started H enc _ F=>lifted os started H enc F)

theorem proved : Rows.ComponentTripsUptoSaid :=
  over
end Go.Proofs.YtanmnoipikdplaaGreat.componentTrips
