/- ComponentFares returns true for every input of bulk at most 1048576, and the input reads as it did. No further condition. -/
import Derived.Test.YtanmnoipikdplaaGreatWAlB
import Derived.Test.YtanmnoipikdplaaGreatWCng
import Derived.WalkKit
import Derived.ProofKit
import Derived.OpenShut
import Derived.JoinedCond
namespace Go.Proofs.YtanmnoipikdplaaGreat.componentFares
open Go Go.AL Go.ChangeShapes Go.WideShapes Go.ChangeAt Go.RowKit
instance modeI : Go.AL.Mode:=⟨True⟩
set_option linter.unusedVariables false

theorem own : ownKnob Tryz.prog.godebug = none:=by kernel_rfl

def en (p : Cas × Unit) : List V:=[.agg (casR p.1)]
def wf (p : Cas × Unit) : Prop:=True ∧ True
theorem opens : ArgsOpen Tryz.prog Tryz.f5.params.toList en wf :=
  ArgsOpen.cons (Opens.argsOpen Tryz.underlying45 casO) ArgsOpen.nil
theorem called (p : Cas × Unit) (_ : wf p) (hb : cellsBulk (en p) ≤ 1048576) : CallA Tryz.prog 5 (en p) [] fun r _=>r = .bool true :=
  (law_fares p.1.p p.1.t (p.1.tx.map taxR) (tsm_bulk (by simp only[en,cellsBulk,V.bulk] at hb;omega)) p.1.at_ p.1.l p.1.ty p.1.sale []).mono fun r S h=>h.1

set_option maxRecDepth 100000 in
theorem contract (H : Type) (enc : TypeId × Value → H) (W : World) (base : Nat) (args : Array Value) (ds gs : List (DataW H)) (before : List MemPlace)
    (hval : ∀ (j : Nat) t v,Tryz.f5.params[j]? = some t → args[j]? = some v → Value.okWide Tryz.prog W .any base t v)
    (hW : DataW.Whole enc Tryz.prog Tryz.f5.params.toList Rows.componentFaresSpec.vars false W args.toList ds gs before) (hk : Rows.uptoSmall H (ds ++ gs) = true) :
    Calls Tryz.prog 5 args W fun e W'=>∃ v,e = .returned v ∧ Rows.componentFaresSpec.post enc Tryz.prog Tryz.f5 false true false false W args v W' :=
  law_contract (tb:=4) opens called rfl (by kernel_rfl) (by kernel_rfl) (fun H ds h=>by
    have h' : ds.length = 1:=h
    match ds,h' with
    | [d1],_=>exact ⟨rfl,rfl,rfl⟩) hval hW hk

set_option maxRecDepth 100000 in
theorem lifted (os : Os) (started : os.Started) (H : Type) (enc : TypeId × Value → H) (F : Stop.Interp) :
    ReturnsInHanded {} Tryz.checked os 5 .any ((Rows.OpenSpec.upto Rows.componentFaresSpec).pre6 enc Tryz.prog Tryz.f5 Rows.componentFaresUptoRow.domain false) (((Rows.OpenSpec.upto Rows.componentFaresSpec).at F).post enc Tryz.prog Tryz.f5 false true false false):=by
  refine returnsInHanded_of_cond (C:=Tryz.checked) (s:=Rows.OpenSpec.upto Rows.componentFaresSpec) (k:=Rows.uptoSmall) rfl own started (by kernel_rfl) Tryz.func5
    (OpenSpec.witness (enc:=enc) (C:=Tryz.checked) (s:=Rows.OpenSpec.upto Rows.componentFaresSpec) (k:=Rows.uptoSmall) rfl false ⟨#[],#[.agg #[.slice none 0 0,.slice none 0 0,.slice none 0 0,.slice none 0 0,.slice none 0 0,.slice none 0 0,.int .i64 0,.slice none 0 0,.string ⟨#[]⟩,.int .i64 0]],[]⟩ 8 (by kernel_rfl) (by kernel_rfl) (by kernel_rfl)
      (x:=([.agg [.agg [.nil,.nil],.agg [.nil,.nil,.nil,.nil],.lit (.int .i64 0),.nil,.lit (.string []),.lit (.int .i64 0)]],[],[])) (by kernel_rfl) rfl (by kernel_rfl)) ?_
  intro W base args ds gs before hval hW _ hk _
  exact contract H enc W base args ds gs before hval hW hk

theorem over : Rows.componentFaresUptoRow.holds Tryz.pinned (Rows.OpenSpec.upto Rows.componentFaresSpec) :=
  OpenClaim.holds_of_cond 5 Tryz.f5 rfl rfl rfl rfl rfl rfl rfl ⟨rfl,rfl,rfl,rfl,rfl⟩ rfl rfl rfl rfl rfl (by kernel_rfl) Tryz.func5 (by kernel_rfl)
    (of_decide_eq_true (by kernel_rfl)) (by unfold Func.isWrapper;first | (rw[if_pos (by decide +kernel)];kernel_rfl) | (rw[if_neg (by decide +kernel)];exact ⟨rfl,rfl⟩))
    (fun os started H enc _ F=>lifted os started H enc F)

theorem proved : Rows.ComponentFaresUptoSaid :=
  over
end Go.Proofs.YtanmnoipikdplaaGreat.componentFares
