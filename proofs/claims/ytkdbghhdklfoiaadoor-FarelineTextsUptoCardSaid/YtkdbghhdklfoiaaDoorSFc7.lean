/- Which prices are right; the example; law Of. -/
import Derived.Test.YtkdbghhdklfoiaaDoorSFc5
namespace Go.Proofs.YtkdbghhdklfoiaaDoor
open Go Go.AL Go.RowKit
set_option linter.unusedSectionVars false
variable [Go.AL.Mode] [Go.AL.LooseM]
set_option linter.unusedSimpArgs false
set_option linter.unusedVariables false
def lonW : Txt := [76, 79, 78]
def nycW : Txt := [78, 89, 67]
def baW : Txt := [66, 65]
def yowW : Txt := [89, 79, 87]
def exC : Cal := ⟨[⟨[lonW, nycW], [baW], 10000, yowW⟩, ⟨[nycW, lonW], [baW], 10000, yowW⟩], [⟨[71, 66], 1300⟩, ⟨[85, 83], 500⟩], 20000, 21800⟩
def exT : Txt := [76, 79, 78, 32, 66, 65, 32, 78, 89, 67, 32, 49, 48, 48, 46, 48, 48, 32, 89, 79, 87, 32, 66, 65, 32, 76, 79, 78, 32, 49, 48, 48, 46, 48, 48, 32, 89, 79, 87, 32, 70, 65, 82, 69, 32, 50, 48, 48, 46, 48, 48, 32, 84, 65, 88, 32, 71, 66, 32, 49, 51, 46, 48, 48, 32, 84, 65, 88, 32, 85, 83, 32, 53, 46, 48, 48, 32, 84, 79, 84, 65, 76, 32, 50, 49, 56, 46, 48, 48]
theorem ex_ok : chkF exC = 0 := by decide +kernel
theorem ex_line : lineF (prW exC) = exT := by
  have h1 : amW 10000 = [49, 48, 48, 46, 48, 48] := by unfold amW amtF; rw [show (10000 : Int).toNat = 10000 from rfl]; simp [Lib.decDigits]
  have h2 : amW 20000 = [50, 48, 48, 46, 48, 48] := by unfold amW amtF; rw [show (20000 : Int).toNat = 20000 from rfl]; simp [Lib.decDigits]
  have h3 : amW 1300 = [49, 51, 46, 48, 48] := by unfold amW amtF; rw [show (1300 : Int).toNat = 1300 from rfl]; simp [Lib.decDigits]
  have h4 : amW 500 = [53, 46, 48, 48] := by unfold amW amtF; rw [show (500 : Int).toNat = 500 from rfl]; simp [Lib.decDigits]
  have h5 : amW 21800 = [50, 49, 56, 46, 48, 48] := by unfold amW amtF; rw [show (21800 : Int).toNat = 21800 from rfl]; simp [Lib.decDigits]
  unfold prW itsW txsW exC
  simp only [List.flatMap_cons, List.flatMap_nil, itmW, chgW, legsW, List.tail_cons, h1, h2, h3, h4, h5, List.head?_cons, Option.bind_some, Option.getD_some]
  decide +kernel
end Go.Proofs.YtkdbghhdklfoiaaDoor
/- The example; law Of. -/
namespace Go.Proofs.YtkdbghhdklfoiaaDoor
open Go Go.AL Go.RowKit
set_option linter.unusedSectionVars false
variable [Go.AL.Mode] [Go.AL.LooseM]
set_option linter.unusedSimpArgs false
set_option linter.unusedVariables false
theorem chk_lens {c : Cal} (h : chkF c = 0) : c.its.length ≤ 1000000 ∧ c.txs.length ≤ 1000000 ∧ ∀ x ∈ c.its, x.cs.length ≤ 1000000000 ∧ x.ks.length ≤ 1000000000 := by
  have hok := chk_ok h
  have := hok.n6
  have := hok.n512
  refine ⟨by omega, by omega, fun x hx => ?_⟩
  have := sz_inv (its_ok hok.its x hx).1
  omega
theorem line_len {c : Cal} (h : chkF c = 0) : (lineF (prW c)).length ≤ 100000 := by
  have hok := chk_ok h
  have hi := its_ok hok.its
  have hw := prW_wd hok
  have h1 := join_len [32] 30 (prW c) fun t ht => (hw t ht).2
  have h2 := itsW_len fun x hx => (hi x hx).1
  have h3 := txsW_len c.txs
  have h4 := hok.n6
  have h5 := hok.n512
  have h6 : (prW c).length ≤ 2000 := by
    unfold prW
    simp only [List.length_append, List.length_cons, List.length_nil]
    omega
  unfold lineF
  simp only [List.length_cons, List.length_nil] at h1
  omega
theorem parseP_A {c : Cal} (h : chkF c = 0) (S : Store) : CallA Tryd.prog 14 [.str (lineF (prW c))] S fun r S' => r = .tup [.agg (calR c), .int .i64 0] ∧ S' = S := by
  obtain ⟨h1, h2⟩ := par_line (fun _ => none) h
  have hp := parse_A (fun _ => none) (fun p t h => by cases h) (lineF (prW c)) (line_len h) (fun l hl p hpl hpp S => by
    rw [h2] at hl
    cases hl
    have := (prW_wd (chk_ok h) p hpl).1
    rw [this] at hpp
    cases hpp) S
  rw [h1] at hp
  exact hp
set_option maxHeartbeats 1000000 in
theorem awake_A (S : Store) : CallA Tryd.prog 7 [] S fun r S' => r = .bool true ∧ S' = S := by
  refine CallA.withNeat Tryd.func7 c10007 fun hn => ?_
  refine CallA.fin Tryd.func7 c10007 (Nat.le_of_ble_eq_true rfl) fun σ hσ => ?_
  obtain ⟨l1, l2, l3⟩ := chk_lens ex_ok
  have pr := fun S => print_A exC (fun x hx => l3 x hx) (by omega) (by omega) S
  have pa := fun S => parseP_A ex_ok S
  have fm := fun S => from_A exC l1 S
  have sm := fun S => same_A exC ⟨l1, l2⟩ l3 S
  unfold priF at pr
  rw [ex_ok] at pr
  simp only [if_true, ex_line] at pr pa
  simp only [exC, calR, itmR, chgR, txR, exT, lonW, nycW, baW, yowW, List.map_cons, List.map_nil] at pr pa fm sm
  simp (disch := first | omega | (simp only [lenT]; omega)) only [a10007, evSt, ↓evPre, ↓evPreW, evPost, evPostW, evR, evU, seval]
  refine (pr _).then ?_
  simp (disch := first | omega | (simp only [lenT]; omega)) only [evSt, ↓evPre, ↓evPreW, evPost, evPostW, evR, evU, seval]
  refine (pa _).then ?_
  simp (disch := first | omega | (simp only [lenT]; omega)) only [evSt, ↓evPre, ↓evPreW, evPost, evPostW, evR, evU, seval]
  refine exD.intro (fm _) ?_
  simp (disch := first | omega | (simp only [lenT]; omega)) only [evSt, ↓evPre, ↓evPreW, evPost, evPostW, evR, evU, seval]
  refine (fm _).then ?_
  simp (disch := first | omega | (simp only [lenT]; omega)) only [evSt, ↓evPre, ↓evPreW, evPost, evPostW, evR, evU, seval]
  refine (sm _).then ?_
  simp (disch := first | omega | (simp only [lenT]; omega)) only [evSt, ↓evPre, ↓evPreW, evPost, evPostW, evR, evU, seval]
  exact ⟨_, S, hn.fgt _, .imm rfl, Nat.le_refl _, rfl, rfl⟩
end Go.Proofs.YtkdbghhdklfoiaaDoor
