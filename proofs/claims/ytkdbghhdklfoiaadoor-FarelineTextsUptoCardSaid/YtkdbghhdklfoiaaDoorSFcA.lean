/- Arrays of two elements among what a law is given. -/
import Derived.Test.YtkdbghhdklfoiaaDoorSAlB
import Derived.OpenShut
import Derived.Stop.LaidErr
import Derived.Test.YtkdbghhdklfoiaaDoorSFc7
namespace Go.Proofs.YtkdbghhdklfoiaaDoor
open Go Go.AL Go.RowKit
set_option linter.unusedSectionVars false
variable [Go.AL.Mode] [Go.AL.LooseM]
set_option linter.unusedVariables false
set_option linter.unusedSimpArgs false
end Go.Proofs.YtkdbghhdklfoiaaDoor
/- How what the laws are given is read. -/
namespace Go.Proofs.YtkdbghhdklfoiaaDoor
open Go Go.AL
set_option linter.unusedSectionVars false
variable [Go.AL.Mode] [Go.AL.LooseM]
set_option linter.unusedSimpArgs false
set_option linter.unusedVariables false
structure Tx where
  code : Txt
  kind : Int
  ctry : Txt
  am : Int
  scope : Int
  trans : Int
  free : List Txt
theorem txO : Opens Tryd.prog 9 txR (fun _ => True) := Opens.as (Opens.str (by kernel_rfl)) txR (fun _ => True) (fun p : Txt => p) (fun _ => rfl) (fun _ _ => trivial)
theorem txsO : Opens Tryd.prog 70 (fun l : List Txt => [.sl 1 (l.map txR)]) (fun _ => True) :=
  Opens.as (Opens.slice (q := 9) (sz := 1) (by kernel_rfl) (by kernel_rfl) (by omega) (fun _ => rfl) txO) (fun l : List Txt => [.sl 1 (l.map txR)]) (fun _ => True) (fun p => p) (fun _ => rfl) (fun _ _ => trivial)
theorem chgO : Opens Tryd.prog 74 (chgR) (fun _ => True) :=
  Opens.as (Opens.struct Tryd.underlying74 (by kernel_rfl) (OpensL.cons (Opens.str (by kernel_rfl)) (OpensL.one (Opens.int (k := .i64) (by kernel_rfl))))) (chgR) (fun _ => True) (fun p : Txt × Int => (Chg.mk p.1 p.2 : Chg)) (fun _ => rfl) (fun _ _ => trivial)
theorem chgsO : Opens Tryd.prog 35 (fun l : List Chg => [.sl 2 (l.map chgR)]) (fun _ => True) :=
  Opens.as (Opens.slice (q := 74) (sz := 2) (by kernel_rfl) (by kernel_rfl) (by omega) (fun _ => rfl) chgO) (fun l : List Chg => [.sl 2 (l.map chgR)]) (fun _ => True) (fun p => p) (fun _ => rfl) (fun _ _ => trivial)
structure Pri where
  p : Cm.Pls
  t : Cm.Tar
  tx : List Tx
  l : List Cm.Wnt
  q : Qt
end Go.Proofs.YtkdbghhdklfoiaaDoor
/- The reference's look at a fare calculation; law Prices. -/
namespace Go.Proofs.YtkdbghhdklfoiaaDoor
open Go Go.AL Go.RowKit
set_option linter.unusedSectionVars false
variable [Go.AL.Mode] [Go.AL.LooseM]
set_option linter.unusedSimpArgs false
set_option linter.unusedVariables false
def ritErr (x : Itm) : Int := if szB x = false then 4 else if nmB x = false then 5 else 0
theorem over_A (n : Int) (S : Store) : CallA Tryd.prog 29 [.int .i64 n] S fun r S' => r = .bool (!okB n) ∧ S' = S := by
  refine CallA.keep Tryd.func29 c10029 (Nat.le_of_ble_eq_true rfl) fun σ hσ => ?_
  unfold okB
  by_cases h1 : n < 0
  · rw [dF (show ¬ 0 ≤ n by omega)]
    simp (disch := first | omega | (simp only [lenT]; omega)) only [a10029, dT h1, Bool.false_and, Bool.not_false, evSt, ↓evPre, ↓evPreW, evPost, evPostW, evR, evU, seval]
  · rw [dT (show 0 ≤ n by omega)]
    by_cases h2 : 1099511627776 < n
    · rw [dF (show ¬ n ≤ 1099511627776 by omega)]
      simp (disch := first | omega | (simp only [lenT]; omega)) only [a10029, dF h1, dT h2, Bool.and_false, Bool.not_false, evSt, ↓evPre, ↓evPreW, evPost, evPostW, evR, evU, seval]
    · rw [dT (show n ≤ 1099511627776 by omega)]
      simp (disch := first | omega | (simp only [lenT]; omega)) only [a10029, dF h1, dF h2, Bool.and_self, Bool.not_true, evSt, ↓evPre, ↓evPreW, evPost, evPostW, evR, evU, seval]
set_option maxHeartbeats 2000000 in
theorem ritem_A (x : Itm) (hc : x.cs.length ≤ 1000000000) (hk : x.ks.length ≤ 1000000000) (S : Store) :
    CallA Tryd.prog 28 [.agg (itmR x)] S fun r S' => r = .int .i64 (ritErr x) ∧ S' = S := by
  refine CallA.keep Tryd.func28 c10028 (Nat.le_of_ble_eq_true rfl) fun σ hσ => ?_
  have ca := fun s S => rairportT_A s S
  have cc := fun s S => rcarrierT_A s S
  have cd := fun s S => rcodeT_A s 1 8 S
  unfold ritErr
  by_cases h1 : (x.ks.length : Int) < 1
  · rw [if_pos (by unfold szB; rw [dF (show ¬ 1 ≤ x.ks.length by omega)]; rfl)]
    simp (disch := first | omega | (simp only [lenT]; omega)) only [a10028, itmR, wrap_i64, dT h1, evSt, ↓evPre, ↓evPreW, evPost, evPostW, evR, evU, seval]
  by_cases h2 : 6 < (x.ks.length : Int)
  · rw [if_pos (by unfold szB; rw [dF (show ¬ x.ks.length ≤ 6 by omega)]; simp)]
    simp (disch := first | omega | (simp only [lenT]; omega)) only [a10028, itmR, wrap_i64, dF h1, dT h2, evSt, ↓evPre, ↓evPreW, evPost, evPostW, evR, evU, seval]
  by_cases h3 : (x.cs.length : Int) = (x.ks.length : Int) + 1
  case neg =>
    rw [if_pos (by unfold szB; rw [dF (show ¬ x.cs.length = x.ks.length + 1 by omega)]; simp)]
    simp (disch := first | omega | (simp only [lenT]; omega)) only [a10028, itmR, wrap_i64, dF h1, dF h2, dF h3, evSt, ↓evPre, ↓evPreW, evPost, evPostW, evR, evU, seval]
  have hz : szB x = true := by unfold szB; rw [dT (show 1 ≤ x.ks.length by omega), dT (show x.ks.length ≤ 6 by omega), dT (show x.cs.length = x.ks.length + 1 by omega)]; rfl
  rw [if_neg (by rw [hz]; simp)]
  simp (disch := first | omega | (simp only [lenT]; omega)) only [a10028, itmR, wrap_i64, h3, dF h1, dF h2, evSt, ↓evPre, ↓evPreW, evPost, evPostW, evR, evU, seval]
  refine (cd _ _).then ?_
  simp (disch := first | omega | (simp only [lenT]; omega)) only [evSt, ↓evPre, ↓evPreW, evPost, evPostW, evR, evU, seval]
  refine loopA (ι := Nat × Bool) (fun i => [(1, .cptr (itmR x)), (3, .bool i.2), (4, .int .i64 (i.1 : Nat))]) (fun _ => S) (fun i => i.1 ≤ x.cs.length ∧ i.2 = (codeF x.ba 1 8 && (x.cs.take i.1).all airF && (x.ks.take (i.1 - 1)).all carF)) (fun i => x.cs.length - i.1) (0, codeF x.ba 1 8) ⟨Nat.zero_le _, by simp⟩ ?_ rfl ?_
  · simp only [itmR, ↓evPre, ↓evPreW, evPost, evPostW, evR, evU, seval]
    try rfl
  rintro ⟨i, ok⟩ ⟨hi, hok⟩
  simp only at hi hok ⊢
  cases hcx : x.cs[i]? with
  | none =>
    have hge : x.cs.length ≤ i := List.getElem?_eq_none_iff.1 hcx
    have hlt : ¬ ((i : Int) < x.cs.length) := by omega
    rw [List.take_of_length_le hge, List.take_of_length_le (by omega)] at hok
    have hnm : nmB x = ok := by unfold nmB; exact hok.symm
    rw [hnm]
    rw [h3] at hlt
    cases ok <;> simp (disch := first | omega | (simp only [lenT]; omega)) only [h3, dF hlt, itmR, evSt, ↓evPre, ↓evPreW, evPost, evPostW, evR, evU, seval]
    all_goals rfl
  | some t =>
    have hlt' := (List.getElem?_eq_some_iff.1 hcx).1
    have hlt : ((i : Int) < x.cs.length) := by omega
    have hk1 : (i : Int) + 1 = ((i + 1 : Nat) : Int) := by omega
    have htk : (x.cs.take (i + 1)).all airF = ((x.cs.take i).all airF && airF t) := by rw [take_at hcx, List.all_append]; simp
    rw [h3] at hlt
    cases ok with
    | false =>
      simp (disch := first | omega | (simp only [lenT]; omega)) only [h3, dT hlt, itmR, wrap_i64, hk1, evSt, ↓evPre, ↓evPreW, evPost, evPostW, evR, evU, seval]
      refine ⟨(i + 1, false), ⟨by simp only; omega, ?_⟩, by simp only; omega, by first | rfl | exact ⟨rfl, rfl⟩ | exact ⟨rfl, rfl, rfl⟩⟩
      simp only
      rw [htk, Nat.add_sub_cancel]
      cases i with
      | zero => simp at hok ⊢; simp [hok]
      | succ j =>
        have hj2 : (x.ks.take (j + 1)).all carF = true → (x.ks.take j).all carF = true := fun h => by
          rw [List.all_eq_true] at *
          intro c hc
          exact h c (by rw [List.take_add_one]; exact List.mem_append_left _ hc)
        rw [Nat.add_sub_cancel] at hok
        symm
        rw [Bool.and_eq_false_iff, Bool.and_eq_false_iff] at *
        rw [eq_comm, Bool.and_eq_false_iff, Bool.and_eq_false_iff] at hok
        rcases hok with (h | h) | h
        · exact .inl (.inl h)
        · exact .inl (.inr (by rw [h]; rfl))
        · refine .inr ?_
          cases hq : (x.ks.take (j + 1)).all carF
          · rfl
          · rw [hj2 hq] at h; cases h
    | true =>
      have hok' : codeF x.ba 1 8 = true ∧ (x.cs.take i).all airF = true ∧ (x.ks.take (i - 1)).all carF = true := by
        rw [eq_comm, Bool.and_eq_true, Bool.and_eq_true] at hok
        exact ⟨hok.1.1, hok.1.2, hok.2⟩
      simp (disch := first | omega | (simp only [lenT]; omega)) only [h3, dT hlt, hcx, itmR, txR, evSt, ↓evPre, ↓evPreW, evPost, evPostW, evR, evU, seval]
      refine (ca _ _).then ?_
      cases hat : airF t with
      | false =>
        simp (disch := first | omega | (simp only [lenT]; omega)) only [wrap_i64, hk1, evSt, ↓evPre, ↓evPreW, evPost, evPostW, evR, evU, seval]
        refine ⟨(i + 1, false), ⟨by simp only; omega, ?_⟩, by simp only; omega, by first | rfl | exact ⟨rfl, rfl⟩ | exact ⟨rfl, rfl, rfl⟩⟩
        simp only
        rw [htk, hat]
        simp
      | true =>
        by_cases hi0 : (i : Int) = 0
        · have hi0' : i = 0 := by omega
          subst hi0'
          simp (disch := first | omega | (simp only [lenT]; omega)) only [wrap_i64, hk1, evSt, ↓evPre, ↓evPreW, evPost, evPostW, evR, evU, seval]
          refine ⟨(0 + 1, true), ⟨by simp only; omega, ?_⟩, by simp only; omega, by first | rfl | exact ⟨rfl, rfl⟩ | exact ⟨rfl, rfl, rfl⟩⟩
          simp only
          rw [htk, hat, hok'.1]
          simp
        · obtain ⟨d, hd⟩ : ∃ d, x.ks[i - 1]? = some d := ⟨_, List.getElem?_eq_getElem (by omega)⟩
          have hi1 : (i : Int) - 1 = ((i - 1 : Nat) : Int) := by omega
          have htk2 : (x.ks.take i).all carF = carF d := by
            have : i = (i - 1) + 1 := by omega
            rw [this, take_at hd, List.all_append, hok'.2.2]
            simp
          simp (disch := first | omega | (simp only [lenT]; omega)) only [dF hi0, wrap_i64, hi1, hd, txR, evSt, ↓evPre, ↓evPreW, evPost, evPostW, evR, evU, seval]
          refine (cc _ _).then ?_
          cases hcd : carF d <;> simp (disch := first | omega | (simp only [lenT]; omega)) only [wrap_i64, hk1, evSt, ↓evPre, ↓evPreW, evPost, evPostW, evR, evU, seval]
          all_goals
            refine ⟨(i + 1, carF d), ⟨by simp only; omega, ?_⟩, by simp only; omega, by rw [hcd]; first | rfl | exact ⟨rfl, rfl⟩ | exact ⟨rfl, rfl, rfl⟩⟩
            simp only
            rw [htk, hat, hok'.1, hok'.2.1, Nat.add_sub_cancel, htk2]
            simp
set_option maxHeartbeats 4000000 in
theorem rchk_A (c : Cal) (hcl : ∀ x ∈ c.its, x.cs.length ≤ 1000000000 ∧ x.ks.length ≤ 1000000000) (l1 : c.its.length ≤ 1000000000) (l2 : c.txs.length ≤ 1000000000) (S : Store) :
    CallA Tryd.prog 13 [.agg (calR c)] S fun r S' => r = .int .i64 (chkF c) ∧ S' = S := by
  refine CallA.withNeat Tryd.func13 c10013 fun hn => ?_
  refine CallA.fin Tryd.func13 c10013 (Nat.le_of_ble_eq_true rfl) fun σ hσ => ?_
  have cd := fun s S => rcodeT_A s 1 8 S
  have cm := fun n S => over_A n S
  unfold chkF
  by_cases h1 : (c.its.length : Int) < 1
  · rw [if_pos (.inl (by omega))]
    simp (disch := first | omega | (simp only [lenT]; omega)) only [a10013, calR, dT h1, evSt, ↓evPre, ↓evPreW, evPost, evPostW, evR, evU, seval]
    exact ⟨_, S, hn.self, .imm rfl, Nat.le_refl _, rfl, rfl⟩
  by_cases h2 : 6 < (c.its.length : Int)
  · rw [if_pos (.inr (.inl (by omega)))]
    simp (disch := first | omega | (simp only [lenT]; omega)) only [a10013, calR, dF h1, dT h2, evSt, ↓evPre, ↓evPreW, evPost, evPostW, evR, evU, seval]
    exact ⟨_, S, hn.self, .imm rfl, Nat.le_refl _, rfl, rfl⟩
  by_cases h3 : 512 < (c.txs.length : Int)
  · rw [if_pos (.inr (.inr (by omega)))]
    simp (disch := first | omega | (simp only [lenT]; omega)) only [a10013, calR, dF h1, dF h2, dT h3, evSt, ↓evPre, ↓evPreW, evPost, evPostW, evR, evU, seval]
    exact ⟨_, S, hn.self, .imm rfl, Nat.le_refl _, rfl, rfl⟩
  rw [if_neg (by omega)]
  simp (disch := first | omega | (simp only [lenT]; omega)) only [a10013, calR, dF h1, dF h2, dF h3, evSt, ↓evPre, ↓evPreW, evPost, evPostW, evR, evU, seval]
  refine loopF (ι := Nat × Txt) (fun i => [(1, .cptr (calR c)), (3, .int .i64 (sumI (c.its.take i.1))), (4, .str i.2), (5, .int .i64 (i.1 : Nat))]) (fun _ => S)
    (fun i => i.1 ≤ c.its.length ∧ (∀ y ∈ c.its.take i.1, okB y.am = true) ∧ (i.1 = 0 ∨ lastOf (c.its.take i.1) = some i.2) ∧ itsErr none c.its = itsErr (lastOf (c.its.take i.1)) (c.its.drop i.1)) (fun i => c.its.length - i.1) (fun i hi => by rw [hσ]; exact Nat.le_refl _) (0, []) ⟨Nat.zero_le _, fun y hy => by simp at hy, .inl rfl, rfl⟩ (.inl ⟨?_, rfl⟩) ?_
  · simp only [calR, sumI, List.map_nil, List.sum_nil, ↓evPre, ↓evPreW, evPost, evPostW, evR, evU, seval]
    try rfl
  rintro ⟨k, lst⟩ ⟨hk, hg, hlast, he⟩
  simp only at hk hg hlast he ⊢
  cases hcx : c.its[k]? with
  | some x =>
    have hlt' := (List.getElem?_eq_some_iff.1 hcx).1
    have hlt : ((k : Int) < c.its.length) := by omega
    have hk1 : (k : Int) + 1 = ((k + 1 : Nat) : Int) := by omega
    have hxl := hcl x (List.mem_of_getElem? hcx)
    have ck := fun S => ritem_A x hxl.1 hxl.2 S
    simp only [itmR] at ck
    rw [drop_at hcx, itsErr] at he
    simp (disch := first | omega | (simp only [lenT]; omega)) only [dT hlt, hcx, itmR, calR, evSt, ↓evPre, ↓evPreW, evPost, evPostW, evR, evU, seval]
    refine (ck _).then ?_
    unfold ritErr
    cases hs : szB x with
    | false =>
      have hz : itmErr (lastOf (c.its.take k)) x = 4 := by unfold itmErr; rw [if_pos hs]
      rw [hz, if_neg (by decide)] at he
      simp (disch := first | omega | (simp only [lenT]; omega)) only [if_true, dF (show ¬ (4 : Int) = 0 by decide), evSt, ↓evPre, ↓evPreW, evPost, evPostW, evR, evU, seval]
      exact ⟨_, S, hn.fgt _, .imm rfl, Nat.le_refl _, by rw [he]; rfl, rfl⟩
    | true =>
    cases hm : nmB x with
    | false =>
      have hz : itmErr (lastOf (c.its.take k)) x = 5 := by unfold itmErr; rw [if_neg (by rw [hs]; simp), if_pos hm]
      rw [hz, if_neg (by decide)] at he
      simp (disch := first | omega | (simp only [lenT]; omega)) only [if_true, Bool.true_eq_false, if_false, dF (show ¬ (5 : Int) = 0 by decide), evSt, ↓evPre, ↓evPreW, evPost, evPostW, evR, evU, seval]
      exact ⟨_, S, hn.fgt _, .imm rfl, Nat.le_refl _, by rw [he]; rfl, rfl⟩
    | true =>
    have hsz := sz_inv hs
    obtain ⟨t0, ht0⟩ : ∃ t0, x.cs[0]? = some t0 := ⟨_, List.getElem?_eq_getElem (by omega)⟩
    obtain ⟨t1, ht1⟩ : ∃ t1, x.cs[x.cs.length - 1]? = some t1 := ⟨_, List.getElem?_eq_getElem (by omega)⟩
    have hhd : x.cs.head? = some t0 := by rw [List.head?_eq_getElem?]; exact ht0
    have hln : x.cs.getLast? = some t1 := by rw [List.getLast?_eq_getElem?]; exact ht1
    have hn1 : (x.cs.length : Int) - 1 = ((x.cs.length - 1 : Nat) : Int) := by omega
    have hi0 : itmErr (lastOf (c.its.take k)) x = if lgB (lastOf (c.its.take k)) x = false then 15 else if okB x.am = false then 11 else 0 := by
      unfold itmErr
      rw [if_neg (by rw [hs]; simp), if_neg (by rw [hm]; simp)]
    have hb1 := sumI_bd _ hg
    rw [List.length_take] at hb1
    have hs1 : IntKind.i64.wrap (sumI (c.its.take k) + x.am) = sumI (c.its.take (k + 1)) ∨ okB x.am = false := by
      cases hm2 : okB x.am with
      | false => exact .inr rfl
      | true =>
        have hb2 := okB_iff.1 hm2
        exact .inl (by rw [wrap_i64 (by omega) (by omega), sumI_next hcx])
    have nxt : lgB (lastOf (c.its.take k)) x = true → okB x.am = true → ((k + 1 ≤ c.its.length) ∧ (∀ y ∈ c.its.take (k + 1), okB y.am = true) ∧ (k + 1 = 0 ∨ lastOf (c.its.take (k + 1)) = some t1) ∧ itsErr none c.its = itsErr (lastOf (c.its.take (k + 1))) (c.its.drop (k + 1))) := fun g1 g2 => by
      rw [hi0, g1, g2] at he
      refine ⟨by omega, mem_next hg hcx g2, .inr (by rw [lastOf_next hcx, hln]), ?_⟩
      rw [lastOf_next hcx]
      exact he
    have bad11 : lgB (lastOf (c.its.take k)) x = true → okB x.am = false → itsErr none c.its = 11 := fun g1 g2 => by
      rw [hi0, g1, g2] at he
      exact he
    by_cases hk0 : (0 : Int) < k
    · have hlo : lastOf (c.its.take k) = some lst := by
        rcases hlast with h0 | h0
        · omega
        · exact h0
      by_cases ht : t0 = lst
      · have hlg : lgB (lastOf (c.its.take k)) x = true := by rw [hlo]; unfold lgB; exact dT (by rw [hhd, ht])
        subst ht
        simp (disch := first | omega | (simp only [lenT]; omega)) only [if_true, Bool.true_eq_false, if_false, dT hk0, ht0, txR, evSt, ↓evPre, ↓evPreW, evPost, evPostW, evR, evU, seval]
        refine (cm _ _).then ?_
        cases hm2 : okB x.am with
        | false =>
          simp (disch := first | omega | (simp only [lenT]; omega)) only [evSt, ↓evPre, ↓evPreW, evPost, evPostW, evR, evU, seval]
          exact ⟨_, S, hn.fgt _, .imm rfl, Nat.le_refl _, by rw [bad11 hlg hm2]; rfl, rfl⟩
        | true =>
          simp (disch := first | omega | (simp only [lenT]; omega)) only [wrap_i64, hn1, ht1, txR, evSt, ↓evPre, ↓evPreW, evPost, evPostW, evR, evU, seval]
          rw [hs1.resolve_right (by rw [hm2]; simp)]
          simp (disch := first | omega | (simp only [lenT]; omega)) only [wrap_i64, hk1, evSt, ↓evPre, ↓evPreW, evPost, evPostW, evR, evU, seval]
          exact ⟨(k + 1, t1), nxt hlg hm2, by simp only; omega, back_under (hn.fgt _) (by simp only [calR, ↓evPre, ↓evPreW, evPost, evPostW, evR, evU, seval]; try rfl) (by simp [V.under, V.allUnder])⟩
      · have hlg : lgB (lastOf (c.its.take k)) x = false := by rw [hlo]; unfold lgB; exact dF (by rw [hhd]; intro h; exact ht (Option.some.inj h))
        have he15 : itsErr none c.its = 15 := by rw [hi0, hlg] at he; exact he
        simp (disch := first | omega | (simp only [lenT]; omega)) only [if_true, Bool.true_eq_false, if_false, dT hk0, dF ht, ht0, txR, evSt, ↓evPre, ↓evPreW, evPost, evPostW, evR, evU, seval]
        first
          | exact ⟨_, S, hn.fgt _, .imm rfl, Nat.le_refl _, by rw [he15]; rfl, rfl⟩
          | (refine ⟨fun _ => ⟨_, S, hn.fgt _, .imm rfl, Nat.le_refl _, by rw [he15]; rfl, rfl⟩, fun h => absurd ht h⟩)
          | exact fun _ => ⟨_, S, hn.fgt _, .imm rfl, Nat.le_refl _, by rw [he15]; rfl, rfl⟩
    · have hlg : lgB (lastOf (c.its.take k)) x = true := by
        have : k = 0 := by omega
        subst this
        rfl
      simp (disch := first | omega | (simp only [lenT]; omega)) only [if_true, Bool.true_eq_false, if_false, dF hk0, ht0, txR, evSt, ↓evPre, ↓evPreW, evPost, evPostW, evR, evU, seval]
      refine (cm _ _).then ?_
      cases hm2 : okB x.am with
      | false =>
        simp (disch := first | omega | (simp only [lenT]; omega)) only [evSt, ↓evPre, ↓evPreW, evPost, evPostW, evR, evU, seval]
        exact ⟨_, S, hn.fgt _, .imm rfl, Nat.le_refl _, by rw [bad11 hlg hm2]; rfl, rfl⟩
      | true =>
        simp (disch := first | omega | (simp only [lenT]; omega)) only [wrap_i64, hn1, ht1, txR, evSt, ↓evPre, ↓evPreW, evPost, evPostW, evR, evU, seval]
        rw [hs1.resolve_right (by rw [hm2]; simp)]
        simp (disch := first | omega | (simp only [lenT]; omega)) only [wrap_i64, hk1, evSt, ↓evPre, ↓evPreW, evPost, evPostW, evR, evU, seval]
        exact ⟨(k + 1, t1), nxt hlg hm2, by simp only; omega, back_under (hn.fgt _) (by simp only [calR, ↓evPre, ↓evPreW, evPost, evPostW, evR, evU, seval]; try rfl) (by simp [V.under, V.allUnder])⟩
  | none =>
    have hge : c.its.length ≤ k := List.getElem?_eq_none_iff.1 hcx
    have hlt : ¬ ((k : Int) < c.its.length) := by omega
    rw [List.take_of_length_le hge, List.drop_of_length_le hge] at he
    rw [List.take_of_length_le hge] at hg ⊢
    rw [if_pos (show itsErr none c.its = 0 from he)]
    clear hcx hge hk he hlast
    simp (disch := first | omega | (simp only [lenT]; omega)) only [dF hlt, calR, evSt, ↓evPre, ↓evPreW, evPost, evPostW, evR, evU, seval]
    refine loopF (ι := Nat) (fun k => [(1, .cptr (calR c)), (3, .int .i64 (sumI c.its)), (8, .int .i64 (sumI c.its + sumT (c.txs.take k))), (9, .int .i64 (k : Nat))]) (fun _ => S) (fun k => k ≤ c.txs.length ∧ (∀ y ∈ c.txs.take k, okB y.am = true) ∧ txsErr c.txs = txsErr (c.txs.drop k)) (fun k => c.txs.length - k) (fun i hi => by rw [hσ]; exact Nat.le_refl _) 0 ⟨Nat.zero_le _, fun y hy => by simp at hy, rfl⟩ (.inl ⟨?_, rfl⟩) ?_
    · simp only [calR, sumT, List.map_nil, List.sum_nil, Int.add_zero, ↓evPre, ↓evPreW, evPost, evPostW, evR, evU, seval]
      try rfl
    clear hlt k
    have hb0 := sumI_bd _ hg
    rintro k ⟨hk, hg2, he⟩
    cases hcx : c.txs[k]? with
    | some x =>
      have hlt' := (List.getElem?_eq_some_iff.1 hcx).1
      have hlt : ((k : Int) < c.txs.length) := by omega
      have hk1 : (k : Int) + 1 = ((k + 1 : Nat) : Int) := by omega
      rw [drop_at hcx, txsErr] at he
      simp (disch := first | omega | (simp only [lenT]; omega)) only [dT hlt, hcx, chgR, calR, evSt, ↓evPre, ↓evPreW, evPost, evPostW, evR, evU, seval]
      refine (cd _ _).then ?_
      cases hco : codeF x.co 1 8 with
      | false =>
        have hz : txErr x = 5 := by unfold txErr; rw [hco]; rfl
        rw [hz, if_neg (by decide)] at he
        simp (disch := first | omega | (simp only [lenT]; omega)) only [evSt, ↓evPre, ↓evPreW, evPost, evPostW, evR, evU, seval]
        exact ⟨_, S, hn.self, .imm rfl, Nat.le_refl _, by rw [he, if_neg (by decide)], rfl⟩
      | true =>
        simp (disch := first | omega | (simp only [lenT]; omega)) only [hcx, chgR, evSt, ↓evPre, ↓evPreW, evPost, evPostW, evR, evU, seval]
        refine (cm _ _).then ?_
        cases hok : okB x.am with
        | false =>
          have hz : txErr x = 11 := by unfold txErr; rw [hco, hok]; rfl
          rw [hz, if_neg (by decide)] at he
          simp (disch := first | omega | (simp only [lenT]; omega)) only [evSt, ↓evPre, ↓evPreW, evPost, evPostW, evR, evU, seval]
          exact ⟨_, S, hn.self, .imm rfl, Nat.le_refl _, by rw [he, if_neg (by decide)], rfl⟩
        | true =>
          have hz : txErr x = 0 := by unfold txErr; rw [hco, hok]; rfl
          rw [if_pos hz] at he
          have hb1 := sumT_bd _ hg2
          have hb2 := okB_iff.1 hok
          rw [List.length_take] at hb1
          have hs : IntKind.i64.wrap (sumI c.its + sumT (c.txs.take k) + x.am) = sumI c.its + sumT (c.txs.take (k + 1)) := by rw [wrap_i64 (by omega) (by omega), sumT_next hcx]; omega
          simp (disch := first | omega | (simp only [lenT]; omega)) only [hcx, chgR, evSt, ↓evPre, ↓evPreW, evPost, evPostW, evR, evU, seval]
          rw [hs]
          simp (disch := first | omega | (simp only [lenT]; omega)) only [wrap_i64, hk1, evSt, ↓evPre, ↓evPreW, evPost, evPostW, evR, evU, seval]
          exact ⟨k + 1, ⟨by omega, mem_next hg2 hcx hok, he⟩, by omega, .inl ⟨by simp only [calR, ↓evPre, ↓evPreW, evPost, evPostW, evR, evU, seval]; try rfl, rfl⟩⟩
    | none =>
      have hge : c.txs.length ≤ k := List.getElem?_eq_none_iff.1 hcx
      have hlt : ¬ ((k : Int) < c.txs.length) := by omega
      rw [List.take_of_length_le hge] at hg2 ⊢
      rw [List.drop_of_length_le hge] at he
      rw [if_pos (show txsErr c.txs = 0 from he)]
      unfold smErr
      simp (disch := first | omega | (simp only [lenT]; omega)) only [dF hlt, calR, evSt, ↓evPre, ↓evPreW, evPost, evPostW, evR, evU, seval]
      refine (cm _ _).then ?_
      cases hf : okB c.fare with
      | false =>
        simp (disch := first | omega | (simp only [lenT]; omega)) only [true_or, if_true, evSt, ↓evPre, ↓evPreW, evPost, evPostW, evR, evU, seval]
        exact ⟨_, S, hn.self, .imm rfl, Nat.le_refl _, rfl, rfl⟩
      | true =>
      simp (disch := first | omega | (simp only [lenT]; omega)) only [evSt, ↓evPre, ↓evPreW, evPost, evPostW, evR, evU, seval]
      refine (cm _ _).then ?_
      cases ht : okB c.tot with
      | false =>
        simp (disch := first | omega | (simp only [lenT]; omega)) only [or_true, if_true, evSt, ↓evPre, ↓evPreW, evPost, evPostW, evR, evU, seval]
        exact ⟨_, S, hn.self, .imm rfl, Nat.le_refl _, rfl, rfl⟩
      | true =>
      rw [if_neg (by simp)]
      by_cases e1 : c.fare = sumI c.its
      · have e2 : (sumI c.its ≠ c.fare ∨ c.fare + sumT c.txs ≠ c.tot) ↔ ¬ c.tot = sumI c.its + sumT c.txs := by
          constructor
          · rintro (h | h)
            · exact absurd e1.symm h
            · intro h2; rw [e1] at h; exact h h2.symm
          · intro h; exact .inr fun h2 => h (by rw [← h2, e1])
        by_cases e3 : c.tot = sumI c.its + sumT c.txs
        · rw [if_neg (fun h => e2.1 h e3)]
          simp (disch := first | omega | (simp only [lenT]; omega)) only [dT e1, dT e3, evSt, ↓evPre, ↓evPreW, evPost, evPostW, evR, evU, seval]
          exact ⟨_, S, hn.self, .imm rfl, Nat.le_refl _, rfl, rfl⟩
        · rw [if_pos (e2.2 e3)]
          simp (disch := first | omega | (simp only [lenT]; omega)) only [dT e1, dF e3, evSt, ↓evPre, ↓evPreW, evPost, evPostW, evR, evU, seval]
          exact ⟨_, S, hn.self, .imm rfl, Nat.le_refl _, rfl, rfl⟩
      · rw [if_pos (.inl fun h => e1 h.symm)]
        simp (disch := first | omega | (simp only [lenT]; omega)) only [dF e1, evSt, ↓evPre, ↓evPreW, evPost, evPostW, evR, evU, seval]
        exact ⟨_, S, hn.self, .imm rfl, Nat.le_refl _, rfl, rfl⟩
end Go.Proofs.YtkdbghhdklfoiaaDoor
