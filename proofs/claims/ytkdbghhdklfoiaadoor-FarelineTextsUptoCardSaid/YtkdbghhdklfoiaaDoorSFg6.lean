/- Law Texts. -/
import Derived.Test.YtkdbghhdklfoiaaDoorSFg5
import Derived.Test.YtkdbghhdklfoiaaDoorSAlB
import Derived.Stop.LaidErr
namespace Go.Proofs.YtkdbghhdklfoiaaDoor
open Go Go.AL Go.RowKit
set_option linter.unusedSectionVars false
variable [Go.AL.Mode] [Go.AL.LooseM]
set_option linter.unusedSimpArgs false
set_option linter.unusedVariables false
set_option maxHeartbeats 1000000 in
theorem to_A (c : Cal) (hl : c.its.length ≤ 1000000) (S : Store) : CallA Tryd.prog 16 [.agg (calR c)] S fun r S' => r = .agg (calR c) ∧ S' = S := by
  refine CallA.withNeat Tryd.func16 c10016 fun hn => ?_
  refine CallA.fin Tryd.func16 c10016 (Nat.le_of_ble_eq_true rfl) fun σ hσ => ?_
  simp (disch := first | omega | (simp only [lenT]; omega)) only [a10016, calR, evSt, ↓evPre, ↓evPreW, evPost, evPostW, evR, evU, seval]
  have h0 : OfS 49 72 S [] .nilSl [.nilSl, .sl 2 (c.txs.map chgR), .int .i64 c.fare, .int .i64 c.tot] (S ++ [⟨0, some (.arr 49 4 [[.nilSl, .nilSl, .int .i64 0, .int .i64 0]])⟩, ⟨0, some (.arr 49 4 [[.nilSl, .sl 2 (c.txs.map chgR), .int .i64 c.fare, .int .i64 c.tot]])⟩]) :=
    ⟨ob_app0.trans ob_head, by rw [ob_app, ob_cons, ob_head], .inl ⟨rfl, rfl⟩, ⟨_, rfl⟩⟩
  refine loopF (ι := Nat × V × Store) (fun i => [(1, .cptr (calR c)), (2, .ptr S.length 0 0 0), (3, .ptr (S.length + 1) 0 0 0), (4, .int .i64 i.1)]) (fun i => i.2.2)
    (fun i => i.1 ≤ c.its.length ∧ OfS 49 72 S (c.its.take i.1) i.2.1 [i.2.1, .sl 2 (c.txs.map chgR), .int .i64 c.fare, .int .i64 c.tot] i.2.2) (fun i => c.its.length - i.1)
    (fun i hi => by rw [hσ]; have := hi.2.len; omega) (0, .nilSl, _) ⟨Nat.zero_le _, h0⟩ (.inl ⟨?_, rfl⟩) ?_
  · simp only [calR, ↓evPre, ↓evPreW, evPost, evPostW, evR, evU, seval]
    try rfl
  clear h0
  rintro ⟨k, v, S1⟩ ⟨hk, hP⟩
  simp only at hk hP ⊢
  have b0 := hP.b0
  have bx := hP.bx
  cases hcx : c.its[k]? with
  | some x =>
    have hlt' := (List.getElem?_eq_some_iff.1 hcx).1
    have hlt : ((k : Int) < c.its.length) := by omega
    have hk1 : (k : Int) + 1 = ((k + 1 : Nat) : Int) := by omega
    simp (disch := first | omega | (simp only [lenT]; omega)) only [dT hlt, hcx, bx, itmR, calR, evSt, ↓evPre, ↓evPreW, evPost, evPostW, evR, evU, seval]
    refine hP.app (x := x) (by simp; omega) fun v' S2 hP2 f2 i2 => ?_
    have bx2 := hP2.bx
    have ck := hP2.l.cells
    simp (disch := first | omega | (simp only [lenT]; omega)) only [bx2, ck, wrap_i64, hk1, evSt, ↓evPre, ↓evPreW, evPost, evPostW, evR, evU, seval]
    refine ⟨(k + 1, v', _), ⟨by simp only; omega, ?_⟩, by simp only; omega, .inl ⟨by simp only [calR, ↓evPre, ↓evPreW, evPost, evPostW, evR, evU, seval]; try rfl, rfl⟩⟩
    simp only
    rw [take_at hcx]
    exact hP2.box [v', .sl 2 (c.txs.map chgR), .int .i64 c.fare, .int .i64 c.tot]
  | none =>
    have hge : c.its.length ≤ k := List.getElem?_eq_none_iff.1 hcx
    have hlt : ¬ ((k : Int) < c.its.length) := by omega
    rw [List.take_of_length_le hge] at hP
    have ok := hP.l.cellOk
    have hob := obj_set (rows' := [[v, .sl 2 (c.txs.map chgR), .int .i64 c.fare, .int .i64 c.tot]]) (ver' := 0) b0
    simp (disch := first | omega | (simp only [lenT]; omega)) only [dF hlt, b0, bx, ok, hob, calR, evSt, ↓evPre, ↓evPreW, evPost, evPostW, evR, evU, seval]
    exact of_end hn hP c.fare c.tot _
theorem rlong_A (l : List Txt) (S : Store) : CallA Tryd.prog 37 [.sl 1 (l.map txR), .int .i64 100] S fun r S' => (∃ b, r = .bool b ∧ (b = false → l.length ≤ 100)) ∧ S' = S := by
  refine CallA.keep Tryd.func37 c10037 (Nat.le_of_ble_eq_true rfl) fun σ hσ => ?_
  by_cases h1 : (100 : Int) < l.length
  · simp (disch := first | omega | (simp only [lenT]; omega)) only [a10037, dT h1, evSt, ↓evPre, ↓evPreW, evPost, evPostW, evR, evU, seval]
    exact ⟨true, rfl, fun h => by cases h⟩
  simp (disch := first | omega | (simp only [lenT]; omega)) only [a10037, dF h1, evSt, ↓evPre, ↓evPreW, evPost, evPostW, evR, evU, seval]
  refine loopA (ι := Nat × Int) (fun i => [(0, .sl 1 (l.map txR)), (1, .int .i64 100), (5, .int .i64 i.2), (6, .int .i64 i.1)]) (fun _ => S) (fun i => i.1 ≤ l.length) (fun i => l.length - i.1) (0, 0) (Nat.zero_le _) ?_ rfl ?_
  · simp only [↓evPre, ↓evPreW, evPost, evPostW, evR, evU, seval]
    try rfl
  rintro ⟨k, z⟩ hk
  simp only at hk ⊢
  cases hc : l[k]? with
  | none =>
    have hge : l.length ≤ k := List.getElem?_eq_none_iff.1 hc
    have hlt : ¬ ((k : Int) < l.length) := by omega
    simp (disch := first | omega | (simp only [lenT]; omega)) only [dF hlt, evSt, ↓evPre, ↓evPreW, evPost, evPostW, evR, evU, seval]
    exact ⟨_, rfl, fun _ => by omega⟩
  | some t =>
    have hlt' := (List.getElem?_eq_some_iff.1 hc).1
    have hlt : ((k : Int) < l.length) := by omega
    have hk1 : (k : Int) + 1 = ((k + 1 : Nat) : Int) := by omega
    simp (disch := first | omega | (simp only [lenT]; omega)) only [dT hlt, hc, txR, wrap_i64, hk1, evSt, ↓evPre, ↓evPreW, evPost, evPostW, evR, evU, seval]
    exact ⟨(k + 1, _), by simp only; omega, by simp only; omega, by first | rfl | exact ⟨rfl, rfl⟩ | exact ⟨rfl, rfl, rfl⟩⟩
set_option maxHeartbeats 1000000 in
theorem rbig_A (c : Cal) (S : Store) : CallA Tryd.prog 15 [.agg (calR c)] S fun r S' => (∃ b, r = .bool b ∧ (b = false → c.its.length ≤ 10 ∧ c.txs.length ≤ 600 ∧ ∀ x ∈ c.its, x.cs.length ≤ 100 ∧ x.ks.length ≤ 100)) ∧ S' = S := by
  refine CallA.withNeat Tryd.func15 c10015 fun hn => ?_
  refine CallA.fin Tryd.func15 c10015 (Nat.le_of_ble_eq_true rfl) fun σ hσ => ?_
  have lo := fun l S => rlong_A l S
  have big : ∀ S1 : Store, (∃ T, S1 = S ++ T) → ∃ r1 S2, Fgt S1 S2 ∧ Frz S1 S2 (.bool true) r1 ∧ S.length ≤ S2.length ∧ (∃ b, r1 = .bool b ∧ (b = false → c.its.length ≤ 10 ∧ c.txs.length ≤ 600 ∧ ∀ x ∈ c.its, x.cs.length ≤ 100 ∧ x.ks.length ≤ 100)) ∧ S2 = S := fun S1 ⟨T, hT⟩ => by
    subst hT
    exact ⟨_, S, hn.fgt _, .imm rfl, Nat.le_refl _, ⟨true, rfl, fun h => by cases h⟩, rfl⟩
  simp only [a10015]
  refine stageA (fun E S' => E.get 1 = .cptr (calR c) ∧ S' = S) ?_ ?_
  · intro K hK
    simp (disch := first | omega | (simp only [lenT]; omega)) only [evSt, ↓evPre, ↓evPreW, evPost, evPostW, evR, evU, seval]
    exact hK _ _ ⟨rfl, rfl⟩
  rintro E S2 ⟨e1, hS2⟩
  rw [hS2]
  clear hS2 S2
  refine stageA (fun E S' => E.get 1 = .cptr (calR c) ∧ (c.its.length ≤ 10 ∧ c.txs.length ≤ 600) ∧ S' = S) ?_ ?_
  · intro K hK
    by_cases h1 : (10 : Int) < c.its.length
    · simp (disch := first | omega | (simp only [lenT]; omega)) only [e1, calR, dT h1, evSt, ↓evPre, ↓evPreW, evPost, evPostW, evR, evU, seval]
      exact big S ⟨[], by simp⟩
    by_cases h2 : (20 : Int) < c.txs.length
    · by_cases h3 : (c.txs.length : Int) ≤ 512
      · simp (disch := first | omega | (simp only [lenT]; omega)) only [e1, calR, dF h1, dT h2, dT h3, evSt, ↓evPre, ↓evPreW, evPost, evPostW, evR, evU, seval]
        exact big S ⟨[], by simp⟩
      by_cases h4 : (600 : Int) < c.txs.length
      · simp (disch := first | omega | (simp only [lenT]; omega)) only [e1, calR, dF h1, dT h2, dF h3, dT h4, evSt, ↓evPre, ↓evPreW, evPost, evPostW, evR, evU, seval]
        exact big S ⟨[], by simp⟩
      · simp (disch := first | omega | (simp only [lenT]; omega)) only [e1, calR, dF h1, dT h2, dF h3, dF h4, evSt, ↓evPre, ↓evPreW, evPost, evPostW, evR, evU, seval]
        exact hK _ _ ⟨e1, ⟨by omega, by omega⟩, rfl⟩
    · have h4 : ¬ (600 : Int) < c.txs.length := by omega
      simp (disch := first | omega | (simp only [lenT]; omega)) only [e1, calR, dF h1, dF h2, dF h4, evSt, ↓evPre, ↓evPreW, evPost, evPostW, evR, evU, seval]
      exact hK _ _ ⟨e1, ⟨by omega, by omega⟩, rfl⟩
  clear e1
  rintro E S2 ⟨e1, ⟨hb1, hb2⟩, hS2⟩
  rw [hS2]
  clear hS2 S2
  refine stageA (fun E S' => E.get 1 = .cptr (calR c) ∧ (∀ x ∈ c.its, x.cs.length ≤ 100 ∧ x.ks.length ≤ 100) ∧ ∃ T, S' = S ++ T) ?_ ?_
  · intro K hK
    simp (disch := first | omega | (simp only [lenT]; omega)) only [evSt, ↓evPre, ↓evPreW, evPost, evPostW, evR, evU, seval]
    refine loopF (ι := Nat × Store) (fun i => [(1, .cptr (calR c)), (3, .int .i64 i.1)]) (fun i => i.2) (fun i => i.1 ≤ c.its.length ∧ (∀ x ∈ c.its.take i.1, x.cs.length ≤ 100 ∧ x.ks.length ≤ 100) ∧ ∃ T, i.2 = S ++ T) (fun i => c.its.length - i.1)
      (fun i hi => by rw [hσ]; obtain ⟨T, hT⟩ := hi.2.2; rw [hT]; simp) (0, S) ⟨Nat.zero_le _, fun x hx => (by simp at hx), ⟨[], by simp⟩⟩ (.inl ⟨?_, rfl⟩) ?_
    · simp only [e1, ↓evPre, ↓evPreW, evPost, evPostW, evR, evU, seval]
      try rfl
    rintro ⟨k, S1⟩ ⟨hk, hx, hT⟩
    simp only at hk hx hT ⊢
    cases hcx : c.its[k]? with
    | none =>
      have hge : c.its.length ≤ k := List.getElem?_eq_none_iff.1 hcx
      have hlt : ¬ ((k : Int) < c.its.length) := by omega
      rw [List.take_of_length_le hge] at hx
      simp (disch := first | omega | (simp only [lenT]; omega)) only [dF hlt, calR, evSt, ↓evPre, ↓evPreW, evPost, evPostW, evR, evU, seval]
      exact hK _ _ ⟨rfl, hx, hT⟩
    | some x =>
      have hlt' := (List.getElem?_eq_some_iff.1 hcx).1
      have hlt : ((k : Int) < c.its.length) := by omega
      have hk1 : (k : Int) + 1 = ((k + 1 : Nat) : Int) := by omega
      have hT2 : ∃ T, S1 ++ [⟨0, some (.arr 75 4 [itmR x])⟩] = S ++ T := by
        obtain ⟨T, rfl⟩ := hT
        exact ⟨T ++ _, List.append_assoc ..⟩
      have hb : Store.obj? (S1 ++ [⟨0, some (.arr 75 4 [itmR x])⟩]) S1.length 0 = some (75, 4, [itmR x]) := ob_app0.trans ob_head
      unfold itmR at hb hT2
      simp (disch := first | omega | (simp only [lenT]; omega)) only [dT hlt, hcx, calR, itmR, evSt, ↓evPre, ↓evPreW, evPost, evPostW, evR, evU, seval]
      generalize (S1 ++ [_] : Store) = S3 at hb hT2 ⊢
      refine (lo _ _).mono ?_
      rintro r S4 ⟨⟨b, rfl, hb1⟩, hS4⟩
      rw [hS4]
      clear hS4 S4
      cases b with
      | true =>
        simp (disch := first | omega | (simp only [lenT]; omega)) only [evSt, ↓evPre, ↓evPreW, evPost, evPostW, evR, evU, seval]
        exact big S3 hT2
      | false =>
        simp (disch := first | omega | (simp only [lenT]; omega)) only [hb, evSt, ↓evPre, ↓evPreW, evPost, evPostW, evR, evU, seval]
        refine (lo _ _).mono ?_
        rintro r S4 ⟨⟨b, rfl, hb2⟩, hS4⟩
        rw [hS4]
        clear hS4 S4
        cases b with
        | true =>
          simp (disch := first | omega | (simp only [lenT]; omega)) only [evSt, ↓evPre, ↓evPreW, evPost, evPostW, evR, evU, seval]
          exact big S3 hT2
        | false =>
          by_cases hq : (100 : Int) < x.ba.length
          · simp (disch := first | omega | (simp only [lenT]; omega)) only [hb, dT hq, evSt, ↓evPre, ↓evPreW, evPost, evPostW, evR, evU, seval]
            exact big S3 hT2
          · simp (disch := first | omega | (simp only [lenT]; omega)) only [hb, dF hq, wrap_i64, hk1, evSt, ↓evPre, ↓evPreW, evPost, evPostW, evR, evU, seval]
            refine ⟨(k + 1, S3), ⟨by simp only; omega, fun y hy => ?_, hT2⟩, by simp only; omega, .inl ⟨by simp only [calR, ↓evPre, ↓evPreW, evPost, evPostW, evR, evU, seval]; try rfl, rfl⟩⟩
            simp only at hy
            rw [take_at hcx] at hy
            rcases List.mem_append.1 hy with hy | hy
            · exact hx y hy
            · rw [List.mem_singleton] at hy
              rw [hy]
              exact ⟨hb1 rfl, hb2 rfl⟩
  clear e1
  rintro E S1 ⟨e1, hx, hT⟩
  simp (disch := first | omega | (simp only [lenT]; omega)) only [evSt, ↓evPre, ↓evPreW, evPost, evPostW, evR, evU, seval]
  refine loopF (ι := Nat) (fun i => [(1, .cptr (calR c)), (5, .int .i64 i)]) (fun _ => S1) (fun i => i ≤ c.txs.length) (fun i => c.txs.length - i)
    (fun i hi => by rw [hσ]; obtain ⟨T, hT⟩ := hT; rw [hT]; simp) 0 (Nat.zero_le _) (.inl ⟨?_, rfl⟩) ?_
  · simp only [e1, ↓evPre, ↓evPreW, evPost, evPostW, evR, evU, seval]
    try rfl
  intro k hk
  cases hcx : c.txs[k]? with
  | none =>
    have hge : c.txs.length ≤ k := List.getElem?_eq_none_iff.1 hcx
    have hlt : ¬ ((k : Int) < c.txs.length) := by omega
    obtain ⟨T, rfl⟩ := hT
    simp (disch := first | omega | (simp only [lenT]; omega)) only [dF hlt, calR, evSt, ↓evPre, ↓evPreW, evPost, evPostW, evR, evU, seval]
    exact ⟨_, S, hn.fgt _, .imm rfl, Nat.le_refl _, ⟨false, rfl, fun _ => ⟨hb1, hb2, hx⟩⟩, rfl⟩
  | some x =>
    have hlt' := (List.getElem?_eq_some_iff.1 hcx).1
    have hlt : ((k : Int) < c.txs.length) := by omega
    have hk1 : (k : Int) + 1 = ((k + 1 : Nat) : Int) := by omega
    by_cases hq : (100 : Int) < x.co.length
    · simp (disch := first | omega | (simp only [lenT]; omega)) only [dT hlt, hcx, calR, chgR, dT hq, evSt, ↓evPre, ↓evPreW, evPost, evPostW, evR, evU, seval]
      exact big S1 hT
    · simp (disch := first | omega | (simp only [lenT]; omega)) only [dT hlt, hcx, calR, chgR, dF hq, wrap_i64, hk1, evSt, ↓evPre, ↓evPreW, evPost, evPostW, evR, evU, seval]
      exact ⟨k + 1, by omega, by omega, .inl ⟨by simp only [calR, ↓evPre, ↓evPreW, evPost, evPostW, evR, evU, seval]; try rfl, rfl⟩⟩
theorem par_lens (u : Txt → Option Txt) (s : Txt) : (parF u s).1.its.length ≤ 1000000 ∧ (parF u s).1.txs.length ≤ 1000000 ∧ ∀ x ∈ (parF u s).1.its, x.cs.length ≤ 1000000000 ∧ x.ks.length ≤ 1000000000 := by
  rcases par_chk u s with h | h
  · exact chk_lens h
  · rw [h]
    exact ⟨Nat.zero_le _, Nat.zero_le _, fun x hx => by cases hx⟩
set_option maxHeartbeats 2000000 in
theorem law_texts (c : Cal) (s : Txt) (S : Store) : CallA Tryd.prog 5 [.agg (calR c), .str s] S fun r S' => r = .bool true ∧ S' = S := by
  refine CallA.withNeat Tryd.func5 c10005 fun hn => ?_
  refine CallA.fin Tryd.func5 c10005 (Nat.le_of_ble_eq_true rfl) fun σ hσ => ?_
  have bg := fun S => rbig_A c S
  have aw := awake_A
  have fin : ∀ S1 : Store, (∃ T, S1 = S ++ T) → ∃ r1 S2, Fgt S1 S2 ∧ Frz S1 S2 (.bool true) r1 ∧ S.length ≤ S2.length ∧ r1 = .bool true ∧ S2 = S := fun S1 ⟨T, hT⟩ => by
    subst hT
    exact ⟨_, S, hn.fgt _, .imm rfl, Nat.le_refl _, rfl, rfl⟩
  have fin0 := fin S ⟨[], by simp⟩
  simp only [calR] at bg
  simp only [a10005]
  refine stageA (fun E S' => (E.get 1 = .str s ∧ E.get 2 = .cptr (calR c)) ∧ S' = S) ?_ ?_
  · intro K hK
    simp (disch := first | omega | (simp only [lenT]; omega)) only [calR, evSt, ↓evPre, ↓evPreW, evPost, evPostW, evR, evU, seval]
    exact hK _ _ ⟨⟨rfl, rfl⟩, rfl⟩
  rintro E S2 ⟨⟨e1, e2⟩, hS2⟩
  rw [hS2]
  clear hS2 S2
  refine stageA (fun E S' => (E.get 1 = .str s ∧ E.get 2 = .cptr (calR c)) ∧ (s.length ≤ 500 ∧ c.its.length ≤ 10 ∧ c.txs.length ≤ 600 ∧ ∀ x ∈ c.its, x.cs.length ≤ 100 ∧ x.ks.length ≤ 100) ∧ S' = S) ?_ ?_
  · intro K hK
    simp (disch := first | omega | (simp only [lenT]; omega)) only [e1, e2, calR, evSt, ↓evPre, ↓evPreW, evPost, evPostW, evR, evU, seval]
    refine (bg _).mono ?_
    rintro r S1 ⟨⟨b, rfl, hb⟩, hS1⟩
    rw [hS1]
    clear hS1 S1
    cases b with
    | true =>
      simp (disch := first | omega | (simp only [lenT]; omega)) only [evSt, ↓evPre, ↓evPreW, evPost, evPostW, evR, evU, seval]
      refine (aw _).then ?_
      simp (disch := first | omega | (simp only [lenT]; omega)) only [evSt, ↓evPre, ↓evPreW, evPost, evPostW, evR, evU, seval]
      exact fin0
    | false =>
      by_cases hs : (500 : Int) < s.length
      · simp (disch := first | omega | (simp only [lenT]; omega)) only [e1, dT hs, evSt, ↓evPre, ↓evPreW, evPost, evPostW, evR, evU, seval]
        refine (aw _).then ?_
        simp (disch := first | omega | (simp only [lenT]; omega)) only [evSt, ↓evPre, ↓evPreW, evPost, evPostW, evR, evU, seval]
        exact fin0
      · simp (disch := first | omega | (simp only [lenT]; omega)) only [e1, dF hs, evSt, ↓evPre, ↓evPreW, evPost, evPostW, evR, evU, seval]
        exact hK _ _ ⟨⟨e1, e2⟩, ⟨by omega, hb rfl⟩, rfl⟩
  clear e1 e2 bg
  rintro E S2 ⟨⟨e1, e2⟩, ⟨hs, hl1, hl2, hl3⟩, hS2⟩
  rw [hS2]
  clear hS2 S2
  have hcl : ∀ x ∈ c.its, x.cs.length ≤ 1000000000 ∧ x.ks.length ≤ 1000000000 := fun x hx => by have := hl3 x hx; omega
  have tt := fun S => to_A c (by omega) S
  have pr := fun S => print_A c hcl (by omega) (by omega) S
  have rp := fun S => rprint_A c hcl (by omega) (by omega) S
  have ck := fun S => chk_A c hcl (by omega) (by omega) S
  have sm := fun S => same_A c ⟨by omega, by omega⟩ hcl S
  have pa := fun S => parse_A unqF hul s (by omega) (fun l hl p hp hpp S => unq_A p (by have := cut_lens hl p hp; omega) S) S
  have ra := fun S => rparse_A s (by omega) S
  obtain ⟨m1, m2, m3⟩ := par_lens unqF s
  have px := fun S => print_A (parF unqF s).1 m3 (by omega) (by omega) S
  have fx := fun S => from_A (parF unqF s).1 m1 S
  have sx := fun S => same_A (parF unqF s).1 ⟨m1, m2⟩ m3 S
  have fc := fun S => from_A c (by omega) S
  have pb := fun h => print_back (s := s) (c := (parF unqF s).1) h
  have hpe : (priF c).2 = chkF c := by
    unfold priF
    by_cases h : chkF c = 0
    · rw [if_pos h, h]
    · rw [if_neg h]
  have hp0 : chkF c ≠ 0 → (priF c).1 = [] := fun h => by unfold priF; rw [if_neg h]
  have hp1 : chkF c = 0 → (priF c).1 = lineF (prW c) := fun h => by unfold priF; rw [if_pos h]
  have pz := fun (h : chkF c = 0) S => parseP_A h S
  rw [hpe] at pr rp
  obtain ⟨x, hx⟩ : ∃ x, x = (parF unqF s).1 := ⟨_, rfl⟩
  obtain ⟨g, hg⟩ : ∃ g, g = (parF unqF s).2 := ⟨_, rfl⟩
  rw [← hx, ← hg] at pa ra
  rw [← hx] at px fx sx pb
  have pb2 : g = 0 → priF x = (s, 0) := fun h => pb (by rw [hx, ← h, hg])
  clear pb m1 m2 m3
  clear hx hg
  generalize (priF c).1 = a at *
  generalize chkF c = e at *
  simp only [calR] at tt pr rp ck sm pa ra px fx sx pz fc
  refine stageA (fun E S' => (E.get 1 = .str s ∧ E.get 2 = .cptr (calR c) ∧ E.get 5 = .str a ∧ E.get 6 = .int .i64 e) ∧ S' = S) ?_ ?_
  · intro K hK
    simp (disch := first | omega | (simp only [lenT]; omega)) only [e1, e2, calR, evSt, ↓evPre, ↓evPreW, evPost, evPostW, evR, evU, seval]
    refine (tt _).then ?_
    simp (disch := first | omega | (simp only [lenT]; omega)) only [evSt, ↓evPre, ↓evPreW, evPost, evPostW, evR, evU, seval]
    refine (pr _).then ?_
    simp (disch := first | omega | (simp only [lenT]; omega)) only [evSt, ↓evPre, ↓evPreW, evPost, evPostW, evR, evU, seval]
    exact hK _ _ ⟨⟨e1, e2, rfl, rfl⟩, rfl⟩
  clear e1 e2
  rintro E S2 ⟨⟨e1, e2, e5, e6⟩, hS2⟩
  rw [hS2]
  clear hS2 S2
  refine stageA (fun E S' => (E.get 1 = .str s ∧ E.get 2 = .cptr (calR c) ∧ E.get 5 = .str a ∧ E.get 6 = .int .i64 e ∧ E.get 7 = .str a ∧ E.get 8 = .int .i64 e) ∧ S' = S) ?_ ?_
  · intro K hK
    simp (disch := first | omega | (simp only [lenT]; omega)) only [e1, e2, e5, e6, calR, evSt, ↓evPre, ↓evPreW, evPost, evPostW, evR, evU, seval]
    refine (rp _).then ?_
    simp (disch := first | omega | (simp only [lenT]; omega)) only [evSt, ↓evPre, ↓evPreW, evPost, evPostW, evR, evU, seval]
    exact hK _ _ ⟨⟨e1, e2, e5, e6, rfl, rfl⟩, rfl⟩
  clear e1 e2 e5 e6
  rintro E S2 ⟨⟨e1, e2, e5, e6, e7, e8⟩, hS2⟩
  rw [hS2]
  clear hS2 S2
  refine stageA (fun E S' => (E.get 1 = .str s ∧ E.get 2 = .cptr (calR c) ∧ E.get 5 = .str a ∧ E.get 6 = .int .i64 e ∧ E.get 7 = .str a ∧ E.get 8 = .int .i64 e ∧ E.get 9 = .ptr S.length 0 0 0 ∧ E.get 10 = .int .i64 g) ∧ S' = S ++ [⟨0, some (.arr 49 4 [calR x])⟩]) ?_ ?_
  · intro K hK
    simp (disch := first | omega | (simp only [lenT]; omega)) only [e1, e2, e5, e6, evSt, ↓evPre, ↓evPreW, evPost, evPostW, evR, evU, seval]
    refine (pa _).then ?_
    simp (disch := first | omega | (simp only [lenT]; omega)) only [evSt, ↓evPre, ↓evPreW, evPost, evPostW, evR, evU, seval]
    exact hK _ _ ⟨⟨e1, e2, e5, e6, e7, e8, rfl, rfl⟩, rfl⟩
  clear e1 e2 e5 e6 e7 e8
  rintro E S2 ⟨⟨e1, e2, e5, e6, e7, e8, e9, e10⟩, hS2⟩
  rw [hS2]
  clear hS2 S2
  refine stageA (fun E S' => (E.get 1 = .str s ∧ E.get 2 = .cptr (calR c) ∧ E.get 5 = .str a ∧ E.get 6 = .int .i64 e ∧ E.get 7 = .str a ∧ E.get 8 = .int .i64 e ∧ E.get 9 = .ptr S.length 0 0 0 ∧ E.get 10 = .int .i64 g ∧ E.get 11 = .ptr (S.length + 1) 0 0 0 ∧ E.get 12 = .int .i64 g) ∧ S' = S ++ [⟨0, some (.arr 49 4 [calR x])⟩, ⟨0, some (.arr 45 4 [calR x])⟩]) ?_ ?_
  · intro K hK
    simp (disch := first | omega | (simp only [lenT]; omega)) only [e1, e2, e5, e6, evSt, ↓evPre, ↓evPreW, evPost, evPostW, evR, evU, seval]
    refine (ra _).then ?_
    simp (disch := first | omega | (simp only [lenT]; omega)) only [evSt, ↓evPre, ↓evPreW, evPost, evPostW, evR, evU, seval]
    refine hK _ _ ⟨⟨e1, e2, e5, e6, e7, e8, e9, e10, rfl, rfl⟩, ?_⟩
    first | rfl | simp [calR]
  clear e1 e2 e5 e6 e7 e8 e9 e10
  rintro E S2 ⟨⟨e1, e2, e5, e6, e7, e8, e9, e10, e11, e12⟩, hS2⟩
  have b9 : S2.obj? S.length 0 = some (49, 4, [calR x]) := by rw [hS2]; exact ob_app0.trans ob_head
  have b11 : S2.obj? (S.length + 1) 0 = some (45, 4, [calR x]) := by rw [hS2, ob_app, ob_cons, ob_head]
  have hT : ∃ T, S2 = S ++ T := ⟨_, hS2⟩
  clear hS2
  unfold calR at b9 b11
  refine stageA (fun E S' => (E.get 1 = .str s ∧ E.get 2 = .cptr (calR c) ∧ E.get 5 = .str a ∧ E.get 6 = .int .i64 e ∧ E.get 9 = .ptr S.length 0 0 0 ∧ E.get 10 = .int .i64 g) ∧ S' = S2) ?_ ?_
  · intro K hK
    simp (disch := first | omega | (simp only [lenT]; omega)) only [e2, e5, e6, e7, e8, e9, e10, e11, e12, b9, b11, calR, evSt, ↓evPre, ↓evPreW, evPost, evPostW, evR, evU, seval]
    refine (tt _).then ?_
    simp (disch := first | omega | (simp only [lenT]; omega)) only [e2, e5, e6, e7, e8, e9, e10, e11, e12, b9, b11, evSt, ↓evPre, ↓evPreW, evPost, evPostW, evR, evU, seval]
    refine (ck _).then ?_
    simp (disch := first | omega | (simp only [lenT]; omega)) only [e2, e5, e6, e7, e8, e9, e10, e11, e12, b9, b11, evSt, ↓evPre, ↓evPreW, evPost, evPostW, evR, evU, seval]
    have q := fx S2
    refine ⟨_, q, ?_⟩
    simp (disch := first | omega | (simp only [lenT]; omega)) only [e2, e5, e6, e7, e8, e9, e10, e11, e12, b9, b11, evSt, ↓evPre, ↓evPreW, evPost, evPostW, evR, evU, seval]
    refine (sx _).then ?_
    simp (disch := first | omega | (simp only [lenT]; omega)) only [e2, e5, e6, e7, e8, e9, e10, e11, e12, b9, b11, evSt, ↓evPre, ↓evPreW, evPost, evPostW, evR, evU, seval]
    exact hK _ _ ⟨⟨e1, e2, e5, e6, e9, e10⟩, rfl⟩
  clear e1 e2 e5 e6 e7 e8 e9 e10 e11 e12 b11
  rintro E S3 ⟨⟨e1, e2, e5, e6, e9, e10⟩, hS3⟩
  rw [hS3]
  clear hS3 S3
  refine stageA (fun E S' => (E.get 2 = .cptr (calR c) ∧ E.get 5 = .str a ∧ E.get 6 = .int .i64 e) ∧ S' = S2) ?_ ?_
  · intro K hK
    by_cases hg : g = 0
    · have hpx := pb2 hg
      subst hg
      simp only [hpx] at px
      simp (disch := first | omega | (simp only [lenT]; omega)) only [e1, e9, e10, b9, evSt, ↓evPre, ↓evPreW, evPost, evPostW, evR, evU, seval]
      refine (px _).then ?_
      simp (disch := first | omega | (simp only [lenT]; omega)) only [e1, e9, e10, b9, evSt, ↓evPre, ↓evPreW, evPost, evPostW, evR, evU, seval]
      exact hK _ _ ⟨⟨e2, e5, e6⟩, rfl⟩
    · simp (disch := first | omega | (simp only [lenT]; omega)) only [e1, e9, e10, b9, dF hg, evSt, ↓evPre, ↓evPreW, evPost, evPostW, evR, evU, seval]
      exact hK _ _ ⟨⟨e2, e5, e6⟩, rfl⟩
  clear e1 e2 e5 e6 e9 e10 b9
  rintro E S3 ⟨⟨e2, e5, e6⟩, hS3⟩
  rw [hS3]
  clear hS3 S3
  refine stageA (fun E S' => (E.get 2 = .cptr (calR c) ∧ E.get 5 = .str a) ∧ e = 0 ∧ S' = S2) ?_ ?_
  · intro K hK
    by_cases he : e = 0
    · subst he
      simp (disch := first | omega | (simp only [lenT]; omega)) only [e5, e6, evSt, ↓evPre, ↓evPreW, evPost, evPostW, evR, evU, seval]
      exact hK _ _ ⟨⟨e2, e5⟩, rfl, rfl⟩
    · rw [hp0 he] at e5
      simp (disch := first | omega | (simp only [lenT]; omega)) only [e5, e6, dF he, evSt, ↓evPre, ↓evPreW, evPost, evPostW, evR, evU, seval]
      refine (aw _).then ?_
      simp (disch := first | omega | (simp only [lenT]; omega)) only [evSt, ↓evPre, ↓evPreW, evPost, evPostW, evR, evU, seval]
      exact fin S2 hT
  clear e2 e5 e6
  rintro E S3 ⟨⟨e2, e5⟩, he, hS3⟩
  rw [hS3]
  clear hS3 S3
  subst he
  have pz := pz rfl
  rw [← hp1 rfl] at pz
  refine stageA (fun E S' => (E.get 2 = .cptr (calR c) ∧ E.get 15 = .ptr S2.length 0 0 0 ∧ E.get 16 = .int .i64 0) ∧ S' = S2 ++ [⟨0, some (.arr 49 4 [calR c])⟩]) ?_ ?_
  · intro K hK
    simp (disch := first | omega | (simp only [lenT]; omega)) only [e2, e5, evSt, ↓evPre, ↓evPreW, evPost, evPostW, evR, evU, seval]
    refine (pz _).then ?_
    simp (disch := first | omega | (simp only [lenT]; omega)) only [evSt, ↓evPre, ↓evPreW, evPost, evPostW, evR, evU, seval]
    exact hK _ _ ⟨⟨e2, rfl, rfl⟩, rfl⟩
  clear e2 e5
  rintro E S3 ⟨⟨e2, e15, e16⟩, hS3⟩
  have b15 : S3.obj? S2.length 0 = some (49, 4, [calR c]) := by rw [hS3]; exact ob_app0.trans ob_head
  have hT3 : ∃ T, S3 = S ++ T := by
    obtain ⟨T, rfl⟩ := hT
    exact ⟨_, hS3.trans (List.append_assoc ..)⟩
  clear hS3
  unfold calR at b15
  simp (disch := first | omega | (simp only [lenT]; omega)) only [e2, e15, e16, b15, calR, evSt, ↓evPre, ↓evPreW, evPost, evPostW, evR, evU, seval]
  have q := fc S3
  refine ⟨_, q, ?_⟩
  simp (disch := first | omega | (simp only [lenT]; omega)) only [e2, e15, e16, b15, evSt, ↓evPre, ↓evPreW, evPost, evPostW, evR, evU, seval]
  refine (sm _).then ?_
  simp (disch := first | omega | (simp only [lenT]; omega)) only [e2, e15, e16, b15, evSt, ↓evPre, ↓evPreW, evPost, evPostW, evR, evU, seval]
  refine (aw _).then ?_
  simp (disch := first | omega | (simp only [lenT]; omega)) only [e2, e15, e16, b15, evSt, ↓evPre, ↓evPreW, evPost, evPostW, evR, evU, seval]
  exact fin S3 hT3
end Go.Proofs.YtkdbghhdklfoiaaDoor
/- How what law Texts is given is read. -/
namespace Go.Proofs.YtkdbghhdklfoiaaDoor
open Go Go.AL
set_option linter.unusedSectionVars false
variable [Go.AL.Mode] [Go.AL.LooseM]
set_option linter.unusedSimpArgs false
set_option linter.unusedVariables false
theorem itmO : Opens Tryd.prog 75 (itmR) (fun _ => True) :=
  Opens.as (Opens.struct Tryd.underlying75 (by kernel_rfl) (OpensL.cons txsO (OpensL.cons txsO (OpensL.cons (Opens.int (k := .i64) (by kernel_rfl)) (OpensL.one (Opens.str (by kernel_rfl))))))) (itmR) (fun _ => True) (fun p : List Txt × List Txt × Int × Txt => (Itm.mk p.1 p.2.1 p.2.2.1 p.2.2.2 : Itm)) (fun _ => rfl) (fun _ _ => trivial)
theorem itmsO : Opens Tryd.prog 43 (fun l : List Itm => [.sl 4 (l.map itmR)]) (fun _ => True) :=
  Opens.as (Opens.slice (q := 75) (sz := 4) (by kernel_rfl) (by kernel_rfl) (by omega) (fun _ => rfl) itmO) (fun l : List Itm => [.sl 4 (l.map itmR)]) (fun _ => True) (fun p => p) (fun _ => rfl) (fun _ _ => trivial)
theorem calO : Opens Tryd.prog 45 (calR) (fun _ => True) :=
  Opens.as (Opens.struct Tryd.underlying45 (by kernel_rfl) (OpensL.cons itmsO (OpensL.cons chgsO (OpensL.cons (Opens.int (k := .i64) (by kernel_rfl)) (OpensL.one (Opens.int (k := .i64) (by kernel_rfl))))))) (calR) (fun _ => True) (fun p : List Itm × List Chg × Int × Int => (Cal.mk p.1 p.2.1 p.2.2.1 p.2.2.2 : Cal)) (fun _ => rfl) (fun _ _ => trivial)
end Go.Proofs.YtkdbghhdklfoiaaDoor
