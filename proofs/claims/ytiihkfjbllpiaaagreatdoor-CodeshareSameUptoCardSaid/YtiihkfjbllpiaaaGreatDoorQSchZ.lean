/- Shares: what is wrong with one; the legs that a segment covers. -/
import Derived.Test.YtiihkfjbllpiaaaGreatDoorQSchY
namespace Go.Proofs.YtiihkfjbllpiaaaGreatDoor
open Go Go.AL
set_option linter.unusedSectionVars false
variable [Go.AL.Mode] [Go.AL.LooseM]
set_option linter.unusedSimpArgs false
set_option linter.unusedVariables false

theorem cover_A (p : Pls) (hp : POk p) (l : List Fl) (hl : FOk l) (sh : List Sr) (hs : sh.length ≤ 1100000) (s : Sg) (S : Store) :
    CallA Tryz.prog 33 [plV p, .sl 6 (l.map flR), .sl 9 (sh.map srR), .agg (sgR s)] S fun r S' => r = .tup [.sl 4 ((covF p l sh s).1.map idR), .int .i64 (covF p l sh s).2] ∧ S' = S := by
  refine CallA.withNeat Tryz.func33 c533 fun hn => ?_
  refine CallA.fin Tryz.func33 c533 (Nat.le_of_ble_eq_true rfl) fun σ hσ => ?_
  have ho := fun S => opr_A sh s hs S
  have hon := fun S => onC_A l (oprF sh s).c (oprF sh s).n (oprF sh s).day (by have := hl.h1; omega) S
  have hcv : covF p l sh s = match onL l (oprF sh s).c (oprF sh s).n (oprF sh s).day with
    | none => ([], 7)
    | some x => pathF p x (oprF sh s) := rfl
  simp only [sgR] at ho
  simp (disch := first | omega | (simp only [lenT]; omega)) only [a533, plV, sgR, evSt, ↓evPre, ↓evPreW, evPost, evPostW, evR, evU, seval]
  refine (ho _).then ?_
  simp (disch := first | omega | (simp only [lenT]; omega)) only [evSt, ↓evPre, ↓evPreW, evPost, evPostW, evR, evU, seval]
  refine (hon _).then ?_
  cases h : onL l (oprF sh s).c (oprF sh s).n (oprF sh s).day with
  | none =>
    rw [h] at hcv
    rw [hcv]
    simp (disch := first | omega | (simp only [lenT]; omega)) only [onR, noFl, evSt, ↓evPre, ↓evPreW, evPost, evPostW, evR, evU, seval]
    exact ⟨_, S, hn.fgt _, .tup2 .nil (.imm rfl), Nat.le_refl _, rfl, rfl⟩
  | some x =>
    rw [h] at hcv
    rw [hcv]
    have hg := fun S => path_D p hp x (hl.h2 x (onL_mem h)) (oprF sh s) S
    simp only [plV, flR, sgR] at hg
    simp (disch := first | omega | (simp only [lenT]; omega)) only [onR, flR, evSt, ↓evPre, ↓evPreW, evPost, evPostW, evR, evU, seval]
    refine (hg _).then ?_
    simp (disch := first | omega | (simp only [lenT]; omega)) only [evSt, ↓evPre, ↓evPreW, evPost, evPostW, evR, evU, seval]
    exact ⟨_, S, hn.fgt _, .imm rfl, Nat.le_refl _, rfl, rfl⟩
theorem rcover_A (p : Pls) (hp : POk p) (l : List Fl) (hl : FOk l) (sh : List Sr) (hs : sh.length ≤ 1100000) (s : Sg) (S : Store) :
    CallA Tryz.prog 34 [plV p, .sl 6 (l.map flR), .sl 9 (sh.map srR), .agg (sgR s)] S fun r S' => r = .tup [.sl 4 ((covF p l sh s).1.map idR), .int .i64 (covF p l sh s).2] ∧ S' = S := by
  refine CallA.withNeat Tryz.func34 c534 fun hn => ?_
  refine CallA.fin Tryz.func34 c534 (Nat.le_of_ble_eq_true rfl) fun σ hσ => ?_
  have ho := fun S => ropr_A sh s hs S
  have hon := fun S => ron_A l (oprF sh s).c (oprF sh s).n (oprF sh s).day (by have := hl.h1; omega) S
  have hcv : covF p l sh s = match onL l (oprF sh s).c (oprF sh s).n (oprF sh s).day with
    | none => ([], 7)
    | some x => pathF p x (oprF sh s) := rfl
  simp only [sgR] at ho
  simp (disch := first | omega | (simp only [lenT]; omega)) only [a534, plV, sgR, evSt, ↓evPre, ↓evPreW, evPost, evPostW, evR, evU, seval]
  refine (ho _).then ?_
  simp (disch := first | omega | (simp only [lenT]; omega)) only [evSt, ↓evPre, ↓evPreW, evPost, evPostW, evR, evU, seval]
  refine (hon _).then ?_
  cases h : onL l (oprF sh s).c (oprF sh s).n (oprF sh s).day with
  | none =>
    rw [h] at hcv
    rw [hcv]
    simp (disch := first | omega | (simp only [lenT]; omega)) only [onR, noFl, evSt, ↓evPre, ↓evPreW, evPost, evPostW, evR, evU, seval]
    exact ⟨_, S, hn.fgt _, .tup2 .nil (.imm rfl), Nat.le_refl _, rfl, rfl⟩
  | some x =>
    rw [h] at hcv
    rw [hcv]
    have hg := fun S => rpath_D p hp x (hl.h2 x (onL_mem h)) (oprF sh s) S
    simp only [plV, flR, sgR] at hg
    simp (disch := first | omega | (simp only [lenT]; omega)) only [onR, flR, evSt, ↓evPre, ↓evPreW, evPost, evPostW, evR, evU, seval]
    refine (hg _).then ?_
    simp (disch := first | omega | (simp only [lenT]; omega)) only [evSt, ↓evPre, ↓evPreW, evPost, evPostW, evR, evU, seval]
    exact ⟨_, S, hn.fgt _, .imm rfl, Nat.le_refl _, rfl, rfl⟩

/-! ### Stops -/
theorem dropW {α : Type} (q : α → Bool) : ∀ l : List α, l.dropWhile (fun x => !q x) = l.drop (l.findIdx q)
  | [] => rfl
  | a :: l => by
    rw [List.findIdx_cons, List.dropWhile_cons]
    cases h : q a with
    | true => simp
    | false => simp [dropW q l]
theorem stops1_A (l : Lg) (f : Txt) (S : Store) : CallA Tryz.prog 153 [.agg (lgR l), .cptr [.str f]] S fun r S' => r = .bool (decide (l.f = f)) ∧ S' = S := by
  refine CallA.keep Tryz.func153 c653 (Nat.le_of_ble_eq_true rfl) fun σ hσ => ?_
  simp (disch := first | omega | (simp only [lenT]; omega)) only [a653, lgR, evSt, ↓evPre, ↓evPreW, evPost, evPostW, evR, evU, seval]
theorem stops2_A (l : Lg) (t : Txt) (S : Store) : CallA Tryz.prog 155 [.agg (lgR l), .cptr [.str t]] S fun r S' => r = .bool (decide (l.t = t)) ∧ S' = S := by
  refine CallA.keep Tryz.func155 c655 (Nat.le_of_ble_eq_true rfl) fun σ hσ => ?_
  simp (disch := first | omega | (simp only [lenT]; omega)) only [a655, lgR, evSt, ↓evPre, ↓evPreW, evPost, evPostW, evR, evU, seval]
theorem stops_A (x : Fl) (hx : x.legs.length ≤ 300) (f t : Txt) (S : Store) : CallA Tryz.prog 117 [.agg (flR x), .str f, .str t] S fun r S' => r = .bool (stopsF x f t) ∧ S' = S := by
  refine CallA.keep Tryz.func117 c617 (Nat.le_of_ble_eq_true rfl) fun σ hσ => ?_
  have hi := fun S => index_A x.legs (fun l => decide (l.f = f)) 153 [.cptr [.str f]] (by omega) (fun l S => stops1_A l f S) S
  have hcn := fun M (hM : M.length ≤ 300) S => contains_A M (fun l => decide (l.t = t)) 155 [.cptr [.str t]] (by omega) (fun l S => stops2_A l t S) S
  simp (disch := first | omega | (simp only [lenT]; omega)) only [a617, flR, evSt, ↓evPre, ↓evPreW, evPost, evPostW, evR, evU, seval]
  refine (hi _).then ?_
  rw [ix_shift]
  unfold stopsF
  rw [dropW (fun l : Lg => decide (l.f = f))]
  have hle : x.legs.findIdx (fun l => decide (l.f = f)) ≤ x.legs.length := List.findIdx_le_length
  cases ha : x.legs.any (fun l => decide (l.f = f)) with
  | false =>
    have h0 : x.legs.drop (x.legs.findIdx fun l => decide (l.f = f)) = [] := by
      rw [List.drop_eq_nil_iff]
      rw [List.findIdx_eq_length.2 (by simpa using ha)]
      exact Nat.le_refl _
    rw [h0]
    simp (disch := first | omega | (simp only [lenT]; omega)) only [if_false, Bool.false_eq_true, List.any_nil, evSt, ↓evPre, ↓evPreW, evPost, evPostW, evR, evU, seval]
  | true =>
    rw [if_pos rfl, Nat.zero_add]
    generalize x.legs.findIdx (fun l => decide (l.f = f)) = i0 at hle ⊢
    have hpos : ((0 : Int) ≤ (i0 : Nat)) := by omega
    have hdr : (x.legs.map lgR).drop i0 = (x.legs.drop i0).map lgR := by rw [List.map_drop]
    have hcd : ((i0 : Int) ≤ (x.legs.length : Nat) ∧ ((x.legs.length : Nat) : Int) ≤ (x.legs.length : Nat)) = True := eq_true ⟨by omega, Int.le_refl _⟩
    have htk : List.take (x.legs.length - i0) (x.legs.drop i0) = x.legs.drop i0 := List.take_of_length_le (by simp)
    simp (disch := first | omega | (simp only [lenT]; omega)) only [dT hpos, hdr, hcd, htk, if_true, evSt, ↓evPre, ↓evPreW, evPost, evPostW, evR, evU, seval]
    refine (hcn _ (by simp; omega) _).then ?_
    simp (disch := first | omega | (simp only [lenT]; omega)) only [evSt, ↓evPre, ↓evPreW, evPost, evPostW, evR, evU, seval]
theorem leads_A (x : Fl) (hx : x.legs.length ≤ 300) (f t : Txt) (S : Store) : CallA Tryz.prog 157 [.agg (flR x), .str f, .str t] S fun r S' => r = .bool (stopsF x f t) ∧ S' = S := by
  refine CallA.keep Tryz.func157 c657 (Nat.le_of_ble_eq_true rfl) fun σ hσ => ?_
  unfold stopsF
  simp (disch := first | omega | (simp only [lenT]; omega)) only [a657, flR, evSt, ↓evPre, ↓evPreW, evPost, evPostW, evR, evU, seval]
  refine loopA (ι := Nat × Bool) (fun k => [(1, .str f), (2, .str t), (3, .cptr (flR x)), (7, .bool k.2), (8, .int .i64 (k.1 : Nat))]) (fun _ => S) (fun k => k.1 ≤ x.legs.length ∧ (x.legs.dropWhile fun l => !decide (l.f = f)).any (fun l => decide (l.t = t)) = if k.2 then (x.legs.drop k.1).any (fun l => decide (l.t = t)) else ((x.legs.drop k.1).dropWhile fun l => !decide (l.f = f)).any (fun l => decide (l.t = t))) (fun k => x.legs.length - k.1) (0, false) ⟨Nat.zero_le _, rfl⟩ ?_ rfl ?_
  · simp only [flR, ↓evPre, ↓evPreW, evPost, evPostW, evR, evU, seval]
    try rfl
  rintro ⟨k, bg⟩ ⟨hk, he⟩
  simp only at hk he ⊢
  rw [he]
  cases hc : x.legs[k]? with
  | none =>
    have hge := List.getElem?_eq_none_iff.1 hc
    have hlt : ¬ ((k : Int) < x.legs.length) := by omega
    rw [List.drop_eq_nil_of_le hge]
    simp (disch := first | omega | (simp only [lenT]; omega)) only [flR, dF hlt, List.dropWhile_nil, List.any_nil, ite_self, evSt, ↓evPre, ↓evPreW, evPost, evPostW, evR, evU, seval]
  | some l =>
    have hlt' := (List.getElem?_eq_some_iff.1 hc).1
    have hlt : ((k : Int) < x.legs.length) := by omega
    have hk1 : (k : Int) + 1 = ((k + 1 : Nat) : Int) := by omega
    rw [drop_at hc] at he ⊢
    simp only [List.dropWhile_cons, List.any_cons] at he ⊢
    cases bg <;> cases h1 : decide (l.f = f) <;> cases h2 : decide (l.t = t) <;> simp only [h1, h2, Bool.true_or, Bool.false_or, Bool.not_true, Bool.not_false, Bool.false_eq_true, if_true, if_false, List.any_cons] at he ⊢ <;> simp (disch := first | omega | (simp only [lenT]; omega)) only [flR, lgR, dT hlt, hc, h1, h2, wrap_i64, hk1, evSt, ↓evPre, ↓evPreW, evPost, evPostW, evR, evU, seval]
    all_goals first
      | exact ⟨(k + 1, true), ⟨by simp only; omega, rfl⟩, by simp only; omega, rfl, rfl⟩
      | exact ⟨(k + 1, false), ⟨by simp only; omega, rfl⟩, by simp only; omega, rfl, rfl⟩
      | skip
end Go.Proofs.YtiihkfjbllpiaaaGreatDoor
