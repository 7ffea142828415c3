/- The examples; the law on valid assignments. -/
import Derived.Test.YteeenlgoildmiaaDoorSeat8
namespace Go.Proofs.YteeenlgoildmiaaDoor
open Go Go.AL
set_option linter.unusedSimpArgs false
set_option linter.unusedVariables false
set_option maxRecDepth 20000

def s0 : Sea := ⟨12, [65], 1⟩
def at1 : Txt := [115, 101, 97, 116, 32, 49]
def ChkI (S : Store) (k : Nat) (cell : V) (T : Store) : Prop :=
  (k = 0 ∧ cell = .nilSl ∧ T = []) ∨ (k = 1 ∧ cell = .nilSl ∧ T = []) ∨ (k = 2 ∧ cell = .msl (S.length + 1) 0 0 1 ∧ T = [⟨0, none⟩, ⟨0, some (.arr 46 2 [fltR ⟨6, at1⟩])⟩])

theorem checkEx_A (S : Store) : CallA Tryd.prog 14 [seSl [s0, s0]] S fun r S' => r = fltSl [⟨6, at1⟩] ∧ S' = S := by
  refine CallA.withNeat Tryd.func14 c14 fun hn => ?_
  refine CallA.fin Tryd.func14 c14 (Nat.le_of_ble_eq_true rfl) fun σ hσ => ?_
  have l1le : (1 : Int) ≤ 2 := by decide
  have add0 : binV .add (.str [115, 101, 97, 116, 32]) (.str (decB 0)) = some (.str [115, 101, 97, 116, 32, 48]) := bs_add (by decide)
  have add1 : binV .add (.str [115, 101, 97, 116, 32]) (.str (decB 1)) = some (.str at1) := bs_add (by decide)
  have hob : Store.obj? (S ++ [⟨0, some (.arr 32 3 [seaR s0])⟩]) S.length 0 = some (32, 3, [seaR s0]) := by rw [ob_app0, ob_head]
  have an0 := anySame_A [] s0 S.length _ (by decide) hob
  have an1 := anySame_A [s0] s0 S.length _ (by decide) hob
  have e1 : [s0].any (sameS s0) = true := by decide
  rw [e1] at an1
  rw [List.any_nil] at an0
  have c0 : ((0 : Nat) : Int) = 0 := rfl
  have c1 : ((1 : Nat) : Int) = 1 := rfl
  have l02 : (0 : Int) < 2 := by decide
  have l12 : (1 : Int) < 2 := by decide
  have l22 : ¬ (2 : Int) < 2 := by decide
  have c2 : ((2 : Nat) : Int) = 2 := rfl
  have n99 : ¬ (999 : Int) < 2 := by decide
  have u65 : ((65 : UInt8).toNat : Int) = 65 := rfl
  simp (disch := first | omega | (simp only [List.length_cons, List.length_nil, List.length_map, List.length_drop]; omega)) only [a14, seSl, seaR, s0, c2, n99, decide_false, List.map_cons, List.map_nil, List.length_cons, List.length_nil, evSt, ↓evPre, ↓evPreW, evPost, evPostW, ← List.map_take, ← List.map_drop, ↓reduceIte, reduceCtorEq, Nat.reduceEqDiff, forall_const, implies_true, Nat.reduceAdd, Nat.reduceSub, Nat.reduceMul, Nat.reduceLT, Nat.reduceLeDiff, Int.reduceToNat, Int.reduceAdd, Int.reduceSub, Int.reduceNeg, Int.reduceMul, Int.reduceLT, Int.reduceLE, Int.reduceEq]
  refine loopF (ι := Nat × V × Store) (fun i => [(0, seSl [s0, s0]), (3, i.2.1), (12, seSl [s0, s0]), (13, .int .i64 2), (14, .int .i64 i.1)]) (fun i => S ++ i.2.2) (fun i => ChkI S i.1 i.2.1 i.2.2) (fun i => 2 - i.1) (fun i hi => by rw [hσ]; simp) (0, .nilSl, []) (.inl ⟨rfl, rfl, rfl⟩) (.inl ⟨?_, (List.append_nil S).symm⟩) ?_
  · simp only [seSl, seaR, s0, List.map_cons, List.map_nil, ↓evPre, ↓evPreW, evPost, evPostW, ← List.map_take, ← List.map_drop, ↓reduceIte, reduceCtorEq, Nat.reduceEqDiff, forall_const, implies_true, Nat.reduceAdd, Nat.reduceSub, Nat.reduceMul, Nat.reduceLT, Nat.reduceLeDiff, Int.reduceToNat, Int.reduceAdd, Int.reduceSub, Int.reduceNeg, Int.reduceMul, Int.reduceLT, Int.reduceLE, Int.reduceEq]
    try rfl
  · rintro ⟨k, cell, T⟩ hi
    simp only at hi ⊢
    rcases hi with ⟨rfl, rfl, rfl⟩ | ⟨rfl, rfl, rfl⟩ | ⟨rfl, rfl, rfl⟩
    · simp (disch := first | omega | (simp only [List.length_cons, List.length_nil, List.length_map, List.length_drop]; omega)) only [seSl, seaR, s0, c0, c1, l02, l12, decide_true, List.map_cons, List.map_nil, List.append_nil, List.take_succ_cons, List.take_zero, evSt, ↓evPre, ↓evPreW, evPost, evPostW, ← List.map_take, ← List.map_drop, ↓reduceIte, reduceCtorEq, Nat.reduceEqDiff, forall_const, implies_true, Nat.reduceAdd, Nat.reduceSub, Nat.reduceMul, Nat.reduceLT, Nat.reduceLeDiff, Int.reduceToNat, Int.reduceAdd, Int.reduceSub, Int.reduceNeg, Int.reduceMul, Int.reduceLT, Int.reduceLE, Int.reduceEq]
      refine (itoa_A 0 _ (by omega)).then ?_
      simp (disch := first | omega | (simp only [List.length_cons, List.length_nil, List.length_map, List.length_drop]; omega)) only [add0, u65, List.take_succ_cons, List.take_zero, Int.reduceLT, decide_true, decide_false, evSt, ↓evPre, ↓evPreW, evPost, evPostW, ← List.map_take, ← List.map_drop, ↓reduceIte, reduceCtorEq, Nat.reduceEqDiff, forall_const, implies_true, Nat.reduceAdd, Nat.reduceSub, Nat.reduceMul, Nat.reduceLT, Nat.reduceLeDiff, Int.reduceToNat, Int.reduceAdd, Int.reduceSub, Int.reduceNeg, Int.reduceMul, Int.reduceLT, Int.reduceLE, Int.reduceEq]
      refine an0.then ?_
      simp (disch := first | omega | (simp only [List.length_cons, List.length_nil, List.length_map, List.length_drop]; omega)) only [c0, evSt, ↓evPre, ↓evPreW, evPost, evPostW, ← List.map_take, ← List.map_drop, ↓reduceIte, reduceCtorEq, Nat.reduceEqDiff, forall_const, implies_true, Nat.reduceAdd, Nat.reduceSub, Nat.reduceMul, Nat.reduceLT, Nat.reduceLeDiff, Int.reduceToNat, Int.reduceAdd, Int.reduceSub, Int.reduceNeg, Int.reduceMul, Int.reduceLT, Int.reduceLE, Int.reduceEq]
      refine ⟨(1, .nilSl, []), .inr (.inl ⟨rfl, rfl, rfl⟩), by decide, back_under (by simpa using hn.fgt [_]) ⟨rfl, rfl, rfl, rfl, rfl, trivial⟩ (by simp [V.under, seSl])⟩
    · simp (disch := first | omega | (simp only [List.length_cons, List.length_nil, List.length_map, List.length_drop]; omega)) only [seSl, seaR, s0, c0, c1, l02, l12, decide_true, List.map_cons, List.map_nil, List.append_nil, List.take_succ_cons, List.take_zero, evSt, ↓evPre, ↓evPreW, evPost, evPostW, ← List.map_take, ← List.map_drop, ↓reduceIte, reduceCtorEq, Nat.reduceEqDiff, forall_const, implies_true, Nat.reduceAdd, Nat.reduceSub, Nat.reduceMul, Nat.reduceLT, Nat.reduceLeDiff, Int.reduceToNat, Int.reduceAdd, Int.reduceSub, Int.reduceNeg, Int.reduceMul, Int.reduceLT, Int.reduceLE, Int.reduceEq]
      refine (itoa_A 1 _ (by omega)).then ?_
      simp (disch := first | omega | (simp only [List.length_cons, List.length_nil, List.length_map, List.length_drop]; omega)) only [c2, l1le, if_true, add1, u65, List.take_succ_cons, List.take_zero, Int.reduceLT, decide_true, decide_false, evSt, ↓evPre, ↓evPreW, evPost, evPostW, ← List.map_take, ← List.map_drop, ↓reduceIte, reduceCtorEq, Nat.reduceEqDiff, forall_const, implies_true, Nat.reduceAdd, Nat.reduceSub, Nat.reduceMul, Nat.reduceLT, Nat.reduceLeDiff, Int.reduceToNat, Int.reduceAdd, Int.reduceSub, Int.reduceNeg, Int.reduceMul, Int.reduceLT, Int.reduceLE, Int.reduceEq]
      refine an1.then ?_
      simp (disch := first | omega | (simp only [List.length_cons, List.length_nil, List.length_map, List.length_drop]; omega)) only [c1, List.append_assoc, List.cons_append, List.nil_append, List.take_succ_cons, List.take_zero, evSt, ↓evPre, ↓evPreW, evPost, evPostW, ← List.map_take, ← List.map_drop, ↓reduceIte, reduceCtorEq, Nat.reduceEqDiff, forall_const, implies_true, Nat.reduceAdd, Nat.reduceSub, Nat.reduceMul, Nat.reduceLT, Nat.reduceLeDiff, Int.reduceToNat, Int.reduceAdd, Int.reduceSub, Int.reduceNeg, Int.reduceMul, Int.reduceLT, Int.reduceLE, Int.reduceEq]
      refine ⟨by unfold roomA; omega, (2, .msl (S.length + 1) 0 0 1, [⟨0, none⟩, ⟨0, some (.arr 46 2 [fltR ⟨6, at1⟩])⟩]), .inr (.inr ⟨rfl, rfl, rfl⟩), by simp only; omega, back_under ?_ ⟨rfl, rfl, rfl, rfl, rfl, trivial⟩ (by simp [V.under, seSl])⟩
      exact hn.fgtL (L := [_, _]) (L1 := [_, _]) ⟨rfl, trivial, rfl, ⟨_, rfl, .imm (fun r hr => by simp only [List.mem_singleton] at hr; subst hr; exact ⟨rfl, rfl⟩)⟩, trivial⟩
    · simp (disch := first | omega | (simp only [List.length_cons, List.length_nil, List.length_map, List.length_drop]; omega)) only [c2, l22, List.append_nil, decide_false, evSt, ↓evPre, ↓evPreW, evPost, evPostW, ← List.map_take, ← List.map_drop, ↓reduceIte, reduceCtorEq, Nat.reduceEqDiff, forall_const, implies_true, Nat.reduceAdd, Nat.reduceSub, Nat.reduceMul, Nat.reduceLT, Nat.reduceLeDiff, Int.reduceToNat, Int.reduceAdd, Int.reduceSub, Int.reduceNeg, Int.reduceMul, Int.reduceLT, Int.reduceLE, Int.reduceEq]
      exact ⟨_, S, hn.fgt _, .sl (t := 46) (by omega) (by rw [ob_app, ob_cons, ob_head]; rfl) rfl (fun r hr => by obtain ⟨f, _, rfl⟩ := List.mem_map.1 hr; exact ⟨rfl, rfl⟩), Nat.le_refl _, rfl, rfl⟩

def exSe : List Sea := [⟨12, [65], 1⟩, ⟨12, [66], 0⟩]
def exCl : List Clm := [⟨1, 0, 0, 2⟩, ⟨2, 1, 0, 1⟩]
theorem ord_ex : orderF exCl = [0, 1] := by
  obtain ⟨p1, p2⟩ := orderF_spec exCl
  exact List.Perm.eq_of_pairwise (fun x y _ _ g1 g2 => (ltG_total g1 g2).symm) p2 (by decide +kernel) (p1.trans (by decide +kernel))
theorem ord_ex2 : orderF [⟨2, 1, 0, 1⟩, ⟨2, 1, 0, 1⟩] = [0, 1] := by
  obtain ⟨p1, p2⟩ := orderF_spec [⟨2, 1, 0, 1⟩, ⟨2, 1, 0, 1⟩]
  exact List.Perm.eq_of_pairwise (fun x y _ _ g1 g2 => (ltG_total g1 g2).symm) p2 (by decide +kernel) (p1.trans (by decide +kernel))
theorem asg_ex : assignF exSe exCl = [1, 0] := by
  unfold assignF assignS
  rw [ord_ex]
  decide +kernel
theorem cnt_ex : cntF (assignF [⟨12, [65], 1⟩] [⟨2, 1, 0, 1⟩, ⟨2, 1, 0, 1⟩]) = 1 := by
  unfold assignF assignS
  rw [ord_ex2]
  decide +kernel
end Go.Proofs.YteeenlgoildmiaaDoor
