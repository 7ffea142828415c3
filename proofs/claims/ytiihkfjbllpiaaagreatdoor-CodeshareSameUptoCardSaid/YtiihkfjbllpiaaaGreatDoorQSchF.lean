/- The reference's look at places, whole. -/
import Derived.Test.YtiihkfjbllpiaaaGreatDoorQSchE
namespace Go.Proofs.YtiihkfjbllpiaaaGreatDoor
open Go Go.AL
set_option linter.unusedSectionVars false
variable [Go.AL.Mode] [Go.AL.LooseM]
set_option linter.unusedSimpArgs false
set_option linter.unusedVariables false

def townF (p : Pls) (c : Txt) : Option Apt := p.1.find? fun a => decide (a.city = c)
theorem findT_at {l : List Apt} {q : Apt → Bool} {k : Nat} {a : Apt} (h : l.find? q = (l.drop k).find? q) (ha : l[k]? = some a) (hq : q a = true) : l.find? q = some a := find_hit h ha hq
theorem rtown_A (p : Pls) (c : Txt) (S : Store) (hl : p.1.length ≤ 2000000) : CallA Tryz.prog 129 [plV p, .str c] S fun r S' => r = findR (townF p c) ∧ S' = S := by
  refine CallA.withNeat Tryz.func129 c629 fun hn => ?_
  refine CallA.fin Tryz.func129 c629 (Nat.le_of_ble_eq_true rfl) fun σ hσ => ?_
  simp (disch := first | omega | (simp only [lenT]; omega)) only [a629, plV, List.length_map, List.take_succ_cons, List.take_zero, evSt, ↓evPre, ↓evPreW, evPost, evPostW, ← List.map_take, ← List.map_drop, ↓reduceIte, reduceCtorEq, Nat.reduceEqDiff, forall_const, implies_true, Nat.reduceAdd, Nat.reduceSub, Nat.reduceMul, Nat.reduceLT, Nat.reduceLeDiff, Int.reduceToNat, Int.reduceAdd, Int.reduceSub, Int.reduceNeg, Int.reduceMul, Int.reduceLT, Int.reduceLE, Int.reduceEq]
  refine loopF (ι := Nat) (fun k => [(1, .str c), (2, .cptr [.sl 5 (p.1.map aptR), .sl 3 (p.2.map dstR)]), (4, .ptr S.length 0 0 0), (6, .int .i64 (k : Nat))]) (fun _ => S ++ [⟨0, some (.arr 134 5 [noApt])⟩]) (fun k => k ≤ p.1.length ∧ p.1.find? (fun a => decide (a.city = c)) = (p.1.drop k).find? (fun a => decide (a.city = c))) (fun k => p.1.length - k) (fun i hi => by rw [hσ]; simp) 0 ⟨Nat.zero_le _, rfl⟩ (.inl ⟨?_, rfl⟩) ?_
  · simp only [↓evPre, ↓evPreW, evPost, evPostW, ← List.map_take, ← List.map_drop, ↓reduceIte, reduceCtorEq, Nat.reduceEqDiff, forall_const, implies_true, Nat.reduceAdd, Nat.reduceSub, Nat.reduceMul, Nat.reduceLT, Nat.reduceLeDiff, Int.reduceToNat, Int.reduceAdd, Int.reduceSub, Int.reduceNeg, Int.reduceMul, Int.reduceLT, Int.reduceLE, Int.reduceEq]
  · rintro k ⟨hk, hinv⟩
    cases hc : p.1[k]? with
    | none =>
      have hlt : ¬ ((k : Int) < p.1.length) := by rw [List.getElem?_eq_none_iff] at hc; omega
      have hf : townF p c = none := find_end hinv hc
      simp (disch := first | omega | (simp only [lenT]; omega)) only [hf, findR, noApt, List.length_map, hlt, decide_false, List.take_succ_cons, List.take_zero, evSt, ↓evPre, ↓evPreW, evPost, evPostW, ← List.map_take, ← List.map_drop, ↓reduceIte, reduceCtorEq, Nat.reduceEqDiff, forall_const, implies_true, Nat.reduceAdd, Nat.reduceSub, Nat.reduceMul, Nat.reduceLT, Nat.reduceLeDiff, Int.reduceToNat, Int.reduceAdd, Int.reduceSub, Int.reduceNeg, Int.reduceMul, Int.reduceLT, Int.reduceLE, Int.reduceEq]
      exact ⟨_, S, hn.fgt _, .imm rfl, Nat.le_refl _, rfl, rfl⟩
    | some a =>
      have hlt' := (List.getElem?_eq_some_iff.1 hc).1
      have hlt : (k : Int) < p.1.length := by omega
      by_cases h : a.city = c
      · have he : decide (a.city = c) = true := by simp [h]
        have hf : townF p c = some a := findT_at hinv hc he
        simp (disch := first | omega | (simp only [lenT]; omega)) only [hf, findR, aptR, noApt, List.length_map, hc, hlt, he, decide_true, List.getElem?_map, Option.map_some, List.take_succ_cons, List.take_zero, evSt, ↓evPre, ↓evPreW, evPost, evPostW, ← List.map_take, ← List.map_drop, ↓reduceIte, reduceCtorEq, Nat.reduceEqDiff, forall_const, implies_true, Nat.reduceAdd, Nat.reduceSub, Nat.reduceMul, Nat.reduceLT, Nat.reduceLeDiff, Int.reduceToNat, Int.reduceAdd, Int.reduceSub, Int.reduceNeg, Int.reduceMul, Int.reduceLT, Int.reduceLE, Int.reduceEq]
        exact ⟨_, S, hn.fgt _, .imm rfl, Nat.le_refl _, rfl, rfl⟩
      · simp (disch := first | omega | (simp only [lenT]; omega)) only [aptR, noApt, List.length_map, wrap_i64, hc, hlt, h, decide_true, decide_false, List.getElem?_map, Option.map_some, List.take_succ_cons, List.take_zero, evSt, ↓evPre, ↓evPreW, evPost, evPostW, ← List.map_take, ← List.map_drop, ↓reduceIte, reduceCtorEq, Nat.reduceEqDiff, forall_const, implies_true, Nat.reduceAdd, Nat.reduceSub, Nat.reduceMul, Nat.reduceLT, Nat.reduceLeDiff, Int.reduceToNat, Int.reduceAdd, Int.reduceSub, Int.reduceNeg, Int.reduceMul, Int.reduceLT, Int.reduceLE, Int.reduceEq]
        exact ⟨k + 1, ⟨by omega, find_next hinv hc (by simp [h])⟩, by omega, .inl ⟨by simp only [↓evPre, ↓evPreW, evPost, evPostW, ← List.map_take, ← List.map_drop, ↓reduceIte, reduceCtorEq, Nat.reduceEqDiff, forall_const, implies_true, Nat.reduceAdd, Nat.reduceSub, Nat.reduceMul, Nat.reduceLT, Nat.reduceLeDiff, Int.reduceToNat, Int.reduceAdd, Int.reduceSub, Int.reduceNeg, Int.reduceMul, Int.reduceLT, Int.reduceLE, Int.reduceEq]; rfl, rfl⟩⟩


theorem apt_form (o : Option Apt) : ∃ c1 c2 c3 off sv, findR o = .tup [.agg [.str c1, .str c2, .str c3, .int .i64 off, sv], .bool o.isSome] ∧ sv.isImm = true ∧ sv.cellOk = true := by
  cases o with
  | none => exact ⟨[], [], [], 0, .nilSl, rfl, rfl, rfl⟩
  | some a => exact ⟨a.code, a.city, a.cty, a.off, .sl 2 (a.sh.map shR), rfl, rfl, rfl⟩
def useF (d : Dst) : Bool := decide (1 ≤ d.mi) && decide (d.mi ≤ 20000)
theorem ruse_A (d : Dst) (S : Store) : CallA Tryz.prog 130 [.agg (dstR d)] S fun r S' => r = .bool (useF d) ∧ S' = S := by
  refine CallA.keep Tryz.func130 c630 (Nat.le_of_ble_eq_true rfl) fun σ hσ => ?_
  unfold useF
  cases h : decide (1 ≤ d.mi) <;> simp (disch := first | omega | (simp only [lenT]; omega)) only [a630, dstR, h, Bool.true_and, Bool.false_and, List.take_succ_cons, List.take_zero, evSt, ↓evPre, ↓evPreW, evPost, evPostW, ← List.map_take, ← List.map_drop, ↓reduceIte, reduceCtorEq, Nat.reduceEqDiff, forall_const, implies_true, Nat.reduceAdd, Nat.reduceSub, Nat.reduceMul, Nat.reduceLT, Nat.reduceLeDiff, Int.reduceToNat, Int.reduceAdd, Int.reduceSub, Int.reduceNeg, Int.reduceMul, Int.reduceLT, Int.reduceLE, Int.reduceEq]
theorem fin_es {S L : Store} {x y z : AL.Obj} {v n : Nat} {es : List Int} (hn : n = es.length) : Frz (S ++ x :: y :: z :: ⟨v, some (.arr 34 1 (es.map inR))⟩ :: L) S (.msl (S.length + 3) v 0 n) (.sl 1 (es.map inR)) :=
  .sl (t := 34) (by omega) (by rw [ob_app, ob_cons, ob_cons, ob_cons, ob_head]) (by simp [hn]) (inR_imm es)
set_option maxHeartbeats 8000000 in
set_option maxRecDepth 10000 in
theorem rdst_A (p : Pls) (hp : p.1.length ≤ 2000000) (hp2 : p.2.length ≤ 2000000) (i : Nat) (d : Dst) (hd : p.2[i]? = some d) (S : Store) : CallA Tryz.prog 86 [plV p, .int .i64 (i : Nat)] S fun r S' => ∃ es : List Int, r = .sl 1 (es.map inR) ∧ es.length ≤ 4 ∧ S' = S := by
  refine CallA.withNeat Tryz.func86 c586 fun hn => ?_
  refine CallA.fin Tryz.func86 c586 (Nat.le_of_ble_eq_true rfl) fun σ hσ => ?_
  have hil := (List.getElem?_eq_some_iff.1 hd).1
  obtain ⟨c1, c2, c3, o1, v1, e1, i1, k1⟩ := apt_form (townF p d.fr)
  obtain ⟨c4, c5, c6, o2, v2, e2, i2, k2⟩ := apt_form (townF p d.to)
  have f1 := fun S => rtown_A p d.fr S hp
  have f2 := fun S => rtown_A p d.to S hp
  have fu := fun S => ruse_A d S
  simp only [plV, e1] at f1
  simp only [plV, e2] at f2
  simp only [dstR] at fu
  have r1 : (1 ≤ roomA) = True := by simp [roomA]
  have r2 : (2 ≤ roomA) = True := by simp [roomA]
  have r3 : (3 ≤ roomA) = True := by simp [roomA]
  simp (disch := first | omega | (simp only [lenT]; omega)) only [a586, plV, hd, dstR, List.length_map, List.getElem?_map, Option.map_some, List.take_succ_cons, List.take_zero, evSt, ↓evPre, ↓evPreW, evPost, evPostW, ← List.map_take, ← List.map_drop, ↓reduceIte, reduceCtorEq, Nat.reduceEqDiff, forall_const, implies_true, Nat.reduceAdd, Nat.reduceSub, Nat.reduceMul, Nat.reduceLT, Nat.reduceLeDiff, Int.reduceToNat, Int.reduceAdd, Int.reduceSub, Int.reduceNeg, Int.reduceMul, Int.reduceLT, Int.reduceLE, Int.reduceEq]
  refine (f1 _).then ?_
  simp (disch := first | omega | (simp only [lenT]; omega)) only [i1, k1, evSt, ↓evPre, ↓evPreW, evPost, evPostW, ← List.map_take, ← List.map_drop, ↓reduceIte, reduceCtorEq, Nat.reduceEqDiff, forall_const, implies_true, Nat.reduceAdd, Nat.reduceSub, Nat.reduceMul, Nat.reduceLT, Nat.reduceLeDiff, Int.reduceToNat, Int.reduceAdd, Int.reduceSub, Int.reduceNeg, Int.reduceMul, Int.reduceLT, Int.reduceLE, Int.reduceEq]
  refine (f2 _).then ?_
  apply share_ix (P := Tryz.prog) (N := 99) (σ := σ) (ι := Bool) (fun _ => True) (fun b => [(2, .cptr [.sl 5 (p.1.map aptR), .sl 3 (p.2.map dstR)]), (1, .int .i64 (i : Nat)), (5, if b then .msl (S.length + 3) 0 0 1 else .nilSl), (6, .ptr S.length 0 0 0), (11, .bool false), (12, .int .i64 0)])
    (fun b => S ++ ⟨0, some (.arr 155 3 [dstR d])⟩ :: ⟨0, some (.arr 134 5 [[.str c1, .str c2, .str c3, .int .i64 o1, v1]])⟩ :: ⟨0, some (.arr 134 5 [[.str c4, .str c5, .str c6, .int .i64 o2, v2]])⟩ :: if b then [⟨0, some (.arr 34 1 [[.int .i64 14]])⟩] else [])
  · intro key
    have kt := key true trivial
    have kf := key false trivial
    simp only [if_true, Bool.false_eq_true, if_false] at kt kf
    generalize (townF p d.fr).isSome = b1
    generalize (townF p d.to).isSome = b2
    cases b1 <;> cases b2 <;> simp (disch := first | omega | (simp only [lenT]; omega)) only [r1, true_and, i1, k1, i2, k2, evSt, ↓evPre, ↓evPreW, evPost, evPostW, ← List.map_take, ← List.map_drop, ↓reduceIte, reduceCtorEq, Nat.reduceEqDiff, forall_const, implies_true, Nat.reduceAdd, Nat.reduceSub, Nat.reduceMul, Nat.reduceLT, Nat.reduceLeDiff, Int.reduceToNat, Int.reduceAdd, Int.reduceSub, Int.reduceNeg, Int.reduceMul, Int.reduceLT, Int.reduceLE, Int.reduceEq]
    all_goals first
      | exact kt.sub (by simp only [↓evPre, ↓evPreW, evPost, evPostW, ← List.map_take, ← List.map_drop, ↓reduceIte, reduceCtorEq, Nat.reduceEqDiff, forall_const, implies_true, Nat.reduceAdd, Nat.reduceSub, Nat.reduceMul, Nat.reduceLT, Nat.reduceLeDiff, Int.reduceToNat, Int.reduceAdd, Int.reduceSub, Int.reduceNeg, Int.reduceMul, Int.reduceLT, Int.reduceLE, Int.reduceEq])
      | exact kf.sub (by simp only [↓evPre, ↓evPreW, evPost, evPostW, ← List.map_take, ← List.map_drop, ↓reduceIte, reduceCtorEq, Nat.reduceEqDiff, forall_const, implies_true, Nat.reduceAdd, Nat.reduceSub, Nat.reduceMul, Nat.reduceLT, Nat.reduceLeDiff, Int.reduceToNat, Int.reduceAdd, Int.reduceSub, Int.reduceNeg, Int.reduceMul, Int.reduceLT, Int.reduceLE, Int.reduceEq])
  · intro b _
    have him6 : ∀ r ∈ [dstR d], r.length = 3 ∧ V.allImm r = true := fun r hr => by rw [List.mem_singleton] at hr; subst hr; exact ⟨rfl, rfl⟩
    have him7 : ∀ r ∈ [[.str c1, .str c2, .str c3, .int .i64 o1, v1]], r.length = 5 ∧ V.allImm r = true := fun r hr => by rw [List.mem_singleton] at hr; subst hr; exact ⟨rfl, by simp [V.allImm, V.isImm, i1]⟩
    have him9 : ∀ r ∈ [[.str c4, .str c5, .str c6, .int .i64 o2, v2]], r.length = 5 ∧ V.allImm r = true := fun r hr => by rw [List.mem_singleton] at hr; subst hr; exact ⟨rfl, by simp [V.allImm, V.isImm, i2]⟩
    have him5 : ∀ r ∈ [[V.int .i64 14]], r.length = 1 ∧ V.allImm r = true := fun r hr => by rw [List.mem_singleton] at hr; subst hr; exact ⟨rfl, rfl⟩
    cases b
    case' false =>
      simp only [Bool.false_eq_true, if_false]
      refine loopF (ι := Nat × Bool) (fun k => [(2, .cptr [.sl 5 (p.1.map aptR), .sl 3 (p.2.map dstR)]), (1, .int .i64 (i : Nat)), (5, .nilSl), (6, .ptr S.length 0 0 0), (11, .bool k.2), (12, .int .i64 (k.1 : Nat))]) (fun _ => S ++ [⟨0, some (.arr 155 3 [dstR d])⟩, ⟨0, some (.arr 134 5 [[.str c1, .str c2, .str c3, .int .i64 o1, v1]])⟩, ⟨0, some (.arr 134 5 [[.str c4, .str c5, .str c6, .int .i64 o2, v2]])⟩]) (fun k => k.1 ≤ i) (fun k => i - k.1) (fun i hi => by rw [hσ]; simp) (0, false) (Nat.zero_le _) (.inl ⟨?_, rfl⟩) ?_
    case' true =>
      simp only [if_true]
      refine loopF (ι := Nat × Bool) (fun k => [(2, .cptr [.sl 5 (p.1.map aptR), .sl 3 (p.2.map dstR)]), (1, .int .i64 (i : Nat)), (5, .msl (S.length + 3) 0 0 1), (6, .ptr S.length 0 0 0), (11, .bool k.2), (12, .int .i64 (k.1 : Nat))]) (fun _ => S ++ [⟨0, some (.arr 155 3 [dstR d])⟩, ⟨0, some (.arr 134 5 [[.str c1, .str c2, .str c3, .int .i64 o1, v1]])⟩, ⟨0, some (.arr 134 5 [[.str c4, .str c5, .str c6, .int .i64 o2, v2]])⟩, ⟨0, some (.arr 34 1 [[.int .i64 14]])⟩]) (fun k => k.1 ≤ i) (fun k => i - k.1) (fun i hi => by rw [hσ]; simp) (0, false) (Nat.zero_le _) (.inl ⟨?_, rfl⟩) ?_
    all_goals try (simp only [↓evPre, ↓evPreW, evPost, evPostW, ← List.map_take, ← List.map_drop, ↓reduceIte, reduceCtorEq, Nat.reduceEqDiff, forall_const, implies_true, Nat.reduceAdd, Nat.reduceSub, Nat.reduceMul, Nat.reduceLT, Nat.reduceLeDiff, Int.reduceToNat, Int.reduceAdd, Int.reduceSub, Int.reduceNeg, Int.reduceMul, Int.reduceLT, Int.reduceLE, Int.reduceEq]; done)
    all_goals try (simp only [↓evPre, ↓evPreW, evPost, evPostW, ← List.map_take, ← List.map_drop, ↓reduceIte, reduceCtorEq, Nat.reduceEqDiff, forall_const, implies_true, Nat.reduceAdd, Nat.reduceSub, Nat.reduceMul, Nat.reduceLT, Nat.reduceLeDiff, Int.reduceToNat, Int.reduceAdd, Int.reduceSub, Int.reduceNeg, Int.reduceMul, Int.reduceLT, Int.reduceLE, Int.reduceEq]; rfl)
    all_goals
      rintro ⟨k, tw⟩ hk
      simp only at hk ⊢
      by_cases hki : k < i
      · have hlt : (k : Int) < i := by omega
        have hk1 : (k : Int) + 1 = ((k + 1 : Nat) : Int) := by omega
        obtain ⟨q, hq⟩ : ∃ q, p.2[k]? = some q := ⟨_, List.getElem?_eq_getElem (by omega)⟩
        obtain ⟨tw0, ht0⟩ : ∃ t, t = tw := ⟨_, rfl⟩
        cases tw <;> cases d1 : decide (q.fr = d.fr) <;> cases d2 : decide (q.to = d.to) <;> cases d3 : decide (q.fr = d.to) <;> cases d4 : decide (q.to = d.fr) <;> simp (disch := first | omega | (simp only [lenT]; omega)) only [dT hlt, hq, d1, d2, d3, d4, dstR, wrap_i64, hk1, List.length_map, List.getElem?_map, Option.map_some, List.take_succ_cons, List.take_zero, evSt, ↓evPre, ↓evPreW, evPost, evPostW, ← List.map_take, ← List.map_drop, ↓reduceIte, reduceCtorEq, Nat.reduceEqDiff, forall_const, implies_true, Nat.reduceAdd, Nat.reduceSub, Nat.reduceMul, Nat.reduceLT, Nat.reduceLeDiff, Int.reduceToNat, Int.reduceAdd, Int.reduceSub, Int.reduceNeg, Int.reduceMul, Int.reduceLT, Int.reduceLE, Int.reduceEq]
        all_goals
          refine ⟨(k + 1, tw0 || (decide (q.fr = d.fr) && decide (q.to = d.to)) || (decide (q.fr = d.to) && decide (q.to = d.fr))), by simp only; omega, by simp only; omega, back_under ?_ ?_ ?_⟩
          · first
              | exact hn.fgtL (L := [_, _, _, _]) (L1 := [_, _, _]) ⟨rfl, ⟨_, rfl, .imm him6⟩, rfl, ⟨_, rfl, .imm him7⟩, rfl, ⟨_, rfl, .imm him9⟩, trivial⟩
              | exact hn.fgtL (L := [_, _, _, _, _]) (L1 := [_, _, _, _]) ⟨rfl, ⟨_, rfl, .imm him6⟩, rfl, ⟨_, rfl, .imm him7⟩, rfl, ⟨_, rfl, .imm him9⟩, rfl, ⟨_, rfl, .imm him5⟩, trivial⟩
          · simp only [d1, d2, d3, d4, ht0, Bool.and_true, Bool.and_false, Bool.or_false, Bool.or_true, Bool.and_self, Bool.or_self, Bool.true_or, Bool.false_or, ↓evPre, ↓evPreW, evPost, evPostW, ← List.map_take, ← List.map_drop, ↓reduceIte, reduceCtorEq, Nat.reduceEqDiff, forall_const, implies_true, Nat.reduceAdd, Nat.reduceSub, Nat.reduceMul, Nat.reduceLT, Nat.reduceLeDiff, Int.reduceToNat, Int.reduceAdd, Int.reduceSub, Int.reduceNeg, Int.reduceMul, Int.reduceLT, Int.reduceLE, Int.reduceEq]
          · simp [V.under, V.allUnder]
      · have hlt : ¬ (k : Int) < i := by omega
        cases tw <;> simp (disch := first | omega | (simp only [lenT]; omega)) only [dF hlt, r1, r2, r3, true_and, dstR, evSt, ↓evPre, ↓evPreW, evPost, evPostW, ← List.map_take, ← List.map_drop, ↓reduceIte, reduceCtorEq, Nat.reduceEqDiff, forall_const, implies_true, Nat.reduceAdd, Nat.reduceSub, Nat.reduceMul, Nat.reduceLT, Nat.reduceLeDiff, Int.reduceToNat, Int.reduceAdd, Int.reduceSub, Int.reduceNeg, Int.reduceMul, Int.reduceLT, Int.reduceLE, Int.reduceEq]
        all_goals
          refine (fu _).then ?_
          cases hu : useF d <;> cases h5 : decide (d.fr = d.to) <;> simp (disch := first | omega | (simp only [lenT]; omega)) only [h5, r1, r2, r3, true_and, dstR, List.cons_append, List.nil_append, evSt, ↓evPre, ↓evPreW, evPost, evPostW, ← List.map_take, ← List.map_drop, ↓reduceIte, reduceCtorEq, Nat.reduceEqDiff, forall_const, implies_true, Nat.reduceAdd, Nat.reduceSub, Nat.reduceMul, Nat.reduceLT, Nat.reduceLeDiff, Int.reduceToNat, Int.reduceAdd, Int.reduceSub, Int.reduceNeg, Int.reduceMul, Int.reduceLT, Int.reduceLE, Int.reduceEq]
        all_goals first
          | exact ⟨_, S, hn.fgt _, .nil, Nat.le_refl _, [], rfl, by simp, rfl⟩
          | exact ⟨_, S, hn.fgt _, fin_es (es := [14]) rfl, Nat.le_refl _, [14], rfl, by simp, rfl⟩
          | exact ⟨_, S, hn.fgt _, fin_es (es := [6]) rfl, Nat.le_refl _, [6], rfl, by simp, rfl⟩
          | exact ⟨_, S, hn.fgt _, fin_es (es := [2]) rfl, Nat.le_refl _, [2], rfl, by simp, rfl⟩
          | exact ⟨_, S, hn.fgt _, fin_es (es := [14, 6]) rfl, Nat.le_refl _, [14, 6], rfl, by simp, rfl⟩
          | exact ⟨_, S, hn.fgt _, fin_es (es := [14, 2]) rfl, Nat.le_refl _, [14, 2], rfl, by simp, rfl⟩
          | exact ⟨_, S, hn.fgt _, fin_es (es := [6, 2]) rfl, Nat.le_refl _, [6, 2], rfl, by simp, rfl⟩
          | exact ⟨_, S, hn.fgt _, fin_es (es := [14, 6, 2]) rfl, Nat.le_refl _, [14, 6, 2], rfl, by simp, rfl⟩
end Go.Proofs.YtiihkfjbllpiaaaGreatDoor
