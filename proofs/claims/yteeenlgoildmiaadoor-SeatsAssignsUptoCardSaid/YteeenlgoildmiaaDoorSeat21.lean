/- Who is served: the walk of the reference, and the law. -/
import Derived.Test.YteeenlgoildmiaaDoorSeat20
namespace Go.Proofs.YteeenlgoildmiaaDoor
open Go Go.AL
set_option linter.unusedSimpArgs false
set_option linter.unusedVariables false

def atI (o : Option Nat) : Int := match o with
  | some a => a
  | none => -1
theorem first_A (cl : List Clm) (d : List Bool) (S T : Store) (hl : cl.length ≤ 1000000) (hd : d.length = cl.length) : CallA Tryd.prog 27 [clSl cl, .msl S.length 0 0 cl.length] (S ++ ⟨0, some (.arr 4 1 (d.map bR))⟩ :: T) fun r S' => r = .int .i64 (atI (bestTo cl d cl.length)) ∧ S' = S ++ ⟨0, some (.arr 4 1 (d.map bR))⟩ :: T := by
  refine CallA.keep Tryd.func27 c27 (Nat.le_of_ble_eq_true rfl) fun σ hσ => ?_
  simp (disch := first | omega | (simp only [List.length_cons, List.length_nil, List.length_map, List.length_drop]; omega)) only [a27, clSl, evSt, ↓evPre, ↓evPreW, evPost, evPostW, ← List.map_take, ← List.map_drop, ↓reduceIte, reduceCtorEq, Nat.reduceEqDiff, forall_const, implies_true, Nat.reduceAdd, Nat.reduceSub, Nat.reduceMul, Nat.reduceLT, Nat.reduceLeDiff, Int.reduceToNat, Int.reduceAdd, Int.reduceSub, Int.reduceNeg, Int.reduceMul, Int.reduceLT, Int.reduceLE, Int.reduceEq]
  refine loopA (ι := Nat) (fun k => [(0, clSl cl), (1, .msl S.length 0 0 cl.length), (5, .int .i64 (atI (bestTo cl d k))), (6, .int .i64 k)]) (fun _ => S ++ ⟨0, some (.arr 4 1 (d.map bR))⟩ :: T) (fun k => k ≤ cl.length) (fun k => cl.length - k) 0 (Nat.zero_le _) ?_ rfl ?_
  · simp only [clSl, bestTo, atI, ↓evPre, ↓evPreW, evPost, evPostW, ← List.map_take, ← List.map_drop, ↓reduceIte, reduceCtorEq, Nat.reduceEqDiff, forall_const, implies_true, Nat.reduceAdd, Nat.reduceSub, Nat.reduceMul, Nat.reduceLT, Nat.reduceLeDiff, Int.reduceToNat, Int.reduceAdd, Int.reduceSub, Int.reduceNeg, Int.reduceMul, Int.reduceLT, Int.reduceLE, Int.reduceEq]
  · intro k hk
    by_cases hkl : k < cl.length
    · have hlt : (k : Int) < cl.length := by omega
      have hdk : d[k]? = some (d.getD k true) := by rw [List.getD_eq_getElem?_getD, List.getElem?_eq_getElem (by omega)]; rfl
      have hc : cl[k]? = some cl[k] := List.getElem?_eq_getElem hkl
      have hg := gk_get hc
      have hspec := best_spec cl d k
      generalize cl[k] = c at hc hg
      cases hb : d.getD k true with
      | true =>
        have e : bestTo cl d (k + 1) = bestTo cl d k := by rw [bestTo, hb, if_pos rfl]
        rw [hb] at hdk
        simp (disch := first | omega | (simp only [List.length_cons, List.length_nil, List.length_map, List.length_drop]; omega)) only [clSl, bR, hlt, hdk, wrap_i64, List.length_map, decide_true, List.getElem?_map, Option.map_some, evSt, ↓evPre, ↓evPreW, evPost, evPostW, ← List.map_take, ← List.map_drop, ↓reduceIte, reduceCtorEq, Nat.reduceEqDiff, forall_const, implies_true, Nat.reduceAdd, Nat.reduceSub, Nat.reduceMul, Nat.reduceLT, Nat.reduceLeDiff, Int.reduceToNat, Int.reduceAdd, Int.reduceSub, Int.reduceNeg, Int.reduceMul, Int.reduceLT, Int.reduceLE, Int.reduceEq]
        exact ⟨k + 1, by omega, by omega, by rw [e], rfl⟩
      | false =>
        rw [hb] at hdk
        cases hbt : bestTo cl d k with
        | none =>
          have e : bestTo cl d (k + 1) = some k := by rw [bestTo, hb, if_neg (by simp), hbt]
          have hm : (-1 : Int) < 0 := by omega
          simp (disch := first | omega | (simp only [List.length_cons, List.length_nil, List.length_map, List.length_drop]; omega)) only [clSl, bR, atI, hlt, hdk, hm, wrap_i64, List.length_map, decide_true, List.getElem?_map, Option.map_some, evSt, ↓evPre, ↓evPreW, evPost, evPostW, ← List.map_take, ← List.map_drop, ↓reduceIte, reduceCtorEq, Nat.reduceEqDiff, forall_const, implies_true, Nat.reduceAdd, Nat.reduceSub, Nat.reduceMul, Nat.reduceLT, Nat.reduceLeDiff, Int.reduceToNat, Int.reduceAdd, Int.reduceSub, Int.reduceNeg, Int.reduceMul, Int.reduceLT, Int.reduceLE, Int.reduceEq]
          exact ⟨k + 1, by omega, by omega, by rw [e], rfl⟩
        | some a =>
          rw [hbt] at hspec
          have ha : cl[a]? = some cl[a] := List.getElem?_eq_getElem (by have := hspec.1; omega)
          have hga := gk_get ha
          generalize cl[a] = m at ha hga
          have hm : ¬ (a : Int) < 0 := by omega
          by_cases hr : m.rank < c.rank
          · have e : bestTo cl d (k + 1) = some k := by rw [bestTo, hb, if_neg (by simp), hbt]; simp only; rw [hg, hga, if_pos hr]
            simp (disch := first | omega | (simp only [List.length_cons, List.length_nil, List.length_map, List.length_drop]; omega)) only [clSl, clmR, bR, atI, hlt, hdk, hm, ha, hc, hr, wrap_i64, List.length_map, decide_true, decide_false, List.getElem?_map, Option.map_some, List.take_succ_cons, List.take_zero, evSt, ↓evPre, ↓evPreW, evPost, evPostW, ← List.map_take, ← List.map_drop, ↓reduceIte, reduceCtorEq, Nat.reduceEqDiff, forall_const, implies_true, Nat.reduceAdd, Nat.reduceSub, Nat.reduceMul, Nat.reduceLT, Nat.reduceLeDiff, Int.reduceToNat, Int.reduceAdd, Int.reduceSub, Int.reduceNeg, Int.reduceMul, Int.reduceLT, Int.reduceLE, Int.reduceEq]
            exact ⟨k + 1, by omega, by omega, by rw [e], rfl⟩
          · have e : bestTo cl d (k + 1) = some a := by rw [bestTo, hb, if_neg (by simp), hbt]; simp only; rw [hg, hga, if_neg hr]
            simp (disch := first | omega | (simp only [List.length_cons, List.length_nil, List.length_map, List.length_drop]; omega)) only [clSl, clmR, bR, atI, hlt, hdk, hm, ha, hc, hr, wrap_i64, List.length_map, decide_true, decide_false, List.getElem?_map, Option.map_some, List.take_succ_cons, List.take_zero, evSt, ↓evPre, ↓evPreW, evPost, evPostW, ← List.map_take, ← List.map_drop, ↓reduceIte, reduceCtorEq, Nat.reduceEqDiff, forall_const, implies_true, Nat.reduceAdd, Nat.reduceSub, Nat.reduceMul, Nat.reduceLT, Nat.reduceLeDiff, Int.reduceToNat, Int.reduceAdd, Int.reduceSub, Int.reduceNeg, Int.reduceMul, Int.reduceLT, Int.reduceLE, Int.reduceEq]
            exact ⟨k + 1, by omega, by omega, by rw [e], rfl⟩
    · have hlt : ¬ (k : Int) < cl.length := by omega
      have e : k = cl.length := by omega
      subst e
      simp (disch := first | omega | (simp only [List.length_cons, List.length_nil, List.length_map, List.length_drop]; omega)) only [clSl, hlt, List.length_map, decide_false, evSt, ↓evPre, ↓evPreW, evPost, evPostW, ← List.map_take, ← List.map_drop, ↓reduceIte, reduceCtorEq, Nat.reduceEqDiff, forall_const, implies_true, Nat.reduceAdd, Nat.reduceSub, Nat.reduceMul, Nat.reduceLT, Nat.reduceLeDiff, Int.reduceToNat, Int.reduceAdd, Int.reduceSub, Int.reduceNeg, Int.reduceMul, Int.reduceLT, Int.reduceLE, Int.reduceEq]

theorem any_drop {L k : Nat} {f : Nat → Bool} (h : k < L) : ((List.range L).drop k).any f = (f k || ((List.range L).drop (k + 1)).any f) := by rw [range_at h, List.any_cons]

theorem together_A (se : List Sea) (cs : List Clm) (S : Store) (idc ver : Nat) (hob : ∀ L : Store, Store.obj? (S ++ L) idc ver = some (38, 4, cs.map clmR)) (hL : se.length ≤ 1000000) (hC : cs.length ≤ 1000) : ∀ (r : List Clm) (k : Nat) (t : List Bool), cs.drop k = r → k ≤ cs.length → t.length = se.length →
    CallA Tryd.prog 28 [seSl se, .msl idc ver 0 cs.length, .int .i64 k, .msl S.length 0 0 se.length] (tkS S t) fun q S' => q = .bool (togF se r t) ∧ S' = tkS S t
  | [], k, t, hd, hk, ht => by
    have e : k = cs.length := by
      have := List.drop_eq_nil_iff.1 hd
      omega
    subst e
    refine CallA.keep Tryd.func28 c28 (Nat.le_of_ble_eq_true rfl) fun σ hσ => ?_
    simp (disch := first | omega | (simp only [List.length_cons, List.length_nil, List.length_map, List.length_drop]; omega)) only [a28, seSl, clSl, List.length_map, eq_self, decide_true, evSt, ↓evPre, ↓evPreW, evPost, evPostW, ← List.map_take, ← List.map_drop, ↓reduceIte, reduceCtorEq, Nat.reduceEqDiff, forall_const, implies_true, Nat.reduceAdd, Nat.reduceSub, Nat.reduceMul, Nat.reduceLT, Nat.reduceLeDiff, Int.reduceToNat, Int.reduceAdd, Int.reduceSub, Int.reduceNeg, Int.reduceMul, Int.reduceLT, Int.reduceLE, Int.reduceEq]
    rw [togF]
  | c :: r, k, t, hd, hk, ht => by
    have hkl : k < cs.length := by
      refine Decidable.byContradiction fun hn => ?_
      rw [List.drop_eq_nil_of_le (by omega)] at hd
      cases hd
    have hck : cs[k]? = some c := by
      have := congrArg (fun l => l[0]?) hd
      simpa using this
    have hdr : cs.drop (k + 1) = r := by
      have := congrArg (List.drop 1) hd
      simpa [List.drop_drop, Nat.add_comm] using this
    have hne : ¬ (k : Int) = cs.length := by omega
    refine CallA.keep Tryd.func28 c28 (Nat.le_of_ble_eq_true rfl) fun σ hσ => ?_
    simp (disch := first | omega | (simp only [List.length_cons, List.length_nil, List.length_map, List.length_drop]; omega)) only [a28, seSl, clSl, hne, wrap_i64, List.length_map, decide_false, evSt, ↓evPre, ↓evPreW, evPost, evPostW, ← List.map_take, ← List.map_drop, ↓reduceIte, reduceCtorEq, Nat.reduceEqDiff, forall_const, implies_true, Nat.reduceAdd, Nat.reduceSub, Nat.reduceMul, Nat.reduceLT, Nat.reduceLeDiff, Int.reduceToNat, Int.reduceAdd, Int.reduceSub, Int.reduceNeg, Int.reduceMul, Int.reduceLT, Int.reduceLE, Int.reduceEq]
    refine loopA (ι := Nat) (fun j => [(0, seSl se), (1, .msl idc ver 0 cs.length), (2, .int .i64 k), (3, .msl S.length 0 0 se.length), (9, .int .i64 j)]) (fun _ => tkS S t)
      (fun j => j ≤ se.length ∧ ((List.range se.length).drop j).any (fun i => (!t.getD i true && fitsI se i c) && togF se r (t.set i true)) = togF se (c :: r) t) (fun j => se.length - j) 0 ⟨Nat.zero_le _, rfl⟩ ?_ rfl ?_
    · simp only [seSl, clSl, ↓evPre, ↓evPreW, evPost, evPostW, ← List.map_take, ← List.map_drop, ↓reduceIte, reduceCtorEq, Nat.reduceEqDiff, forall_const, implies_true, Nat.reduceAdd, Nat.reduceSub, Nat.reduceMul, Nat.reduceLT, Nat.reduceLeDiff, Int.reduceToNat, Int.reduceAdd, Int.reduceSub, Int.reduceNeg, Int.reduceMul, Int.reduceLT, Int.reduceLE, Int.reduceEq]
    · rintro j ⟨hj, hf⟩
      by_cases hjl : j < se.length
      · have hlt : (j : Int) < se.length := by omega
        rw [any_drop hjl] at hf
        have htj : t[j]? = some (t.getD j true) := by rw [List.getD_eq_getElem?_getD, List.getElem?_eq_getElem (by omega)]; rfl
        have hx : se[j]? = some se[j] := List.getElem?_eq_getElem hjl
        have hfi : fitsI se j c = fitsF se[j] c := by rw [fitsI, hx]
        generalize se[j] = x at hx hfi
        cases hb : t.getD j true with
        | true =>
          rw [hb] at htj hf
          simp only [Bool.not_true, Bool.false_and, Bool.false_or] at hf
          simp (disch := first | omega | (simp only [List.length_cons, List.length_nil, List.length_map, List.length_drop]; omega)) only [tkS, seSl, clSl, bR, hlt, htj, wrap_i64, List.length_map, decide_true, List.getElem?_map, Option.map_some, evSt, ↓evPre, ↓evPreW, evPost, evPostW, ← List.map_take, ← List.map_drop, ↓reduceIte, reduceCtorEq, Nat.reduceEqDiff, forall_const, implies_true, Nat.reduceAdd, Nat.reduceSub, Nat.reduceMul, Nat.reduceLT, Nat.reduceLeDiff, Int.reduceToNat, Int.reduceAdd, Int.reduceSub, Int.reduceNeg, Int.reduceMul, Int.reduceLT, Int.reduceLE, Int.reduceEq]
          exact ⟨j + 1, ⟨by omega, hf⟩, by omega, rfl⟩
        | false =>
          rw [hb] at htj hf
          rw [hfi] at hf
          simp (disch := first | omega | (simp only [List.length_cons, List.length_nil, List.length_map, List.length_drop]; omega)) only [tkS, hob, seSl, clSl, seaR, clmR, bR, hlt, htj, hx, hck, wrap_i64, List.length_map, decide_true, List.getElem?_map, Option.map_some, Nat.zero_add, List.take_succ_cons, List.take_zero, evSt, ↓evPre, ↓evPreW, evPost, evPostW, ← List.map_take, ← List.map_drop, ↓reduceIte, reduceCtorEq, Nat.reduceEqDiff, forall_const, implies_true, Nat.reduceAdd, Nat.reduceSub, Nat.reduceMul, Nat.reduceLT, Nat.reduceLeDiff, Int.reduceToNat, Int.reduceAdd, Int.reduceSub, Int.reduceNeg, Int.reduceMul, Int.reduceLT, Int.reduceLE, Int.reduceEq]
          refine (rfits_A x c _).then ?_
          cases hfx : fitsF x c with
          | false =>
            rw [hfx] at hf
            simp only [Bool.not_false, Bool.and_false, Bool.false_and, Bool.false_or] at hf
            simp (disch := first | omega | (simp only [List.length_cons, List.length_nil, List.length_map, List.length_drop]; omega)) only [tkS, seSl, clSl, bR, hlt, htj, wrap_i64, List.length_map, decide_true, List.getElem?_map, Option.map_some, evSt, ↓evPre, ↓evPreW, evPost, evPostW, ← List.map_take, ← List.map_drop, ↓reduceIte, reduceCtorEq, Nat.reduceEqDiff, forall_const, implies_true, Nat.reduceAdd, Nat.reduceSub, Nat.reduceMul, Nat.reduceLT, Nat.reduceLeDiff, Int.reduceToNat, Int.reduceAdd, Int.reduceSub, Int.reduceNeg, Int.reduceMul, Int.reduceLT, Int.reduceLE, Int.reduceEq]
            exact ⟨j + 1, ⟨by omega, hf⟩, by omega, rfl⟩
          | true =>
            rw [hfx] at hf
            simp only [Bool.not_false, Bool.and_true, Bool.true_and] at hf
            have hrec := together_A se cs S idc ver hob hL hC r (k + 1) (t.set j true) hdr (by omega) (by simp [ht])
            simp only [tkS] at hrec
            simp (disch := first | omega | (simp only [List.length_cons, List.length_nil, List.length_map, List.length_drop]; omega)) only [tkS, seSl, clSl, bR, hlt, htj, set_bR, wrap_i64, List.length_map, decide_true, List.getElem?_map, Option.map_some, Nat.zero_add, evSt, ↓evPre, ↓evPreW, evPost, evPostW, ← List.map_take, ← List.map_drop, ↓reduceIte, reduceCtorEq, Nat.reduceEqDiff, forall_const, implies_true, Nat.reduceAdd, Nat.reduceSub, Nat.reduceMul, Nat.reduceLT, Nat.reduceLeDiff, Int.reduceToNat, Int.reduceAdd, Int.reduceSub, Int.reduceNeg, Int.reduceMul, Int.reduceLT, Int.reduceLE, Int.reduceEq]
            refine hrec.mono ?_
            rintro _ _ ⟨rfl, rfl⟩
            have hts : (t.set j true)[j]? = some true := by rw [List.getElem?_set]; simp; omega
            cases hok : togF se r (t.set j true) with
            | true =>
              rw [hok, Bool.true_or] at hf
              simp (disch := first | omega | (simp only [List.length_cons, List.length_nil, List.length_map, List.length_drop]; omega)) only [tkS, seSl, clSl, bR, hlt, hts, set_bR, set_back htj, wrap_i64, List.length_map, decide_true, List.getElem?_map, Option.map_some, Nat.zero_add, evSt, ↓evPre, ↓evPreW, evPost, evPostW, ← List.map_take, ← List.map_drop, ↓reduceIte, reduceCtorEq, Nat.reduceEqDiff, forall_const, implies_true, Nat.reduceAdd, Nat.reduceSub, Nat.reduceMul, Nat.reduceLT, Nat.reduceLeDiff, Int.reduceToNat, Int.reduceAdd, Int.reduceSub, Int.reduceNeg, Int.reduceMul, Int.reduceLT, Int.reduceLE, Int.reduceEq]
              rw [← hf]
            | false =>
              rw [hok, Bool.false_or] at hf
              simp (disch := first | omega | (simp only [List.length_cons, List.length_nil, List.length_map, List.length_drop]; omega)) only [tkS, seSl, clSl, bR, hlt, hts, set_bR, set_back htj, wrap_i64, List.length_map, decide_true, List.getElem?_map, Option.map_some, Nat.zero_add, evSt, ↓evPre, ↓evPreW, evPost, evPostW, ← List.map_take, ← List.map_drop, ↓reduceIte, reduceCtorEq, Nat.reduceEqDiff, forall_const, implies_true, Nat.reduceAdd, Nat.reduceSub, Nat.reduceMul, Nat.reduceLT, Nat.reduceLeDiff, Int.reduceToNat, Int.reduceAdd, Int.reduceSub, Int.reduceNeg, Int.reduceMul, Int.reduceLT, Int.reduceLE, Int.reduceEq]
              exact ⟨j + 1, ⟨by omega, hf⟩, by omega, rfl⟩
      · have hlt : ¬ (j : Int) < se.length := by omega
        have e : j = se.length := by omega
        rw [e, List.drop_eq_nil_of_le (by simp), List.any_nil] at hf
        simp (disch := first | omega | (simp only [List.length_cons, List.length_nil, List.length_map, List.length_drop]; omega)) only [tkS, seSl, clSl, hlt, List.length_map, decide_false, evSt, ↓evPre, ↓evPreW, evPost, evPostW, ← List.map_take, ← List.map_drop, ↓reduceIte, reduceCtorEq, Nat.reduceEqDiff, forall_const, implies_true, Nat.reduceAdd, Nat.reduceSub, Nat.reduceMul, Nat.reduceLT, Nat.reduceLeDiff, Int.reduceToNat, Int.reduceAdd, Int.reduceSub, Int.reduceNeg, Int.reduceMul, Int.reduceLT, Int.reduceLE, Int.reduceEq]
        rw [← hf]
end Go.Proofs.YteeenlgoildmiaaDoor
