/- Characters as numbers. -/
import Derived.Test.YtnepgfplikifjaaLoc2
namespace Go.Proofs.Ytnepgfplikifjaa
open Go Go.AL
set_option linter.unusedSimpArgs false
set_option maxHeartbeats 2000000

def vals (s : List UInt8) : List Int := (s.take 5).map ix
def hn (vs : List Int) : Nat → Int
  | 0 => 0
  | k + 1 => hn vs k * 32 + vs.getD k 0
def good (s : List UInt8) : Bool := decide (s.length = 6) && (vals s).all (fun v => decide (0 ≤ v)) && decide (s.getD 5 0 = atc (chk (vals s)))
def numF (s : List UInt8) : Int × Int := if good s then (hn (vals s) 5, 0) else (0, 3)

theorem vals_get {s : List UInt8} {k : Nat} {c : UInt8} (hk : k < 5) (h : s[k]? = some c) : (vals s)[k]? = some (ix c) := by
  simp [vals, List.getElem?_take, hk, h]

theorem vals_small {s : List UInt8} (h : ∀ v ∈ vals s, 0 ≤ v) : small (vals s) := fun v hv => by
  refine ⟨h v hv, ?_⟩
  obtain ⟨c, _, rfl⟩ := List.mem_map.1 hv
  rcases ix_cases c with h1 | ⟨i, h1, h2, _⟩ <;> omega

theorem hn_bound {vs : List Int} : ∀ k : Nat, (∀ j, j < k → 0 ≤ vs.getD j 0 ∧ vs.getD j 0 ≤ 31) → 0 ≤ hn vs k ∧ hn vs k < 32 ^ k
  | 0, _ => by simp [hn]
  | k + 1, h => by
    have h1 := hn_bound k fun j hj => h j (by omega)
    have h2 := h k (by omega)
    have h3 : (32 : Int) ^ (k + 1) = 32 * 32 ^ k := by rw [Int.pow_succ]; omega
    rw [hn, h3]
    omega

theorem pow_le {k : Nat} (hk : k ≤ 5) : (32 : Int) ^ k ≤ 33554432 := by
  match k, hk with
  | 0, _ => decide
  | 1, _ => decide
  | 2, _ => decide
  | 3, _ => decide
  | 4, _ => decide
  | 5, _ => decide

def aN (vs : List Int) (k : Nat) : List Int := vs.take k ++ List.replicate (5 - k) 0

theorem aN_step {vs : List Int} {k : Nat} {v : Int} (hk : k < 5) (hl : vs.length = 5) (hv : vs[k]? = some v) : (vI (aN vs k)).take k ++ [.int .i64 v] ++ (vI (aN vs k)).drop (k + 1) = vI (aN vs (k + 1)) := by
  have e : 5 - k = (5 - (k + 1)) + 1 := by omega
  have hlt : (vs.take k).length = k := by simp; omega
  simp only [vI, aN, ← List.map_take, ← List.map_drop]
  rw [e, List.replicate_succ, List.take_left' hlt, List.take_add_one, hv]
  have : (vs.take k ++ 0 :: List.replicate (5 - (k + 1)) 0).drop (k + 1) = List.replicate (5 - (k + 1)) (0 : Int) := by
    rw [List.drop_append, List.drop_eq_nil_of_le (by omega), hlt]
    simp
  rw [this]
  simp

theorem number_A (s : List UInt8) (S : Store) : CallA Try.prog 9 [.str s] S fun r S' => r = .tup [.int .i64 (numF s).1, .int .i64 (numF s).2] ∧ S' = S := by
  refine CallA.back Try.func9 c9 (Nat.le_of_ble_eq_true rfl) fun σ hσ hn' => ?_
  have bad : good s = false → numF s = (0, 3) := fun h => by rw [numF, h]; rfl
  by_cases h1 : (s.length : Int) = 6
  · have h1' : s.length = 6 := by omega
    have hvl : (vals s).length = 5 := by simp [vals]; omega
    simp only [a9, h1, evSt, ↓evPre, ↓evPreW, evPost, evPostW, ← List.map_take, ← List.map_drop, ↓reduceIte, reduceCtorEq, Nat.reduceEqDiff, forall_const, implies_true, Nat.reduceAdd, Nat.reduceSub, Nat.reduceMul, Nat.reduceLT, Nat.reduceLeDiff, Int.reduceToNat, Int.reduceAdd, Int.reduceSub, Int.reduceNeg, Int.reduceMul, Int.reduceLT, Int.reduceLE, Int.reduceEq]
    refine loopA (ι := Nat) (fun k => [(0, .str s), (4, .ptr S.length 0 0 0), (5, .int .i64 (hn (vals s) k)), (11, .int .i64 k)]) (fun k => S ++ [⟨0, some (.arr 35 5 [vI (aN (vals s) k)])⟩]) (fun k => k ≤ 5 ∧ ∀ j, j < k → 0 ≤ (vals s).getD j 0 ∧ (vals s).getD j 0 ≤ 31) (fun k => 5 - k) 0 ⟨Nat.zero_le _, fun j hj => by omega⟩ ?_ rfl ?_
    · simp only [hn, evSt, ↓evPre, ↓evPreW, evPost, evPostW, ← List.map_take, ← List.map_drop, ↓reduceIte, reduceCtorEq, Nat.reduceEqDiff, forall_const, implies_true, Nat.reduceAdd, Nat.reduceSub, Nat.reduceMul, Nat.reduceLT, Nat.reduceLeDiff, Int.reduceToNat, Int.reduceAdd, Int.reduceSub, Int.reduceNeg, Int.reduceMul, Int.reduceLT, Int.reduceLE, Int.reduceEq]
    · rintro k ⟨hk, hv⟩
      have hb := hn_bound k hv
      have hp := pow_le hk
      have hal : (vI (aN (vals s) k)).length = 5 := by simp [vI, aN, hvl]; omega
      by_cases hlt : (k : Int) < 5
      · obtain ⟨c, hc⟩ : ∃ c, s[k]? = some c := ⟨s[k]'(by omega), List.getElem?_eq_getElem _⟩
        have hvk := vals_get (by omega) hc
        have hgd : (vals s).getD k 0 = ix c := by rw [List.getD_eq_getElem?_getD, hvk]; rfl
        simp (disch := first | omega | (simp only [List.length_cons, List.length_nil, List.length_map, List.length_drop]; omega)) only [hlt, hc, wrap_i64, evSt, ↓evPre, ↓evPreW, evPost, evPostW, ← List.map_take, ← List.map_drop, ↓reduceIte, reduceCtorEq, Nat.reduceEqDiff, forall_const, implies_true, Nat.reduceAdd, Nat.reduceSub, Nat.reduceMul, Nat.reduceLT, Nat.reduceLeDiff, Int.reduceToNat, Int.reduceAdd, Int.reduceSub, Int.reduceNeg, Int.reduceMul, Int.reduceLT, Int.reduceLE, Int.reduceEq]
        refine (index_A c _).then ?_
        rcases ix_cases c with hx | ⟨i, hx, hi, hai⟩
        · have hbad : good s = false := by
            have : (vals s).all (fun v => decide (0 ≤ v)) = false := by
              rw [List.all_eq_false]
              exact ⟨ix c, List.mem_of_getElem? hvk, by rw [hx]; decide⟩
            simp [good, this]
          have h0 : ix c < 0 := by omega
          simp (disch := first | omega | (simp only [List.length_cons, List.length_nil, List.length_map, List.length_drop]; omega)) only [h0, wrap_i64, evSt, ↓evPre, ↓evPreW, evPost, evPostW, ← List.map_take, ← List.map_drop, ↓reduceIte, reduceCtorEq, Nat.reduceEqDiff, forall_const, implies_true, Nat.reduceAdd, Nat.reduceSub, Nat.reduceMul, Nat.reduceLT, Nat.reduceLeDiff, Int.reduceToNat, Int.reduceAdd, Int.reduceSub, Int.reduceNeg, Int.reduceMul, Int.reduceLT, Int.reduceLE, Int.reduceEq]
          exact ⟨_, ⟨_, rfl⟩, .imm rfl, by rw [bad hbad]⟩
        · have h0 : ¬ ix c < 0 := by omega
          simp (disch := first | omega | (simp only [List.length_cons, List.length_nil, List.length_map, List.length_drop]; omega)) only [h0, hal, wrap_i64, idxR_p, idxRO_some, Nat.mul_one, evSt, ↓evPre, ↓evPreW, evPost, evPostW, ← List.map_take, ← List.map_drop, ↓reduceIte, reduceCtorEq, Nat.reduceEqDiff, forall_const, implies_true, Nat.reduceAdd, Nat.reduceSub, Nat.reduceMul, Nat.reduceLT, Nat.reduceLeDiff, Int.reduceToNat, Int.reduceAdd, Int.reduceSub, Int.reduceNeg, Int.reduceMul, Int.reduceLT, Int.reduceLE, Int.reduceEq]
          refine ⟨by omega, k + 1, ⟨by omega, fun j hj => ?_⟩, by omega, ⟨?_, by omega⟩, by rw [aN_step (by omega) hvl hvk]⟩
          · by_cases hjk : j = k
            · subst hjk
              rw [hgd]
              omega
            · exact hv j (by omega)
          · rw [hn, hgd]
      · have hk5 : k = 5 := by omega
        subst hk5
        have haN : aN (vals s) 5 = vals s := by rw [aN, List.take_of_length_le (by omega)]; simp
        have hall : ∀ v ∈ vals s, 0 ≤ v := fun v hm => by
          obtain ⟨j, hj⟩ := List.getElem?_of_mem hm
          have := (hv j (by have := (List.getElem?_eq_some_iff.1 hj).1; omega)).1
          rw [List.getD_eq_getElem?_getD, hj] at this
          exact this
        have hsm := vals_small hall
        have hld : ldnR (some (vI (vals s))) 5 0 = some (.agg (vI (vals s))) := by
          have : (vI (vals s)).length = 5 := by simp [vI, hvl]
          rw [ldnR_some (by omega), List.drop_zero, List.take_of_length_le (by omega)]
        have h5 : s[5]? = some (s.getD 5 0) := by rw [List.getD_eq_getElem?_getD, List.getElem?_eq_getElem (by omega)]; rfl
        have hck := chk_small (vals s)
        have hat := atc_get hck
        rw [haN]
        simp (disch := first | omega | (simp only [List.length_cons, List.length_nil, List.length_map, List.length_drop]; omega)) only [hlt, hld, h5, wrap_i64, evSt, ↓evPre, ↓evPreW, evPost, evPostW, ← List.map_take, ← List.map_drop, ↓reduceIte, reduceCtorEq, Nat.reduceEqDiff, forall_const, implies_true, Nat.reduceAdd, Nat.reduceSub, Nat.reduceMul, Nat.reduceLT, Nat.reduceLeDiff, Int.reduceToNat, Int.reduceAdd, Int.reduceSub, Int.reduceNeg, Int.reduceMul, Int.reduceLT, Int.reduceLE, Int.reduceEq]
        refine (check_A (vals s) hvl hsm _).then ?_
        have hall' : (vals s).all (fun v => decide (0 ≤ v)) = true := List.all_eq_true.2 fun v hm => decide_eq_true (hall v hm)
        by_cases he : s.getD 5 0 = atc (chk (vals s))
        · have hg : good s = true := by simp only [good, h1', hall', he, decide_true, Bool.and_self]
          have he' : ((s.getD 5 0).toNat : Int) = ((atc (chk (vals s))).toNat : Int) := by rw [he]
          simp (disch := first | omega | (simp only [List.length_cons, List.length_nil, List.length_map, List.length_drop]; omega)) only [hat, idxS_int, he', decide_true, wrap_i64, evSt, ↓evPre, ↓evPreW, evPost, evPostW, ← List.map_take, ← List.map_drop, ↓reduceIte, reduceCtorEq, Nat.reduceEqDiff, forall_const, implies_true, Nat.reduceAdd, Nat.reduceSub, Nat.reduceMul, Nat.reduceLT, Nat.reduceLeDiff, Int.reduceToNat, Int.reduceAdd, Int.reduceSub, Int.reduceNeg, Int.reduceMul, Int.reduceLT, Int.reduceLE, Int.reduceEq]
          exact ⟨_, ⟨_, rfl⟩, .imm rfl, by rw [numF, if_pos hg]⟩
        · have hg : good s = false := by simp only [good, h1', hall', he, decide_true, decide_false, Bool.and_false]
          have he' : ¬ ((s.getD 5 0).toNat : Int) = ((atc (chk (vals s))).toNat : Int) := fun h => he ((u8_eq _ _).1 h)
          simp (disch := first | omega | (simp only [List.length_cons, List.length_nil, List.length_map, List.length_drop]; omega)) only [hat, idxS_int, he', decide_true, wrap_i64, evSt, ↓evPre, ↓evPreW, evPost, evPostW, ← List.map_take, ← List.map_drop, ↓reduceIte, reduceCtorEq, Nat.reduceEqDiff, forall_const, implies_true, Nat.reduceAdd, Nat.reduceSub, Nat.reduceMul, Nat.reduceLT, Nat.reduceLeDiff, Int.reduceToNat, Int.reduceAdd, Int.reduceSub, Int.reduceNeg, Int.reduceMul, Int.reduceLT, Int.reduceLE, Int.reduceEq]
          exact ⟨_, ⟨_, rfl⟩, .imm rfl, by rw [bad hg]⟩
  · have hbad : good s = false := by
      have : ¬ s.length = 6 := by omega
      simp [good, this]
    simp only [a9, h1, evSt, ↓evPre, ↓evPreW, evPost, evPostW, ← List.map_take, ← List.map_drop, ↓reduceIte, reduceCtorEq, Nat.reduceEqDiff, forall_const, implies_true, Nat.reduceAdd, Nat.reduceSub, Nat.reduceMul, Nat.reduceLT, Nat.reduceLeDiff, Int.reduceToNat, Int.reduceAdd, Int.reduceSub, Int.reduceNeg, Int.reduceMul, Int.reduceLT, Int.reduceLE, Int.reduceEq]
    exact ⟨_, ⟨[], by simp⟩, .imm rfl, by rw [bad hbad]⟩
end Go.Proofs.Ytnepgfplikifjaa
