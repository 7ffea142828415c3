/- Numbers as characters. -/
import Derived.Test.YtnepgfplikifjaaLoc1
namespace Go.Proofs.Ytnepgfplikifjaa
open Go Go.AL
set_option linter.unusedSimpArgs false
set_option maxHeartbeats 2000000

def ws (vs : List Int) : Nat → Int
  | 0 => 0
  | k + 1 => ws vs k + (2 * k + 1) * vs.getD k 0
def chk (vs : List Int) : Int := ws vs 5 % 32
def small (vs : List Int) : Prop := ∀ v ∈ vs, 0 ≤ v ∧ v ≤ 31

theorem small_get {vs : List Int} (h : small vs) (k : Nat) : 0 ≤ vs.getD k 0 ∧ vs.getD k 0 ≤ 31 := by
  rw [List.getD_eq_getElem?_getD]
  cases hv : vs[k]? with
  | none => simp
  | some v => exact h v (List.mem_of_getElem? hv)

theorem ws_bound {vs : List Int} (h : small vs) : ∀ k : Nat, 0 ≤ ws vs k ∧ ws vs k ≤ 31 * ((k : Int) * k)
  | 0 => by simp [ws]
  | k + 1 => by
    have h1 := ws_bound h k
    have h2 := small_get h k
    have h3 : 0 ≤ (2 * (k : Int) + 1) * vs.getD k 0 := Int.mul_nonneg (by omega) h2.1
    have h4 : (2 * (k : Int) + 1) * vs.getD k 0 ≤ (2 * (k : Int) + 1) * 31 := Int.mul_le_mul_of_nonneg_left h2.2 (by omega)
    have h5 : ((k + 1 : Nat) : Int) * ((k + 1 : Nat) : Int) = (k : Int) * k + 2 * k + 1 := by
      have : ((k + 1 : Nat) : Int) = (k : Int) + 1 := by omega
      rw [this, Int.add_mul, Int.mul_add]; omega
    rw [ws, h5]
    omega

def vI (vs : List Int) : List V := vs.map (.int .i64)

theorem check_A (vs : List Int) (hl : vs.length = 5) (h : small vs) (S : Store) : CallA Try.prog 15 [.agg (vI vs)] S fun r S' => r = .int .i64 (chk vs) ∧ S' = S := by
  have hb : ∀ k, k ≤ 5 → 0 ≤ ws vs k ∧ ws vs k ≤ 775 := fun k hk => by
    have := ws_bound h k
    have : (k : Int) * k ≤ 5 * 5 := Int.mul_le_mul (by omega) (by omega) (by omega) (by omega)
    omega
  have himm : V.allImm (vI vs) = true := by
    have : ∀ l : List Int, V.allImm (vI l) = true := fun l => by induction l <;> simp_all [vI, V.allImm, V.isImm]
    exact this vs
  have hok : (vI vs).all V.cellOk = true := by simp [vI, V.cellOk]
  have hvl : (vI vs).length = 5 := by simp [vI, hl]
  have htk : (vI vs).take 5 = vI vs := List.take_of_length_le (by omega)
  refine CallA.keep Try.func15 c15 (Nat.le_of_ble_eq_true rfl) fun σ hσ => ?_
  simp (disch := first | omega | (simp only [List.length_cons, List.length_nil, List.length_map, List.length_drop]; omega)) only [a15, himm, hok, hvl, ldn_c, htk, Nat.le_refl, ↓evPre, ↓evPreW, evPost, evPostW, ← List.map_take, ← List.map_drop, ↓reduceIte, reduceCtorEq, Nat.reduceEqDiff, forall_const, implies_true, Nat.reduceAdd, Nat.reduceSub, Nat.reduceMul, Nat.reduceLT, Nat.reduceLeDiff, Int.reduceToNat, Int.reduceAdd, Int.reduceSub, Int.reduceNeg, Int.reduceMul, Int.reduceLT, Int.reduceLE, Int.reduceEq]
  refine loopA (ι := Nat) (fun k => [(6, .agg (vI vs)), (7, .int .i64 k), (3, .int .i64 (ws vs k))]) (fun _ => S) (fun k => k ≤ 5) (fun k => 5 - k) 0 (Nat.zero_le _) ?_ rfl ?_
  · simp only [ws, ↓evPre, ↓evPreW, evPost, evPostW, ← List.map_take, ← List.map_drop, ↓reduceIte, reduceCtorEq, Nat.reduceEqDiff, forall_const, implies_true, Nat.reduceAdd, Nat.reduceSub, Nat.reduceMul, Nat.reduceLT, Nat.reduceLeDiff, Int.reduceToNat, Int.reduceAdd, Int.reduceSub, Int.reduceNeg, Int.reduceMul, Int.reduceLT, Int.reduceLE, Int.reduceEq]
  · rintro k hk
    by_cases hlt : (k : Int) < 5
    · obtain ⟨v, hv⟩ : ∃ v, vs[k]? = some v := ⟨vs[k]'(by omega), List.getElem?_eq_getElem _⟩
      have hvv : (vI vs)[k]? = some (.int .i64 v) := by simp [vI, hv]
      have h1 := h v (List.mem_of_getElem? hv)
      have h2 := hb k hk
      have h3 : 0 ≤ (2 * (k : Int) + 1) * v := Int.mul_nonneg (by omega) h1.1
      have h4 : (2 * (k : Int) + 1) * v ≤ (2 * (k : Int) + 1) * 31 := Int.mul_le_mul_of_nonneg_left h1.2 (by omega)
      simp (disch := first | omega | (simp only [List.length_cons, List.length_nil, List.length_map, List.length_drop]; omega)) only [hlt, hvv, wrap_i64, idxV_agg, ↓evPre, ↓evPreW, evPost, evPostW, ← List.map_take, ← List.map_drop, ↓reduceIte, reduceCtorEq, Nat.reduceEqDiff, forall_const, implies_true, Nat.reduceAdd, Nat.reduceSub, Nat.reduceMul, Nat.reduceLT, Nat.reduceLeDiff, Int.reduceToNat, Int.reduceAdd, Int.reduceSub, Int.reduceNeg, Int.reduceMul, Int.reduceLT, Int.reduceLE, Int.reduceEq]
      refine ⟨k + 1, by omega, by omega, by omega, ?_⟩
      rw [ws, List.getD_eq_getElem?_getD, hv]
      rfl
    · have hk5 : k = 5 := by omega
      subst hk5
      have h2 := hb 5 (Nat.le_refl _)
      simp (disch := first | omega | (simp only [List.length_cons, List.length_nil, List.length_map, List.length_drop]; omega)) only [hlt, wrap_i64, bi_rem, Int.tmod_eq_emod_of_nonneg, chk, ↓evPre, ↓evPreW, evPost, evPostW, ← List.map_take, ← List.map_drop, ↓reduceIte, reduceCtorEq, Nat.reduceEqDiff, forall_const, implies_true, Nat.reduceAdd, Nat.reduceSub, Nat.reduceMul, Nat.reduceLT, Nat.reduceLeDiff, Int.reduceToNat, Int.reduceAdd, Int.reduceSub, Int.reduceNeg, Int.reduceMul, Int.reduceLT, Int.reduceLE, Int.reduceEq]

/-! ### Of -/
def numAt (n : Int) : Nat → Int
  | 0 => n
  | k + 1 => numAt n k / 32
def digs (n : Int) : List Int := [numAt n 4 % 32, numAt n 3 % 32, numAt n 2 % 32, numAt n 1 % 32, numAt n 0 % 32]
def atc (v : Int) : UInt8 := ab.getD v.toNat 0
def enc (vs : List Int) : List UInt8 := vs.map atc ++ [atc (chk vs)]
def ofF (n : Int) : List UInt8 × Int := if n < 0 ∨ 33554432 ≤ n then ([], 2) else (enc (digs n), 0)

theorem digs_small (n : Int) : small (digs n) := by
  intro v hv
  simp only [digs, List.mem_cons, List.not_mem_nil, or_false] at hv
  rcases hv with rfl | rfl | rfl | rfl | rfl <;> omega

theorem atc_get {v : Int} (h : 0 ≤ v ∧ v ≤ 31) : ([50, 51, 52, 53, 54, 55, 56, 57, 65, 66, 67, 68, 69, 70, 71, 72, 74, 75, 76, 77, 78, 80, 81, 82, 83, 84, 85, 86, 87, 88, 89, 90] : List UInt8)[v.toNat]? = some (atc v) := by
  have hlt : v.toNat < ab.length := by show v.toNat < 32; omega
  show ab[v.toNat]? = some (atc v)
  rw [atc, List.getD_eq_getElem?_getD, List.getElem?_eq_getElem hlt]
  rfl

theorem chk_small (vs : List Int) : 0 ≤ chk vs ∧ chk vs ≤ 31 := by unfold chk; omega

/-- What the array holds behind so many rounds. -/
def arrAt (n : Int) : Nat → List Int
  | 0 => [0, 0, 0, 0, 0]
  | 1 => [0, 0, 0, 0, numAt n 0 % 32]
  | 2 => [0, 0, 0, numAt n 1 % 32, numAt n 0 % 32]
  | 3 => [0, 0, numAt n 2 % 32, numAt n 1 % 32, numAt n 0 % 32]
  | 4 => [0, numAt n 3 % 32, numAt n 2 % 32, numAt n 1 % 32, numAt n 0 % 32]
  | _ => digs n

theorem num_nonneg {n : Int} (h : 0 ≤ n ∧ n < 33554432) : ∀ k, 0 ≤ numAt n k ∧ numAt n k < 33554432
  | 0 => h
  | k + 1 => by
    have := num_nonneg h k
    rw [numAt]
    omega

theorem bytes_snoc (l : List UInt8) (b : UInt8) : byteRows l ++ [[.int .u8 b.toNat]] = byteRows (l ++ [b]) := by simp [byteRows]

theorem of_A (n : Int) (S : Store) : CallA Try.prog 7 [.int .i64 n] S fun r S' => r = .tup [.str (ofF n).1, .int .i64 (ofF n).2] ∧ S' = S := by
  refine CallA.back Try.func7 c7 (Nat.le_of_ble_eq_true rfl) fun σ hσ hn => ?_
  by_cases h1 : n < 0
  · have hF : ofF n = ([], 2) := by rw [ofF, if_pos (.inl h1)]
    simp only [a7, h1, evSt, ↓evPre, ↓evPreW, evPost, evPostW, ← List.map_take, ← List.map_drop, ↓reduceIte, reduceCtorEq, Nat.reduceEqDiff, forall_const, implies_true, Nat.reduceAdd, Nat.reduceSub, Nat.reduceMul, Nat.reduceLT, Nat.reduceLeDiff, Int.reduceToNat, Int.reduceAdd, Int.reduceSub, Int.reduceNeg, Int.reduceMul, Int.reduceLT, Int.reduceLE, Int.reduceEq]
    exact ⟨_, ⟨[], by simp⟩, .imm rfl, by rw [hF]⟩
  by_cases h2 : (33554432 : Int) ≤ n
  · have hF : ofF n = ([], 2) := by rw [ofF, if_pos (.inr h2)]
    simp only [a7, h1, h2, evSt, ↓evPre, ↓evPreW, evPost, evPostW, ← List.map_take, ← List.map_drop, ↓reduceIte, reduceCtorEq, Nat.reduceEqDiff, forall_const, implies_true, Nat.reduceAdd, Nat.reduceSub, Nat.reduceMul, Nat.reduceLT, Nat.reduceLeDiff, Int.reduceToNat, Int.reduceAdd, Int.reduceSub, Int.reduceNeg, Int.reduceMul, Int.reduceLT, Int.reduceLE, Int.reduceEq]
    exact ⟨_, ⟨[], by simp⟩, .imm rfl, by rw [hF]⟩
  have hF : ofF n = (enc (digs n), 0) := by rw [ofF, if_neg (by omega)]
  have hnn := num_nonneg (n := n) (by omega)
  simp only [a7, h1, h2, evSt, ↓evPre, ↓evPreW, evPost, evPostW, ← List.map_take, ← List.map_drop, ↓reduceIte, reduceCtorEq, Nat.reduceEqDiff, forall_const, implies_true, Nat.reduceAdd, Nat.reduceSub, Nat.reduceMul, Nat.reduceLT, Nat.reduceLeDiff, Int.reduceToNat, Int.reduceAdd, Int.reduceSub, Int.reduceNeg, Int.reduceMul, Int.reduceLT, Int.reduceLE, Int.reduceEq]
  refine loopA (ι := Nat) (fun k => [(0, .int .i64 (numAt n k)), (4, .ptr S.length 0 0 0), (5, .int .i64 (4 - k))]) (fun k => S ++ [⟨0, some (.arr 35 5 [vI (arrAt n k)])⟩]) (fun k => k ≤ 5) (fun k => 5 - k) 0 (Nat.zero_le _) ?_ rfl ?_
  · simp only [numAt, evSt, ↓evPre, ↓evPreW, evPost, evPostW, ← List.map_take, ← List.map_drop, ↓reduceIte, reduceCtorEq, Nat.reduceEqDiff, forall_const, implies_true, Nat.reduceAdd, Nat.reduceSub, Nat.reduceMul, Nat.reduceLT, Nat.reduceLeDiff, Int.reduceToNat, Int.reduceAdd, Int.reduceSub, Int.reduceNeg, Int.reduceMul, Int.reduceLT, Int.reduceLE, Int.reduceEq]
  · rintro k hk
    have hk' := hnn k
    by_cases hlt : (0 : Int) ≤ 4 - k
    · have hlen : (vI (arrAt n k)).length = 5 := by
        match k, hk with
        | 0, _ => rfl
        | 1, _ => rfl
        | 2, _ => rfl
        | 3, _ => rfl
        | 4, _ => rfl
        | 5, _ => rfl
      have hsp : (vI (arrAt n k)).take (4 - k) ++ [.int .i64 (numAt n k % 32)] ++ (vI (arrAt n k)).drop (4 - k + 1) = vI (arrAt n (k + 1)) := by
        match k, hk with
        | 0, _ => rfl
        | 1, _ => rfl
        | 2, _ => rfl
        | 3, _ => rfl
        | 4, _ => rfl
        | 5, _ => omega
      have e : ((4 : Int) - k).toNat = 4 - k := by omega
      simp (disch := first | omega | (simp only [List.length_cons, List.length_nil, List.length_map, List.length_drop]; omega)) only [hlt, hlen, e, wrap_i64, bi_rem, bi_quo, idxR_p, idxRO_some, Int.tmod_eq_emod_of_nonneg, Int.tdiv_eq_ediv_of_nonneg, Nat.mul_one, evSt, ↓evPre, ↓evPreW, evPost, evPostW, ← List.map_take, ← List.map_drop, ↓reduceIte, reduceCtorEq, Nat.reduceEqDiff, forall_const, implies_true, Nat.reduceAdd, Nat.reduceSub, Nat.reduceMul, Nat.reduceLT, Nat.reduceLeDiff, Int.reduceToNat, Int.reduceAdd, Int.reduceSub, Int.reduceNeg, Int.reduceMul, Int.reduceLT, Int.reduceLE, Int.reduceEq]
      exact ⟨by omega, k + 1, by omega, by omega, ⟨rfl, by omega⟩, by rw [hsp]⟩
    · have hk5 : k = 5 := by omega
      subst hk5
      have hld : ldnR (some (vI (arrAt n 5))) 5 0 = some (.agg (vI (digs n))) := by simp [ldnR, vI, arrAt, digs]
      have hds := digs_small n
      simp (disch := first | omega | (simp only [List.length_cons, List.length_nil, List.length_map, List.length_drop]; omega)) only [hlt, hld, wrap_i64, evSt, ↓evPre, ↓evPreW, evPost, evPostW, ← List.map_take, ← List.map_drop, ↓reduceIte, reduceCtorEq, Nat.reduceEqDiff, forall_const, implies_true, Nat.reduceAdd, Nat.reduceSub, Nat.reduceMul, Nat.reduceLT, Nat.reduceLeDiff, Int.reduceToNat, Int.reduceAdd, Int.reduceSub, Int.reduceNeg, Int.reduceMul, Int.reduceLT, Int.reduceLE, Int.reduceEq]
      refine ⟨by decide, ?_⟩
      refine loopA (ι := Nat) (fun k => [(4, .ptr S.length 0 0 0), (6, .msl (S.length + 1) k 0 k), (26, .agg (vI (digs n))), (27, .int .i64 k)]) (fun k => S ++ [⟨0, some (.arr 35 5 [vI (digs n)])⟩, ⟨k, some (.arr 5 1 (byteRows (((digs n).take k).map atc)))⟩]) (fun k => k ≤ 5) (fun k => 5 - k) 0 (Nat.zero_le _) ?_ rfl ?_
      · simp only [evSt, ↓evPre, ↓evPreW, evPost, evPostW, ← List.map_take, ← List.map_drop, ↓reduceIte, reduceCtorEq, Nat.reduceEqDiff, forall_const, implies_true, Nat.reduceAdd, Nat.reduceSub, Nat.reduceMul, Nat.reduceLT, Nat.reduceLeDiff, Int.reduceToNat, Int.reduceAdd, Int.reduceSub, Int.reduceNeg, Int.reduceMul, Int.reduceLT, Int.reduceLE, Int.reduceEq]
      · rintro k hk
        by_cases hlt : (k : Int) < 5
        · obtain ⟨v, hv⟩ : ∃ v, (digs n)[k]? = some v := ⟨(digs n)[k]'(by show k < 5; omega), List.getElem?_eq_getElem _⟩
          have hvv : (vI (digs n))[k]? = some (.int .i64 v) := by simp [vI, hv]
          have h5 := hds v (List.mem_of_getElem? hv)
          have hat := atc_get h5
          have hbl : (byteRows (((digs n).take k).map atc)).length = k := by simp [byteRows, digs]; omega
          simp (disch := first | omega | (simp only [List.length_cons, List.length_nil, List.length_map, List.length_drop]; omega)) only [hlt, hvv, hat, hbl, wrap_i64, idxV_agg, idxS_int, bytes_snoc, evSt, ↓evPre, ↓evPreW, evPost, evPostW, ← List.map_take, ← List.map_drop, ↓reduceIte, reduceCtorEq, Nat.reduceEqDiff, forall_const, implies_true, Nat.reduceAdd, Nat.reduceSub, Nat.reduceMul, Nat.reduceLT, Nat.reduceLeDiff, Int.reduceToNat, Int.reduceAdd, Int.reduceSub, Int.reduceNeg, Int.reduceMul, Int.reduceLT, Int.reduceLE, Int.reduceEq]
          refine ⟨by unfold roomA; omega, k + 1, by omega, by omega, ⟨rfl, by omega⟩, ?_⟩
          have ht : (digs n).take (k + 1) = (digs n).take k ++ [v] := by rw [List.take_add_one, hv]; rfl
          rw [ht, List.map_append]; rfl
        · have hk5 : k = 5 := by omega
          subst hk5
          have hld : ldnR (some (vI (digs n))) 5 0 = some (.agg (vI (digs n))) := by simp [ldnR, vI, digs]
          simp (disch := first | omega | (simp only [List.length_cons, List.length_nil, List.length_map, List.length_drop]; omega)) only [hlt, hld, wrap_i64, evSt, ↓evPre, ↓evPreW, evPost, evPostW, ← List.map_take, ← List.map_drop, ↓reduceIte, reduceCtorEq, Nat.reduceEqDiff, forall_const, implies_true, Nat.reduceAdd, Nat.reduceSub, Nat.reduceMul, Nat.reduceLT, Nat.reduceLeDiff, Int.reduceToNat, Int.reduceAdd, Int.reduceSub, Int.reduceNeg, Int.reduceMul, Int.reduceLT, Int.reduceLE, Int.reduceEq]
          refine (check_A (digs n) rfl hds _).then ?_
          have hck := chk_small (digs n)
          have hat := atc_get hck
          have h6 : ((digs n).take 5 |>.map atc) ++ [atc (chk (digs n))] = enc (digs n) := rfl
          have h7 : (enc (digs n)).length = 6 := rfl
          have hbl : (byteRows (((digs n).take 5).map atc)).length = 5 := rfl
          simp (disch := first | omega | (simp only [List.length_cons, List.length_nil, List.length_map, List.length_drop]; omega)) only [hat, hbl, h6, b2sO_some h7, wrap_i64, idxS_int, bytes_snoc, evSt, ↓evPre, ↓evPreW, evPost, evPostW, ← List.map_take, ← List.map_drop, ↓reduceIte, reduceCtorEq, Nat.reduceEqDiff, forall_const, implies_true, Nat.reduceAdd, Nat.reduceSub, Nat.reduceMul, Nat.reduceLT, Nat.reduceLeDiff, Int.reduceToNat, Int.reduceAdd, Int.reduceSub, Int.reduceNeg, Int.reduceMul, Int.reduceLT, Int.reduceLE, Int.reduceEq]
          exact ⟨by unfold roomA; omega, _, ⟨_, rfl⟩, .imm rfl, by rw [hF]⟩

theorem cut1 {v : Int} (h : 0 ≤ v ∧ v ≤ 31) : cutS [50, 51, 52, 53, 54, 55, 56, 57, 65, 66, 67, 68, 69, 70, 71, 72, 74, 75, 76, 77, 78, 80, 81, 82, 83, 84, 85, 86, 87, 88, 89, 90] (some v) (some (v + 1)) = some (.str [atc v]) := by
  have e : (v + 1).toNat - v.toNat = 1 := by omega
  rw [cutS_some, if_pos ⟨h.1, by omega, by show v + 1 ≤ ((32 : Nat) : Int); omega⟩, e, List.take_one, List.head?_drop, atc_get h]
  rfl

theorem add_ok {a b : List UInt8} (h : a.length + b.length ≤ 4000000) : binV .add (.str a) (.str b) = some (.str (a ++ b)) := bs_add (by unfold maxLen; omega)

theorem refof_A (n : Int) (S : Store) : CallA Try.prog 8 [.int .i64 n] S fun r S' => r = .tup [.str (ofF n).1, .int .i64 (ofF n).2] ∧ S' = S := by
  refine CallA.keep Try.func8 c8 (Nat.le_of_ble_eq_true rfl) fun σ hσ => ?_
  by_cases h1 : n < 0
  · have hF : ofF n = ([], 2) := by rw [ofF, if_pos (.inl h1)]
    simp only [a8, h1, hF, ↓evPre, ↓evPreW, evPost, evPostW, ← List.map_take, ← List.map_drop, ↓reduceIte, reduceCtorEq, Nat.reduceEqDiff, forall_const, implies_true, Nat.reduceAdd, Nat.reduceSub, Nat.reduceMul, Nat.reduceLT, Nat.reduceLeDiff, Int.reduceToNat, Int.reduceAdd, Int.reduceSub, Int.reduceNeg, Int.reduceMul, Int.reduceLT, Int.reduceLE, Int.reduceEq]
  by_cases h2 : 33554431 < n
  · have hF : ofF n = ([], 2) := by rw [ofF, if_pos (.inr (by omega))]
    simp only [a8, h1, h2, hF, ↓evPre, ↓evPreW, evPost, evPostW, ← List.map_take, ← List.map_drop, ↓reduceIte, reduceCtorEq, Nat.reduceEqDiff, forall_const, implies_true, Nat.reduceAdd, Nat.reduceSub, Nat.reduceMul, Nat.reduceLT, Nat.reduceLeDiff, Int.reduceToNat, Int.reduceAdd, Int.reduceSub, Int.reduceNeg, Int.reduceMul, Int.reduceLT, Int.reduceLE, Int.reduceEq]
  have hF : ofF n = (enc (digs n), 0) := by rw [ofF, if_neg (by omega)]
  have hnn := num_nonneg (n := n) (by omega)
  have hds := digs_small n
  simp only [a8, h1, h2, ↓evPre, ↓evPreW, evPost, evPostW, ← List.map_take, ← List.map_drop, ↓reduceIte, reduceCtorEq, Nat.reduceEqDiff, forall_const, implies_true, Nat.reduceAdd, Nat.reduceSub, Nat.reduceMul, Nat.reduceLT, Nat.reduceLeDiff, Int.reduceToNat, Int.reduceAdd, Int.reduceSub, Int.reduceNeg, Int.reduceMul, Int.reduceLT, Int.reduceLE, Int.reduceEq]
  refine loopA (ι := Nat) (fun k => [(0, .int .i64 (numAt n k)), (4, .str (((digs n).drop (5 - k)).map atc)), (5, .int .i64 (ws (digs n) 5 - ws (digs n) (5 - k))), (6, .int .i64 (4 - k))]) (fun _ => S) (fun k => k ≤ 5) (fun k => 5 - k) 0 (Nat.zero_le _) ?_ rfl ?_
  · simp only [numAt, ↓evPre, ↓evPreW, evPost, evPostW, ← List.map_take, ← List.map_drop, ↓reduceIte, reduceCtorEq, Nat.reduceEqDiff, forall_const, implies_true, Nat.reduceAdd, Nat.reduceSub, Nat.reduceMul, Nat.reduceLT, Nat.reduceLeDiff, Int.reduceToNat, Int.reduceAdd, Int.reduceSub, Int.reduceNeg, Int.reduceMul, Int.reduceLT, Int.reduceLE, Int.reduceEq]
    simp [digs]
  · rintro k hk
    have hk' := hnn k
    by_cases hlt : (0 : Int) ≤ 4 - k
    · have hd : numAt n k % 32 = (digs n).getD (4 - k) 0 := by
        match k, hk with
        | 0, _ => rfl
        | 1, _ => rfl
        | 2, _ => rfl
        | 3, _ => rfl
        | 4, _ => rfl
        | 5, _ => omega
      have hcut := cut1 (v := numAt n k % 32) (by omega)
      have hws : ws (digs n) (5 - k) = ws (digs n) (4 - k) + (2 * ((4 - k : Nat) : Int) + 1) * (numAt n k % 32) := by
        have e : 5 - k = (4 - k) + 1 := by omega
        rw [e, ws, hd]
      have hb1 := ws_bound hds (5 - k)
      have hb3 : ((5 - k : Nat) : Int) * ((5 - k : Nat) : Int) ≤ 5 * 5 := Int.mul_le_mul (by omega) (by omega) (by omega) (by omega)
      have hb2 := ws_bound hds 5
      have hlen : (((digs n).drop (5 - k)).map atc).length ≤ 5 := by simp [digs]
      have hv : 0 ≤ numAt n k % 32 ∧ numAt n k % 32 ≤ 31 := by omega
      have hm1 : 0 ≤ (2 * (4 - (k : Int)) + 1) * (numAt n k % 32) := Int.mul_nonneg (by omega) hv.1
      have hm2 : (2 * (4 - (k : Int)) + 1) * (numAt n k % 32) ≤ (2 * (4 - (k : Int)) + 1) * 31 := Int.mul_le_mul_of_nonneg_left hv.2 (by omega)
      have hmul : (2 * (4 - (k : Int)) + 1) * (numAt n k % 32) = (2 * ((4 - k : Nat) : Int) + 1) * (numAt n k % 32) := by
        have : (4 - (k : Int)) = ((4 - k : Nat) : Int) := by omega
        rw [this]
      have hsq : 31 * (((5 : Nat) : Int) * (5 : Nat)) = 775 := rfl
      have hadd : binV .add (.str [atc (numAt n k % 32)]) (.str (((digs n).drop (5 - k)).map atc)) = some (.str ([atc (numAt n k % 32)] ++ ((digs n).drop (5 - k)).map atc)) := add_ok (by simp only [List.length_cons, List.length_nil]; omega)
      simp (disch := first | omega | (simp only [List.length_cons, List.length_nil, List.length_map, List.length_drop]; omega)) only [hlt, hcut, hadd, wrap_i64, bi_rem, bi_quo, slS_str, Int.tmod_eq_emod_of_nonneg, Int.tdiv_eq_ediv_of_nonneg, ↓evPre, ↓evPreW, evPost, evPostW, ← List.map_take, ← List.map_drop, ↓reduceIte, reduceCtorEq, Nat.reduceEqDiff, forall_const, implies_true, Nat.reduceAdd, Nat.reduceSub, Nat.reduceMul, Nat.reduceLT, Nat.reduceLeDiff, Int.reduceToNat, Int.reduceAdd, Int.reduceSub, Int.reduceNeg, Int.reduceMul, Int.reduceLT, Int.reduceLE, Int.reduceEq]
      have h6 : (digs n).drop (5 - (k + 1)) = (numAt n k % 32) :: (digs n).drop (5 - k) := by
        match k, hk with
        | 0, _ => rfl
        | 1, _ => rfl
        | 2, _ => rfl
        | 3, _ => rfl
        | 4, _ => rfl
        | 5, _ => omega
      have h7 : 5 - (k + 1) = 4 - k := by omega
      refine ⟨k + 1, by omega, by omega, rfl, ?_, ?_, by omega⟩
      · rw [h6]; rfl
      · rw [h7, hmul]; omega
    · have hk5 : k = 5 := by omega
      subst hk5
      have hb := ws_bound hds 5
      have hsq : 31 * (((5 : Nat) : Int) * (5 : Nat)) = 775 := rfl
      have hck := chk_small (digs n)
      have hw0 : ws (digs n) 5 - ws (digs n) (5 - 5) = ws (digs n) 5 := by simp [ws]
      have hwc : ws (digs n) 5 % 32 = chk (digs n) := rfl
      have hcut := cut1 hck
      have hadd : binV .add (.str ((digs n).map atc)) (.str [atc (chk (digs n))]) = some (.str (enc (digs n))) := add_ok (by simp [digs])
      simp (disch := first | omega | (simp only [List.length_cons, List.length_nil, List.length_map, List.length_drop]; omega)) only [hlt, hw0, hwc, hcut, hadd, hF, wrap_i64, bi_rem, slS_str, Int.tmod_eq_emod_of_nonneg, ↓evPre, ↓evPreW, evPost, evPostW, ← List.map_take, ← List.map_drop, ↓reduceIte, reduceCtorEq, Nat.reduceEqDiff, forall_const, implies_true, Nat.reduceAdd, Nat.reduceSub, Nat.reduceMul, Nat.reduceLT, Nat.reduceLeDiff, Int.reduceToNat, Int.reduceAdd, Int.reduceSub, Int.reduceNeg, Int.reduceMul, Int.reduceLT, Int.reduceLE, Int.reduceEq]
end Go.Proofs.Ytnepgfplikifjaa
