/- Contracts of 'accepted' and 'Seats' of 'bid' and its reference. -/
import Derived.Test.YtoidchljifelgaaBid1
namespace Go.Proofs.Ytoidchljifelgaa
open Go Go.AL
set_option linter.unusedSimpArgs false

theorem rightGo_bound : ∀ (l : List Int) (last : Int), rightGo last l = true → ∀ x ∈ l, 0 ≤ x ∧ x ≤ last
  | [], _, _, x, hx => by simp at hx
  | n :: r, last, h, x, hx => by
    simp only [rightGo, Bool.and_eq_true, Bool.not_eq_true', decide_eq_false_iff_not] at h
    obtain ⟨⟨h1, h2⟩, h3⟩ := h
    rcases List.mem_cons.1 hx with rfl | hx
    · omega
    · have := rightGo_bound r n h3 x hx
      omega

theorem right_bound {l : List Int} (h : rightF l = true) : l.length ≤ 999 ∧ ∀ x ∈ l, 0 ≤ x ∧ x ≤ 1099511627776 := by
  simp only [rightF, Bool.and_eq_true, decide_eq_true_eq] at h
  exact ⟨h.1, rightGo_bound l _ h.2⟩

theorem price_bound {l : List Int} (h : rightF l = true) {left : Int} (h0 : 0 < left) : 0 ≤ priceF l left ∧ priceF l left ≤ 1099511627776 := by
  by_cases h1 : (l.length : Int) < left
  · rw [priceF, if_neg (by omega), if_pos h1]; omega
  · have := price_get (l := l) (left := left) (by omega) h1
    exact (right_bound h).2 _ (List.mem_of_getElem? this)

def costF (taken : Int) (p : List Int × Int) : Int := priceF p.1 (p.2 - taken)
def accF (cs : List (List Int)) (left : List Int) (value taken : Int) : Bool :=
  (cs.zip left).all (fun p => decide (taken < p.2)) && decide (((cs.zip left).map (costF taken)).sum ≤ value)

theorem cost_bound {taken : Int} : ∀ (z : List (List Int × Int)), (∀ p ∈ z, rightF p.1 = true ∧ taken < p.2) → 0 ≤ (z.map (costF taken)).sum ∧ (z.map (costF taken)).sum ≤ 1099511627776 * z.length
  | [], _ => by simp
  | p :: r, h => by
    have h1 := h p (List.mem_cons_self ..)
    have h2 := cost_bound r fun q hq => h q (List.mem_cons_of_mem _ hq)
    have h3 := price_bound h1.1 (left := p.2 - taken) (by omega)
    simp only [List.map_cons, List.sum_cons, List.length_cons, costF]
    omega

theorem zip_take {α β : Type} (a : List α) (b : List β) (k : Nat) (x : α) (y : β) (hx : a[k]? = some x) (hy : b[k]? = some y) : (a.zip b).take (k + 1) = (a.zip b).take k ++ [(x, y)] := by
  rw [List.take_add_one]
  have : (a.zip b)[k]? = some (x, y) := by rw [List.getElem?_zip_eq_some]; exact ⟨hx, hy⟩
  rw [this]
  rfl

theorem zip_mem {cs : List (List Int)} {left : List Int} (hr : ∀ l ∈ cs, rightF l = true) {p : List Int × Int} (h : p ∈ cs.zip left) : rightF p.1 = true := hr _ (List.of_mem_zip (a := p.1) (b := p.2) h).1

theorem accepted_A (cs : List (List Int)) (left : List Int) (value taken : Int) (S : Store) (hlen : cs.length = left.length) (hcs : cs.length ≤ 36) (hr : ∀ l ∈ cs, rightF l = true) (hleft : ∀ x ∈ left, x ≤ 9223372036854775807) (ht : 0 ≤ taken) :
    CallA Try.prog 25 [cSl cs, iSl left, .int .i64 value, .int .i64 taken] S fun r S' => r = .bool (accF cs left value taken) ∧ S' = S := by
  refine CallA.keep Try.func25 c25 (Nat.le_of_ble_eq_true rfl) fun σ hσ => ?_
  simp only [a25, cSl, iSl, ↓evPre, ↓evPreV, evPost, evPostV, ← List.map_take, ← List.map_drop, ↓reduceIte, reduceCtorEq, Nat.reduceEqDiff, forall_const, implies_true, Nat.reduceAdd, Nat.reduceSub, Nat.reduceMul, Nat.reduceLT, Nat.reduceLeDiff, Int.reduceToNat, Int.reduceAdd, Int.reduceSub, Int.reduceNeg, Int.reduceMul, Int.reduceLT, Int.reduceLE, Int.reduceEq]
  refine loopA (ι := Nat) (fun k => [(12, cSl cs), (13, .int .i64 cs.length), (14, .int .i64 k), (1, iSl left), (2, .int .i64 value), (3, .int .i64 taken), (9, .int .i64 (((cs.zip left).take k).map (costF taken)).sum)]) (fun _ => S)
    (fun k => k ≤ cs.length ∧ ∀ p ∈ (cs.zip left).take k, taken < p.2) (fun k => cs.length - k) 0 ⟨Nat.zero_le _, by simp⟩ ?_ rfl ?_
  · simp only [iSl, cSl, List.sum_nil, ↓evPre, ↓evPreV, evPost, evPostV, ← List.map_take, ← List.map_drop, ↓reduceIte, reduceCtorEq, Nat.reduceEqDiff, forall_const, implies_true, Nat.reduceAdd, Nat.reduceSub, Nat.reduceMul, Nat.reduceLT, Nat.reduceLeDiff, Int.reduceToNat, Int.reduceAdd, Int.reduceSub, Int.reduceNeg, Int.reduceMul, Int.reduceLT, Int.reduceLE, Int.reduceEq]
  · rintro k ⟨hk, hk'⟩
    have hs := cost_bound (taken := taken) ((cs.zip left).take k) fun p hp => ⟨zip_mem hr (List.mem_of_mem_take hp), hk' p hp⟩
    have hzl : ((cs.zip left).take k).length ≤ k := by simp; omega
    cases hc : cs[k]? with
    | none =>
      have hlt : ¬ ((k : Int) < cs.length) := by rw [List.getElem?_eq_none_iff] at hc; omega
      have hz : (cs.zip left).take k = cs.zip left := List.take_of_length_le (by simp; omega)
      rw [hz] at hk'
      have hall : (cs.zip left).all (fun p => decide (taken < p.2)) = true := List.all_eq_true.2 fun p hp => decide_eq_true (hk' p hp)
      simp (disch := omega) only [iSl, cSl, wrap_i64, hc, hlt, accF, hall, hz, ↓evPre, ↓evPreV, evPost, evPostV, ← List.map_take, ← List.map_drop, ↓reduceIte, reduceCtorEq, Nat.reduceEqDiff, forall_const, implies_true, Nat.reduceAdd, Nat.reduceSub, Nat.reduceMul, Nat.reduceLT, Nat.reduceLeDiff, Int.reduceToNat, Int.reduceAdd, Int.reduceSub, Int.reduceNeg, Int.reduceMul, Int.reduceLT, Int.reduceLE, Int.reduceEq]
    | some c =>
      have hlt : (k : Int) < cs.length := by have := (List.getElem?_eq_some_iff.1 hc).1; omega
      have hcr := hr c (List.mem_of_getElem? hc)
      cases hx : left[k]? with
      | none => rw [List.getElem?_eq_none_iff] at hx; omega
      | some x =>
        have hxl := hleft x (List.mem_of_getElem? hx)
        have hz := zip_take cs left k c x hc hx
        by_cases h1 : x ≤ taken
        · have hno : (cs.zip left).all (fun p => decide (taken < p.2)) = false := by
            rw [Bool.eq_false_iff]
            intro h
            have hm : (c, x) ∈ cs.zip left := List.mem_of_mem_take (i := k + 1) (by rw [hz]; simp)
            have := of_decide_eq_true (List.all_eq_true.1 h _ hm)
            simp only at this
            omega
          simp (disch := omega) only [iSl, cSl, wrap_i64, hc, hx, hlt, h1, accF, hno, Bool.false_and, ↓evPre, ↓evPreV, evPost, evPostV, ← List.map_take, ← List.map_drop, ↓reduceIte, reduceCtorEq, Nat.reduceEqDiff, forall_const, implies_true, Nat.reduceAdd, Nat.reduceSub, Nat.reduceMul, Nat.reduceLT, Nat.reduceLeDiff, Int.reduceToNat, Int.reduceAdd, Int.reduceSub, Int.reduceNeg, Int.reduceMul, Int.reduceLT, Int.reduceLE, Int.reduceEq]
        · simp (disch := omega) only [iSl, cSl, wrap_i64, hc, hx, hlt, h1, ↓evPre, ↓evPreV, evPost, evPostV, ← List.map_take, ← List.map_drop, ↓reduceIte, reduceCtorEq, Nat.reduceEqDiff, forall_const, implies_true, Nat.reduceAdd, Nat.reduceSub, Nat.reduceMul, Nat.reduceLT, Nat.reduceLeDiff, Int.reduceToNat, Int.reduceAdd, Int.reduceSub, Int.reduceNeg, Int.reduceMul, Int.reduceLT, Int.reduceLE, Int.reduceEq]
          refine (price_A c (x - taken) S (by have := (right_bound hcr).1; omega)).mono ?_
          rintro r S' ⟨rfl, rfl⟩
          have hp := price_bound hcr (left := x - taken) (by omega)
          simp (disch := omega) only [iSl, cSl, wrap_i64, ↓evPre, ↓evPreV, evPost, evPostV, ← List.map_take, ← List.map_drop, ↓reduceIte, reduceCtorEq, Nat.reduceEqDiff, forall_const, implies_true, Nat.reduceAdd, Nat.reduceSub, Nat.reduceMul, Nat.reduceLT, Nat.reduceLeDiff, Int.reduceToNat, Int.reduceAdd, Int.reduceSub, Int.reduceNeg, Int.reduceMul, Int.reduceLT, Int.reduceLE, Int.reduceEq]
          refine ⟨k + 1, ⟨by omega, fun p hp => ?_⟩, by omega, by omega, ?_⟩
          · rw [hz, List.mem_append, List.mem_singleton] at hp
            rcases hp with hp | rfl
            · exact hk' p hp
            · simp only; omega
          · rw [hz, List.map_append, List.sum_append]
            simp [costF]

/-- The first number from n on that is not under the top, or that is not accepted. -/
def seatsGo (acc : Nat → Bool) (top : Int) : Nat → Nat → Nat
  | 0, n => n
  | f + 1, n => if (n : Int) < top ∧ acc n = true then seatsGo acc top f (n + 1) else n

theorem seatsGo_stop {acc : Nat → Bool} {top : Int} : ∀ {f n : Nat}, ¬ ((n : Int) < top ∧ acc n = true) → seatsGo acc top f n = n
  | 0, _, _ => rfl
  | f + 1, n, h => by rw [seatsGo, if_neg h]

def seatsF (cs : List (List Int)) (left : List Int) (value most : Int) : Int :=
  if cs.length = 0 ∨ cs.length ≠ left.length then 0 else seatsGo (fun n => accF cs left value n) (min most 999) 1000 0

theorem seats_A (cs : List (List Int)) (left : List Int) (value most : Int) (S : Store) (hcs : cs.length ≤ 36) (hr : ∀ l ∈ cs, rightF l = true) (hleft : ∀ x ∈ left, x ≤ 9223372036854775807) :
    CallA Try.prog 19 [cSl cs, iSl left, .int .i64 value, .int .i64 most] S fun r S' => r = .int .i64 (seatsF cs left value most) ∧ S' = S := by
  refine CallA.keep Try.func19 c19 (Nat.le_of_ble_eq_true rfl) fun σ hσ => ?_
  by_cases h0 : cs.length = 0
  · have h0' : (cs.length : Int) = 0 := by omega
    simp only [a19, cSl, iSl, h0', seatsF, h0, true_or, ↓evPre, ↓evPreV, evPost, evPostV, ← List.map_take, ← List.map_drop, ↓reduceIte, reduceCtorEq, Nat.reduceEqDiff, forall_const, implies_true, Nat.reduceAdd, Nat.reduceSub, Nat.reduceMul, Nat.reduceLT, Nat.reduceLeDiff, Int.reduceToNat, Int.reduceAdd, Int.reduceSub, Int.reduceNeg, Int.reduceMul, Int.reduceLT, Int.reduceLE, Int.reduceEq]
  · have h0' : ¬ (cs.length : Int) = 0 := by omega
    by_cases h1 : cs.length = left.length
    · have h1' : (cs.length : Int) = left.length := by omega
      have hF : seatsF cs left value most = seatsGo (fun n => accF cs left value n) (min most 999) 1000 0 := by rw [seatsF, if_neg (fun h => h.elim h0 fun h => h h1)]
      have h0'' : ¬ (left.length : Int) = 0 := by omega
      simp only [a19, cSl, iSl, h1', h0'', ↓evPre, ↓evPreV, evPost, evPostV, ← List.map_take, ← List.map_drop, ↓reduceIte, reduceCtorEq, Nat.reduceEqDiff, forall_const, implies_true, Nat.reduceAdd, Nat.reduceSub, Nat.reduceMul, Nat.reduceLT, Nat.reduceLeDiff, Int.reduceToNat, Int.reduceAdd, Int.reduceSub, Int.reduceNeg, Int.reduceMul, Int.reduceLT, Int.reduceLE, Int.reduceEq]
      refine loopA (ι := Nat) (fun n => [(0, cSl cs), (1, iSl left), (2, .int .i64 value), (3, .int .i64 most), (9, .int .i64 n)]) (fun _ => S) (fun n => n ≤ 999 ∧ (seatsGo (fun n => accF cs left value n) (min most 999) (1000 - n) n : Int) = seatsF cs left value most) (fun n => 999 - n) 0 ⟨by omega, by rw [hF]⟩ ?_ rfl ?_
      · simp only [iSl, cSl, ↓evPre, ↓evPreV, evPost, evPostV, ← List.map_take, ← List.map_drop, ↓reduceIte, reduceCtorEq, Nat.reduceEqDiff, forall_const, implies_true, Nat.reduceAdd, Nat.reduceSub, Nat.reduceMul, Nat.reduceLT, Nat.reduceLeDiff, Int.reduceToNat, Int.reduceAdd, Int.reduceSub, Int.reduceNeg, Int.reduceMul, Int.reduceLT, Int.reduceLE, Int.reduceEq]
      · rintro n ⟨hn, hinv⟩
        have hf : 1000 - n = (999 - n) + 1 := by omega
        by_cases h2 : (n : Int) < min most 999
        · simp (disch := omega) only [iSl, cSl, wrap_i64, h2, ↓evPre, ↓evPreV, evPost, evPostV, ← List.map_take, ← List.map_drop, ↓reduceIte, reduceCtorEq, Nat.reduceEqDiff, forall_const, implies_true, Nat.reduceAdd, Nat.reduceSub, Nat.reduceMul, Nat.reduceLT, Nat.reduceLeDiff, Int.reduceToNat, Int.reduceAdd, Int.reduceSub, Int.reduceNeg, Int.reduceMul, Int.reduceLT, Int.reduceLE, Int.reduceEq]
          refine (accepted_A cs left value n S h1 hcs hr hleft (by omega)).mono ?_
          rintro r S' ⟨rfl, rfl⟩
          cases h3 : accF cs left value n
          · rw [seatsGo_stop (by simp [h3])] at hinv
            simp (disch := omega) only [iSl, cSl, wrap_i64, ← hinv, ↓evPre, ↓evPreV, evPost, evPostV, ← List.map_take, ← List.map_drop, ↓reduceIte, reduceCtorEq, Nat.reduceEqDiff, forall_const, implies_true, Nat.reduceAdd, Nat.reduceSub, Nat.reduceMul, Nat.reduceLT, Nat.reduceLeDiff, Int.reduceToNat, Int.reduceAdd, Int.reduceSub, Int.reduceNeg, Int.reduceMul, Int.reduceLT, Int.reduceLE, Int.reduceEq]
          · rw [hf, seatsGo, if_pos ⟨h2, h3⟩] at hinv
            simp (disch := omega) only [iSl, cSl, wrap_i64, ↓evPre, ↓evPreV, evPost, evPostV, ← List.map_take, ← List.map_drop, ↓reduceIte, reduceCtorEq, Nat.reduceEqDiff, forall_const, implies_true, Nat.reduceAdd, Nat.reduceSub, Nat.reduceMul, Nat.reduceLT, Nat.reduceLeDiff, Int.reduceToNat, Int.reduceAdd, Int.reduceSub, Int.reduceNeg, Int.reduceMul, Int.reduceLT, Int.reduceLE, Int.reduceEq]
            refine ⟨n + 1, ⟨by omega, ?_⟩, by omega, by omega⟩
            have : 1000 - (n + 1) = 999 - n := by omega
            rw [this]; exact hinv
        · rw [seatsGo_stop (by simp only [not_and]; intro h; exact absurd h h2)] at hinv
          simp (disch := omega) only [iSl, cSl, wrap_i64, h2, ← hinv, ↓evPre, ↓evPreV, evPost, evPostV, ← List.map_take, ← List.map_drop, ↓reduceIte, reduceCtorEq, Nat.reduceEqDiff, forall_const, implies_true, Nat.reduceAdd, Nat.reduceSub, Nat.reduceMul, Nat.reduceLT, Nat.reduceLeDiff, Int.reduceToNat, Int.reduceAdd, Int.reduceSub, Int.reduceNeg, Int.reduceMul, Int.reduceLT, Int.reduceLE, Int.reduceEq]
    · have h1' : ¬ (cs.length : Int) = left.length := by omega
      have hF : seatsF cs left value most = 0 := by rw [seatsF, if_pos (.inr h1)]
      simp only [a19, cSl, iSl, h0', h1', hF, ↓evPre, ↓evPreV, evPost, evPostV, ← List.map_take, ← List.map_drop, ↓reduceIte, reduceCtorEq, Nat.reduceEqDiff, forall_const, implies_true, Nat.reduceAdd, Nat.reduceSub, Nat.reduceMul, Nat.reduceLT, Nat.reduceLeDiff, Int.reduceToNat, Int.reduceAdd, Int.reduceSub, Int.reduceNeg, Int.reduceMul, Int.reduceLT, Int.reduceLE, Int.reduceEq]

theorem refseats_A (cs : List (List Int)) (left : List Int) (value most : Int) (S : Store) (hcs : cs.length ≤ 36) (hll : left.length ≤ 1099511627776) (hr : ∀ l ∈ cs, rightF l = true) (hleft : ∀ x ∈ left, x ≤ 9223372036854775807) :
    CallA Try.prog 20 [cSl cs, iSl left, .int .i64 value, .int .i64 most] S fun r S' => r = .int .i64 (seatsF cs left value most) ∧ S' = S := by
  refine CallA.keep Try.func20 c20 (Nat.le_of_ble_eq_true rfl) fun σ hσ => ?_
  by_cases h1 : cs.length = left.length
  · have h1' : (cs.length : Int) = left.length := by omega
    by_cases h0 : cs.length = 0
    · have h0' : (left.length : Int) = 0 := by omega
      have hF : seatsF cs left value most = 0 := by rw [seatsF, if_pos (.inl h0)]
      simp only [a20, cSl, iSl, h1', h0', hF, ↓evPre, ↓evPreV, evPost, evPostV, ← List.map_take, ← List.map_drop, ↓reduceIte, reduceCtorEq, Nat.reduceEqDiff, forall_const, implies_true, Nat.reduceAdd, Nat.reduceSub, Nat.reduceMul, Nat.reduceLT, Nat.reduceLeDiff, Int.reduceToNat, Int.reduceAdd, Int.reduceSub, Int.reduceNeg, Int.reduceMul, Int.reduceLT, Int.reduceLE, Int.reduceEq]
    · have hF : seatsF cs left value most = seatsGo (fun n => accF cs left value n) (min most 999) 1000 0 := by rw [seatsF, if_neg (fun h => h.elim h0 fun h => h h1)]
      have h0' : ¬ (left.length : Int) = 0 := by omega
      simp only [a20, cSl, iSl, h1', h0', ↓evPre, ↓evPreV, evPost, evPostV, ← List.map_take, ← List.map_drop, ↓reduceIte, reduceCtorEq, Nat.reduceEqDiff, forall_const, implies_true, Nat.reduceAdd, Nat.reduceSub, Nat.reduceMul, Nat.reduceLT, Nat.reduceLeDiff, Int.reduceToNat, Int.reduceAdd, Int.reduceSub, Int.reduceNeg, Int.reduceMul, Int.reduceLT, Int.reduceLE, Int.reduceEq]
      refine loopA (ι := Nat) (fun n => [(0, cSl cs), (1, iSl left), (2, .int .i64 value), (3, .int .i64 most), (9, .int .i64 n)]) (fun _ => S) (fun n => n ≤ 999 ∧ ((n : Int) ≤ max 0 (min most 999)) ∧ (seatsGo (fun n => accF cs left value n) (min most 999) (1000 - n) n : Int) = seatsF cs left value most) (fun n => 999 - n) 0 ⟨by omega, by omega, by rw [hF]⟩ ?_ rfl ?_
      · simp only [iSl, cSl, ↓evPre, ↓evPreV, evPost, evPostV, ← List.map_take, ← List.map_drop, ↓reduceIte, reduceCtorEq, Nat.reduceEqDiff, forall_const, implies_true, Nat.reduceAdd, Nat.reduceSub, Nat.reduceMul, Nat.reduceLT, Nat.reduceLeDiff, Int.reduceToNat, Int.reduceAdd, Int.reduceSub, Int.reduceNeg, Int.reduceMul, Int.reduceLT, Int.reduceLE, Int.reduceEq]
      · rintro n ⟨hn, hnm, hinv⟩
        have hf : 1000 - n = (999 - n) + 1 := by omega
        by_cases h2 : (n : Int) < most ∧ (n : Int) < 999
        · have h2' : (n : Int) < min most 999 := by omega
          simp (disch := omega) only [iSl, cSl, wrap_i64, h2.1, h2.2, ↓evPre, ↓evPreV, evPost, evPostV, ← List.map_take, ← List.map_drop, ↓reduceIte, reduceCtorEq, Nat.reduceEqDiff, forall_const, implies_true, Nat.reduceAdd, Nat.reduceSub, Nat.reduceMul, Nat.reduceLT, Nat.reduceLeDiff, Int.reduceToNat, Int.reduceAdd, Int.reduceSub, Int.reduceNeg, Int.reduceMul, Int.reduceLT, Int.reduceLE, Int.reduceEq]
          refine loopA (ι := Nat) (fun k => [(0, cSl cs), (1, iSl left), (2, .int .i64 value), (3, .int .i64 most), (9, .int .i64 n), (11, .int .i64 k), (10, .int .i64 (((cs.zip left).take k).map (costF n)).sum)]) (fun _ => S)
            (fun k => k ≤ left.length ∧ ∀ p ∈ (cs.zip left).take k, (n : Int) < p.2) (fun k => left.length - k) 0 ⟨Nat.zero_le _, by simp⟩ ?_ rfl ?_
          · simp only [iSl, cSl, List.sum_nil, ↓evPre, ↓evPreV, evPost, evPostV, ← List.map_take, ← List.map_drop, ↓reduceIte, reduceCtorEq, Nat.reduceEqDiff, forall_const, implies_true, Nat.reduceAdd, Nat.reduceSub, Nat.reduceMul, Nat.reduceLT, Nat.reduceLeDiff, Int.reduceToNat, Int.reduceAdd, Int.reduceSub, Int.reduceNeg, Int.reduceMul, Int.reduceLT, Int.reduceLE, Int.reduceEq]
          · rintro k ⟨hk, hk'⟩
            have hs := cost_bound (taken := (n : Int)) ((cs.zip left).take k) fun p hp => ⟨zip_mem hr (List.mem_of_mem_take hp), hk' p hp⟩
            have hzl : ((cs.zip left).take k).length ≤ k := by simp; omega
            cases hx : left[k]? with
            | none =>
              have hlt : ¬ ((k : Int) < left.length) := by rw [List.getElem?_eq_none_iff] at hx; omega
              have hz : (cs.zip left).take k = cs.zip left := List.take_of_length_le (by simp; omega)
              rw [hz] at hk'
              have hall : (cs.zip left).all (fun p => decide ((n : Int) < p.2)) = true := List.all_eq_true.2 fun p hp => decide_eq_true (hk' p hp)
              by_cases h3 : ((cs.zip left).map (costF n)).sum ≤ value
              · have h3' : ¬ (value < ((cs.zip left).map (costF n)).sum) := by omega
                have hacc : accF cs left value n = true := by rw [accF, hall, decide_eq_true h3]; rfl
                rw [hf, seatsGo, if_pos ⟨h2', hacc⟩] at hinv
                simp (disch := omega) only [iSl, cSl, wrap_i64, hx, hlt, hz, h3', ↓evPre, ↓evPreV, evPost, evPostV, ← List.map_take, ← List.map_drop, ↓reduceIte, reduceCtorEq, Nat.reduceEqDiff, forall_const, implies_true, Nat.reduceAdd, Nat.reduceSub, Nat.reduceMul, Nat.reduceLT, Nat.reduceLeDiff, Int.reduceToNat, Int.reduceAdd, Int.reduceSub, Int.reduceNeg, Int.reduceMul, Int.reduceLT, Int.reduceLE, Int.reduceEq]
                refine ⟨n + 1, ⟨by omega, by omega, ?_⟩, by omega, by omega⟩
                have : 1000 - (n + 1) = 999 - n := by omega
                rw [this]; exact hinv
              · have h3' : value < ((cs.zip left).map (costF n)).sum := by omega
                have hacc : accF cs left value n = false := by rw [accF, decide_eq_false h3, Bool.and_false]
                rw [seatsGo_stop (by simp [hacc])] at hinv
                simp (disch := omega) only [iSl, cSl, wrap_i64, hx, hlt, hz, h3', ← hinv, ↓evPre, ↓evPreV, evPost, evPostV, ← List.map_take, ← List.map_drop, ↓reduceIte, reduceCtorEq, Nat.reduceEqDiff, forall_const, implies_true, Nat.reduceAdd, Nat.reduceSub, Nat.reduceMul, Nat.reduceLT, Nat.reduceLeDiff, Int.reduceToNat, Int.reduceAdd, Int.reduceSub, Int.reduceNeg, Int.reduceMul, Int.reduceLT, Int.reduceLE, Int.reduceEq]
            | some x =>
              have hlt : (k : Int) < left.length := by have := (List.getElem?_eq_some_iff.1 hx).1; omega
              cases hc : cs[k]? with
              | none => rw [List.getElem?_eq_none_iff] at hc; omega
              | some c =>
                have hcr := hr c (List.mem_of_getElem? hc)
                have hxl := hleft x (List.mem_of_getElem? hx)
                have hz := zip_take cs left k c x hc hx
                by_cases h3 : x ≤ n
                · have hno : (cs.zip left).all (fun p => decide ((n : Int) < p.2)) = false := by
                    rw [Bool.eq_false_iff]
                    intro h
                    have hm : (c, x) ∈ cs.zip left := List.mem_of_mem_take (i := k + 1) (by rw [hz]; simp)
                    have := of_decide_eq_true (List.all_eq_true.1 h _ hm)
                    simp only at this
                    omega
                  have hacc : accF cs left value n = false := by rw [accF, hno, Bool.false_and]
                  rw [seatsGo_stop (by simp [hacc])] at hinv
                  simp (disch := omega) only [iSl, cSl, wrap_i64, hc, hx, hlt, h3, ← hinv, ↓evPre, ↓evPreV, evPost, evPostV, ← List.map_take, ← List.map_drop, ↓reduceIte, reduceCtorEq, Nat.reduceEqDiff, forall_const, implies_true, Nat.reduceAdd, Nat.reduceSub, Nat.reduceMul, Nat.reduceLT, Nat.reduceLeDiff, Int.reduceToNat, Int.reduceAdd, Int.reduceSub, Int.reduceNeg, Int.reduceMul, Int.reduceLT, Int.reduceLE, Int.reduceEq]
                · simp (disch := omega) only [iSl, cSl, wrap_i64, hc, hx, hlt, h3, ↓evPre, ↓evPreV, evPost, evPostV, ← List.map_take, ← List.map_drop, ↓reduceIte, reduceCtorEq, Nat.reduceEqDiff, forall_const, implies_true, Nat.reduceAdd, Nat.reduceSub, Nat.reduceMul, Nat.reduceLT, Nat.reduceLeDiff, Int.reduceToNat, Int.reduceAdd, Int.reduceSub, Int.reduceNeg, Int.reduceMul, Int.reduceLT, Int.reduceLE, Int.reduceEq]
                  refine (refprice_A c (x - n) S (by have := (right_bound hcr).1; omega)).mono ?_
                  rintro r S' ⟨rfl, rfl⟩
                  have hp := price_bound hcr (left := x - n) (by omega)
                  simp (disch := omega) only [iSl, cSl, wrap_i64, ↓evPre, ↓evPreV, evPost, evPostV, ← List.map_take, ← List.map_drop, ↓reduceIte, reduceCtorEq, Nat.reduceEqDiff, forall_const, implies_true, Nat.reduceAdd, Nat.reduceSub, Nat.reduceMul, Nat.reduceLT, Nat.reduceLeDiff, Int.reduceToNat, Int.reduceAdd, Int.reduceSub, Int.reduceNeg, Int.reduceMul, Int.reduceLT, Int.reduceLE, Int.reduceEq]
                  refine ⟨k + 1, ⟨by omega, fun p hp => ?_⟩, by omega, by omega, ?_⟩
                  · rw [hz, List.mem_append, List.mem_singleton] at hp
                    rcases hp with hp | rfl
                    · exact hk' p hp
                    · simp only; omega
                  · rw [hz, List.map_append, List.sum_append]
                    simp [costF]
        · have h2' : ¬ (n : Int) < min most 999 := by omega
          have he : max 0 (min most 999) = (n : Int) := by omega
          rw [seatsGo_stop (by simp only [not_and]; intro h; exact absurd h h2')] at hinv
          by_cases h3 : (n : Int) < most
          · have h4 : ¬ (n : Int) < 999 := by omega
            simp (disch := omega) only [iSl, cSl, wrap_i64, h3, h4, he, ← hinv, ↓evPre, ↓evPreV, evPost, evPostV, ← List.map_take, ← List.map_drop, ↓reduceIte, reduceCtorEq, Nat.reduceEqDiff, forall_const, implies_true, Nat.reduceAdd, Nat.reduceSub, Nat.reduceMul, Nat.reduceLT, Nat.reduceLeDiff, Int.reduceToNat, Int.reduceAdd, Int.reduceSub, Int.reduceNeg, Int.reduceMul, Int.reduceLT, Int.reduceLE, Int.reduceEq]
          · simp (disch := omega) only [iSl, cSl, wrap_i64, h3, he, ← hinv, ↓evPre, ↓evPreV, evPost, evPostV, ← List.map_take, ← List.map_drop, ↓reduceIte, reduceCtorEq, Nat.reduceEqDiff, forall_const, implies_true, Nat.reduceAdd, Nat.reduceSub, Nat.reduceMul, Nat.reduceLT, Nat.reduceLeDiff, Int.reduceToNat, Int.reduceAdd, Int.reduceSub, Int.reduceNeg, Int.reduceMul, Int.reduceLT, Int.reduceLE, Int.reduceEq]
  · have h1' : ¬ (cs.length : Int) = left.length := by omega
    have hF : seatsF cs left value most = 0 := by rw [seatsF, if_pos (.inr h1)]
    simp only [a20, cSl, iSl, h1', hF, ↓evPre, ↓evPreV, evPost, evPostV, ← List.map_take, ← List.map_drop, ↓reduceIte, reduceCtorEq, Nat.reduceEqDiff, forall_const, implies_true, Nat.reduceAdd, Nat.reduceSub, Nat.reduceMul, Nat.reduceLT, Nat.reduceLeDiff, Int.reduceToNat, Int.reduceAdd, Int.reduceSub, Int.reduceNeg, Int.reduceMul, Int.reduceLT, Int.reduceLE, Int.reduceEq]
end Go.Proofs.Ytoidchljifelgaa
