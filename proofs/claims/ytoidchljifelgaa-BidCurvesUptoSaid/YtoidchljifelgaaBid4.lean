/- The rotation of the stable sort. -/
import Derived.Test.YtoidchljifelgaaBid3
namespace Go.Proofs.Ytoidchljifelgaa
open Go Go.AL
set_option linter.unusedSimpArgs false

theorem swapRange_B {rows : List (List V)} {a b n N : Nat} {S : Store} {id ver : Nat} {cv : V} (hN : rows.length = N) (hid : id < S.length) (hw : W2 rows) (hab : a + n ≤ b) (hbn : b + n ≤ N) (hl : N ≤ 1099511627776) {rows' : List (List V)} (he : swapN rows a b n = rows') :
    CallA Try.prog 31 [.msl id ver 0 N, .int .i64 a, .int .i64 b, .int .i64 n, cv] (rset S id ver rows) fun r S' => r = .tup [] ∧ S' = rset S id ver rows' := by
  subst hN he
  exact swapRange_A rows a b n S id ver cv hid hw hab hbn hl

structure Rot where
  P : List (List V)
  U : List (List V)
  W : List (List AL.V)
  Q : List (List V)

def Rot.rows (i : Rot) : List (List V) := i.P ++ i.U ++ i.W ++ i.Q
def Rot.done (i : Rot) : List (List V) := i.P ++ i.W ++ i.U ++ i.Q

theorem W2_app {a b : List (List V)} : W2 (a ++ b) ↔ W2 a ∧ W2 b :=
  ⟨fun h => ⟨fun r hr => h r (List.mem_append_left _ hr), fun r hr => h r (List.mem_append_right _ hr)⟩, fun h r hr => (List.mem_append.1 hr).elim (h.1 r) (h.2 r)⟩

theorem rotate_A (P U W Q : List (List V)) (S : Store) (id ver N : Nat) (cv : V) (hid : id < S.length) (hw : W2 (P ++ U ++ W ++ Q)) (hN : (P ++ U ++ W ++ Q).length = N) (hl : N ≤ 1099511627776) (hU : 0 < U.length) (hW : 0 < W.length) :
    CallA Try.prog 30 [.msl id ver 0 N, .int .i64 P.length, .int .i64 (P.length + U.length : Nat), .int .i64 (P.length + U.length + W.length : Nat), cv] (rset S id ver (P ++ U ++ W ++ Q)) fun r S' => r = .tup [] ∧ S' = rset S id ver (P ++ W ++ U ++ Q) := by
  refine CallA.keep Try.func30 c30 (Nat.le_of_ble_eq_true rfl) fun σ hσ => ?_
  have hN' : P.length + U.length + W.length + Q.length = N := by rw [← hN]; simp; omega
  have e1 : ((P.length + U.length : Nat) : Int) - P.length = U.length := by omega
  have e2 : ((P.length + U.length + W.length : Nat) : Int) - (P.length + U.length : Nat) = W.length := by omega
  simp (disch := omega) only [a30, e1, e2, wrap_i64, ↓evPre, ↓evPreV, evPost, evPostV, ← List.map_take, ← List.map_drop, ↓reduceIte, reduceCtorEq, Nat.reduceEqDiff, forall_const, implies_true, Nat.reduceAdd, Nat.reduceSub, Nat.reduceMul, Nat.reduceLT, Nat.reduceLeDiff, Int.reduceToNat, Int.reduceAdd, Int.reduceSub, Int.reduceNeg, Int.reduceMul, Int.reduceLT, Int.reduceLE, Int.reduceEq]
  refine loopA (ι := Rot) (fun i => [(0, .msl id ver 0 N), (2, .int .i64 (P.length + U.length : Nat)), (4, cv), (10, .int .i64 i.U.length), (11, .int .i64 i.W.length)]) (fun i => rset S id ver i.rows)
    (fun i => i.P.length + i.U.length = P.length + U.length ∧ i.rows.length = N ∧ W2 i.rows ∧ i.done = P ++ W ++ U ++ Q ∧ 0 < i.U.length ∧ 0 < i.W.length) (fun i => i.U.length + i.W.length) ⟨P, U, W, Q⟩ ⟨rfl, hN, hw, rfl, hU, hW⟩ ?_ rfl ?_
  · simp only [↓evPre, ↓evPreV, evPost, evPostV, ← List.map_take, ← List.map_drop, ↓reduceIte, reduceCtorEq, Nat.reduceEqDiff, forall_const, implies_true, Nat.reduceAdd, Nat.reduceSub, Nat.reduceMul, Nat.reduceLT, Nat.reduceLeDiff, Int.reduceToNat, Int.reduceAdd, Int.reduceSub, Int.reduceNeg, Int.reduceMul, Int.reduceLT, Int.reduceLE, Int.reduceEq]
  · rintro ⟨P', U', V', Q'⟩ ⟨h1, h2, h3, h4, h5, h6⟩
    simp only [Rot.rows, Rot.done] at h1 h2 h3 h4 h5 h6 ⊢
    have h2' : P'.length + U'.length + V'.length + Q'.length = N := by rw [← h2]; simp; omega
    have f1 : ((P.length + U.length : Nat) : Int) - U'.length = P'.length := by omega
    rcases Nat.lt_trichotomy U'.length V'.length with hlt | heq | hgt
    · obtain ⟨V1, V2, rfl, hv⟩ : ∃ V1 V2, V' = V1 ++ V2 ∧ V2.length = U'.length := ⟨V'.take (V'.length - U'.length), V'.drop (V'.length - U'.length), (List.take_append_drop _ _).symm, by simp; omega⟩
      simp only [List.length_append] at hlt h2' h6
      have g1 : ¬ ((U'.length : Int) = (V1 ++ V2).length) := by simp; omega
      have g2 : ¬ (((V1 ++ V2).length : Int) < U'.length) := by simp; omega
      have f2 : ((P.length + U.length : Nat) : Int) + (V1 ++ V2).length - U'.length = (P'.length + U'.length + V1.length : Nat) := by simp; omega
      have hb : -9223372036854775808 ≤ ((V1 ++ V2).length : Int) - U'.length ∧ ((V1 ++ V2).length : Int) - U'.length ≤ 9223372036854775807 := by simp; omega
      have hb' : -9223372036854775808 ≤ ((P.length + U.length : Nat) : Int) + (V1 ++ V2).length ∧ ((P.length + U.length : Nat) : Int) + (V1 ++ V2).length ≤ 9223372036854775807 := by simp; omega
      simp (disch := omega) only [g1, g2, f1, f2, wrap_i64, ↓evPre, ↓evPreV, evPost, evPostV, ← List.map_take, ← List.map_drop, ↓reduceIte, reduceCtorEq, Nat.reduceEqDiff, forall_const, implies_true, Nat.reduceAdd, Nat.reduceSub, Nat.reduceMul, Nat.reduceLT, Nat.reduceLeDiff, Int.reduceToNat, Int.reduceAdd, Int.reduceSub, Int.reduceNeg, Int.reduceMul, Int.reduceLT, Int.reduceLE, Int.reduceEq]
      refine (swapRange_B (rows := P' ++ U' ++ (V1 ++ V2) ++ Q') (rows' := P' ++ V2 ++ V1 ++ U' ++ Q') h2 hid h3 (by omega) (by omega) hl ?_).mono ?_
      · have := swapN_blocks P' U' V1 V2 Q' hv.symm
        rw [← List.append_assoc (P' ++ U') V1 V2]
        exact this
      · rintro r S' ⟨rfl, rfl⟩
        refine ⟨⟨P', V2, V1, U' ++ Q'⟩, ⟨by simp only; omega, by simp; omega, ?_, by rw [← h4]; simp, by simp only; omega, by simp only; omega⟩, by simp; omega, ⟨by simp; omega, by simp; omega⟩, by simp⟩
        simp only [W2_app] at h3 ⊢
        simp [h3]
    · have g1 : (U'.length : Int) = V'.length := by omega
      have f1' : ((P.length + U.length : Nat) : Int) - V'.length = P'.length := by omega
      simp (disch := omega) only [g1, f1', wrap_i64, ↓evPre, ↓evPreV, evPost, evPostV, ← List.map_take, ← List.map_drop, ↓reduceIte, reduceCtorEq, Nat.reduceEqDiff, forall_const, implies_true, Nat.reduceAdd, Nat.reduceSub, Nat.reduceMul, Nat.reduceLT, Nat.reduceLeDiff, Int.reduceToNat, Int.reduceAdd, Int.reduceSub, Int.reduceNeg, Int.reduceMul, Int.reduceLT, Int.reduceLE, Int.reduceEq]
      have hm : P.length + U.length = P'.length + U'.length + ([] : List (List V)).length := by simp; omega
      refine (swapRange_B (rows := P' ++ U' ++ V' ++ Q') (rows' := P ++ W ++ U ++ Q) h2 hid h3 (by omega) (by omega) hl ?_).mono ?_
      · have := swapN_blocks P' U' [] V' Q' heq
        rw [hm, ← heq]
        simp only [List.append_nil] at this
        rw [this, ← h4]
      · rintro r S' ⟨rfl, rfl⟩
        rfl
    · obtain ⟨U1, U2, rfl, hu⟩ : ∃ U1 U2, U' = U1 ++ U2 ∧ U1.length = V'.length := ⟨U'.take V'.length, U'.drop V'.length, (List.take_append_drop _ _).symm, by simp; omega⟩
      simp only [List.length_append] at hgt h2' h5
      have g1 : ¬ (((U1 ++ U2).length : Int) = V'.length) := by simp; omega
      have g2 : ((V'.length : Int) < (U1 ++ U2).length) := by simp; omega
      have hb : -9223372036854775808 ≤ ((U1 ++ U2).length : Int) - V'.length ∧ ((U1 ++ U2).length : Int) - V'.length ≤ 9223372036854775807 := by simp; omega
      simp (disch := omega) only [g1, g2, f1, wrap_i64, ↓evPre, ↓evPreV, evPost, evPostV, ← List.map_take, ← List.map_drop, ↓reduceIte, reduceCtorEq, Nat.reduceEqDiff, forall_const, implies_true, Nat.reduceAdd, Nat.reduceSub, Nat.reduceMul, Nat.reduceLT, Nat.reduceLeDiff, Int.reduceToNat, Int.reduceAdd, Int.reduceSub, Int.reduceNeg, Int.reduceMul, Int.reduceLT, Int.reduceLE, Int.reduceEq]
      simp only [List.length_append] at h1
      have hm : P.length + U.length = P'.length + U1.length + U2.length := by omega
      refine (swapRange_B (rows := P' ++ (U1 ++ U2) ++ V' ++ Q') (rows' := P' ++ V' ++ U2 ++ U1 ++ Q') h2 hid h3 (by omega) (by omega) hl ?_).mono ?_
      · have := swapN_blocks P' U1 U2 V' Q' hu
        rw [hm, ← hu, ← List.append_assoc P' U1 U2]
        exact this
      · rintro r S' ⟨rfl, rfl⟩
        refine ⟨⟨P' ++ V', U2, U1, Q'⟩, ⟨by simp; omega, by simp; omega, ?_, by rw [← h4]; simp, by simp only; omega, by simp only; omega⟩, by simp; omega, ⟨by simp; omega, by simp; omega⟩, by simp⟩
        simp only [W2_app] at h3 ⊢
        simp [h3]
end Go.Proofs.Ytoidchljifelgaa
