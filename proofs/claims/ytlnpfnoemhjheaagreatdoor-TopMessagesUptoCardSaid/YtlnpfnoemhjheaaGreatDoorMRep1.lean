/- Receiving states, plainly and by the program and by the reference. -/
import Derived.Test.YtlnpfnoemhjheaaGreatDoorMMirG
namespace Go.Proofs.YtlnpfnoemhjheaaGreatDoor
open Go Go.AL
set_option linter.unusedSectionVars false
variable [Go.AL.Mode] [Go.AL.LooseM]
set_option linter.unusedSimpArgs false
set_option linter.unusedVariables false
def rc1 (p : Mi × Nat) (x : St) : Mi × Nat := if gR p.1 x = some x then p else ((putF p.1 x).2, if (putF p.1 x).1 = 0 then p.2 + 1 else p.2)
def rcv (M : Mi) (l : List St) : Mi × Nat := l.foldl rc1 (M, 0)
theorem rcv_snoc (M : Mi) (l : List St) (x : St) : rcv M (l ++ [x]) = rc1 (rcv M l) x := by unfold rcv; rw [List.foldl_append]; rfl
theorem putF_N (M : Mi) (x : St) : (putF M x).2.N ≤ M.N + 1 := by
  rcases putF_cases M x with ⟨_, h⟩ | ⟨h, _⟩ <;> rw [h] <;> simp [recM]
theorem rc1_N (p : Mi × Nat) (x : St) : (rc1 p x).1.N ≤ p.1.N + 1 ∧ (rc1 p x).2 ≤ p.2 + 1 := by
  unfold rc1
  split
  · exact ⟨by omega, by omega⟩
  · have := putF_N p.1 x
    refine ⟨this, ?_⟩
    simp only
    split <;> omega
theorem rcv_N (M : Mi) (l : List St) : (rcv M l).1.N ≤ M.N + l.length ∧ (rcv M l).2 ≤ l.length := by
  generalize hn : l.length = n
  induction n generalizing l with
  | zero => rw [List.length_eq_zero_iff.1 hn]; exact ⟨Nat.le_refl _, Nat.le_refl _⟩
  | succ n ih =>
    have hne : l ≠ [] := fun h => by rw [h] at hn; cases hn
    obtain ⟨l', x, rfl⟩ : ∃ l' x, l = l' ++ [x] := ⟨l.dropLast, l.getLast hne, (List.dropLast_concat_getLast hne).symm⟩
    rw [rcv_snoc]
    have h1 := ih l' (by simpa using hn)
    have h2 := rc1_N (rcv M l') x
    omega
theorem rcv_take {M : Mi} {l : List St} {k : Nat} {x : St} (h : l[k]? = some x) : rcv M (l.take (k + 1)) = rc1 (rcv M (l.take k)) x := by
  rw [List.take_add_one, h, Option.toList_some, rcv_snoc]
theorem getF_none {M : Mi} {x : St} (h : gR M x = none) : getF M x.t x.c = (⟨0, 0, 0, 0⟩, false) := by
  rw [gR, Option.map_eq_none_iff] at h
  rw [getF, show findR M.R ⟨x.t, x.c, 0, 0⟩ = findR M.R x from rfl, h]
theorem getF_some {M : Mi} {x y : St} (h : gR M x = some y) : getF M x.t x.c = (y, true) := by
  rw [gR, Option.map_eq_some_iff] at h
  obtain ⟨r, h1, rfl⟩ := h
  rw [getF, show findR M.R ⟨x.t, x.c, 0, 0⟩ = findR M.R x from rfl, h1]
theorem rc1_put {p : Mi × Nat} {x : St} (h : gR p.1 x ≠ some x) : rc1 p x = ((putF p.1 x).2, if (putF p.1 x).1 = 0 then p.2 + 1 else p.2) := if_neg h
theorem rc1_same {p : Mi × Nat} {x : St} (h : gR p.1 x = some x) : rc1 p x = p := if_pos h
section
variable (A B : Store) (M : Mi) (Q : Qs) (C : Cs)
theorem none_A (h : MOk M Q C) (hN : M.N ≤ 1000000) : CallA Tryz.prog 47 [.ptr (A.length + 3) 0 0 0] (mst A B M Q C) fun r S' => r = .bool false ∧ Leaves A B M S' := by
  refine CallA.withNeat Tryz.func47 c224 fun hn => ?_
  refine CallA.fin Tryz.func47 c224 (Nat.le_of_ble_eq_true rfl) fun σ hσ => ?_
  simp (disch := first | omega | (simp only [lenT]; omega)) only [a224, mst, evM, evSt, ↓evPre, ↓evPreW, evPost, evPostW, evR, evU, seval]
  refine (Put_A A B M Q C h hN ⟨0, 0, 0, 0⟩).mono ?_
  have hp : putF M ⟨0, 0, 0, 0⟩ = (2, M) := by rw [putF, if_pos (.inl (by decide))]
  rw [hp]
  rintro r S' ⟨rfl, Q1, C1, h1, hS'⟩
  subst hS'
  simp (disch := first | omega | (simp only [lenT]; omega)) only [evSt, ↓evPre, ↓evPreW, evPost, evPostW, evR, evU, seval]
  exact ⟨_, mst A B M Q1 C1, (mst_neat hn).self, .imm rfl, by rw [mst_len]; exact Nat.le_refl _, rfl, Q1, C1, h1, rfl⟩
theorem receive_A (h : MOk M Q C) (l : List St) (hN : M.N + l.length ≤ 100000) : CallA Tryz.prog 48 [.ptr (A.length + 3) 0 0 0, stSl l] (mst A B M Q C) fun r S' => r = .int .i64 ((rcv M l).2 : Nat) ∧ Leaves A B (rcv M l).1 S' := by
  refine CallA.withNeat Tryz.func48 c225 fun hn => ?_
  refine CallA.fin Tryz.func48 c225 (Nat.le_of_ble_eq_true rfl) fun σ hσ => ?_
  simp (disch := first | omega | (simp only [lenT]; omega)) only [a225, stSl, evSt, ↓evPre, ↓evPreW, evPost, evPostW, evR, evU, seval]
  refine loopF (ι := Nat × Qs × Cs) (fun p => [(0, .ptr (A.length + 3) 0 0 0), (10, stSl l), (11, .int .i64 l.length), (12, .int .i64 (p.1 : Nat)), (5, .int .i64 ((rcv M (l.take p.1)).2 : Nat))]) (fun p => mst A B (rcv M (l.take p.1)).1 p.2.1 p.2.2)
    (fun p => p.1 ≤ l.length ∧ MOk (rcv M (l.take p.1)).1 p.2.1 p.2.2) (fun p => l.length - p.1) (fun p _ => by rw [hσ, mst_len, mst_len]; exact Nat.le_refl _) (0, Q, C) ⟨Nat.zero_le _, h⟩ (.inl ⟨?_, rfl⟩) ?_
  · simp only [stSl, ↓evPre, ↓evPreW, evPost, evPostW, evR, evU, seval]; rfl
  rintro ⟨k, Q, C⟩ ⟨hk, hm⟩
  simp only at hk hm ⊢
  have hNk := rcv_N M (l.take k)
  have htl : (l.take k).length ≤ k := List.length_take_le ..
  cases hc : l[k]? with
  | none =>
    have hge : l.length ≤ k := List.getElem?_eq_none_iff.1 hc
    have hlt : ¬ ((k : Int) < l.length) := by omega
    rw [List.take_of_length_le hge] at hm hNk ⊢
    simp (disch := first | omega | (simp only [lenT]; omega)) only [stSl, dF hlt, evSt, ↓evPre, ↓evPreW, evPost, evPostW, evR, evU, seval]
    exact ⟨_, mst A B (rcv M l).1 Q C, (mst_neat hn).self, .imm rfl, by rw [mst_len, mst_len]; exact Nat.le_refl _, rfl, Q, C, hm, rfl⟩
  | some x =>
    have hlt' := (List.getElem?_eq_some_iff.1 hc).1
    have hlt : (k : Int) < l.length := by omega
    have hnx := rcv_take (M := M) hc
    have hk1 : (k : Int) + 1 = ((k + 1 : Nat) : Int) := by omega
    have hback : ∀ (E : Env) (T : Store) (p : Mi × Nat) (Q : Qs) (C : Cs), rcv M (l.take (k + 1)) = p → MOk p.1 Q C → sub [(0, .ptr (A.length + 3) 0 0 0), (10, stSl l), (11, .int .i64 l.length), (12, .int .i64 ((k + 1 : Nat) : Int)), (5, .int .i64 (p.2 : Nat))] E →
        ∃ i' : Nat × Qs × Cs, (i'.1 ≤ l.length ∧ MOk (rcv M (l.take i'.1)).1 i'.2.1 i'.2.2) ∧ l.length - i'.1 < l.length - k ∧
          Back [(0, .ptr (A.length + 3) 0 0 0), (10, stSl l), (11, .int .i64 l.length), (12, .int .i64 (i'.1 : Nat)), (5, .int .i64 ((rcv M (l.take i'.1)).2 : Nat))] (mst A B (rcv M (l.take i'.1)).1 i'.2.1 i'.2.2) E (mst A B p.1 Q C ++ T) := fun E T p Q C hp hm hE => by
      refine ⟨(k + 1, Q, C), ⟨by simp only; omega, by rw [hp]; exact hm⟩, by simp only; omega, ?_⟩
      simp only [hp]
      refine back_under ((mst_neat hn).fgt _) hE ?_
      have e1 : A.length + 3 < mxN A B := by unfold mxN; omega
      simp [mst_len, V.under, stSl, e1]
    generalize rcv M (l.take k) = p at hm hNk hnx ⊢
    obtain ⟨M1, n⟩ := p
    simp only at hm hNk ⊢
    have hn1 : (n : Int) + 1 = ((n + 1 : Nat) : Int) := by omega
    simp (disch := first | omega | (simp only [lenT]; omega)) only [stSl, stR, hc, dT hlt, mst, evM, evSt, ↓evPre, ↓evPreW, evPost, evPostW, evR, evU, seval]
    refine (Get_AL A B _ M1 Q C x.t x.c).then ?_
    have hput : ∀ (L : Store), CallA Tryz.prog 15 [.ptr (A.length + 3) 0 0 0, stV x] (mst A B M1 Q C ++ L) fun r S' => r = .int .i64 (putF M1 x).1 ∧ LeavesL A B (putF M1 x).2 L S' := fun L => Put_AL A B L M1 Q C hm (by omega) x
    cases hg : gR M1 x with
    | none =>
      have hne : gR (M1, n).1 x ≠ some x := by rw [hg]; intro e; cases e
      rw [rc1_put hne] at hnx
      rw [getF_none hg]
      simp (disch := first | omega | (simp only [lenT]; omega)) only [stV, stR, mst, evM, evSt, ↓evPre, ↓evPreW, evPost, evPostW, evR, evU, seval]
      refine (hput _).mono ?_
      rintro r S' ⟨rfl, Q2, C2, hm2, hS'⟩
      subst hS'
      by_cases h0 : (putF M1 x).1 = 0
      · rw [if_pos h0] at hnx
        simp (disch := first | omega | (simp only [lenT]; omega)) only [dT h0, hk1, hn1, wrap_i64, mst, evM, evSt, ↓evPre, ↓evPreW, evPost, evPostW, evR, evU, seval]
        exact hback _ _ _ Q2 C2 hnx hm2 ⟨rfl, rfl, rfl, rfl, rfl, trivial⟩
      · rw [if_neg h0] at hnx
        simp (disch := first | omega | (simp only [lenT]; omega)) only [dF h0, hk1, wrap_i64, mst, evM, evSt, ↓evPre, ↓evPreW, evPost, evPostW, evR, evU, seval]
        exact hback _ _ _ Q2 C2 hnx hm2 ⟨rfl, rfl, rfl, rfl, rfl, trivial⟩
    | some y =>
      rw [getF_some hg]
      by_cases hxy : y = x
      · subst hxy
        rw [rc1_same (show gR (M1, n).1 y = some y from hg)] at hnx
        simp (disch := first | omega | (simp only [lenT]; omega)) only [stV, stR, eqd_st, decide_true, hk1, wrap_i64, mst, evM, evSt, ↓evPre, ↓evPreW, evPost, evPostW, evR, evU, seval]
        exact hback _ _ _ Q C hnx hm ⟨rfl, rfl, rfl, rfl, rfl, trivial⟩
      · have hne : gR (M1, n).1 x ≠ some x := by rw [hg]; intro e; cases e; exact hxy rfl
        rw [rc1_put hne] at hnx
        simp (disch := first | omega | (simp only [lenT]; omega)) only [stV, stR, eqd_st, dF hxy, mst, evM, evSt, ↓evPre, ↓evPreW, evPost, evPostW, evR, evU, seval]
        refine (hput _).mono ?_
        rintro r S' ⟨rfl, Q2, C2, hm2, hS'⟩
        subst hS'
        by_cases h0 : (putF M1 x).1 = 0
        · rw [if_pos h0] at hnx
          simp (disch := first | omega | (simp only [lenT]; omega)) only [dT h0, hk1, hn1, wrap_i64, mst, evM, evSt, ↓evPre, ↓evPreW, evPost, evPostW, evR, evU, seval]
          exact hback _ _ _ Q2 C2 hnx hm2 ⟨rfl, rfl, rfl, rfl, rfl, trivial⟩
        · rw [if_neg h0] at hnx
          simp (disch := first | omega | (simp only [lenT]; omega)) only [dF h0, hk1, wrap_i64, mst, evM, evSt, ↓evPre, ↓evPreW, evPost, evPostW, evR, evU, seval]
          exact hback _ _ _ Q2 C2 hnx hm2 ⟨rfl, rfl, rfl, rfl, rfl, trivial⟩
end
end Go.Proofs.YtlnpfnoemhjheaaGreatDoor
