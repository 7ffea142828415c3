/- The stable sort. -/
import Derived.Test.YtoidchljifelgaaBid10
namespace Go.Proofs.Ytoidchljifelgaa
open Go Go.AL
set_option linter.unusedSimpArgs false
set_option maxHeartbeats 4000000

theorem runs_two {lt : List V → List V → Bool} {k : Nat} : ∀ (T : List (List (List V))), 0 < k → RunsOf lt k T → 2 * k ≤ T.flatten.length → ∃ r s T', T = r :: s :: T' ∧ Srt lt r ∧ Srt lt s ∧ r.length = k ∧ s.length = k ∧ RunsOf lt k T'
  | [], hk, _, h => by simp at h; omega
  | [r], hk, h, hl => by
    have := h.2.2
    simp at hl
    omega
  | [r, s], hk, h, hl => by
    have h1 := h.2.1
    have h2 := h.2.2.2.2
    simp at hl
    exact ⟨r, s, [], rfl, h.1, h.2.2.1, h1, by omega, trivial⟩
  | r :: s :: t :: T, hk, h, _ => ⟨r, s, t :: T, rfl, h.1, h.2.2.1, h.2.1, h.2.2.2.1, h.2.2.2.2⟩

theorem runs_less {lt : List V → List V → Bool} {k : Nat} : ∀ (T : List (List (List V))), 0 < k → RunsOf lt k T → T.flatten.length < 2 * k → (T.flatten.length ≤ k ∧ Srt lt T.flatten) ∨ ∃ r s, T = [r, s] ∧ Srt lt r ∧ Srt lt s ∧ r.length = k ∧ 0 < s.length
  | [], _, _, _ => .inl ⟨by simp, List.Pairwise.nil⟩
  | [r], _, h, _ => .inl ⟨by simpa using h.2.2, by simpa using h.1⟩
  | [r, s], _, h, _ => .inr ⟨r, s, rfl, h.1, h.2.2.1, h.2.1, h.2.2.2.1⟩
  | r :: s :: t :: T, _, h, hl => by
    have h1 := h.2.1
    have h2 := h.2.2.2.1
    simp only [List.flatten_cons, List.length_append] at hl
    omega

theorem stable_A {f : FuncId} {first cap : List V} {ok : List V → Prop} {lt : List V → List V → Bool} (hc : Cmps f first cap ok lt) (ho : Ords ok lt) (rows : List (List V)) (S : Store) (id ver N : Nat)
    (hid : id < S.length) (hokw : ∀ r, ok r → r.length = 2 ∧ r.all V.cellOk = true) (hok : ∀ r ∈ rows, ok r) (hN : rows.length = N) (hl : N ≤ 1073741824) :
    CallA Try.prog 26 [.msl id ver 0 N, .int .i64 N, .func f first cap] (rset S id ver rows) fun r S' => r = .tup [] ∧ ∃ M', M'.Perm rows ∧ Srt lt M' ∧ S' = rset S id ver M' := by
  refine CallA.keep Try.func26 c26 (Nat.le_of_ble_eq_true rfl) fun σ hσ => ?_
  simp (disch := omega) only [a26, wrap_i64, ↓evPre, ↓evPreV, evPost, evPostV, ← List.map_take, ← List.map_drop, ↓reduceIte, reduceCtorEq, Nat.reduceEqDiff, forall_const, implies_true, Nat.reduceAdd, Nat.reduceSub, Nat.reduceMul, Nat.reduceLT, Nat.reduceLeDiff, Int.reduceToNat, Int.reduceAdd, Int.reduceSub, Int.reduceNeg, Int.reduceMul, Int.reduceLT, Int.reduceLE, Int.reduceEq]
  -- blocks of twenty: D sorted ones, T the rest
  refine loopA (ι := List (List (List V)) × List (List V)) (fun i => [(0, .msl id ver 0 N), (1, .int .i64 N), (2, .func f first cap), (6, .int .i64 20), (7, .int .i64 i.1.flatten.length), (8, .int .i64 (i.1.flatten.length + 20 : Nat))])
    (fun i => rset S id ver (i.1.flatten ++ i.2)) (fun i => (i.1.flatten ++ i.2).Perm rows ∧ ∀ r ∈ i.1, Srt lt r ∧ r.length = 20) (fun i => i.2.length) ([], rows) ⟨List.Perm.refl _, by simp⟩ ?_ (by simp) ?_
  · simp only [↓evPre, ↓evPreV, evPost, evPostV, ← List.map_take, ← List.map_drop, ↓reduceIte, reduceCtorEq, Nat.reduceEqDiff, forall_const, implies_true, Nat.reduceAdd, Nat.reduceSub, Nat.reduceMul, Nat.reduceLT, Nat.reduceLeDiff, Int.reduceToNat, Int.reduceAdd, Int.reduceSub, Int.reduceNeg, Int.reduceMul, Int.reduceLT, Int.reduceLE, Int.reduceEq]
    simp
  · rintro ⟨D, T⟩ ⟨hp, hD⟩
    simp only at hp hD ⊢
    have hlen := hp.length_eq
    simp only [List.length_append] at hlen
    by_cases hT : 20 ≤ T.length
    · have g : ((D.flatten.length + 20 : Nat) : Int) ≤ N := by omega
      simp (disch := omega) only [g, wrap_i64, ↓evPre, ↓evPreV, evPost, evPostV, ← List.map_take, ← List.map_drop, ↓reduceIte, reduceCtorEq, Nat.reduceEqDiff, forall_const, implies_true, Nat.reduceAdd, Nat.reduceSub, Nat.reduceMul, Nat.reduceLT, Nat.reduceLeDiff, Int.reduceToNat, Int.reduceAdd, Int.reduceSub, Int.reduceNeg, Int.reduceMul, Int.reduceLT, Int.reduceLE, Int.reduceEq]
      obtain ⟨M, T', rfl, hM⟩ := cut_list (l := T) (s := 20) hT
      have hokT : ∀ r ∈ D.flatten ++ M ++ T', ok r := fun r hr => hok r (hp.mem_iff.1 (by simpa using hr))
      have hins := insertion_A D.flatten M T' S id ver D.flatten.length (D.flatten.length + 20) N f first cap ok lt hc ho hid (fun r hr => hokw r (hokT r hr)) (fun r hr => hokT r (by simp [hr])) rfl (by omega) (by simp at hlen ⊢; omega) (by omega)
      rw [List.append_assoc] at hins
      refine hins.mono ?_
      rintro r S' ⟨rfl, M', h1, h2, rfl⟩
      have hl' := h1.length_eq
      refine ⟨(D ++ [M'], T'), ⟨?_, fun r hr => ?_⟩, by simp; omega, ⟨by simp; omega, by simp; omega⟩, by simp⟩
      · refine List.Perm.trans ?_ hp
        simp only [List.flatten_append, List.flatten_cons, List.flatten_nil, List.append_nil, List.append_assoc]
        exact List.Perm.append_left _ (List.Perm.append_right _ h1)
      · rcases List.mem_append.1 hr with hr | hr
        · exact hD r hr
        · simp only [List.mem_singleton] at hr
          subst hr
          exact ⟨h2, by omega⟩
    · have g : ¬ (((D.flatten.length + 20 : Nat) : Int) ≤ N) := by omega
      simp (disch := omega) only [g, wrap_i64, ↓evPre, ↓evPreV, evPost, evPostV, ← List.map_take, ← List.map_drop, ↓reduceIte, reduceCtorEq, Nat.reduceEqDiff, forall_const, implies_true, Nat.reduceAdd, Nat.reduceSub, Nat.reduceMul, Nat.reduceLT, Nat.reduceLeDiff, Int.reduceToNat, Int.reduceAdd, Int.reduceSub, Int.reduceNeg, Int.reduceMul, Int.reduceLT, Int.reduceLE, Int.reduceEq]
      have hokT : ∀ r ∈ D.flatten ++ T ++ [], ok r := fun r hr => hok r (hp.mem_iff.1 (by simpa using hr))
      have hins := insertion_A D.flatten T [] S id ver D.flatten.length N N f first cap ok lt hc ho hid (fun r hr => hokw r (hokT r hr)) (fun r hr => hokT r (by simp [hr])) rfl (by omega) (by simp at hlen ⊢; omega) (by omega)
      rw [List.append_nil] at hins
      refine hins.mono ?_
      rintro r S' ⟨rfl, M', h1, h2, rfl⟩
      have hl' := h1.length_eq
      -- the runs
      obtain ⟨R, hR, hRf⟩ : ∃ R, RunsOf lt 20 R ∧ R.flatten = D.flatten ++ M' ++ [] := by
        by_cases h0 : M'.length = 0
        · rw [List.length_eq_zero_iff.1 h0]
          exact ⟨D ++ [], runs_full (by omega) D [] hD trivial, by simp⟩
        · exact ⟨D ++ [M'], runs_full (by omega) D [M'] hD ⟨h2, by omega, by omega⟩, by simp⟩
      have hRp : R.flatten.Perm rows := by
        rw [hRf, List.append_nil]
        exact (List.Perm.append_left _ h1).trans hp
      rw [← hRf]
      refine loopA (ι := Nat × List (List (List V))) (fun i => [(0, .msl id ver 0 N), (1, .int .i64 N), (2, .func f first cap), (6, .int .i64 i.1)]) (fun i => rset S id ver i.2.flatten)
        (fun i => i.2.flatten.Perm rows ∧ RunsOf lt i.1 i.2 ∧ 20 ≤ i.1 ∧ i.1 ≤ 2 * N + 20) (fun i => N - i.1) (20, R) ⟨hRp, hR, by simp only; omega, by simp only; omega⟩ ?_ rfl ?_
      · simp only [↓evPre, ↓evPreV, evPost, evPostV, ← List.map_take, ← List.map_drop, ↓reduceIte, reduceCtorEq, Nat.reduceEqDiff, forall_const, implies_true, Nat.reduceAdd, Nat.reduceSub, Nat.reduceMul, Nat.reduceLT, Nat.reduceLeDiff, Int.reduceToNat, Int.reduceAdd, Int.reduceSub, Int.reduceNeg, Int.reduceMul, Int.reduceLT, Int.reduceLE, Int.reduceEq]
        omega
      · rintro ⟨bs, R⟩ ⟨hp, hR, hb1, hb2⟩
        simp only at hp hR hb1 hb2 ⊢
        have hlen := hp.length_eq
        by_cases hbs : bs < N
        · have g : (bs : Int) < N := by omega
          simp (disch := omega) only [g, wrap_i64, ↓evPre, ↓evPreV, evPost, evPostV, ← List.map_take, ← List.map_drop, ↓reduceIte, reduceCtorEq, Nat.reduceEqDiff, forall_const, implies_true, Nat.reduceAdd, Nat.reduceSub, Nat.reduceMul, Nat.reduceLT, Nat.reduceLeDiff, Int.reduceToNat, Int.reduceAdd, Int.reduceSub, Int.reduceNeg, Int.reduceMul, Int.reduceLT, Int.reduceLE, Int.reduceEq]
          have okR : ∀ r ∈ R.flatten, ok r := fun r hr => hok r (hp.mem_iff.1 hr)
          refine loopA (ι := List (List (List V)) × List (List (List V))) (fun i => [(0, .msl id ver 0 N), (1, .int .i64 N), (2, .func f first cap), (6, .int .i64 bs), (7, .int .i64 i.1.flatten.length), (8, .int .i64 (i.1.flatten.length + 2 * bs : Nat))]) (fun i => rset S id ver (i.1.flatten ++ i.2.flatten))
            (fun i => (i.1.flatten ++ i.2.flatten).Perm rows ∧ RunsOf lt bs i.2 ∧ ∀ r ∈ i.1, Srt lt r ∧ r.length = 2 * bs) (fun i => i.2.length) ([], R) ⟨by simpa using hp, hR, by simp⟩ ?_ (by simp) ?_
          · simp only [↓evPre, ↓evPreV, evPost, evPostV, ← List.map_take, ← List.map_drop, ↓reduceIte, reduceCtorEq, Nat.reduceEqDiff, forall_const, implies_true, Nat.reduceAdd, Nat.reduceSub, Nat.reduceMul, Nat.reduceLT, Nat.reduceLeDiff, Int.reduceToNat, Int.reduceAdd, Int.reduceSub, Int.reduceNeg, Int.reduceMul, Int.reduceLT, Int.reduceLE, Int.reduceEq]
            simp
          · rintro ⟨D, T⟩ ⟨hp, hT, hD⟩
            simp only at hp hT hD ⊢
            have hlen := hp.length_eq
            simp only [List.length_append] at hlen
            have okT : ∀ r ∈ D.flatten ++ T.flatten, ok r := fun r hr => hok r (hp.mem_iff.1 hr)
            have ebs : (D.flatten.length : Int) + bs = (D.flatten.length + bs : Nat) := by omega
            by_cases h2 : 2 * bs ≤ T.flatten.length
            · have g : ((D.flatten.length + 2 * bs : Nat) : Int) ≤ N := by omega
              simp (disch := omega) only [g, ebs, wrap_i64, ↓evPre, ↓evPreV, evPost, evPostV, ← List.map_take, ← List.map_drop, ↓reduceIte, reduceCtorEq, Nat.reduceEqDiff, forall_const, implies_true, Nat.reduceAdd, Nat.reduceSub, Nat.reduceMul, Nat.reduceLT, Nat.reduceLeDiff, Int.reduceToNat, Int.reduceAdd, Int.reduceSub, Int.reduceNeg, Int.reduceMul, Int.reduceLT, Int.reduceLE, Int.reduceEq]
              obtain ⟨r, s, T', rfl, hr, hs, hrl, hsl, hT'⟩ := runs_two T (by omega) hT h2
              have e : D.flatten ++ (r :: s :: T').flatten = D.flatten ++ r ++ s ++ T'.flatten := by simp
              rw [e]
              have okrs : ∀ x ∈ D.flatten ++ r ++ s ++ T'.flatten, ok x := by rw [← e]; exact okT
              refine (symAll hc ho (r.length + s.length) D.flatten r s T'.flatten S id ver D.flatten.length (D.flatten.length + bs) (D.flatten.length + 2 * bs) N (Nat.le_refl _) hid (fun x hx => hokw x (okrs x hx)) (fun x hx => okrs x (by simp [hx])) (fun x hx => okrs x (by simp [hx])) rfl (by omega) (by omega) (by rw [← e, List.length_append, hlen]; exact hN) (by omega) hr hs (by omega) (by omega)).mono ?_
              rintro v S' ⟨rfl, M', h1, h3, rfl⟩
              have hl' := h1.length_eq
              simp only [List.length_append] at hl'
              refine ⟨(D ++ [M'], T'), ⟨?_, hT', fun x hx => ?_⟩, by simp only [List.length_cons]; omega, ⟨by simp; omega, by simp; omega⟩, by simp⟩
              · refine List.Perm.trans ?_ hp
                rw [e]
                simp only [List.flatten_append, List.flatten_cons, List.flatten_nil, List.append_nil, List.append_assoc]
                refine List.Perm.append_left _ ?_
                rw [← List.append_assoc r]
                exact List.Perm.append_right _ h1
              · rcases List.mem_append.1 hx with hx | hx
                · exact hD x hx
                · simp only [List.mem_singleton] at hx
                  subst hx
                  exact ⟨h3, by omega⟩
            · have g : ¬ (((D.flatten.length + 2 * bs : Nat) : Int) ≤ N) := by omega
              rcases runs_less T (by omega) hT (by omega) with ⟨k1, k2⟩ | ⟨r, s, rfl, hr, hs, hrl, hsl⟩
              · have g2 : ¬ (((D.flatten.length + bs : Nat) : Int) < N) := by omega
                simp (disch := omega) only [g, ebs, g2, wrap_i64, ↓evPre, ↓evPreV, evPost, evPostV, ← List.map_take, ← List.map_drop, ↓reduceIte, reduceCtorEq, Nat.reduceEqDiff, forall_const, implies_true, Nat.reduceAdd, Nat.reduceSub, Nat.reduceMul, Nat.reduceLT, Nat.reduceLeDiff, Int.reduceToNat, Int.reduceAdd, Int.reduceSub, Int.reduceNeg, Int.reduceMul, Int.reduceLT, Int.reduceLE, Int.reduceEq]
                obtain ⟨R', hR', hRf⟩ : ∃ R', RunsOf lt (2 * bs) R' ∧ R'.flatten = D.flatten ++ T.flatten := by
                  by_cases h0 : T.flatten.length = 0
                  · rw [List.length_eq_zero_iff.1 h0]
                    exact ⟨D ++ [], runs_full (by omega) D [] hD trivial, by simp⟩
                  · exact ⟨D ++ [T.flatten], runs_full (by omega) D [T.flatten] hD ⟨k2, by omega, by omega⟩, by simp⟩
                exact ⟨(2 * bs, R'), ⟨by simp only; rw [hRf]; exact hp, hR', by simp only; omega, by simp only; omega⟩, by simp only; omega, by simp only; omega, by simp only; rw [hRf]⟩
              · simp only [List.flatten_cons, List.flatten_nil, List.append_nil, List.length_append] at hlen
                have g2 : (((D.flatten.length + bs : Nat) : Int) < N) := by omega
                simp (disch := omega) only [g, ebs, g2, wrap_i64, ↓evPre, ↓evPreV, evPost, evPostV, ← List.map_take, ← List.map_drop, ↓reduceIte, reduceCtorEq, Nat.reduceEqDiff, forall_const, implies_true, Nat.reduceAdd, Nat.reduceSub, Nat.reduceMul, Nat.reduceLT, Nat.reduceLeDiff, Int.reduceToNat, Int.reduceAdd, Int.reduceSub, Int.reduceNeg, Int.reduceMul, Int.reduceLT, Int.reduceLE, Int.reduceEq]
                have e : D.flatten ++ [r, s].flatten = D.flatten ++ r ++ s ++ [] := by simp
                rw [e]
                have okrs : ∀ x ∈ D.flatten ++ r ++ s ++ [], ok x := by rw [← e]; exact okT
                refine (symAll hc ho (r.length + s.length) D.flatten r s [] S id ver D.flatten.length (D.flatten.length + bs) N N (Nat.le_refl _) hid (fun x hx => hokw x (okrs x hx)) (fun x hx => okrs x (by simp [hx])) (fun x hx => okrs x (by simp [hx])) rfl (by omega) (by omega) (by simp only [List.length_append, List.length_nil]; omega) (by omega) hr hs (by omega) (by omega)).mono ?_
                rintro v S' ⟨rfl, M', h1, h3, rfl⟩
                have hl' := h1.length_eq
                simp only [List.length_append] at hl'
                refine ⟨(2 * bs, D ++ [M']), ⟨?_, runs_full (by omega) D [M'] hD ⟨h3, by omega, by simp only [List.flatten_cons, List.flatten_nil, List.append_nil, List.length_append] at h2; omega⟩, by simp only; omega, by simp only; omega⟩, by simp only; omega, by simp only; omega, by simp⟩
                refine List.Perm.trans ?_ hp
                rw [e]
                simp only [List.flatten_append, List.flatten_cons, List.flatten_nil, List.append_nil, List.append_assoc]
                exact List.Perm.append_left _ h1
        · have g : ¬ ((bs : Int) < N) := by omega
          simp (disch := omega) only [g, wrap_i64, ↓evPre, ↓evPreV, evPost, evPostV, ← List.map_take, ← List.map_drop, ↓reduceIte, reduceCtorEq, Nat.reduceEqDiff, forall_const, implies_true, Nat.reduceAdd, Nat.reduceSub, Nat.reduceMul, Nat.reduceLT, Nat.reduceLeDiff, Int.reduceToNat, Int.reduceAdd, Int.reduceSub, Int.reduceNeg, Int.reduceMul, Int.reduceLT, Int.reduceLE, Int.reduceEq]
          exact ⟨R.flatten, hp, runs_one (by omega) R hR (by omega), rfl⟩
end Go.Proofs.Ytoidchljifelgaa
