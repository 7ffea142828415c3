/- The stable sort. -/
import Derived.Test.YtjjdfkkfhbndiaaDoorQCkSrt4
namespace Go.Proofs.YtjjdfkkfhbndiaaDoor.Ck
open Go Go.AL
set_option linter.unusedSectionVars false
variable [Go.AL.Mode] [Go.AL.LooseM]
set_option linter.unusedSimpArgs false
set_option linter.unusedVariables false
set_option maxHeartbeats 8000000
theorem symAll {f : FuncId} {first cap : List V} {ok : List V → Prop} {lt : List V → List V → Bool} {ord : List V → List V → Prop} (hc : Cmps f first cap ok lt ord) (ho : Ords ok lt) : ∀ k, SymOk f first cap ok lt ord k
  | 0 => fun P U W Q S id ver a m b N hk _ _ _ _ _ _ _ _ _ _ _ hU hW _ => by omega
  | k + 1 => fun P U W Q S id ver a m b N hk hid hw hUo hWo ha hm hb hN hl hUs hWs hU hW hor => by
    by_cases h1 : U.length = 1
    · obtain ⟨u, rfl⟩ := List.length_eq_one_iff.1 h1
      exact sym1_A P W Q u S id ver a m b N f first cap ok lt ord hc ho hid hw (hUo u (by simp)) hWo ha (by simpa using hm) hb hN hl hWs (fun y hy => hor u (by simp) y hy)
    · by_cases h2 : W.length = 1
      · obtain ⟨w, rfl⟩ := List.length_eq_one_iff.1 h2
        exact sym2_A P U Q w S id ver a m b N f first cap ok lt ord hc ho hid hw (hWo w (by simp)) hUo ha hm (by simpa using hb) hN hl hUs h1 (fun y hy => hor y hy w (by simp))
      · exact sym_step hc ho (symAll hc ho k) P U W Q S id ver a m b N hk hid hw hUo hWo ha hm hb hN hl hUs hWs (by omega) (by omega) hor
def RunsOf (lt : List V → List V → Bool) (k : Nat) : List (List (List V)) → Prop
  | [] => True
  | [r] => Srt lt r ∧ 0 < r.length ∧ r.length ≤ k
  | r :: s :: t => Srt lt r ∧ r.length = k ∧ RunsOf lt k (s :: t)
theorem runs_full {lt : List V → List V → Bool} {k : Nat} (hk : 0 < k) : ∀ (D : List (List (List V))) (T : List (List (List V))), (∀ r ∈ D, Srt lt r ∧ r.length = k) → RunsOf lt k T → RunsOf lt k (D ++ T)
  | [], T, _, hT => hT
  | [d], [], hD, _ => by
    have := hD d (by simp)
    exact ⟨this.1, by omega, by omega⟩
  | [d], t :: T, hD, hT => ⟨(hD d (by simp)).1, (hD d (by simp)).2, hT⟩
  | d :: e :: D, T, hD, hT => ⟨(hD d (by simp)).1, (hD d (by simp)).2, runs_full hk (e :: D) T (fun r hr => hD r (List.mem_cons_of_mem _ hr)) hT⟩
theorem runs_one {lt : List V → List V → Bool} {k : Nat} (hk : 0 < k) : ∀ (T : List (List (List V))), RunsOf lt k T → T.flatten.length ≤ k → Srt lt T.flatten
  | [], _, _ => List.Pairwise.nil
  | [r], h, _ => by simpa using h.1
  | r :: s :: t, h, hl => by
    exfalso
    have h1 := h.2.1
    have h2 : 0 < s.length := by
      cases t with
      | nil => exact h.2.2.2.1
      | cons u t =>
        have h3 := h.2.2.2.1
        omega
    simp only [List.flatten_cons, List.length_append] at hl
    omega
def OrdR (ord : List V → List V → Prop) (R : List (List (List V))) : Prop := R.Pairwise fun r s => ∀ x ∈ r, ∀ y ∈ s, ord x y
section
variable {ord : List V → List V → Prop} {D T : List (List (List V))} {r s M M' : List (List V)}
theorem ordR_snoc (h : OrdR ord D) (hp : M'.Perm M) (hd : ∀ x ∈ D.flatten, ∀ y ∈ M, ord x y) : OrdR ord (D ++ [M']) := by
  refine List.pairwise_append.2 ⟨h, List.pairwise_singleton _ _, fun q hq q' hq' x hx y hy => ?_⟩
  simp only [List.mem_singleton] at hq'
  subst hq'
  exact hd x (List.mem_flatten.2 ⟨q, hq, hx⟩) y (hp.mem_iff.1 hy)
theorem ordR_two (h : OrdR ord (D ++ r :: s :: T)) : ∀ x ∈ r, ∀ y ∈ s, ord x y :=
  (List.pairwise_cons.1 (List.pairwise_append.1 h).2.1).1 s (by simp)
theorem ordR_merge (h : OrdR ord (D ++ r :: s :: T)) (hp : M'.Perm (r ++ s)) : OrdR ord (D ++ [M'] ++ T) := by
  obtain ⟨h1, h2, h3⟩ := List.pairwise_append.1 h
  obtain ⟨h4, h5⟩ := List.pairwise_cons.1 h2
  obtain ⟨h6, h7⟩ := List.pairwise_cons.1 h5
  have hm : ∀ x, x ∈ M' → x ∈ r ∨ x ∈ s := fun x hx => List.mem_append.1 (hp.mem_iff.1 hx)
  rw [List.append_assoc]
  refine List.pairwise_append.2 ⟨h1, List.pairwise_cons.2 ⟨fun q hq x hx y hy => ?_, h7⟩, fun q hq q' hq' x hx y hy => ?_⟩
  · rcases hm x hx with hx | hx
    · exact h4 q (List.mem_cons_of_mem _ hq) x hx y hy
    · exact h6 q hq x hx y hy
  · simp only [List.singleton_append, List.mem_cons] at hq'
    rcases hq' with rfl | hq'
    · rcases hm y hy with hy | hy
      · exact h3 q hq r (by simp) x hx y hy
      · exact h3 q hq s (by simp) x hx y hy
    · exact h3 q hq q' (by simp [hq']) x hx y hy
theorem ordR_rest (h : OrdR ord (D ++ T)) : OrdR ord (D ++ [T.flatten]) := by
  obtain ⟨h1, h2, h3⟩ := List.pairwise_append.1 h
  refine List.pairwise_append.2 ⟨h1, List.pairwise_singleton _ _, fun q hq q' hq' x hx y hy => ?_⟩
  simp only [List.mem_singleton] at hq'
  subst hq'
  obtain ⟨q', hq', hy⟩ := List.mem_flatten.1 hy
  exact h3 q hq q' hq' x hx y hy
end
theorem runs_two {lt : List V → List V → Bool} {k : Nat} : ∀ (T : List (List (List V))), 0 < k → RunsOf lt k T → 2 * k ≤ T.flatten.length → ∃ r s T', T = r :: s :: T' ∧ Srt lt r ∧ Srt lt s ∧ r.length = k ∧ s.length = k ∧ RunsOf lt k T'
  | [], hk, _, h => by simp at h; omega
  | [r], hk, h, hl => by
    have := h.2.2
    simp at hl
    omega
  | [r, s], hk, h, hl => by
    have h1 := h.2.1
    have h2 := h.2.2.2.2
    simp at hl
    exact ⟨r, s, [], rfl, h.1, h.2.2.1, h1, by omega, trivial⟩
  | r :: s :: t :: T, hk, h, _ => ⟨r, s, t :: T, rfl, h.1, h.2.2.1, h.2.1, h.2.2.2.1, h.2.2.2.2⟩
theorem runs_less {lt : List V → List V → Bool} {k : Nat} : ∀ (T : List (List (List V))), 0 < k → RunsOf lt k T → T.flatten.length < 2 * k → (T.flatten.length ≤ k ∧ Srt lt T.flatten) ∨ ∃ r s, T = [r, s] ∧ Srt lt r ∧ Srt lt s ∧ r.length = k ∧ 0 < s.length
  | [], _, _, _ => .inl ⟨by simp, List.Pairwise.nil⟩
  | [r], _, h, _ => .inl ⟨by simpa using h.2.2, by simpa using h.1⟩
  | [r, s], _, h, _ => .inr ⟨r, s, rfl, h.1, h.2.2.1, h.2.1, h.2.2.2.1⟩
  | r :: s :: t :: T, _, h, hl => by
    have h1 := h.2.1
    have h2 := h.2.2.2.1
    simp only [List.flatten_cons, List.length_append] at hl
    omega
theorem stable_A {f : FuncId} {first cap : List V} {ok : List V → Prop} {lt : List V → List V → Bool} {ord : List V → List V → Prop} (hc : Cmps f first cap ok lt ord) (ho : Ords ok lt) (rows : List (List V)) (S : Store) (id ver N : Nat)
    (hid : id < S.length) (hokw : ∀ r, ok r → r.length = 1 ∧ r.all V.cellOk = true) (hok : ∀ r ∈ rows, ok r) (hN : rows.length = N) (hl : N ≤ 1073741824) (hor : rows.Pairwise ord) :
    CallA Tryd.prog 47 [.msl id ver 0 N, .int .i64 N, .func f first cap] (rset S id ver rows) fun r S' => r = .tup [] ∧ ∃ M', M'.Perm rows ∧ Srt lt M' ∧ S' = rset S id ver M' := by
  refine CallA.keep Tryd.func47 c2040 (Nat.le_of_ble_eq_true rfl) fun σ hσ => ?_
  simp (disch := omega) only [a2040, wrap_i64, ↓evPre, ↓evPreV, evPost, evPostV, evR, evU, seval]
  refine loopA (ι := List (List (List V)) × List (List V)) (fun i => [(0, .msl id ver 0 N), (1, .int .i64 N), (2, .func f first cap), (6, .int .i64 20), (7, .int .i64 i.1.flatten.length), (8, .int .i64 (i.1.flatten.length + 20 : Nat))])
    (fun i => rset S id ver (i.1.flatten ++ i.2)) (fun i => (i.1.flatten ++ i.2).Perm rows ∧ (∀ r ∈ i.1, Srt lt r ∧ r.length = 20) ∧ OrdR ord i.1 ∧ i.2.Pairwise ord ∧ ∀ x ∈ i.1.flatten, ∀ y ∈ i.2, ord x y) (fun i => i.2.length) ([], rows) ⟨List.Perm.refl _, by simp, List.Pairwise.nil, hor, by simp⟩ ?_ (by simp) ?_
  · simp only [↓evPre, ↓evPreV, evPost, evPostV, evR, evU, seval]
    simp
  · rintro ⟨D, T⟩ ⟨hp, hD, hoD, hoT, hoDT⟩
    simp only at hp hD hoD hoT hoDT ⊢
    have hlen := hp.length_eq
    simp only [List.length_append] at hlen
    by_cases hT : 20 ≤ T.length
    · have g : ((D.flatten.length + 20 : Nat) : Int) ≤ N := by omega
      simp (disch := omega) only [g, wrap_i64, ↓evPre, ↓evPreV, evPost, evPostV, evR, evU, seval]
      obtain ⟨M, T', rfl, hM⟩ := cut_list (l := T) (s := 20) hT
      have hokT : ∀ r ∈ D.flatten ++ M ++ T', ok r := fun r hr => hok r (hp.mem_iff.1 (by simpa using hr))
      have hins := insertion_A D.flatten M T' S id ver D.flatten.length (D.flatten.length + 20) N f first cap ok lt ord hc ho hid (fun r hr => hokw r (hokT r hr)) (fun r hr => hokT r (by simp [hr])) rfl (by omega) (by simp at hlen ⊢; omega) (by omega) (List.pairwise_append.1 hoT).1
      rw [List.append_assoc] at hins
      refine hins.mono ?_
      rintro r S' ⟨rfl, M', h1, h2, rfl⟩
      have hl' := h1.length_eq
      refine ⟨(D ++ [M'], T'), ⟨?_, fun r hr => ?_, ordR_snoc hoD h1 (fun x hx y hy => hoDT x hx y (by simp [hy])), (List.pairwise_append.1 hoT).2.1, fun x hx y hy => ?_⟩, by simp; omega, ⟨by simp; omega, by simp; omega⟩, by simp⟩
      · refine List.Perm.trans ?_ hp
        simp only [List.flatten_append, List.flatten_cons, List.flatten_nil, List.append_nil, List.append_assoc]
        exact List.Perm.append_left _ (List.Perm.append_right _ h1)
      · rcases List.mem_append.1 hr with hr | hr
        · exact hD r hr
        · simp only [List.mem_singleton] at hr
          subst hr
          exact ⟨h2, by omega⟩
      · simp only [List.flatten_append, List.flatten_cons, List.flatten_nil, List.append_nil, List.mem_append] at hx
        rcases hx with hx | hx
        · exact hoDT x hx y (by simp [hy])
        · exact (List.pairwise_append.1 hoT).2.2 x (h1.mem_iff.1 hx) y hy
    · have g : ¬ (((D.flatten.length + 20 : Nat) : Int) ≤ N) := by omega
      simp (disch := omega) only [g, wrap_i64, ↓evPre, ↓evPreV, evPost, evPostV, evR, evU, seval]
      have hokT : ∀ r ∈ D.flatten ++ T ++ [], ok r := fun r hr => hok r (hp.mem_iff.1 (by simpa using hr))
      have hins := insertion_A D.flatten T [] S id ver D.flatten.length N N f first cap ok lt ord hc ho hid (fun r hr => hokw r (hokT r hr)) (fun r hr => hokT r (by simp [hr])) rfl (by omega) (by simp at hlen ⊢; omega) (by omega) hoT
      rw [List.append_nil] at hins
      refine hins.mono ?_
      rintro r S' ⟨rfl, M', h1, h2, rfl⟩
      have hl' := h1.length_eq
      obtain ⟨R, hR, hoR, hRf⟩ : ∃ R, RunsOf lt 20 R ∧ OrdR ord R ∧ R.flatten = D.flatten ++ M' ++ [] := by
        by_cases h0 : M'.length = 0
        · rw [List.length_eq_zero_iff.1 h0]
          exact ⟨D ++ [], runs_full (by omega) D [] hD trivial, by simpa using hoD, by simp⟩
        · exact ⟨D ++ [M'], runs_full (by omega) D [M'] hD ⟨h2, by omega, by omega⟩, ordR_snoc hoD h1 hoDT, by simp⟩
      have hRp : R.flatten.Perm rows := by
        rw [hRf, List.append_nil]
        exact (List.Perm.append_left _ h1).trans hp
      rw [← hRf]
      refine loopA (ι := Nat × List (List (List V))) (fun i => [(0, .msl id ver 0 N), (1, .int .i64 N), (2, .func f first cap), (6, .int .i64 i.1)]) (fun i => rset S id ver i.2.flatten)
        (fun i => i.2.flatten.Perm rows ∧ RunsOf lt i.1 i.2 ∧ OrdR ord i.2 ∧ 20 ≤ i.1 ∧ i.1 ≤ 2 * N + 20) (fun i => N - i.1) (20, R) ⟨hRp, hR, hoR, by simp only; omega, by simp only; omega⟩ ?_ rfl ?_
      · simp only [↓evPre, ↓evPreV, evPost, evPostV, evR, evU, seval]
        try omega
      · rintro ⟨bs, R⟩ ⟨hp, hR, hoR, hb1, hb2⟩
        simp only at hp hR hoR hb1 hb2 ⊢
        have hlen := hp.length_eq
        by_cases hbs : bs < N
        · have g : (bs : Int) < N := by omega
          simp (disch := omega) only [g, wrap_i64, ↓evPre, ↓evPreV, evPost, evPostV, evR, evU, seval]
          have okR : ∀ r ∈ R.flatten, ok r := fun r hr => hok r (hp.mem_iff.1 hr)
          refine loopA (ι := List (List (List V)) × List (List (List V))) (fun i => [(0, .msl id ver 0 N), (1, .int .i64 N), (2, .func f first cap), (6, .int .i64 bs), (7, .int .i64 i.1.flatten.length), (8, .int .i64 (i.1.flatten.length + 2 * bs : Nat))]) (fun i => rset S id ver (i.1.flatten ++ i.2.flatten))
            (fun i => (i.1.flatten ++ i.2.flatten).Perm rows ∧ RunsOf lt bs i.2 ∧ (∀ r ∈ i.1, Srt lt r ∧ r.length = 2 * bs) ∧ OrdR ord (i.1 ++ i.2)) (fun i => i.2.length) ([], R) ⟨by simpa using hp, hR, by simp, hoR⟩ ?_ (by simp) ?_
          · simp only [↓evPre, ↓evPreV, evPost, evPostV, evR, evU, seval]
            simp
          · rintro ⟨D, T⟩ ⟨hp, hT, hD, hoDT⟩
            simp only at hp hT hD hoDT ⊢
            have hlen := hp.length_eq
            simp only [List.length_append] at hlen
            have okT : ∀ r ∈ D.flatten ++ T.flatten, ok r := fun r hr => hok r (hp.mem_iff.1 hr)
            have ebs : (D.flatten.length : Int) + bs = (D.flatten.length + bs : Nat) := by omega
            by_cases h2 : 2 * bs ≤ T.flatten.length
            · have g : ((D.flatten.length + 2 * bs : Nat) : Int) ≤ N := by omega
              simp (disch := omega) only [g, ebs, wrap_i64, ↓evPre, ↓evPreV, evPost, evPostV, evR, evU, seval]
              obtain ⟨r, s, T', rfl, hr, hs, hrl, hsl, hT'⟩ := runs_two T (by omega) hT h2
              have e : D.flatten ++ (r :: s :: T').flatten = D.flatten ++ r ++ s ++ T'.flatten := by simp
              rw [e]
              have okrs : ∀ x ∈ D.flatten ++ r ++ s ++ T'.flatten, ok x := by rw [← e]; exact okT
              refine (symAll hc ho (r.length + s.length) D.flatten r s T'.flatten S id ver D.flatten.length (D.flatten.length + bs) (D.flatten.length + 2 * bs) N (Nat.le_refl _) hid (fun x hx => hokw x (okrs x hx)) (fun x hx => okrs x (by simp [hx])) (fun x hx => okrs x (by simp [hx])) rfl (by omega) (by omega) (by rw [← e, List.length_append, hlen]; exact hN) (by omega) hr hs (by omega) (by omega) (ordR_two hoDT)).mono ?_
              rintro v S' ⟨rfl, M', h1, h3, rfl⟩
              have hl' := h1.length_eq
              simp only [List.length_append] at hl'
              refine ⟨(D ++ [M'], T'), ⟨?_, hT', fun x hx => ?_, ordR_merge hoDT h1⟩, by simp only [List.length_cons]; omega, ⟨by simp; omega, by simp; omega⟩, by simp⟩
              · refine List.Perm.trans ?_ hp
                rw [e]
                simp only [List.flatten_append, List.flatten_cons, List.flatten_nil, List.append_nil, List.append_assoc]
                refine List.Perm.append_left _ ?_
                rw [← List.append_assoc r]
                exact List.Perm.append_right _ h1
              · rcases List.mem_append.1 hx with hx | hx
                · exact hD x hx
                · simp only [List.mem_singleton] at hx
                  subst hx
                  exact ⟨h3, by omega⟩
            · have g : ¬ (((D.flatten.length + 2 * bs : Nat) : Int) ≤ N) := by omega
              rcases runs_less T (by omega) hT (by omega) with ⟨k1, k2⟩ | ⟨r, s, rfl, hr, hs, hrl, hsl⟩
              · have g2 : ¬ (((D.flatten.length + bs : Nat) : Int) < N) := by omega
                simp (disch := omega) only [g, ebs, g2, wrap_i64, ↓evPre, ↓evPreV, evPost, evPostV, evR, evU, seval]
                obtain ⟨R', hR', hoR', hRf⟩ : ∃ R', RunsOf lt (2 * bs) R' ∧ OrdR ord R' ∧ R'.flatten = D.flatten ++ T.flatten := by
                  by_cases h0 : T.flatten.length = 0
                  · rw [List.length_eq_zero_iff.1 h0]
                    exact ⟨D ++ [], runs_full (by omega) D [] hD trivial, by rw [List.append_nil]; exact (List.pairwise_append.1 hoDT).1, by simp⟩
                  · exact ⟨D ++ [T.flatten], runs_full (by omega) D [T.flatten] hD ⟨k2, by omega, by omega⟩, ordR_rest hoDT, by simp⟩
                exact ⟨(2 * bs, R'), ⟨by simp only; rw [hRf]; exact hp, hR', hoR', by simp only; omega, by simp only; omega⟩, by simp only; omega, by simp only; omega, by simp only; rw [hRf]⟩
              · simp only [List.flatten_cons, List.flatten_nil, List.append_nil, List.length_append] at hlen
                have g2 : (((D.flatten.length + bs : Nat) : Int) < N) := by omega
                simp (disch := omega) only [g, ebs, g2, wrap_i64, ↓evPre, ↓evPreV, evPost, evPostV, evR, evU, seval]
                have e : D.flatten ++ [r, s].flatten = D.flatten ++ r ++ s ++ [] := by simp
                rw [e]
                have okrs : ∀ x ∈ D.flatten ++ r ++ s ++ [], ok x := by rw [← e]; exact okT
                refine (symAll hc ho (r.length + s.length) D.flatten r s [] S id ver D.flatten.length (D.flatten.length + bs) N N (Nat.le_refl _) hid (fun x hx => hokw x (okrs x hx)) (fun x hx => okrs x (by simp [hx])) (fun x hx => okrs x (by simp [hx])) rfl (by omega) (by omega) (by simp only [List.length_append, List.length_nil]; omega) (by omega) hr hs (by omega) (by omega) (ordR_two hoDT)).mono ?_
                rintro v S' ⟨rfl, M', h1, h3, rfl⟩
                have hl' := h1.length_eq
                simp only [List.length_append] at hl'
                refine ⟨(2 * bs, D ++ [M']), ⟨?_, runs_full (by omega) D [M'] hD ⟨h3, by omega, by simp only [List.flatten_cons, List.flatten_nil, List.append_nil, List.length_append] at h2; omega⟩, by simpa using ordR_merge hoDT h1, by simp only; omega, by simp only; omega⟩, by simp only; omega, by simp only; omega, by simp⟩
                refine List.Perm.trans ?_ hp
                rw [e]
                simp only [List.flatten_append, List.flatten_cons, List.flatten_nil, List.append_nil, List.append_assoc]
                exact List.Perm.append_left _ h1
        · have g : ¬ ((bs : Int) < N) := by omega
          simp (disch := omega) only [g, wrap_i64, ↓evPre, ↓evPreV, evPost, evPostV, evR, evU, seval]
          exact ⟨R.flatten, hp, runs_one (by omega) R hR (by omega), rfl⟩
end Go.Proofs.YtjjdfkkfhbndiaaDoor.Ck
