/- A claim gets a seat: what a failure means. Plain. -/
import Derived.Test.YteeenlgoildmiaaDoorSeat4
namespace Go.Proofs.YteeenlgoildmiaaDoor
open Go Go.AL
set_option linter.unusedSimpArgs false
set_option linter.unusedVariables false

def St.tr (s : St) (i : Nat) : Bool := s.tried.getD i true
/-- After a failure. -/
structure Fail (fits : Nat → Int → Bool) (L : Nat) (s s' : St) : Prop where
  seat : s'.seat = s.seat
  claim : s'.claim = s.claim
  wf : s'.tried.length = s.tried.length
  more : ∀ i, s.tr i = true → s'.tr i = true
  closed : ∀ i, i < L → s'.tr i = true → s.tr i = false → 0 ≤ s.claim.getD i 0 ∧ ∀ k, k < L → fits k (s.claim.getD i 0) = true → s'.tr k = true
theorem Fail.refl {fits : Nat → Int → Bool} {L : Nat} {s : St} : Fail fits L s s := ⟨rfl, rfl, rfl, fun _ h => h, fun i _ h h' => by rw [h] at h'; cases h'⟩
theorem Fail.trans {fits : Nat → Int → Bool} {L : Nat} {s s1 s2 : St} (a : Fail fits L s s1) (b : Fail fits L s1 s2) : Fail fits L s s2 :=
  ⟨b.seat.trans a.seat, b.claim.trans a.claim, b.wf.trans a.wf, fun i h => b.more i (a.more i h), fun i hi h h' => by
    cases h1 : s1.tr i with
    | true =>
      have := a.closed i hi h1 h'
      exact ⟨this.1, fun k hk hf => b.more k (this.2 k hk hf)⟩
    | false =>
      have := b.closed i hi h h1
      rw [a.claim] at this
      exact this⟩
theorem tr_mark {s : St} {i k : Nat} (hi : i < s.tried.length) : (s.mark i).tr k = if k = i then true else s.tr k := by
  unfold St.tr St.mark
  simp only [List.getD_eq_getElem?_getD, List.getElem?_set]
  by_cases h : i = k
  · subst h; simp [hi]
  · have : ¬ k = i := fun e => h e.symm
    simp [h, this]

theorem scan_fail {C L : Nat} {fits : Nat → Int → Bool} {rec : Int → St → Bool × St} {c : Int} {n : Nat}
    (hkept : ∀ (d : Int) (s : St), 0 ≤ d → d < C → Wf C L s → Kept C L s (rec d s).2)
    (hrec : ∀ (d : Int) (s : St), 0 ≤ d → d < C → Wf C L s → free s < n → (rec d s).1 = false → Fail fits L s (rec d s).2 ∧ ∀ k, k < L → fits k d = true → (rec d s).2.tr k = true) :
    ∀ (is : List Nat), (∀ i ∈ is, i < L) → ∀ s, Wf C L s → free s < n + 1 → (scanF fits rec c is s).1 = false → Fail fits L s (scanF fits rec c is s).2 ∧ ∀ k ∈ is, fits k c = true → (scanF fits rec c is s).2.tr k = true
  | [], _, s, _, _, _ => ⟨.refl, fun k hk => by simp at hk⟩
  | i :: is, hi, s, h, hfr, hf => by
    have hil := hi i (List.mem_cons_self ..)
    have his := fun j hj => hi j (List.mem_cons_of_mem _ hj)
    rw [scanF] at hf ⊢
    split at hf
    · rename_i hcond
      rw [if_pos hcond]
      have ih := scan_fail hkept hrec is his s h hfr hf
      refine ⟨ih.1, fun k hk hfk => ?_⟩
      rcases List.mem_cons.1 hk with rfl | hk
      · rw [hfk] at hcond
        exact ih.1.more k (by simpa [St.tr] using hcond)
      · exact ih.2 k hk hfk
    · rename_i hcond
      rw [if_neg hcond]
      have ht := tried_at h hil
      have hfalse : s.tried.getD i true = false := by
        cases hb : s.tried.getD i true with
        | true => rw [hb] at hcond; simp at hcond
        | false => rfl
      rw [hfalse] at ht
      have hfm := free_mark ht
      have htl : i < s.tried.length := by rw [h.2.2.1]; exact hil
      split at hf
      · cases hf
      · rename_i hcl
        rw [if_neg hcl]
        obtain ⟨_, b1, b2⟩ := claim_at h hil
        have hk := hkept (s.claim.getD i 0) (s.mark i) (by omega) b2 (wf_mark h)
        have hr := hrec (s.claim.getD i 0) (s.mark i) (by omega) b2 (wf_mark h) (by omega)
        simp only at hf ⊢
        split at hf
        · cases hf
        · rename_i hr1
          rw [if_neg hr1]
          have hr := hr (by simpa using hr1)
          have ih := scan_fail hkept hrec is his _ hk.1 (by have := hk.2; omega) hf
          have hmk : Fail fits L s (rec (s.claim.getD i 0) (s.mark i)).2 := by
            refine ⟨hr.1.seat, hr.1.claim, by rw [hr.1.wf]; simp [St.mark], fun k hk => hr.1.more k (by rw [tr_mark htl]; split; rfl; exact hk), fun k hk h1 h2 => ?_⟩
            by_cases e : k = i
            · subst e
              exact ⟨by omega, hr.2⟩
            · have := hr.1.closed k hk h1 (by rw [tr_mark htl, if_neg e]; exact h2)
              exact this
          refine ⟨hmk.trans ih.1, fun k hk hfk => ?_⟩
          rcases List.mem_cons.1 hk with rfl | hk
          · exact ih.1.more _ (hr.1.more _ (by rw [tr_mark htl, if_pos rfl]))
          · exact ih.2 k hk hfk

theorem place_fail {C L : Nat} {fits : Nat → Int → Bool} : ∀ (n : Nat) (c : Int) (s : St), 0 ≤ c → c < C → Wf C L s → free s < n → (placeF fits L n c s).1 = false →
    Fail fits L s (placeF fits L n c s).2 ∧ ∀ k, k < L → fits k c = true → (placeF fits L n c s).2.tr k = true
  | 0, c, s, _, _, _, h, _ => by omega
  | n + 1, c, s, h0, h1, h, hfr, hf => by
    have := scan_fail (fits := fits) (n := n) (c := c) (fun d s hd0 hd1 hs => place_kept (fits := fits) n d s hd0 hd1 hs) (fun d s hd0 hd1 hs => place_fail n d s hd0 hd1 hs) (List.range L) (fun i hi => List.mem_range.1 hi) s h hfr hf
    exact ⟨this.1, fun k hk => this.2 k (List.mem_range.2 hk)⟩
end Go.Proofs.YteeenlgoildmiaaDoor
