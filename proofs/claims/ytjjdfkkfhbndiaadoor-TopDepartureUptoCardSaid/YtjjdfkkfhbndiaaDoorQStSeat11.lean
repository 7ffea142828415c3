/- A claim gets a seat: what a failure means. Plain. -/
import Derived.Test.YtjjdfkkfhbndiaaDoorQStSeat4
namespace Go.Proofs.YtjjdfkkfhbndiaaDoor.St
open Go Go.AL
set_option linter.unusedSectionVars false
variable [Go.AL.Mode] [Go.AL.LooseM]
set_option linter.unusedSimpArgs false
set_option linter.unusedVariables false
def St.tr (s : St) (i : Nat) : Bool := s.tried.getD i true
structure Fail (fits : Nat → Int → Bool) (L : Nat) (s s' : St) : Prop where
  seat : s'.seat = s.seat
  claim : s'.claim = s.claim
  wf : s'.tried.length = s.tried.length
  more : ∀ i, s.tr i = true → s'.tr i = true
  closed : ∀ i, i < L → s'.tr i = true → s.tr i = false → 0 ≤ s.claim.getD i 0 ∧ ∀ k, k < L → fits k (s.claim.getD i 0) = true → s'.tr k = true
theorem Fail.refl {fits : Nat → Int → Bool} {L : Nat} {s : St} : Fail fits L s s := ⟨rfl, rfl, rfl, fun _ h => h, fun i _ h h' => by rw [h] at h'; cases h'⟩
theorem Fail.trans {fits : Nat → Int → Bool} {L : Nat} {s s1 s2 : St} (a : Fail fits L s s1) (b : Fail fits L s1 s2) : Fail fits L s s2 :=
  ⟨b.seat.trans a.seat, b.claim.trans a.claim, b.wf.trans a.wf, fun i h => b.more i (a.more i h), fun i hi h h' => by
    cases h1 : s1.tr i with
    | true =>
      have := a.closed i hi h1 h'
      exact ⟨this.1, fun k hk hf => b.more k (this.2 k hk hf)⟩
    | false =>
      have := b.closed i hi h h1
      rw [a.claim] at this
      exact this⟩
theorem tr_mark {s : St} {i k : Nat} (hi : i < s.tried.length) : (s.mark i).tr k = if k = i then true else s.tr k := by
  unfold St.tr St.mark
  simp only [List.getD_eq_getElem?_getD, List.getElem?_set]
  by_cases h : i = k
  · subst h; simp [hi]
  · have : ¬ k = i := fun e => h e.symm
    simp [h, this]
theorem scan_fail {C L : Nat} {fits : Nat → Int → Bool} {rec : Int → St → Bool × St} {c : Int} {n : Nat}
    (hkept : ∀ (d : Int) (s : St), 0 ≤ d → d < C → Wf C L s → Kept C L s (rec d s).2)
    (hrec : ∀ (d : Int) (s : St), 0 ≤ d → d < C → Wf C L s → free s < n → (rec d s).1 = false → Fail fits L s (rec d s).2 ∧ ∀ k, k < L → fits k d = true → (rec d s).2.tr k = true) :
    ∀ (is : List Nat), (∀ i ∈ is, i < L) → ∀ s, Wf C L s → free s < n + 1 → (scanF fits rec c is s).1 = false → Fail fits L s (scanF fits rec c is s).2 ∧ ∀ k ∈ is, fits k c = true → (scanF fits rec c is s).2.tr k = true
  | [], _, s, _, _, _ => ⟨.refl, fun k hk => by simp at hk⟩
  | i :: is, hi, s, h, hfr, hf => by
    have hil := hi i (List.mem_cons_self ..)
    have his := fun j hj => hi j (List.mem_cons_of_mem _ hj)
    rw [scanF] at hf ⊢
    split at hf
    · rename_i hcond
      rw [if_pos hcond]
      have ih := scan_fail hkept hrec is his s h hfr hf
      refine ⟨ih.1, fun k hk hfk => ?_⟩
      rcases List.mem_cons.1 hk with rfl | hk
      · rw [hfk] at hcond
        exact ih.1.more k (by simpa [St.tr] using hcond)
      · exact ih.2 k hk hfk
    · rename_i hcond
      rw [if_neg hcond]
      have ht := tried_at h hil
      have hfalse : s.tried.getD i true = false := by
        cases hb : s.tried.getD i true with
        | true => rw [hb] at hcond; simp at hcond
        | false => rfl
      rw [hfalse] at ht
      have hfm := free_mark ht
      have htl : i < s.tried.length := by rw [h.2.2.1]; exact hil
      split at hf
      · cases hf
      · rename_i hcl
        rw [if_neg hcl]
        obtain ⟨_, b1, b2⟩ := claim_at h hil
        have hk := hkept (s.claim.getD i 0) (s.mark i) (by omega) b2 (wf_mark h)
        have hr := hrec (s.claim.getD i 0) (s.mark i) (by omega) b2 (wf_mark h) (by omega)
        simp only at hf ⊢
        split at hf
        · cases hf
        · rename_i hr1
          rw [if_neg hr1]
          have hr := hr (by simpa using hr1)
          have ih := scan_fail hkept hrec is his _ hk.1 (by have := hk.2; omega) hf
          have hmk : Fail fits L s (rec (s.claim.getD i 0) (s.mark i)).2 := by
            refine ⟨hr.1.seat, hr.1.claim, by rw [hr.1.wf]; simp [St.mark], fun k hk => hr.1.more k (by rw [tr_mark htl]; split; rfl; exact hk), fun k hk h1 h2 => ?_⟩
            by_cases e : k = i
            · subst e
              exact ⟨by omega, hr.2⟩
            · have := hr.1.closed k hk h1 (by rw [tr_mark htl, if_neg e]; exact h2)
              exact this
          refine ⟨hmk.trans ih.1, fun k hk hfk => ?_⟩
          rcases List.mem_cons.1 hk with rfl | hk
          · exact ih.1.more _ (hr.1.more _ (by rw [tr_mark htl, if_pos rfl]))
          · exact ih.2 k hk hfk
theorem place_fail {C L : Nat} {fits : Nat → Int → Bool} : ∀ (n : Nat) (c : Int) (s : St), 0 ≤ c → c < C → Wf C L s → free s < n → (placeF fits L n c s).1 = false →
    Fail fits L s (placeF fits L n c s).2 ∧ ∀ k, k < L → fits k c = true → (placeF fits L n c s).2.tr k = true
  | 0, c, s, _, _, _, h, _ => by omega
  | n + 1, c, s, h0, h1, h, hfr, hf => by
    have := scan_fail (fits := fits) (n := n) (c := c) (fun d s hd0 hd1 hs => place_kept (fits := fits) n d s hd0 hd1 hs) (fun d s hd0 hd1 hs => place_fail n d s hd0 hd1 hs) (List.range L) (fun i hi => List.mem_range.1 hi) s h hfr hf
    exact ⟨this.1, fun k hk => this.2 k (List.mem_range.2 hk)⟩
end Go.Proofs.YtjjdfkkfhbndiaaDoor.St
/- A claim gets a seat: what a success means; the invariant of assignments. Plain. -/
namespace Go.Proofs.YtjjdfkkfhbndiaaDoor.St
open Go Go.AL
set_option linter.unusedSectionVars false
variable [Go.AL.Mode] [Go.AL.LooseM]
set_option linter.unusedSimpArgs false
set_option linter.unusedVariables false
def St.sm (s : St) (x : Nat) : Int := s.seat.getD x 0
def St.cm (s : St) (i : Nat) : Int := s.claim.getD i 0
theorem sm_mark {s : St} {i x : Nat} : (s.mark i).sm x = s.sm x := rfl
theorem sm_put {s : St} {i c x : Nat} (h : c < s.seat.length) : (s.put i c).sm x = if x = c then (i : Int) else s.sm x := by
  unfold St.sm St.put
  simp only [List.getD_eq_getElem?_getD, List.getElem?_set, Int.toNat_natCast]
  by_cases e : c = x
  · subst e; simp [h]
  · have : ¬ x = c := fun e' => e e'.symm
    simp [e, this]
theorem cm_put {s : St} {i c x : Nat} (h : i < s.claim.length) : (s.put i c).cm x = if x = i then (c : Int) else s.cm x := by
  unfold St.cm St.put
  simp only [List.getD_eq_getElem?_getD, List.getElem?_set]
  by_cases e : i = x
  · subst e; simp [h]
  · have : ¬ x = i := fun e' => e e'.symm
    simp [e, this]
structure Mat (fits : Nat → Int → Bool) (C L : Nat) (s : St) : Prop where
  slen : s.seat.length = C
  clen : s.claim.length = L
  seat : ∀ x, x < C → s.sm x = -1 ∨ ∃ i : Nat, i < L ∧ s.sm x = i ∧ s.cm i = x ∧ fits i x = true
  claim : ∀ i, i < L → s.cm i = -1 ∨ ∃ x : Nat, x < C ∧ s.cm i = x ∧ s.sm x = i
structure Suc (fits : Nat → Int → Bool) (C L : Nat) (c : Nat) (s s' : St) : Prop where
  slen : s'.seat.length = C
  clen : s'.claim.length = L
  got : ∃ j : Nat, j < L ∧ s.tr j = false ∧ s'.sm c = j ∧ s'.cm j = c ∧ fits j c = true
  others : ∀ x, x < C → x ≠ c → (s.sm x = -1 ∧ s'.sm x = -1) ∨ (0 ≤ s.sm x ∧ ∃ i : Nat, i < L ∧ s'.sm x = i ∧ s'.cm i = x ∧ fits i x = true)
  tried : ∀ i, i < L → s.tr i = true → s'.cm i = s.cm i
  back : ∀ i, i < L → s'.cm i = -1 ∨ (∃ x : Nat, x < C ∧ s'.cm i = x ∧ (s'.sm x = i ∨ (x = c ∧ s.sm c = i)))
def Old (L : Nat) (c : Nat) (s : St) : Prop := s.sm c = -1 ∨ ∃ i0 : Nat, i0 < L ∧ s.sm c = i0 ∧ s.tr i0 = true
theorem mat_same {fits : Nat → Int → Bool} {C L : Nat} {s s' : St} (h : Mat fits C L s) (h1 : s'.seat = s.seat) (h2 : s'.claim = s.claim) : Mat fits C L s' := by
  have e1 : ∀ x, s'.sm x = s.sm x := fun x => by unfold St.sm; rw [h1]
  have e2 : ∀ x, s'.cm x = s.cm x := fun x => by unfold St.cm; rw [h2]
  refine ⟨by rw [h1]; exact h.slen, by rw [h2]; exact h.clen, fun x hx => ?_, fun i hi => ?_⟩
  · simp only [e1, e2]; exact h.seat x hx
  · simp only [e1, e2]; exact h.claim i hi
theorem suc_after {fits : Nat → Int → Bool} {C L : Nat} {c : Nat} {s s1 s' : St} (h1 : s1.seat = s.seat) (h2 : s1.claim = s.claim) (h3 : ∀ i, s.tr i = true → s1.tr i = true) (h : Suc fits C L c s1 s') : Suc fits C L c s s' := by
  have e1 : ∀ x, s1.sm x = s.sm x := fun x => by unfold St.sm; rw [h1]
  have e2 : ∀ x, s1.cm x = s.cm x := fun x => by unfold St.cm; rw [h2]
  refine ⟨h.slen, h.clen, ?_, fun x hx hc => by rw [← e1]; exact h.others x hx hc, fun i hi ht => by rw [← e2]; exact h.tried i hi (h3 i ht), fun i hi => by rw [← e1]; exact h.back i hi⟩
  obtain ⟨j, a, b, d⟩ := h.got
  refine ⟨j, a, ?_, d⟩
  cases hs : s.tr j with
  | false => rfl
  | true => rw [h3 j hs] at b; cases b
theorem suc_free {fits : Nat → Int → Bool} {C L : Nat} {c i : Nat} {s : St} (hm : Mat fits C L s) (hc : c < C) (hi : i < L) (ht : s.tr i = false) (hf : fits i c = true) (hn : s.cm i < 0) : Suc fits C L c s ((s.mark i).put i c) := by
  have p1 : ∀ x, ((s.mark i).put i c).sm x = if x = c then (i : Int) else s.sm x := fun x => sm_put (by show c < s.seat.length; rw [hm.slen]; exact hc)
  have p2 : ∀ x, ((s.mark i).put i c).cm x = if x = i then (c : Int) else s.cm x := fun x => cm_put (by show i < s.claim.length; rw [hm.clen]; exact hi)
  refine ⟨by simp [St.put, St.mark, hm.slen], by simp [St.put, St.mark, hm.clen], ⟨i, hi, ht, by rw [p1, if_pos rfl], by rw [p2, if_pos rfl], hf⟩, fun x hx hxc => ?_, fun k hk htk => ?_, fun k hk => ?_⟩
  · rw [p1, if_neg hxc]
    rcases hm.seat x hx with h | ⟨k, h1, h2, h3, h4⟩
    · exact .inl ⟨h, h⟩
    · refine .inr ⟨by omega, k, h1, h2, ?_, h4⟩
      rw [p2, if_neg]
      · exact h3
      · rintro rfl; omega
  · rw [p2, if_neg]
    rintro rfl
    rw [ht] at htk; cases htk
  · rw [p2]
    by_cases e : k = i
    · subst e
      rw [if_pos rfl]
      exact .inr ⟨c, hc, rfl, .inl (by rw [p1, if_pos rfl])⟩
    · rw [if_neg e]
      rcases hm.claim k hk with h | ⟨y, h1, h2, h3⟩
      · exact .inl h
      · refine .inr ⟨y, h1, h2, ?_⟩
        by_cases ey : y = c
        · subst ey; exact .inr ⟨rfl, h3⟩
        · rw [p1, if_neg ey]; exact .inl h3
theorem suc_move {fits : Nat → Int → Bool} {C L : Nat} {c d i : Nat} {s r : St} (hm : Mat fits C L s) (ho : Old L c s) (htl : s.tried.length = L) (hc : c < C) (hd : d < C) (hi : i < L) (ht : s.tr i = false) (hf : fits i c = true) (hcd : s.cm i = d)
    (h : Suc fits C L d (s.mark i) r) : Suc fits C L c s (r.put i c) := by
  have p1 : ∀ x, (r.put i c).sm x = if x = c then (i : Int) else r.sm x := fun x => sm_put (by rw [h.slen]; exact hc)
  have p2 : ∀ x, (r.put i c).cm x = if x = i then (c : Int) else r.cm x := fun x => cm_put (by rw [h.clen]; exact hi)
  have hsd : s.sm d = i := by
    rcases hm.claim i hi with h | ⟨y, h1, h2, h3⟩
    · omega
    · have : y = d := by omega
      subst this; exact h3
  have htm : ∀ k, (s.mark i).tr k = if k = i then true else s.tr k := fun k => tr_mark (by omega)
  have hcd' : c ≠ d := by
    rintro rfl
    rcases ho with h | ⟨i0, h1, h2, h3⟩
    · omega
    · have : i0 = i := by omega
      subst this
      rw [ht] at h3; cases h3
  have hri : r.cm i = d := by rw [h.tried i hi (by rw [htm, if_pos rfl])]; exact hcd
  obtain ⟨j, j1, j2, j3, j4, j5⟩ := h.got
  have hji : j ≠ i := by
    rintro rfl
    rw [htm, if_pos rfl] at j2; cases j2
  rw [htm, if_neg hji] at j2
  have hcr : r.sm c = s.sm c := by
    rcases h.others c hc hcd' with ⟨a, b⟩ | ⟨a, k, b1, b2, b3, b4⟩
    · rw [b]; exact a.symm
    · rcases ho with h0 | ⟨i0, h1, h2, h3⟩
      · rw [sm_mark] at a; omega
      · have hi0 : i0 ≠ i := by rintro rfl; rw [ht] at h3; cases h3
        have e0 : r.cm i0 = s.cm i0 := h.tried i0 h1 (by rw [htm, if_neg hi0]; exact h3)
        have e1 : s.cm i0 = c := by
          rcases hm.seat c hc with h | ⟨k', k1, k2, k3, k4⟩
          · omega
          · have : k' = i0 := by omega
            subst this; exact k3
        rcases h.back i0 h1 with hb | ⟨x, x1, x2, x3⟩
        · omega
        · have : x = c := by omega
          subst this
          rcases x3 with x3 | ⟨x3, _⟩
          · omega
          · exact absurd x3 hcd'
  refine ⟨by simp [St.put, h.slen], by simp [St.put, h.clen], ⟨i, hi, ht, by rw [p1, if_pos rfl], by rw [p2, if_pos rfl], hf⟩, fun x hx hxc => ?_, fun k hk htk => ?_, fun k hk => ?_⟩
  · rw [p1, if_neg hxc]
    by_cases hxd : x = d
    · subst hxd
      exact .inr ⟨by omega, j, j1, j3, by rw [p2, if_neg hji]; exact j4, j5⟩
    · rcases h.others x hx hxd with ⟨a, b⟩ | ⟨a, k, b1, b2, b3, b4⟩
      · exact .inl ⟨a, b⟩
      · refine .inr ⟨a, k, b1, b2, ?_, b4⟩
        rw [p2, if_neg]
        · exact b3
        · rintro rfl; omega
  · have hki : k ≠ i := by rintro rfl; rw [ht] at htk; cases htk
    rw [p2, if_neg hki]
    exact h.tried k hk (by rw [htm, if_neg hki]; exact htk)
  · rw [p2]
    by_cases e : k = i
    · subst e
      rw [if_pos rfl]
      exact .inr ⟨c, hc, rfl, .inl (by rw [p1, if_pos rfl])⟩
    · rw [if_neg e]
      rcases h.back k hk with hb | ⟨y, y1, y2, y3⟩
      · exact .inl hb
      · refine .inr ⟨y, y1, y2, ?_⟩
        have y3' : r.sm y = k := by
          rcases y3 with y3 | ⟨y3, y4⟩
          · exact y3
          · subst y3
            rw [sm_mark, hsd] at y4
            omega
        by_cases ey : y = c
        · subst ey
          exact .inr ⟨rfl, by rw [← hcr]; exact y3'⟩
        · rw [p1, if_neg ey]; exact .inl y3'
theorem mat_wf {fits : Nat → Int → Bool} {C L : Nat} {s : St} (h : Mat fits C L s) (ht : s.tried.length = L) : Wf C L s := by
  refine ⟨h.slen, h.clen, ht, fun x hx => ?_⟩
  obtain ⟨i, hi, rfl⟩ := List.getElem_of_mem hx
  have hg : s.cm i = s.claim[i] := by unfold St.cm; rw [List.getD_eq_getElem?_getD, List.getElem?_eq_getElem hi]; rfl
  rw [← hg]
  rcases h.claim i (by rw [← h.clen]; exact hi) with h | ⟨y, h1, h2, h3⟩ <;> omega
theorem scan_suc {C L : Nat} {fits : Nat → Int → Bool} {rec : Int → St → Bool × St} {c : Nat} {n : Nat} (hc : c < C)
    (hkept : ∀ (d : Int) (s : St), 0 ≤ d → d < C → Wf C L s → Kept C L s (rec d s).2)
    (hfail : ∀ (d : Int) (s : St), 0 ≤ d → d < C → Wf C L s → free s < n → (rec d s).1 = false → Fail fits L s (rec d s).2)
    (hrec : ∀ (d : Nat) (s : St), d < C → Mat fits C L s → s.tried.length = L → Old L d s → free s < n → (rec d s).1 = true → Suc fits C L d s (rec d s).2) :
    ∀ (is : List Nat), (∀ i ∈ is, i < L) → ∀ s, Mat fits C L s → s.tried.length = L → Old L c s → free s < n + 1 → (scanF fits rec c is s).1 = true → Suc fits C L c s (scanF fits rec c is s).2
  | [], _, s, _, _, _, _, h => by cases h
  | i :: is, hi, s, hm, htl, ho, hfr, hs => by
    have hil := hi i (List.mem_cons_self ..)
    have his := fun j hj => hi j (List.mem_cons_of_mem _ hj)
    have hw := mat_wf hm htl
    rw [scanF] at hs ⊢
    split at hs
    · rename_i hcond
      rw [if_pos hcond]
      exact scan_suc hc hkept hfail hrec is his s hm htl ho hfr hs
    · rename_i hcond
      rw [if_neg hcond]
      have ht := tried_at hw hil
      have hfalse : s.tried.getD i true = false := by
        cases hb : s.tried.getD i true with
        | true => rw [hb] at hcond; simp at hcond
        | false => rfl
      have hfit : fits i c = true := by
        cases hb : fits i c with
        | false => rw [hb] at hcond; simp at hcond
        | true => rfl
      rw [hfalse] at ht
      have hfm := free_mark ht
      split at hs
      · rename_i hcl
        rw [if_pos hcl]
        exact suc_free hm hc hil hfalse hfit hcl
      · rename_i hcl
        rw [if_neg hcl]
        obtain ⟨_, b1, b2⟩ := claim_at hw hil
        obtain ⟨d, hd⟩ : ∃ d : Nat, s.claim.getD i 0 = d := ⟨(s.claim.getD i 0).toNat, by omega⟩
        have hdC : d < C := by omega
        have hmm : Mat fits C L (s.mark i) := mat_same hm rfl rfl
        have hk := hkept (s.claim.getD i 0) (s.mark i) (by omega) b2 (wf_mark hw)
        have hfl := hfail (s.claim.getD i 0) (s.mark i) (by omega) b2 (wf_mark hw) (by omega)
        have hmi : (s.mark i).tr i = true := by rw [tr_mark (by omega), if_pos rfl]
        have hsd : s.sm d = i := by
          rcases hm.claim i hil with h | ⟨y, h1, h2, h3⟩
          · unfold St.cm at h; omega
          · have : y = d := by unfold St.cm at h2; omega
            subst this; exact h3
        have hr := hrec d (s.mark i) hdC hmm (by simp [St.mark, htl]) (.inr ⟨i, hil, hsd, hmi⟩) (by omega)
        rw [hd] at hk hfl hs ⊢
        simp only at hs ⊢
        split at hs
        · rename_i hr1
          rw [if_pos hr1]
          exact suc_move hm ho htl hc hdC hil hfalse hfit hd (hr hr1)
        · rename_i hr1
          rw [if_neg hr1]
          have hfl := hfl (by simpa using hr1)
          have hmore : ∀ k, s.tr k = true → (rec d (s.mark i)).2.tr k = true := fun k hk => hfl.more k (by rw [tr_mark (by omega)]; split; rfl; exact hk)
          have e1 : ∀ x, (rec (d : Int) (s.mark i)).2.sm x = s.sm x := fun x => by unfold St.sm; rw [hfl.seat]; rfl
          refine suc_after (s1 := (rec (d : Int) (s.mark i)).2) (by rw [hfl.seat]; rfl) (by rw [hfl.claim]; rfl) hmore (scan_suc hc hkept hfail hrec is his _ (mat_same hmm hfl.seat hfl.claim) hk.1.2.2.1 ?_ (by have := hk.2; omega) hs)
          rcases ho with h | ⟨i0, h1, h2, h3⟩
          · exact .inl (by rw [e1]; exact h)
          · exact .inr ⟨i0, h1, by rw [e1]; exact h2, hmore i0 h3⟩
theorem place_suc {C L : Nat} {fits : Nat → Int → Bool} : ∀ (n : Nat) (c : Nat) (s : St), c < C → Mat fits C L s → s.tried.length = L → Old L c s → free s < n → (placeF fits L n c s).1 = true → Suc fits C L c s (placeF fits L n c s).2
  | 0, c, s, _, _, _, _, _, h => by cases h
  | n + 1, c, s, h0, h1, h2, h3, h4, h5 =>
    scan_suc (n := n) h0 (fun d s hd0 hd1 hs => place_kept n d s hd0 hd1 hs) (fun d s hd0 hd1 hs hfr hf => (place_fail n d s hd0 hd1 hs hfr hf).1) (fun d s hd hm htl ho hfr hs => place_suc n d s hd hm htl ho hfr hs) (List.range L) (fun i hi => List.mem_range.1 hi) s h1 h2 h3 h4 h5
end Go.Proofs.YtjjdfkkfhbndiaaDoor.St
