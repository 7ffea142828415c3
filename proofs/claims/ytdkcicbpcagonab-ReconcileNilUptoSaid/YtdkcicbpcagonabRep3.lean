/- What a repair does, plainly. -/
import Derived.Test.YtdkcicbpcagonabRep2
import Derived.Test.YtdkcicbpcagonabRecK
namespace Go.Proofs.Ytdkcicbpcagonab
open Go Go.AL
set_option linter.unusedSimpArgs false
set_option linter.unusedVariables false

/-- Offered states of which each is known as it is or newer. -/
def Offer (M : Mi) (l : List St) : Prop := ∀ x ∈ l, okS x ∧ (gR M x = some x ∨ ∀ y, gR M x = some y → y.v < x.v)
theorem find_snoc_none {l : List St} {x : St} (h : Apart (l ++ [x])) {w : St} (hs : sameS w x = true) : l.find? (sameS w) = none := by
  rw [List.find?_eq_none]
  intro y hy hy2
  unfold Apart at h
  rw [List.pairwise_append] at h
  have h1 := h.2.2 y hy x (by simp)
  rw [same_sym] at h1
  have h2 := same_tr (by rw [same_sym]; exact hs) hy2
  rw [h2] at h1; cases h1
theorem rcv_gR {M : Mi} : ∀ {l : List St}, Apart l → Offer M l → ∀ w, gR (rcv M l).1 w = (l.find? (sameS w)).or (gR M w) := by
  intro l
  generalize hn : l.length = n
  induction n generalizing l with
  | zero => intro _ _ w; rw [List.length_eq_zero_iff.1 hn]; rfl
  | succ n ih =>
    intro ha ho w
    have hne : l ≠ [] := fun h => by rw [h] at hn; cases hn
    obtain ⟨l', x, rfl⟩ : ∃ l' x, l = l' ++ [x] := ⟨l.dropLast, l.getLast hne, (List.dropLast_concat_getLast hne).symm⟩
    have ha' : Apart l' := ha.sublist (List.sublist_append_left _ _)
    have ih := ih (by simpa using hn) ha' fun y hy => ho y (List.mem_append_left _ hy)
    have hx := ho x (by simp)
    have h0 := find_snoc_none ha (same_self x)
    have hgx : gR (rcv M l').1 x = gR M x := by rw [ih, h0, Option.none_or]
    rw [rcv_snoc, List.find?_append]
    by_cases hsm : gR M x = some x
    · rw [rc1_same (by rw [hgx]; exact hsm), ih]
      cases hs : sameS w x with
      | true => rw [find_snoc_none ha hs, gR_same hs, hsm]; simp [hs]
      | false => simp [hs]
    · rw [rc1_put (by rw [hgx]; exact hsm)]
      have hlt : ∀ y, gR M x = some y → y.v < x.v := hx.2.resolve_left hsm
      rw [putF_ok hx.1 (by rw [hgx]; exact hlt)]
      show gR (recM _ x) w = _
      rw [gR_rec, ih]
      cases hs : sameS w x with
      | true => rw [find_snoc_none ha hs]; simp [hs]
      | false => simp [hs]
theorem rcv_known {M : Mi} {l : List St} (h : ∀ x ∈ l, gR M x = some x) : rcv M l = (M, 0) := by
  generalize hn : l.length = n
  induction n generalizing l with
  | zero => rw [List.length_eq_zero_iff.1 hn]; rfl
  | succ n ih =>
    have hne : l ≠ [] := fun h => by rw [h] at hn; cases hn
    obtain ⟨l', x, rfl⟩ : ∃ l' x, l = l' ++ [x] := ⟨l.dropLast, l.getLast hne, (List.dropLast_concat_getLast hne).symm⟩
    rw [rcv_snoc, ih (fun y hy => h y (List.mem_append_left _ hy)) (by simpa using hn)]
    exact rc1_same (h x (by simp))
theorem mrg_ok {p q : St} (hp : okS p) (hq : okS q) : okS (mrgS p q) := by
  obtain ⟨p1, p2, p3⟩ := hp
  obtain ⟨q1, q2, q3⟩ := hq
  unfold mrgS
  split
  · exact ⟨p1, p2, p3⟩
  · split
    · exact ⟨q1, q2, q3⟩
    · exact ⟨by simp only; omega, by simp only; omega, by simp only; omega⟩
theorem mrg_l (p q : St) : mrgS p q = p ∨ p.v < (mrgS p q).v := by
  unfold mrgS
  split
  · exact .inl rfl
  · split
    · next h => exact .inr h
    · exact .inr (by simp only; omega)
theorem mrg_r (p q : St) : mrgS p q = q ∨ q.v < (mrgS p q).v := by
  unfold mrgS
  split
  · next h =>
    rcases h with h | h
    · exact .inr h
    · exact .inl h
  · split
    · exact .inl rfl
    · exact .inr (by simp only; omega)
theorem gR_ok {M : Mi} (h : Valid M) {w y : St} (hy : gR M w = some y) : okS y := by
  obtain ⟨r, hr, rfl, _⟩ := gR_row hy
  exact h r hr

/-- Two mirrors, what they know, and that merged. -/
structure Mrg (M1 M2 : Mi) (d1 d2 d : List St) : Prop where
  a1 : isAll M1 d1
  a2 : isAll M2 d2
  asc : Asc d
  find : ∀ w, d.find? (sameS w) = mF d1 d2 w
section
variable {M1 M2 : Mi} {d1 d2 d : List St}
theorem Mrg.join (h : Mrg M1 M2 d1 d2 d) (w : St) : d.find? (sameS w) = joinF (gR M1 w) (gR M2 w) := by rw [h.find, mF, isAll_find h.a1, isAll_find h.a2]
theorem Mrg.mem (h : Mrg M1 M2 d1 d2 d) {x : St} (hx : x ∈ d) : joinF (gR M1 x) (gR M2 x) = some x := by rw [← h.join]; exact h.asc.apart.mem_find hx
theorem Mrg.ok (h : Mrg M1 M2 d1 d2 d) (v1 : Valid M1) (v2 : Valid M2) {x : St} (hx : x ∈ d) : okS x := by
  have hm := h.mem hx
  cases h1 : gR M1 x with
  | none =>
    rw [h1] at hm
    have hm : gR M2 x = some x := hm
    exact gR_ok v2 hm
  | some p =>
    cases h2 : gR M2 x with
    | none => rw [h1, h2] at hm; cases hm; exact gR_ok v1 h1
    | some q => rw [h1, h2] at hm; simp only [joinF, Option.some.injEq] at hm; rw [← hm]; exact mrg_ok (gR_ok v1 h1) (gR_ok v2 h2)
theorem Mrg.o1 (h : Mrg M1 M2 d1 d2 d) (v1 : Valid M1) (v2 : Valid M2) : Offer M1 d := fun x hx => by
  refine ⟨h.ok v1 v2 hx, ?_⟩
  have hm := h.mem hx
  cases h1 : gR M1 x with
  | none => exact .inr fun y hy => by cases hy
  | some p =>
    cases h2 : gR M2 x with
    | none => rw [h1, h2] at hm; cases hm; exact .inl rfl
    | some q =>
      rw [h1, h2] at hm
      simp only [joinF, Option.some.injEq] at hm
      rcases mrg_l p q with e | e
      · exact .inl (by rw [← e, hm])
      · exact .inr fun y hy => by cases hy; rw [hm] at e; exact e
theorem Mrg.o2 (h : Mrg M1 M2 d1 d2 d) (v1 : Valid M1) (v2 : Valid M2) : Offer M2 d := fun x hx => by
  refine ⟨h.ok v1 v2 hx, ?_⟩
  have hm := h.mem hx
  cases h2 : gR M2 x with
  | none => exact .inr fun y hy => by cases hy
  | some q =>
    cases h1 : gR M1 x with
    | none => rw [h1, h2] at hm; exact .inl hm
    | some p =>
      rw [h1, h2] at hm
      simp only [joinF, Option.some.injEq] at hm
      rcases mrg_r p q with e | e
      · exact .inl (by rw [← e, hm])
      · exact .inr fun y hy => by cases hy; rw [hm] at e; exact e
theorem Mrg.fin1 (h : Mrg M1 M2 d1 d2 d) (v1 : Valid M1) (v2 : Valid M2) (w : St) : gR (rcv M1 d).1 w = d.find? (sameS w) := by
  rw [rcv_gR h.asc.apart (h.o1 v1 v2), h.join]
  cases h1 : gR M1 w with
  | none => simp
  | some p => cases h2 : gR M2 w <;> rfl
theorem Mrg.fin2 (h : Mrg M1 M2 d1 d2 d) (v1 : Valid M1) (v2 : Valid M2) (w : St) : gR (rcv M2 d).1 w = d.find? (sameS w) := by
  rw [rcv_gR h.asc.apart (h.o2 v1 v2), h.join]
  cases h2 : gR M2 w with
  | none => simp
  | some q => cases h1 : gR M1 w <;> rfl
theorem Mrg.all1 (h : Mrg M1 M2 d1 d2 d) (w1 : WF M1) (v1 : Valid M1) (v2 : Valid M2) : isAll (rcv M1 d).1 d :=
  ⟨h.asc, h.asc.apart.permF (rcv_W w1 d).apartL fun w => by rw [← gR_find, h.fin1 v1 v2]⟩
theorem Mrg.all2 (h : Mrg M1 M2 d1 d2 d) (w2 : WF M2) (v1 : Valid M1) (v2 : Valid M2) : isAll (rcv M2 d).1 d :=
  ⟨h.asc, h.asc.apart.permF (rcv_W w2 d).apartL fun w => by rw [← gR_find, h.fin2 v1 v2]⟩
theorem joinF_self (o : Option St) : joinF o o = o := by
  cases o with
  | none => rfl
  | some p => simp [joinF, mrgS]
theorem Mrg.again (h : Mrg M1 M2 d1 d2 d) (w1 : WF M1) (w2 : WF M2) (v1 : Valid M1) (v2 : Valid M2) : Mrg (rcv M1 d).1 (rcv M2 d).1 d d d :=
  ⟨h.all1 w1 v1 v2, h.all2 w2 v1 v2, h.asc, fun w => by rw [mF, joinF_self]⟩
theorem Mrg.rest1 (h : Mrg M1 M2 d1 d2 d) (v1 : Valid M1) (v2 : Valid M2) : rcv (rcv M1 d).1 d = ((rcv M1 d).1, 0) := rcv_known fun x hx => by rw [h.fin1 v1 v2]; exact h.asc.apart.mem_find hx
theorem Mrg.rest2 (h : Mrg M1 M2 d1 d2 d) (v1 : Valid M1) (v2 : Valid M2) : rcv (rcv M2 d).1 d = ((rcv M2 d).1, 0) := rcv_known fun x hx => by rw [h.fin2 v1 v2]; exact h.asc.apart.mem_find hx
/-- No version goes back. -/
theorem Mrg.newer (h : Mrg M1 M2 d1 d2 d) (w1 : WF M1) (v1 : Valid M1) (v2 : Valid M2) {y : St} (hy : y ∈ d1) : ∃ z, getF (rcv M1 d).1 y.t y.c = (z, true) ∧ y.v ≤ z.v := by
  have h1 : gR M1 y = some y := by rw [← isAll_find h.a1]; exact h.a1.1.apart.mem_find hy
  have h2 := h.fin1 v1 v2 y
  rw [h.join, h1] at h2
  cases h3 : gR M2 y with
  | none => rw [h3] at h2; exact ⟨y, getF_some h2, Int.le_refl _⟩
  | some q =>
    rw [h3] at h2
    refine ⟨_, getF_some h2, ?_⟩
    rcases mrg_l y q with e | e
    · rw [e]; exact Int.le_refl _
    · omega
end
theorem allF_vOk {l : List St} {B : Int} {M : Mi} {d : List St} (h : isAll M d) (hl : vOk B l) (hm : ∀ r ∈ M.R, r.1 ∈ l) : vOk B d := fun x hx => by
  obtain ⟨r, hr, rfl⟩ := List.mem_map.1 (h.2.subset hx)
  exact hl _ (hm r hr)
end Go.Proofs.Ytdkcicbpcagonab
