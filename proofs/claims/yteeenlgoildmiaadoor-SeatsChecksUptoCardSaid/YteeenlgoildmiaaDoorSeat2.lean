/- A claim gets a seat, others may move: plain. -/
import Derived.Test.YteeenlgoildmiaaDoorSeat1
namespace Go.Proofs.YteeenlgoildmiaaDoor
open Go Go.AL
set_option linter.unusedSimpArgs false
set_option linter.unusedVariables false

structure St where
  seat : List Int
  claim : List Int
  tried : List Bool
def St.mark (s : St) (i : Nat) : St := { s with tried := s.tried.set i true }
def St.put (s : St) (i : Nat) (c : Int) : St := { s with claim := s.claim.set i c, seat := s.seat.set c.toNat i }

def scanF (fits : Nat → Int → Bool) (rec : Int → St → Bool × St) (c : Int) : List Nat → St → Bool × St
  | [], s => (false, s)
  | i :: is, s =>
    if s.tried.getD i true || !fits i c then scanF fits rec c is s
    else if s.claim.getD i 0 < 0 then (true, (s.mark i).put i c)
    else
      let r := rec (s.claim.getD i 0) (s.mark i)
      if r.1 then (true, r.2.put i c) else scanF fits rec c is r.2
def placeF (fits : Nat → Int → Bool) (L : Nat) : Nat → Int → St → Bool × St
  | 0, _, s => (false, s)
  | n + 1, c, s => scanF fits (placeF fits L n) c (List.range L) s

def free (s : St) : Nat := (s.tried.filter (!·)).length
def Wf (C L : Nat) (s : St) : Prop := s.seat.length = C ∧ s.claim.length = L ∧ s.tried.length = L ∧ ∀ x ∈ s.claim, -1 ≤ x ∧ x < C

theorem free_mark {s : St} {i : Nat} (h : s.tried[i]? = some false) : free (s.mark i) < free s := by
  unfold free St.mark
  simp only
  generalize s.tried = l at h
  induction l generalizing i with
  | nil => simp at h
  | cons b l ih =>
    cases i with
    | zero =>
      simp at h
      subst h
      simp
    | succ i =>
      have := ih (i := i) (by simpa using h)
      rw [List.set_cons_succ, List.filter_cons, List.filter_cons]
      split <;> (try simp only [List.length_cons]) <;> omega

theorem wf_mark {C L : Nat} {s : St} {i : Nat} (h : Wf C L s) : Wf C L (s.mark i) := ⟨h.1, h.2.1, by simp [St.mark, h.2.2.1], h.2.2.2⟩
theorem wf_put {C L : Nat} {s : St} {i : Nat} {c : Int} (h : Wf C L s) (h0 : 0 ≤ c) (h1 : c < C) : Wf C L (s.put i c) := by
  refine ⟨by simp [St.put, h.1], by simp [St.put, h.2.1], h.2.2.1, fun x hx => ?_⟩
  simp only [St.put] at hx
  rcases List.mem_or_eq_of_mem_set hx with hx | rfl
  · exact h.2.2.2 x hx
  · omega

theorem claim_at {C L : Nat} {s : St} {i : Nat} (h : Wf C L s) (hi : i < L) : s.claim[i]? = some (s.claim.getD i 0) ∧ -1 ≤ s.claim.getD i 0 ∧ s.claim.getD i 0 < C := by
  have hl : i < s.claim.length := by rw [h.2.1]; exact hi
  have e : s.claim[i]? = some s.claim[i] := List.getElem?_eq_getElem hl
  rw [List.getD_eq_getElem?_getD, e]
  exact ⟨rfl, h.2.2.2 _ (List.getElem_mem hl)⟩
theorem tried_at {C L : Nat} {s : St} {i : Nat} (h : Wf C L s) (hi : i < L) : s.tried[i]? = some (s.tried.getD i true) := by
  have hl : i < s.tried.length := by rw [h.2.2.1]; exact hi
  rw [List.getD_eq_getElem?_getD, List.getElem?_eq_getElem hl]; rfl

/-- What is kept. -/
def Kept (C L : Nat) (s s' : St) : Prop := Wf C L s' ∧ free s' ≤ free s
theorem scan_kept {C L : Nat} {fits : Nat → Int → Bool} {rec : Int → St → Bool × St} {c : Int} (hc0 : 0 ≤ c) (hc1 : c < C) (hrec : ∀ (d : Int) (s : St), 0 ≤ d → d < C → Wf C L s → Kept C L s (rec d s).2) : ∀ (is : List Nat), (∀ i ∈ is, i < L) → ∀ s, Wf C L s → Kept C L s (scanF fits rec c is s).2
  | [], _, s, h => ⟨h, Nat.le_refl _⟩
  | i :: is, hi, s, h => by
    have hil := hi i (List.mem_cons_self ..)
    have his := fun j hj => hi j (List.mem_cons_of_mem _ hj)
    rw [scanF]
    split
    · exact scan_kept hc0 hc1 hrec is his s h
    · rename_i hcond
      have ht := tried_at h hil
      have hfalse : s.tried.getD i true = false := by
        cases hb : s.tried.getD i true with
        | true => rw [hb] at hcond; simp at hcond
        | false => rfl
      rw [hfalse] at ht
      have hfm := free_mark ht
      split
      · exact ⟨wf_put (wf_mark h) hc0 hc1, by show free (s.mark i) ≤ _; omega⟩
      · obtain ⟨_, b1, b2⟩ := claim_at h hil
        have hk := hrec (s.claim.getD i 0) (s.mark i) (by omega) b2 (wf_mark h)
        simp only
        split
        · exact ⟨wf_put hk.1 hc0 hc1, by show free (rec (s.claim.getD i 0) (s.mark i)).2 ≤ _; have := hk.2; omega⟩
        · have := scan_kept (fits := fits) hc0 hc1 hrec is his _ hk.1
          exact ⟨this.1, by have := this.2; have := hk.2; omega⟩
theorem place_kept {C L : Nat} {fits : Nat → Int → Bool} : ∀ (n : Nat) (c : Int) (s : St), 0 ≤ c → c < C → Wf C L s → Kept C L s (placeF fits L n c s).2
  | 0, c, s, _, _, h => ⟨h, Nat.le_refl _⟩
  | n + 1, c, s, h0, h1, h => scan_kept h0 h1 (fun d s hd0 hd1 hs => place_kept n d s hd0 hd1 hs) _ (fun i hi => List.mem_range.1 hi) s h
end Go.Proofs.YteeenlgoildmiaaDoor
