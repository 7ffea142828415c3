/- States by coupons, plainly. -/
import Derived.Test.YtdkcicbpcagonabMir7
namespace Go.Proofs.Ytdkcicbpcagonab
open Go Go.AL
set_option linter.unusedSimpArgs false
set_option linter.unusedVariables false

abbrev Qs := List (Nat × Int × Int)
abbrev Cs := List (Nat × List St)
/-- The state of a coupon. -/
def gR (M : Mi) (w : St) : Option St := (findR M.R w).map (·.1)
theorem gR_find (M : Mi) (w : St) : gR M w = (M.R.map (·.1)).find? (sameS w) := by
  rw [List.find?_map]; rfl
theorem findR_same {R : List Rw} {x y : St} (h : sameS y x = true) : findR R y = findR R x := by
  unfold findR
  congr 1
  funext q
  exact same_same q.1 h
theorem gR_same {M : Mi} {x y : St} (h : sameS y x = true) : gR M y = gR M x := by rw [gR, gR, findR_same h]
theorem gR_rec (M : Mi) (x w : St) : gR (recM M x) w = if sameS w x then some x else gR M w := by
  have := findR_upd (x := x) (n := M.N + 1) w M.R
  unfold gR
  rw [show (recM M x).R = updR x (M.N + 1) M.R from rfl, this]
  split <;> rfl
theorem WF.gR_mem {M : Mi} (h : WF M) {r : Rw} (hm : r ∈ M.R) : gR M r.1 = some r.1 := by rw [gR, h.find_mem hm]; rfl
theorem gR_row {M : Mi} {w y : St} (h : gR M w = some y) : ∃ r ∈ M.R, r.1 = y ∧ sameS w y = true := by
  rw [gR, Option.map_eq_some_iff] at h
  obtain ⟨r, h1, rfl⟩ := h
  have h2 := List.find?_some h1
  exact ⟨r, List.mem_of_find?_eq_some h1, rfl, h2⟩
theorem WF.apartL {M : Mi} (h : WF M) : Apart (M.R.map (·.1)) := List.pairwise_map.2 h.apart
theorem isAll_find {M : Mi} {d : List St} (h : isAll M d) (w : St) : d.find? (sameS w) = gR M w := by
  rw [gR_find]
  exact h.1.apart.find_perm h.2 w
theorem isAll_eq {M M' : Mi} {d d' : List St} (h : isAll M d) (h' : isAll M' d') (hg : ∀ w, gR M w = gR M' w) : d = d' :=
  h.1.uniqF h'.1 fun w => by rw [isAll_find h, isAll_find h', hg]

/-- Recorded states. -/
def okS (x : St) : Prop := 1 ≤ x.v ∧ 1 ≤ x.s ∧ x.s ≤ 8
def Valid (M : Mi) : Prop := ∀ r ∈ M.R, okS r.1
theorem Valid0 : Valid Mi0 := fun r h => by cases h
/-! ### Feeding -/
def puts (M : Mi) (l : List St) : Mi := l.foldl recM M
theorem puts_app (M : Mi) (l m : List St) : puts M (l ++ m) = puts (puts M l) m := List.foldl_append ..
theorem puts_N : ∀ (l : List St) (M : Mi), (puts M l).N = M.N + l.length
  | [], M => rfl
  | x :: l, M => by
    have := puts_N l (recM M x)
    simp only [puts, List.foldl_cons, List.length_cons] at this ⊢
    rw [this]
    simp only [recM]
    omega
theorem puts_gR {M : Mi} : ∀ {l : List St}, Apart l → ∀ w, gR (puts M l) w = (l.find? (sameS w)).or (gR M w) := by
  intro l
  generalize hn : l.length = n
  induction n generalizing l with
  | zero => intro _ w; rw [List.length_eq_zero_iff.1 hn]; rfl
  | succ n ih =>
    intro ha w
    have hne : l ≠ [] := fun h => by rw [h] at hn; cases hn
    obtain ⟨l', x, rfl⟩ : ∃ l' x, l = l' ++ [x] := ⟨l.dropLast, l.getLast hne, (List.dropLast_concat_getLast hne).symm⟩
    have ha' : Apart l' ∧ ∀ y ∈ l', sameS y x = false := by
      unfold Apart at ha
      rw [List.pairwise_append] at ha
      exact ⟨ha.1, fun y hy => ha.2.2 y hy x (by simp)⟩
    rw [puts_app, List.find?_append]
    show gR (recM (puts M l') x) w = _
    rw [gR_rec, ih (by simpa using hn) ha'.1]
    cases hs : sameS w x with
    | true =>
      have h0 : l'.find? (sameS w) = none := by
        rw [List.find?_eq_none]
        intro y hy hy2
        have h1 := ha'.2 y hy
        rw [same_sym] at h1
        have h2 := same_tr (by rw [same_sym]; exact hs) hy2
        rw [h2] at h1; cases h1
      simp [h0, hs]
    | false =>
      simp [hs]
theorem putF_ok {M : Mi} {x : St} (h : okS x) (hlt : ∀ y, gR M x = some y → y.v < x.v) : putF M x = (0, recM M x) := by
  unfold putF
  obtain ⟨h1, h2, h3⟩ := h
  rw [if_neg (by omega)]
  cases hf : findR M.R x with
  | none => rfl
  | some r =>
    have := hlt r.1 (by rw [gR, hf]; rfl)
    simp only
    rw [if_neg (by omega)]
end Go.Proofs.Ytdkcicbpcagonab
