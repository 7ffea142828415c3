/- More seats, a greater value or more seats left: the plain law. -/
import Derived.Test.YtoidchljifelgaaBid14
namespace Go.Proofs.Ytoidchljifelgaa
open Go Go.AL
set_option linter.unusedSimpArgs false

theorem seatsGo_ge {acc : Nat → Bool} {top : Int} : ∀ (f n : Nat), n ≤ seatsGo acc top f n
  | 0, n => Nat.le_refl _
  | f + 1, n => by
    rw [seatsGo]
    split
    · have := seatsGo_ge (acc := acc) (top := top) f (n + 1); omega
    · exact Nat.le_refl _

theorem seatsGo_le {acc : Nat → Bool} {top : Int} : ∀ (f n : Nat), (seatsGo acc top f n : Int) ≤ max top n
  | 0, n => by rw [seatsGo]; omega
  | f + 1, n => by
    rw [seatsGo]
    split
    · rename_i h
      have := seatsGo_le (acc := acc) (top := top) f (n + 1)
      omega
    · omega

theorem seatsGo_mono {acc acc' : Nat → Bool} {top top' : Int} (h : ∀ k, acc k = true → acc' k = true) (ht : top ≤ top') : ∀ (f n : Nat), seatsGo acc top f n ≤ seatsGo acc' top' f n
  | 0, n => Nat.le_refl _
  | f + 1, n => by
    rw [seatsGo]
    split
    · rename_i hc
      rw [seatsGo, if_pos ⟨by omega, h n hc.2⟩]
      exact seatsGo_mono h ht f (n + 1)
    · exact seatsGo_ge _ _

/-- The last one was accepted. -/
theorem seatsGo_last {acc : Nat → Bool} {top : Int} : ∀ (f n : Nat), n < seatsGo acc top f n → acc (seatsGo acc top f n - 1) = true
  | 0, n, h => by rw [seatsGo] at h; omega
  | f + 1, n, h => by
    rw [seatsGo] at h ⊢
    split at h
    · rename_i hc
      rw [if_pos hc]
      by_cases h2 : n + 1 < seatsGo acc top f (n + 1)
      · exact seatsGo_last f (n + 1) h2
      · have := seatsGo_ge (acc := acc) (top := top) f (n + 1)
        have e : seatsGo acc top f (n + 1) = n + 1 := by omega
        rw [e]
        exact hc.2
    · omega

theorem rightGo_get : ∀ (l : List Int) (last : Int), rightGo last l = true → ∀ (i j : Nat) (x y : Int), i ≤ j → l[i]? = some x → l[j]? = some y → y ≤ x
  | [], _, _, i, j, x, y, _, hx, _ => by simp at hx
  | n :: r, last, h, i, j, x, y, hij, hx, hy => by
    simp only [rightGo, Bool.and_eq_true] at h
    cases i with
    | zero =>
      simp at hx
      subst hx
      cases j with
      | zero => simp at hy; omega
      | succ j =>
        have := rightGo_bound r n h.2 y (List.mem_of_getElem? (by simpa using hy))
        omega
    | succ i =>
      cases j with
      | zero => omega
      | succ j => exact rightGo_get r n h.2 i j x y (by omega) (by simpa using hx) (by simpa using hy)

theorem price_anti {l : List Int} (h : rightF l = true) {a b : Int} (ha : 1 ≤ a) (hab : a ≤ b) : priceF l b ≤ priceF l a := by
  by_cases h1 : (l.length : Int) < b
  · have : priceF l b = 0 := by rw [priceF, if_neg (by omega), if_pos h1]
    rw [this]
    exact (price_bound h (left := a) (by omega)).1
  · have hb := price_get (l := l) (left := b) (by omega) h1
    have haa := price_get (l := l) (left := a) (by omega) (by omega)
    have hr : rightGo 1099511627776 l = true := by
      simp only [rightF, Bool.and_eq_true] at h; exact h.2
    exact rightGo_get l _ hr _ _ _ _ (by omega) haa hb

def upF (x : Int) : Int := max x (-1) + 1

theorem sum_le {α : Type} {f g : α → Int} : ∀ (l : List α), (∀ x ∈ l, f x ≤ g x) → (l.map f).sum ≤ (l.map g).sum
  | [], _ => Int.le_refl _
  | x :: l, h => by
    have h1 := h x (List.mem_cons_self ..)
    have h2 := sum_le l fun y hy => h y (List.mem_cons_of_mem _ hy)
    simp only [List.map_cons, List.sum_cons]
    omega

theorem acc_up {cs : List (List Int)} {left : List Int} {value taken : Int} (hr : ∀ l ∈ cs, rightF l = true) (ht : 0 ≤ taken) (h : accF cs left value taken = true) : accF cs (left.map upF) value taken = true := by
  simp only [accF, Bool.and_eq_true, List.all_eq_true, decide_eq_true_eq] at h ⊢
  have hz : cs.zip (left.map upF) = (cs.zip left).map fun p => (p.1, upF p.2) := by
    rw [List.zip_map_right]; rfl
  rw [hz]
  refine ⟨fun p hp => ?_, ?_⟩
  · obtain ⟨q, hq, rfl⟩ := List.mem_map.1 hp
    have := h.1 q hq
    simp only [upF]; omega
  · rw [List.map_map]
    refine Int.le_trans (sum_le _ fun q hq => ?_) h.2
    have h1 := h.1 q hq
    simp only [Function.comp, costF, upF]
    refine price_anti (zip_mem hr hq) (by omega) (by omega)

theorem acc_value {cs : List (List Int)} {left : List Int} {value taken : Int} (h : accF cs left value taken = true) : accF cs left (value + 1) taken = true := by
  simp only [accF, Bool.and_eq_true, decide_eq_true_eq] at h ⊢
  exact ⟨h.1, by omega⟩

section
variable {cs : List (List Int)} {left : List Int} {value most : Int}
theorem seats_mono {left' : List Int} {value' most' : Int} (hl : left'.length = left.length) (hm : most ≤ most') (h : ∀ k : Nat, accF cs left value k = true → accF cs left' value' k = true) : seatsF cs left value most ≤ seatsF cs left' value' most' := by
  unfold seatsF
  rw [hl]
  split
  · exact Int.le_refl _
  · have := seatsGo_mono (acc := fun n => accF cs left value n) (acc' := fun n => accF cs left' value' n) (top := min most 999) (top' := min most' 999) h (by omega) 1000 0
    omega

theorem seats_bounds : 0 ≤ seatsF cs left value most ∧ seatsF cs left value most ≤ max most 0 ∧ seatsF cs left value most ≤ 999 := by
  unfold seatsF
  split
  · omega
  · have := seatsGo_le (acc := fun n => accF cs left value n) (top := min most 999) 1000 0
    omega

theorem seats_last (h : 0 < seatsF cs left value most) : cs.length = left.length ∧ accF cs left value (seatsF cs left value most - 1) = true := by
  unfold seatsF at *
  split at h
  · omega
  · rename_i hc
    rw [if_neg hc]
    have h1 := seatsGo_last (acc := fun n => accF cs left value n) (top := min most 999) 1000 0 (by omega)
    refine ⟨by omega, ?_⟩
    have e : ((seatsGo (fun n => accF cs left value n) (min most 999) 1000 0 : Nat) : Int) - 1 = ((seatsGo (fun n => accF cs left value n) (min most 999) 1000 0 - 1 : Nat) : Int) := by omega
    rw [e]
    exact h1
end
end Go.Proofs.Ytoidchljifelgaa
