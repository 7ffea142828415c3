/- How many claims can be fulfilled together: the reference. -/
import Derived.Test.YteeenlgoildmiaaDoorSeat14
import Derived.Test.YteeenlgoildmiaaDoorSeat10
namespace Go.Proofs.YteeenlgoildmiaaDoor
open Go Go.AL
set_option linter.unusedSimpArgs false
set_option linter.unusedVariables false

def fitsI (se : List Sea) (i : Nat) (c : Clm) : Bool := match se[i]? with
  | some s => fitsF s c
  | none => false
theorem fitF_I {se : List Sea} {cl : List Clm} {i x : Nat} {c : Clm} (h : cl[x]? = some c) : fitF se cl i x = fitsI se i c := by
  unfold fitF fitsI
  rw [Int.toNat_natCast, h]
  cases se[i]? <;> rfl
def stepM (se : List Sea) (c : Clm) (rec : List Bool → Nat) (t : List Bool) (n i : Nat) : Nat := if !t.getD i true && fitsI se i c then max n (1 + rec (t.set i true)) else n
def mostF (se : List Sea) : List Clm → List Bool → Nat
  | [], _ => 0
  | c :: r, t => (List.range se.length).foldl (stepM se c (mostF se r) t) (mostF se r t)

/-- A partial assignment. -/
def PA (se : List Sea) : List Clm → List Bool → List (Option Nat) → Prop
  | [], _, [] => True
  | _ :: r, t, none :: y => PA se r t y
  | c :: r, t, some i :: y => i < se.length ∧ t.getD i true = false ∧ fitsI se i c = true ∧ PA se r (t.set i true) y
  | _, _, _ => False
def cntO (y : List (Option Nat)) : Nat := (y.filter (·.isSome)).length

theorem fold_max {f : Nat → Nat → Nat} (hf : ∀ n i, n ≤ f n i) : ∀ (l : List Nat) (n : Nat), n ≤ l.foldl f n
  | [], n => Nat.le_refl _
  | i :: l, n => Nat.le_trans (hf n i) (fold_max hf l _)
theorem stepM_le {se : List Sea} {c : Clm} {rec : List Bool → Nat} {t : List Bool} (n i : Nat) : n ≤ stepM se c rec t n i := by
  unfold stepM
  split
  · exact Nat.le_max_left _ _
  · exact Nat.le_refl _
theorem most_ge {se : List Sea} : ∀ (cs : List Clm) (t : List Bool) (y : List (Option Nat)), PA se cs t y → cntO y ≤ mostF se cs t
  | [], t, [], _ => Nat.le_refl _
  | c :: r, t, none :: y, h => by
    have := most_ge r t y h
    rw [mostF]
    exact Nat.le_trans (by simpa [cntO] using this) (fold_max stepM_le _ _)
  | c :: r, t, some i :: y, ⟨h1, h2, h3, h4⟩ => by
    have ih := most_ge r (t.set i true) y h4
    have e : cntO (some i :: y) = cntO y + 1 := by simp [cntO]
    have key : ∀ (l : List Nat) (n : Nat), i ∈ l → 1 + mostF se r (t.set i true) ≤ l.foldl (stepM se c (mostF se r) t) n := by
      intro l
      induction l with
      | nil => intro n hm; simp at hm
      | cons a l ihl =>
        intro n hm
        rw [List.foldl_cons]
        rcases List.mem_cons.1 hm with rfl | hm
        · refine Nat.le_trans ?_ (fold_max stepM_le _ _)
          unfold stepM
          rw [h2, h3]
          exact Nat.le_max_right _ _
        · exact ihl _ hm
    have := key (List.range se.length) (mostF se r t) (List.mem_range.2 h1)
    rw [mostF]
    omega
theorem most_le {se : List Sea} : ∀ (cs : List Clm) (t : List Bool), ∃ y, PA se cs t y ∧ cntO y = mostF se cs t
  | [], t => ⟨[], trivial, rfl⟩
  | c :: r, t => by
    have key : ∀ (l : List Nat) (n : Nat), (∀ i ∈ l, i < se.length) → (∃ y, PA se (c :: r) t y ∧ cntO y = n) → ∃ y, PA se (c :: r) t y ∧ cntO y = l.foldl (stepM se c (mostF se r) t) n := by
      intro l
      induction l with
      | nil => intro n _ h; exact h
      | cons a l ihl =>
        intro n hl h
        rw [List.foldl_cons]
        refine ihl _ (fun i hi => hl i (List.mem_cons_of_mem _ hi)) ?_
        unfold stepM
        split
        · rename_i hc
          rw [Bool.and_eq_true, Bool.not_eq_true'] at hc
          rcases Nat.le_total (1 + mostF se r (t.set a true)) n with hle | hle
          · rw [Nat.max_eq_left hle]; exact h
          · rw [Nat.max_eq_right hle]
            obtain ⟨y, h1, h2⟩ := most_le r (t.set a true)
            exact ⟨some a :: y, ⟨hl a (List.mem_cons_self ..), hc.1, hc.2, h1⟩, by simp only [cntO, List.filter_cons, Option.isSome_some, if_true, List.length_cons] at h2 ⊢; omega⟩
        · exact h
    obtain ⟨y, h1, h2⟩ := most_le (se := se) r t
    rw [mostF]
    exact key _ _ (fun i hi => List.mem_range.1 hi) ⟨none :: y, h1, by simpa [cntO] using h2⟩

theorem getD_set {t : List Bool} {i k : Nat} (hi : i < t.length) : (t.set i true).getD k true = if k = i then true else t.getD k true := by
  simp only [List.getD_eq_getElem?_getD, List.getElem?_set]
  by_cases h : i = k
  · subst h; simp [hi]
  · have : ¬ k = i := fun e => h e.symm
    simp [h, this]
theorem getD_free {t : List Bool} {i : Nat} (h : t.getD i true = false) : i < t.length := by
  refine Decidable.byContradiction fun hn => ?_
  rw [List.getD_eq_getElem?_getD, List.getElem?_eq_none (by omega)] at h
  cases h
theorem pa_at {se : List Sea} : ∀ (cs : List Clm) (t : List Bool) (y : List (Option Nat)), PA se cs t y → y.length = cs.length ∧
    (∀ (j i : Nat), y[j]? = some (some i) → i < se.length ∧ t.getD i true = false ∧ ∃ c, cs[j]? = some c ∧ fitsI se i c = true) ∧ ∀ (j k i : Nat), y[j]? = some (some i) → y[k]? = some (some i) → j = k
  | [], t, [], _ => ⟨rfl, fun j i h => by simp at h, fun j k i h => by simp at h⟩
  | c :: r, t, none :: y, h => by
    obtain ⟨h1, h2, h3⟩ := pa_at r t y h
    refine ⟨by simp [h1], fun j i hj => ?_, fun j k i hj hk => ?_⟩
    · cases j with
      | zero => simp at hj
      | succ j => exact h2 j i (by simpa using hj)
    · cases j with
      | zero => simp at hj
      | succ j =>
        cases k with
        | zero => simp at hk
        | succ k => rw [h3 j k i (by simpa using hj) (by simpa using hk)]
  | c :: r, t, some a :: y, ⟨ha, ht, hf, h⟩ => by
    obtain ⟨h1, h2, h3⟩ := pa_at r (t.set a true) y h
    have hlt := getD_free ht
    have hne : ∀ j i, y[j]? = some (some i) → i ≠ a ∧ i < se.length ∧ t.getD i true = false ∧ ∃ c, r[j]? = some c ∧ fitsI se i c = true := fun j i hj => by
      obtain ⟨b1, b2, b3⟩ := h2 j i hj
      rw [getD_set hlt] at b2
      by_cases e : i = a
      · rw [if_pos e] at b2; cases b2
      · rw [if_neg e] at b2; exact ⟨e, b1, b2, b3⟩
    refine ⟨by simp [h1], fun j i hj => ?_, fun j k i hj hk => ?_⟩
    · cases j with
      | zero =>
        simp only [List.getElem?_cons_zero, Option.some.injEq] at hj
        subst hj
        exact ⟨ha, ht, c, rfl, hf⟩
      | succ j => exact (hne j i (by simpa using hj)).2
    · cases j with
      | zero =>
        simp only [List.getElem?_cons_zero, Option.some.injEq] at hj
        subst hj
        cases k with
        | zero => rfl
        | succ k => exact absurd rfl (hne k _ (by simpa using hk)).1
      | succ j =>
        cases k with
        | zero =>
          simp only [List.getElem?_cons_zero, Option.some.injEq] at hk
          subst hk
          exact absurd rfl (hne j _ (by simpa using hj)).1
        | succ k => rw [h3 j k i (by simpa using hj) (by simpa using hk)]
theorem pa_of {se : List Sea} : ∀ (cs : List Clm) (t : List Bool) (y : List (Option Nat)), t.length = se.length → y.length = cs.length →
    (∀ (j i : Nat), y[j]? = some (some i) → i < se.length ∧ t.getD i true = false ∧ ∃ c, cs[j]? = some c ∧ fitsI se i c = true) → (∀ (j k i : Nat), y[j]? = some (some i) → y[k]? = some (some i) → j = k) → PA se cs t y
  | [], t, [], _, _, _, _ => trivial
  | [], t, _ :: _, _, h, _, _ => by simp at h
  | _ :: _, t, [], _, h, _, _ => by simp at h
  | c :: r, t, none :: y, ht, hl, h1, h2 => pa_of r t y ht (by simpa using hl) (fun j i hj => h1 (j + 1) i hj) (fun j k i hj hk => by have := h2 (j + 1) (k + 1) i hj hk; omega)
  | c :: r, t, some a :: y, ht, hl, h1, h2 => by
    obtain ⟨a1, a2, c', a3, a4⟩ := h1 0 a rfl
    simp only [List.getElem?_cons_zero, Option.some.injEq] at a3
    subst a3
    refine ⟨a1, a2, a4, pa_of r (t.set a true) y (by simp [ht]) (by simpa using hl) (fun j i hj => ?_) (fun j k i hj hk => by have := h2 (j + 1) (k + 1) i hj hk; omega)⟩
    obtain ⟨b1, b2, b3⟩ := h1 (j + 1) i hj
    refine ⟨b1, ?_, b3⟩
    rw [getD_set (by omega), if_neg]
    · exact b2
    · rintro rfl
      have := h2 0 (j + 1) i rfl hj
      omega

/-- The served ones are as many as can be. -/
theorem most_is (se : List Sea) (cl : List Clm) : mostF se cl (List.replicate se.length false) = cntF (assignF se cl) := by
  have hr := assign_run se cl
  have hm := hr.mat
  rw [served_count]
  refine Nat.le_antisymm ?_ ?_
  · obtain ⟨y, h1, h2⟩ := most_le (se := se) cl (List.replicate se.length false)
    obtain ⟨a1, a2, a3⟩ := pa_at _ _ _ h1
    rw [← h2]
    have e : cntO y = ((List.range cl.length).filter fun x => (y.getD x none).isSome).length := by
      rw [← a1]
      unfold cntO
      clear h1 h2 a1 a2 a3
      induction y with
      | nil => rfl
      | cons a y ih =>
        rw [List.length_cons, List.range_succ_eq_map, List.filter_cons, List.filter_cons, List.filter_map]
        have e : ((fun i => ((a :: y).getD i none).isSome) ∘ Nat.succ) = fun i => (y.getD i none).isSome := by
          funext i
          simp
        rw [e]
        simp only [List.getD_cons_zero]
        split <;> simp [ih]
    rw [e]
    have g : ∀ x i, y.getD x none = some i → y[x]? = some (some i) := fun x i h => by
      rw [List.getD_eq_getElem?_getD] at h
      cases hc : y[x]? with
      | none => rw [hc] at h; cases h
      | some o => rw [hc] at h; simp only [Option.getD_some] at h; rw [h]
    refine most_bound hr (fun x hx => (order_mem cl).2 hx) (fun x => y.getD x none) (fun x i hx h => ?_) (fun x x' i _ _ h h' => a3 x x' i (g x i h) (g x' i h'))
    obtain ⟨b1, _, c, b2, b3⟩ := a2 x i (g x i h)
    exact ⟨b1, by rw [fitF_I b2]; exact b3⟩
  · have := most_ge (se := se) cl (List.replicate se.length false) ((List.range cl.length).map fun x => if 0 ≤ (assignS se cl).sm x then some ((assignS se cl).sm x).toNat else none) ?_
    · refine Nat.le_trans (Nat.le_of_eq ?_) this
      unfold cntO
      rw [List.filter_map, List.length_map]
      congr 1
      refine List.filter_congr fun x _ => ?_
      simp only [Function.comp]
      split
      · rename_i h; simp [h]
      · rename_i h; simp [h]
    · have g : ∀ (x i : Nat), ((List.range cl.length).map fun x => if 0 ≤ (assignS se cl).sm x then some ((assignS se cl).sm x).toNat else none)[x]? = some (some i) → x < cl.length ∧ (assignS se cl).sm x = i := fun x i h => by
        rw [List.getElem?_map] at h
        obtain ⟨z, h1, h2⟩ := Option.map_eq_some_iff.1 h
        have hx := (List.getElem?_eq_some_iff.1 h1).1
        rw [List.length_range] at hx
        rw [List.getElem?_range hx, Option.some.injEq] at h1
        subst h1
        split at h2
        · simp only [Option.some.injEq] at h2
          exact ⟨hx, by omega⟩
        · cases h2
      refine pa_of _ _ _ (by simp) (by simp) (fun j i hj => ?_) (fun j k i hj hk => ?_)
      · obtain ⟨h1, h2⟩ := g j i hj
        obtain ⟨i', b1, b2, b3, b4⟩ := mat_at hm h1 (by omega)
        have : i' = i := by omega
        subst this
        have hc : cl[j]? = some cl[j] := List.getElem?_eq_getElem h1
        exact ⟨b1, by simp [List.getD_eq_getElem?_getD, List.getElem?_replicate, b1], _, hc, by rw [← fitF_I hc]; exact b4⟩
      · obtain ⟨h1, h2⟩ := g j i hj
        obtain ⟨h3, h4⟩ := g k i hk
        obtain ⟨i', b1, b2, b3, b4⟩ := mat_at hm h1 (by omega)
        obtain ⟨i'', c1, c2, c3, c4⟩ := mat_at hm h3 (by omega)
        have : i' = i'' := by omega
        subst this
        omega
end Go.Proofs.YteeenlgoildmiaaDoor
