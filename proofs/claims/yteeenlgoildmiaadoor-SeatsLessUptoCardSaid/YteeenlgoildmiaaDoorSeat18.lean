/- The law on claims of lesser rank. -/
import Derived.Test.YteeenlgoildmiaaDoorSeat17
namespace Go.Proofs.YteeenlgoildmiaaDoor
open Go Go.AL
set_option linter.unusedSimpArgs false
set_option linter.unusedVariables false

def isHi (cl : List Clm) (rank : Int) (i : Nat) : Bool := decide (rank ≤ (gk cl i).rank)
def hiTo (cl : List Clm) (rank : Int) (k : Nat) : List Nat := (List.range k).filter (isHi cl rank)
def hiIx (cl : List Clm) (rank : Int) : List Nat := hiTo cl rank cl.length
def hiCl (cl : List Clm) (rank : Int) : List Clm := (hiIx cl rank).map (gk cl)
def atF (cl : List Clm) (rank : Int) (j : Nat) : Nat := (hiIx cl rank).getD j 0
theorem hiTo_succ {cl : List Clm} {rank : Int} {k : Nat} : hiTo cl rank (k + 1) = hiTo cl rank k ++ if isHi cl rank k then [k] else [] := by
  unfold hiTo
  rw [List.range_succ, List.filter_append]
  congr 1
  rw [List.filter_cons, List.filter_nil]
theorem hiTo_len (cl : List Clm) (rank : Int) (k : Nat) : (hiTo cl rank k).length ≤ k := by
  have := List.length_filter_le (isHi cl rank) (List.range k)
  rw [List.length_range] at this
  exact this
theorem hiIx_mem {cl : List Clm} {rank : Int} {x : Nat} : x ∈ hiIx cl rank ↔ x < cl.length ∧ isHi cl rank x = true := by
  unfold hiIx hiTo
  rw [List.mem_filter, List.mem_range]
theorem at_get {cl : List Clm} {rank : Int} {j : Nat} (h : j < (hiIx cl rank).length) : (hiIx cl rank)[j]? = some (atF cl rank j) := by
  unfold atF
  rw [List.getD_eq_getElem?_getD, List.getElem?_eq_getElem h]; rfl
theorem at_mem {cl : List Clm} {rank : Int} {j : Nat} (h : j < (hiIx cl rank).length) : atF cl rank j < cl.length ∧ isHi cl rank (atF cl rank j) = true := hiIx_mem.1 (List.mem_of_getElem? (at_get h))
theorem at_lt {cl : List Clm} {rank : Int} {i j : Nat} (hj : j < (hiIx cl rank).length) (h : i < j) : atF cl rank i < atF cl rank j := by
  have hp : (hiIx cl rank).Pairwise (· < ·) := List.pairwise_lt_range.filter _
  have hi : i < (hiIx cl rank).length := by omega
  have h1 := List.pairwise_iff_getElem.1 hp i j hi hj h
  have e1 := at_get hi
  have e2 := at_get hj
  rw [List.getElem?_eq_getElem hi, Option.some.injEq] at e1
  rw [List.getElem?_eq_getElem hj, Option.some.injEq] at e2
  rw [← e1, ← e2]
  exact h1
theorem at_inj {cl : List Clm} {rank : Int} {i j : Nat} (hi : i < (hiIx cl rank).length) (hj : j < (hiIx cl rank).length) (h : atF cl rank i = atF cl rank j) : i = j := by
  rcases Nat.lt_trichotomy i j with h1 | h1 | h1
  · have := at_lt hj h1; omega
  · exact h1
  · have := at_lt hi h1; omega
theorem hiCl_len (cl : List Clm) (rank : Int) : (hiCl cl rank).length = (hiIx cl rank).length := by simp [hiCl]
theorem hiCl_get {cl : List Clm} {rank : Int} {j : Nat} (h : j < (hiIx cl rank).length) : (hiCl cl rank)[j]? = some (gk cl (atF cl rank j)) := by
  unfold hiCl
  rw [List.getElem?_map, at_get h]; rfl
theorem gk_hi {cl : List Clm} {rank : Int} {j : Nat} (h : j < (hiIx cl rank).length) : gk (hiCl cl rank) j = gk cl (atF cl rank j) := gk_get (hiCl_get h)
theorem lt_hi {cl : List Clm} {rank : Int} {i j : Nat} (hi : i < (hiIx cl rank).length) (hj : j < (hiIx cl rank).length) (h : ltG (hiCl cl rank) i j = false) : ltG cl (atF cl rank i) (atF cl rank j) = false := by
  simp only [ltG, decide_eq_false_iff_not, gk_hi hi, gk_hi hj] at h ⊢
  intro hc
  refine h (hc.imp id fun hc => ⟨hc.1, ?_⟩)
  rcases Nat.lt_trichotomy i j with h1 | h1 | h1
  · exact h1
  · subst h1; omega
  · have := at_lt hi h1; omega
def lowO (cl : List Clm) (rank : Int) : List Nat := (orderF cl).filter fun i => !isHi cl rank i

theorem filter_perm {α : Type} (p : α → Bool) : ∀ (l : List α), (l.filter p ++ l.filter fun x => !p x).Perm l
  | [] => .refl _
  | a :: l => by
    cases h : p a with
    | true =>
      rw [List.filter_cons_of_pos h, List.filter_cons_of_neg (by simp [h]), List.cons_append]
      exact (filter_perm p l).cons a
    | false =>
      rw [List.filter_cons_of_neg (by simp [h]), List.filter_cons_of_pos (by simp [h])]
      exact List.perm_middle.trans ((filter_perm p l).cons a)
theorem order_hi (cl : List Clm) (rank : Int) : orderF cl = (orderF (hiCl cl rank)).map (atF cl rank) ++ lowO cl rank := by
  obtain ⟨p1, s1⟩ := orderF_spec cl
  obtain ⟨p2, s2⟩ := orderF_spec (hiCl cl rank)
  rw [hiCl_len] at p2
  have hmem : ∀ x ∈ orderF (hiCl cl rank), x < (hiIx cl rank).length := fun x hx => List.mem_range.1 (p2.mem_iff.1 hx)
  have hperm : ((orderF (hiCl cl rank)).map (atF cl rank) ++ lowO cl rank).Perm (orderF cl) := by
    have e1 : ((List.range (hiIx cl rank).length).map (atF cl rank)) = hiIx cl rank := by
      refine List.ext_getElem (by simp) fun i h1 h2 => ?_
      rw [List.getElem_map, List.getElem_range]
      have := at_get h2
      rw [List.getElem?_eq_getElem h2, Option.some.injEq] at this
      exact this.symm
    have h1 : ((orderF (hiCl cl rank)).map (atF cl rank)).Perm (hiIx cl rank) := by
      have := p2.map (atF cl rank)
      rwa [e1] at this
    have h2 : (hiIx cl rank).Perm ((orderF cl).filter (isHi cl rank)) := (p1.filter (isHi cl rank)).symm
    exact ((h1.trans h2).append_right _).trans (filter_perm _ _)
  refine List.Perm.eq_of_pairwise (le := fun a b => ltG cl b a = false) (fun a b _ _ g1 g2 => ltG_total g2 g1) s1 ?_ hperm.symm
  rw [List.pairwise_append]
  refine ⟨List.pairwise_map.2 ?_, s1.filter _, fun a ha b hb => ?_⟩
  · have : (orderF (hiCl cl rank)).Pairwise fun a b => (a < (hiIx cl rank).length ∧ b < (hiIx cl rank).length) ∧ ltG (hiCl cl rank) b a = false := by
      refine List.Pairwise.imp_of_mem (fun {a b} ha hb h => ⟨⟨hmem a ha, hmem b hb⟩, h⟩) s2
    exact this.imp fun h => lt_hi h.1.2 h.1.1 h.2
  · obtain ⟨j, hj, rfl⟩ := List.mem_map.1 ha
    have h1 := (at_mem (hmem j hj)).2
    have h2 := (List.mem_filter.1 hb).2
    simp only [isHi, Bool.not_eq_true', decide_eq_true_eq, decide_eq_false_iff_not] at h1 h2
    simp only [ltG, decide_eq_false_iff_not]
    omega

theorem less_is (se : List Sea) (cl : List Clm) (rank : Int) : ∀ j, j < (hiIx cl rank).length → (0 ≤ (assignS se (hiCl cl rank)).sm j ↔ 0 ≤ (assignS se cl).sm (atF cl rank j)) := by
  intro j hj
  have hmem : ∀ x ∈ orderF (hiCl cl rank), x < (hiIx cl rank).length := fun x hx => by rw [order_mem, hiCl_len] at hx; exact hx
  have hr := less_fold (fits := fitF se cl) (fits' := fitF se (hiCl cl rank)) (C := cl.length) (C' := (hiIx cl rank).length) (L := se.length) (at_ := atF cl rank)
    (fun x hx => by
      funext i
      unfold colF
      rw [fitF_I (hiCl_get hx), fitF_I (c := gk cl (atF cl rank x))]
      have := (at_mem hx).1
      rw [List.getElem?_eq_getElem this, gk_get (List.getElem?_eq_getElem this)])
    (fun x hx => (at_mem hx).1) (fun x y hx hy h => at_inj hx hy h) (orderF (hiCl cl rank)) [] (initF se cl) (initF se (hiCl cl rank)) (init_run se cl) (by have := init_run se (hiCl cl rank); rwa [hiCl_len] at this)
    (fun x hx => by simp at hx) (fun x hx => by simp at hx) hmem (by rw [List.nil_append]; exact order_nodup _)
  rw [List.nil_append] at hr
  have h1 := hr.2 j (by rw [order_mem, hiCl_len]; exact hj)
  have e : assignS se cl = (lowO cl rank).foldl (go (fitF se cl) se.length) (((orderF (hiCl cl rank)).map (atF cl rank)).foldl (go (fitF se cl) se.length) (initF se cl)) := by
    rw [← List.foldl_append, ← order_hi]; rfl
  have hnl : atF cl rank j ∉ lowO cl rank := fun hm => by
    have := (List.mem_filter.1 hm).2
    rw [(at_mem hj).2] at this
    cases this
  have h2 := fold_served (lowO cl rank) _ _ hr.1 (fun x hx => by
      obtain ⟨y, hy, rfl⟩ := List.mem_map.1 hx
      exact (at_mem (hmem y hy)).1) (fun x hx => (order_mem cl).1 (List.mem_filter.1 hx).1) (by rw [← order_hi]; exact order_nodup cl) (atF cl rank j) (at_mem hj).1 hnl
  rw [← e] at h2
  rw [h2]
  exact h1
end Go.Proofs.YteeenlgoildmiaaDoor
