/- Curve of the reference: the greatest value that is left, one by one. -/
import Derived.Test.YtoidchljifelgaaBid16
namespace Go.Proofs.Ytoidchljifelgaa
open Go Go.AL
set_option linter.unusedSimpArgs false
set_option maxHeartbeats 4000000

/-- The demands with what is left of them. -/
def cur (l : List (Int × Int)) (c : List Int) : List (Int × Int) := List.zipWith (fun d n => (d.1, n)) l c

theorem E_cons (d : Int × Int) (m : List (Int × Int)) : E (d :: m) = List.replicate d.2.toNat d.1 ++ E m := by simp [E]
theorem E_append (a b : List (Int × Int)) : E (a ++ b) = E a ++ E b := by simp [E]
theorem E_mem {m : List (Int × Int)} {x : Int} (h : x ∈ E m) : ∃ d ∈ m, x = d.1 ∧ 0 < d.2 := by
  obtain ⟨d, hd, hx⟩ := List.mem_flatMap.1 h
  obtain ⟨h1, rfl⟩ := List.mem_replicate.1 hx
  exact ⟨d, hd, rfl, by omega⟩

theorem E_none {m : List (Int × Int)} (h : ∀ d ∈ m, d.2 ≤ 0) : sortedE m = [] := by
  have h1 : E m = [] := by
    rw [List.eq_nil_iff_forall_not_mem]
    intro x hx
    obtain ⟨d, hd, _, h2⟩ := E_mem hx
    have := h d hd
    omega
  have := (sortedE_spec m).2
  rw [h1] at this
  exact this.eq_nil

theorem E_step {A B : List (Int × Int)} {v n : Int} (hn : 0 < n) (hmax : ∀ d ∈ A ++ (v, n) :: B, 0 < d.2 → d.1 ≤ v) : sortedE (A ++ (v, n) :: B) = v :: sortedE (A ++ (v, n - 1) :: B) := by
  obtain ⟨k, hk⟩ : ∃ k, n.toNat = k + 1 := ⟨n.toNat - 1, by omega⟩
  have hk' : (n - 1).toNat = k := by omega
  have hp : (E (A ++ (v, n) :: B)).Perm (v :: E (A ++ (v, n - 1) :: B)) := by
    rw [E_append, E_append, E_cons, E_cons, hk, hk', List.replicate_succ, List.cons_append]
    exact List.perm_middle
  refine desc_eq (sortedE_spec _).1 (List.pairwise_cons.2 ⟨fun x hx => ?_, (sortedE_spec _).1⟩) ?_
  · have h1 : x ∈ E (A ++ (v, n) :: B) := hp.mem_iff.2 (List.mem_cons_of_mem _ ((sortedE_spec _).2.mem_iff.1 hx))
    obtain ⟨d, hd, rfl, h2⟩ := E_mem h1
    exact hmax d hd h2
  · exact (sortedE_spec _).2.trans (hp.trans ((sortedE_spec _).2.symm.cons v))

theorem split_at {α : Type} {l : List α} {b : Nat} {x : α} (h : l[b]? = some x) : l = l.take b ++ x :: l.drop (b + 1) := by
  rw [← drop_get h, List.take_append_drop]

theorem cur_step {l : List (Int × Int)} {c : List Int} {b : Nat} {d : Int × Int} {n : Int} (hlen : c.length = l.length) (hd : l[b]? = some d) (hc : c[b]? = some n) (hn : 0 < n)
    (hmax : ∀ (k : Nat) (y : Int) (d' : Int × Int), c[k]? = some y → 0 < y → l[k]? = some d' → d'.1 ≤ d.1) : sortedE (cur l c) = d.1 :: sortedE (cur l (c.set b (n - 1))) := by
  have hb := (List.getElem?_eq_some_iff.1 hc).1
  have e0 : (cur l c)[b]? = some (d.1, n) := by simp [cur, List.getElem?_zipWith, hd, hc]
  obtain ⟨A, hA⟩ : ∃ A, A = (cur l c).take b := ⟨_, rfl⟩
  obtain ⟨B, hB⟩ : ∃ B, B = (cur l c).drop (b + 1) := ⟨_, rfl⟩
  have e1 : cur l c = A ++ (d.1, n) :: B := by rw [hA, hB]; exact split_at e0
  have e2 : cur l (c.set b (n - 1)) = A ++ (d.1, n - 1) :: B := by
    have e3 : (cur l (c.set b (n - 1)))[b]? = some (d.1, n - 1) := by simp [cur, List.getElem?_zipWith, hd, hb]
    rw [split_at e3, hA, hB]
    congr 1
    · simp only [cur, List.take_zipWith]
      rw [List.take_set_of_le (Nat.le_refl _)]
    · congr 1
      simp only [cur, List.drop_zipWith]
      rw [List.drop_set_of_lt (by omega)]
  rw [e2, e1]
  refine E_step hn ?_
  rw [← e1]
  intro x hx h0
  obtain ⟨k, hk⟩ := List.getElem?_of_mem hx
  simp only [cur, List.getElem?_zipWith_eq_some] at hk
  obtain ⟨d', y, h1, h2, rfl⟩ := hk
  exact hmax k y d' h2 h0 h1

theorem cur_full (l : List (Int × Int)) : cur l (l.map (·.2)) = l := by
  induction l with
  | nil => rfl
  | cons d l ih =>
    simp only [cur, List.map_cons, List.zipWith_cons_cons]
    rw [show List.zipWith (fun (d : Int × Int) n => (d.1, n)) l (l.map (·.2)) = l from ih]

theorem pad_zero {o : List Int} {seats : Int} (h : (o.length : Int) < seats) : padF o seats = padF (o ++ [0]) seats := by
  unfold padF
  have e : o ++ [0] ++ List.replicate seats.toNat 0 = o ++ List.replicate (seats.toNat + 1) 0 := by rw [List.replicate_succ]; simp
  rw [e, List.take_append, List.take_append, List.take_replicate, List.take_replicate]
  congr 2
  omega

theorem pad_full {o R : List Int} {seats : Int} (h : (o.length : Int) = seats) : padF (o ++ R) seats = o := by
  unfold padF
  rw [List.append_assoc, List.take_append, List.take_of_length_le (by omega)]
  have : seats.toNat - o.length = 0 := by omega
  rw [this]
  simp
end Go.Proofs.Ytoidchljifelgaa
