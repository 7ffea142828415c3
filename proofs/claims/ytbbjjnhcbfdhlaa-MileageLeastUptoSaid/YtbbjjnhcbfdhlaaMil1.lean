/- Ways: distances are followed until nothing becomes shorter; plain. -/
import Derived.Test.YtbbjjnhcbfdhlaaAlM
namespace Go.Proofs.Ytbbjjnhcbfdhlaa
open Go Go.AL
set_option linter.unusedSimpArgs false
set_option linter.unusedVariables false

abbrev Txt := List UInt8
structure Dst where
  fr : Txt
  to : Txt
  mi : Int
def usableF (d : Dst) : Bool := decide (1 ≤ d.mi) && decide (d.mi ≤ 20000)

abbrev Spots := List (Txt × Int)
def look : Spots → Txt → Option Int
  | [], _ => none
  | p :: l, c => if p.1 = c then some p.2 else look l c
def putL : Spots → Txt → Int → Spots
  | [], c, m => [(c, m)]
  | p :: l, c, m => if p.1 = c then (p.1, m) :: l else p :: putL l c m
theorem look_put (c : Txt) (m : Int) (b : Txt) : ∀ l : Spots, look (putL l c m) b = if c = b then some m else look l b
  | [] => by simp [putL, look]
  | p :: l => by
    have ih := look_put c m b l
    by_cases h : p.1 = c
    · by_cases hb : c = b
      · simp [putL, look, h, hb]
      · have : ¬ p.1 = b := fun e => hb (h.symm.trans e)
        simp [putL, look, h, hb]
    · by_cases hb : p.1 = b
      · have : ¬ c = b := fun e => h (hb.trans e.symm)
        simp only [putL, if_neg h, look, if_pos hb, if_neg this]
      · simp [putL, look, h, hb, ih]
theorem look_mem {l : Spots} {c : Txt} {v : Int} : look l c = some v → (c, v) ∈ l := by
  induction l with
  | nil => intro h; cases h
  | cons p l ih =>
    intro h
    rw [look] at h
    split at h
    · rename_i e
      cases h
      rw [← e]
      exact List.mem_cons_self ..
    · exact List.mem_cons_of_mem _ (ih h)
theorem put_mem {l : Spots} {c : Txt} {m : Int} {p : Txt × Int} : p ∈ putL l c m → p = (c, m) ∨ p ∈ l := by
  induction l with
  | nil => intro h; simp [putL] at h; exact .inl h
  | cons q l ih =>
    intro h
    rw [putL] at h
    split at h
    · rename_i e
      rcases List.mem_cons.1 h with h | h
      · rw [e] at h; exact .inl h
      · exact .inr (List.mem_cons_of_mem _ h)
    · rcases List.mem_cons.1 h with h | h
      · exact .inr (by rw [h]; exact List.mem_cons_self ..)
      · exact (ih h).imp id (List.mem_cons_of_mem _)

def reachF (l : Spots) (c : Txt) (m : Int) : Spots × Bool := match look l c with
  | some v => if v ≤ m then (l, false) else (putL l c m, true)
  | none => (putL l c m, true)
def relaxF (l : Spots) (x y : Txt) (n : Int) : Spots × Bool := match look l x with
  | some m => reachF l y (m + n)
  | none => (l, false)
def stepF (s : Spots × Bool) (d : Dst) : Spots × Bool :=
  if usableF d then
    let a := relaxF s.1 d.fr d.to d.mi
    let b := relaxF a.1 d.to d.fr d.mi
    (b.1, s.2 || a.2 || b.2)
  else s
def roundF (ds : List Dst) (l : Spots) : Spots × Bool := ds.foldl stepF (l, false)

/-- As the reference does it: both are looked up first. -/
def refStepF (s : Spots × Bool) (d : Dst) : Spots × Bool :=
  if usableF d then
    let x := look s.1 d.fr
    let y := look s.1 d.to
    let a := match x with
      | some m => reachF s.1 d.to (m + d.mi)
      | none => (s.1, false)
    let b := match y with
      | some m => reachF a.1 d.fr (m + d.mi)
      | none => (a.1, false)
    (b.1, s.2 || a.2 || b.2)
  else s

theorem reachF_no {l : Spots} {c : Txt} {m v : Int} (h : look l c = some v) (hv : v ≤ m) : reachF l c m = (l, false) := by
  simp only [reachF, h, hv, if_true]

theorem refStep_eq (s : Spots × Bool) (d : Dst) : refStepF s d = stepF s d := by
  unfold refStepF stepF
  split
  · rename_i hu
    simp only [usableF, Bool.and_eq_true, decide_eq_true_eq] at hu
    obtain ⟨hu1, hu2⟩ := hu
    simp only [relaxF]
    cases hx : look s.1 d.fr with
    | none =>
      simp only
    | some m =>
      simp only
      cases hy : look s.1 d.to with
      | none =>
        simp only
        have hr : reachF s.1 d.to (m + d.mi) = (putL s.1 d.to (m + d.mi), true) := by simp only [reachF, hy]
        rw [hr]
        simp only [look_put, if_true]
        by_cases e : d.to = d.fr
        · rw [e] at hy
          rw [hy] at hx
          cases hx
        · have h1 : look (putL s.1 d.to (m + d.mi)) d.fr = some m := by rw [look_put, if_neg e, hx]
          rw [reachF_no h1 (by omega)]
      | some old =>
        simp only
        by_cases ho : old ≤ m + d.mi
        · rw [reachF_no hy ho]
          simp only [hy]
        · have hr : reachF s.1 d.to (m + d.mi) = (putL s.1 d.to (m + d.mi), true) := by simp only [reachF, hy, ho, if_false]
          rw [hr]
          simp only [look_put, if_true]
          by_cases e : d.to = d.fr
          · rw [e, hx] at hy
            cases hy
            exact absurd (show m ≤ m + d.mi by omega) ho
          · have h1 : look (putL s.1 d.to (m + d.mi)) d.fr = some m := by rw [look_put, if_neg e, hx]
            rw [reachF_no h1 (by omega), reachF_no h1 (by omega)]
  · rfl

/-! ### It ends -/
def un (N : List Txt) (l : Spots) : Nat := (N.filter fun c => (look l c).isNone).length
def InvL (N : List Txt) (l : Spots) : Prop := (∀ p ∈ l, 0 ≤ p.2 ∧ p.2 + 20000 * un N l ≤ 20000 * N.length) ∧ l.length + un N l ≤ N.length + 1
def vals (l : Spots) : Int := (l.map (·.2)).sum
def rank (N : List Txt) (l : Spots) : Nat := un N l * (20000 * N.length + 1) + (vals l).toNat

theorem filt_le {p q : Txt → Bool} (h : ∀ x, q x = true → p x = true) : ∀ N : List Txt, (N.filter q).length ≤ (N.filter p).length
  | [] => Nat.le_refl _
  | c :: N => by
    have ih := filt_le h N
    cases hq : q c with
    | true => rw [List.filter_cons_of_pos hq, List.filter_cons_of_pos (h c hq)]; simp only [List.length_cons]; omega
    | false =>
      rw [List.filter_cons_of_neg (by simp [hq])]
      cases hp : p c with
      | true => rw [List.filter_cons_of_pos hp]; simp only [List.length_cons]; omega
      | false => rw [List.filter_cons_of_neg (by simp [hp])]; exact ih
theorem filt_lt {p q : Txt → Bool} (h : ∀ x, q x = true → p x = true) {a : Txt} (hp : p a = true) (hq : q a = false) : ∀ N : List Txt, a ∈ N → (N.filter q).length < (N.filter p).length
  | [], ha => by cases ha
  | c :: N, ha => by
    have hle := filt_le h N
    rcases List.mem_cons.1 ha with e | ha'
    · subst e
      rw [List.filter_cons_of_neg (by simp [hq]), List.filter_cons_of_pos hp]; simp only [List.length_cons]; omega
    · have ih := filt_lt h hp hq N ha'
      cases hqc : q c with
      | true => rw [List.filter_cons_of_pos hqc, List.filter_cons_of_pos (h c hqc)]; simp only [List.length_cons]; omega
      | false =>
        rw [List.filter_cons_of_neg (by simp [hqc])]
        cases hpc : p c with
        | true => rw [List.filter_cons_of_pos hpc]; simp only [List.length_cons]; omega
        | false => rw [List.filter_cons_of_neg (by simp [hpc])]; exact ih

theorem vals_put_new {l : Spots} {c : Txt} {m : Int} : look l c = none → vals (putL l c m) = vals l + m := by
  induction l with
  | nil => intro _; simp [putL, vals]
  | cons p l ih =>
    intro h
    rw [look] at h
    split at h
    · cases h
    · rename_i e
      have := ih h
      simp only [putL, if_neg e, vals, List.map_cons, List.sum_cons] at this ⊢
      omega
theorem vals_put_old {l : Spots} {c : Txt} {m v : Int} : look l c = some v → vals (putL l c m) = vals l + m - v := by
  induction l with
  | nil => intro h; cases h
  | cons p l ih =>
    intro h
    rw [look] at h
    split at h
    · rename_i e
      cases h
      simp only [putL, if_pos e, vals, List.map_cons, List.sum_cons]
      omega
    · rename_i e
      have := ih h
      simp only [putL, if_neg e, vals, List.map_cons, List.sum_cons] at this ⊢
      omega
theorem len_put_new {l : Spots} {c : Txt} {m : Int} : look l c = none → (putL l c m).length = l.length + 1 := by
  induction l with
  | nil => intro _; simp [putL]
  | cons p l ih =>
    intro h
    rw [look] at h
    split at h
    · cases h
    · rename_i e
      simp only [putL, if_neg e, List.length_cons, ih h]
theorem len_put_old {l : Spots} {c : Txt} {m v : Int} : look l c = some v → (putL l c m).length = l.length := by
  induction l with
  | nil => intro h; cases h
  | cons p l ih =>
    intro h
    rw [look] at h
    split at h
    · rename_i e
      simp only [putL, if_pos e, List.length_cons]
    · rename_i e
      simp only [putL, if_neg e, List.length_cons, ih h]
theorem vals_pos {l : Spots} (h : ∀ p ∈ l, 0 ≤ p.2) : 0 ≤ vals l := by
  induction l with
  | nil => simp [vals]
  | cons p l ih =>
    have h1 := h p (List.mem_cons_self ..)
    have h2 := ih fun q hq => h q (List.mem_cons_of_mem _ hq)
    simp only [vals, List.map_cons, List.sum_cons] at h2 ⊢
    omega

/-- What a number that is reached does: nothing, or it makes the rank less. -/
def Less (N : List Txt) (l : Spots) (r : Spots × Bool) : Prop := InvL N r.1 ∧ ((r.2 = false ∧ r.1 = l) ∨ (r.2 = true ∧ rank N r.1 < rank N l))

theorem reach_less {N : List Txt} {l : Spots} {c : Txt} {m0 n : Int} (hi : InvL N l) (hc : c ∈ N) (h0 : ∃ x, look l x = some m0) (hn : 1 ≤ n) (hn2 : n ≤ 20000) : Less N l (reachF l c (m0 + n)) := by
  obtain ⟨x, hx⟩ := h0
  have hm := hi.1 _ (look_mem hx)
  simp only at hm
  have hv := vals_pos fun p hp => (hi.1 p hp).1
  have hln := hi.2
  unfold reachF
  cases hy : look l c with
  | some v =>
    simp only
    have hv2 := hi.1 _ (look_mem hy)
    simp only at hv2
    split
    · exact ⟨hi, .inl ⟨rfl, rfl⟩⟩
    · rename_i hlt
      have hu : un N (putL l c (m0 + n)) = un N l := by
        unfold un
        congr 1
        refine List.filter_congr fun b _ => ?_
        rw [look_put]
        by_cases e : c = b
        · rw [if_pos e, ← e, hy]; rfl
        · rw [if_neg e]
      have hs := vals_put_old (m := m0 + n) hy
      have hI : InvL N (putL l c (m0 + n)) := ⟨fun p hp => by
        rw [hu]
        rcases put_mem hp with rfl | hp
        · simp only; omega
        · exact hi.1 p hp, by rw [hu, len_put_old hy]; exact hln⟩
      have hv3 := vals_pos fun p hp => (hI.1 p hp).1
      refine ⟨hI, .inr ⟨rfl, ?_⟩⟩
      simp only [rank, hu]
      omega
  | none =>
    simp only
    have hu : un N (putL l c (m0 + n)) < un N l := by
      unfold un
      refine filt_lt (fun b hb => ?_) (a := c) (by rw [hy]; rfl) (by rw [look_put, if_pos rfl]; rfl) N hc
      rw [look_put] at hb
      by_cases e : c = b
      · rw [if_pos e] at hb; cases hb
      · rwa [if_neg e] at hb
    have hs := vals_put_new (m := m0 + n) hy
    have hI : InvL N (putL l c (m0 + n)) := ⟨fun p hp => by
      rcases put_mem hp with rfl | hp
      · simp only; omega
      · have := hi.1 p hp
        omega, by rw [len_put_new hy]; omega⟩
    have hv3 := vals_pos fun p hp => (hI.1 p hp).1
    refine ⟨hI, .inr ⟨rfl, ?_⟩⟩
    simp only [rank]
    have h1 : (un N (putL l c (m0 + n)) + 1) * (20000 * N.length + 1) ≤ un N l * (20000 * N.length + 1) := Nat.mul_le_mul_right _ hu
    rw [Nat.add_mul, Nat.one_mul] at h1
    have h2 : m0 + n ≤ 20000 * N.length := by omega
    omega

theorem relax_less {N : List Txt} {l : Spots} {x y : Txt} {n : Int} (hi : InvL N l) (hy : y ∈ N) (hn : 1 ≤ n) (hn2 : n ≤ 20000) : Less N l (relaxF l x y n) := by
  unfold relaxF
  cases hx : look l x with
  | none => exact ⟨hi, .inl ⟨rfl, rfl⟩⟩
  | some m => exact reach_less hi hy ⟨x, hx⟩ hn hn2

/-- After some of a round: nothing was changed, or the rank is less. -/
def Sofar (N : List Txt) (l : Spots) (s : Spots × Bool) : Prop := InvL N s.1 ∧ ((s.2 = false ∧ s.1 = l) ∨ (s.2 = true ∧ rank N s.1 < rank N l))
theorem step_sofar {N : List Txt} {l : Spots} {s : Spots × Bool} {d : Dst} (h : Sofar N l s) (hf : d.fr ∈ N) (ht : d.to ∈ N) : Sofar N l (stepF s d) := by
  unfold stepF
  split
  · rename_i hu
    simp only [usableF, Bool.and_eq_true, decide_eq_true_eq] at hu
    obtain ⟨i1, h1⟩ := h
    obtain ⟨i2, h2⟩ := relax_less (x := d.fr) i1 ht hu.1 hu.2
    obtain ⟨i3, h3⟩ := relax_less (x := d.to) i2 hf hu.1 hu.2
    refine ⟨i3, ?_⟩
    simp only
    rcases h1 with ⟨a1, b1⟩ | ⟨a1, b1⟩ <;> rcases h2 with ⟨a2, b2⟩ | ⟨a2, b2⟩ <;> rcases h3 with ⟨a3, b3⟩ | ⟨a3, b3⟩
    · exact .inl ⟨by rw [a1, a2, a3]; rfl, by rw [b3, b2, b1]⟩
    all_goals refine .inr ⟨by simp [a1, a2, a3], ?_⟩
    all_goals (try rw [b3]) <;> (try rw [b2] at *) <;> (try rw [b1] at *) <;> omega
  · exact h
theorem round_sofar {N : List Txt} {l : Spots} (hi : InvL N l) : ∀ (ds : List Dst), (∀ d ∈ ds, d.fr ∈ N ∧ d.to ∈ N) → ∀ s, Sofar N l s → Sofar N l (ds.foldl stepF s)
  | [], _, s, h => h
  | d :: ds, hd, s, h => round_sofar hi ds (fun x hx => hd x (List.mem_cons_of_mem _ hx)) _ (step_sofar h (hd d (List.mem_cons_self ..)).1 (hd d (List.mem_cons_self ..)).2)

/-- What is found in the end. -/
inductive Clo (ds : List Dst) : Spots → Spots → Prop
  | stop {l : Spots} (h : (roundF ds l).2 = false) : Clo ds l (roundF ds l).1
  | more {l r : Spots} (h : (roundF ds l).2 = true) (k : Clo ds (roundF ds l).1 r) : Clo ds l r
def closeF (ds : List Dst) : Nat → Spots → Spots
  | 0, l => l
  | n + 1, l => if (roundF ds l).2 then closeF ds n (roundF ds l).1 else (roundF ds l).1
theorem closeF_clo {N : List Txt} {ds : List Dst} (hd : ∀ d ∈ ds, d.fr ∈ N ∧ d.to ∈ N) : ∀ (n : Nat) (l : Spots), InvL N l → rank N l < n → Clo ds l (closeF ds n l)
  | 0, l, _, h => by omega
  | n + 1, l, hi, h => by
    have hs := round_sofar hi ds hd (l, false) ⟨hi, .inl ⟨rfl, rfl⟩⟩
    rw [closeF]
    cases hb : (roundF ds l).2 with
    | false => exact .stop hb
    | true =>
      rcases hs.2 with ⟨h1, _⟩ | ⟨_, h2⟩
      · rw [show (ds.foldl stepF (l, false)).2 = true from hb] at h1
        cases h1
      · exact .more hb (closeF_clo hd n _ hs.1 (by have : rank N (roundF ds l).1 < rank N l := h2
                                                   omega))
end Go.Proofs.Ytbbjjnhcbfdhlaa
