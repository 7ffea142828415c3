/- Record locators lie apart; the order of those that are near: plain facts. -/
import Derived.Test.YtnepgfplikifjaaLoc4
namespace Go.Proofs.Ytnepgfplikifjaa
open Go Go.AL
set_option linter.unusedSimpArgs false
set_option maxHeartbeats 2000000

theorem chk5 (a b c d e : Int) : chk [a, b, c, d, e] = (a + 3 * b + 5 * c + 7 * d + 9 * e) % 32 := by
  have : ws [a, b, c, d, e] 5 = a + 3 * b + 5 * c + 7 * d + 9 * e := by
    simp only [ws, List.getD_eq_getElem?_getD, List.getElem?_cons_zero, List.getElem?_cons_succ, Option.getD_some]
    omega
  rw [chk, this]

theorem apart {t u : List UInt8} (ht : good t = true) (hu : good u = true) {i : Nat} (h : ∀ j, j ≠ i → t[j]? = u[j]?) : t = u := by
  obtain ⟨t1, t2, t3⟩ := good_iff.1 ht
  obtain ⟨u1, u2, u3⟩ := good_iff.1 hu
  have ts := vals_small t2
  have us := vals_small u2
  have tl : (vals t).length = 5 := by simp [vals]; omega
  have ul : (vals u).length = 5 := by simp [vals]; omega
  have hv : ∀ j, j ≠ i → (vals t)[j]? = (vals u)[j]? := fun j hj => by
    by_cases h5 : j < 5
    · simp only [vals, List.getElem?_map, List.getElem?_take, h5, if_true, h j hj]
    · rw [List.getElem?_eq_none (by omega), List.getElem?_eq_none (by omega)]
  suffices hvv : vals t = vals u by rw [t3, u3, hvv]
  by_cases h5 : i < 5
  · have hc : chk (vals t) = chk (vals u) := by
      have h6 := h 5 (by omega)
      have at5 : ∀ {s : List UInt8}, s.length = 6 → s = enc (vals s) → s[5]? = some (atc (chk (vals s))) := fun {s} hl he => by
        have hl' : ((vals s).map atc).length = 5 := by simp [vals]; omega
        have : s[5]? = (enc (vals s))[5]? := congrArg (fun l => l[5]?) he
        rw [this, enc, List.getElem?_append_right (by omega), hl']
        rfl
      rw [at5 t1 t3, at5 u1 u3] at h6
      have := Option.some.inj h6
      rw [← ix_atc (chk_small (vals t)), ← ix_atc (chk_small (vals u)), this]
    obtain ⟨a, b, c, d, e, hte⟩ := list5 tl
    obtain ⟨a', b', c', d', e', hue⟩ := list5 ul
    rw [hte] at hc hv ts ⊢
    rw [hue] at hc hv us ⊢
    rw [chk5, chk5] at hc
    have h0 := hv 0
    have h1 := hv 1
    have h2 := hv 2
    have h3 := hv 3
    have h4 := hv 4
    simp only [List.getElem?_cons_zero, List.getElem?_cons_succ, Option.some.injEq] at h0 h1 h2 h3 h4
    have ba := ts a (by simp); have bb := ts b (by simp); have bc := ts c (by simp); have bd := ts d (by simp); have be := ts e (by simp)
    have ba' := us a' (by simp); have bb' := us b' (by simp); have bc' := us c' (by simp); have bd' := us d' (by simp); have be' := us e' (by simp)
    have : i = 0 ∨ i = 1 ∨ i = 2 ∨ i = 3 ∨ i = 4 := by omega
    rcases this with rfl | rfl | rfl | rfl | rfl
    · have := h1 (by decide); have := h2 (by decide); have := h3 (by decide); have := h4 (by decide); subst_vars
      have : a = a' := by omega
      rw [this]
    · have := h0 (by decide); have := h2 (by decide); have := h3 (by decide); have := h4 (by decide); subst_vars
      have : b = b' := by omega
      rw [this]
    · have := h0 (by decide); have := h1 (by decide); have := h3 (by decide); have := h4 (by decide); subst_vars
      have : c = c' := by omega
      rw [this]
    · have := h0 (by decide); have := h1 (by decide); have := h2 (by decide); have := h4 (by decide); subst_vars
      have : d = d' := by omega
      rw [this]
    · have := h0 (by decide); have := h1 (by decide); have := h2 (by decide); have := h3 (by decide); subst_vars
      have : e = e' := by omega
      rw [this]
  · refine List.ext_getElem? fun j => ?_
    by_cases hj : j = i
    · rw [List.getElem?_eq_none (by omega), List.getElem?_eq_none (by omega)]
    · exact hv j hj

/-! ### Near -/
def repl (s : List UInt8) (i k : Nat) : List UInt8 := s.take i ++ [ab.getD k 0] ++ s.drop (i + 1)
def isC (s t : List UInt8) : Bool := decide (t ≠ s) && good t
def cin (s : List UInt8) (i k : Nat) : List (List UInt8) := ((List.range k).map (repl s i)).filter (isC s)
def cto (s : List UInt8) (i : Nat) : List (List UInt8) := (List.range i).flatMap fun i => cin s i 32

theorem cin_succ (s : List UInt8) (i k : Nat) : cin s i (k + 1) = cin s i k ++ (if isC s (repl s i k) then [repl s i k] else []) := by
  simp only [cin, List.range_succ, List.map_append, List.filter_append, List.map_cons, List.map_nil]
  congr 1
  cases hh : isC s (repl s i k) <;> simp [hh]

theorem cto_succ (s : List UInt8) (i : Nat) : cto s (i + 1) = cto s i ++ cin s i 32 := by
  simp [cto, List.range_succ, List.flatMap_append]

theorem repl_len {s : List UInt8} {i : Nat} (k : Nat) (hs : s.length = 6) (hi : i < 6) : (repl s i k).length = 6 := by
  simp [repl]; omega

theorem repl_get {s : List UInt8} {i : Nat} (k : Nat) (hs : s.length = 6) (hi : i < 6) {j : Nat} (hj : j ≠ i) : (repl s i k)[j]? = s[j]? := by
  have hl : (s.take i).length = i := by simp; omega
  rw [repl, List.append_assoc]
  by_cases h : j < i
  · rw [List.getElem?_append_left (by omega), List.getElem?_take, if_pos h]
  · rw [List.getElem?_append_right (by omega), hl]
    have : j - i = (j - i - 1) + 1 := by omega
    rw [this, List.singleton_append, List.getElem?_cons_succ, List.getElem?_drop]
    congr 1
    omega

theorem repl_at {s : List UInt8} {i : Nat} (k : Nat) (hs : s.length = 6) (hi : i < 6) : (repl s i k)[i]? = some (ab.getD k 0) := by
  have hl : (s.take i).length = i := by simp; omega
  rw [repl, List.append_assoc, List.getElem?_append_right (by omega), hl, Nat.sub_self]
  rfl

def num (t : List UInt8) : Int := (numF t).1

theorem num_inj {t u : List UInt8} (ht : good t = true) (hu : good u = true) (h : num t = num u) : t = u := by
  obtain ⟨t1, t2, t3⟩ := good_iff.1 ht
  obtain ⟨u1, u2, u3⟩ := good_iff.1 hu
  have e : ∀ {s : List UInt8}, good s = true → num s = hn (vals s) 5 := fun {s} hs => by rw [num, numF, if_pos hs]
  rw [e ht, e hu] at h
  obtain ⟨d1, _⟩ := digs_hn (vs := vals t) (by simp [vals]; omega) (vals_small t2)
  obtain ⟨d2, _⟩ := digs_hn (vs := vals u) (by simp [vals]; omega) (vals_small u2)
  rw [t3, u3, ← d1, ← d2, h]

/-- What is near: for each place at most one. -/
theorem cin_le {s : List UInt8} (hs : s.length = 6) {i : Nat} (hi : i < 6) : ∀ k, k ≤ 32 → (cin s i k).length ≤ 1 ∧ (∀ t ∈ cin s i k, ∃ j, j < k ∧ t = repl s i j ∧ isC s t = true)
  | 0, _ => by simp [cin]
  | k + 1, hk => by
    obtain ⟨h1, h2⟩ := cin_le hs hi k (by omega)
    rw [cin_succ]
    by_cases hc : isC s (repl s i k) = true
    · rw [if_pos hc]
      have h0 : cin s i k = [] := by
        refine List.eq_nil_iff_forall_not_mem.2 fun t ht => ?_
        obtain ⟨j, hj, rfl, hg⟩ := h2 t ht
        simp only [isC, Bool.and_eq_true] at hc hg
        have he := apart hc.2 hg.2 (i := i) fun m hm => by rw [repl_get k hs hi hm, repl_get j hs hi hm]
        have ha := repl_at k hs hi
        rw [he, repl_at j hs hi] at ha
        have hb := Option.some.inj ha
        have x1 := ix_ab ⟨j, by omega⟩
        have x2 := ix_ab ⟨k, by omega⟩
        simp only at x1 x2
        rw [hb, x2] at x1
        omega
      rw [h0]
      exact ⟨by simp, fun t ht => by simp at ht; subst ht; exact ⟨k, by omega, rfl, hc⟩⟩
    · rw [if_neg hc, List.append_nil]
      exact ⟨h1, fun t ht => by obtain ⟨j, hj, h3⟩ := h2 t ht; exact ⟨j, by omega, h3⟩⟩

theorem cto_le {s : List UInt8} (hs : s.length = 6) : ∀ i, i ≤ 6 → (cto s i).length ≤ i ∧ (∀ t ∈ cto s i, ∃ m j, m < i ∧ j < 32 ∧ t = repl s m j ∧ isC s t = true)
  | 0, _ => by simp [cto]
  | i + 1, hi => by
    obtain ⟨h1, h2⟩ := cto_le hs i (by omega)
    obtain ⟨h3, h4⟩ := cin_le hs (i := i) (by omega) 32 (Nat.le_refl _)
    rw [cto_succ]
    refine ⟨by simp only [List.length_append]; omega, fun t ht => ?_⟩
    rcases List.mem_append.1 ht with ht | ht
    · obtain ⟨m, j, hm, h5⟩ := h2 t ht; exact ⟨m, j, by omega, h5⟩
    · obtain ⟨j, hj, h5⟩ := h4 t ht; exact ⟨i, j, by omega, hj, h5⟩

theorem both_le {s : List UInt8} (hs : s.length = 6) {i k : Nat} (hi : i < 6) (hk : k ≤ 32) : (cto s i ++ cin s i k).length ≤ 6 := by
  have h1 := (cto_le hs i (by omega)).1
  have h2 := (cin_le hs hi k hk).1
  simp only [List.length_append]; omega

theorem repl_mem {s : List UInt8} (hs : s.length = 6) {i j : Nat} (hi : i < 6) (hj : j < 32) (hc : isC s (repl s i j) = true) : repl s i j ∈ cto s 6 := by
  refine List.mem_flatMap.2 ⟨i, List.mem_range.2 hi, ?_⟩
  exact List.mem_filter.2 ⟨List.mem_map.2 ⟨j, List.mem_range.2 hj, rfl⟩, hc⟩

/-! ### Their order -/
def insF : List (List UInt8) → List UInt8 → List (List UInt8)
  | [], t => [t]
  | x :: r, t => if num t < num x then t :: x :: r else x :: insF r t
def srtN (l : List (List UInt8)) : Prop := l.Pairwise fun x y => num x ≤ num y
def nearF (s : List UInt8) : List (List UInt8) := if s.length = 6 then (cto s 6).foldl insF [] else []

theorem insF_perm : ∀ (l : List (List UInt8)) (t : List UInt8), (insF l t).Perm (t :: l)
  | [], t => List.Perm.refl _
  | x :: r, t => by
    rw [insF]
    split
    · exact List.Perm.refl _
    · exact ((insF_perm r t).cons x).trans (List.Perm.swap t x r)

theorem insF_srt : ∀ (l : List (List UInt8)) (t : List UInt8), srtN l → srtN (insF l t)
  | [], t, _ => List.pairwise_singleton _ _
  | x :: r, t, h => by
    have h1 := List.pairwise_cons.1 h
    rw [insF]
    split
    · rename_i hlt
      refine List.pairwise_cons.2 ⟨fun y hy => ?_, h⟩
      rcases List.mem_cons.1 hy with rfl | hy
      · omega
      · have := h1.1 y hy; omega
    · refine List.pairwise_cons.2 ⟨fun y hy => ?_, insF_srt r t h1.2⟩
      rcases List.mem_cons.1 ((insF_perm r t).mem_iff.1 hy) with rfl | hy
      · omega
      · exact h1.1 y hy

theorem fold_spec : ∀ (l acc : List (List UInt8)), srtN acc → srtN (l.foldl insF acc) ∧ (l.foldl insF acc).Perm (acc ++ l)
  | [], acc, h => ⟨h, by simp⟩
  | t :: l, acc, h => by
    obtain ⟨h1, h2⟩ := fold_spec l (insF acc t) (insF_srt acc t h)
    refine ⟨h1, h2.trans ?_⟩
    refine ((insF_perm acc t).append_right l).trans ?_
    exact List.perm_middle.symm

theorem fold_len (l : List (List UInt8)) : (l.foldl insF []).length = l.length := by
  have := (fold_spec l [] List.Pairwise.nil).2.length_eq
  simpa using this

/-- The order is one. -/
theorem near_eq {s : List UInt8} (hs : s.length = 6) {o : List (List UInt8)} (hp : o.Perm (cto s 6)) (hsr : srtN o) : o = nearF s := by
  obtain ⟨h1, h2⟩ := fold_spec (cto s 6) [] List.Pairwise.nil
  rw [List.nil_append] at h2
  rw [nearF, if_pos hs]
  have hg : ∀ t ∈ cto s 6, good t = true := fun t ht => by
    obtain ⟨_, _, _, _, _, hc⟩ := (cto_le hs 6 (Nat.le_refl _)).2 t ht
    simp only [isC, Bool.and_eq_true] at hc
    exact hc.2
  exact List.Perm.eq_of_pairwise (le := fun x y => num x ≤ num y) (fun a b ha hb k1 k2 => num_inj (hg a (hp.mem_iff.1 ha)) (hg b (h2.mem_iff.1 hb)) (Int.le_antisymm k1 k2)) hsr h1 (hp.trans h2.symm)

theorem near_mem {s t : List UInt8} (hs : s.length = 6) : t ∈ nearF s ↔ t ∈ cto s 6 := by
  obtain ⟨h1, h2⟩ := fold_spec (cto s 6) [] List.Pairwise.nil
  rw [List.nil_append] at h2
  rw [nearF, if_pos hs]
  exact h2.mem_iff
end Go.Proofs.Ytnepgfplikifjaa
