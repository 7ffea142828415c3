/- Assignments are greatest: blocked claims, and what becomes of them. Plain. -/
import Derived.Test.YtjjdfkkfhbndiaaDoorQStSeat11
import Derived.Test.YtjjdfkkfhbndiaaDoorQStSeat4
namespace Go.Proofs.YtjjdfkkfhbndiaaDoor.St
open Go Go.AL
set_option linter.unusedSectionVars false
variable [Go.AL.Mode] [Go.AL.LooseM]
set_option linter.unusedSimpArgs false
set_option linter.unusedVariables false
theorem nodup_len {α : Type} [DecidableEq α] : ∀ {a b : List α}, a.Nodup → (∀ x ∈ a, x ∈ b) → a.length ≤ b.length
  | [], b, _, _ => Nat.zero_le _
  | x :: a, b, h, hs => by
    rw [List.nodup_cons] at h
    have hx := hs x (List.mem_cons_self ..)
    have := nodup_len (b := b.erase x) h.2 (fun y hy => by
      refine (List.mem_erase_of_ne ?_).2 (hs y (List.mem_cons_of_mem _ hy))
      rintro rfl; exact h.1 hy)
    rw [List.length_erase_of_mem hx] at this
    have : 0 < b.length := List.length_pos_of_mem hx
    simp only [List.length_cons]
    omega
theorem nodup_map {α β : Type} {f : α → β} : ∀ {l : List α}, l.Nodup → (∀ x ∈ l, ∀ y ∈ l, f x = f y → x = y) → (l.map f).Nodup
  | [], _, _ => by simp
  | a :: l, h, hi => by
    rw [List.nodup_cons] at h
    rw [List.map_cons, List.nodup_cons]
    refine ⟨fun hm => ?_, nodup_map h.2 fun x hx y hy => hi x (List.mem_cons_of_mem _ hx) y (List.mem_cons_of_mem _ hy)⟩
    obtain ⟨y, hy, he⟩ := List.mem_map.1 hm
    have := hi y (List.mem_cons_of_mem _ hy) a (List.mem_cons_self ..) he
    subst this
    exact h.1 hy
theorem onto {l : List Nat} (hn : l.Nodup) (f : Nat → Nat) (hm : ∀ x ∈ l, f x ∈ l) (hi : ∀ x ∈ l, ∀ y ∈ l, f x = f y → x = y) : ∀ y ∈ l, ∃ x ∈ l, f x = y := by
  intro y hy
  by_cases h : y ∈ l.map f
  · obtain ⟨x, hx, he⟩ := List.mem_map.1 h
    exact ⟨x, hx, he⟩
  · have h1 := nodup_len (a := y :: l.map f) (b := l) (List.nodup_cons.2 ⟨h, nodup_map hn hi⟩) (fun z hz => by
      rcases List.mem_cons.1 hz with rfl | hz
      · exact hy
      · obtain ⟨x, hx, rfl⟩ := List.mem_map.1 hz
        exact hm x hx)
    simp only [List.length_cons, List.length_map] at h1
    omega
theorem ontoB {L : Nat} (U : Nat → Bool) (f : Nat → Nat) (hm : ∀ x, x < L → U x = true → f x < L ∧ U (f x) = true) (hi : ∀ x y, x < L → U x = true → y < L → U y = true → f x = f y → x = y) : ∀ y, y < L → U y = true → ∃ x, x < L ∧ U x = true ∧ f x = y := by
  intro y hy hu
  have mem : ∀ x, x ∈ (List.range L).filter U ↔ x < L ∧ U x = true := fun x => by rw [List.mem_filter, List.mem_range]
  obtain ⟨x, hx, he⟩ := onto (l := (List.range L).filter U) (List.nodup_range.filter _) f (fun x hx => (mem _).2 (hm x ((mem x).1 hx).1 ((mem x).1 hx).2)) (fun x hx y hy => hi x y ((mem x).1 hx).1 ((mem x).1 hx).2 ((mem y).1 hy).1 ((mem y).1 hy).2) y ((mem y).2 ⟨hy, hu⟩)
  exact ⟨x, ((mem x).1 hx).1, ((mem x).1 hx).2, he⟩
section
variable {fits : Nat → Int → Bool} {C L : Nat}
def Closed (fits : Nat → Int → Bool) (C L : Nat) (s : St) (U : Nat → Bool) : Prop := ∀ i, i < L → U i = true → ∃ d : Nat, d < C ∧ s.cm i = d ∧ ∀ k, k < L → fits k d = true → U k = true
def Only (fits : Nat → Int → Bool) (L : Nat) (U : Nat → Bool) (c : Nat) : Prop := ∀ k, k < L → fits k c = true → U k = true
theorem ph_claims {s : St} {U : Nat → Bool} (hU : Closed fits C L s U) (hm : Mat fits C L s) (g : Nat → Nat) (hg : ∀ x, x < C → 0 ≤ s.sm x → g x < L ∧ fits (g x) x = true)
    (hi : ∀ x y, x < C → 0 ≤ s.sm x → y < C → 0 ≤ s.sm y → g x = g y → x = y) : ∀ u, u < L → U u = true → ∃ i, i < L ∧ U i = true ∧ ∃ d : Nat, d < C ∧ s.cm i = d ∧ s.sm d = i ∧ g d = u := by
  have cl : ∀ i, i < L → U i = true → ∃ d : Nat, d < C ∧ s.cm i = d ∧ s.sm d = i ∧ Only fits L U d := fun i hi hu => by
    obtain ⟨d, d1, d2, d3⟩ := hU i hi hu
    rcases hm.claim i hi with h | ⟨y, y1, y2, y3⟩
    · omega
    · have : y = d := by omega
      subst this
      exact ⟨y, d1, d2, y3, d3⟩
  intro u hu hUu
  obtain ⟨i, i1, i2, i3⟩ := ontoB U (fun i => g (s.cm i).toNat) (fun i hi hu => by
    obtain ⟨d, d1, d2, d3, d4⟩ := cl i hi hu
    simp only [d2, Int.toNat_natCast]
    obtain ⟨g1, g2⟩ := hg d d1 (by omega)
    exact ⟨g1, d4 _ g1 g2⟩) (fun i j hi hu hj hv he => by
    obtain ⟨d, d1, d2, d3, d4⟩ := cl i hi hu
    obtain ⟨e, e1, e2, e3, e4⟩ := cl j hj hv
    simp only [d2, e2, Int.toNat_natCast] at he
    have := ‹∀ x y, x < C → 0 ≤ s.sm x → y < C → 0 ≤ s.sm y → g x = g y → x = y› d e d1 (by omega) e1 (by omega) he
    subst this
    omega) u hu hUu
  obtain ⟨d, d1, d2, d3, d4⟩ := cl i i1 i2
  simp only [d2, Int.toNat_natCast] at i3
  exact ⟨i, i1, i2, d, d1, d2, d3, i3⟩
theorem mat_at {s : St} (hm : Mat fits C L s) {x : Nat} (hx : x < C) (h : 0 ≤ s.sm x) : ∃ i : Nat, i < L ∧ s.sm x = i ∧ s.cm i = x ∧ fits i x = true := by
  rcases hm.seat x hx with h' | h'
  · omega
  · exact h'
theorem mat_un {s : St} (hm : Mat fits C L s) {x : Nat} (hx : x < C) (h : ¬ 0 ≤ s.sm x) : s.sm x = -1 := by
  rcases hm.seat x hx with h' | ⟨i, _, h2, _⟩
  · exact h'
  · omega
theorem closed_step {s s' : St} {U : Nat → Bool} (hU : Closed fits C L s U) (hm : Mat fits C L s) (hm' : Mat fits C L s') (hs : ∀ x, x < C → 0 ≤ s.sm x → 0 ≤ s'.sm x) :
    ∀ u, u < L → U u = true → ∃ d : Nat, d < C ∧ s'.cm u = d ∧ 0 ≤ s.sm d ∧ Only fits L U d := by
  intro u hu hUu
  have at' : ∀ x, x < C → 0 ≤ s.sm x → ∃ i : Nat, i < L ∧ s'.sm x = i ∧ s'.cm i = x ∧ fits i x = true := fun x hx h => mat_at hm' hx (hs x hx h)
  obtain ⟨i, i1, i2, d, d1, d2, d3, d4⟩ := ph_claims hU hm (fun x => (s'.sm x).toNat) (fun x hx h => by
    obtain ⟨i, a, b, c, e⟩ := at' x hx h
    simp only [b, Int.toNat_natCast]
    exact ⟨a, e⟩) (fun x y hx h hy h' he => by
    obtain ⟨i, a, b, c, e⟩ := at' x hx h
    obtain ⟨j, a', b', c', e'⟩ := at' y hy h'
    simp only [b, b', Int.toNat_natCast] at he
    subst he
    omega) u hu hUu
  obtain ⟨j, a, b, c, e⟩ := at' d d1 (by omega)
  simp only [b, Int.toNat_natCast] at d4
  subst d4
  obtain ⟨d', f1, f2, f3⟩ := hU i i1 i2
  have : d' = d := by omega
  subst this
  exact ⟨d', d1, c, by omega, f3⟩
def go (fits : Nat → Int → Bool) (L : Nat) (s : St) (c : Nat) : St := (placeF fits L (L + 1) c (freshT L s)).2
theorem tr_fresh {s : St} {i : Nat} (h : i < L) : (freshT L s).tr i = false := by
  unfold freshT St.tr
  simp [List.getD_eq_getElem?_getD, List.getElem?_replicate, h]
structure Step (fits : Nat → Int → Bool) (C L : Nat) (s s' : St) (c : Nat) : Prop where
  mat : Mat fits C L s'
  others : ∀ x, x < C → x ≠ c → (0 ≤ s'.sm x ↔ 0 ≤ s.sm x)
  got : 0 ≤ s'.sm c ∨ (s'.seat = s.seat ∧ s'.claim = s.claim ∧ ∃ U, Closed fits C L s U ∧ Only fits L U c)
theorem go_step {s : St} {c : Nat} (hm : Mat fits C L s) (hc : c < C) (hn : s.sm c = -1) : Step fits C L s (go fits L s c) c := by
  have hm' : Mat fits C L (freshT L s) := mat_same hm rfl rfl
  have ht : (freshT L s).tried.length = L := by simp [freshT]
  have hw := mat_wf hm' ht
  cases hp : (placeF fits L (L + 1) c (freshT L s)).1 with
  | true =>
    have h := place_suc (L + 1) c (freshT L s) hc hm' ht (.inl hn) free_fresh hp
    show Step fits C L s (placeF fits L (L + 1) c (freshT L s)).2 c
    generalize (placeF fits L (L + 1) c (freshT L s)).2 = s' at h
    obtain ⟨j, j1, j2, j3, j4, j5⟩ := h.got
    refine ⟨⟨h.slen, h.clen, fun x hx => ?_, fun i hi => ?_⟩, fun x hx hxc => ?_, .inl (by omega)⟩
    · by_cases e : x = c
      · subst e
        exact .inr ⟨j, j1, j3, j4, j5⟩
      · rcases h.others x hx e with ⟨_, a⟩ | ⟨_, a⟩
        · exact .inl a
        · exact .inr a
    · rcases h.back i hi with a | ⟨x, x1, x2, x3⟩
      · exact .inl a
      · refine .inr ⟨x, x1, x2, ?_⟩
        rcases x3 with x3 | ⟨_, x4⟩
        · exact x3
        · have : s.sm c = i := x4
          omega
    · have e : (freshT L s).sm x = s.sm x := rfl
      rcases h.others x hx hxc with ⟨a, b⟩ | ⟨a, i, _, b, _⟩
      · rw [e] at a; omega
      · rw [e] at a; omega
  | false =>
    obtain ⟨h1, h2⟩ := place_fail (L + 1) c (freshT L s) (by omega) (by omega) hw free_fresh hp
    show Step fits C L s (placeF fits L (L + 1) c (freshT L s)).2 c
    generalize (placeF fits L (L + 1) c (freshT L s)).2 = s' at h1 h2
    have e : ∀ x, s'.sm x = s.sm x := fun x => by unfold St.sm; rw [h1.seat]; rfl
    refine ⟨mat_same hm h1.seat h1.claim, fun x _ _ => by rw [e], .inr ⟨h1.seat, h1.claim, s'.tr, fun i hi hu => ?_, h2⟩⟩
    obtain ⟨a, b⟩ := h1.closed i hi hu (tr_fresh hi)
    have e2 : (freshT L s).claim.getD i 0 = s.cm i := rfl
    rw [e2] at a b
    rcases hm.claim i hi with h | ⟨x, x1, x2, x3⟩
    · omega
    · rw [x2] at b
      exact ⟨x, x1, x2, b⟩
structure Run (fits : Nat → Int → Bool) (C L : Nat) (s : St) (p : List Nat) : Prop where
  mat : Mat fits C L s
  new : ∀ x, x < C → x ∉ p → s.sm x = -1
  block : ∃ U, Closed fits C L s U ∧ ∀ x ∈ p, s.sm x = -1 → Only fits L U x
theorem run_init {s : St} (h1 : s.seat = List.replicate C (-1)) (h2 : s.claim = List.replicate L (-1)) : Run fits C L s [] := by
  have e1 : ∀ x, x < C → s.sm x = -1 := fun x hx => by unfold St.sm; rw [h1]; simp [List.getD_eq_getElem?_getD, List.getElem?_replicate, hx]
  have e2 : ∀ x, x < L → s.cm x = -1 := fun x hx => by unfold St.cm; rw [h2]; simp [List.getD_eq_getElem?_getD, List.getElem?_replicate, hx]
  exact ⟨⟨by simp [h1], by simp [h2], fun x hx => .inl (e1 x hx), fun i hi => .inl (e2 i hi)⟩, fun x hx _ => e1 x hx, fun _ => false, fun i _ h => (by cases h), fun x hx => (by simp at hx)⟩
theorem run_step {s s' : St} {p : List Nat} {c : Nat} (h : Run fits C L s p) (hp : ∀ x ∈ p, x < C) (hc : c < C) (hcp : c ∉ p) (hs : Step fits C L s s' c) : Run fits C L s' (p ++ [c]) := by
  obtain ⟨U, u1, u2⟩ := h.block
  refine ⟨hs.mat, fun x hx hxp => ?_, ?_⟩
  · have hxc : x ≠ c := fun e => hxp (by simp [e])
    have := hs.others x hx hxc
    have h1 := h.new x hx (fun e => hxp (by simp [e]))
    exact mat_un hs.mat hx (by rw [this]; omega)
  · rcases hs.got with hg | ⟨e1, e2, T, t1, t2⟩
    · have hserved : ∀ x, x < C → 0 ≤ s.sm x → 0 ≤ s'.sm x := fun x hx hx0 => by
        by_cases e : x = c
        · subst e; exact hg
        · exact (hs.others x hx e).2 hx0
      refine ⟨U, fun i hi hu => ?_, fun x hx hn => ?_⟩
      · obtain ⟨d, d1, d2, _, d3⟩ := closed_step u1 h.mat hs.mat hserved i hi hu
        exact ⟨d, d1, d2, d3⟩
      · rcases List.mem_append.1 hx with hx' | hx'
        · have hxc : x ≠ c := fun e => hcp (e ▸ hx')
          refine u2 x hx' (mat_un h.mat (hp x hx') ?_)
          rw [← hs.others x (hp x hx') hxc]
          omega
        · simp at hx'; subst hx'; omega
    · have f1 : ∀ x, s'.sm x = s.sm x := fun x => by unfold St.sm; rw [e1]
      have f2 : ∀ x, s'.cm x = s.cm x := fun x => by unfold St.cm; rw [e2]
      refine ⟨fun i => U i || T i, fun i hi hu => ?_, fun x hx hn => ?_⟩
      · rcases Bool.or_eq_true_iff.1 hu with hu | hu
        · obtain ⟨d, d1, d2, d3⟩ := u1 i hi hu
          exact ⟨d, d1, by rw [f2]; exact d2, fun k hk hf => by simp [d3 k hk hf]⟩
        · obtain ⟨d, d1, d2, d3⟩ := t1 i hi hu
          exact ⟨d, d1, by rw [f2]; exact d2, fun k hk hf => by simp [d3 k hk hf]⟩
      · rcases List.mem_append.1 hx with hx | hx
        · exact fun k hk hf => by simp [u2 x hx (by rw [← f1]; exact hn) k hk hf]
        · simp at hx; subst hx
          exact fun k hk hf => by simp [t2 k hk hf]
theorem run_fold : ∀ (l p : List Nat) (s : St), Run fits C L s p → (∀ x ∈ p, x < C) → (∀ x ∈ l, x < C) → (p ++ l).Nodup → Run fits C L (l.foldl (go fits L) s) (p ++ l)
  | [], p, s, h, _, _, _ => by rw [List.append_nil]; exact h
  | c :: l, p, s, h, hp, hl, hn => by
    have hc := hl c (List.mem_cons_self ..)
    have hcp : c ∉ p := fun hm => by
      rw [List.nodup_append] at hn
      exact hn.2.2 c hm c (List.mem_cons_self ..) rfl
    have h1 := run_step h hp hc hcp (go_step h.mat hc (h.new c hc hcp))
    have := run_fold l (p ++ [c]) _ h1 (fun x hx => by rcases List.mem_append.1 hx with hx | hx; exact hp x hx; simp at hx; omega) (fun x hx => hl x (List.mem_cons_of_mem _ hx)) (by simpa using hn)
    simpa using this
end
end Go.Proofs.YtjjdfkkfhbndiaaDoor.St
/- What assignments are: valid, greatest; a further seat; claims of lesser rank. Plain. -/
namespace Go.Proofs.YtjjdfkkfhbndiaaDoor.St
open Go Go.AL
set_option linter.unusedSectionVars false
variable [Go.AL.Mode] [Go.AL.LooseM]
set_option linter.unusedSimpArgs false
set_option linter.unusedVariables false
theorem order_nodup (cl : List Clm) : (orderF cl).Nodup := (orderF_spec cl).1.nodup_iff.2 List.nodup_range
theorem order_mem (cl : List Clm) {x : Nat} : x ∈ orderF cl ↔ x < cl.length := by rw [(orderF_spec cl).1.mem_iff, List.mem_range]
theorem init_run (se : List Sea) (cl : List Clm) : Run (fitF se cl) cl.length se.length (initF se cl) [] := run_init rfl rfl
theorem prefix_run (se : List Sea) (cl : List Clm) (k : Nat) : Run (fitF se cl) cl.length se.length (((orderF cl).take k).foldl (goF se cl) (initF se cl)) ((orderF cl).take k) := by
  have := run_fold ((orderF cl).take k) [] _ (init_run se cl) (fun x hx => by simp at hx) (fun x hx => (order_mem cl).1 (List.mem_of_mem_take hx)) (by rw [List.nil_append]; exact (List.take_sublist k _).nodup (order_nodup cl))
  rw [List.nil_append] at this
  exact this
theorem assign_run (se : List Sea) (cl : List Clm) : Run (fitF se cl) cl.length se.length (assignS se cl) (orderF cl) := by
  have := prefix_run se cl (orderF cl).length
  rw [List.take_length] at this
  exact this
theorem sm_some {s : St} {i : Nat} {x : Int} (h : s.seat[i]? = some x) : s.sm i = x := by
  unfold St.sm
  rw [List.getD_eq_getElem?_getD, h]; rfl
theorem mat_ok {se : List Sea} {cl : List Clm} {s : St} (h : Mat (fitF se cl) cl.length se.length s) (i : Nat) : okAtF se cl s.seat i = true := by
  unfold okAtF
  cases hs : s.seat[i]? with
  | none => rfl
  | some x =>
    have hi : i < cl.length := by rw [← h.slen]; exact (List.getElem?_eq_some_iff.1 hs).1
    have hsm := sm_some hs
    simp only
    split
    · rfl
    · rename_i hx
      rcases h.seat i hi with h1 | ⟨k, k1, k2, k3, k4⟩
      · omega
      · have e : x = (k : Int) := by omega
        subst e
        have h0 : (0 : Int) ≤ k := by omega
        have h1 : (k : Int) < se.length := by omega
        have h2 : (s.seat.take i).contains (k : Int) = false := by
          cases hb : (s.seat.take i).contains (k : Int) with
          | false => rfl
          | true =>
            obtain ⟨j, hj, hje⟩ := List.getElem_of_mem (List.contains_iff_mem.1 hb)
            have hji : j < i := by rw [List.length_take] at hj; omega
            rw [List.getElem_take] at hje
            have hjs : s.seat[j]? = some (k : Int) := by rw [← hje]; exact List.getElem?_eq_getElem _
            rcases h.seat j (by omega) with g1 | ⟨k', g1, g2, g3, g4⟩
            · rw [sm_some hjs] at g1; omega
            · rw [sm_some hjs] at g2
              have : k' = k := by omega
              subst this
              omega
        rw [Int.toNat_natCast, k4, h2]
        simp [h0, h1]
theorem assign_valid (se : List Sea) (cl : List Clm) : validF se cl (assignF se cl) = true := by
  have h := (assign_run se cl).mat
  unfold validF
  rw [assign_len]
  have : ∀ k, allTo se cl (assignF se cl) k = true := fun k => by
    induction k with
    | zero => rfl
    | succ k ih => rw [allTo, ih, Bool.true_and]; exact mat_ok h k
  rw [this]
  simp
def Fill (L : Nat) (fs : List (Nat → Bool)) (t : Nat → Bool) (gl : List Nat) : Prop := gl.length = fs.length ∧ gl.Nodup ∧ ∀ (j i : Nat), gl[j]? = some i → i < L ∧ t i = false ∧ ∃ f, fs[j]? = some f ∧ f i = true
theorem fill_nil {L : Nat} {t : Nat → Bool} : Fill L [] t [] := ⟨rfl, List.nodup_nil, fun j i h => by simp at h⟩
theorem fill_cons {L : Nat} {f : Nat → Bool} {fs : List (Nat → Bool)} {t : Nat → Bool} {i : Nat} {gl : List Nat} : Fill L (f :: fs) t (i :: gl) ↔ (i < L ∧ t i = false ∧ f i = true) ∧ Fill L fs (fun k => if k = i then true else t k) gl := by
  constructor
  · rintro ⟨h1, h2, h3⟩
    rw [List.nodup_cons] at h2
    obtain ⟨a, b, f', c, d⟩ := h3 0 i rfl
    simp only [List.getElem?_cons_zero, Option.some.injEq] at c
    subst c
    refine ⟨⟨a, b, d⟩, by simpa using h1, h2.2, fun j k hj => ?_⟩
    obtain ⟨a', b', f2, c', d'⟩ := h3 (j + 1) k (by simpa using hj)
    have hki : k ≠ i := fun e => h2.1 (e ▸ List.mem_of_getElem? hj)
    exact ⟨a', by simp only; rw [if_neg hki]; exact b', f2, by simpa using c', d'⟩
  · rintro ⟨⟨a, b, d⟩, h1, h2, h3⟩
    refine ⟨by simp [h1], List.nodup_cons.2 ⟨fun hm => ?_, h2⟩, fun j k hj => ?_⟩
    · obtain ⟨j, hj, he⟩ := List.getElem_of_mem hm
      obtain ⟨_, b', _⟩ := h3 j i (by rw [← he]; exact List.getElem?_eq_getElem hj)
      simp at b'
    · cases j with
      | zero =>
        simp only [List.getElem?_cons_zero, Option.some.injEq] at hj
        subst hj
        exact ⟨a, b, f, rfl, d⟩
      | succ j =>
        obtain ⟨a', b', f2, c', d'⟩ := h3 j k (by simpa using hj)
        refine ⟨a', ?_, f2, by simpa using c', d'⟩
        simp only at b'
        by_cases e : k = i
        · rw [if_pos e] at b'; cases b'
        · rw [if_neg e] at b'; exact b'
end Go.Proofs.YtjjdfkkfhbndiaaDoor.St
