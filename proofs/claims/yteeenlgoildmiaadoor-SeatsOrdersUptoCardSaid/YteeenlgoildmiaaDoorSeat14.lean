/- What assignments are: valid, greatest; a further seat; claims of lesser rank. Plain. -/
import Derived.Test.YteeenlgoildmiaaDoorSeat13
import Derived.Test.YteeenlgoildmiaaDoorSeat6
namespace Go.Proofs.YteeenlgoildmiaaDoor
open Go Go.AL
set_option linter.unusedSimpArgs false
set_option linter.unusedVariables false

theorem order_nodup (cl : List Clm) : (orderF cl).Nodup := (orderF_spec cl).1.nodup_iff.2 List.nodup_range
theorem order_mem (cl : List Clm) {x : Nat} : x ∈ orderF cl ↔ x < cl.length := by rw [(orderF_spec cl).1.mem_iff, List.mem_range]
theorem order_len (cl : List Clm) : (orderF cl).length = cl.length := by have := (orderF_spec cl).1.length_eq; simpa using this
theorem init_run (se : List Sea) (cl : List Clm) : Run (fitF se cl) cl.length se.length (initF se cl) [] := run_init rfl rfl
theorem prefix_run (se : List Sea) (cl : List Clm) (k : Nat) : Run (fitF se cl) cl.length se.length (((orderF cl).take k).foldl (goF se cl) (initF se cl)) ((orderF cl).take k) := by
  have := run_fold ((orderF cl).take k) [] _ (init_run se cl) (fun x hx => by simp at hx) (fun x hx => (order_mem cl).1 (List.mem_of_mem_take hx)) (by rw [List.nil_append]; exact (List.take_sublist k _).nodup (order_nodup cl))
  rw [List.nil_append] at this
  exact this
theorem assign_run (se : List Sea) (cl : List Clm) : Run (fitF se cl) cl.length se.length (assignS se cl) (orderF cl) := by
  have := prefix_run se cl (orderF cl).length
  rw [List.take_length] at this
  exact this

/-! ### Valid -/
theorem sm_some {s : St} {i : Nat} {x : Int} (h : s.seat[i]? = some x) : s.sm i = x := by
  unfold St.sm
  rw [List.getD_eq_getElem?_getD, h]; rfl
theorem mat_ok {se : List Sea} {cl : List Clm} {s : St} (h : Mat (fitF se cl) cl.length se.length s) (i : Nat) : okAtF se cl s.seat i = true := by
  unfold okAtF
  cases hs : s.seat[i]? with
  | none => rfl
  | some x =>
    have hi : i < cl.length := by rw [← h.slen]; exact (List.getElem?_eq_some_iff.1 hs).1
    have hsm := sm_some hs
    simp only
    split
    · rfl
    · rename_i hx
      rcases h.seat i hi with h1 | ⟨k, k1, k2, k3, k4⟩
      · omega
      · have e : x = (k : Int) := by omega
        subst e
        have h0 : (0 : Int) ≤ k := by omega
        have h1 : (k : Int) < se.length := by omega
        have h2 : (s.seat.take i).contains (k : Int) = false := by
          cases hb : (s.seat.take i).contains (k : Int) with
          | false => rfl
          | true =>
            obtain ⟨j, hj, hje⟩ := List.getElem_of_mem (List.contains_iff_mem.1 hb)
            have hji : j < i := by rw [List.length_take] at hj; omega
            rw [List.getElem_take] at hje
            have hjs : s.seat[j]? = some (k : Int) := by rw [← hje]; exact List.getElem?_eq_getElem _
            rcases h.seat j (by omega) with g1 | ⟨k', g1, g2, g3, g4⟩
            · rw [sm_some hjs] at g1; omega
            · rw [sm_some hjs] at g2
              have : k' = k := by omega
              subst this
              omega
        rw [Int.toNat_natCast, k4, h2]
        simp [h0, h1]
theorem assign_valid (se : List Sea) (cl : List Clm) : validF se cl (assignF se cl) = true := by
  have h := (assign_run se cl).mat
  unfold validF
  rw [assign_len]
  have : ∀ k, allTo se cl (assignF se cl) k = true := fun k => by
    induction k with
    | zero => rfl
    | succ k ih => rw [allTo, ih, Bool.true_and]; exact mat_ok h k
  rw [this]
  simp

/-! ### How many are served -/
theorem filt_idx (l : List Int) : (l.filter fun x => decide (0 ≤ x)).length = ((List.range l.length).filter fun i => decide (0 ≤ l.getD i 0)).length := by
  induction l with
  | nil => rfl
  | cons a l ih =>
    rw [List.length_cons, List.range_succ_eq_map, List.filter_cons, List.filter_cons, List.filter_map]
    have e : ((fun i => decide (0 ≤ (a :: l).getD i 0)) ∘ Nat.succ) = fun i => decide (0 ≤ l.getD i 0) := by
      funext i
      simp
    rw [e]
    simp only [List.getD_cons_zero]
    split <;> simp [ih]
theorem served_count (se : List Sea) (cl : List Clm) : cntF (assignF se cl) = ((List.range cl.length).filter fun x => decide (0 ≤ (assignS se cl).sm x)).length := by
  unfold cntF
  rw [filt_idx, assign_len]
  rfl
theorem most_bound {fits : Nat → Int → Bool} {C L : Nat} {s : St} {p : List Nat} (h : Run fits C L s p) (hp : ∀ x, x < C → x ∈ p) (y : Nat → Option Nat) (h1 : ∀ x i, x < C → y x = some i → i < L ∧ fits i x = true) (h2 : ∀ x x' i, x < C → x' < C → y x = some i → y x' = some i → x = x') :
    ((List.range C).filter fun x => (y x).isSome).length ≤ ((List.range C).filter fun x => decide (0 ≤ s.sm x)).length := by
  obtain ⟨U, u1, u2⟩ := h.block
  have ymem : ∀ x, x ∈ (List.range C).filter (fun x => (y x).isSome) → x < C ∧ ∃ i, y x = some i ∧ i < L ∧ fits i x = true := fun x hx => by
    rw [List.mem_filter, List.mem_range] at hx
    obtain ⟨i, hi⟩ := Option.isSome_iff_exists.1 hx.2
    exact ⟨hx.1, i, hi, h1 x i hx.1 hi⟩
  have cl : ∀ i, i < L → U i = true → ∃ d : Nat, d < C ∧ s.cm i = d ∧ s.sm d = i ∧ Only fits L U d := fun i hi hu => by
    obtain ⟨d, d1, d2, d3⟩ := u1 i hi hu
    rcases h.mat.claim i hi with h | ⟨y, y1, y2, y3⟩
    · omega
    · have : y = d := by omega
      subst this
      exact ⟨y, d1, d2, y3, d3⟩
  have un : ∀ x i, x < C → i < L → fits i x = true → U i = false → 0 ≤ s.sm x := fun x i hx hi hf hu => by
    refine Decidable.byContradiction fun hn => ?_
    have := u2 x (hp x hx) (mat_un h.mat hx hn) i hi hf
    rw [hu] at this; cases this
  refine Nat.le_trans (Nat.le_of_eq (List.length_map (fun x => match y x with
    | some i => if U i then (s.cm i).toNat else x
    | none => x)).symm) (nodup_len (nodup_map (List.nodup_range.filter _) fun x hx x' hx' he => ?_) fun z hz => ?_)
  · obtain ⟨hx1, i, hi, hiL, hif⟩ := ymem x hx
    obtain ⟨hx1', i', hi', hiL', hif'⟩ := ymem x' hx'
    simp only [hi, hi'] at he
    cases hu : U i with
    | true =>
      obtain ⟨d, d1, d2, d3, d4⟩ := cl i hiL hu
      cases hu' : U i' with
      | true =>
        obtain ⟨d', e1, e2, e3, e4⟩ := cl i' hiL' hu'
        rw [hu, hu', if_pos rfl, if_pos rfl, d2, e2] at he
        have : d = d' := by omega
        subst this
        have : i = i' := by omega
        subst this
        exact h2 x x' i hx1 hx1' hi hi'
      | false =>
        rw [hu, hu', if_pos rfl, if_neg (by simp), d2, Int.toNat_natCast] at he
        subst he
        rw [d4 i' hiL' hif'] at hu'; cases hu'
    | false =>
      cases hu' : U i' with
      | true =>
        obtain ⟨d', e1, e2, e3, e4⟩ := cl i' hiL' hu'
        rw [hu, hu', if_pos rfl, if_neg (by simp), e2, Int.toNat_natCast] at he
        subst he
        rw [e4 i hiL hif] at hu; cases hu
      | false =>
        rw [hu, hu', if_neg (by simp), if_neg (by simp)] at he
        exact he
  · obtain ⟨x, hx, rfl⟩ := List.mem_map.1 hz
    obtain ⟨hx1, i, hi, hiL, hif⟩ := ymem x hx
    rw [List.mem_filter, List.mem_range, decide_eq_true_eq]
    simp only [hi]
    cases hu : U i with
    | true =>
      obtain ⟨d, d1, d2, d3, d4⟩ := cl i hiL hu
      rw [if_pos rfl, d2, Int.toNat_natCast]
      exact ⟨d1, by omega⟩
    | false =>
      rw [if_neg (by simp)]
      exact ⟨hx1, un x i hx1 hiL hif hu⟩

/-! ### A seat more -/
theorem more_step {fits fits' : Nat → Int → Bool} {C L : Nat} (hf : ∀ k x, k < L → fits' k x = fits k x) {s t : St} {p : List Nat} {c : Nat} (hs : Run fits C L s p) (ht : Run fits' C (L + 1) t p) (hst : ∀ x, x < C → 0 ≤ s.sm x → 0 ≤ t.sm x) (hc : c < C) (hcp : c ∉ p) :
    ∀ x, x < C → 0 ≤ (go fits L s c).sm x → 0 ≤ (go fits' (L + 1) t c).sm x := by
  have Hs := go_step hs.mat hc (hs.new c hc hcp)
  have Ht := go_step ht.mat hc (ht.new c hc hcp)
  generalize go fits L s c = s' at Hs
  generalize go fits' (L + 1) t c = t' at Ht
  intro x hx h0
  by_cases hxc : x = c
  · subst hxc
    rcases Ht.got with hg | ⟨_, _, T, t1, t2⟩
    · exact hg
    · exfalso
      obtain ⟨U, u1, u2⟩ := hs.block
      have hserved : ∀ z, z < C → 0 ≤ s.sm z → 0 ≤ s'.sm z := fun z hz hz0 => by
        by_cases e : z = x
        · subst e; exact h0
        · exact (Hs.others z hz e).2 hz0
      have cs := closed_step u1 hs.mat Hs.mat hserved
      have step : ∀ w, w < L → (T w && !U w) = true → ∃ d : Nat, d < C ∧ t.cm w = d ∧ t.sm d = w ∧ d ≠ x ∧ ∃ v : Nat, v < L ∧ s'.sm d = v ∧ s'.cm v = d ∧ (T v && !U v) = true := fun w hw hT => by
        rw [Bool.and_eq_true, Bool.not_eq_true'] at hT
        obtain ⟨hT, hU⟩ := hT
        obtain ⟨d, d1, d2, d3⟩ := t1 w (by omega) hT
        have d4 : t.sm d = w := by
          rcases ht.mat.claim w (by omega) with h | ⟨y, y1, y2, y3⟩
          · omega
          · have : y = d := by omega
            subst this; exact y3
        have hdp : d ∈ p := Decidable.byContradiction fun hn => by have := ht.new d d1 hn; omega
        have hdx : d ≠ x := fun e => hcp (e ▸ hdp)
        have hfw : fits w d = true := by
          obtain ⟨i, i1, i2, i3, i4⟩ := mat_at ht.mat d1 (by omega)
          have : i = w := by omega
          subst this
          rw [← hf i d hw]; exact i4
        have hds : 0 ≤ s.sm d := Decidable.byContradiction fun hn => by
          have := u2 d hdp (mat_un hs.mat d1 hn) w hw hfw
          rw [hU] at this; cases this
        obtain ⟨v, v1, v2, v3, v4⟩ := mat_at Hs.mat d1 (hserved d d1 hds)
        refine ⟨d, d1, d2, d4, hdx, v, v1, v2, v3, ?_⟩
        rw [Bool.and_eq_true, Bool.not_eq_true']
        refine ⟨d3 v (by omega) (by rw [hf v d v1]; exact v4), ?_⟩
        cases hUv : U v with
        | false => rfl
        | true =>
          obtain ⟨d', e1, e2, e3, e4⟩ := cs v v1 hUv
          have : d' = d := by omega
          subst this
          have := e4 w hw hfw
          rw [hU] at this; cases this
      obtain ⟨vc, c1, c2, c3, c4⟩ := mat_at Hs.mat hc h0
      have hTc : (T vc && !U vc) = true := by
        rw [Bool.and_eq_true, Bool.not_eq_true']
        refine ⟨t2 vc (by omega) (by rw [hf vc x c1]; exact c4), ?_⟩
        cases hUv : U vc with
        | false => rfl
        | true =>
          obtain ⟨d', e1, e2, e3, e4⟩ := cs vc c1 hUv
          have : d' = x := by omega
          subst this
          have := hs.new d' hc hcp
          omega
      obtain ⟨w, w1, w2, w3⟩ := ontoB (fun w => T w && !U w) (fun w => (s'.sm (t.cm w).toNat).toNat) (fun w hw hT => by
        obtain ⟨d, d1, d2, d3, d4, v, v1, v2, v3, v4⟩ := step w hw hT
        simp only [d2, v2, Int.toNat_natCast]
        exact ⟨v1, v4⟩) (fun w w' hw hT hw' hT' he => by
        obtain ⟨d, d1, d2, d3, d4, v, v1, v2, v3, v4⟩ := step w hw hT
        obtain ⟨e, e1, e2, e3, e4, z, z1, z2, z3, z4⟩ := step w' hw' hT'
        simp only [d2, v2, e2, z2, Int.toNat_natCast] at he
        subst he
        have : d = e := by omega
        subst this
        omega) vc c1 hTc
      obtain ⟨d, d1, d2, d3, d4, v, v1, v2, v3, v4⟩ := step w w1 w2
      simp only [d2, v2, Int.toNat_natCast] at w3
      subst w3
      exact d4 (by omega)
  · exact (Ht.others x hx hxc).2 (hst x hx ((Hs.others x hx hxc).1 h0))
theorem more_fold {fits fits' : Nat → Int → Bool} {C L : Nat} (hf : ∀ k x, k < L → fits' k x = fits k x) : ∀ (l p : List Nat) (s t : St), Run fits C L s p → Run fits' C (L + 1) t p → (∀ x, x < C → 0 ≤ s.sm x → 0 ≤ t.sm x) → (∀ x ∈ p, x < C) → (∀ x ∈ l, x < C) → (p ++ l).Nodup →
    ∀ x, x < C → 0 ≤ (l.foldl (go fits L) s).sm x → 0 ≤ (l.foldl (go fits' (L + 1)) t).sm x
  | [], p, s, t, _, _, h, _, _, _ => h
  | c :: l, p, s, t, hs, ht, h, hp, hl, hn => by
    have hc := hl c (List.mem_cons_self ..)
    have hcp : c ∉ p := fun hm => by
      rw [List.nodup_append] at hn
      exact hn.2.2 c hm c (List.mem_cons_self ..) rfl
    exact more_fold hf l (p ++ [c]) _ _ (run_step hs hp hc hcp (go_step hs.mat hc (hs.new c hc hcp))) (run_step ht hp hc hcp (go_step ht.mat hc (ht.new c hc hcp))) (more_step hf hs ht h hc hcp)
      (fun x hx => by rcases List.mem_append.1 hx with hx | hx; exact hp x hx; simp at hx; omega) (fun x hx => hl x (List.mem_cons_of_mem _ hx)) (by simpa using hn)
theorem assign_more (se : List Sea) (m : Sea) (cl : List Clm) : ∀ x, x < cl.length → 0 ≤ (assignS se cl).sm x → 0 ≤ (assignS (se ++ [m]) cl).sm x := by
  have h := more_fold (fits := fitF se cl) (fits' := fitF (se ++ [m]) cl) (L := se.length) (fun k x hk => by unfold fitF; rw [List.getElem?_append_left hk]) (orderF cl) [] (initF se cl) (initF (se ++ [m]) cl) (init_run se cl)
    (by have := init_run (se ++ [m]) cl; simpa using this) (fun x hx hn => by
      have := (init_run se cl).new x hx (by simp)
      omega) (fun x hx => by simp at hx) (fun x hx => (order_mem cl).1 hx) (by rw [List.nil_append]; exact order_nodup cl)
  have e : (se ++ [m]).length = se.length + 1 := by simp
  have e2 : assignS (se ++ [m]) cl = (orderF cl).foldl (go (fitF (se ++ [m]) cl) (se.length + 1)) (initF (se ++ [m]) cl) := by
    unfold assignS
    rw [← e]; rfl
  rw [e2]
  exact h

/-! ### No spare seat -/
theorem no_spare (se : List Sea) (cl : List Clm) {x k : Nat} (hx : x < cl.length) (hn : ¬ 0 ≤ (assignS se cl).sm x) (hk : k < se.length) (hf : fitF se cl k x = true) : (k : Int) ∈ assignF se cl := by
  have h := assign_run se cl
  obtain ⟨U, u1, u2⟩ := h.block
  obtain ⟨d, d1, d2, d3⟩ := u1 k hk (u2 x ((order_mem cl).2 hx) (mat_un h.mat hx hn) k hk hf)
  rcases h.mat.claim k hk with h1 | ⟨y, y1, y2, y3⟩
  · omega
  · have hl : y < (assignS se cl).seat.length := by rw [h.mat.slen]; exact y1
    have : (assignS se cl).seat[y] = k := by rw [← y3]; exact (sm_some (List.getElem?_eq_getElem hl)).symm
    rw [← this]
    exact List.getElem_mem hl

/-! ### Who is served -/
def Fill (L : Nat) (fs : List (Nat → Bool)) (t : Nat → Bool) (gl : List Nat) : Prop := gl.length = fs.length ∧ gl.Nodup ∧ ∀ (j i : Nat), gl[j]? = some i → i < L ∧ t i = false ∧ ∃ f, fs[j]? = some f ∧ f i = true
theorem fill_nil {L : Nat} {t : Nat → Bool} : Fill L [] t [] := ⟨rfl, List.nodup_nil, fun j i h => by simp at h⟩
theorem fill_cons {L : Nat} {f : Nat → Bool} {fs : List (Nat → Bool)} {t : Nat → Bool} {i : Nat} {gl : List Nat} : Fill L (f :: fs) t (i :: gl) ↔ (i < L ∧ t i = false ∧ f i = true) ∧ Fill L fs (fun k => if k = i then true else t k) gl := by
  constructor
  · rintro ⟨h1, h2, h3⟩
    rw [List.nodup_cons] at h2
    obtain ⟨a, b, f', c, d⟩ := h3 0 i rfl
    simp only [List.getElem?_cons_zero, Option.some.injEq] at c
    subst c
    refine ⟨⟨a, b, d⟩, by simpa using h1, h2.2, fun j k hj => ?_⟩
    obtain ⟨a', b', f2, c', d'⟩ := h3 (j + 1) k (by simpa using hj)
    have hki : k ≠ i := fun e => h2.1 (e ▸ List.mem_of_getElem? hj)
    exact ⟨a', by simp only; rw [if_neg hki]; exact b', f2, by simpa using c', d'⟩
  · rintro ⟨⟨a, b, d⟩, h1, h2, h3⟩
    refine ⟨by simp [h1], List.nodup_cons.2 ⟨fun hm => ?_, h2⟩, fun j k hj => ?_⟩
    · obtain ⟨j, hj, he⟩ := List.getElem_of_mem hm
      obtain ⟨_, b', _⟩ := h3 j i (by rw [← he]; exact List.getElem?_eq_getElem hj)
      simp at b'
    · cases j with
      | zero =>
        simp only [List.getElem?_cons_zero, Option.some.injEq] at hj
        subst hj
        exact ⟨a, b, f, rfl, d⟩
      | succ j =>
        obtain ⟨a', b', f2, c', d'⟩ := h3 j k (by simpa using hj)
        refine ⟨a', ?_, f2, by simpa using c', d'⟩
        simp only at b'
        by_cases e : k = i
        · rw [if_pos e] at b'; cases b'
        · rw [if_neg e] at b'; exact b'
def colF (fits : Nat → Int → Bool) (x : Nat) (i : Nat) : Bool := fits i x
def srvd (s : St) (x : Nat) : Bool := decide (0 ≤ s.sm x)
theorem served_iff {fits : Nat → Int → Bool} {C L : Nat} {s : St} {p : List Nat} {c : Nat} (h : Run fits C L s p) (hp : ∀ x ∈ p, x < C) (hpn : p.Nodup) (hc : c < C) (hcp : c ∉ p) :
    0 ≤ (go fits L s c).sm c ↔ ∃ gl, Fill L ((p.filter (srvd s) ++ [c]).map (colF fits)) (fun _ => false) gl := by
  have hst := go_step h.mat hc (h.new c hc hcp)
  generalize go fits L s c = s' at hst
  have hqn : (p.filter (srvd s) ++ [c]).Nodup := by
    rw [List.nodup_append]
    exact ⟨hpn.filter _, by simp, fun x hx y hy => by simp at hy; subst hy; exact fun e => hcp (e ▸ (List.mem_filter.1 hx).1)⟩
  have hqm : ∀ x, x ∈ p.filter (srvd s) ++ [c] → x < C ∧ (x = c ∨ 0 ≤ s.sm x) := fun x hx => by
    rcases List.mem_append.1 hx with hx | hx
    · rw [List.mem_filter, srvd, decide_eq_true_eq] at hx
      exact ⟨hp x hx.1, .inr hx.2⟩
    · simp at hx; subst hx; exact ⟨hc, .inl rfl⟩
  have hqm' : ∀ x, x < C → (x = c ∨ 0 ≤ s.sm x) → x ∈ p.filter (srvd s) ++ [c] := fun x hx h1 => by
    rcases h1 with rfl | h1
    · simp
    · refine List.mem_append.2 (.inl ?_)
      rw [List.mem_filter, srvd, decide_eq_true_eq]
      exact ⟨Decidable.byContradiction fun hn => by have := h.new x hx hn; omega, h1⟩
  generalize p.filter (srvd s) ++ [c] = q at hqn hqm hqm'
  constructor
  · intro hg
    have at' : ∀ x ∈ q, ∃ i : Nat, i < L ∧ s'.sm x = i ∧ s'.cm i = x ∧ fits i x = true := fun x hx => by
      obtain ⟨h1, h2⟩ := hqm x hx
      refine mat_at hst.mat h1 ?_
      by_cases e : x = c
      · subst e; exact hg
      · exact (hst.others x h1 e).2 (h2.resolve_left e)
    refine ⟨q.map fun x => (s'.sm x).toNat, by simp, nodup_map hqn fun x hx y hy he => ?_, fun j i hj => ?_⟩
    · obtain ⟨a, a1, a2, a3, a4⟩ := at' x hx
      obtain ⟨b, b1, b2, b3, b4⟩ := at' y hy
      simp only [a2, b2, Int.toNat_natCast] at he
      subst he
      omega
    · rw [List.getElem?_map] at hj
      obtain ⟨x, hx, rfl⟩ := Option.map_eq_some_iff.1 hj
      obtain ⟨a, a1, a2, a3, a4⟩ := at' x (List.mem_of_getElem? hx)
      simp only [a2, Int.toNat_natCast]
      exact ⟨a1, trivial, colF fits x, by rw [List.getElem?_map, hx]; rfl, a4⟩
  · rintro ⟨gl, g1, g2, g3⟩
    rcases hst.got with hg | ⟨_, _, U, u1, u2⟩
    · exact hg
    · exfalso
      rw [List.length_map] at g1
      have gq : ∀ x ∈ q, ∃ i, gl[q.idxOf x]? = some i ∧ i < L ∧ fits i x = true := fun x hx => by
        have hlt := List.idxOf_lt_length_iff.2 hx
        have hg : gl[q.idxOf x]? = some gl[q.idxOf x] := List.getElem?_eq_getElem (by omega)
        obtain ⟨a, _, f, b, d⟩ := g3 _ _ hg
        rw [List.getElem?_map, List.getElem?_eq_getElem hlt, List.getElem_idxOf hlt, Option.map_some, Option.some.injEq] at b
        subst b
        exact ⟨_, hg, a, d⟩
      refine blocked u1 h.mat hc (h.new c hc hcp) u2 (fun x => gl.getD (q.idxOf x) 0) (fun x hx h1 => ?_) (fun x y hx h1 hy h2 he => ?_)
      · obtain ⟨i, i1, i2, i3⟩ := gq x (hqm' x hx h1)
        simp only [List.getD_eq_getElem?_getD, i1, Option.getD_some]
        exact ⟨i2, i3⟩
      · have mx := hqm' x hx h1
        have my := hqm' y hy h2
        obtain ⟨i, i1, i2, i3⟩ := gq x mx
        obtain ⟨j, j1, j2, j3⟩ := gq y my
        simp only [List.getD_eq_getElem?_getD, i1, j1, Option.getD_some] at he
        subst he
        have lx := List.idxOf_lt_length_iff.2 mx
        have ly := List.idxOf_lt_length_iff.2 my
        have e : q.idxOf x = q.idxOf y := by
          have hx' := (List.getElem?_eq_some_iff.1 i1)
          have hy' := (List.getElem?_eq_some_iff.1 j1)
          obtain ⟨a, b⟩ := hx'
          obtain ⟨a', b'⟩ := hy'
          exact (List.getElem_inj g2).1 (b.trans b'.symm)
        have := List.getElem_idxOf lx
        rw [← this]
        have h2 := List.getElem_idxOf ly
        simp only [e, h2]

/-! ### Claims of lesser rank -/
/-- Two runs side by side: the second's claims are some of the first's, and come first. -/
theorem less_fold {fits fits' : Nat → Int → Bool} {C C' L : Nat} {at_ : Nat → Nat} (hf : ∀ x, x < C' → colF fits' x = colF fits (at_ x)) (hC : ∀ x, x < C' → at_ x < C) (hi : ∀ x y, x < C' → y < C' → at_ x = at_ y → x = y) : ∀ (l p : List Nat) (s t : St), Run fits C L s (p.map at_) → Run fits' C' L t p →
    (∀ x ∈ p, (0 ≤ t.sm x ↔ 0 ≤ s.sm (at_ x))) → (∀ x ∈ p, x < C') → (∀ x ∈ l, x < C') → (p ++ l).Nodup →
    Run fits C L ((l.map at_).foldl (go fits L) s) ((p ++ l).map at_) ∧ ∀ x ∈ p ++ l, (0 ≤ (l.foldl (go fits' L) t).sm x ↔ 0 ≤ ((l.map at_).foldl (go fits L) s).sm (at_ x))
  | [], p, s, t, h1, h2, h, _, _, _ => by
    rw [List.append_nil]
    exact ⟨h1, h⟩
  | c :: l, p, s, t, hs, ht, h, hp, hl, hn => by
    have hc := hl c (List.mem_cons_self ..)
    have hn' := hn
    rw [List.nodup_append] at hn'
    have hcp : c ∉ p := fun hm => hn'.2.2 c hm c (List.mem_cons_self ..) rfl
    have hcm : at_ c ∉ p.map at_ := fun hm => by
      obtain ⟨x, hx, he⟩ := List.mem_map.1 hm
      exact hcp (hi x c (hp x hx) hc he ▸ hx)
    have hpm : ∀ x ∈ p.map at_, x < C := fun x hx => by
      obtain ⟨y, hy, rfl⟩ := List.mem_map.1 hx
      exact hC y (hp y hy)
    have hpn : (p.map at_).Nodup := nodup_map hn'.1 fun x hx y hy => hi x y (hp x hx) (hp y hy)
    have gs := go_step hs.mat (hC c hc) (hs.new _ (hC c hc) hcm)
    have gt := go_step ht.mat hc (ht.new c hc hcp)
    have is := served_iff hs hpm hpn (hC c hc) hcm
    have it := served_iff ht hp hn'.1 hc hcp
    have hfil : (p.map at_).filter (srvd s) = (p.filter (srvd t)).map at_ := by
      rw [List.filter_map]
      congr 1
      refine List.filter_congr fun x hx => ?_
      simp only [Function.comp, srvd]
      rw [decide_eq_decide]
      exact (h x hx).symm
    have hcols : ((p.map at_).filter (srvd s) ++ [at_ c]).map (colF fits) = (p.filter (srvd t) ++ [c]).map (colF fits') := by
      rw [hfil, List.map_append, List.map_append, List.map_map]
      congr 1
      · refine List.map_congr_left fun x hx => ?_
        exact (hf x (hp x (List.mem_filter.1 hx).1)).symm
      · simp [hf c hc]
    rw [hcols] at is
    have ih := less_fold hf hC hi l (p ++ [c]) (go fits L s (at_ c)) (go fits' L t c) (by rw [List.map_append]; exact run_step hs hpm (hC c hc) hcm gs) (run_step ht hp hc hcp gt) (fun x hx => by
        rcases List.mem_append.1 hx with hx | hx
        · have hxc : x ≠ c := fun e => hcp (e ▸ hx)
          rw [gt.others x (hp x hx) hxc, gs.others _ (hC x (hp x hx)) (fun e => hxc (hi x c (hp x hx) hc e))]
          exact h x hx
        · simp at hx; subst hx
          rw [is, it])
      (fun x hx => by rcases List.mem_append.1 hx with hx | hx; exact hp x hx; simp at hx; omega) (fun x hx => hl x (List.mem_cons_of_mem _ hx)) (by simpa using hn)
    simpa using ih
end Go.Proofs.YteeenlgoildmiaaDoor
