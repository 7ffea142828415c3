/- Who is served: the reference, plain. -/
import Derived.Test.YteeenlgoildmiaaDoorSeat19
import Derived.Test.YteeenlgoildmiaaDoorSeat16
namespace Go.Proofs.YteeenlgoildmiaaDoor
open Go Go.AL
set_option linter.unusedSimpArgs false
set_option linter.unusedVariables false

/-! ### The first one that was not considered -/
def bestTo (cl : List Clm) (d : List Bool) : Nat → Option Nat
  | 0 => none
  | k + 1 => if d.getD k true then bestTo cl d k else match bestTo cl d k with
    | none => some k
    | some a => if (gk cl a).rank < (gk cl k).rank then some k else some a
theorem best_spec (cl : List Clm) (d : List Bool) : ∀ k, match bestTo cl d k with
    | none => ∀ b, b < k → d.getD b true = true
    | some a => a < k ∧ d.getD a true = false ∧ ∀ b, b < k → d.getD b true = false → ltG cl b a = false
  | 0 => fun b h => by omega
  | k + 1 => by
    have ih := best_spec cl d k
    rw [bestTo]
    cases hd : d.getD k true with
    | true =>
      rw [if_pos rfl]
      cases hb : bestTo cl d k with
      | none =>
        rw [hb] at ih
        intro b hbk
        by_cases e : b = k
        · rw [e]; exact hd
        · exact ih b (by omega)
      | some a =>
        rw [hb] at ih
        obtain ⟨h1, h2, h3⟩ := ih
        refine ⟨by omega, h2, fun b hbk hbd => ?_⟩
        have e : b ≠ k := fun e => by rw [e, hd] at hbd; cases hbd
        exact h3 b (by omega) hbd
    | false =>
      rw [if_neg (by simp)]
      cases hb : bestTo cl d k with
      | none =>
        rw [hb] at ih
        refine ⟨by omega, hd, fun b hbk hbd => ?_⟩
        by_cases e : b = k
        · rw [e]; simp [ltG]
        · have := ih b (by omega)
          rw [this] at hbd; cases hbd
      | some a =>
        rw [hb] at ih
        obtain ⟨h1, h2, h3⟩ := ih
        simp only
        by_cases hr : (gk cl a).rank < (gk cl k).rank
        · rw [if_pos hr]
          refine ⟨by omega, hd, fun b hbk hbd => ?_⟩
          by_cases e : b = k
          · rw [e]; simp [ltG]
          · have := h3 b (by omega) hbd
            simp only [ltG, decide_eq_false_iff_not] at this ⊢
            omega
        · rw [if_neg hr]
          refine ⟨by omega, h2, fun b hbk hbd => ?_⟩
          by_cases e : b = k
          · rw [e]
            simp only [ltG, decide_eq_false_iff_not]
            omega
          · exact h3 b (by omega) hbd
def doneL (n : Nat) (p : List Nat) : List Bool := (List.range n).map fun x => decide (x ∈ p)
theorem doneL_get {n : Nat} {p : List Nat} {x : Nat} (h : x < n) : (doneL n p)[x]? = some (decide (x ∈ p)) := by
  unfold doneL
  rw [List.getElem?_map, List.getElem?_range h]; rfl
theorem doneL_len (n : Nat) (p : List Nat) : (doneL n p).length = n := by simp [doneL]
theorem doneL_getD {n : Nat} {p : List Nat} {x : Nat} (h : x < n) : (doneL n p).getD x true = decide (x ∈ p) := by rw [List.getD_eq_getElem?_getD, doneL_get h]; rfl
theorem doneL_set {n : Nat} {p : List Nat} {c : Nat} : (doneL n p).set c true = doneL n (p ++ [c]) := by
  refine List.ext_getElem? fun x => ?_
  rw [List.getElem?_set]
  by_cases hx : x < n
  · rw [doneL_get hx, doneL_get hx, doneL_len]
    by_cases e : c = x
    · subst e; simp [hx]
    · have : ¬ x = c := fun h => e h.symm
      simp [e, this]
  · have h1 : (doneL n p)[x]? = none := List.getElem?_eq_none (by rw [doneL_len]; omega)
    have h2 : (doneL n (p ++ [c]))[x]? = none := List.getElem?_eq_none (by rw [doneL_len]; omega)
    rw [h1, h2, doneL_len]
    split
    · rw [if_neg (by omega)]
    · rfl
theorem best_order (cl : List Clm) (k : Nat) : bestTo cl (doneL cl.length ((orderF cl).take k)) cl.length = (orderF cl)[k]? := by
  have hs := best_spec cl (doneL cl.length ((orderF cl).take k)) cl.length
  have hlen := order_len cl
  have hnd := order_nodup cl
  have hp := (orderF_spec cl).2
  cases hc : (orderF cl)[k]? with
  | none =>
    have hge := List.getElem?_eq_none_iff.1 hc
    rw [List.take_of_length_le hge] at hs ⊢
    cases hb : bestTo cl (doneL cl.length (orderF cl)) cl.length with
    | none => rfl
    | some a =>
      rw [hb] at hs
      obtain ⟨h1, h2, _⟩ := hs
      rw [doneL_getD h1, decide_eq_false_iff_not] at h2
      exact absurd ((order_mem cl).2 h1) h2
  | some c =>
    have hkl := (List.getElem?_eq_some_iff.1 hc).1
    have hcC : c < cl.length := (order_mem cl).1 (List.mem_of_getElem? hc)
    have hcn : c ∉ (orderF cl).take k := fun hm => by
      obtain ⟨j, hj, he⟩ := List.getElem_of_mem hm
      rw [List.getElem_take] at he
      rw [List.length_take] at hj
      have h2 := (List.getElem?_eq_some_iff.1 hc).2
      have := (List.getElem_inj hnd).1 (he.trans h2.symm)
      omega
    cases hb : bestTo cl (doneL cl.length ((orderF cl).take k)) cl.length with
    | none =>
      rw [hb] at hs
      have := hs c hcC
      rw [doneL_getD hcC, decide_eq_true_eq] at this
      exact absurd this hcn
    | some a =>
      rw [hb] at hs
      obtain ⟨h1, h2, h3⟩ := hs
      rw [doneL_getD h1, decide_eq_false_iff_not] at h2
      have hca := h3 c hcC (by rw [doneL_getD hcC, decide_eq_false_iff_not]; exact hcn)
      obtain ⟨j, hj, he⟩ := List.getElem_of_mem ((order_mem cl).2 h1)
      have hjk : ¬ j < k := fun hjk => h2 (by
        have : ((orderF cl).take k)[j]? = some a := by rw [List.getElem?_take, if_pos hjk, ← he]; exact List.getElem?_eq_getElem hj
        exact List.mem_of_getElem? this)
      have h2c := (List.getElem?_eq_some_iff.1 hc).2
      rcases Nat.lt_or_ge k j with hlt | hge
      · have := List.pairwise_iff_getElem.1 hp k j hkl hj hlt
        rw [he, h2c] at this
        rw [ltG_total this hca]
      · have : j = k := by omega
        subst this
        rw [← he, ← h2c]

/-! ### Together -/
def togF (se : List Sea) : List Clm → List Bool → Bool
  | [], _ => true
  | c :: r, t => (List.range se.length).any fun i => (!t.getD i true && fitsI se i c) && togF se r (t.set i true)
def colI (se : List Sea) (c : Clm) (i : Nat) : Bool := fitsI se i c
theorem fill_congr {L : Nat} {fs : List (Nat → Bool)} {t t' : Nat → Bool} {gl : List Nat} (h : ∀ i, i < L → t i = t' i) (hf : Fill L fs t gl) : Fill L fs t' gl := by
  obtain ⟨h1, h2, h3⟩ := hf
  exact ⟨h1, h2, fun j i hj => let ⟨a, b, c⟩ := h3 j i hj; ⟨a, by rw [← h i a]; exact b, c⟩⟩
theorem tog_spec {se : List Sea} : ∀ (cs : List Clm) (t : List Bool), t.length = se.length → (togF se cs t = true ↔ ∃ gl, Fill se.length (cs.map (colI se)) (fun k => t.getD k true) gl)
  | [], t, _ => ⟨fun _ => ⟨[], fill_nil⟩, fun _ => rfl⟩
  | c :: r, t, ht => by
    have hset : ∀ i, i < se.length → (fun k => (t.set i true).getD k true) = fun k => if k = i then true else t.getD k true := fun i hi => by
      funext k
      exact getD_set (by omega)
    rw [togF, List.any_eq_true]
    constructor
    · rintro ⟨i, hi, h⟩
      rw [List.mem_range] at hi
      rw [Bool.and_eq_true, Bool.and_eq_true, Bool.not_eq_true'] at h
      obtain ⟨gl, hg⟩ := (tog_spec r (t.set i true) (by simp [ht])).1 h.2
      rw [hset i hi] at hg
      exact ⟨i :: gl, by rw [List.map_cons, fill_cons]; exact ⟨⟨hi, h.1.1, h.1.2⟩, hg⟩⟩
    · rintro ⟨gl, hg⟩
      cases gl with
      | nil => have := hg.1; simp at this
      | cons i gl =>
        rw [List.map_cons, fill_cons] at hg
        obtain ⟨⟨hi, h1, h2⟩, hg⟩ := hg
        refine ⟨i, List.mem_range.2 hi, ?_⟩
        rw [Bool.and_eq_true, Bool.and_eq_true, Bool.not_eq_true']
        refine ⟨⟨h1, h2⟩, (tog_spec r (t.set i true) (by simp [ht])).2 ⟨gl, ?_⟩⟩
        rw [hset i hi]
        exact hg

/-! ### Step by step -/
def runS (se : List Sea) (cl : List Clm) (k : Nat) : St := ((orderF cl).take k).foldl (goF se cl) (initF se cl)
def allL (se : List Sea) (cl : List Clm) (k : Nat) : List Clm := (((orderF cl).take k).filter (srvd (runS se cl k))).map (gk cl)
def svL (n : Nat) (s : St) : List Bool := (List.range n).map (srvd s)
theorem svL_get {n : Nat} {s : St} {x : Nat} (h : x < n) : (svL n s)[x]? = some (srvd s x) := by
  unfold svL
  rw [List.getElem?_map, List.getElem?_range h]; rfl
theorem svL_len (n : Nat) (s : St) : (svL n s).length = n := by simp [svL]
theorem allL_len (se : List Sea) (cl : List Clm) (k : Nat) : (allL se cl k).length ≤ k := by
  unfold allL
  rw [List.length_map]
  refine Nat.le_trans (List.length_filter_le _ _) ?_
  rw [List.length_take]
  omega
theorem run_next {se : List Sea} {cl : List Clm} {k c : Nat} (hc : (orderF cl)[k]? = some c) : togF se (allL se cl k ++ [gk cl c]) (List.replicate se.length false) = srvd (runS se cl (k + 1)) c ∧
    (srvd (runS se cl (k + 1)) c = true → allL se cl (k + 1) = allL se cl k ++ [gk cl c] ∧ svL cl.length (runS se cl (k + 1)) = (svL cl.length (runS se cl k)).set c true) ∧
    (srvd (runS se cl (k + 1)) c = false → allL se cl (k + 1) = allL se cl k ∧ svL cl.length (runS se cl (k + 1)) = svL cl.length (runS se cl k)) := by
  have hr := prefix_run se cl k
  have hkl := (List.getElem?_eq_some_iff.1 hc).1
  have hnd := order_nodup cl
  have hpC : ∀ x ∈ (orderF cl).take k, x < cl.length := fun x hx => (order_mem cl).1 (List.mem_of_mem_take hx)
  have hpn : ((orderF cl).take k).Nodup := (List.take_sublist k _).nodup hnd
  have hcC : c < cl.length := (order_mem cl).1 (List.mem_of_getElem? hc)
  have htk : (orderF cl).take (k + 1) = (orderF cl).take k ++ [c] := by rw [List.take_add_one, hc]; rfl
  have hcn : c ∉ (orderF cl).take k := fun hm => by
    have h1 : ((orderF cl).take (k + 1)).Nodup := (List.take_sublist (k + 1) _).nodup hnd
    rw [htk, List.nodup_append] at h1
    exact h1.2.2 c hm c (List.mem_singleton.2 rfl) rfl
  have hst := go_step hr.mat hcC (hr.new c hcC hcn)
  have hsi := served_iff hr hpC hpn hcC hcn
  have hrun : runS se cl (k + 1) = go (fitF se cl) se.length (runS se cl k) c := by
    unfold runS
    rw [htk, List.foldl_append]; rfl
  have e0 : ((orderF cl).take k).foldl (goF se cl) (initF se cl) = runS se cl k := rfl
  rw [e0, ← hrun] at hst hsi
  have hold : srvd (runS se cl k) c = false := by
    have := hr.new c hcC hcn
    rw [e0] at this
    unfold srvd
    rw [this]; rfl
  have hoth : ∀ x, x < cl.length → x ≠ c → srvd (runS se cl (k + 1)) x = srvd (runS se cl k) x := fun x hx hxc => by
    unfold srvd
    rw [decide_eq_decide]
    exact hst.others x hx hxc
  have hfil : ((orderF cl).take k).filter (srvd (runS se cl (k + 1))) = ((orderF cl).take k).filter (srvd (runS se cl k)) := List.filter_congr fun x hx => hoth x (hpC x hx) fun e => hcn (e ▸ hx)
  refine ⟨?_, fun h => ?_, fun h => ?_⟩
  · have hcols : (allL se cl k ++ [gk cl c]).map (colI se) = (((orderF cl).take k).filter (srvd (runS se cl k)) ++ [c]).map (colF (fitF se cl)) := by
      have hx : ∀ x, x < cl.length → colI se (gk cl x) = colF (fitF se cl) x := fun x hx => by
        have := List.getElem?_eq_getElem hx
        funext i
        unfold colI colF
        rw [fitF_I this, gk_get this]
      unfold allL
      rw [List.map_append, List.map_append, List.map_map]
      congr 1
      · exact List.map_congr_left fun x hm => hx x (hpC x (List.mem_filter.1 hm).1)
      · simp [hx c hcC]
    have hts := tog_spec (se := se) (allL se cl k ++ [gk cl c]) (List.replicate se.length false) (by simp)
    rw [hcols] at hts
    have hfree : ∀ i, i < se.length → (List.replicate se.length false).getD i true = false := fun i hi => by simp [List.getD_eq_getElem?_getD, List.getElem?_replicate, hi]
    rw [Bool.eq_iff_iff, hts]
    unfold srvd
    rw [decide_eq_true_eq, hsi]
    exact ⟨fun ⟨gl, hg⟩ => ⟨gl, fill_congr hfree hg⟩, fun ⟨gl, hg⟩ => ⟨gl, fill_congr (fun i hi => (hfree i hi).symm) hg⟩⟩
  · refine ⟨?_, List.ext_getElem? fun x => ?_⟩
    · unfold allL
      rw [htk, List.filter_append, hfil, List.map_append]
      simp [h]
    · rw [List.getElem?_set]
      by_cases hx : x < cl.length
      · rw [svL_get hx, svL_get hx, svL_len]
        by_cases e : c = x
        · subst e; simp [hx, h]
        · rw [if_neg e, hoth x hx fun h => e h.symm]
      · have h1 : (svL cl.length (runS se cl (k + 1)))[x]? = none := List.getElem?_eq_none (by rw [svL_len]; omega)
        have h2 : (svL cl.length (runS se cl k))[x]? = none := List.getElem?_eq_none (by rw [svL_len]; omega)
        rw [h1, h2, svL_len]
        split
        · omega
        · rfl
  · refine ⟨?_, ?_⟩
    · unfold allL
      rw [htk, List.filter_append, hfil, List.map_append]
      simp [h]
    · unfold svL
      refine List.map_congr_left fun x hx => ?_
      rw [List.mem_range] at hx
      by_cases e : x = c
      · subst e; rw [h, hold]
      · exact hoth x hx e
end Go.Proofs.YteeenlgoildmiaaDoor
