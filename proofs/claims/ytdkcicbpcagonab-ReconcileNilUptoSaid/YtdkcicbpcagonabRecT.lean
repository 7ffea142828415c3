/- The library's sort over the store. -/
import Derived.Test.YtdkcicbpcagonabRec2
import Derived.Test.YtdkcicbpcagonabRecS
import Derived.Test.YtdkcicbpcagonabAlB
namespace Go.Proofs.Ytdkcicbpcagonab
open Go Go.AL Go.Sort
set_option linter.unusedSimpArgs false
set_option linter.unusedVariables false

def stU (x : St) : List Value := [.int .i64 x.t, .int .i64 x.c, .int .i64 x.v, .int .i64 x.s]
theorem stU_rel {ρ : AL.Place} {S : Store} {w : World} (x : St) : VR ρ S w false (stV x) (.agg (stU x).toArray) := .agg' rfl fun j v hj => by
  match j, hj with
  | 0, hj => simp [stR] at hj; subst hj; exact ⟨_, rfl, .int⟩
  | 1, hj => simp [stR] at hj; subst hj; exact ⟨_, rfl, .int⟩
  | 2, hj => simp [stR] at hj; subst hj; exact ⟨_, rfl, .int⟩
  | 3, hj => simp [stR] at hj; subst hj; exact ⟨_, rfl, .int⟩
  | j + 4, hj => simp [stR] at hj

theorem swo : SWO (ltOf cfS) where
  irrefl x := by unfold ltOf; rw [cfS_lt]; simp [ltS]
  trans x y z h k := by unfold ltOf at *; rw [cfS_lt] at *; simp only [ltS, decide_eq_true_eq] at *; omega
  ntrans x y z h k := by unfold ltOf at *; rw [cfS_lt] at *; simp only [ltS, decide_eq_false_iff_not] at *; omega

/-- A world that has moved on, out of which nothing is owned: draws and blocks more. -/
theorem ext_grown {W W' : World} {ρ' : AL.Place} {S' : Store} (h : Ext noPlace [] W ρ' S' W') : ∃ q os, W' = grow (W.drewN q) os := by
  refine ⟨W'.drawn - W.drawn, W'.heap.extract W.heap.size W'.heap.size, ?_⟩
  have hd : W.drawn ≤ W'.drawn := h.tape.2
  obtain ⟨hp, tp, dr, os, ou⟩ := W
  obtain ⟨hp', tp', dr', os', ou'⟩ := W'
  have h1 := h.os
  have h2 := h.tape.1
  have h3 := h.output
  simp only at h1 h2 h3 hd
  subst h1 h2 h3
  have hh : hp' = hp ++ hp'.extract hp.size hp'.size := by
    apply Array.ext_getElem?
    intro i
    by_cases hi : i < hp.size
    · rw [Array.getElem?_append_left hi]
      exact (h.un i (un_none hi)).2
    · have hs : hp.size ≤ hp'.size := h.size
      rw [Array.getElem?_append_right (by omega), Array.getElem?_extract]
      split
      · rw [show hp.size + (i - hp.size) = i by omega]
      · rw [Array.getElem?_eq_none_iff]
        omega
  simp only [grow, World.drewN]
  rw [show dr + (dr' - dr) = dr' by omega, ← hh]

theorem invNil (W : World) : AL.Inv noPlace [] W := ⟨fun id ver e sz rows h => by simp at h, fun i j o p c d g x y h => by simp at h, fun id ver rows h => by simp at h, fun p hp => by cases hp⟩

/-- The comparison, as the library's sort asks for it. -/
theorem cmpLays (g : FuncId) (hc : ∀ x y S, CallA Try.prog g [stV x, stV y] S fun r S' => r = .int .i64 (cfS x y) ∧ S' = S) (blk off size : Nat) (w : World) : CmpLays Try.prog g #[] stU 4 cfS blk off size w := fun m os dk _ x y => by
  refine ((hc x y []).2 noPlace _ #[.agg (stU x).toArray, .agg (stU y).toArray] (invNil _) ⟨rfl, fun j v hj => ?_⟩).mono ?_
  · match j, hj with
    | 0, hj => simp at hj; subst hj; exact ⟨_, rfl, stU_rel x⟩
    | 1, hj => simp at hj; subst hj; exact ⟨_, rfl, stU_rel y⟩
    | j + 2, hj => simp at hj
  · rintro en w' ⟨ρ', S', r, u, h1, h2, h3, h4, rfl, rfl⟩
    cases h2
    exact ⟨h1, ext_grown h4⟩

theorem stR_get (x : St) (c : Nat) (hc : c < 4) : ∃ n : Int, (stR x)[c]? = some (.int .i64 n) ∧ (stU x)[c]! = .int .i64 n ∧ (stU x)[c]? = some (.int .i64 n) := by
  match c, hc with
  | 0, _ => exact ⟨_, rfl, rfl, rfl⟩
  | 1, _ => exact ⟨_, rfl, rfl, rfl⟩
  | 2, _ => exact ⟨_, rfl, rfl, rfl⟩
  | 3, _ => exact ⟨_, rfl, rfl, rfl⟩

theorem flat_at (d : Array St) (j : Nat) (h : j < d.size * 4) : ∃ (i c : Nat), j = i * 4 + c ∧ c < 4 ∧ i < d.size ∧ (flatK stU 4 d)[j]! = (stU d[i]!)[c]! :=
  ⟨j / 4, j % 4, by omega, by omega, by omega, get_flatK stU 4 d j h⟩

theorem sort_A (g : FuncId) (hc : ∀ x y S, CallA Try.prog g [stV x, stV y] S fun r S' => r = .int .i64 (cfS x y) ∧ S' = S)
    (hnil : ∀ S, CallA Try.prog 27 [.nilSl, .func g [] []] S fun r S' => r = .tup [] ∧ S' = S)
    (l : List St) (S : Store) (id ver : Nat) (hl : l.length ≤ 1000000) (hs : S.obj? id ver = some (27, 4, l.map stR)) :
    CallA Try.prog 27 [.msl id ver 0 l.length, .func g [] []] S fun r S' => r = .tup [] ∧ ∃ l' : List St, l'.Perm l ∧ (l'.Pairwise fun x y => ltS y x = false) ∧ S' = S.set id ⟨ver, some (.arr 27 4 (l'.map stR))⟩ := by
  refine ⟨⟨Try.f27, Try.func27, by kernel_rfl, by kernel_rfl⟩, fun ρ w us hi hv => ?_⟩
  obtain ⟨hsz, hv⟩ := hv
  obtain ⟨u, hu, hr⟩ := hv 0 _ rfl
  obtain ⟨u1, hu1, hr1⟩ := hv 1 _ rfl
  have hs' := obj_some hs
  have hlt := (List.getElem?_eq_some_iff.1 hs').1
  have hfn : u1 = .func (.func g) #[] #[] := by
    cases hr1 with
    | @func _ _ _ _ a b c d hl1 hl2 _ _ _ _ =>
      have e1 : a = #[] := Array.eq_empty_of_size_eq_zero (by simpa using hl1)
      have e2 : b = #[] := Array.eq_empty_of_size_eq_zero (by simpa using hl2)
      rw [e1, e2]
  have hus : us = #[u, u1] := by
    have h2 : us.size = 2 := hsz
    apply Array.ext_getElem?
    intro i
    match i with
    | 0 => rw [hu]; rfl
    | 1 => rw [hu1]; rfl
    | i + 2 => rw [Array.getElem?_eq_none_iff.2 (by omega), Array.getElem?_eq_none_iff.2 (by simp)]
  obtain ⟨m1, m2⟩ := hr.msl_inv hs
  rcases m2 with ⟨hp, rfl, h0, _⟩ | ⟨gb, tot, cap, hp, rfl, k1, k2, k3⟩ | ⟨h0, _⟩
  · have hl0 : l = [] := List.eq_nil_of_length_eq_zero h0
    subst hl0
    refine ((hnil S).2 ρ w us hi ⟨hsz, fun j v hj => ?_⟩).mono ?_
    · match j, hj with
      | 0, hj => simp at hj; subst hj; exact ⟨_, hu, .nilSl⟩
      | 1, hj => simp at hj; subst hj; exact ⟨_, hu1, hr1⟩
      | j + 2, hj => simp at hj
    · rintro en w' ⟨ρ', S', r, v, h1, h2, h3, h4, rfl, rfl⟩
      refine ⟨ρ', S', _, v, h1, h2, h3, h4, rfl, [], .refl _, .nil, ?_⟩
      apply List.ext_getElem?
      intro i
      rw [List.getElem?_set]
      split
      · rename_i hid
        subst hid
        exact hs'
      · rfl
  · obtain ⟨cur, b1, b2, b3, b4, b5, b6⟩ := owned_block hi hs hp
    simp only [Nat.zero_mul, List.length_map] at *
    let d : Array St := l.toArray
    have hd : d.size = l.length := by simp [d]
    have hdg : ∀ i, i < l.length → ∃ x, l[i]? = some x ∧ d[i]! = x := fun i hil => by
      have h1 := List.getElem?_eq_getElem hil
      exact ⟨l[i], h1, by simp [d, hil]⟩
    have hH : HoldsK stU 4 w gb 0 d := by
      intro j hj
      rw [size_flatK, hd] at hj
      obtain ⟨i, c, rfl, hc4, hil, hfl⟩ := flat_at d j (by rw [hd]; exact hj)
      rw [hd] at hil
      obtain ⟨x, hx, hdx⟩ := hdg i hil
      obtain ⟨n, e1, e2, _⟩ := stR_get x c hc4
      obtain ⟨y, f1, f2, _⟩ := b6 i (stR x) (by simp [hx]) c _ e1
      rw [hfl, hdx, e2]
      have f2 := f2.int_inv
      subst f2
      refine ⟨?_, ?_⟩
      · simp [World.cell?, b1, f1]
      · simp [World.frozen?, b1]
    obtain ⟨fn, q1, q2, q3⟩ := (hc default default []).1
    obtain ⟨cd, q4⟩ : ∃ cd, fn.body = some cd := by
      cases hb : fn.body with
      | none => rw [hb] at q3; cases q3
      | some cd => exact ⟨cd, rfl⟩
    have eg := enters_of q1 q2 q4
    have hcon := AnyQ.slices_SortFunc sortL 4 Try.isAgg27 Try.sizeOf27 stU (fun _ => rfl) (fun x v hv => by simp [stU] at hv; rcases hv with rfl | rfl | rfl | rfl <;> rfl) cfS swo g #[] gb 0 cap d w eg (cmpLays g hc gb 0 d.size w) hH (Array.getElem?_eq_some_iff.1 b1).1 (by omega)
    change Calls Try.prog 27 _ _ _ at hcon
    rw [hus, hfn]
    rw [hd] at hcon
    refine hcon.mono ?_
    rintro en w' ⟨he, d', n, os, ⟨p1, _, p3⟩, hsrt, rfl⟩
    have hd' : d'.size = l.length := by omega
    have hperm : d'.toList.Perm l := by
      have e1 : d'.extract 0 l.length = d' := by rw [← hd']; simp
      have e2 : d.extract 0 l.length = d := by rw [← hd]; simp
      rw [e1, e2] at p3
      simpa [d] using p3
    have hheap : (sortWorldK stU 4 w gb 0 n d' os).heap[gb]? = some (.cells (putCells (fun v => v) 0 (flatK stU 4 d') cur) 27 (0, 0)) := by
      have hlt2 := (Array.getElem?_eq_some_iff.1 b1).1
      show (((Sort.ahead w n).heap.modify gb (onCells (putCells (fun v => v) 0 (flatK stU 4 d')))) ++ os)[gb]? = _
      rw [Array.getElem?_append_left (by simpa using hlt2), Array.getElem?_modify, if_pos rfl]
      show Option.map _ w.heap[gb]? = _
      rw [b1]
      rfl
    have hold : ∀ k, k < w.heap.size → k ≠ gb → (sortWorldK stU 4 w gb 0 n d' os).heap[k]? = w.heap[k]? := fun k hk hne => by
      show (((Sort.ahead w n).heap.modify gb (onCells (putCells (fun v => v) 0 (flatK stU 4 d')))) ++ os)[k]? = _
      rw [Array.getElem?_append_left (by simpa using hk), Array.getElem?_modify, if_neg (fun h => hne h.symm)]
      rfl
    obtain ⟨i1, i2⟩ := set_obj (w' := sortWorldK stU 4 w gb 0 n d' os) (ver' := ver) (g' := gb) (tot' := tot) (rows' := d'.toList.map stR) (cur := putCells (fun v => v) 0 (flatK stU 4 d') cur) hi hs' hp (.inl ⟨rfl, rfl, fun _ => by simp [hd']⟩) (Nat.le_refl _)
      (by show _ ≤ (((Sort.ahead w n).heap.modify gb _) ++ os).size; rw [Array.size_append, Array.size_modify]; show w.heap.size ≤ w.heap.size + _; omega) rfl ⟨rfl, Nat.le_add_right _ _⟩ rfl hold hheap (by simp [hd']; omega) b4 (by simp [putCells, b2]) (by
        refine ⟨fun i r hr => ?_, fun i r hr j v hj => ?_⟩
        · simp only [List.getElem?_map, Option.map_eq_some_iff] at hr
          obtain ⟨x, _, rfl⟩ := hr
          rfl
        · simp only [List.getElem?_map, Option.map_eq_some_iff] at hr
          obtain ⟨x, hx, rfl⟩ := hr
          have hj4 : j < 4 := (List.getElem?_eq_some_iff.1 hj).1
          have hil := (List.getElem?_eq_some_iff.1 hx).1
          obtain ⟨n, e1, e2, _⟩ := stR_get x j hj4
          rw [hj] at e1
          cases e1
          refine ⟨.int .i64 n, ?_, .int, rfl⟩
          have hil' : i < d'.size := by simpa using hil
          have hb : i * 4 + j < cur.size := by rw [b2]; have : i < tot := by omega
                                               omega
          have hb2 : i * 4 + j < d'.size * 4 := by omega
          have hx' : d'[i]! = x := by
            rw [getElem!_pos d' i hil']
            have := (List.getElem?_eq_some_iff.1 hx).2
            simpa using this
          simp only [putCells, Array.getElem?_mapIdx, Array.getElem?_eq_getElem hb, Option.map_some, Nat.zero_le, true_and, Nat.zero_add, size_flatK, hb2, if_true, Nat.sub_zero, Option.some.injEq]
          rw [get_flatK stU 4 d' _ hb2, show (i * 4 + j) / 4 = i by omega, show (i * 4 + j) % 4 = j by omega, hx']
          exact e2)
    refine ⟨_, _, _, _, he, .tup' rfl (by simp), i1, i2, rfl, d'.toList, hperm, ?_, rfl⟩
    rw [List.pairwise_iff_getElem]
    intro i j hi' hj' hij
    have hj2 : j < d'.size := by simpa using hj'
    have hi2 : i < d'.size := by simpa using hi'
    have := hsrt i j (Nat.zero_le _) hij (by omega)
    unfold ltOf at this
    rw [cfS_lt, getElem!_pos d' i hi2, getElem!_pos d' j hj2] at this
    simpa using this
  · omega
end Go.Proofs.Ytdkcicbpcagonab
