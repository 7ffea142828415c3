/- The library's sort over the store, for elements of pure data. -/
import Derived.Test.YtlnpfnoemhjheaaGreatDoorMAlM
import Derived.Test.YtlnpfnoemhjheaaGreatDoorMAlB
import Derived.Shelf.SlSortCmp.WholeK
namespace Go.AL
open Go Go.Sort Go.Proofs
set_option linter.unusedSectionVars false
variable [Mode]
set_option linter.unusedSimpArgs false
set_option linter.unusedVariables false
variable {P : Program}
theorem ext_grownG (hM : Mode.strict) {W W' : World} {ρ' : Place} (h : Ext noPlace [] W ρ' [] W') : ∃ q os, W' = grow (W.drewN q) os := by
  refine ⟨W'.drawn - W.drawn, W'.heap.extract W.heap.size W'.heap.size, ?_⟩
  have hd : W.drawn ≤ W'.drawn := h.tape.2 hM
  obtain ⟨hp, tp, dr, os, ou⟩ := W
  obtain ⟨hp', tp', dr', os', ou'⟩ := W'
  have h1 := h.os
  have h2 := h.tape.1
  have h3 := h.output
  simp only at h1 h2 h3 hd
  subst h1 h2 h3
  have hh : hp' = hp ++ hp'.extract hp.size hp'.size := by
    apply Array.ext_getElem?
    intro i
    by_cases hi : i < hp.size
    · rw [Array.getElem?_append_left hi]
      exact (h.un i (un_none hi)).2
    · have hs : hp.size ≤ hp'.size := h.size
      rw [Array.getElem?_append_right (by omega), Array.getElem?_extract]
      split
      · rw [show hp.size + (i - hp.size) = i by omega]
      · rw [Array.getElem?_eq_none_iff]
        omega
  simp only [grow, World.drewN]
  rw [show dr + (dr' - dr) = dr' by omega, ← hh]
theorem invNilG (W : World) (hT : TabOk noPlace [] W) : Inv noPlace [] W := ⟨fun id ver e sz rows h => by simp at h, fun i j o p c d g x y h => by simp at h, fun id ver rows h => by simp at h, hT⟩
def CellsR (ρ : Place) (S : Store) (w : World) (vs : List V) (us : List Value) : Prop :=
  us.length = vs.length ∧ ∀ (j : Nat) (v : V), vs[j]? = some v → ∃ u, us[j]? = some u ∧ VR ρ S w true v u ∧ u.oneCell' = true
abbrev Elem {α : Type} (en : α → List V) (ρ : Place) (S : Store) (w : World) : Type := {p : α × List Value // CellsR ρ S w (en p.1) p.2}
theorem sortG {rn : Go.Shelf.Ren} (L : Go.Proofs.SlLaysF0.n6 P rn) {sz : Nat} (hsz : 0 < sz) (aE : ∀ w, (isAgg (rn.t 24)).run P w = .ok true w) (zE : ∀ w, (Go.sizeOf (rn.t 24)).run P w = .ok sz w)
    {α : Type} (en : α → List V) (hlen : ∀ x, (en x).length = sz) (him : ∀ x, V.allImm (en x) = true) (z : α) (zr : List Value) (hz : ∀ ρ S w, CellsR ρ S w (en z) zr)
    (cf : α → α → Int) (hO : SWO (ltOf cf)) (g : FuncId) (hc : ∀ x y S, @CallA (Mode.tight inferInstance) P g [.agg (en x), .agg (en y)] S fun r S' => r = .int .i64 (cf x y) ∧ S' = S)
    (hcal : callable P (rn.f 6)) (hnil : ∀ S, CallA P (rn.f 6) [.nilSl, .func g [] []] S fun r S' => r = .tup [] ∧ S' = S)
    (l : List α) (S : Store) (id ver : Nat) (hl : l.length ≤ 1000000) (hs : S.obj? id ver = some (rn.t 24, sz, l.map en)) :
    CallA P (rn.f 6) [.msl id ver 0 l.length, .func g [] []] S fun r S' => r = .tup [] ∧ ∃ l' : List α, l'.Perm l ∧ (l'.Pairwise fun x y => ltOf cf y x = false) ∧ S' = S.set id ⟨ver, some (.arr (rn.t 24) sz (l'.map en))⟩ := by
  refine ⟨hcal, fun ρ w us hi hv => ?_⟩
  obtain ⟨hsz2, hv⟩ := hv
  obtain ⟨u, hu, hr⟩ := hv 0 _ rfl
  obtain ⟨u1, hu1, hr1⟩ := hv 1 _ rfl
  have hs' := obj_some hs
  have hlt := (List.getElem?_eq_some_iff.1 hs').1
  have hfn : u1 = .func (.func g) #[] #[] := by
    cases hr1 with
    | @func _ _ _ _ a b c d hl1 hl2 _ _ _ _ =>
      have e1 : a = #[] := Array.eq_empty_of_size_eq_zero (by simpa using hl1)
      have e2 : b = #[] := Array.eq_empty_of_size_eq_zero (by simpa using hl2)
      rw [e1, e2]
  have hus : us = #[u, u1] := by
    have h2 : us.size = 2 := hsz2
    apply Array.ext_getElem?
    intro i
    match i with
    | 0 => rw [hu]; rfl
    | 1 => rw [hu1]; rfl
    | i + 2 => rw [Array.getElem?_eq_none_iff.2 (by omega), Array.getElem?_eq_none_iff.2 (by simp)]
  obtain ⟨m1, m2⟩ := hr.msl_inv hs
  rcases m2 with ⟨hp, rfl, h0, _⟩ | ⟨gb, tot, cap, hp, rfl, k1, k2, k3⟩ | ⟨h0, _⟩
  · have hl0 : l = [] := List.eq_nil_of_length_eq_zero h0
    subst hl0
    refine ((hnil S).2 ρ w us hi ⟨hsz2, fun j v hj => ?_⟩).mono ?_
    · match j, hj with
      | 0, hj => simp at hj; subst hj; exact ⟨_, hu, .nilSl⟩
      | 1, hj => simp at hj; subst hj; exact ⟨_, hu1, hr1⟩
      | j + 2, hj => simp at hj
    · rintro en' w' ⟨ρ', S', r, v, h1, h2, h3, h4, rfl, rfl⟩
      refine ⟨ρ', S', _, v, h1, h2, h3, h4, rfl, [], .refl _, .nil, ?_⟩
      apply List.ext_getElem?
      intro i
      rw [List.getElem?_set]
      split
      · rename_i hid
        subst hid
        exact hs'
      · rfl
  · obtain ⟨cur, b1, b2, b3, b4, b5, b6⟩ := owned_block hi hs hp
    simp only [Nat.zero_mul, List.length_map] at *
    have hel : ∀ (i : Nat) (x : α), l[i]? = some x → CellsR ρ S w (en x) ((List.range sz).map fun c => (cur[i * sz + c]?).getD Go.undef) := by
      intro i x hx
      refine ⟨by simp [hlen], fun j v hj => ?_⟩
      have hjl : j < sz := by have := (List.getElem?_eq_some_iff.1 hj).1; rw [hlen] at this; exact this
      obtain ⟨y, f1, f2, f3⟩ := b6 i (en x) (by simp [hx]) j v hj
      refine ⟨y, by simp [hjl, f1], f2.toImm (V.allImm_get (him x) j v hj) true, f3⟩
    letI : Inhabited (Elem en ρ S w) := ⟨⟨(z, zr), hz ρ S w⟩⟩
    have hat : ∀ i : Fin l.length, l[i.1]? = some l[i.1] := fun i => List.getElem?_eq_getElem i.2
    let d : Array (Elem en ρ S w) := Array.ofFn fun i : Fin l.length => ⟨(l[i.1], (List.range sz).map fun c => (cur[i.1 * sz + c]?).getD Go.undef), hel i.1 _ (hat i)⟩
    have hd : d.size = l.length := by simp [d]
    have hdl : d.toList.map (fun e => e.1.1) = l := by
      apply List.ext_getElem?
      intro i
      rw [List.getElem?_map]
      by_cases hi' : i < l.length
      · have : d.toList[i]? = some d[i] := by rw [Array.getElem?_toList]; exact Array.getElem?_eq_getElem (by omega)
        rw [this]
        simp [d, List.getElem?_eq_getElem hi']
      · rw [List.getElem?_eq_none_iff.2 (by simp; omega), List.getElem?_eq_none_iff.2 (by omega)]
        rfl
    let enc : Elem en ρ S w → List Value := fun e => e.1.2
    have enl : ∀ e : Elem en ρ S w, (enc e).length = sz := fun e => by rw [e.2.1, hlen]
    have en1 : ∀ e : Elem en ρ S w, ∀ v ∈ enc e, v.oneCell' = true := fun e v hv => by
      obtain ⟨j, hj⟩ := List.getElem?_of_mem hv
      have hjl : j < (en e.1.1).length := by have := (List.getElem?_eq_some_iff.1 hj).1; rw [← e.2.1]; exact this
      obtain ⟨y, f1, _, f3⟩ := e.2.2 j _ (List.getElem?_eq_getElem hjl)
      change (e.1.2)[j]? = some v at hj
      rw [hj] at f1; cases f1
      exact f3
    have flat_at : ∀ (d : Array (Elem en ρ S w)) (j : Nat), j < d.size * sz → ∃ (i c : Nat), j = i * sz + c ∧ c < sz ∧ i < d.size ∧ (flatK enc sz d)[j]! = (enc d[i]!)[c]! := fun d j h =>
      ⟨j / sz, j % sz, by rw [Nat.mul_comm]; exact (Nat.div_add_mod j sz).symm, Nat.mod_lt _ hsz, Nat.div_lt_of_lt_mul (by rw [Nat.mul_comm]; exact h), get_flatK enc sz d j h⟩
    have hH : HoldsK enc sz w gb 0 d := by
      intro j hj
      rw [size_flatK, hd] at hj
      obtain ⟨i, c, rfl, hc4, hil, hfl⟩ := flat_at d j (by rw [hd]; exact hj)
      rw [hd] at hil
      have hdi : d[i]! = d[i]'(by omega) := getElem!_pos d i (by omega)
      have hb : i * sz + c < cur.size := by
        rw [b2]
        have h1 : i < tot := by omega
        calc i * sz + c < i * sz + sz := by omega
          _ = (i + 1) * sz := by rw [Nat.add_mul, Nat.one_mul]
          _ ≤ tot * sz := Nat.mul_le_mul_right _ h1
      have hx : (enc d[i]!)[c]! = cur[i * sz + c] := by
        rw [hdi]
        simp [enc, d, hc4, hb]
      rw [hfl, hx]
      refine ⟨?_, ?_⟩
      · simp [World.cell?, b1, hb]
      · simp [World.frozen?, b1]
    have hgb : gb < w.heap.size := (Array.getElem?_eq_some_iff.1 b1).1
    have hown : ∀ k, Unowned ρ S w k → k ≠ gb := fun k hk hkg => hk.2 id _ _ gb tot hs' rfl hp hkg.symm
    obtain ⟨fn, q1, q2, q3⟩ := (hc z z []).1
    obtain ⟨cd, q4⟩ : ∃ cd, fn.body = some cd := by
      cases hb : fn.body with
      | none => rw [hb] at q3; cases q3
      | some cd => exact ⟨cd, rfl⟩
    have eg := enters_of q1 q2 q4
    have hold : ∀ (n : Nat) (d' : Array (Elem en ρ S w)) (os : Array _) (k : Nat), k < w.heap.size → k ≠ gb → (sortWorldK enc sz w gb 0 n d' os).heap[k]? = w.heap[k]? := fun n d' os k hk hne => by
      show (((Sort.ahead w n).heap.modify gb (onCells (putCells (fun v => v) 0 (flatK enc sz d')))) ++ os)[k]? = _
      rw [Array.getElem?_append_left (by simpa using hk), Array.getElem?_modify, if_neg (fun h => hne h.symm)]
      rfl
    have hcmp : CmpLays P g #[] enc sz (fun x y => cf x.1.1 y.1.1) gb 0 d.size w := fun m os dk _ x y => by
      have hsw : w.heap.size ≤ (sortWorldK enc sz w gb 0 m dk os).heap.size := by
        show _ ≤ (((Sort.ahead w m).heap.modify gb _) ++ os).size
        rw [Array.size_append, Array.size_modify]
        show w.heap.size ≤ w.heap.size + _
        omega
      have hstand : ∀ k, Unowned ρ S w k → Unowned noPlace [] (sortWorldK enc sz w gb 0 m dk os) k ∧ (sortWorldK enc sz w gb 0 m dk os).heap[k]? = w.heap[k]? := fun k hk =>
        ⟨un_none (Nat.lt_of_lt_of_le hk.1 hsw), hold m dk os k hk.1 (hown k hk)⟩
      have hrel : ∀ e : Elem en ρ S w, VR noPlace [] (sortWorldK enc sz w gb 0 m dk os) false (.agg (en e.1.1)) (.agg (enc e).toArray) := fun e =>
        .agg' (by simpa using e.2.1) fun j v hj => by
          obtain ⟨u, f1, f2, _⟩ := e.2.2 j v hj
          exact ⟨u, by simpa [enc] using f1, f2.imm hstand rfl false⟩
      have hT : TabOk noPlace [] (sortWorldK enc sz w gb 0 m dk os) := fun p hp => by
        obtain ⟨a, t, fr, b⟩ := hi.tab p hp
        exact ⟨(hstand _ a).1, t, fr, (hstand _ a).2.trans b⟩
      refine ((hc x.1.1 y.1.1 []).2 noPlace _ #[.agg (enc x).toArray, .agg (enc y).toArray] (@invNilG (Mode.tight inferInstance) _ hT) ⟨rfl, fun j v hj => ?_⟩).mono ?_
      · match j, hj with
        | 0, hj => simp at hj; subst hj; exact ⟨_, rfl, hrel x⟩
        | 1, hj => simp at hj; subst hj; exact ⟨_, rfl, hrel y⟩
        | j + 2, hj => simp at hj
      · rintro e w' ⟨ρ', S', r, u, h1, h2, h3, h4, rfl, rfl⟩
        cases h2
        exact ⟨h1, @ext_grownG (Mode.tight inferInstance) trivial _ _ _ h4⟩
    have hO' : SWO (ltOf fun x y : Elem en ρ S w => cf x.1.1 y.1.1) := ⟨fun x => hO.irrefl x.1.1, fun x y z => hO.trans x.1.1 y.1.1 z.1.1, fun x y z => hO.ntrans x.1.1 y.1.1 z.1.1⟩
    have hcon := Go.Proofs.AnyQ.slices_SortFunc L sz aE zE enc enl en1 (fun x y => cf x.1.1 y.1.1) hO' g #[] gb 0 cap d w eg hcmp hH hgb (by omega)
    rw [hus, hfn]
    rw [hd] at hcon
    refine hcon.mono ?_
    rintro en' w' ⟨he, d', n, os, ⟨p1, _, p3⟩, hsrt, rfl⟩
    have hd' : d'.size = l.length := by omega
    have hperm : (d'.toList.map fun e => e.1.1).Perm l := by
      have e1 : d'.extract 0 l.length = d' := by rw [← hd']; simp
      have e2 : d.extract 0 l.length = d := by rw [← hd]; simp
      rw [e1, e2] at p3
      have := p3.map fun e : Elem en ρ S w => e.1.1
      rw [hdl] at this
      exact this
    have hheap : (sortWorldK enc sz w gb 0 n d' os).heap[gb]? = some (.cells (putCells (fun v => v) 0 (flatK enc sz d') cur) (rn.t 24) (0, 0)) := by
      show (((Sort.ahead w n).heap.modify gb (onCells (putCells (fun v => v) 0 (flatK enc sz d')))) ++ os)[gb]? = _
      rw [Array.getElem?_append_left (by simpa using hgb), Array.getElem?_modify, if_pos rfl]
      show Option.map _ w.heap[gb]? = _
      rw [b1]
      rfl
    obtain ⟨i1, i2⟩ := set_obj (w' := sortWorldK enc sz w gb 0 n d' os) (ver' := ver) (g' := gb) (tot' := tot) (rows' := (d'.toList.map fun e => e.1.1).map en) (cur := putCells (fun v => v) 0 (flatK enc sz d') cur) hi hs' hp (.inl ⟨rfl, rfl, fun _ => by simp [hd']⟩) (Nat.le_refl _)
      (by show _ ≤ (((Sort.ahead w n).heap.modify gb _) ++ os).size; rw [Array.size_append, Array.size_modify]; show w.heap.size ≤ w.heap.size + _; omega) rfl ⟨rfl, Nat.le_add_right _ _⟩ rfl (fun k hk hne => hold n d' os k hk hne) hheap (by simp [hd']; omega) b4 (by simp [putCells, b2]) (by
        refine ⟨fun i r hr => ?_, fun i r hr j v hj => ?_⟩
        · simp only [List.getElem?_map, Option.map_eq_some_iff] at hr
          obtain ⟨x, _, rfl⟩ := hr
          exact hlen x
        · rw [List.map_map, List.getElem?_map, Option.map_eq_some_iff] at hr
          obtain ⟨e, hx, rfl⟩ := hr
          simp only [Function.comp] at hj
          have hj4 : j < sz := by have := (List.getElem?_eq_some_iff.1 hj).1; rw [hlen] at this; exact this
          obtain ⟨u, f1, f2, f3⟩ := e.2.2 j v hj
          have hil' : i < d'.size := by have := (List.getElem?_eq_some_iff.1 hx).1; simpa using this
          have hb2 : i * sz + j < d'.size * sz := by
            calc i * sz + j < i * sz + sz := by omega
              _ = (i + 1) * sz := by rw [Nat.add_mul, Nat.one_mul]
              _ ≤ d'.size * sz := Nat.mul_le_mul_right _ hil'
          have hb : i * sz + j < cur.size := by
            rw [b2]
            exact Nat.lt_of_lt_of_le hb2 (Nat.mul_le_mul_right _ (by omega))
          have hx' : d'[i]! = e := by
            rw [getElem!_pos d' i hil']
            have := (List.getElem?_eq_some_iff.1 hx).2
            simpa using this
          refine ⟨u, ?_, f2.weaken false, f3⟩
          simp only [putCells, Array.getElem?_mapIdx, Array.getElem?_eq_getElem hb, Option.map_some, Nat.zero_le, true_and, Nat.zero_add, size_flatK, hb2, if_true, Nat.sub_zero, Option.some.injEq]
          rw [get_flatK enc sz d' _ hb2]
          have q1 : (i * sz + j) / sz = i := by rw [Nat.mul_comm, Nat.mul_add_div hsz, Nat.div_eq_of_lt hj4, Nat.add_zero]
          have q2 : (i * sz + j) % sz = j := by rw [Nat.mul_comm, Nat.mul_add_mod, Nat.mod_eq_of_lt hj4]
          rw [q1, q2, hx']
          have hjl : j < (enc e).length := by rw [enl]; exact hj4
          rw [getElem!_pos (enc e) j hjl]
          have := (List.getElem?_eq_some_iff.1 f1).2
          exact this)
    refine ⟨_, _, _, _, he, .tup' rfl (by simp), i1, i2, rfl, d'.toList.map fun e => e.1.1, hperm, ?_, rfl⟩
    rw [List.pairwise_map, List.pairwise_iff_getElem]
    intro i j hi' hj' hij
    have hj2 : j < d'.size := by simpa using hj'
    have hi2 : i < d'.size := by simpa using hi'
    have := hsrt i j (Nat.zero_le _) hij (by omega)
    rw [getElem!_pos d' i hi2, getElem!_pos d' j hj2] at this
    simpa [ltOf] using this
  · omega
end Go.AL
