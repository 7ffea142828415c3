/- Departure: slices.Delete over the store; a bag is taken off; a gate is made. -/
import Derived.Test.YtjjdfkkfhbndiaaDoorQTpD
import Derived.Test.YtjjdfkkfhbndiaaDoorQTp0
namespace Go.Proofs.YtjjdfkkfhbndiaaDoor
open Go Go.AL
set_option linter.unusedSectionVars false
variable [Go.AL.Mode] [Go.AL.LooseM]
set_option linter.unusedSimpArgs false
set_option linter.unusedVariables false
theorem cutIn_get {cur : Array Value} {o : Nat} {vs : List Value} (h : o + vs.length ≤ cur.size) (k : Nat) : (cutIn cur o vs)[k]? = if k < o then cur[k]? else if k < o + vs.length then vs[k - o]? else cur[k]? := by
  unfold cutIn
  rw [List.getElem?_toArray]
  have hl : (cur.toList.take o).length = o := by rw [List.length_take, Array.length_toList]; omega
  by_cases h1 : k < o
  · rw [if_pos h1, List.append_assoc, List.getElem?_append_left (by omega), List.getElem?_take, if_pos h1, Array.getElem?_toList]
  · rw [if_neg h1]
    by_cases h2 : k < o + vs.length
    · rw [if_pos h2, List.append_assoc, List.getElem?_append_right (by omega), hl, List.getElem?_append_left (by omega)]
    · rw [if_neg h2, List.getElem?_append_right (by rw [List.length_append, hl]; omega), List.length_append, hl, List.getElem?_drop, Array.getElem?_toList]
      congr 1
      omega
theorem cutIn_size {cur : Array Value} {o : Nat} {vs : List Value} (h : o + vs.length ≤ cur.size) : (cutIn cur o vs).size = cur.size := by
  unfold cutIn
  simp only [List.size_toArray, List.length_append, List.length_take, List.length_drop, Array.length_toList]
  omega
def zB : List V := [.int .i64 0, .int .i64 0, .int .i64 0]
def delR (rows : List (List V)) (n i : Nat) : List (List V) := (rows.take i ++ (rows.take n).drop (i + 1)) ++ (zB :: rows.drop n)
theorem delR_get {rows : List (List V)} {n i : Nat} (hn : n ≤ rows.length) (hi : i < n) (k : Nat) : (delR rows n i)[k]? = if k < i then rows[k]? else if k < n - 1 then rows[k + 1]? else if k = n - 1 then some zB else rows[k]? := by
  unfold delR
  have h1 : (rows.take i).length = i := by rw [List.length_take]; omega
  have h2 : ((rows.take n).drop (i + 1)).length = n - (i + 1) := by rw [List.length_drop, List.length_take]; omega
  by_cases c1 : k < i
  · rw [if_pos c1, List.append_assoc, List.getElem?_append_left (by omega), List.getElem?_take, if_pos c1]
  · rw [if_neg c1]
    by_cases c2 : k < n - 1
    · rw [if_pos c2, List.getElem?_append_left (by rw [List.length_append, h1, h2]; omega), List.getElem?_append_right (by omega), h1, List.getElem?_drop, List.getElem?_take, if_pos (by omega)]
      congr 1
      omega
    · rw [if_neg c2, List.getElem?_append_right (by rw [List.length_append, h1, h2]; omega), List.length_append, h1, h2]
      by_cases c3 : k = n - 1
      · rw [if_pos c3, show k - (i + (n - (i + 1))) = 0 by omega, List.getElem?_cons_zero]
      · rw [if_neg c3, show k - (i + (n - (i + 1))) = (k - n) + 1 by omega, List.getElem?_cons_succ, List.getElem?_drop]
        congr 1
        omega
theorem delR_len {rows : List (List V)} {n i : Nat} (hn : n ≤ rows.length) (hi : i < n) : (delR rows n i).length = rows.length := by
  unfold delR
  simp only [List.length_append, List.length_take, List.length_drop, List.length_cons]
  omega
theorem delR_take {rows : List (List V)} {n i : Nat} (hn : n ≤ rows.length) (hi : i < n) : (delR rows n i).take (n - 1) = rows.take i ++ (rows.take n).drop (i + 1) := by
  unfold delR
  rw [List.take_append_of_le_length (by simp only [List.length_append, List.length_take, List.length_drop]; omega), List.take_of_length_le (by simp only [List.length_append, List.length_take, List.length_drop]; omega)]
set_option maxHeartbeats 1000000 in
theorem delete_A (id ver n i : Nat) (rows : List (List V)) (S : Store) (hob : S.obj? id ver = some (47, 3, rows)) (hi : i < n) :
    CallA Tryd.prog 37 [.msl id ver 0 n, .int .i64 (i : Nat), .int .i64 ((i + 1 : Nat) : Int)] S fun r S' => r = .msl id (ver + 1) 0 (n - 1) ∧ S' = S.set id ⟨ver + 1, some (.arr 47 3 (delR rows n i))⟩ := by
  refine ⟨⟨_, Tryd.func37, by kernel_rfl, by kernel_rfl⟩, fun ρ w us hinv hv => ?_⟩
  obtain ⟨hl, hv⟩ := hv
  obtain ⟨u0, hu0, r0⟩ := hv 0 _ rfl
  obtain ⟨u1, hu1, r1⟩ := hv 1 _ rfl
  obtain ⟨u2, hu2, r2⟩ := hv 2 _ rfl
  have hus : us = #[u0, u1, u2] := by
    apply Array.ext
    · simpa using hl
    · intro k h1 h2
      have h2' : k < 3 := by simpa using h2
      match k, h2' with
      | 0, _ => rw [Array.getElem?_eq_getElem h1] at hu0; exact Option.some.inj hu0
      | 1, _ => rw [Array.getElem?_eq_getElem h1] at hu1; exact Option.some.inj hu1
      | 2, _ => rw [Array.getElem?_eq_getElem h1] at hu2; exact Option.some.inj hu2
  subst hus
  cases r1
  cases r2
  have hso := obj_some hob
  have hid := (List.getElem?_eq_some_iff.1 hso).1
  obtain ⟨m1, m2⟩ := r0.msl_inv hob
  rcases m2 with ⟨_, _, h0, _⟩ | ⟨g0, tot, cap, m2, rfl, m3, m4, m5⟩ | ⟨_, h0, _⟩
  · omega
  · rw [Nat.zero_mul]
    obtain ⟨cur, c1, c2, c3, c4, c5⟩ := hinv.obj hso m2
    have hnr : n ≤ rows.length := by omega
    have hone : ∀ k u, k < n * 3 → cur[k]? = some u → u.oneCell' = true := fun k u hk hu => by
      obtain ⟨r, hr⟩ : ∃ r, rows[k / 3]? = some r := ⟨_, List.getElem?_eq_getElem (by omega)⟩
      have h3 := c5.1 _ r hr
      obtain ⟨y, hy⟩ : ∃ y, r[k % 3]? = some y := ⟨_, List.getElem?_eq_getElem (by omega)⟩
      obtain ⟨u', e1, e2, e3⟩ := c5.2 _ r hr _ y hy
      rw [show k / 3 * 3 + k % 3 = k by omega, hu] at e1
      cases e1
      exact e3
    refine (delete_raw g0 n cap i (i + 1) cur w c3 (by rw [c4]; omega) hone m4 (by have := c2; unfold maxLen at this; omega) hi rfl).mono ?_
    rintro e w' ⟨rfl, rfl⟩
    obtain ⟨news, hnews⟩ : ∃ news, news = List.take ((n - (i + 1)) * 3) (List.drop ((i + 1) * 3) cur.toList) := ⟨_, rfl⟩
    have hnl : news.length = (n - (i + 1)) * 3 := by
      rw [hnews, List.length_take, List.length_drop, Array.length_toList, c4]
      omega
    have hng : ∀ t, t < (n - (i + 1)) * 3 → news[t]? = cur[(i + 1) * 3 + t]? := fun t ht => by
      rw [hnews, List.getElem?_take, if_pos ht, List.getElem?_drop, Array.getElem?_toList]
    have f1 : i * 3 + news.length ≤ cur.size := by rw [hnl, c4]; omega
    have hon : ∀ u ∈ news, u.oneCell' = true := fun u hu => by
      obtain ⟨t, ht⟩ := List.getElem?_of_mem hu
      have htl := (List.getElem?_eq_some_iff.1 ht).1
      rw [hng t (by omega)] at ht
      exact hone _ u (by omega) ht
    obtain ⟨cur1, hcur1⟩ : ∃ cur1, cur1 = cutIn cur (i * 3) news := ⟨_, rfl⟩
    have hs1 : cur1.size = cur.size := by rw [hcur1]; exact cutIn_size f1
    have w1 : w.drew.setCells g0 (i * 3) news = w.drew.setRow g0 cur1 := by rw [hcur1]; exact setCells_row w.drew g0 (i * 3) 47 cur news c3 f1 hon
    have hh1 : (w.drew.setRow g0 cur1).heap[g0]? = some (.cells cur1 47 (0, 0)) := setRow_heap w.drew g0 cur cur1 47 (0, 0) c3
    have f2 : (n - 1) * 3 + ([Value.int .i64 0, .int .i64 0, .int .i64 0] : List Value).length ≤ cur1.size := by rw [hs1, c4]; simp; omega
    obtain ⟨cur2, hcur2⟩ : ∃ cur2, cur2 = cutIn cur1 ((n - 1) * 3) [Value.int .i64 0, .int .i64 0, .int .i64 0] := ⟨_, rfl⟩
    have hs2 : cur2.size = cur1.size := by rw [hcur2]; exact cutIn_size f2
    have w2 : (w.drew.setRow g0 cur1).setCells g0 ((n - 1) * 3) [Value.int .i64 0, .int .i64 0, .int .i64 0] = (w.drew.setRow g0 cur1).setRow g0 cur2 := by
      rw [hcur2]
      exact setCells_row _ g0 ((n - 1) * 3) 47 cur1 _ hh1 f2 (by simp [Value.oneCell'])
    have hh2 : ((w.drew.setRow g0 cur1).setRow g0 cur2).heap[g0]? = some (.cells cur2 47 (0, 0)) := setRow_heap _ g0 cur1 cur2 47 (0, 0) hh1
    rw [← hnews, w1, w2]
    have hget : ∀ k, cur2[k]? = if k < i * 3 then cur[k]? else if k < (n - 1) * 3 then cur[k + 3]? else if k < n * 3 then some (.int .i64 0) else cur[k]? := fun k => by
      rw [hcur2, cutIn_get f2, hcur1, cutIn_get f1, hnl]
      simp only [List.length_cons, List.length_nil]
      by_cases a1 : k < i * 3
      · have a2 : k < (n - 1) * 3 := by omega
        simp only [if_pos a1, if_pos a2]
      · simp only [if_neg a1]
        by_cases a2 : k < (n - 1) * 3
        · have a4 : k < i * 3 + (n - (i + 1)) * 3 := by omega
          simp only [if_pos a2, if_pos a4]
          rw [hng _ (by omega)]
          congr 1
          omega
        · simp only [if_neg a2]
          by_cases a3 : k < n * 3
          · have a4 : k < (n - 1) * 3 + (0 + 1 + 1 + 1) := by omega
            simp only [if_pos a3, if_pos a4]
            have : k - (n - 1) * 3 = 0 ∨ k - (n - 1) * 3 = 1 ∨ k - (n - 1) * 3 = 2 := by omega
            rcases this with h | h | h <;> rw [h] <;> rfl
          · have a4 : ¬ k < (n - 1) * 3 + (0 + 1 + 1 + 1) := by omega
            have a5 : ¬ k < i * 3 + (n - (i + 1)) * 3 := by omega
            simp only [if_neg a3, if_neg a4, if_neg a5]
    have hrr : RRH ρ S w 3 (delR rows n i) cur2 := by
      refine ⟨fun k r hr => ?_, fun k r hr j y hj => ?_⟩
      · rw [delR_get hnr hi] at hr
        split at hr
        · exact c5.1 _ r hr
        · split at hr
          · exact c5.1 _ r hr
          · split at hr
            · cases hr; rfl
            · exact c5.1 _ r hr
      · have hr0 := hr
        rw [delR_get hnr hi] at hr
        split at hr
        · rename_i b1
          have hjl : j < 3 := by rw [← c5.1 _ r hr]; exact (List.getElem?_eq_some_iff.1 hj).1
          obtain ⟨u, e1, e2, e3⟩ := c5.2 _ r hr j y hj
          exact ⟨u, by rw [hget, if_pos (by omega)]; exact e1, e2, e3⟩
        · rename_i b1
          split at hr
          · rename_i b2
            have hjl : j < 3 := by rw [← c5.1 _ r hr]; exact (List.getElem?_eq_some_iff.1 hj).1
            obtain ⟨u, e1, e2, e3⟩ := c5.2 _ r hr j y hj
            refine ⟨u, ?_, e2, e3⟩
            rw [hget, if_neg (by omega), if_pos (by omega), ← e1]
            congr 1
            omega
          · rename_i b2
            split at hr
            · rename_i b3
              cases hr
              have hjl : j < 3 := (List.getElem?_eq_some_iff.1 hj).1
              have hy : y = .int .i64 0 := by
                have : j = 0 ∨ j = 1 ∨ j = 2 := by omega
                rcases this with rfl | rfl | rfl <;> simpa [zB] using hj.symm
              subst hy
              refine ⟨.int .i64 0, ?_, .int, rfl⟩
              rw [hget, if_neg (by omega), if_neg (by omega), if_pos (by omega)]
            · rename_i b3
              have hjl : j < 3 := by rw [← c5.1 _ r hr]; exact (List.getElem?_eq_some_iff.1 hj).1
              obtain ⟨u, e1, e2, e3⟩ := c5.2 _ r hr j y hj
              refine ⟨u, ?_, e2, e3⟩
              rw [hget, if_neg (by omega), if_neg (by omega), if_neg (by omega)]
              exact e1
    have hz : ((w.drew.setRow g0 cur1).setRow g0 cur2).heap.size = w.drew.heap.size := by simp [World.setRow]
    obtain ⟨k1, k2⟩ := set_obj (w' := (w.drew.setRow g0 cur1).setRow g0 cur2) (ver' := ver + 1) (g' := g0) (tot' := tot) (rows' := delR rows n i) (cur := cur2) hinv hso m2 (.inl ⟨rfl, rfl, fun hv => by omega⟩) (by omega) (by rw [hz]; exact Nat.le_refl _) rfl ⟨rfl, Nat.le_succ _⟩ rfl
      (fun k _ hk => (setRow_other _ g0 k _ hk).trans (setRow_other _ g0 k _ hk)) hh2 (by rw [delR_len hnr hi]; exact c1) c2 (by rw [hs2, hs1, c4]) hrr
    exact ⟨_, _, _, _, rfl, msl_set (tot := tot) hid (by simp [upd]) (by rw [delR_len hnr hi]; omega) (by omega) (by omega), k1, k2, rfl, rfl⟩
  · omega
section
variable {S : Store} {a b : Nat} {full : Bool} {g : Gat} {S' : Store}
set_option maxHeartbeats 2000000 in
theorem unload_A (h : GAt S a b false full g S') (hbl : g.bags.length ≤ 1000) (tag : Int) : CallA Tryd.prog 14 [.ptr b 0 0 0, .int .i64 tag] S' fun r S'' => GAt S a b false false (unloadF g tag) S'' := by
  have hlow : GAt S a b false false g S' := by
    obtain ⟨bv, hg, hb⟩ := h.gate
    refine ⟨h.ext, h.la, h.lb, h.ne, ⟨bv, hg, ?_⟩, h.abO⟩
    rcases hb with hb | ⟨c, ver, rows, k1, k2, k3, k4, k5, k6, k7⟩
    · exact .inl hb
    · exact .inr ⟨c, ver, rows, k1, k2, k3, k4, k5, k6, fun h => by cases h⟩
  have op := fun X => open_A (h.add X)
  have bg := fun X => bag_A (h.add X) (by omega) tag
  obtain ⟨bv, hg, hb⟩ := h.gate
  have hbl' := obj_lt hg
  have hal' := obj_lt h.abO
  refine CallA.keep Tryd.func14 c7014 (Nat.le_of_ble_eq_true rfl) fun σ hσ => ?_
  simp (disch := first | omega | (simp only [lenT]; omega)) only [a7014, evSt, ↓evPre, ↓evPreW, evPost, evPostW, evR, evU, seval]
  refine (op _).then ?_
  simp (disch := first | omega | (simp only [lenT]; omega)) only [Bool.false_eq_true, if_false, evSt, ↓evPre, ↓evPreW, evPost, evPostW, evR, evU, seval]
  refine (bg _).then ?_
  by_cases h0 : bagF g.bags tag < 0
  · rw [show unloadF g tag = g by unfold unloadF; rw [if_pos h0]]
    simp (disch := first | omega | (simp only [lenT]; omega)) only [dT h0, evSt, ↓evPre, ↓evPreW, evPost, evPostW, evR, evU, seval]
    exact hlow.add _
  obtain ⟨i, x, q1, q2, q3, q4⟩ := fix_pos h0
  rw [Nat.zero_add] at q1
  have q1 : bagF g.bags tag = (i : Nat) := q1
  have hil := (List.getElem?_eq_some_iff.1 q2).1
  rw [show unloadF g tag = { g with bags := g.bags.take i ++ g.bags.drop (i + 1) } by unfold unloadF; rw [if_neg h0, q1]; rfl]
  rcases hb with ⟨_, hb0⟩ | ⟨c, ver, rows, k1, k2, k3, rfl, k5, k6, k7⟩
  · rw [hb0] at hil; simp at hil
  have hcl' := obj_lt k5
  have h0' : ¬ ((i : Nat) : Int) < 0 := by omega
  have hil2 : (i : Int) < (g.bags.length : Nat) := by omega
  have hi1 : (i : Int) + 1 = ((i + 1 : Nat) : Int) := by omega
  have hll : g.bags.length ≤ rows.length := by
    have := congrArg List.length k6
    rw [List.length_take, List.length_map] at this
    omega
  have hrow : rows[i]? = some (bgR x) := by
    have : (rows.take g.bags.length)[i]? = some (bgR x) := by rw [k6, List.getElem?_map, q2]; rfl
    rwa [List.getElem?_take, if_pos hil] at this
  simp only [bgR] at hrow
  have o1 : ∀ X, (S' ++ X : Store).obj? c ver = some (47, 3, rows) := fun X => obj_add k5
  have o2 : ∀ X, (S' ++ X : Store).obj? b 0 = some (81, 6, [[.bool true, .bool false, .sl 1 (g.tk.map nI), .sl 1 (g.rw.map nI), .msl a 0 0 g.ab.length, .msl c ver 0 g.bags.length]]) := fun X => obj_add hg
  rw [q1]
  simp (disch := first | omega | (simp only [lenT]; omega)) only [dF h0', o1, o2, hrow, wrap_i64, hi1, evSt, ↓evPre, ↓evPreW, evPost, evPostW, evR, evU, seval]
  have hX4 : (S' ++ [⟨0, some (.arr 47 3 [[.int .i64 0, .int .i64 0, .int .i64 0]])⟩, ⟨0, none⟩] : Store).obj? S'.length 0 = some (47, 3, [[.int .i64 0, .int .i64 0, .int .i64 0]]) := ob_app0.trans ob_head
  have hXc := o1 [⟨0, some (.arr 47 3 [[.int .i64 0, .int .i64 0, .int .i64 0]])⟩, ⟨0, none⟩]
  have hXb := o2 [⟨0, some (.arr 47 3 [[.int .i64 0, .int .i64 0, .int .i64 0]])⟩, ⟨0, none⟩]
  have hXa := obj_add (X := [⟨0, some (.arr 47 3 [[.int .i64 0, .int .i64 0, .int .i64 0]])⟩, ⟨0, none⟩]) h.abO
  have hXe := ext_add (X := [⟨0, some (.arr 47 3 [[.int .i64 0, .int .i64 0, .int .i64 0]])⟩, ⟨0, none⟩]) h.ext
  generalize (S' ++ [⟨0, some (.arr 47 3 [[.int .i64 0, .int .i64 0, .int .i64 0]])⟩, ⟨0, none⟩] : Store) = X at hX4 hXc hXb hXa hXe ⊢
  refine (delete_A c ver g.bags.length i rows X hXc hil).mono ?_
  rintro _ S2 ⟨rfl, hS2⟩
  have e1 : S2.obj? S'.length 0 = some (47, 3, [[.int .i64 0, .int .i64 0, .int .i64 0]]) := by rw [hS2]; exact (obj_set_ne (by omega)).trans hX4
  have e2 : S2.obj? b 0 = some (81, 6, [[.bool true, .bool false, .sl 1 (g.tk.map nI), .sl 1 (g.rw.map nI), .msl a 0 0 g.ab.length, .msl c ver 0 g.bags.length]]) := by rw [hS2]; exact (obj_set_ne (Ne.symm k2)).trans hXb
  have e3 : S2.obj? c (ver + 1) = some (47, 3, delR rows g.bags.length i) := by rw [hS2]; exact obj_set hXc
  have e4 : S2.obj? a 0 = some (4, 1, g.ab.map bI) := by rw [hS2]; exact (obj_set_ne (Ne.symm k1)).trans hXa
  have e5 : ∃ T, S2 = S ++ T := by rw [hS2]; exact ext_set hXe k3
  clear hS2 hX4 hXc hXb hXa hXe
  have hlS : S.length ≤ S'.length := by obtain ⟨T, hT⟩ := h.ext; rw [hT]; simp
  have e6 : Store.obj? (S2.set b ⟨0, some (.arr 81 6 [[.bool true, .bool false, .sl 1 (g.tk.map nI), .sl 1 (g.rw.map nI), .msl a 0 0 g.ab.length, .msl c (ver + 1) 0 (g.bags.length - 1)]])⟩) S'.length 0 = some (47, 3, [[.int .i64 0, .int .i64 0, .int .i64 0]]) := (obj_set_ne (by omega)).trans e1
  have e7 := obj_set (ver' := 0) (rows' := [[.int .i64 x.tag, .int .i64 x.tk, .int .i64 x.wt]]) e6
  simp (disch := first | omega | (simp only [lenT]; omega)) only [e2, e6, e7, evSt, ↓evPre, ↓evPreW, evPost, evPostW, evR, evU, seval]
  have hbl2 : ({ g with bags := g.bags.take i ++ g.bags.drop (i + 1) } : Gat).bags.length = g.bags.length - 1 := by
    simp only [List.length_append, List.length_take, List.length_drop]
    omega
  refine ⟨ext_set (ext_set e5 h.lb) hlS, h.la, h.lb, h.ne, ⟨_, (obj_set_ne (by omega)).trans (obj_set e2), .inr ⟨c, ver + 1, delR rows g.bags.length i, k1, k2, k3, by rw [hbl2], (obj_set_ne (by omega)).trans ((obj_set_ne k2).trans e3), ?_, fun h => by cases h⟩⟩, (obj_set_ne (by omega)).trans ((obj_set_ne h.ne).trans e4)⟩
  have hti : rows.take i = (g.bags.take i).map bgR := by rw [List.map_take, ← k6, List.take_take, Nat.min_eq_left (by omega)]
  rw [hbl2, delR_take hll hil, hti, List.map_append, List.map_drop, ← k6]
end
theorem clone_A (l : List Int) (S : Store) (hl : l.length ≤ 1000) : CallA Tryd.prog 25 [.sl 1 (l.map nI)] S fun r S' => r = .sl 1 (l.map nI) ∧ S' = S := by
  refine CallA.withNeat Tryd.func25 c2029 fun hn => ?_
  refine CallA.fin Tryd.func25 c2029 (Nat.le_of_ble_eq_true rfl) fun σ hσ => ?_
  cases l with
  | nil =>
    simp only [a2029, List.map_nil, evSt, ↓evPre, ↓evPreW, evPost, evPostW, evR, evU, seval]
    exact ⟨⟨_, S, hn.self, .nil, Nat.le_refl _, rfl, rfl⟩, Nat.zero_le _, _, S, hn.fgt _, .sl (t := 3) (Nat.le_refl _) (by rw [ob_app0, ob_head]) rfl (fun r hr => by cases hr), Nat.le_refl _, rfl, rfl⟩
  | cons a l =>
    simp only [a2029, List.map_cons, evSt, ↓evPre, ↓evPreW, evPost, evPostW, evR, evU, seval]
    simp only [List.length_cons] at hl
    exact ⟨by unfold roomA; omega, _, S, hn.fgt _, .sl (t := 3) (Nat.le_refl _) (by rw [ob_app0, ob_head]; rfl) (by simp) (nI_all (a :: l)), Nat.le_refl _, rfl, rfl⟩
set_option maxHeartbeats 1000000 in
theorem new_A (tk rw_ : List Int) (ht : tk.length ≤ 999) (hr : rw_.length = tk.length) (hco : ∀ (l : List Int) (x : Int) (S : Store), l.length ≤ 999 → CallA Tryd.prog 32 [.sl 1 (l.map nI), .int .i64 x] S fun r S' => r = .bool (l.contains x) ∧ S' = S) (S : Store) :
    CallA Tryd.prog 10 [.sl 1 (tk.map nI), .sl 1 (rw_.map nI)] S fun r S' => (∃ e : Int, r = .tup [.nilPtr, .int .i64 e] ∧ e ≠ 0 ∧ S' = S) ∨ (∃ a b : Nat, r = .tup [.ptr b 0 0 0, .int .i64 0] ∧ GAt S a b false true ⟨tk, rw_, List.replicate tk.length false, []⟩ S') := by
  refine CallA.withNeat Tryd.func10 c7010 fun hn => ?_
  refine CallA.keep Tryd.func10 c7010 (Nat.le_of_ble_eq_true rfl) fun σ hσ => ?_
  have h0 : ¬ (999 : Int) < (tk.length : Nat) := by omega
  have h1 : ((tk.length : Nat) : Int) = (rw_.length : Nat) := by omega
  simp (disch := first | omega | (simp only [lenT]; omega)) only [a7010, dF h0, dT h1, Bool.not_true, evSt, ↓evPre, ↓evPreW, evPost, evPostW, evR, evU, seval]
  refine loopA (ι := Nat) (fun k => [(0, .sl 1 (tk.map nI)), (1, .sl 1 (rw_.map nI)), (16, .sl 1 (tk.map nI)), (17, .int .i64 (tk.length : Nat)), (18, .int .i64 (k : Nat))]) (fun _ => S) (fun k => k ≤ tk.length) (fun k => tk.length - k) 0 (Nat.zero_le _) ?_ rfl ?_
  · simp only [↓evPre, ↓evPreW, evPost, evPostW, evR, evU, seval]
    try rfl
  intro k hk
  by_cases hkn : k < tk.length
  · have hlt : (k : Int) < (tk.length : Nat) := by omega
    have hlt2 : (k : Int) < (rw_.length : Nat) := by omega
    have hle : (k : Int) ≤ (tk.length : Nat) := by omega
    have hk1 : (k : Int) + 1 = ((k + 1 : Nat) : Int) := by omega
    obtain ⟨x, hx⟩ : ∃ x, tk[k]? = some x := ⟨_, List.getElem?_eq_getElem hkn⟩
    obtain ⟨y, hy⟩ : ∃ y, rw_[k]? = some y := ⟨_, List.getElem?_eq_getElem (by omega)⟩
    by_cases q1 : y < 1
    · simp (disch := first | omega | (simp only [lenT]; omega)) only [dT hlt, hx, hy, nI, dT q1, evSt, ↓evPre, ↓evPreW, evPost, evPostW, evR, evU, seval]
      exact .inl ⟨_, rfl, by decide⟩
    by_cases q2 : 999 < y
    · simp (disch := first | omega | (simp only [lenT]; omega)) only [dT hlt, hx, hy, nI, dF q1, dT q2, evSt, ↓evPre, ↓evPreW, evPost, evPostW, evR, evU, seval]
      exact .inl ⟨_, rfl, by decide⟩
    simp (disch := first | omega | (simp only [lenT]; omega)) only [dT hlt, hx, hy, nI, dF q1, dF q2, if_pos hle, evSt, ↓evPre, ↓evPreW, evPost, evPostW, evR, evU, seval]
    refine (hco (tk.take k) x S (by rw [List.length_take]; omega)).then ?_
    cases (tk.take k).contains x
    · simp (disch := first | omega | (simp only [lenT]; omega)) only [wrap_i64, hk1, evSt, ↓evPre, ↓evPreW, evPost, evPostW, evR, evU, seval]
      exact ⟨k + 1, by omega, by omega, by first | rfl | exact ⟨rfl, rfl⟩ | exact ⟨rfl, rfl, rfl⟩⟩
    · simp (disch := first | omega | (simp only [lenT]; omega)) only [evSt, ↓evPre, ↓evPreW, evPost, evPostW, evR, evU, seval]
      exact .inl ⟨_, rfl, by decide⟩
  · have hlt : ¬ (k : Int) < (tk.length : Nat) := by omega
    simp (disch := first | omega | (simp only [lenT]; omega)) only [dF hlt, evSt, ↓evPre, ↓evPreW, evPost, evPostW, evR, evU, seval]
    have cl := fun S => clone_A tk S (by omega)
    have cl2 := fun S => clone_A rw_ S (by omega)
    refine exD.intro (cl S) ?_
    simp (disch := first | omega | (simp only [lenT]; omega)) only [evSt, ↓evPre, ↓evPreW, evPost, evPostW, evR, evU, seval]
    refine ⟨fun S2 => ?_, ?_⟩
    · exact cl S2
    refine exD.intro (cl2 S) ?_
    simp (disch := first | omega | (simp only [lenT]; omega)) only [evSt, ↓evPre, ↓evPreW, evPost, evPostW, evR, evU, seval]
    refine ⟨fun S2 => ?_, ?_⟩
    · exact cl2 S2
    refine ⟨Int.le_refl _, by unfold roomA; omega, .inr ⟨S.length, S.length + 1, rfl, ⟨_, rfl⟩, Nat.le_refl _, Nat.le_succ _, by omega, ⟨.nilSl, ?_, .inl ⟨rfl, rfl⟩⟩, ?_⟩⟩
    · simp only [List.length_replicate, evSt]
    · simp only [evSt]
      simp [zrows, bI, List.map_replicate]
end Go.Proofs.YtjjdfkkfhbndiaaDoor
