/- The order of guests; who is accepted. -/
import Derived.Test.YtjjdfkkfhbndiaaDoorQCkChk1
namespace Go.Proofs.YtjjdfkkfhbndiaaDoor.Ck
open Go Go.AL
set_option linter.unusedSectionVars false
variable [Go.AL.Mode] [Go.AL.LooseM]
set_option linter.unusedSimpArgs false
set_option linter.unusedVariables false
structure Gst where
  tic : Int
  rank : Int
  since : Int
def gstR (g : Gst) : List V := [.int .i64 g.tic, .int .i64 g.rank, .int .i64 g.since]
def gSl (l : List Gst) : V := .sl 3 (l.map gstR)
theorem isNaN_A (n : Int) (S : Store) : CallA Tryd.prog 48 [.int .i64 n] S fun r S' => r = .bool false ∧ S' = S := by
  refine CallA.keep Tryd.func48 c2041 (Nat.le_of_ble_eq_true rfl) fun σ hσ => ?_
  simp only [a2041, ↓evPre, ↓evPreW, evPost, evPostW, evR, evU, seval]
def cmpF (a b : Int) : Int := if a < b then -1 else if b < a then 1 else 0
theorem compare_A (a b : Int) (S : Store) : CallA Tryd.prog 29 [.int .i64 a, .int .i64 b] S fun r S' => r = .int .i64 (cmpF a b) ∧ S' = S := by
  refine CallA.keep Tryd.func29 c2033 (Nat.le_of_ble_eq_true rfl) fun σ hσ => ?_
  simp only [a2033, ↓evPre, ↓evPreW, evPost, evPostW, evR, evU, seval]
  refine (isNaN_A a S).then ?_
  simp only [↓evPre, ↓evPreW, evPost, evPostW, evR, evU, seval]
  refine (isNaN_A b S).then ?_
  by_cases h1 : a < b
  · simp only [cmpF, h1, if_true, ↓evPre, ↓evPreW, evPost, evPostW, evR, evU, seval]
  by_cases h2 : b < a
  · simp only [cmpF, h1, h2, if_true, if_false, ↓evPre, ↓evPreW, evPost, evPostW, evR, evU, seval]
  simp only [cmpF, h1, h2, if_false, ↓evPre, ↓evPreW, evPost, evPostW, evR, evU, seval]
theorem or_A (a b : Int) (S : Store) : CallA Tryd.prog 46 [.sl 1 [[.int .i64 a], [.int .i64 b]]] S fun r S' => r = .int .i64 (if a ≠ 0 then a else b) ∧ S' = S := by
  refine CallA.keep Tryd.func46 c2032 (Nat.le_of_ble_eq_true rfl) fun σ hσ => ?_
  simp only [a2032, ↓evPre, ↓evPreW, evPost, evPostW, evR, evU, seval]
  refine loopA (ι := Nat) (fun k => [(3, .int .i64 0), (6, .sl 1 [[.int .i64 a], [.int .i64 b]]), (7, .int .i64 2), (8, .int .i64 k)]) (fun _ => S) (fun k => k ≤ 2 ∧ (0 < k → a = 0) ∧ (1 < k → b = 0)) (fun k => 2 - k) 0 ⟨by omega, fun h => by omega, fun h => by omega⟩ ?_ rfl ?_
  · simp only [↓evPre, ↓evPreW, evPost, evPostW, evR, evU, seval]
    try rfl
  · rintro k ⟨hk, h1, h2⟩
    match k, hk, h1, h2 with
    | 0, hk, h1, h2 =>
      simp (disch := first | omega | (simp only [lenT]; omega)) only [wrap_i64, ↓evPre, ↓evPreW, evPost, evPostW, evR, evU, seval]
      exact ⟨fun h => by rw [if_pos h], fun h => ⟨1, ⟨by omega, fun _ => Decidable.not_not.1 h, fun h => by omega⟩, by omega, rfl⟩⟩
    | 1, hk, h1, h2 =>
      simp (disch := first | omega | (simp only [lenT]; omega)) only [wrap_i64, ↓evPre, ↓evPreW, evPost, evPostW, evR, evU, seval]
      have h0 : ¬ a ≠ 0 := fun h => h (h1 (by omega))
      exact ⟨fun h => by rw [if_neg h0], fun h => ⟨2, ⟨by omega, fun _ => h1 (by omega), fun _ => Decidable.not_not.1 h⟩, by omega, rfl⟩⟩
    | 2, hk, h1, h2 =>
      have h22 : ¬ ((2 : Nat) : Int) < 2 := by omega
      have h0 : ¬ a ≠ 0 := fun h => h (h1 (by omega))
      simp (disch := first | omega | (simp only [lenT]; omega)) only [wrap_i64, h22, decide_false, ↓evPre, ↓evPreW, evPost, evPostW, evR, evU, seval]
      rw [if_neg h0, h2 (by omega)]
def gk (l : List Gst) (i : Nat) : Gst := l.getD i ⟨0, 0, 0⟩
def ltG (l : List Gst) (i j : Nat) : Bool := decide ((gk l j).rank < (gk l i).rank ∨ ((gk l i).rank = (gk l j).rank ∧ ((gk l i).since < (gk l j).since ∨ ((gk l i).since = (gk l j).since ∧ i < j))))
theorem gk_get {l : List Gst} {i : Nat} {a : Gst} (h : l[i]? = some a) : gk l i = a := by rw [gk, List.getD_eq_getElem?_getD, h]; rfl
def idx (r : List V) : Nat := match hd r with
  | .int _ n => n.toNat
  | _ => 0
def nR (i : Nat) : List V := [.int .i64 i]
theorem idx_nR (i : Nat) : idx (nR i) = i := by simp [idx, nR, hd]
def ltR (l : List Gst) (x y : List V) : Bool := ltG l (idx x) (idx y)
def okG (l : List Gst) (r : List V) : Prop := ∃ i, i < l.length ∧ r = nR i
def ordG (x y : List V) : Prop := idx x < idx y
theorem ordCmp (l : List Gst) : Cmps 45 [] [.cptr [gSl l]] (okG l) (ltR l) ordG := by
  rintro x y S ⟨i, hi, rfl⟩ ⟨j, hj, rfl⟩ hxy
  unfold ordG at hxy
  rw [idx_nR, idx_nR] at hxy
  have hx : l[i]? = some l[i] := List.getElem?_eq_getElem hi
  have hy : l[j]? = some l[j] := List.getElem?_eq_getElem hj
  have hlt : ltR l (nR i) (nR j) = ltG l i j := by rw [ltR, idx_nR, idx_nR]
  rw [hlt]
  unfold ltG
  generalize l[i] = a at hx
  generalize l[j] = b at hy
  rw [gk_get hx, gk_get hy]
  show CallA Tryd.prog 45 [.int .i64 i, .int .i64 j, .cptr [gSl l]] S _
  refine CallA.keep Tryd.func45 c2031 (Nat.le_of_ble_eq_true rfl) fun σ hσ => ?_
  simp (disch := first | omega | (simp only [lenT]; omega)) only [a2031, gSl, gstR, hx, hy, evSt, ↓evPre, ↓evPreW, evPost, evPostW, evR, evU, seval]
  refine exD.intro (compare_A b.rank a.rank S) ?_
  simp (disch := first | omega | (simp only [lenT]; omega)) only [evSt, ↓evPre, ↓evPreW, evPost, evPostW, evR, evU, seval]
  refine (compare_A a.since b.since S).then ?_
  simp (disch := first | omega | (simp only [lenT]; omega)) only [evSt, ↓evPre, ↓evPreW, evPost, evPostW, evR, evU, seval]
  refine (or_A _ _ S).then ?_
  simp (disch := first | omega | (simp only [lenT]; omega)) only [evSt, ↓evPre, ↓evPreW, evPost, evPostW, evR, evU, seval]
  refine ⟨_, rfl, ?_⟩
  unfold cmpF
  by_cases h1 : b.rank < a.rank
  · simp [h1]
  by_cases h2 : a.rank < b.rank
  · have : ¬ a.rank = b.rank := by omega
    simp [h1, h2, this]
  have h3 : a.rank = b.rank := by omega
  by_cases h4 : a.since < b.since
  · simp [h3, h4]
  have h5 : ¬ i < j := by omega
  by_cases h6 : b.since < a.since
  · simp [h3, h4, h6, h5]
  · simp [h3, h4, h6, h5]
theorem ordOrds (l : List Gst) : Ords (okG l) (ltR l) where
  asymm := by
    rintro x y ⟨i, hi, rfl⟩ ⟨j, hj, rfl⟩ h
    simp only [ltR, idx_nR, ltG, decide_eq_true_eq, decide_eq_false_iff_not] at h ⊢
    omega
  trans := by
    rintro x y z ⟨i, hi, rfl⟩ ⟨j, hj, rfl⟩ ⟨k, hk, rfl⟩ h1 h2
    simp only [ltR, idx_nR, ltG, decide_eq_false_iff_not] at h1 h2 ⊢
    omega
def iota (n : Nat) : List (List V) := (List.range n).map nR
theorem iota_ok (l : List Gst) : ∀ r ∈ iota l.length, okG l r := fun r hr => by
  obtain ⟨i, hi, rfl⟩ := List.mem_map.1 hr
  exact ⟨i, List.mem_range.1 hi, rfl⟩
theorem iota_ord (n : Nat) : (iota n).Pairwise ordG := by
  refine List.pairwise_map.2 ?_
  refine List.pairwise_lt_range.imp fun h => ?_
  simpa [ordG, idx_nR] using h
def orderF (l : List Gst) : List Nat := (List.range l.length).mergeSort fun a b => !ltG l b a
theorem orderF_spec (l : List Gst) : (orderF l).Perm (List.range l.length) ∧ (orderF l).Pairwise fun a b => ltG l b a = false := by
  have hp := List.mergeSort_perm (List.range l.length) fun a b => !ltG l b a
  refine ⟨hp, ?_⟩
  have h := List.pairwise_mergeSort (le := fun a b => !ltG l b a) (fun a b c h1 h2 => by simp [ltG] at *; omega) (fun a b => by simp [ltG]; omega) (List.range l.length)
  exact h.imp fun h => by simpa using h
theorem ltG_total {l : List Gst} {a b : Nat} (h1 : ltG l a b = false) (h2 : ltG l b a = false) : a = b := by
  simp only [ltG, decide_eq_false_iff_not] at h1 h2
  omega
theorem order_unique {l : List Gst} {M' : List (List V)} (hp : M'.Perm (iota l.length)) (hs : Srt (ltR l) M') : M' = (orderF l).map nR := by
  obtain ⟨h1, h2⟩ := orderF_spec l
  have hp2 : ((orderF l).map nR).Perm (iota l.length) := h1.map nR
  have hs2 : Srt (ltR l) ((orderF l).map nR) := by
    refine List.pairwise_map.2 (h2.imp fun h => ?_)
    simpa [ltR, idx_nR] using h
  refine List.Perm.eq_of_pairwise (fun x y hx hy g1 g2 => ?_) hs hs2 (hp.trans hp2.symm)
  obtain ⟨i, _, rfl⟩ := iota_ok l x (hp.mem_iff.1 hx)
  obtain ⟨j, _, rfl⟩ := iota_ok l y (hp2.mem_iff.1 hy)
  simp only [ltR, idx_nR] at g1 g2
  rw [ltG_total g1 g2]
def oSl (l : List Nat) : V := .sl 1 (l.map nR)
def fillK (k n : Nat) : List (List V) := (List.range k).map nR ++ List.replicate (n - k) [.int .i64 0]
theorem fillK_set {k n : Nat} (h : k < n) : (fillK k n).set k [.int .i64 k] = fillK (k + 1) n := by
  unfold fillK
  rw [List.set_append_right _ _ (by simp), List.length_map, List.length_range, Nat.sub_self, show n - k = (n - (k + 1)) + 1 by omega, List.replicate_succ, List.set_cons_zero, List.range_succ, List.map_append]
  simp [nR]
theorem fillK_get {k n : Nat} (h : k < n) : (fillK k n)[k]? = some [.int .i64 0] := by
  unfold fillK
  rw [List.getElem?_append_right (by simp), List.length_map, List.length_range, Nat.sub_self, List.getElem?_replicate, if_pos (by omega)]
theorem fillK_end (n : Nat) : fillK n n = iota n := by simp [fillK, iota]
theorem sort_A (l : List Gst) (S : Store) (hl : l.length ≤ 1000) : CallA Tryd.prog 27 [.msl S.length 0 0 l.length, .func 45 [] [.cptr [gSl l]]] (S ++ [⟨0, some (.arr 3 1 (iota l.length))⟩]) fun r S' => r = .tup [] ∧ S' = S ++ [⟨0, some (.arr 3 1 ((orderF l).map nR))⟩] := by
  refine CallA.keep Tryd.func27 c2030 (Nat.le_of_ble_eq_true rfl) fun σ hσ => ?_
  simp only [a2030, evSt, ↓evPre, ↓evPreV, evPost, evPostV, evR, evU, seval]
  have h1 : ∀ rows' : List (List V), rset (S ++ [⟨0, some (.arr 3 1 (iota l.length))⟩]) S.length 0 rows' = S ++ [⟨0, some (.arr 3 1 rows')⟩] := fun rows' => by simp [rset]
  have := stable_A (ordCmp l) (ordOrds l) (iota l.length) (S ++ [⟨0, some (.arr 3 1 (iota l.length))⟩]) S.length 0 l.length (by simp) (fun r hr => by obtain ⟨i, _, rfl⟩ := hr; exact ⟨rfl, rfl⟩) (iota_ok l) (by simp [iota]) (by omega) (iota_ord _)
  rw [h1] at this
  refine this.mono ?_
  rintro r S' ⟨rfl, M', h2, h3, rfl⟩
  have e := order_unique h2 h3
  subst e
  simp only [h1, ↓evPre, ↓evPreV, evPost, evPostV, evR, evU, seval]
theorem order_A (l : List Gst) (S : Store) (hl : l.length ≤ 1000) : CallA Tryd.prog 24 [gSl l] S fun r S' => r = oSl (orderF l) ∧ S' = S := by
  refine CallA.withNeat Tryd.func24 c2016 fun hn => ?_
  refine CallA.fin Tryd.func24 c2016 (Nat.le_of_ble_eq_true rfl) fun σ hσ => ?_
  simp (disch := first | omega | (simp only [lenT]; omega)) only [a2016, gSl, Int.toNat_natCast, evSt, ↓evPre, ↓evPreW, evPost, evPostW, evR, evU, seval]
  refine ⟨Int.le_refl _, by unfold roomA; omega, ?_⟩
  refine loopA (ι := Nat) (fun k => [(1, .cptr [gSl l]), (3, .msl S.length 0 0 l.length), (8, .msl S.length 0 0 l.length), (9, .int .i64 l.length), (10, .int .i64 k)]) (fun k => S ++ [⟨0, some (.arr 3 1 (fillK k l.length))⟩]) (fun k => k ≤ l.length) (fun k => l.length - k) 0 (Nat.zero_le _) ?_ ?_ ?_
  · simp only [gSl, ↓evPre, ↓evPreW, evPost, evPostW, evR, evU, seval]
  · simp [fillK, zrows]
  · intro k hk
    by_cases h : k < l.length
    · have hlt : (k : Int) < l.length := by omega
      simp (disch := first | omega | (simp only [lenT]; omega)) only [gSl, hlt, fillK_get h, fillK_set h, wrap_i64, decide_true, Nat.zero_add, evSt, ↓evPre, ↓evPreW, evPost, evPostW, evR, evU, seval]
      exact ⟨k + 1, by omega, by omega, rfl, rfl⟩
    · have hlt : ¬ (k : Int) < l.length := by omega
      have e : k = l.length := by omega
      subst e
      rw [fillK_end]
      simp (disch := first | omega | (simp only [lenT]; omega)) only [gSl, hlt, wrap_i64, decide_false, evSt, ↓evPre, ↓evPreW, evPost, evPostW, evR, evU, seval]
      refine (sort_A l S hl).mono ?_
      rintro _ _ ⟨rfl, rfl⟩
      simp (disch := first | omega | (simp only [lenT]; omega)) only [evSt, ↓evPre, ↓evPreW, evPost, evPostW, evR, evU, seval]
      exact ⟨_, S, hn.fgt _, .sl (t := 3) (Nat.le_refl _) (by rw [ob_app0, ob_head]) (by have := (orderF_spec l).1.length_eq; simpa using this) (fun r hr => by obtain ⟨i, _, rfl⟩ := List.mem_map.1 hr; exact ⟨rfl, rfl⟩), Nat.le_refl _, rfl, rfl⟩
theorem clone_A (l : List Nat) (S : Store) (hl : l.length ≤ 1000) : CallA Tryd.prog 25 [oSl l] S fun r S' => r = oSl l ∧ S' = S := by
  refine CallA.withNeat Tryd.func25 c2029 fun hn => ?_
  refine CallA.fin Tryd.func25 c2029 (Nat.le_of_ble_eq_true rfl) fun σ hσ => ?_
  have imm : ∀ (l : List Nat), ∀ r ∈ l.map nR, r.length = 1 ∧ V.allImm r = true := fun l r hr => by obtain ⟨i, _, rfl⟩ := List.mem_map.1 hr; exact ⟨rfl, rfl⟩
  cases l with
  | nil =>
    simp only [a2029, oSl, List.map_nil, evSt, ↓evPre, ↓evPreW, evPost, evPostW, evR, evU, seval]
    exact ⟨⟨_, S, hn.self, .nil, Nat.le_refl _, rfl, rfl⟩, Nat.zero_le _, _, S, hn.fgt _, .sl (t := 3) (Nat.le_refl _) (by rw [ob_app0, ob_head]) rfl (fun r hr => by cases hr), Nat.le_refl _, rfl, rfl⟩
  | cons a l =>
    simp only [a2029, oSl, List.map_cons, evSt, ↓evPre, ↓evPreW, evPost, evPostW, evR, evU, seval]
    simp only [List.length_cons] at hl
    exact ⟨by unfold roomA; omega, _, S, hn.fgt _, .sl (t := 3) (Nat.le_refl _) (by rw [ob_app0, ob_head]; rfl) (by simp) (imm (a :: l)), Nat.le_refl _, rfl, rfl⟩
def nSeats (l : List Gst) (seats : Int) : Nat := (min (max seats 0) (l.length : Int)).toNat
theorem accept_A (l : List Gst) (seats : Int) (S : Store) (hl : l.length ≤ 1000) : CallA Tryd.prog 6 [gSl l, .int .i64 seats] S fun r S' => r = .tup [oSl ((orderF l).take (nSeats l seats)), oSl ((orderF l).drop (nSeats l seats))] ∧ S' = S := by
  refine CallA.keep Tryd.func6 c2012 (Nat.le_of_ble_eq_true rfl) fun σ hσ => ?_
  have hlen : (orderF l).length = l.length := by have := (orderF_spec l).1.length_eq; simpa using this
  have hns : min (max seats 0) ((orderF l).length : Int) = (nSeats l seats : Nat) := by rw [hlen, nSeats]; omega
  have hle : nSeats l seats ≤ (orderF l).length := by omega
  generalize nSeats l seats = n at hns hle ⊢
  have hle2 : (n : Int) ≤ (orderF l).length := by omega
  have h0 : (0 : Int) ≤ n := by omega
  have hsub : (orderF l).length - n = ((orderF l).drop n).length := by simp
  simp (disch := first | omega | (simp only [lenT]; omega)) only [a2012, evSt, ↓evPre, ↓evPreW, evPost, evPostW, evR, evU, seval]
  refine (order_A l S hl).then ?_
  simp (disch := first | omega | (simp only [lenT]; omega)) only [oSl, hns, hle2, h0, Int.le_refl, ← List.map_take, ← List.map_drop, and_self, if_true, Int.toNat_natCast, hsub, List.take_length, evSt, ↓evPre, ↓evPreW, evPost, evPostW, evR, evU, seval]
  refine exD.intro (clone_A ((orderF l).take n) S (by simp; omega)) ?_
  simp (disch := first | omega | (simp only [lenT]; omega)) only [oSl, hns, hle2, h0, Int.le_refl, ← List.map_take, ← List.map_drop, and_self, if_true, Int.toNat_natCast, hsub, List.take_length, evSt, ↓evPre, ↓evPreW, evPost, evPostW, evR, evU, seval]
  refine (clone_A ((orderF l).drop n) S (by simp; omega)).then ?_
  simp (disch := first | omega | (simp only [lenT]; omega)) only [oSl, evSt, ↓evPre, ↓evPreW, evPost, evPostW, evR, evU, seval]
end Go.Proofs.YtjjdfkkfhbndiaaDoor.Ck
