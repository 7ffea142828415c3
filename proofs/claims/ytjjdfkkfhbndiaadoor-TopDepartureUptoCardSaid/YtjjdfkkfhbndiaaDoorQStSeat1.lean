/- Seats that fit; lists of -1; the order of claims. -/
import Derived.Test.YtjjdfkkfhbndiaaDoorQStSSrt5
namespace Go.Proofs.YtjjdfkkfhbndiaaDoor.St
open Go Go.AL
set_option linter.unusedSectionVars false
variable [Go.AL.Mode] [Go.AL.LooseM]
set_option linter.unusedSimpArgs false
set_option linter.unusedVariables false
abbrev Txt := List UInt8
structure Sea where
  row : Int
  letter : Txt
  has : Int
structure Clm where
  tic : Int
  need : Int
  avoid : Int
  rank : Int
def seaR (s : Sea) : List V := [.int .i64 s.row, .str s.letter, .int .i64 s.has]
def clmR (c : Clm) : List V := [.int .i64 c.tic, .int .i64 c.need, .int .i64 c.avoid, .int .i64 c.rank]
def seSl (l : List Sea) : V := .sl 3 (l.map seaR)
def clSl (l : List Clm) : V := .sl 4 (l.map clmR)
def iSl (l : List Int) : V := .sl 1 (l.map fun n => [.int .i64 n])
def landF (a b : Int) : Int := IntKind.i64.wrap (((BitVec.ofInt IntKind.i64.bits a &&& BitVec.ofInt IntKind.i64.bits b).toNat : Nat) : Int)
def fitsF (s : Sea) (c : Clm) : Bool := decide (landF s.has c.need = c.need) && decide (landF s.has c.avoid = 0)
theorem fits_A (s : Sea) (c : Clm) (S : Store) : CallA Tryd.prog 31 [.agg (seaR s), .agg (clmR c)] S fun r S' => r = .bool (fitsF s c) ∧ S' = S := by
  refine CallA.keep Tryd.func31 c3020 (Nat.le_of_ble_eq_true rfl) fun σ hσ => ?_
  by_cases h : landF s.has c.need = c.need
  · have e : fitsF s c = decide (landF s.has c.avoid = 0) := by simp [fitsF, h]
    rw [e]
    unfold landF at h ⊢
    simp (disch := first | omega | (simp only [lenT]; omega)) only [a3020, seaR, clmR, h, decide_true, evSt, ↓evPre, ↓evPreW, evPost, evPostW, evR, evU, seval]
  · have e : fitsF s c = false := by simp [fitsF, h]
    rw [e]
    unfold landF at h
    simp (disch := first | omega | (simp only [lenT]; omega)) only [a3020, seaR, clmR, h, decide_false, evSt, ↓evPre, ↓evPreW, evPost, evPostW, evR, evU, seval]
def iR (n : Int) : List V := [.int .i64 n]
def bR (b : Bool) : List V := [.bool b]
def fillN (k n : Nat) : List Int := List.replicate k (-1) ++ List.replicate (n - k) 0
theorem fillN_set {k n : Nat} (h : k < n) : (fillN k n).set k (-1) = fillN (k + 1) n := by
  unfold fillN
  rw [List.set_append_right _ _ (by simp), List.length_replicate, Nat.sub_self, show n - k = (n - (k + 1)) + 1 by omega, List.replicate_succ, List.set_cons_zero, List.replicate_succ']
  simp
theorem fillN_get {k n : Nat} (h : k < n) : (fillN k n)[k]? = some 0 := by
  unfold fillN
  rw [List.getElem?_append_right (by simp), List.length_replicate, Nat.sub_self, List.getElem?_replicate, if_pos (by omega)]
theorem set_iR {l : List Int} {k : Nat} {n : Int} : (l.map iR).set k [.int .i64 n] = (l.set k n).map iR := by rw [List.map_set]; rfl
theorem none_A (n : Nat) (S : Store) (hn : n ≤ 1048576) : CallA Tryd.prog 26 [.int .i64 n] S fun r S' => r = .msl S.length 0 0 n ∧ S' = S ++ [⟨0, some (.arr 3 1 ((List.replicate n (-1 : Int)).map iR))⟩] := by
  refine CallA.keep Tryd.func26 c3022 (Nat.le_of_ble_eq_true rfl) fun σ hσ => ?_
  simp (disch := first | omega | (simp only [lenT]; omega)) only [a3022, Int.toNat_natCast, evSt, ↓evPre, ↓evPreW, evPost, evPostW, evR, evU, seval]
  refine ⟨by omega, by unfold roomA; omega, ?_⟩
  refine loopA (ι := Nat) (fun k => [(3, .msl S.length 0 0 n), (8, .int .i64 n), (9, .int .i64 k)]) (fun k => S ++ [⟨0, some (.arr 3 1 ((fillN k n).map iR))⟩]) (fun k => k ≤ n) (fun k => n - k) 0 (Nat.zero_le _) ?_ ?_ ?_
  · simp only [↓evPre, ↓evPreW, evPost, evPostW, evR, evU, seval]
  · simp [fillN, zrows, iR]
  · intro k hk
    by_cases h : k < n
    · have hlt : (k : Int) < n := by omega
      simp (disch := first | omega | (simp only [lenT]; omega)) only [hlt, fillN_get h, iR, wrap_i64, decide_true, Nat.zero_add, evSt, ↓evPre, ↓evPreW, evPost, evPostW, evR, evU, seval]
      exact ⟨k + 1, by omega, by omega, rfl, by rw [set_iR, fillN_set h]⟩
    · have hlt : ¬ (k : Int) < n := by omega
      have e : k = n := by omega
      subst e
      simp (disch := first | omega | (simp only [lenT]; omega)) only [hlt, decide_false, evSt, ↓evPre, ↓evPreW, evPost, evPostW, evR, evU, seval]
      simp [fillN]
theorem isNaN_A (n : Int) (S : Store) : CallA Tryd.prog 48 [.int .i64 n] S fun r S' => r = .bool false ∧ S' = S := by
  refine CallA.keep Tryd.func48 c3037 (Nat.le_of_ble_eq_true rfl) fun σ hσ => ?_
  simp only [a3037, ↓evPre, ↓evPreW, evPost, evPostW, evR, evU, seval]
def cmpF (a b : Int) : Int := if a < b then -1 else if b < a then 1 else 0
theorem compare_A (a b : Int) (S : Store) : CallA Tryd.prog 29 [.int .i64 a, .int .i64 b] S fun r S' => r = .int .i64 (cmpF a b) ∧ S' = S := by
  refine CallA.keep Tryd.func29 c3025 (Nat.le_of_ble_eq_true rfl) fun σ hσ => ?_
  simp only [a3025, ↓evPre, ↓evPreW, evPost, evPostW, evR, evU, seval]
  refine (isNaN_A a S).then ?_
  simp only [↓evPre, ↓evPreW, evPost, evPostW, evR, evU, seval]
  refine (isNaN_A b S).then ?_
  by_cases h1 : a < b
  · simp only [cmpF, h1, if_true, ↓evPre, ↓evPreW, evPost, evPostW, evR, evU, seval]
  by_cases h2 : b < a
  · simp only [cmpF, h1, h2, if_true, if_false, ↓evPre, ↓evPreW, evPost, evPostW, evR, evU, seval]
  simp only [cmpF, h1, h2, if_false, ↓evPre, ↓evPreW, evPost, evPostW, evR, evU, seval]
def gk (l : List Clm) (i : Nat) : Clm := l.getD i ⟨0, 0, 0, 0⟩
def ltG (l : List Clm) (i j : Nat) : Bool := decide ((gk l j).rank < (gk l i).rank ∨ ((gk l i).rank = (gk l j).rank ∧ i < j))
theorem gk_get {l : List Clm} {i : Nat} {a : Clm} (h : l[i]? = some a) : gk l i = a := by rw [gk, List.getD_eq_getElem?_getD, h]; rfl
def idx (r : List V) : Nat := match hd r with
  | .int _ n => n.toNat
  | _ => 0
def nR (i : Nat) : List V := [.int .i64 i]
theorem idx_nR (i : Nat) : idx (nR i) = i := by simp [idx, nR, hd]
def ltR (l : List Clm) (x y : List V) : Bool := ltG l (idx x) (idx y)
def okG (l : List Clm) (r : List V) : Prop := ∃ i, i < l.length ∧ r = nR i
def ordG (x y : List V) : Prop := idx x < idx y
theorem ordCmp (l : List Clm) : Cmps 28 [] [.cptr [clSl l]] (okG l) (ltR l) ordG := by
  rintro x y S ⟨i, hi, rfl⟩ ⟨j, hj, rfl⟩ hxy
  unfold ordG at hxy
  rw [idx_nR, idx_nR] at hxy
  have hx : l[i]? = some l[i] := List.getElem?_eq_getElem hi
  have hy : l[j]? = some l[j] := List.getElem?_eq_getElem hj
  have hlt : ltR l (nR i) (nR j) = ltG l i j := by rw [ltR, idx_nR, idx_nR]
  rw [hlt]
  unfold ltG
  generalize l[i] = a at hx
  generalize l[j] = b at hy
  rw [gk_get hx, gk_get hy]
  show CallA Tryd.prog 28 [.int .i64 i, .int .i64 j, .cptr [clSl l]] S _
  refine CallA.keep Tryd.func28 c3024 (Nat.le_of_ble_eq_true rfl) fun σ hσ => ?_
  simp (disch := first | omega | (simp only [lenT]; omega)) only [a3024, clSl, clmR, hx, hy, evSt, ↓evPre, ↓evPreW, evPost, evPostW, evR, evU, seval]
  refine (compare_A b.rank a.rank S).then ?_
  simp (disch := first | omega | (simp only [lenT]; omega)) only [evSt, ↓evPre, ↓evPreW, evPost, evPostW, evR, evU, seval]
  refine ⟨_, rfl, ?_⟩
  unfold cmpF
  by_cases h1 : b.rank < a.rank
  · simp [h1]
  have h5 : ¬ i < j := by omega
  by_cases h2 : a.rank < b.rank
  · simp [h1, h2, h5]
  · simp [h1, h2, h5]
theorem ordOrds (l : List Clm) : Ords (okG l) (ltR l) where
  asymm := by
    rintro x y ⟨i, hi, rfl⟩ ⟨j, hj, rfl⟩ h
    simp only [ltR, idx_nR, ltG, decide_eq_true_eq, decide_eq_false_iff_not] at h ⊢
    omega
  trans := by
    rintro x y z ⟨i, hi, rfl⟩ ⟨j, hj, rfl⟩ ⟨k, hk, rfl⟩ h1 h2
    simp only [ltR, idx_nR, ltG, decide_eq_false_iff_not] at h1 h2 ⊢
    omega
def iota (n : Nat) : List (List V) := (List.range n).map nR
theorem iota_ok (l : List Clm) : ∀ r ∈ iota l.length, okG l r := fun r hr => by
  obtain ⟨i, hi, rfl⟩ := List.mem_map.1 hr
  exact ⟨i, List.mem_range.1 hi, rfl⟩
theorem iota_ord (n : Nat) : (iota n).Pairwise ordG := by
  refine List.pairwise_map.2 ?_
  refine List.pairwise_lt_range.imp fun h => ?_
  simpa [ordG, idx_nR] using h
def orderF (l : List Clm) : List Nat := (List.range l.length).mergeSort fun a b => !ltG l b a
theorem orderF_spec (l : List Clm) : (orderF l).Perm (List.range l.length) ∧ (orderF l).Pairwise fun a b => ltG l b a = false := by
  have hp := List.mergeSort_perm (List.range l.length) fun a b => !ltG l b a
  refine ⟨hp, ?_⟩
  have h := List.pairwise_mergeSort (le := fun a b => !ltG l b a) (fun a b c h1 h2 => by simp [ltG] at *; omega) (fun a b => by simp [ltG]; omega) (List.range l.length)
  exact h.imp fun h => by simpa using h
theorem ltG_total {l : List Clm} {a b : Nat} (h1 : ltG l a b = false) (h2 : ltG l b a = false) : a = b := by
  simp only [ltG, decide_eq_false_iff_not] at h1 h2
  omega
theorem order_unique {l : List Clm} {M' : List (List V)} (hp : M'.Perm (iota l.length)) (hs : Srt (ltR l) M') : M' = (orderF l).map nR := by
  obtain ⟨h1, h2⟩ := orderF_spec l
  have hp2 : ((orderF l).map nR).Perm (iota l.length) := h1.map nR
  have hs2 : Srt (ltR l) ((orderF l).map nR) := by
    refine List.pairwise_map.2 (h2.imp fun h => ?_)
    simpa [ltR, idx_nR] using h
  refine List.Perm.eq_of_pairwise (fun x y hx hy g1 g2 => ?_) hs hs2 (hp.trans hp2.symm)
  obtain ⟨i, _, rfl⟩ := iota_ok l x (hp.mem_iff.1 hx)
  obtain ⟨j, _, rfl⟩ := iota_ok l y (hp2.mem_iff.1 hy)
  simp only [ltR, idx_nR] at g1 g2
  rw [ltG_total g1 g2]
def fillK (k n : Nat) : List (List V) := (List.range k).map nR ++ List.replicate (n - k) [.int .i64 0]
theorem fillK_set {k n : Nat} (h : k < n) : (fillK k n).set k [.int .i64 k] = fillK (k + 1) n := by
  unfold fillK
  rw [List.set_append_right _ _ (by simp), List.length_map, List.length_range, Nat.sub_self, show n - k = (n - (k + 1)) + 1 by omega, List.replicate_succ, List.set_cons_zero, List.range_succ, List.map_append]
  simp [nR]
theorem fillK_get {k n : Nat} (h : k < n) : (fillK k n)[k]? = some [.int .i64 0] := by
  unfold fillK
  rw [List.getElem?_append_right (by simp), List.length_map, List.length_range, Nat.sub_self, List.getElem?_replicate, if_pos (by omega)]
theorem fillK_end (n : Nat) : fillK n n = iota n := by simp [fillK, iota]
theorem sort_A (l : List Clm) (S : Store) (hl : l.length ≤ 1000) : CallA Tryd.prog 27 [.msl S.length 0 0 l.length, .func 28 [] [.cptr [clSl l]]] (S ++ [⟨0, some (.arr 3 1 (iota l.length))⟩]) fun r S' => r = .tup [] ∧ S' = S ++ [⟨0, some (.arr 3 1 ((orderF l).map nR))⟩] := by
  refine CallA.keep Tryd.func27 c3023 (Nat.le_of_ble_eq_true rfl) fun σ hσ => ?_
  simp only [a3023, evSt, ↓evPre, ↓evPreV, evPost, evPostV, evR, evU, seval]
  have h1 : ∀ rows' : List (List V), rset (S ++ [⟨0, some (.arr 3 1 (iota l.length))⟩]) S.length 0 rows' = S ++ [⟨0, some (.arr 3 1 rows')⟩] := fun rows' => by simp [rset]
  have := stable_A (ordCmp l) (ordOrds l) (iota l.length) (S ++ [⟨0, some (.arr 3 1 (iota l.length))⟩]) S.length 0 l.length (by simp) (fun r hr => by obtain ⟨i, _, rfl⟩ := hr; exact ⟨rfl, rfl⟩) (iota_ok l) (by simp [iota]) (by omega) (iota_ord _)
  rw [h1] at this
  refine this.mono ?_
  rintro r S' ⟨rfl, M', h2, h3, rfl⟩
  have e := order_unique h2 h3
  subst e
  simp only [h1, ↓evPre, ↓evPreV, evPost, evPostV, evR, evU, seval]
end Go.Proofs.YtjjdfkkfhbndiaaDoor.St
/- A claim gets a seat, others may move: plain. -/
namespace Go.Proofs.YtjjdfkkfhbndiaaDoor.St
open Go Go.AL
set_option linter.unusedSectionVars false
variable [Go.AL.Mode] [Go.AL.LooseM]
set_option linter.unusedSimpArgs false
set_option linter.unusedVariables false
structure St where
  seat : List Int
  claim : List Int
  tried : List Bool
def St.mark (s : St) (i : Nat) : St := { s with tried := s.tried.set i true }
def St.put (s : St) (i : Nat) (c : Int) : St := { s with claim := s.claim.set i c, seat := s.seat.set c.toNat i }
def scanF (fits : Nat → Int → Bool) (rec : Int → St → Bool × St) (c : Int) : List Nat → St → Bool × St
  | [], s => (false, s)
  | i :: is, s =>
    if s.tried.getD i true || !fits i c then scanF fits rec c is s
    else if s.claim.getD i 0 < 0 then (true, (s.mark i).put i c)
    else
      let r := rec (s.claim.getD i 0) (s.mark i)
      if r.1 then (true, r.2.put i c) else scanF fits rec c is r.2
def placeF (fits : Nat → Int → Bool) (L : Nat) : Nat → Int → St → Bool × St
  | 0, _, s => (false, s)
  | n + 1, c, s => scanF fits (placeF fits L n) c (List.range L) s
def free (s : St) : Nat := (s.tried.filter (!·)).length
def Wf (C L : Nat) (s : St) : Prop := s.seat.length = C ∧ s.claim.length = L ∧ s.tried.length = L ∧ ∀ x ∈ s.claim, -1 ≤ x ∧ x < C
theorem free_mark {s : St} {i : Nat} (h : s.tried[i]? = some false) : free (s.mark i) < free s := by
  unfold free St.mark
  simp only
  generalize s.tried = l at h
  induction l generalizing i with
  | nil => simp at h
  | cons b l ih =>
    cases i with
    | zero =>
      simp at h
      subst h
      simp
    | succ i =>
      have := ih (i := i) (by simpa using h)
      rw [List.set_cons_succ, List.filter_cons, List.filter_cons]
      split <;> (try simp only [List.length_cons]) <;> omega
theorem wf_mark {C L : Nat} {s : St} {i : Nat} (h : Wf C L s) : Wf C L (s.mark i) := ⟨h.1, h.2.1, by simp [St.mark, h.2.2.1], h.2.2.2⟩
theorem wf_put {C L : Nat} {s : St} {i : Nat} {c : Int} (h : Wf C L s) (h0 : 0 ≤ c) (h1 : c < C) : Wf C L (s.put i c) := by
  refine ⟨by simp [St.put, h.1], by simp [St.put, h.2.1], h.2.2.1, fun x hx => ?_⟩
  simp only [St.put] at hx
  rcases List.mem_or_eq_of_mem_set hx with hx | rfl
  · exact h.2.2.2 x hx
  · omega
theorem claim_at {C L : Nat} {s : St} {i : Nat} (h : Wf C L s) (hi : i < L) : s.claim[i]? = some (s.claim.getD i 0) ∧ -1 ≤ s.claim.getD i 0 ∧ s.claim.getD i 0 < C := by
  have hl : i < s.claim.length := by rw [h.2.1]; exact hi
  have e : s.claim[i]? = some s.claim[i] := List.getElem?_eq_getElem hl
  rw [List.getD_eq_getElem?_getD, e]
  exact ⟨rfl, h.2.2.2 _ (List.getElem_mem hl)⟩
theorem tried_at {C L : Nat} {s : St} {i : Nat} (h : Wf C L s) (hi : i < L) : s.tried[i]? = some (s.tried.getD i true) := by
  have hl : i < s.tried.length := by rw [h.2.2.1]; exact hi
  rw [List.getD_eq_getElem?_getD, List.getElem?_eq_getElem hl]; rfl
def Kept (C L : Nat) (s s' : St) : Prop := Wf C L s' ∧ free s' ≤ free s
theorem scan_kept {C L : Nat} {fits : Nat → Int → Bool} {rec : Int → St → Bool × St} {c : Int} (hc0 : 0 ≤ c) (hc1 : c < C) (hrec : ∀ (d : Int) (s : St), 0 ≤ d → d < C → Wf C L s → Kept C L s (rec d s).2) : ∀ (is : List Nat), (∀ i ∈ is, i < L) → ∀ s, Wf C L s → Kept C L s (scanF fits rec c is s).2
  | [], _, s, h => ⟨h, Nat.le_refl _⟩
  | i :: is, hi, s, h => by
    have hil := hi i (List.mem_cons_self ..)
    have his := fun j hj => hi j (List.mem_cons_of_mem _ hj)
    rw [scanF]
    split
    · exact scan_kept hc0 hc1 hrec is his s h
    · rename_i hcond
      have ht := tried_at h hil
      have hfalse : s.tried.getD i true = false := by
        cases hb : s.tried.getD i true with
        | true => rw [hb] at hcond; simp at hcond
        | false => rfl
      rw [hfalse] at ht
      have hfm := free_mark ht
      split
      · exact ⟨wf_put (wf_mark h) hc0 hc1, by show free (s.mark i) ≤ _; omega⟩
      · obtain ⟨_, b1, b2⟩ := claim_at h hil
        have hk := hrec (s.claim.getD i 0) (s.mark i) (by omega) b2 (wf_mark h)
        simp only
        split
        · exact ⟨wf_put hk.1 hc0 hc1, by show free (rec (s.claim.getD i 0) (s.mark i)).2 ≤ _; have := hk.2; omega⟩
        · have := scan_kept (fits := fits) hc0 hc1 hrec is his _ hk.1
          exact ⟨this.1, by have := this.2; have := hk.2; omega⟩
theorem place_kept {C L : Nat} {fits : Nat → Int → Bool} : ∀ (n : Nat) (c : Int) (s : St), 0 ≤ c → c < C → Wf C L s → Kept C L s (placeF fits L n c s).2
  | 0, c, s, _, _, h => ⟨h, Nat.le_refl _⟩
  | n + 1, c, s, h0, h1, h => scan_kept h0 h1 (fun d s hd0 hd1 hs => place_kept n d s hd0 hd1 hs) _ (fun i hi => List.mem_range.1 hi) s h
end Go.Proofs.YtjjdfkkfhbndiaaDoor.St
