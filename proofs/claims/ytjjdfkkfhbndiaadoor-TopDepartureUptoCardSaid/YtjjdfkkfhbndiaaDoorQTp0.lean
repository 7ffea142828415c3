/- Departure, plainly: a gate, its bags and its passengers. -/
import Derived.Test.YtjjdfkkfhbndiaaDoorQAlM
import Derived.Test.YtjjdfkkfhbndiaaDoorQTopC
namespace Go.Proofs.YtjjdfkkfhbndiaaDoor
open Go Go.AL
set_option linter.unusedSectionVars false
variable [Go.AL.Mode] [Go.AL.LooseM]
set_option linter.unusedSimpArgs false
set_option linter.unusedVariables false
def fix {α : Type} (q : α → Bool) : List α → Nat → Int
  | [], _ => -1
  | x :: l, k => if q x then (k : Nat) else fix q l (k + 1)
theorem fix_neg {α : Type} {q : α → Bool} : ∀ {l : List α} {k : Nat}, fix q l k < 0 → ∀ x ∈ l, q x = false
  | y :: l, k, h, x, hx => by
    rw [fix] at h
    by_cases hy : q y = true
    · rw [if_pos hy] at h; omega
    · rw [if_neg hy] at h
      rcases List.mem_cons.1 hx with rfl | hx
      · simpa using hy
      · exact fix_neg h x hx
theorem fix_pos {α : Type} {q : α → Bool} : ∀ {l : List α} {k : Nat}, ¬ fix q l k < 0 → ∃ (i : Nat) (x : α), fix q l k = ((k + i : Nat) : Int) ∧ l[i]? = some x ∧ q x = true ∧ ∀ y ∈ l.take i, q y = false
  | [], k, h => by rw [fix] at h; omega
  | y :: l, k, h => by
    rw [fix] at h ⊢
    by_cases hy : q y = true
    · rw [if_pos hy]
      exact ⟨0, y, rfl, rfl, hy, fun z hz => by simp at hz⟩
    · rw [if_neg hy] at h ⊢
      obtain ⟨i, x, h1, h2, h3, h4⟩ := fix_pos h
      refine ⟨i + 1, x, by rw [h1]; congr 1; omega, by simpa using h2, h3, fun z hz => ?_⟩
      rw [List.take_succ_cons] at hz
      rcases List.mem_cons.1 hz with rfl | hz
      · simpa using hy
      · exact h4 z hz
theorem fix_at {α : Type} {q : α → Bool} {l : List α} {k : Nat} {x : α} (h : l[k]? = some x) : fix q (l.drop k) k = if q x = true then ((k : Nat) : Int) else fix q (l.drop (k + 1)) (k + 1) := by
  obtain ⟨h1, rfl⟩ := List.getElem?_eq_some_iff.1 h
  rw [List.drop_eq_getElem_cons h1, fix]
theorem fix_end {α : Type} {q : α → Bool} {l : List α} {k : Nat} (h : l[k]? = none) : fix q (l.drop k) k = -1 := by
  rw [List.drop_eq_nil_of_le (List.getElem?_eq_none_iff.1 h), fix]
structure Bg where
  tag : Int
  tk : Int
  wt : Int
def bgR (b : Bg) : List V := [.int .i64 b.tag, .int .i64 b.tk, .int .i64 b.wt]
structure Gat where
  tk : List Int
  rw : List Int
  ab : List Bool
  bags : List Bg
def posF (g : Gat) (t : Int) : Int := fix (fun x => decide (t = x)) g.tk 0
def abF (g : Gat) (t : Int) : Bool := g.ab.getD (posF g t).toNat false
def bagF (l : List Bg) (tag : Int) : Int := fix (fun b => decide (b.tag = tag)) l 0
def loadF (g : Gat) (b : Bg) : Gat × Int := if posF g b.tk < 0 then (g, 7) else if 0 ≤ bagF g.bags b.tag then (g, 6) else ({ g with bags := g.bags ++ [b] }, 0)
def boardF (g : Gat) (t : Int) : Gat × Int := if posF g t < 0 then (g, 7) else if abF g t = true then (g, 6) else ({ g with ab := g.ab.set (posF g t).toNat true }, 0)
def missF (g : Gat) : List Bg := g.bags.filter fun b => !abF g b.tk
def unloadF (g : Gat) (tag : Int) : Gat := if bagF g.bags tag < 0 then g else { g with bags := g.bags.take (bagF g.bags tag).toNat ++ g.bags.drop ((bagF g.bags tag).toNat + 1) }
def listF (a : Bool) : List Int → List Bool → List Int
  | t :: tk, b :: ab => if b = a then t :: listF a tk ab else listF a tk ab
  | _, _ => []
structure GOk (g : Gat) (board : List Int) : Prop where
  len : g.ab.length = g.tk.length
  bag : ∀ b ∈ g.bags, b.tk ∈ g.tk
  tags : g.bags.Pairwise fun a b => a.tag ≠ b.tag
  ab : ∀ (i : Nat) (t : Int), g.tk[i]? = some t → g.ab[i]? = some true → t ∈ board
theorem GOk.mono {g : Gat} {l m : List Int} (h : GOk g l) (hm : ∀ x ∈ l, x ∈ m) : GOk g m := ⟨h.len, h.bag, h.tags, fun i t h1 h2 => hm t (h.ab i t h1 h2)⟩
theorem posF_mem {g : Gat} {t : Int} (h : ¬ posF g t < 0) : ∃ i : Nat, posF g t = (i : Int) ∧ g.tk[i]? = some t := by
  obtain ⟨i, x, h1, h2, h3, _⟩ := fix_pos h
  exact ⟨i, by rw [show posF g t = _ from h1]; simp, by rw [h2]; exact congrArg some (of_decide_eq_true h3).symm⟩
theorem pos_of_mem {g : Gat} {t : Int} (h : t ∈ g.tk) : ¬ posF g t < 0 := fun hn => by
  have := fix_neg hn t h
  simp at this
theorem loadF_ok {g : Gat} {l : List Int} (h : GOk g l) (b : Bg) : GOk (loadF g b).1 l ∧ (loadF g b).1.tk = g.tk := by
  unfold loadF
  split
  · exact ⟨h, rfl⟩
  · rename_i hp
    split
    · exact ⟨h, rfl⟩
    · rename_i hb
      obtain ⟨i, h1, h2⟩ := posF_mem hp
      refine ⟨⟨h.len, fun x hx => ?_, ?_, h.ab⟩, rfl⟩
      · rcases List.mem_append.1 hx with hx | hx
        · exact h.bag x hx
        · rw [List.mem_singleton.1 hx]
          exact List.mem_of_getElem? h2
      · simp only
        rw [List.pairwise_append]
        refine ⟨h.tags, List.pairwise_singleton _ _, fun a ha c hc => ?_⟩
        rw [List.mem_singleton.1 hc]
        have := fix_neg (l := g.bags) (k := 0) (q := fun x => decide (x.tag = b.tag)) (by unfold bagF at hb; omega) a ha
        simpa using this
theorem boardF_ok {g : Gat} {l : List Int} (h : GOk g l) (t : Int) (ht : t ∈ l) : GOk (boardF g t).1 l ∧ (boardF g t).1.tk = g.tk := by
  unfold boardF
  split
  · exact ⟨h, rfl⟩
  · rename_i hp
    split
    · exact ⟨h, rfl⟩
    · obtain ⟨i, h1, h2⟩ := posF_mem hp
      refine ⟨⟨by simpa using h.len, h.bag, h.tags, fun j x hj1 hj2 => ?_⟩, rfl⟩
      simp only [h1, Int.toNat_natCast] at hj2
      rw [List.getElem?_set] at hj2
      split at hj2
      · rename_i hij
        subst hij
        simp only at hj1
        rw [h2] at hj1
        cases hj1
        exact ht
      · exact h.ab j x hj1 hj2
theorem filter_one {l : List Bg} (ht : l.Pairwise fun a b => a.tag ≠ b.tag) {i : Nat} {b : Bg} (hb : l[i]? = some b) : l.take i ++ l.drop (i + 1) = l.filter fun x => decide (x.tag ≠ b.tag) := by
  induction l generalizing i with
  | nil => simp at hb
  | cons x l ih =>
    obtain ⟨h1, h2⟩ := List.pairwise_cons.1 ht
    cases i with
    | zero =>
      simp at hb
      subst hb
      simp only [List.take_zero, List.nil_append, Nat.zero_add, List.drop_succ_cons, List.drop_zero]
      rw [List.filter_cons_of_neg (by simp)]
      exact (List.filter_eq_self.2 fun y hy => by simpa using fun e => h1 y hy e.symm).symm
    | succ i =>
      simp at hb
      have hne : x.tag ≠ b.tag := h1 b (List.mem_of_getElem? hb)
      rw [List.filter_cons_of_pos (by simpa using hne), List.take_succ_cons, List.drop_succ_cons, List.cons_append, ih h2 hb]
theorem unload_filter {g : Gat} {l : List Int} (h : GOk g l) (tag : Int) : (unloadF g tag).bags = g.bags.filter fun x => decide (x.tag ≠ tag) := by
  unfold unloadF
  split
  · rename_i hn
    exact (List.filter_eq_self.2 fun y hy => by
      have := fix_neg hn y hy
      simpa using this).symm
  · rename_i hp
    obtain ⟨i, x, h1, h2, h3, _⟩ := fix_pos hp
    have e : bagF g.bags tag = (i : Int) := by rw [show bagF g.bags tag = _ from h1]; simp
    have h3 : x.tag = tag := of_decide_eq_true h3
    simp only [e, Int.toNat_natCast]
    rw [filter_one h.tags h2, h3]
theorem unloadF_ok {g : Gat} {l : List Int} (h : GOk g l) (tag : Int) : GOk (unloadF g tag) l ∧ (unloadF g tag).tk = g.tk ∧ (unloadF g tag).ab = g.ab := by
  have hb := unload_filter h tag
  have ht : (unloadF g tag).tk = g.tk := by unfold unloadF; split <;> rfl
  have ha : (unloadF g tag).ab = g.ab := by unfold unloadF; split <;> rfl
  refine ⟨⟨by rw [ht, ha]; exact h.len, fun b hbm => ?_, ?_, by rw [ht, ha]; exact h.ab⟩, ht, ha⟩
  · rw [hb] at hbm
    rw [ht]
    exact h.bag b (List.mem_filter.1 hbm).1
  · rw [hb]
    exact h.tags.filter _
def unloads (g : Gat) : List Bg → Gat
  | [] => g
  | b :: l => unloads (unloadF g b.tag) l
theorem unloads_ok : ∀ (l : List Bg) {g : Gat} {m : List Int}, GOk g m → GOk (unloads g l) m ∧ (unloads g l).tk = g.tk ∧ (unloads g l).ab = g.ab ∧ ∀ b ∈ (unloads g l).bags, b ∈ g.bags ∧ ∀ c ∈ l, b.tag ≠ c.tag
  | [], g, m, h => ⟨h, rfl, rfl, fun b hb => ⟨hb, fun c hc => by cases hc⟩⟩
  | x :: l, g, m, h => by
    obtain ⟨h1, h2, h3⟩ := unloadF_ok h x.tag
    obtain ⟨k1, k2, k3, k4⟩ := unloads_ok l h1
    refine ⟨k1, k2.trans h2, k3.trans h3, fun b hb => ?_⟩
    obtain ⟨j1, j2⟩ := k4 b hb
    rw [unload_filter h x.tag] at j1
    obtain ⟨i1, i2⟩ := List.mem_filter.1 j1
    refine ⟨i1, fun c hc => ?_⟩
    rcases List.mem_cons.1 hc with rfl | hc
    · simpa using i2
    · exact j2 c hc
theorem miss_unloads {g : Gat} {m : List Int} (h : GOk g m) : missF (unloads g (missF g)) = [] := by
  obtain ⟨h1, h2, h3, h4⟩ := unloads_ok (missF g) h
  unfold missF
  rw [List.filter_eq_nil_iff]
  intro b hb hn
  obtain ⟨h5, h6⟩ := h4 b hb
  have e : abF (unloads g (missF g)) b.tk = abF g b.tk := by
    unfold abF posF
    rw [h2, h3]
  have hm : b ∈ missF g := List.mem_filter.2 ⟨h5, by rw [← e]; exact hn⟩
  exact h6 b hm rfl
theorem list_len : ∀ (tk : List Int) (ab : List Bool), ab.length = tk.length → (listF true tk ab).length + (listF false tk ab).length = tk.length
  | [], [], _ => rfl
  | t :: tk, b :: ab, h => by
    have := list_len tk ab (by simpa using h)
    cases b <;> simp [listF] <;> omega
theorem list_mem {t : Int} : ∀ {tk : List Int} {ab : List Bool}, t ∈ listF true tk ab → ∃ i : Nat, tk[i]? = some t ∧ ab[i]? = some true
  | x :: tk, b :: ab, h => by
    rw [listF] at h
    split at h
    · rename_i hb
      subst hb
      rcases List.mem_cons.1 h with rfl | h
      · exact ⟨0, rfl, rfl⟩
      · obtain ⟨i, h1, h2⟩ := list_mem h
        exact ⟨i + 1, by simpa using h1, by simpa using h2⟩
    · obtain ⟨i, h1, h2⟩ := list_mem h
      exact ⟨i + 1, by simpa using h1, by simpa using h2⟩
  | [], ab, h => by cases ab <;> simp [listF] at h
  | x :: tk, [], h => by simp [listF] at h
end Go.Proofs.YtjjdfkkfhbndiaaDoor
/- Departure: a gate in the store; its small methods. -/
namespace Go.Proofs.YtjjdfkkfhbndiaaDoor
open Go Go.AL
set_option linter.unusedSectionVars false
variable [Go.AL.Mode] [Go.AL.LooseM]
set_option linter.unusedSimpArgs false
set_option linter.unusedVariables false
theorem dT {p : Prop} [Decidable p] (h : p) : decide p = true := decide_eq_true h
theorem dF {p : Prop} [Decidable p] (h : ¬ p) : decide p = false := decide_eq_false h
theorem bft : (false == true) = false := rfl
theorem btt : (true == true) = true := rfl
def nI (n : Int) : List V := [.int .i64 n]
def bI (b : Bool) : List V := [.bool b]
theorem obj_set_ne {S : Store} {i j ver : Nat} {o : Go.AL.Obj} (h : i ≠ j) : Store.obj? (S.set j o) i ver = S.obj? i ver := by
  unfold Store.obj?
  rw [List.getElem?_set_ne (fun e => h e.symm)]
theorem ext_set {S S' : Store} {b : Nat} {o : Go.AL.Obj} (h : ∃ T, S' = S ++ T) (hb : S.length ≤ b) : ∃ T, S'.set b o = S ++ T := by
  obtain ⟨T, rfl⟩ := h
  exact ⟨T.set (b - S.length) o, List.set_append_right _ _ hb⟩
theorem ext_add {S S' X : Store} (h : ∃ T, S' = S ++ T) : ∃ T, S' ++ X = S ++ T := by
  obtain ⟨T, rfl⟩ := h
  exact ⟨T ++ X, by simp⟩
def BAt (S : Store) (a b : Nat) (full : Bool) (l : List Bg) (bv : V) (S' : Store) : Prop :=
  (bv = .nilSl ∧ l = []) ∨ ∃ c ver rows, c ≠ a ∧ c ≠ b ∧ S.length ≤ c ∧ bv = .msl c ver 0 l.length ∧ S'.obj? c ver = some (47, 3, rows) ∧ rows.take l.length = l.map bgR ∧ (full = true → rows.length = l.length)
structure GAt (S : Store) (a b : Nat) (cl full : Bool) (g : Gat) (S' : Store) : Prop where
  ext : ∃ T, S' = S ++ T
  la : S.length ≤ a
  lb : S.length ≤ b
  ne : a ≠ b
  gate : ∃ bv, S'.obj? b 0 = some (81, 6, [[.bool true, .bool cl, .sl 1 (g.tk.map nI), .sl 1 (g.rw.map nI), .msl a 0 0 g.ab.length, bv]]) ∧ BAt S a b full g.bags bv S'
  abO : S'.obj? a 0 = some (4, 1, g.ab.map bI)
theorem BAt.add {S : Store} {a b : Nat} {full : Bool} {l : List Bg} {bv : V} {S' : Store} (h : BAt S a b full l bv S') (X : Store) : BAt S a b full l bv (S' ++ X) := by
  rcases h with h | ⟨c, ver, rows, h1, h2, h3, h4, h5, h6⟩
  · exact .inl h
  · exact .inr ⟨c, ver, rows, h1, h2, h3, h4, obj_add h5, h6⟩
theorem GAt.add {S : Store} {a b : Nat} {cl full : Bool} {g : Gat} {S' : Store} (h : GAt S a b cl full g S') (X : Store) : GAt S a b cl full g (S' ++ X) := by
  obtain ⟨bv, h1, h2⟩ := h.gate
  exact ⟨ext_add h.ext, h.la, h.lb, h.ne, ⟨bv, obj_add h1, h2.add X⟩, obj_add h.abO⟩
section
variable {S : Store} {a b : Nat} {cl full : Bool} {g : Gat} {S' : Store}
theorem open_A (h : GAt S a b cl full g S') : CallA Tryd.prog 33 [.ptr b 0 0 0] S' fun r S'' => r = .int .i64 (if cl = true then 10 else 0) ∧ S'' = S' := by
  obtain ⟨bv, hg, hb⟩ := h.gate
  refine CallA.keep Tryd.func33 c7033 (Nat.le_of_ble_eq_true rfl) fun σ hσ => ?_
  cases cl <;> simp (disch := first | omega | (simp only [lenT]; omega)) only [a7033, hg, evSt, ↓evPre, ↓evPreW, evPost, evPostW, evR, evU, seval]
theorem index_A (l : List Int) (hl : l.length ≤ 1000000) (x : Int) (S : Store) : CallA Tryd.prog 49 [.sl 1 (l.map nI), .int .i64 x] S fun r S' => r = .int .i64 (fix (fun y => decide (x = y)) l 0) ∧ S' = S := by
  refine CallA.keep Tryd.func49 c7049 (Nat.le_of_ble_eq_true rfl) fun σ hσ => ?_
  simp (disch := first | omega | (simp only [lenT]; omega)) only [a7049, evSt, ↓evPre, ↓evPreW, evPost, evPostW, evR, evU, seval]
  refine loopA (ι := Nat) (fun k => [(0, .sl 1 (l.map nI)), (1, .int .i64 x), (7, .int .i64 l.length), (8, .int .i64 (k : Nat))]) (fun _ => S) (fun k => k ≤ l.length ∧ fix (fun y => decide (x = y)) l 0 = fix (fun y => decide (x = y)) (l.drop k) k) (fun k => l.length - k) 0 ⟨Nat.zero_le _, rfl⟩ ?_ rfl ?_
  · simp only [↓evPre, ↓evPreW, evPost, evPostW, evR, evU, seval]
    try rfl
  rintro k ⟨hk, he⟩
  cases hc : l[k]? with
  | none =>
    have hge := List.getElem?_eq_none_iff.1 hc
    have hlt : ¬ ((k : Int) < l.length) := by omega
    rw [he, fix_end hc]
    simp (disch := first | omega | (simp only [lenT]; omega)) only [dF hlt, evSt, ↓evPre, ↓evPreW, evPost, evPostW, evR, evU, seval]
  | some y =>
    have hlt' := (List.getElem?_eq_some_iff.1 hc).1
    have hlt : (k : Int) < l.length := by omega
    have hk1 : (k : Int) + 1 = ((k + 1 : Nat) : Int) := by omega
    have hs := fix_at (q := fun y => decide (x = y)) hc
    cases hq : decide (x = y)
    · rw [if_neg (by rw [hq]; decide)] at hs
      simp (disch := first | omega | (simp only [lenT]; omega)) only [dT hlt, hc, hq, nI, wrap_i64, hk1, evSt, ↓evPre, ↓evPreW, evPost, evPostW, evR, evU, seval]
      exact ⟨k + 1, ⟨by omega, he.trans hs⟩, by omega, by first | rfl | exact ⟨rfl, rfl⟩ | exact ⟨rfl, rfl, rfl⟩⟩
    · rw [if_pos hq] at hs
      rw [he, hs]
      simp (disch := first | omega | (simp only [lenT]; omega)) only [dT hlt, hc, hq, nI, wrap_i64, hk1, evSt, ↓evPre, ↓evPreW, evPost, evPostW, evR, evU, seval]
theorem find_A (h : GAt S a b cl full g S') (hl : g.tk.length ≤ 1000000) (t : Int) : CallA Tryd.prog 34 [.ptr b 0 0 0, .int .i64 t] S' fun r S'' => r = .int .i64 (posF g t) ∧ S'' = S' := by
  obtain ⟨bv, hg, hb⟩ := h.gate
  refine CallA.keep Tryd.func34 c7034 (Nat.le_of_ble_eq_true rfl) fun σ hσ => ?_
  simp (disch := first | omega | (simp only [lenT]; omega)) only [a7034, hg, evSt, ↓evPre, ↓evPreW, evPost, evPostW, evR, evU, seval]
  refine (index_A g.tk hl t _).then ?_
  simp (disch := first | omega | (simp only [lenT]; omega)) only [posF, evSt, ↓evPre, ↓evPreW, evPost, evPostW, evR, evU, seval]
theorem bag1_A (x : Bg) (tag : Int) (S : Store) : CallA Tryd.prog 51 [.agg (bgR x), .cptr [.int .i64 tag]] S fun r S' => r = .bool (decide (x.tag = tag)) ∧ S' = S := by
  refine CallA.keep Tryd.func51 c7051 (Nat.le_of_ble_eq_true rfl) fun σ hσ => ?_
  simp (disch := first | omega | (simp only [lenT]; omega)) only [a7051, bgR, evSt, ↓evPre, ↓evPreW, evPost, evPostW, evR, evU, seval]
theorem indexB_A (l : List Bg) (hl : l.length ≤ 1000000) (c ver : Nat) (rows : List (List V)) (tag : Int) (S : Store) (ho : S.obj? c ver = some (47, 3, rows)) (hr : rows.take l.length = l.map bgR) :
    CallA Tryd.prog 50 [.msl c ver 0 l.length, .func 51 [] [.cptr [.int .i64 tag]]] S fun r S' => r = .int .i64 (bagF l tag) ∧ S' = S := by
  unfold bagF
  refine CallA.keep Tryd.func50 c7050 (Nat.le_of_ble_eq_true rfl) fun σ hσ => ?_
  have hll : l.length ≤ rows.length := by
    have := congrArg List.length hr
    rw [List.length_take, List.length_map] at this
    omega
  simp (disch := first | omega | (simp only [lenT]; omega)) only [a7050, ho, evSt, ↓evPre, ↓evPreW, evPost, evPostW, evR, evU, seval]
  refine loopA (ι := Nat) (fun k => [(0, .msl c ver 0 l.length), (1, .func 51 [] [.cptr [.int .i64 tag]]), (7, .int .i64 l.length), (8, .int .i64 (k : Nat))]) (fun _ => S) (fun k => k ≤ l.length ∧ fix (fun b => decide (b.tag = tag)) l 0 = fix (fun b => decide (b.tag = tag)) (l.drop k) k) (fun k => l.length - k) 0 ⟨Nat.zero_le _, rfl⟩ ?_ rfl ?_
  · simp only [↓evPre, ↓evPreW, evPost, evPostW, evR, evU, seval]
    try rfl
  rintro k ⟨hk, he⟩
  cases hc : l[k]? with
  | none =>
    have hge := List.getElem?_eq_none_iff.1 hc
    have hlt : ¬ ((k : Int) < l.length) := by omega
    rw [he, fix_end hc]
    simp (disch := first | omega | (simp only [lenT]; omega)) only [dF hlt, evSt, ↓evPre, ↓evPreW, evPost, evPostW, evR, evU, seval]
  | some y =>
    have hlt' := (List.getElem?_eq_some_iff.1 hc).1
    have hlt : (k : Int) < l.length := by omega
    have hk1 : (k : Int) + 1 = ((k + 1 : Nat) : Int) := by omega
    have hrow : rows[k]? = some (bgR y) := by
      have : (rows.take l.length)[k]? = some (bgR y) := by rw [hr, List.getElem?_map, hc]; rfl
      rwa [List.getElem?_take, if_pos hlt'] at this
    have hs := fix_at (q := fun b : Bg => decide (b.tag = tag)) hc
    have b1 := bag1_A y tag S
    simp only [bgR] at b1 hrow
    simp (disch := first | omega | (simp only [lenT]; omega)) only [dT hlt, hrow, ho, bgR, List.drop_zero, evSt, ↓evPre, ↓evPreW, evPost, evPostW, evR, evU, seval]
    refine b1.then ?_
    cases hq : decide (y.tag = tag)
    · rw [if_neg (by rw [hq]; decide)] at hs
      simp (disch := first | omega | (simp only [lenT]; omega)) only [wrap_i64, hk1, evSt, ↓evPre, ↓evPreW, evPost, evPostW, evR, evU, seval]
      exact ⟨k + 1, ⟨by omega, he.trans hs⟩, by omega, by first | rfl | exact ⟨rfl, rfl⟩ | exact ⟨rfl, rfl, rfl⟩⟩
    · rw [if_pos hq] at hs
      rw [he, hs]
      simp (disch := first | omega | (simp only [lenT]; omega)) only [wrap_i64, hk1, evSt, ↓evPre, ↓evPreW, evPost, evPostW, evR, evU, seval]
theorem indexN_A (tag : Int) (S : Store) : CallA Tryd.prog 50 [.nilSl, .func 51 [] [.cptr [.int .i64 tag]]] S fun r S' => r = .int .i64 (-1) ∧ S' = S := by
  refine CallA.keep Tryd.func50 c7050 (Nat.le_of_ble_eq_true rfl) fun σ hσ => ?_
  simp (disch := first | omega | (simp only [lenT]; omega)) only [a7050, evSt, ↓evPre, ↓evPreW, evPost, evPostW, evR, evU, seval]
  refine loopA (ι := Nat) (fun k => [(0, .nilSl), (7, .int .i64 0), (8, .int .i64 (k : Nat))]) (fun _ => S) (fun k => k = 0) (fun k => k) 0 rfl ?_ rfl ?_
  · simp only [↓evPre, ↓evPreW, evPost, evPostW, evR, evU, seval]
    try rfl
  rintro k rfl
  simp (disch := first | omega | (simp only [lenT]; omega)) only [evSt, ↓evPre, ↓evPreW, evPost, evPostW, evR, evU, seval]
theorem bag_A (h : GAt S a b cl full g S') (hl : g.bags.length ≤ 1000000) (tag : Int) : CallA Tryd.prog 35 [.ptr b 0 0 0, .int .i64 tag] S' fun r S'' => r = .int .i64 (bagF g.bags tag) ∧ S'' = S' := by
  obtain ⟨bv, hg, hb⟩ := h.gate
  refine CallA.keep Tryd.func35 c7035 (Nat.le_of_ble_eq_true rfl) fun σ hσ => ?_
  rcases hb with ⟨rfl, h0⟩ | ⟨c, ver, rows, h1, h2, h3, rfl, h5, h6, h7⟩
  · rw [h0]
    simp (disch := first | omega | (simp only [lenT]; omega)) only [a7035, hg, evSt, ↓evPre, ↓evPreW, evPost, evPostW, evR, evU, seval]
    refine (indexN_A tag _).then ?_
    simp (disch := first | omega | (simp only [lenT]; omega)) only [bagF, fix, evSt, ↓evPre, ↓evPreW, evPost, evPostW, evR, evU, seval]
  · simp (disch := first | omega | (simp only [lenT]; omega)) only [a7035, hg, evSt, ↓evPre, ↓evPreW, evPost, evPostW, evR, evU, seval]
    refine (indexB_A g.bags hl c ver rows tag _ h5 h6).then ?_
    simp (disch := first | omega | (simp only [lenT]; omega)) only [evSt, ↓evPre, ↓evPreW, evPost, evPostW, evR, evU, seval]
set_option maxHeartbeats 1000000 in
theorem load_A (h : GAt S a b false true g S') (hl : g.bags.length ≤ 1000) (ht : g.tk.length ≤ 1000000) (x : Bg) : CallA Tryd.prog 11 [.ptr b 0 0 0, .agg (bgR x)] S' fun r S'' => ∃ e, r = .int .i64 e ∧ GAt S a b false true (loadF g x).1 S'' := by
  have op := open_A h
  have fi := find_A h ht x.tk
  have bg := bag_A h (by omega) x.tag
  obtain ⟨bv, hg, hb⟩ := h.gate
  refine CallA.keep Tryd.func11 c7011 (Nat.le_of_ble_eq_true rfl) fun σ hσ => ?_
  simp (disch := first | omega | (simp only [lenT]; omega)) only [a7011, bgR, evSt, ↓evPre, ↓evPreW, evPost, evPostW, evR, evU, seval]
  refine op.then ?_
  simp (disch := first | omega | (simp only [lenT]; omega)) only [Bool.false_eq_true, if_false, evSt, ↓evPre, ↓evPreW, evPost, evPostW, evR, evU, seval]
  refine fi.then ?_
  by_cases h0 : posF g x.tk < 0
  · rw [show loadF g x = (g, 7) by unfold loadF; rw [if_pos h0]]
    simp (disch := first | omega | (simp only [lenT]; omega)) only [dT h0, evSt, ↓evPre, ↓evPreW, evPost, evPostW, evR, evU, seval]
    exact ⟨_, rfl, h⟩
  simp (disch := first | omega | (simp only [lenT]; omega)) only [dF h0, evSt, ↓evPre, ↓evPreW, evPost, evPostW, evR, evU, seval]
  refine bg.then ?_
  by_cases h1 : 0 ≤ bagF g.bags x.tag
  · rw [show loadF g x = (g, 6) by unfold loadF; rw [if_neg h0, if_pos h1]]
    simp (disch := first | omega | (simp only [lenT]; omega)) only [dT h1, evSt, ↓evPre, ↓evPreW, evPost, evPostW, evR, evU, seval]
    exact ⟨_, rfl, h⟩
  rw [show loadF g x = ({ g with bags := g.bags ++ [x] }, 0) by unfold loadF; rw [if_neg h0, if_neg h1]]
  have hlt := obj_lt hg
  have hla := obj_lt h.abO
  rcases hb with ⟨rfl, hb0⟩ | ⟨c, ver, rows, k1, k2, k3, rfl, k5, k6, k7⟩
  · have hg' := obj_add (X := [⟨0, some (.arr 47 3 [[.int .i64 x.tag, .int .i64 x.tk, .int .i64 x.wt]])⟩]) hg
    simp (disch := first | omega | (simp only [lenT]; omega)) only [dF h1, hg, hg', roomA, evSt, ↓evPre, ↓evPreW, evPost, evPostW, evR, evU, seval]
    refine ⟨_, rfl, ext_set (ext_add h.ext) h.lb, h.la, h.lb, h.ne, ⟨_, obj_set hg', .inr ⟨S'.length, 0, [bgR x], by omega, by omega, by have := h.lb; omega, by rw [hb0]; rfl, (obj_set_ne (by omega)).trans (ob_app0.trans ob_head), by rw [hb0]; rfl, fun _ => by rw [hb0]; rfl⟩⟩, (obj_set_ne h.ne).trans (obj_add h.abO)⟩
  · have hrl : rows.length = g.bags.length := k7 rfl
    rw [← hrl, List.take_length] at k6
    have hg' := (obj_set_ne (S := S') (o := ⟨ver + 1, some (.arr 47 3 (rows ++ [bgR x]))⟩) (Ne.symm k2)).trans hg
    simp only [bgR] at hg'
    simp (disch := first | omega | (simp only [lenT]; omega)) only [dF h1, hg, hg', k5, roomA, evSt, ↓evPre, ↓evPreW, evPost, evPostW, evR, evU, seval]
    refine ⟨hrl, by omega, _, rfl, ext_set (ext_set h.ext k3) h.lb, h.la, h.lb, h.ne, ⟨_, obj_set hg', .inr ⟨c, ver + 1, rows ++ [bgR x], k1, k2, k3, by simp, (obj_set_ne k2).trans (obj_set k5), by rw [k6, List.take_of_length_le (by simp)]; simp, fun _ => by simp [hrl]⟩⟩, (obj_set_ne h.ne).trans ((obj_set_ne (Ne.symm k1)).trans h.abO)⟩
set_option maxHeartbeats 1000000 in
theorem move_A (h : GAt S a b false true g S') (ht : g.tk.length ≤ 1000000) (hab : g.ab.length = g.tk.length) (t : Int) : CallA Tryd.prog 36 [.ptr b 0 0 0, .int .i64 t, .bool true, .int .i64 6] S' fun r S'' => ∃ e, r = .int .i64 e ∧ GAt S a b false true (boardF g t).1 S'' := by
  have op := open_A h
  have fi := find_A h ht t
  obtain ⟨bv, hg, hb⟩ := h.gate
  have hao := h.abO
  refine CallA.keep Tryd.func36 c7036 (Nat.le_of_ble_eq_true rfl) fun σ hσ => ?_
  simp (disch := first | omega | (simp only [lenT]; omega)) only [a7036, evSt, ↓evPre, ↓evPreW, evPost, evPostW, evR, evU, seval]
  refine op.then ?_
  simp (disch := first | omega | (simp only [lenT]; omega)) only [Bool.false_eq_true, if_false, evSt, ↓evPre, ↓evPreW, evPost, evPostW, evR, evU, seval]
  refine fi.then ?_
  by_cases h0 : posF g t < 0
  · rw [show boardF g t = (g, 7) by unfold boardF; rw [if_pos h0]]
    simp (disch := first | omega | (simp only [lenT]; omega)) only [dT h0, evSt, ↓evPre, ↓evPreW, evPost, evPostW, evR, evU, seval]
    exact ⟨_, rfl, h⟩
  obtain ⟨i, h1, h2⟩ := posF_mem h0
  have hi := (List.getElem?_eq_some_iff.1 h2).1
  obtain ⟨q, hq⟩ : ∃ q, g.ab[i]? = some q := ⟨_, List.getElem?_eq_getElem (by omega)⟩
  have hqf : abF g t = q := by unfold abF; rw [h1, Int.toNat_natCast, List.getD_eq_getElem?_getD, hq]; rfl
  have h0' : ¬ ((i : Nat) : Int) < 0 := by omega
  have hil : (i : Int) < (g.ab.length : Nat) := by omega
  cases q
  case true =>
    rw [show boardF g t = (g, 6) by unfold boardF; rw [if_neg h0, if_pos hqf]]
    simp (disch := first | omega | (simp only [lenT]; omega)) only [h1, dF h0', hg, hao, hq, bI, btt, evSt, ↓evPre, ↓evPreW, evPost, evPostW, evR, evU, seval]
    exact ⟨_, rfl, h⟩
  rw [show boardF g t = ({ g with ab := g.ab.set i true }, 0) by unfold boardF; rw [if_neg h0, if_neg (by rw [hqf]; decide), h1]; rfl]
  simp (disch := first | omega | (simp only [lenT]; omega)) only [h1, dF h0', hg, hao, hq, bI, bft, evSt, ↓evPre, ↓evPreW, evPost, evPostW, evR, evU, seval]
  refine ⟨_, rfl, ext_set h.ext h.la, h.la, h.lb, h.ne, ⟨bv, (obj_set_ne (Ne.symm h.ne)).trans (by rw [hg]; simp), ?_⟩, ?_⟩
  · rcases hb with hb | ⟨c, ver, rows, k1, k2, k3, k4, k5, k6, k7⟩
    · exact .inl hb
    · exact .inr ⟨c, ver, rows, k1, k2, k3, k4, (obj_set_ne k1).trans k5, k6, k7⟩
  · rw [obj_set hao]
    simp [bI, List.map_set]
theorem board_A (h : GAt S a b false true g S') (ht : g.tk.length ≤ 1000000) (hab : g.ab.length = g.tk.length) (t : Int) : CallA Tryd.prog 12 [.ptr b 0 0 0, .int .i64 t] S' fun r S'' => ∃ e, r = .int .i64 e ∧ GAt S a b false true (boardF g t).1 S'' := by
  refine CallA.keep Tryd.func12 c7012 (Nat.le_of_ble_eq_true rfl) fun σ hσ => ?_
  simp (disch := first | omega | (simp only [lenT]; omega)) only [a7012, evSt, ↓evPre, ↓evPreW, evPost, evPostW, evR, evU, seval]
  refine (move_A h ht hab t).mono ?_
  rintro _ S2 ⟨e, rfl, h2⟩
  simp (disch := first | omega | (simp only [lenT]; omega)) only [evSt, ↓evPre, ↓evPreW, evPost, evPostW, evR, evU, seval]
  exact ⟨_, rfl, h2⟩
theorem BAt.len {l : List Bg} {bv : V} (h : BAt S a b full l bv S') : lenAV S' bv = some (.int .i64 (l.length : Nat)) := by
  rcases h with ⟨rfl, rfl⟩ | ⟨c, ver, rows, h1, h2, h3, rfl, h5, h6⟩ <;> rfl
theorem bag_all (l : List Bg) : ∀ r ∈ l.map bgR, r.length = 3 ∧ V.allImm r = true := fun r hr => by
  obtain ⟨x, _, rfl⟩ := List.mem_map.1 hr
  exact ⟨rfl, rfl⟩
def missL (g : Gat) (k : Nat) : List Bg := (g.bags.take k).filter fun b => !abF g b.tk
theorem missL_step {g : Gat} {k : Nat} {x : Bg} (h : g.bags[k]? = some x) : missL g (k + 1) = missL g k ++ if abF g x.tk = true then [] else [x] := by
  unfold missL
  rw [List.take_add_one, h, Option.toList_some, List.filter_append]
  cases hq : abF g x.tk <;> simp [hq]
theorem missing_A (h : GAt S a b cl full g S') (hbl : g.bags.length ≤ 1000) (ht : g.tk.length ≤ 1000000) (hab : g.ab.length = g.tk.length) (hin : ∀ x ∈ g.bags, x.tk ∈ g.tk) : CallA Tryd.prog 13 [.ptr b 0 0 0] S' fun r S'' => r = .sl 3 ((missF g).map bgR) ∧ S'' = S' := by
  refine CallA.withNeat Tryd.func13 c7013 fun hn => ?_
  have fi := fun t X => find_A (h.add X) ht t
  obtain ⟨bv, hg, hb⟩ := h.gate
  have hao := h.abO
  refine CallA.fin Tryd.func13 c7013 (Nat.le_of_ble_eq_true rfl) fun σ hσ => ?_
  have hlen := hb.len
  simp (disch := first | omega | (simp only [lenT]; omega)) only [a7013, hg, hlen, evSt, ↓evPre, ↓evPreW, evPost, evPostW, evR, evU, seval]
  refine loopA (ι := Nat × V × Store) (fun i => [(0, .ptr b 0 0 0), (3, i.2.1), (11, bv), (12, .int .i64 (g.bags.length : Nat)), (13, .int .i64 (i.1 : Nat))]) (fun i => i.2.2)
    (fun i => i.1 ≤ g.bags.length ∧ LG S' 47 3 ((missL g i.1).map bgR) i.2.1 i.2.2) (fun i => g.bags.length - i.1) (0, .nilSl, S') ⟨Nat.zero_le _, LG.nil0⟩ ?_ rfl ?_
  · simp only [↓evPre, ↓evPreW, evPost, evPostW, evR, evU, seval]
    try rfl
  rintro ⟨k, v, S1⟩ ⟨hk, hl⟩
  simp only at hk hl ⊢
  by_cases hkn : k < g.bags.length
  · have hlt : (k : Int) < (g.bags.length : Nat) := by omega
    have hk1 : (k : Int) + 1 = ((k + 1 : Nat) : Int) := by omega
    obtain ⟨x, hx⟩ : ∃ x, g.bags[k]? = some x := ⟨_, List.getElem?_eq_getElem hkn⟩
    rcases hb with ⟨_, h0⟩ | ⟨c, ver, rows, k1, k2, k3, rfl, k5, k6, k7⟩
    · rw [h0] at hkn; simp at hkn
    obtain ⟨T, hT⟩ := hl.ext
    have hll : g.bags.length ≤ rows.length := by
      have := congrArg List.length k6
      rw [List.length_take, List.length_map] at this
      omega
    have hrow : rows[k]? = some (bgR x) := by
      have : (rows.take g.bags.length)[k]? = some (bgR x) := by rw [k6, List.getElem?_map, hx]; rfl
      rwa [List.getElem?_take, if_pos hkn] at this
    have o1 : S1.obj? c ver = some (47, 3, rows) := by rw [hT]; exact obj_add k5
    have g2 : (S1 ++ [⟨0, none⟩] : Store).obj? b 0 = some (81, 6, [[.bool true, .bool cl, .sl 1 (g.tk.map nI), .sl 1 (g.rw.map nI), .msl a 0 0 g.ab.length, .msl c ver 0 g.bags.length]]) := by rw [hT]; exact obj_add (obj_add hg)
    have a2 : (S1 ++ [⟨0, none⟩] : Store).obj? a 0 = some (4, 1, g.ab.map bI) := by rw [hT]; exact obj_add (obj_add hao)
    have fi2 := fi x.tk (T ++ [⟨0, none⟩])
    rw [← List.append_assoc, ← hT] at fi2
    obtain ⟨i, p1, p2⟩ := posF_mem (pos_of_mem (hin x (List.mem_of_getElem? hx)))
    have hi := (List.getElem?_eq_some_iff.1 p2).1
    obtain ⟨q, hq⟩ : ∃ q, g.ab[i]? = some q := ⟨_, List.getElem?_eq_getElem (by omega)⟩
    have hqf : abF g x.tk = q := by unfold abF; rw [p1, Int.toNat_natCast, List.getD_eq_getElem?_getD, hq]; rfl
    have hst := missL_step hx
    rw [hqf] at hst
    have hil : (i : Int) < (g.ab.length : Nat) := by omega
    rw [p1] at fi2
    simp only [bgR] at hrow
    simp (disch := first | omega | (simp only [lenT]; omega)) only [dT hlt, o1, hrow, evSt, ↓evPre, ↓evPreW, evPost, evPostW, evR, evU, seval]
    simp (disch := first | omega | (simp only [lenT]; omega)) only [g2, a2, evSt, ↓evPre, ↓evPreW, evPost, evPostW, evR, evU, seval]
    have hml : (missL g k).length ≤ k := Nat.le_trans (List.length_filter_le _ _) (by rw [List.length_take]; omega)
    refine exD.intro fi2 ?_
    cases q <;> simp (disch := first | omega | (simp only [lenT]; omega)) only [a2, hq, bI, evSt, ↓evPre, ↓evPreW, evPost, evPostW, evR, evU, seval]
    · rw [if_neg (by decide)] at hst
      refine (hl.add _).app (by simp; omega) fun v' S2 h2 => ?_
      simp (disch := first | omega | (simp only [lenT]; omega)) only [wrap_i64, hk1, evSt, ↓evPre, ↓evPreW, evPost, evPostW, evR, evU, seval]
      refine ⟨(k + 1, v', S2), ⟨by simp only; omega, by rw [hst, List.map_append]; exact h2⟩, by simp only; omega, ?_⟩
      first | exact ⟨⟨rfl, rfl⟩, rfl⟩ | exact ⟨rfl, rfl⟩ | exact ⟨⟨rfl, rfl, rfl, rfl, rfl⟩, rfl⟩
    · rw [if_pos rfl, List.append_nil] at hst
      simp (disch := first | omega | (simp only [lenT]; omega)) only [wrap_i64, hk1, evSt, ↓evPre, ↓evPreW, evPost, evPostW, evR, evU, seval]
      refine ⟨(k + 1, v, S1 ++ [⟨0, none⟩]), ⟨by simp only; omega, by rw [hst]; exact hl.add _⟩, by simp only; omega, ?_⟩
      first | exact ⟨⟨rfl, rfl⟩, rfl⟩ | exact ⟨rfl, rfl⟩ | exact ⟨⟨rfl, rfl, rfl, rfl, rfl⟩, rfl⟩
  · have hlt : ¬ (k : Int) < (g.bags.length : Nat) := by omega
    simp (disch := first | omega | (simp only [lenT]; omega)) only [dF hlt, evSt, ↓evPre, ↓evPreW, evPost, evPostW, evR, evU, seval]
    have hfin := hl.fin hn (bag_all _)
    exact ⟨_, S', hfin.1, hfin.2, Nat.le_refl _, by unfold missL missF; rw [List.take_of_length_le (by omega)], rfl⟩
theorem listF_len (q : Bool) : ∀ (tk : List Int) (ab : List Bool), (listF q tk ab).length ≤ tk.length
  | [], ab => by cases ab <;> simp [listF]
  | t :: tk, [] => by simp [listF]
  | t :: tk, b :: ab => by
    have := listF_len q tk ab
    rw [listF]
    split <;> simp <;> omega
theorem listF_step {q : Bool} : ∀ {tk : List Int} {ab : List Bool} {k : Nat} {t : Int} {b : Bool}, tk[k]? = some t → ab[k]? = some b → listF q (tk.take (k + 1)) (ab.take (k + 1)) = listF q (tk.take k) (ab.take k) ++ if b = q then [t] else []
  | x :: tk, y :: ab, 0, t, b, h1, h2 => by
    simp at h1 h2
    subst h1 h2
    simp only [Nat.zero_add, List.take_succ_cons, List.take_zero, listF, List.nil_append]
  | x :: tk, y :: ab, k + 1, t, b, h1, h2 => by
    simp at h1 h2
    have ih := listF_step (q := q) h1 h2
    rw [List.take_succ_cons, List.take_succ_cons, List.take_succ_cons, List.take_succ_cons, listF, listF, ih]
    split <;> simp
  | [], _, k, t, b, h1, h2 => by simp at h1
  | x :: tk, [], k, t, b, h1, h2 => by simp at h2
theorem nI_all (l : List Int) : ∀ r ∈ l.map nI, r.length = 1 ∧ V.allImm r = true := fun r hr => by
  obtain ⟨x, _, rfl⟩ := List.mem_map.1 hr
  exact ⟨rfl, rfl⟩
theorem listed_A (h : GAt S a b cl full g S') (ht : g.tk.length ≤ 1000) (hab : g.ab.length = g.tk.length) (q : Bool) : CallA Tryd.prog 38 [.ptr b 0 0 0, .bool q] S' fun r S'' => r = .sl 1 ((listF q g.tk g.ab).map nI) ∧ S'' = S' := by
  refine CallA.withNeat Tryd.func38 c7038 fun hn => ?_
  obtain ⟨bv, hg, hb⟩ := h.gate
  have hao := h.abO
  refine CallA.fin Tryd.func38 c7038 (Nat.le_of_ble_eq_true rfl) fun σ hσ => ?_
  simp (disch := first | omega | (simp only [lenT]; omega)) only [a7038, hg, evSt, ↓evPre, ↓evPreW, evPost, evPostW, evR, evU, seval]
  refine loopA (ι := Nat × V × Store) (fun i => [(0, .ptr b 0 0 0), (1, .bool q), (5, i.2.1), (11, .sl 1 (g.tk.map nI)), (12, .int .i64 (g.tk.length : Nat)), (13, .int .i64 (i.1 : Nat))]) (fun i => i.2.2)
    (fun i => i.1 ≤ g.tk.length ∧ LG S' 3 1 ((listF q (g.tk.take i.1) (g.ab.take i.1)).map nI) i.2.1 i.2.2) (fun i => g.tk.length - i.1) (0, .nilSl, S') ⟨Nat.zero_le _, by simpa [listF] using LG.nil0⟩ ?_ rfl ?_
  · simp only [↓evPre, ↓evPreW, evPost, evPostW, evR, evU, seval]
    try rfl
  rintro ⟨k, v, S1⟩ ⟨hk, hl⟩
  simp only at hk hl ⊢
  by_cases hkn : k < g.tk.length
  · have hlt : (k : Int) < (g.tk.length : Nat) := by omega
    have hlt2 : (k : Int) < (g.ab.length : Nat) := by omega
    have hk1 : (k : Int) + 1 = ((k + 1 : Nat) : Int) := by omega
    obtain ⟨x, hx⟩ : ∃ x, g.tk[k]? = some x := ⟨_, List.getElem?_eq_getElem hkn⟩
    obtain ⟨y, hy⟩ : ∃ y, g.ab[k]? = some y := ⟨_, List.getElem?_eq_getElem (by omega)⟩
    obtain ⟨T, hT⟩ := hl.ext
    have g2 : S1.obj? b 0 = some (81, 6, [[.bool true, .bool cl, .sl 1 (g.tk.map nI), .sl 1 (g.rw.map nI), .msl a 0 0 g.ab.length, bv]]) := by rw [hT]; exact obj_add hg
    have a2 : S1.obj? a 0 = some (4, 1, g.ab.map bI) := by rw [hT]; exact obj_add hao
    have hst := listF_step (q := q) hx hy
    have hcnt : (listF q (g.tk.take k) (g.ab.take k)).length ≤ 1000 := Nat.le_trans (listF_len _ _ _) (by simp; omega)
    by_cases hyq : y = q
    · rw [if_pos hyq] at hst
      have hb : (y == q) = true := by rw [hyq]; simp
      simp (disch := first | omega | (simp only [lenT]; omega)) only [dT hlt, hx, hy, g2, a2, nI, bI, hb, evSt, ↓evPre, ↓evPreW, evPost, evPostW, evR, evU, seval]
      refine hl.app (by simp; omega) fun v' S2 h2 => ?_
      simp (disch := first | omega | (simp only [lenT]; omega)) only [wrap_i64, hk1, evSt, ↓evPre, ↓evPreW, evPost, evPostW, evR, evU, seval]
      refine ⟨(k + 1, v', S2), ⟨by simp only; omega, by rw [hst, List.map_append]; exact h2⟩, by simp only; omega, ?_⟩
      first | exact ⟨⟨rfl, rfl⟩, rfl⟩ | exact ⟨rfl, rfl⟩ | exact ⟨⟨rfl, rfl, rfl, rfl, rfl⟩, rfl⟩
    · rw [if_neg hyq, List.append_nil] at hst
      have hb : (y == q) = false := by simpa using hyq
      simp (disch := first | omega | (simp only [lenT]; omega)) only [dT hlt, hx, hy, g2, a2, nI, bI, hb, wrap_i64, hk1, evSt, ↓evPre, ↓evPreW, evPost, evPostW, evR, evU, seval]
      refine ⟨(k + 1, v, S1), ⟨by simp only; omega, by rw [hst]; exact hl⟩, by simp only; omega, ?_⟩
      first | exact ⟨⟨rfl, rfl⟩, rfl⟩ | exact ⟨rfl, rfl⟩ | exact ⟨⟨rfl, rfl, rfl, rfl, rfl⟩, rfl⟩
  · have hlt : ¬ (k : Int) < (g.tk.length : Nat) := by omega
    simp (disch := first | omega | (simp only [lenT]; omega)) only [dF hlt, evSt, ↓evPre, ↓evPreW, evPost, evPostW, evR, evU, seval]
    have hfin := hl.fin hn (nI_all _)
    exact ⟨_, S', hfin.1, hfin.2, Nat.le_refl _, by rw [List.take_of_length_le (by omega), List.take_of_length_le (by omega)], rfl⟩
theorem waiting_A (h : GAt S a b cl full g S') (ht : g.tk.length ≤ 1000) (hab : g.ab.length = g.tk.length) : CallA Tryd.prog 16 [.ptr b 0 0 0] S' fun r S'' => r = .sl 1 ((listF false g.tk g.ab).map nI) ∧ S'' = S' := by
  have li := listed_A h ht hab false
  obtain ⟨bv, hg, hb⟩ := h.gate
  refine CallA.keep Tryd.func16 c7016 (Nat.le_of_ble_eq_true rfl) fun σ hσ => ?_
  simp (disch := first | omega | (simp only [lenT]; omega)) only [a7016, hg, evSt, ↓evPre, ↓evPreW, evPost, evPostW, evR, evU, seval]
  refine li.then ?_
  simp (disch := first | omega | (simp only [lenT]; omega)) only [evSt, ↓evPre, ↓evPreW, evPost, evPostW, evR, evU, seval]
theorem close_A (h : GAt S a b false full g S') (hbl : g.bags.length ≤ 1000) (ht : g.tk.length ≤ 1000) (hab : g.ab.length = g.tk.length) (hin : ∀ x ∈ g.bags, x.tk ∈ g.tk) (hm : missF g = []) :
    CallA Tryd.prog 15 [.ptr b 0 0 0] S' fun r S'' => r = .tup [.sl 1 ((listF true g.tk g.ab).map nI), .int .i64 0] ∧ GAt S a b true full g S'' := by
  have op := open_A h
  have mi := missing_A h hbl (by omega) hab hin
  obtain ⟨bv, hg, hb⟩ := h.gate
  rw [hm] at mi
  refine CallA.keep Tryd.func15 c7015 (Nat.le_of_ble_eq_true rfl) fun σ hσ => ?_
  simp (disch := first | omega | (simp only [lenT]; omega)) only [a7015, evSt, ↓evPre, ↓evPreW, evPost, evPostW, evR, evU, seval]
  refine op.then ?_
  simp (disch := first | omega | (simp only [lenT]; omega)) only [Bool.false_eq_true, if_false, evSt, ↓evPre, ↓evPreW, evPost, evPostW, evR, evU, seval]
  refine mi.then ?_
  simp (disch := first | omega | (simp only [lenT]; omega)) only [hg, List.map_nil, List.length_nil, evSt, ↓evPre, ↓evPreW, evPost, evPostW, evR, evU, seval]
  have h2 : GAt S a b true full g (S'.set b ⟨0, some (.arr 81 6 [[.bool true, .bool true, .sl 1 (g.tk.map nI), .sl 1 (g.rw.map nI), .msl a 0 0 g.ab.length, bv]])⟩) := by
    refine ⟨ext_set h.ext h.lb, h.la, h.lb, h.ne, ⟨bv, obj_set hg, ?_⟩, (obj_set_ne h.ne).trans h.abO⟩
    rcases hb with hb | ⟨c, ver, rows, k1, k2, k3, k4, k5, k6, k7⟩
    · exact .inl hb
    · exact .inr ⟨c, ver, rows, k1, k2, k3, k4, (obj_set_ne k2).trans k5, k6, k7⟩
  refine (listed_A h2 ht hab true).then ?_
  simp (disch := first | omega | (simp only [lenT]; omega)) only [evSt, ↓evPre, ↓evPreW, evPost, evPostW, evR, evU, seval]
  exact h2
end
end Go.Proofs.YtjjdfkkfhbndiaaDoor
