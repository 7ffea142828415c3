/- Holds: what the methods do, plainly. -/
import Derived.Test.YthdcajfjglgiiaaHold5
namespace Go.Proofs.Ythdcajfjglgiiaa
open Go Go.AL
set_option linter.unusedSectionVars false
variable [Go.AL.Mode] [Go.AL.LooseM]
set_option linter.unusedSimpArgs false
set_option linter.unusedVariables false

def badH (x : Hd) : Prop := x.id < 1 ∨ x.legs = [] ∨ ¬ x.legs.Nodup ∨ x.cnt < 1 ∨ 99 < x.cnt ∨ minF x.til = false
instance (x : Hd) : Decidable (badH x) := by unfold badH; infer_instance
def findH (L : List Hd) (id : Int) : Option Hd := L.find? fun h => decide (id = h.id)
def delH (L : List Hd) (id : Int) : List Hd := L.filter fun h => !decide (id = h.id)
def insH (x : Hd) (L : List Hd) : List Hd := L.takeWhile (fun y => ltH y x) ++ x :: L.dropWhile (fun y => ltH y x)
def putF (L : List Hd) (x : Hd) : Int × List Hd := if badH x then (2, L) else match findH L x.id with
  | some _ => (6, L)
  | none => (0, insH x L)
def dropF (L : List Hd) (id : Int) : (Hd × Int) × List Hd := match findH L id with
  | some x => ((x, 0), delH L id)
  | none => ((zHd, 7), L)
def setT (x : Hd) (t : Int) : Hd := ⟨x.id, x.legs, x.cls, x.cnt, t⟩
def extF (L : List Hd) (id t : Int) : Int × List Hd := match findH L id with
  | some x => if minF t then (0, insH (setT x t) (delH L id)) else (2, L)
  | none => (7, L)
def goneF (L : List Hd) (now : Int) : List Hd := L.filter fun h => decide (h.til ≤ now)
def restF (L : List Hd) (now : Int) : List Hd := L.filter fun h => !decide (h.til ≤ now)
def hasF (x : Hd) (leg : Lg) (cls : List UInt8) : Bool := decide (x.cls = cls) && decide (leg ∈ x.legs)
def heldF (L : List Hd) (leg : Lg) (cls : List UInt8) : Int := ((L.filter fun x => hasF x leg cls).map (·.cnt)).sum

structure OkL (L : List Hd) : Prop where
  asc : Asc L
  uq : Uq L
  good : ∀ x ∈ L, ¬ badH x
  legs : ∀ x ∈ L, x.legs.length ≤ 1000000
theorem OkL.nil : OkL [] := ⟨.nil, .nil, fun x h => (by cases h), fun x h => (by cases h)⟩

theorem find_some {L : List Hd} {id : Int} {x : Hd} (h : findH L id = some x) : x ∈ L ∧ x.id = id := by
  have h1 := List.find?_some h
  simp only [decide_eq_true_eq] at h1
  exact ⟨List.mem_of_find?_eq_some h, h1.symm⟩
theorem find_none {L : List Hd} {id : Int} (h : findH L id = none) : ∀ x ∈ L, x.id ≠ id := by
  unfold findH at h
  rw [List.find?_eq_none] at h
  intro x hx e
  have := h x hx
  simp only [decide_eq_true_eq] at this
  exact this e.symm
theorem find_mem {L : List Hd} (hu : Uq L) {x : Hd} (hx : x ∈ L) : findH L x.id = some x := by
  cases h : findH L x.id with
  | none => exact absurd rfl (find_none h x hx)
  | some y =>
    obtain ⟨h1, h2⟩ := find_some h
    unfold Uq at hu
    rw [List.pairwise_iff_getElem] at hu
    obtain ⟨i, hi, rfl⟩ := List.getElem_of_mem hx
    obtain ⟨j, hj, rfl⟩ := List.getElem_of_mem h1
    rcases Nat.lt_trichotomy i j with hl | rfl | hl
    · exact absurd h2.symm (hu i j hi hj hl)
    · rfl
    · exact absurd h2 (hu j i hj hi hl)
theorem find_perm {P L : List Hd} (hp : P.Perm L) (hu : Uq P) (id : Int) : findH P id = findH L id := by
  cases h : findH P id with
  | none =>
    symm
    unfold findH
    rw [List.find?_eq_none]
    intro x hx
    have := find_none h x (hp.symm.subset hx)
    simp only [decide_eq_true_eq]
    exact fun e => this e.symm
  | some y =>
    obtain ⟨h1, h2⟩ := find_some h
    have := find_mem (hu.perm hp) (hp.subset h1)
    rw [← h2, this]

theorem find_ent (id : Int) : ∀ P : List Hd, findV (.int .i64 id) (P.map entH) = (findH P id).map fun h => .agg (hdR h)
  | [] => rfl
  | p :: P => by
    rw [List.map_cons, findV, findH, List.find?_cons]
    show (if eqKV (.int .i64 id) (.int .i64 p.id) = true then _ else _) = _
    rw [eqKV_int]
    cases h : decide (id = p.id)
    · simpa [findH] using find_ent id P
    · rfl
theorem put_new {x : Hd} : ∀ {P : List Hd}, findH P x.id = none → putV (.int .i64 x.id) (.agg (hdR x)) (P.map entH) = (P ++ [x]).map entH
  | [], _ => rfl
  | p :: P, h => by
    have hne := find_none h p (List.mem_cons_self ..)
    have h' : findH P x.id = none := by
      unfold findH at h ⊢
      rw [List.find?_cons] at h
      have : decide (x.id = p.id) = false := dF fun e => hne e.symm
      rw [this] at h
      exact h
    rw [List.map_cons, putV]
    show (if eqKV (.int .i64 x.id) (.int .i64 p.id) = true then _ else _) = _
    rw [eqKV_int, dF fun e => hne e.symm]
    simp only [Bool.false_eq_true, if_false, put_new h', List.cons_append, List.map_cons]
def updP (x : Hd) : List Hd → List Hd
  | [] => []
  | p :: P => if x.id = p.id then x :: P else p :: updP x P
theorem put_old {x : Hd} : ∀ {P : List Hd}, findH P x.id ≠ none → putV (.int .i64 x.id) (.agg (hdR x)) (P.map entH) = (updP x P).map entH
  | [], h => absurd rfl h
  | p :: P, h => by
    rw [List.map_cons, putV, updP]
    show (if eqKV (.int .i64 x.id) (.int .i64 p.id) = true then _ else _) = _
    rw [eqKV_int]
    by_cases he : x.id = p.id
    · simp [he, entH]
    · have h' : findH P x.id ≠ none := by
        unfold findH at h ⊢
        rw [List.find?_cons, dF he] at h
        exact h
      simp only [he, decide_false, Bool.false_eq_true, if_false, put_old h', List.map_cons]
theorem upd_perm {x : Hd} : ∀ {P : List Hd}, Uq P → findH P x.id ≠ none → (updP x P).Perm (x :: delH P x.id)
  | [], _, h => absurd rfl h
  | p :: P, hu, h => by
    unfold Uq at hu
    rw [List.pairwise_cons] at hu
    rw [updP]
    by_cases he : x.id = p.id
    · have hd : delH (p :: P) x.id = P := by
        unfold delH
        rw [List.filter_cons, dT he]
        simp only [Bool.not_true, Bool.false_eq_true, if_false]
        rw [List.filter_eq_self]
        intro q hq
        have := hu.1 q hq
        rw [dF (by rw [he]; exact this)]
        rfl
      rw [if_pos he, hd]
    · have h' : findH P x.id ≠ none := by
        unfold findH at h ⊢
        rw [List.find?_cons, dF he] at h
        exact h
      have hd : delH (p :: P) x.id = p :: delH P x.id := by
        unfold delH
        rw [List.filter_cons, dF he]
        rfl
      rw [if_neg he, hd]
      exact ((upd_perm hu.2 h').cons p).trans (List.Perm.swap _ _ _)
theorem del_ent (id : Int) : ∀ {P : List Hd}, Uq P → delV (.int .i64 id) (P.map entH) = (delH P id).map entH
  | [], _ => rfl
  | p :: P, hu => by
    unfold Uq at hu
    rw [List.pairwise_cons] at hu
    rw [List.map_cons, delV]
    show (if eqKV (.int .i64 id) (.int .i64 p.id) = true then _ else _) = _
    rw [eqKV_int]
    unfold delH
    rw [List.filter_cons]
    by_cases he : id = p.id
    · have : P.filter (fun h => !decide (id = h.id)) = P := by
        rw [List.filter_eq_self]
        intro q hq
        rw [dF (by rw [he]; exact hu.1 q hq)]
        rfl
      rw [dT he]
      simp only [if_true, Bool.not_true, Bool.false_eq_true, if_false]
      rw [this]
    · simp only [he, decide_false, Bool.false_eq_true, if_false, Bool.not_false, if_true, List.map_cons]
      have := del_ent id hu.2
      unfold delH at this
      rw [this]

theorem insH_perm (x : Hd) (L : List Hd) : (insH x L).Perm (x :: L) := by
  unfold insH
  have h1 := List.perm_middle (a := x) (l₁ := L.takeWhile (fun y => ltH y x)) (l₂ := L.dropWhile (fun y => ltH y x))
  rwa [List.takeWhile_append_dropWhile] at h1
theorem Asc.ins {x : Hd} : ∀ {L : List Hd}, Asc L → (∀ y ∈ L, y.id ≠ x.id) → Asc (insH x L)
  | [], _, _ => by simp [insH, Asc]
  | y :: L, h, hne => by
    unfold Asc at *
    rw [List.pairwise_cons] at h
    unfold insH
    rw [List.takeWhile_cons, List.dropWhile_cons]
    cases hy : ltH y x with
    | true =>
      have ih := Asc.ins h.2 fun z hz => hne z (List.mem_cons_of_mem _ hz)
      simp only [if_true, List.cons_append]
      rw [List.pairwise_cons]
      refine ⟨fun z hz => ?_, ih⟩
      have hz' := (insH_perm x L).subset hz
      rcases List.mem_cons.1 hz' with rfl | hz'
      · exact hy
      · exact h.1 z hz'
    | false =>
      have hxy : ltH x y = true := ltH_of hy fun e => hne y (List.mem_cons_self ..) e.symm
      simp only [Bool.false_eq_true, if_false, List.nil_append]
      rw [List.pairwise_cons, List.pairwise_cons]
      refine ⟨fun z hz => ?_, h⟩
      rcases List.mem_cons.1 hz with rfl | hz
      · exact hxy
      · exact ltH_tr hxy (h.1 z hz)

theorem del_ne {L : List Hd} {id : Int} : ∀ y ∈ delH L id, y ∈ L ∧ y.id ≠ id := fun y hy => by
  unfold delH at hy
  rw [List.mem_filter] at hy
  simp only [Bool.not_eq_true', decide_eq_false_iff_not] at hy
  exact ⟨hy.1, fun e => hy.2 e.symm⟩
theorem OkL.sub {L M : List Hd} (h : OkL L) (hs : M.Sublist L) : OkL M := ⟨h.asc.sublist hs, h.uq.sublist hs, fun x hx => h.good x (hs.subset hx), fun x hx => h.legs x (hs.subset hx)⟩
theorem OkL.ins {L : List Hd} (h : OkL L) {x : Hd} (hx : ¬ badH x) (hl : x.legs.length ≤ 1000000) (hne : ∀ y ∈ L, y.id ≠ x.id) : OkL (insH x L) where
  asc := h.asc.ins hne
  uq := Uq.perm (l := x :: L) (by unfold Uq; rw [List.pairwise_cons]; exact ⟨fun y hy => (hne y hy).symm, h.uq⟩) (insH_perm x L).symm
  good y hy := by
    rcases List.mem_cons.1 ((insH_perm x L).subset hy) with rfl | hy
    · exact hx
    · exact h.good y hy
  legs y hy := by
    rcases List.mem_cons.1 ((insH_perm x L).subset hy) with rfl | hy
    · exact hl
    · exact h.legs y hy
theorem OkL.put {L : List Hd} (h : OkL L) (x : Hd) (hl : x.legs.length ≤ 1000000) : OkL (putF L x).2 := by
  unfold putF
  split
  · exact h
  · next hb =>
    split
    · exact h
    · next hf => exact h.ins hb hl (find_none hf)
theorem OkL.del {L : List Hd} (h : OkL L) (id : Int) : OkL (delH L id) := h.sub List.filter_sublist
theorem OkL.drop {L : List Hd} (h : OkL L) (id : Int) : OkL (dropF L id).2 := by
  unfold dropF
  split
  · exact h.del id
  · exact h
theorem setT_bad {x : Hd} {t : Int} (h : ¬ badH x) (ht : minF t = true) : ¬ badH (setT x t) := by
  unfold badH setT at *
  simp only [ht] at *
  simp only [not_or] at h ⊢
  exact ⟨h.1, h.2.1, h.2.2.1, h.2.2.2.1, h.2.2.2.2.1, by simp⟩
theorem OkL.ext {L : List Hd} (h : OkL L) (id t : Int) : OkL (extF L id t).2 := by
  unfold extF
  split
  · next x hf =>
    obtain ⟨h1, h2⟩ := find_some hf
    split
    · next ht => exact (h.del id).ins (setT_bad (h.good x h1) ht) (h.legs x h1) fun y hy => by show y.id ≠ x.id; rw [h2]; exact (del_ne y hy).2
    · exact h
  · exact h
theorem OkL.rest {L : List Hd} (h : OkL L) (now : Int) : OkL (restF L now) := h.sub List.filter_sublist
theorem put_len (L : List Hd) (x : Hd) : (putF L x).2.length ≤ L.length + 1 := by
  unfold putF
  split
  · simp
  · split
    · simp
    · simp only; rw [(insH_perm x L).length_eq]; simp
theorem del_len (L : List Hd) (id : Int) : (delH L id).length ≤ L.length := List.filter_sublist.length_le
theorem drop_len (L : List Hd) (id : Int) : (dropF L id).2.length ≤ L.length := by
  unfold dropF
  split
  · exact del_len L id
  · exact Nat.le_refl _
theorem del_len' {L : List Hd} {id : Int} {x : Hd} (h : findH L id = some x) : (delH L id).length + 1 ≤ L.length := by
  obtain ⟨h1, h2⟩ := find_some h
  unfold delH
  have := List.length_filter_lt_length_iff_exists (l := L) (p := fun h => !decide (id = h.id)) |>.2 ⟨x, h1, by simp [h2]⟩
  omega
theorem ext_len (L : List Hd) (id t : Int) : (extF L id t).2.length ≤ L.length := by
  unfold extF
  split
  · next x hf =>
    have := del_len' hf
    split
    · simp only; rw [(insH_perm _ _).length_eq, List.length_cons]; exact this
    · exact Nat.le_refl _
  · exact Nat.le_refl _
end Go.Proofs.Ythdcajfjglgiiaa
