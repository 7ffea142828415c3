/- Curve of 'bid': copy, sort, and what is laid out. -/
import Derived.Test.YtoidchljifelgaaBid11
import Derived.Test.YtoidchljifelgaaAlG
namespace Go.Proofs.Ytoidchljifelgaa
open Go Go.AL
set_option linter.unusedSimpArgs false
set_option maxHeartbeats 4000000

def demSl (l : List (Int × Int)) : V := .sl 2 (l.map dem)

theorem clone_A (l : List (Int × Int)) (S : Store) (hl : l.length ≤ 1073741824) : CallA Try.prog 21 [demSl l] S fun r S' => r = .msl S.length 1 0 l.length ∧ S' = S ++ [⟨1, some (.arr 40 2 (l.map dem))⟩] := by
  refine CallA.ghost (R0 := fun r S' => (r = .msl S.length 1 0 l.length ∧ S' = S ++ [⟨1, some (.arr 40 2 (l.map dem))⟩]) ∨ (l = [] ∧ r = .nilSl ∧ S' = S)) ?_ ?_
  · refine CallA.keep Try.func21 c21 (Nat.le_of_ble_eq_true rfl) fun σ hσ => ?_
    cases l with
    | nil =>
      simp only [a21, demSl, evSt, ↓evPre, ↓evPreV, evPost, evPostV, ← List.map_take, ← List.map_drop, ↓reduceIte, reduceCtorEq, Nat.reduceEqDiff, forall_const, implies_true, Nat.reduceAdd, Nat.reduceSub, Nat.reduceMul, Nat.reduceLT, Nat.reduceLeDiff, Int.reduceToNat, Int.reduceAdd, Int.reduceSub, Int.reduceNeg, Int.reduceMul, Int.reduceLT, Int.reduceLE, Int.reduceEq]
      simp [roomA]
    | cons d l =>
      simp only [a21, demSl, evSt, ↓evPre, ↓evPreV, evPost, evPostV, ← List.map_take, ← List.map_drop, ↓reduceIte, reduceCtorEq, Nat.reduceEqDiff, forall_const, implies_true, Nat.reduceAdd, Nat.reduceSub, Nat.reduceMul, Nat.reduceLT, Nat.reduceLeDiff, Int.reduceToNat, Int.reduceAdd, Int.reduceSub, Int.reduceNeg, Int.reduceMul, Int.reduceLT, Int.reduceLE, Int.reduceEq]
      simp [roomA] at hl ⊢
      omega
  · rintro r S' (h | ⟨rfl, rfl, rfl⟩)
    · exact .inl h
    · exact .inr ⟨rfl, 1, 40, 2, rfl, by simp⟩

theorem isDem_ok (r : List V) (h : isDem r) : r.length = 2 ∧ r.all V.cellOk = true := by
  obtain ⟨d, rfl⟩ := h
  exact ⟨rfl, rfl⟩

theorem sort_A (rows : List (List V)) (S : Store) (hok : ∀ r ∈ rows, isDem r) (hl : rows.length ≤ 1073741824) :
    CallA Try.prog 22 [.msl S.length 1 0 rows.length, .func 23 [] []] (S ++ [⟨1, some (.arr 40 2 rows)⟩]) fun r S' => r = .tup [] ∧ ∃ M', M'.Perm rows ∧ Srt demLt M' ∧ S' = S ++ [⟨1, some (.arr 40 2 M')⟩] := by
  refine CallA.keep Try.func22 c22 (Nat.le_of_ble_eq_true rfl) fun σ hσ => ?_
  simp only [a22, evSt, ↓evPre, ↓evPreV, evPost, evPostV, ← List.map_take, ← List.map_drop, ↓reduceIte, reduceCtorEq, Nat.reduceEqDiff, forall_const, implies_true, Nat.reduceAdd, Nat.reduceSub, Nat.reduceMul, Nat.reduceLT, Nat.reduceLeDiff, Int.reduceToNat, Int.reduceAdd, Int.reduceSub, Int.reduceNeg, Int.reduceMul, Int.reduceLT, Int.reduceLE, Int.reduceEq]
  have h1 : ∀ rows' : List (List V), rset (S ++ [⟨1, some (.arr 40 2 rows)⟩]) S.length 1 rows' = S ++ [⟨1, some (.arr 40 2 rows')⟩] := fun rows' => by simp [rset]
  have := stable_A demCmp demOrds rows (S ++ [⟨1, some (.arr 40 2 rows)⟩]) S.length 1 rows.length (by simp) isDem_ok hok rfl hl
  rw [h1] at this
  refine this.mono ?_
  rintro r S' ⟨rfl, M', h2, h3, rfl⟩
  simp only [h1, ↓evPre, ↓evPreV, evPost, evPostV, ← List.map_take, ← List.map_drop, ↓reduceIte, reduceCtorEq, Nat.reduceEqDiff, forall_const, implies_true, Nat.reduceAdd, Nat.reduceSub, Nat.reduceMul, Nat.reduceLT, Nat.reduceLeDiff, Int.reduceToNat, Int.reduceAdd, Int.reduceSub, Int.reduceNeg, Int.reduceMul, Int.reduceLT, Int.reduceLE, Int.reduceEq]
  exact ⟨M', h2, h3, rfl⟩

/-! ### What is laid out -/
def E (l : List (Int × Int)) : List Int := l.flatMap fun d => List.replicate d.2.toNat d.1
def padF (L : List Int) (seats : Int) : List Int := (L ++ List.replicate seats.toNat 0).take seats.toNat
def sortedE (l : List (Int × Int)) : List Int := (E l).mergeSort fun a b => decide (b ≤ a)
def desc (L : List Int) : Prop := L.Pairwise fun a b => b ≤ a

theorem desc_eq {L M : List Int} (h1 : desc L) (h2 : desc M) (h : L.Perm M) : L = M :=
  List.Perm.eq_of_pairwise (le := fun a b => b ≤ a) (fun a b _ _ h1 h2 => Int.le_antisymm h2 h1) h1 h2 h

theorem sortedE_spec (l : List (Int × Int)) : desc (sortedE l) ∧ (sortedE l).Perm (E l) := by
  refine ⟨?_, List.mergeSort_perm _ _⟩
  have := List.pairwise_mergeSort (le := fun a b : Int => decide (b ≤ a)) (fun a b c h1 h2 => by simp at *; omega) (fun a b => by simp; omega) (E l)
  exact this.imp fun h => by simpa using h

theorem E_desc : ∀ (m : List (Int × Int)), m.Pairwise (fun x y => y.1 ≤ x.1) → desc (E m)
  | [], _ => List.Pairwise.nil
  | d :: m, h => by
    have h1 := List.pairwise_cons.1 h
    simp only [E, desc, List.flatMap_cons]
    rw [List.pairwise_append]
    refine ⟨List.pairwise_replicate.2 (.inr (Int.le_refl _)), E_desc m h1.2, fun a ha b hb => ?_⟩
    obtain ⟨_, rfl⟩ := List.mem_replicate.1 ha
    obtain ⟨x, hx, hbx⟩ := List.mem_flatMap.1 hb
    obtain ⟨_, rfl⟩ := List.mem_replicate.1 hbx
    exact h1.1 x hx

theorem E_sorted {l m : List (Int × Int)} (hp : m.Perm l) (hs : m.Pairwise (fun x y => y.1 ≤ x.1)) : E m = sortedE l :=
  desc_eq (E_desc m hs) (sortedE_spec l).1 ((hp.flatMap_right _).trans (sortedE_spec l).2.symm)

def undem (r : List V) : Int × Int := match r with
  | [.int _ a, .int _ b] => (a, b)
  | _ => (0, 0)

theorem undem_dem (d : Int × Int) : undem (dem d) = d := rfl

theorem perm_dem {M' : List (List V)} {l : List (Int × Int)} (h : M'.Perm (l.map dem)) (hs : Srt demLt M') : ∃ m : List (Int × Int), M' = m.map dem ∧ m.Perm l ∧ m.Pairwise (fun x y => y.1 ≤ x.1) := by
  have hm : ∀ r ∈ M', dem (undem r) = r := fun r hr => by
    obtain ⟨d, _, rfl⟩ := List.mem_map.1 (h.mem_iff.1 hr)
    rfl
  have e : (M'.map undem).map dem = M' := by
    rw [List.map_map]
    exact (List.map_congr_left (fun r hr => hm r hr)).trans (List.map_id _)
  refine ⟨M'.map undem, e.symm, ?_, ?_⟩
  · have := h.map undem
    rw [List.map_map] at this
    have e2 : l.map (undem ∘ dem) = l := (List.map_congr_left (fun d _ => undem_dem d)).trans (List.map_id _)
    rwa [e2] at this
  · rw [← e] at hs
    unfold Srt at hs
    rw [List.pairwise_map] at hs
    exact hs.imp fun {x y} h => by simpa [dem, demLt] using h

def badF : List (Int × Int) → Int
  | [] => 0
  | d :: r => if d.1 < 0 ∨ 1099511627776 < d.1 then 11 else if d.2 < 0 then 2 else badF r

/-- What Curve returns: the bid prices, and the error. -/
def curveF (l : List (Int × Int)) (seats : Int) : List Int × Int :=
  if seats < 0 ∨ 999 < seats then ([], 2) else if badF l ≠ 0 then ([], badF l) else (padF (sortedE l) seats, 0)

def curveV (l : List (Int × Int)) (seats : Int) : V := .tup [iSl (curveF l seats).1, .int .i64 (curveF l seats).2]
end Go.Proofs.Ytoidchljifelgaa
