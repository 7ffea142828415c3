/- Ways; the examples; the laws on levels and ways. -/
import Derived.Test.YtbbjjnhcbfdhlaaMil8
namespace Go.Proofs.Ytbbjjnhcbfdhlaa
open Go Go.AL
set_option linter.unusedSimpArgs false
set_option linter.unusedVariables false

theorem closeF_inv {N : List Txt} {ds : List Dst} (hd : ∀ d ∈ ds, d.fr ∈ N ∧ d.to ∈ N) : ∀ (n : Nat) (l : Spots), InvL N l → InvL N (closeF ds n l)
  | 0, l, hi => hi
  | n + 1, l, hi => by
    have hs := round_sofar hi ds hd (l, false) ⟨hi, .inl ⟨rfl, rfl⟩⟩
    rw [closeF]
    split
    · exact closeF_inv hd n _ hs.1
    · exact hs.1
theorem miles_bound (p : List Apt × List Dst) (a b : Txt) (hd : p.2.length ≤ 1000) : 0 ≤ (milesF p a b).1 ∧ (milesF p a b).1 ≤ 50000000 := by
  unfold milesF
  split
  · simp
  · have hi := closeF_inv (names_mem (ds := p.2) (f := cityF p.1 a)) (rank (namesF p.2 (cityF p.1 a)) (start (cityF p.1 a)) + 1) _ (start_inv p.2 (cityF p.1 a))
    have hn := names_len p.2 (cityF p.1 a)
    cases h : look (cloF p.2 (cityF p.1 a)) (cityF p.1 b) with
    | none => simp
    | some v =>
      have := hi.1 _ (look_mem h)
      simp only at this ⊢
      omega

def wayGo (p : List Apt × List Dst) (n : Int) : List Txt → Int × Int
  | [] => (n, 0)
  | [_] => (n, 0)
  | a :: b :: r => if (milesF p a b).2 = 0 then wayGo p (n + (milesF p a b).1) (b :: r) else (0, (milesF p a b).2)
def sSl (l : List Txt) : V := .sl 1 (l.map fun s => [.str s])

theorem drop_cons0 {α : Type} {l : List α} {k : Nat} {x : α} (h : l[k]? = some x) : l.drop k = x :: l.drop (k + 1) := by
  obtain ⟨hlt, rfl⟩ := List.getElem?_eq_some_iff.1 h
  exact List.drop_eq_getElem_cons hlt
theorem way_end {p : List Apt × List Dst} {n : Int} {l : List Txt} {k : Nat} (h : ¬ k + 1 < l.length) : wayGo p n (l.drop k) = (n, 0) := by
  have : (l.drop k).length ≤ 1 := by rw [List.length_drop]; omega
  match l.drop k, this with
  | [], _ => rfl
  | [_], _ => rfl
theorem way_step {p : List Apt × List Dst} {n : Int} {l : List Txt} {k : Nat} {a b : Txt} (ha : l[k]? = some a) (hb : l[k + 1]? = some b) : wayGo p n (l.drop k) = if (milesF p a b).2 = 0 then wayGo p (n + (milesF p a b).1) (l.drop (k + 1)) else (0, (milesF p a b).2) := by
  rw [drop_cons0 ha, drop_cons0 hb, wayGo]

theorem way_A (p : List Apt × List Dst) (cs : List Txt) (S : Store) (hl : p.1.length ≤ 1048576) (hd : p.2.length ≤ 1000) (hc : cs.length ≤ 1048576) :
    CallA Try.prog 17 [plV p, sSl cs] S fun r S' => r = .tup [.int .i64 (wayGo p 0 cs).1, .int .i64 (wayGo p 0 cs).2] ∧ S' = S := by
  refine CallA.keep Try.func17 c17 (Nat.le_of_ble_eq_true rfl) fun σ hσ => ?_
  simp (disch := first | omega | (simp only [List.length_cons, List.length_nil, List.length_map, List.length_drop]; omega)) only [a17, plV, aSl, dSl, sSl, List.take_succ_cons, List.take_zero, ↓evPre, ↓evPreW, evPost, evPostW, ← List.map_take, ← List.map_drop, ↓reduceIte, reduceCtorEq, Nat.reduceEqDiff, forall_const, implies_true, Nat.reduceAdd, Nat.reduceSub, Nat.reduceMul, Nat.reduceLT, Nat.reduceLeDiff, Int.reduceToNat, Int.reduceAdd, Int.reduceSub, Int.reduceNeg, Int.reduceMul, Int.reduceLT, Int.reduceLE, Int.reduceEq]
  refine loopA (ι := Nat × Int) (fun i => [(1, sSl cs), (2, .cptr [aSl p.1, dSl p.2]), (6, .int .i64 i.2), (7, .int .i64 (i.1 + 1))]) (fun _ => S) (fun i => wayGo p i.2 (cs.drop i.1) = wayGo p 0 cs ∧ 0 ≤ i.2 ∧ i.2 ≤ 50000000 * i.1 ∧ i.1 ≤ cs.length) (fun i => cs.length - i.1) (0, 0) ⟨rfl, Int.le_refl _, by simp, Nat.zero_le _⟩ ?_ rfl ?_
  · simp only [sSl, aSl, dSl, Int.reduceAdd, ↓evPre, ↓evPreW, evPost, evPostW, ← List.map_take, ← List.map_drop, ↓reduceIte, reduceCtorEq, Nat.reduceEqDiff, forall_const, implies_true, Nat.reduceAdd, Nat.reduceSub, Nat.reduceMul, Nat.reduceLT, Nat.reduceLeDiff, Int.reduceToNat, Int.reduceAdd, Int.reduceSub, Int.reduceNeg, Int.reduceMul, Int.reduceLT, Int.reduceLE, Int.reduceEq]
    try rfl
  · rintro ⟨k, n⟩ ⟨hinv, hn1, hn2, hkl⟩
    simp only at hinv hn1 hn2 hkl ⊢
    by_cases hlt0 : k + 1 < cs.length
    · have hlt : (k : Int) + 1 < cs.length := by omega
      have ha : cs[k]? = some cs[k] := List.getElem?_eq_getElem (by omega)
      have hb : cs[k + 1]? = some cs[k + 1] := List.getElem?_eq_getElem hlt0
      generalize cs[k] = a at ha
      generalize cs[k + 1] = b at hb
      rw [way_step ha hb] at hinv
      have hcast : (k : Int) + 1 = ((k + 1 : Nat) : Int) := by omega
      have hcast2 : ((k + 1 : Nat) : Int) - 1 = (k : Int) := by omega
      have hltc : ((k + 1 : Nat) : Int) < cs.length := by omega
      have hmb := miles_bound p a b hd
      simp (disch := first | omega | (simp only [List.length_cons, List.length_nil, List.length_map, List.length_drop]; omega)) only [sSl, aSl, dSl, hcast, hcast2, hltc, ha, hb, wrap_i64, List.length_map, decide_true, List.getElem?_map, Option.map_some, List.take_succ_cons, List.take_zero, ↓evPre, ↓evPreW, evPost, evPostW, ← List.map_take, ← List.map_drop, ↓reduceIte, reduceCtorEq, Nat.reduceEqDiff, forall_const, implies_true, Nat.reduceAdd, Nat.reduceSub, Nat.reduceMul, Nat.reduceLT, Nat.reduceLeDiff, Int.reduceToNat, Int.reduceAdd, Int.reduceSub, Int.reduceNeg, Int.reduceMul, Int.reduceLT, Int.reduceLE, Int.reduceEq]
      refine (miles_A p a b S hl hd).then ?_
      by_cases he : (milesF p a b).2 = 0
      · rw [if_pos he] at hinv
        simp (disch := first | omega | (simp only [List.length_cons, List.length_nil, List.length_map, List.length_drop]; omega)) only [sSl, aSl, dSl, he, wrap_i64, decide_true, decide_false, ↓evPre, ↓evPreW, evPost, evPostW, ← List.map_take, ← List.map_drop, ↓reduceIte, reduceCtorEq, Nat.reduceEqDiff, forall_const, implies_true, Nat.reduceAdd, Nat.reduceSub, Nat.reduceMul, Nat.reduceLT, Nat.reduceLeDiff, Int.reduceToNat, Int.reduceAdd, Int.reduceSub, Int.reduceNeg, Int.reduceMul, Int.reduceLT, Int.reduceLE, Int.reduceEq]
        refine ⟨(k + 1, n + (milesF p a b).1), ⟨hinv, by simp only; omega, by simp only; omega, by simp only; omega⟩, by simp only; omega, ?_⟩
        simp
      · rw [if_neg he] at hinv
        simp (disch := first | omega | (simp only [List.length_cons, List.length_nil, List.length_map, List.length_drop]; omega)) only [sSl, aSl, dSl, he, ← hinv, wrap_i64, decide_true, decide_false, ↓evPre, ↓evPreW, evPost, evPostW, ← List.map_take, ← List.map_drop, ↓reduceIte, reduceCtorEq, Nat.reduceEqDiff, forall_const, implies_true, Nat.reduceAdd, Nat.reduceSub, Nat.reduceMul, Nat.reduceLT, Nat.reduceLeDiff, Int.reduceToNat, Int.reduceAdd, Int.reduceSub, Int.reduceNeg, Int.reduceMul, Int.reduceLT, Int.reduceLE, Int.reduceEq]
    · have hlt : ¬ (k : Int) + 1 < cs.length := by omega
      rw [way_end hlt0] at hinv
      simp (disch := first | omega | (simp only [List.length_cons, List.length_nil, List.length_map, List.length_drop]; omega)) only [sSl, aSl, dSl, hlt, ← hinv, wrap_i64, List.length_map, decide_true, decide_false, ↓evPre, ↓evPreW, evPost, evPostW, ← List.map_take, ← List.map_drop, ↓reduceIte, reduceCtorEq, Nat.reduceEqDiff, forall_const, implies_true, Nat.reduceAdd, Nat.reduceSub, Nat.reduceMul, Nat.reduceLT, Nat.reduceLeDiff, Int.reduceToNat, Int.reduceAdd, Int.reduceSub, Int.reduceNeg, Int.reduceMul, Int.reduceLT, Int.reduceLE, Int.reduceEq]

theorem refway_A (p : List Apt × List Dst) (cs : List Txt) (S : Store) (hl : p.1.length ≤ 1048576) (hd : p.2.length ≤ 1000) (hc : cs.length ≤ 1048576) :
    CallA Try.prog 18 [plV p, sSl cs] S fun r S' => r = .tup [.int .i64 (wayGo p 0 cs).1, .int .i64 (wayGo p 0 cs).2] ∧ S' = S := by
  refine CallA.keep Try.func18 c18 (Nat.le_of_ble_eq_true rfl) fun σ hσ => ?_
  simp (disch := first | omega | (simp only [List.length_cons, List.length_nil, List.length_map, List.length_drop]; omega)) only [a18, plV, aSl, dSl, sSl, List.take_succ_cons, List.take_zero, ↓evPre, ↓evPreW, evPost, evPostW, ← List.map_take, ← List.map_drop, ↓reduceIte, reduceCtorEq, Nat.reduceEqDiff, forall_const, implies_true, Nat.reduceAdd, Nat.reduceSub, Nat.reduceMul, Nat.reduceLT, Nat.reduceLeDiff, Int.reduceToNat, Int.reduceAdd, Int.reduceSub, Int.reduceNeg, Int.reduceMul, Int.reduceLT, Int.reduceLE, Int.reduceEq]
  refine loopA (ι := Nat × Int) (fun i => [(1, sSl cs), (2, .cptr [aSl p.1, dSl p.2]), (6, .int .i64 i.2), (7, .int .i64 (i.1))]) (fun _ => S) (fun i => wayGo p i.2 (cs.drop i.1) = wayGo p 0 cs ∧ 0 ≤ i.2 ∧ i.2 ≤ 50000000 * i.1 ∧ i.1 ≤ cs.length) (fun i => cs.length - i.1) (0, 0) ⟨rfl, Int.le_refl _, by simp, Nat.zero_le _⟩ ?_ rfl ?_
  · simp only [sSl, aSl, dSl, Int.reduceAdd, ↓evPre, ↓evPreW, evPost, evPostW, ← List.map_take, ← List.map_drop, ↓reduceIte, reduceCtorEq, Nat.reduceEqDiff, forall_const, implies_true, Nat.reduceAdd, Nat.reduceSub, Nat.reduceMul, Nat.reduceLT, Nat.reduceLeDiff, Int.reduceToNat, Int.reduceAdd, Int.reduceSub, Int.reduceNeg, Int.reduceMul, Int.reduceLT, Int.reduceLE, Int.reduceEq]
    try rfl
  · rintro ⟨k, n⟩ ⟨hinv, hn1, hn2, hkl⟩
    simp only at hinv hn1 hn2 hkl ⊢
    by_cases hlt0 : k + 1 < cs.length
    · have hlt : (k : Int) + 1 < cs.length := by omega
      have ha : cs[k]? = some cs[k] := List.getElem?_eq_getElem (by omega)
      have hb : cs[k + 1]? = some cs[k + 1] := List.getElem?_eq_getElem hlt0
      generalize cs[k] = a at ha
      generalize cs[k + 1] = b at hb
      rw [way_step ha hb] at hinv
      have hcast : (k : Int) + 1 = ((k + 1 : Nat) : Int) := by omega
      have hcast2 : ((k + 1 : Nat) : Int) - 1 = (k : Int) := by omega
      have hltc : ((k + 1 : Nat) : Int) < cs.length := by omega
      have hmb := miles_bound p a b hd
      simp (disch := first | omega | (simp only [List.length_cons, List.length_nil, List.length_map, List.length_drop]; omega)) only [sSl, aSl, dSl, hcast, hcast2, hltc, ha, hb, wrap_i64, List.length_map, decide_true, List.getElem?_map, Option.map_some, List.take_succ_cons, List.take_zero, ↓evPre, ↓evPreW, evPost, evPostW, ← List.map_take, ← List.map_drop, ↓reduceIte, reduceCtorEq, Nat.reduceEqDiff, forall_const, implies_true, Nat.reduceAdd, Nat.reduceSub, Nat.reduceMul, Nat.reduceLT, Nat.reduceLeDiff, Int.reduceToNat, Int.reduceAdd, Int.reduceSub, Int.reduceNeg, Int.reduceMul, Int.reduceLT, Int.reduceLE, Int.reduceEq]
      refine (refmiles_A p a b S hl hd).then ?_
      by_cases he : (milesF p a b).2 = 0
      · rw [if_pos he] at hinv
        simp (disch := first | omega | (simp only [List.length_cons, List.length_nil, List.length_map, List.length_drop]; omega)) only [sSl, aSl, dSl, he, wrap_i64, decide_true, decide_false, ↓evPre, ↓evPreW, evPost, evPostW, ← List.map_take, ← List.map_drop, ↓reduceIte, reduceCtorEq, Nat.reduceEqDiff, forall_const, implies_true, Nat.reduceAdd, Nat.reduceSub, Nat.reduceMul, Nat.reduceLT, Nat.reduceLeDiff, Int.reduceToNat, Int.reduceAdd, Int.reduceSub, Int.reduceNeg, Int.reduceMul, Int.reduceLT, Int.reduceLE, Int.reduceEq]
        refine ⟨(k + 1, n + (milesF p a b).1), ⟨hinv, by simp only; omega, by simp only; omega, by simp only; omega⟩, by simp only; omega, ?_⟩
        simp
      · rw [if_neg he] at hinv
        simp (disch := first | omega | (simp only [List.length_cons, List.length_nil, List.length_map, List.length_drop]; omega)) only [sSl, aSl, dSl, he, ← hinv, wrap_i64, decide_true, decide_false, ↓evPre, ↓evPreW, evPost, evPostW, ← List.map_take, ← List.map_drop, ↓reduceIte, reduceCtorEq, Nat.reduceEqDiff, forall_const, implies_true, Nat.reduceAdd, Nat.reduceSub, Nat.reduceMul, Nat.reduceLT, Nat.reduceLeDiff, Int.reduceToNat, Int.reduceAdd, Int.reduceSub, Int.reduceNeg, Int.reduceMul, Int.reduceLT, Int.reduceLE, Int.reduceEq]
    · have hlt : ¬ (k : Int) + 1 < cs.length := by omega
      rw [way_end hlt0] at hinv
      simp (disch := first | omega | (simp only [List.length_cons, List.length_nil, List.length_map, List.length_drop]; omega)) only [sSl, aSl, dSl, hlt, ← hinv, wrap_i64, List.length_map, decide_true, decide_false, ↓evPre, ↓evPreW, evPost, evPostW, ← List.map_take, ← List.map_drop, ↓reduceIte, reduceCtorEq, Nat.reduceEqDiff, forall_const, implies_true, Nat.reduceAdd, Nat.reduceSub, Nat.reduceMul, Nat.reduceLT, Nat.reduceLeDiff, Int.reduceToNat, Int.reduceAdd, Int.reduceSub, Int.reduceNeg, Int.reduceMul, Int.reduceLT, Int.reduceLE, Int.reduceEq]

def mostF (p : List Apt × List Dst) (a b : Txt) : Int × Int := if (milesF p a b).2 = 0 then percentF (milesF p a b).1 12000 else (0, (milesF p a b).2)
def ofF (p : List Apt × List Dst) (cs : List Txt) (m : Int) : Int × Int := if (wayGo p 0 cs).2 = 0 then levF (wayGo p 0 cs).1 m else (0, (wayGo p 0 cs).2)

theorem most_A (p : List Apt × List Dst) (a b : Txt) (S : Store) (hl : p.1.length ≤ 1048576) (hd : p.2.length ≤ 1000) :
    CallA Try.prog 13 [plV p, .str a, .str b] S fun r S' => r = .tup [.int .i64 (mostF p a b).1, .int .i64 (mostF p a b).2] ∧ S' = S := by
  refine CallA.keep Try.func13 c13 (Nat.le_of_ble_eq_true rfl) fun σ hσ => ?_
  simp (disch := first | omega | (simp only [List.length_cons, List.length_nil, List.length_map, List.length_drop]; omega)) only [a13, plV, aSl, dSl, List.take_succ_cons, List.take_zero, ↓evPre, ↓evPreW, evPost, evPostW, ← List.map_take, ← List.map_drop, ↓reduceIte, reduceCtorEq, Nat.reduceEqDiff, forall_const, implies_true, Nat.reduceAdd, Nat.reduceSub, Nat.reduceMul, Nat.reduceLT, Nat.reduceLeDiff, Int.reduceToNat, Int.reduceAdd, Int.reduceSub, Int.reduceNeg, Int.reduceMul, Int.reduceLT, Int.reduceLE, Int.reduceEq]
  refine (miles_A p a b S hl hd).then ?_
  unfold mostF
  by_cases he : (milesF p a b).2 = 0
  · have pc := percent_A (milesF p a b).1 12000 S (by omega)
    simp (disch := first | omega | (simp only [List.length_cons, List.length_nil, List.length_map, List.length_drop]; omega)) only [he, if_true, decide_true, decide_false, ↓evPre, ↓evPreW, evPost, evPostW, ← List.map_take, ← List.map_drop, ↓reduceIte, reduceCtorEq, Nat.reduceEqDiff, forall_const, implies_true, Nat.reduceAdd, Nat.reduceSub, Nat.reduceMul, Nat.reduceLT, Nat.reduceLeDiff, Int.reduceToNat, Int.reduceAdd, Int.reduceSub, Int.reduceNeg, Int.reduceMul, Int.reduceLT, Int.reduceLE, Int.reduceEq]
    refine pc.then ?_
    simp (disch := first | omega | (simp only [List.length_cons, List.length_nil, List.length_map, List.length_drop]; omega)) only [↓evPre, ↓evPreW, evPost, evPostW, ← List.map_take, ← List.map_drop, ↓reduceIte, reduceCtorEq, Nat.reduceEqDiff, forall_const, implies_true, Nat.reduceAdd, Nat.reduceSub, Nat.reduceMul, Nat.reduceLT, Nat.reduceLeDiff, Int.reduceToNat, Int.reduceAdd, Int.reduceSub, Int.reduceNeg, Int.reduceMul, Int.reduceLT, Int.reduceLE, Int.reduceEq]
    rfl
  · simp (disch := first | omega | (simp only [List.length_cons, List.length_nil, List.length_map, List.length_drop]; omega)) only [he, if_false, decide_true, decide_false, ↓evPre, ↓evPreW, evPost, evPostW, ← List.map_take, ← List.map_drop, ↓reduceIte, reduceCtorEq, Nat.reduceEqDiff, forall_const, implies_true, Nat.reduceAdd, Nat.reduceSub, Nat.reduceMul, Nat.reduceLT, Nat.reduceLeDiff, Int.reduceToNat, Int.reduceAdd, Int.reduceSub, Int.reduceNeg, Int.reduceMul, Int.reduceLT, Int.reduceLE, Int.reduceEq]

theorem refmost_A (p : List Apt × List Dst) (a b : Txt) (S : Store) (hl : p.1.length ≤ 1048576) (hd : p.2.length ≤ 1000) :
    CallA Try.prog 14 [plV p, .str a, .str b] S fun r S' => r = .tup [.int .i64 (mostF p a b).1, .int .i64 (mostF p a b).2] ∧ S' = S := by
  refine CallA.keep Try.func14 c14 (Nat.le_of_ble_eq_true rfl) fun σ hσ => ?_
  simp (disch := first | omega | (simp only [List.length_cons, List.length_nil, List.length_map, List.length_drop]; omega)) only [a14, plV, aSl, dSl, List.take_succ_cons, List.take_zero, ↓evPre, ↓evPreW, evPost, evPostW, ← List.map_take, ← List.map_drop, ↓reduceIte, reduceCtorEq, Nat.reduceEqDiff, forall_const, implies_true, Nat.reduceAdd, Nat.reduceSub, Nat.reduceMul, Nat.reduceLT, Nat.reduceLeDiff, Int.reduceToNat, Int.reduceAdd, Int.reduceSub, Int.reduceNeg, Int.reduceMul, Int.reduceLT, Int.reduceLE, Int.reduceEq]
  refine (refmiles_A p a b S hl hd).then ?_
  unfold mostF
  by_cases he : (milesF p a b).2 = 0
  · have pc := refpercent_A (milesF p a b).1 12000 S (by omega) (by omega)
    simp (disch := first | omega | (simp only [List.length_cons, List.length_nil, List.length_map, List.length_drop]; omega)) only [he, if_true, decide_true, decide_false, ↓evPre, ↓evPreW, evPost, evPostW, ← List.map_take, ← List.map_drop, ↓reduceIte, reduceCtorEq, Nat.reduceEqDiff, forall_const, implies_true, Nat.reduceAdd, Nat.reduceSub, Nat.reduceMul, Nat.reduceLT, Nat.reduceLeDiff, Int.reduceToNat, Int.reduceAdd, Int.reduceSub, Int.reduceNeg, Int.reduceMul, Int.reduceLT, Int.reduceLE, Int.reduceEq]
    refine pc.then ?_
    simp (disch := first | omega | (simp only [List.length_cons, List.length_nil, List.length_map, List.length_drop]; omega)) only [↓evPre, ↓evPreW, evPost, evPostW, ← List.map_take, ← List.map_drop, ↓reduceIte, reduceCtorEq, Nat.reduceEqDiff, forall_const, implies_true, Nat.reduceAdd, Nat.reduceSub, Nat.reduceMul, Nat.reduceLT, Nat.reduceLeDiff, Int.reduceToNat, Int.reduceAdd, Int.reduceSub, Int.reduceNeg, Int.reduceMul, Int.reduceLT, Int.reduceLE, Int.reduceEq]
    rfl
  · simp (disch := first | omega | (simp only [List.length_cons, List.length_nil, List.length_map, List.length_drop]; omega)) only [he, if_false, decide_true, decide_false, ↓evPre, ↓evPreW, evPost, evPostW, ← List.map_take, ← List.map_drop, ↓reduceIte, reduceCtorEq, Nat.reduceEqDiff, forall_const, implies_true, Nat.reduceAdd, Nat.reduceSub, Nat.reduceMul, Nat.reduceLT, Nat.reduceLeDiff, Int.reduceToNat, Int.reduceAdd, Int.reduceSub, Int.reduceNeg, Int.reduceMul, Int.reduceLT, Int.reduceLE, Int.reduceEq]

theorem of_A (p : List Apt × List Dst) (cs : List Txt) (m : Int) (S : Store) (hl : p.1.length ≤ 1048576) (hd : p.2.length ≤ 1000) (hc : cs.length ≤ 1048576) :
    CallA Try.prog 11 [plV p, sSl cs, .int .i64 m] S fun r S' => r = .tup [.int .i64 (ofF p cs m).1, .int .i64 (ofF p cs m).2] ∧ S' = S := by
  refine CallA.keep Try.func11 c11 (Nat.le_of_ble_eq_true rfl) fun σ hσ => ?_
  simp (disch := first | omega | (simp only [List.length_cons, List.length_nil, List.length_map, List.length_drop]; omega)) only [a11, plV, aSl, dSl, List.take_succ_cons, List.take_zero, ↓evPre, ↓evPreW, evPost, evPostW, ← List.map_take, ← List.map_drop, ↓reduceIte, reduceCtorEq, Nat.reduceEqDiff, forall_const, implies_true, Nat.reduceAdd, Nat.reduceSub, Nat.reduceMul, Nat.reduceLT, Nat.reduceLeDiff, Int.reduceToNat, Int.reduceAdd, Int.reduceSub, Int.reduceNeg, Int.reduceMul, Int.reduceLT, Int.reduceLE, Int.reduceEq]
  refine (way_A p cs S hl hd hc).then ?_
  unfold ofF
  by_cases he : (wayGo p 0 cs).2 = 0
  · simp (disch := first | omega | (simp only [List.length_cons, List.length_nil, List.length_map, List.length_drop]; omega)) only [he, if_true, decide_true, decide_false, ↓evPre, ↓evPreW, evPost, evPostW, ← List.map_take, ← List.map_drop, ↓reduceIte, reduceCtorEq, Nat.reduceEqDiff, forall_const, implies_true, Nat.reduceAdd, Nat.reduceSub, Nat.reduceMul, Nat.reduceLT, Nat.reduceLeDiff, Int.reduceToNat, Int.reduceAdd, Int.reduceSub, Int.reduceNeg, Int.reduceMul, Int.reduceLT, Int.reduceLE, Int.reduceEq]
    refine (level_A _ _ S).then ?_
    simp (disch := first | omega | (simp only [List.length_cons, List.length_nil, List.length_map, List.length_drop]; omega)) only [↓evPre, ↓evPreW, evPost, evPostW, ← List.map_take, ← List.map_drop, ↓reduceIte, reduceCtorEq, Nat.reduceEqDiff, forall_const, implies_true, Nat.reduceAdd, Nat.reduceSub, Nat.reduceMul, Nat.reduceLT, Nat.reduceLeDiff, Int.reduceToNat, Int.reduceAdd, Int.reduceSub, Int.reduceNeg, Int.reduceMul, Int.reduceLT, Int.reduceLE, Int.reduceEq]
  · simp (disch := first | omega | (simp only [List.length_cons, List.length_nil, List.length_map, List.length_drop]; omega)) only [he, if_false, decide_true, decide_false, ↓evPre, ↓evPreW, evPost, evPostW, ← List.map_take, ← List.map_drop, ↓reduceIte, reduceCtorEq, Nat.reduceEqDiff, forall_const, implies_true, Nat.reduceAdd, Nat.reduceSub, Nat.reduceMul, Nat.reduceLT, Nat.reduceLeDiff, Int.reduceToNat, Int.reduceAdd, Int.reduceSub, Int.reduceNeg, Int.reduceMul, Int.reduceLT, Int.reduceLE, Int.reduceEq]

theorem refof_A (p : List Apt × List Dst) (cs : List Txt) (m : Int) (S : Store) (hl : p.1.length ≤ 1048576) (hd : p.2.length ≤ 1000) (hc : cs.length ≤ 1048576) :
    CallA Try.prog 12 [plV p, sSl cs, .int .i64 m] S fun r S' => r = .tup [.int .i64 (ofF p cs m).1, .int .i64 (ofF p cs m).2] ∧ S' = S := by
  refine CallA.keep Try.func12 c12 (Nat.le_of_ble_eq_true rfl) fun σ hσ => ?_
  simp (disch := first | omega | (simp only [List.length_cons, List.length_nil, List.length_map, List.length_drop]; omega)) only [a12, plV, aSl, dSl, List.take_succ_cons, List.take_zero, ↓evPre, ↓evPreW, evPost, evPostW, ← List.map_take, ← List.map_drop, ↓reduceIte, reduceCtorEq, Nat.reduceEqDiff, forall_const, implies_true, Nat.reduceAdd, Nat.reduceSub, Nat.reduceMul, Nat.reduceLT, Nat.reduceLeDiff, Int.reduceToNat, Int.reduceAdd, Int.reduceSub, Int.reduceNeg, Int.reduceMul, Int.reduceLT, Int.reduceLE, Int.reduceEq]
  refine (refway_A p cs S hl hd hc).then ?_
  unfold ofF
  by_cases he : (wayGo p 0 cs).2 = 0
  · simp (disch := first | omega | (simp only [List.length_cons, List.length_nil, List.length_map, List.length_drop]; omega)) only [he, if_true, decide_true, decide_false, ↓evPre, ↓evPreW, evPost, evPostW, ← List.map_take, ← List.map_drop, ↓reduceIte, reduceCtorEq, Nat.reduceEqDiff, forall_const, implies_true, Nat.reduceAdd, Nat.reduceSub, Nat.reduceMul, Nat.reduceLT, Nat.reduceLeDiff, Int.reduceToNat, Int.reduceAdd, Int.reduceSub, Int.reduceNeg, Int.reduceMul, Int.reduceLT, Int.reduceLE, Int.reduceEq]
    refine (reflevel_A _ _ S).then ?_
    simp (disch := first | omega | (simp only [List.length_cons, List.length_nil, List.length_map, List.length_drop]; omega)) only [↓evPre, ↓evPreW, evPost, evPostW, ← List.map_take, ← List.map_drop, ↓reduceIte, reduceCtorEq, Nat.reduceEqDiff, forall_const, implies_true, Nat.reduceAdd, Nat.reduceSub, Nat.reduceMul, Nat.reduceLT, Nat.reduceLeDiff, Int.reduceToNat, Int.reduceAdd, Int.reduceSub, Int.reduceNeg, Int.reduceMul, Int.reduceLT, Int.reduceLE, Int.reduceEq]
  · simp (disch := first | omega | (simp only [List.length_cons, List.length_nil, List.length_map, List.length_drop]; omega)) only [he, if_false, decide_true, decide_false, ↓evPre, ↓evPreW, evPost, evPostW, ← List.map_take, ← List.map_drop, ↓reduceIte, reduceCtorEq, Nat.reduceEqDiff, forall_const, implies_true, Nat.reduceAdd, Nat.reduceSub, Nat.reduceMul, Nat.reduceLT, Nat.reduceLeDiff, Int.reduceToNat, Int.reduceAdd, Int.reduceSub, Int.reduceNeg, Int.reduceMul, Int.reduceLT, Int.reduceLE, Int.reduceEq]

def exP : List Apt × List Dst := ([⟨[76, 72, 82], [76, 79, 78], [71, 66], 0, []⟩, ⟨[74, 70, 75], [78, 89, 67], [85, 83], 0, []⟩], [⟨[76, 79, 78], [78, 89, 67], 3458⟩])
theorem ex_most : mostF exP [76, 72, 82] [78, 89, 67] = (4150, 0) := by decide +kernel
theorem ex_of : ofF exP [[76, 79, 78], [78, 89, 67]] 3400 = (5, 0) := by decide +kernel
end Go.Proofs.Ytbbjjnhcbfdhlaa
