/- The merge at every length; comparisons of demands. -/
import Derived.Test.YtoidchljifelgaaBid8
namespace Go.Proofs.Ytoidchljifelgaa
open Go Go.AL
set_option linter.unusedSimpArgs false

theorem symAll {f : FuncId} {first cap : List V} {ok : List V → Prop} {lt : List V → List V → Bool} (hc : Cmps f first cap ok lt) (ho : Ords ok lt) : ∀ k, SymOk f first cap ok lt k
  | 0 => fun P U W Q S id ver a m b N hk _ _ _ _ _ _ _ _ _ _ _ hU hW => by omega
  | k + 1 => fun P U W Q S id ver a m b N hk hid hw hUo hWo ha hm hb hN hl hUs hWs hU hW => by
    by_cases h1 : U.length = 1
    · obtain ⟨u, rfl⟩ := List.length_eq_one_iff.1 h1
      exact sym1_A P W Q u S id ver a m b N f first cap ok lt hc ho hid hw (hUo u (by simp)) hWo ha (by simpa using hm) hb hN hl hWs
    · by_cases h2 : W.length = 1
      · obtain ⟨w, rfl⟩ := List.length_eq_one_iff.1 h2
        exact sym2_A P U Q w S id ver a m b N f first cap ok lt hc ho hid hw (hWo w (by simp)) hUo ha hm (by simpa using hb) hN hl hUs h1
      · exact sym_step hc ho (symAll hc ho k) P U W Q S id ver a m b N hk hid hw hUo hWo ha hm hb hN hl hUs hWs (by omega) (by omega)

theorem isNaN_A (x : Int) (S : Store) : CallA Try.prog 27 [.int .i64 x] S fun r S' => r = .bool false ∧ S' = S := by
  refine CallA.keep Try.func27 c27 (Nat.le_of_ble_eq_true rfl) fun σ hσ => ?_
  simp only [a27, ↓evPre, ↓evPreV, evPost, evPostV, ← List.map_take, ← List.map_drop, ↓reduceIte, reduceCtorEq, Nat.reduceEqDiff, forall_const, implies_true, Nat.reduceAdd, Nat.reduceSub, Nat.reduceMul, Nat.reduceLT, Nat.reduceLeDiff, Int.reduceToNat, Int.reduceAdd, Int.reduceSub, Int.reduceNeg, Int.reduceMul, Int.reduceLT, Int.reduceLE, Int.reduceEq]

def cmpF (x y : Int) : Int := if x < y then -1 else if y < x then 1 else 0

theorem compare_A (x y : Int) (S : Store) : CallA Try.prog 24 [.int .i64 x, .int .i64 y] S fun r S' => r = .int .i64 (cmpF x y) ∧ S' = S := by
  refine CallA.keep Try.func24 c24 (Nat.le_of_ble_eq_true rfl) fun σ hσ => ?_
  simp only [a24, ↓evPre, ↓evPreV, evPost, evPostV, ← List.map_take, ← List.map_drop, ↓reduceIte, reduceCtorEq, Nat.reduceEqDiff, forall_const, implies_true, Nat.reduceAdd, Nat.reduceSub, Nat.reduceMul, Nat.reduceLT, Nat.reduceLeDiff, Int.reduceToNat, Int.reduceAdd, Int.reduceSub, Int.reduceNeg, Int.reduceMul, Int.reduceLT, Int.reduceLE, Int.reduceEq]
  refine (isNaN_A x S).mono ?_
  rintro r S' ⟨rfl, rfl⟩
  simp only [↓evPre, ↓evPreV, evPost, evPostV, ← List.map_take, ← List.map_drop, ↓reduceIte, reduceCtorEq, Nat.reduceEqDiff, forall_const, implies_true, Nat.reduceAdd, Nat.reduceSub, Nat.reduceMul, Nat.reduceLT, Nat.reduceLeDiff, Int.reduceToNat, Int.reduceAdd, Int.reduceSub, Int.reduceNeg, Int.reduceMul, Int.reduceLT, Int.reduceLE, Int.reduceEq]
  refine (isNaN_A y S').mono ?_
  rintro r S'' ⟨rfl, rfl⟩
  simp only [↓evPre, ↓evPreV, evPost, evPostV, ← List.map_take, ← List.map_drop, ↓reduceIte, reduceCtorEq, Nat.reduceEqDiff, forall_const, implies_true, Nat.reduceAdd, Nat.reduceSub, Nat.reduceMul, Nat.reduceLT, Nat.reduceLeDiff, Int.reduceToNat, Int.reduceAdd, Int.reduceSub, Int.reduceNeg, Int.reduceMul, Int.reduceLT, Int.reduceLE, Int.reduceEq]
  refine ⟨fun h => by simp [cmpF, h], fun h => ⟨fun h2 => by simp [cmpF, h2]; omega, fun h2 => by simp [cmpF]; omega⟩⟩

def dem (d : Int × Int) : List V := [.int .i64 d.1, .int .i64 d.2]
def isDem (r : List V) : Prop := ∃ d, r = dem d
def demLt (x y : List V) : Bool := match x, y with
  | [.int _ a, _], [.int _ b, _] => decide (b < a)
  | _, _ => false

theorem demCmp : Cmps 23 [] [] isDem demLt := by
  rintro x y S ⟨⟨v, c⟩, rfl⟩ ⟨⟨v', c'⟩, rfl⟩
  refine CallA.keep Try.func23 c23 (Nat.le_of_ble_eq_true rfl) fun σ hσ => ?_
  simp only [a23, dem, ↓evPre, ↓evPreV, evPost, evPostV, ← List.map_take, ← List.map_drop, ↓reduceIte, reduceCtorEq, Nat.reduceEqDiff, forall_const, implies_true, Nat.reduceAdd, Nat.reduceSub, Nat.reduceMul, Nat.reduceLT, Nat.reduceLeDiff, Int.reduceToNat, Int.reduceAdd, Int.reduceSub, Int.reduceNeg, Int.reduceMul, Int.reduceLT, Int.reduceLE, Int.reduceEq]
  refine (compare_A v' v S).mono ?_
  rintro r S' ⟨rfl, rfl⟩
  simp only [↓evPre, ↓evPreV, evPost, evPostV, ← List.map_take, ← List.map_drop, ↓reduceIte, reduceCtorEq, Nat.reduceEqDiff, forall_const, implies_true, Nat.reduceAdd, Nat.reduceSub, Nat.reduceMul, Nat.reduceLT, Nat.reduceLeDiff, Int.reduceToNat, Int.reduceAdd, Int.reduceSub, Int.reduceNeg, Int.reduceMul, Int.reduceLT, Int.reduceLE, Int.reduceEq]
  refine ⟨_, rfl, ?_⟩
  simp only [demLt, decide_eq_true_eq, cmpF]
  split
  · simp; omega
  · split <;> simp <;> omega
end Go.Proofs.Ytoidchljifelgaa
