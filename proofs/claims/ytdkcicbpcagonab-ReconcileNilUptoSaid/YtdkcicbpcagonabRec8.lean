/- A list that grows. -/
import Derived.Test.YtdkcicbpcagonabRec7
namespace Go.Proofs.Ytdkcicbpcagonab
open Go Go.AL
set_option linter.unusedSimpArgs false
set_option linter.unusedVariables false

/-- The store at a loop's head: the list alone. -/
def liStore (S : Store) (out : List St) (v : Nat) : Store := S ++ [⟨v, some (.arr 27 4 (out.map stR))⟩]
theorem li_back {S : Store} (hn : Neat S) {out : List St} {v : Nat} {E E1 : Env} {T : Store} {R : List (List V)} (hE : sub E1 E) (hu : (E1.all fun p => p.2.under (S.length + 1)) = true) (hR : R = out.map stR) :
    Back E1 (liStore S out v) E (S ++ ⟨v, some (.arr 27 4 R)⟩ :: T) := by
  subst hR
  exact back_under (hn.fgtL (L1 := [⟨v, some (.arr 27 4 (out.map stR))⟩]) (L := ⟨v, some (.arr 27 4 (out.map stR))⟩ :: T) ⟨rfl, ⟨_, rfl, .imm (stR_imm _)⟩, fgtL_nil⟩) hE (by simpa [liStore] using hu)
theorem li_fin {S : Store} (hn : Neat S) {out : List St} {v n : Nat} {R : V → Store → Prop} {T : Store} (hl : n = out.length) (h : R (stSl out) S) : ∃ r1 S1, Fgt (S ++ ⟨v, some (.arr 27 4 (out.map stR))⟩ :: T) S1 ∧ Frz (S ++ ⟨v, some (.arr 27 4 (out.map stR))⟩ :: T) S1 (.msl S.length v 0 n) r1 ∧ S.length ≤ S1.length ∧ R r1 S1 := by
  subst hl
  exact ⟨stSl out, S, hn.fgt _, .sl (t := 27) (Nat.le_refl _) (by simp (disch := first | omega | (simp only [List.length_cons, List.length_nil, List.length_map, List.length_drop]; omega)) only [evSt, ↓evPre, ↓evPreW, evPost, evPostW, ← List.map_take, ← List.map_drop, ↓reduceIte, reduceCtorEq, Nat.reduceEqDiff, forall_const, implies_true, Nat.reduceAdd, Nat.reduceSub, Nat.reduceMul, Nat.reduceLT, Nat.reduceLeDiff, Int.reduceToNat, Int.reduceAdd, Int.reduceSub, Int.reduceNeg, Int.reduceMul, Int.reduceLT, Int.reduceLE, Int.reduceEq]) (by simp) (stR_imm _), Nat.le_refl _, h⟩

end Go.Proofs.Ytdkcicbpcagonab
