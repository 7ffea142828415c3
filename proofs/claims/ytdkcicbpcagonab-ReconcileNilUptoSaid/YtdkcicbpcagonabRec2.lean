/- The states of a list, by their coupons. -/
import Derived.Test.YtdkcicbpcagonabRec1
namespace Go.Proofs.Ytdkcicbpcagonab
open Go Go.AL
set_option linter.unusedSimpArgs false
set_option linter.unusedVariables false

def keyV (x : St) : V := .agg [.int .i64 x.t, .int .i64 x.c]
def ent (x : St) : V × V := (keyV x, stV x)
def kdS : KD := .st [.int .i64, .int .i64]
/-- A map of states. -/
def mpS (l : List St) : AL.Obj := ⟨0, some (.mp ⟨.st [.int .i64, .int .i64], l.map ent, .free⟩)⟩
def zeroS : V := .agg [.int .i64 0, .int .i64 0, .int .i64 0, .int .i64 0]

theorem eqKV_key (x y : St) : eqKV (keyV x) (keyV y) = sameS x y := by
  simp [eqKV, keyV, eqKL, eqK1, sameS]
theorem find_ents (x : St) : ∀ (l : List St), findV (keyV x) (l.map ent) = (l.find? (sameS x)).map stV
  | [] => rfl
  | y :: l => by
    rw [List.map_cons, findV, List.find?_cons]
    show (if eqKV (keyV x) (keyV y) = true then _ else _) = _
    rw [eqKV_key]
    cases sameS x y
    · simpa using find_ents x l
    · rfl
theorem put_ents_new (x y : St) (hk : keyV x = keyV y) : ∀ {l : List St}, l.find? (sameS x) = none → putV (keyV x) (stV y) (l.map ent) = (l ++ [y]).map ent := by
  intro l
  induction l with
  | nil => intro _; rw [hk]; rfl
  | cons z l ih =>
    intro h
    rw [List.find?_cons] at h
    split at h
    · cases h
    · rename_i hs
      rw [List.map_cons, putV]
      show (if eqKV (keyV x) (keyV z) = true then _ else _) = _
      rw [eqKV_key, hs, ih h]
      rfl
/-- A state in place of the one of the same coupon. -/
def putS (y : St) : List St → List St
  | [] => [y]
  | z :: l => if sameS y z then y :: l else z :: putS y l
theorem put_ents (y : St) : ∀ (l : List St), putV (keyV y) (stV y) (l.map ent) = (putS y l).map ent
  | [] => rfl
  | z :: l => by
    rw [List.map_cons, putV, putS]
    show (if eqKV (keyV y) (keyV z) = true then _ else _) = _
    rw [eqKV_key]
    cases sameS y z
    · simp only [Bool.false_eq_true, if_false, put_ents y l]; rfl
    · rfl

/-- Of several states of a coupon the first one counts. -/
def addF (acc : List St) (x : St) : List St := if (acc.find? (sameS x)).isSome then acc else acc ++ [x]
def firsts (l : List St) : List St := l.foldl addF []
theorem firsts_take {l : List St} {k : Nat} {x : St} (h : l[k]? = some x) : firsts (l.take (k + 1)) = addF (firsts (l.take k)) x := by
  rw [firsts, List.take_add_one, h, Option.toList_some, List.foldl_append]
  rfl

theorem mpS_keys (l : List St) : KeysK (fun p : Int × Int => V.agg [.int .i64 p.1, .int .i64 p.2]) (l.map ent) := fun p hp => by
  obtain ⟨x, _, rfl⟩ := List.mem_map.1 hp
  exact ⟨⟨(x.t, x.c), rfl⟩, rfl, rfl⟩
theorem objF_mpS {S S1 : Store} {l : List St} {x : MX} (hx : x.isIt = false) : objF S S1 ⟨0, some (.mp ⟨.st [.int .i64, .int .i64], l.map ent, x⟩)⟩ (some (.mp ⟨.st [.int .i64, .int .i64], l.map ent, x⟩)) :=
  objF_map rfl hx (mpS_keys l) fun a => rfl

theorem of_A (l : List St) (S : Store) (hl : l.length < 1000000) : CallA Try.prog 17 [stSl l] S fun r S' => r = .mapv S.length 0 ∧ S' = S ++ [mpS (firsts l)] := by
  refine CallA.withNeat Try.func17 c43 fun hn => ?_
  refine CallA.fin Try.func17 c43 (Nat.le_of_ble_eq_true rfl) fun σ hσ => ?_
  simp (disch := first | omega | (simp only [List.length_cons, List.length_nil, List.length_map, List.length_drop]; omega)) only [a43, stSl, List.length_map, evSt, ↓evPre, ↓evPreW, evPost, evPostW, ← List.map_take, ← List.map_drop, ↓reduceIte, reduceCtorEq, Nat.reduceEqDiff, forall_const, implies_true, Nat.reduceAdd, Nat.reduceSub, Nat.reduceMul, Nat.reduceLT, Nat.reduceLeDiff, Int.reduceToNat, Int.reduceAdd, Int.reduceSub, Int.reduceNeg, Int.reduceMul, Int.reduceLT, Int.reduceLE, Int.reduceEq]
  refine loopF (ι := Nat) (fun k => [(3, .mapv S.length 0), (10, stSl l), (11, .int .i64 l.length), (12, .int .i64 k)]) (fun k => S ++ [mpS (firsts (l.take k))]) (fun k => k ≤ l.length) (fun k => l.length - k) (fun k _ => by rw [hσ]; simp) 0 (Nat.zero_le _) (.inl ⟨?_, ?_⟩) ?_
  · simp only [stSl, ↓evPre, ↓evPreW, evPost, evPostW, ← List.map_take, ← List.map_drop, ↓reduceIte, reduceCtorEq, Nat.reduceEqDiff, forall_const, implies_true, Nat.reduceAdd, Nat.reduceSub, Nat.reduceMul, Nat.reduceLT, Nat.reduceLeDiff, Int.reduceToNat, Int.reduceAdd, Int.reduceSub, Int.reduceNeg, Int.reduceMul, Int.reduceLT, Int.reduceLE, Int.reduceEq]
  · rfl
  · intro k hk
    cases hc : l[k]? with
    | none =>
      have hge : l.length ≤ k := List.getElem?_eq_none_iff.1 hc
      have hlt : ¬ ((k : Int) < l.length) := by omega
      have e : k = l.length := by omega
      subst e
      simp (disch := first | omega | (simp only [List.length_cons, List.length_nil, List.length_map, List.length_drop]; omega)) only [stSl, mpS, hlt, decide_false, evSt, ↓evPre, ↓evPreW, evPost, evPostW, ← List.map_take, ← List.map_drop, ↓reduceIte, reduceCtorEq, Nat.reduceEqDiff, forall_const, implies_true, Nat.reduceAdd, Nat.reduceSub, Nat.reduceMul, Nat.reduceLT, Nat.reduceLeDiff, Int.reduceToNat, Int.reduceAdd, Int.reduceSub, Int.reduceNeg, Int.reduceMul, Int.reduceLT, Int.reduceLE, Int.reduceEq]
      rw [List.take_length]
      exact ⟨_, S ++ [mpS (firsts l)], hn.fgtL (L1 := [mpS (firsts l)]) ⟨rfl, objF_mpS rfl, trivial⟩, .same (.inl (by simp [V.under])), by simp, rfl, rfl⟩
    | some x =>
      have hlt' := (List.getElem?_eq_some_iff.1 hc).1
      have hlt : (k : Int) < l.length := by omega
      have hf := find_ents x (firsts (l.take k))
      have hnx := firsts_take hc
      unfold addF at hnx
      unfold keyV at hf
      have hE : ∀ (E : Env), sub [(3, .mapv S.length 0), (10, stSl l), (11, .int .i64 l.length), (12, .int .i64 ((k + 1 : Nat) : Int))] E → ∀ (T : Store) (m : List St), m = firsts (l.take (k + 1)) → ∃ k', k' ≤ l.length ∧ l.length - k' < l.length - k ∧
          Back [(3, .mapv S.length 0), (10, stSl l), (11, .int .i64 l.length), (12, .int .i64 ((k' : Nat) : Int))] (S ++ [mpS (firsts (l.take k'))]) E (S ++ mpS m :: T) := by
        intro E hs T m hm
        subst hm
        exact ⟨k + 1, by omega, by omega, back_under (hn.fgtL (L := mpS (firsts (l.take (k + 1))) :: T) (L1 := [mpS (firsts (l.take (k + 1)))]) ⟨rfl, objF_mpS rfl, fgtL_nil⟩) hs (by simp [V.under, stSl])⟩
      cases hg : (firsts (l.take k)).find? (sameS x) with
      | some y =>
        rw [hg] at hf hnx
        simp (disch := first | omega | (simp only [List.length_cons, List.length_nil, List.length_map, List.length_drop]; omega)) only [stSl, mpS, stV, stR, hlt, hc, hf, wrap_i64, List.getElem?_map, Option.map_some, Option.getD_some, Option.isSome_some, decide_true, evSt, ↓evPre, ↓evPreW, evPost, evPostW, ← List.map_take, ← List.map_drop, ↓reduceIte, reduceCtorEq, Nat.reduceEqDiff, forall_const, implies_true, Nat.reduceAdd, Nat.reduceSub, Nat.reduceMul, Nat.reduceLT, Nat.reduceLeDiff, Int.reduceToNat, Int.reduceAdd, Int.reduceSub, Int.reduceNeg, Int.reduceMul, Int.reduceLT, Int.reduceLE, Int.reduceEq]
        exact hE _ ⟨rfl, rfl, rfl, rfl, trivial⟩ _ _ (by rw [hnx]; rfl)
      | none =>
        rw [hg] at hf hnx
        have hp := put_ents_new x x rfl hg
        unfold keyV stV stR at hp
        simp (disch := first | omega | (simp only [List.length_cons, List.length_nil, List.length_map, List.length_drop]; omega)) only [stSl, mpS, stV, stR, hlt, hc, hf, hp, wrap_i64, List.getElem?_map, Option.map_some, Option.map_none, Option.getD_none, Option.isSome_none, decide_true, evSt, ↓evPre, ↓evPreW, evPost, evPostW, ← List.map_take, ← List.map_drop, ↓reduceIte, reduceCtorEq, Nat.reduceEqDiff, forall_const, implies_true, Nat.reduceAdd, Nat.reduceSub, Nat.reduceMul, Nat.reduceLT, Nat.reduceLeDiff, Int.reduceToNat, Int.reduceAdd, Int.reduceSub, Int.reduceNeg, Int.reduceMul, Int.reduceLT, Int.reduceLE, Int.reduceEq]
        exact hE _ ⟨rfl, rfl, rfl, rfl, trivial⟩ _ _ (by rw [hnx]; rfl)
end Go.Proofs.Ytdkcicbpcagonab
