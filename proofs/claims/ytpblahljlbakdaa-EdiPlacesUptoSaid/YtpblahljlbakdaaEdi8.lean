/- What is read, byte by byte. -/
import Derived.Test.YtpblahljlbakdaaEdi7
namespace Go.Proofs.Ytpblahljlbakdaa
open Go Go.AL
set_option linter.unusedSimpArgs false

/-! ### The part of a message at a place -/
def partV : Option (Bool × UInt8) → V
  | none => .nilIface
  | some (true, c) => .iface 78 (.int .u8 c.toNat)
  | some (false, c) => .iface 76 (.int .u8 c.toNat)
/-- (what: some (is it a mark, the byte), or none; how many bytes) -/
def nextF (c : UInt8) (r : Option UInt8) : Option (Bool × UInt8) × Nat :=
  if c.toNat = 63 then
    match r with
    | none => (none, 1)
    | some d => if specC d then (some (false, d), 2) else (none, 1)
  else if oddC c then (none, 0)
  else if specC c then (some (true, c), 1)
  else (some (false, c), 1)

theorem next_A (s : Txt) (k : Nat) (c : UInt8) (S : Store) (hs : s.length ≤ 1048576) (hc : s[k]? = some c) : CallA Try.prog 47 [.str s, .int .i64 k] S fun r S' => r = .tup [partV (nextF c s[k + 1]?).1, .int .i64 (nextF c s[k + 1]?).2] ∧ S' = S := by
  refine CallA.keep Try.func47 c47 (Nat.le_of_ble_eq_true rfl) fun σ hσ => ?_
  have hlt := (List.getElem?_eq_some_iff.1 hc).1
  by_cases h63 : (c.toNat : Int) = 63
  · have h63' : c.toNat = 63 := by omega
    cases hd : s[k + 1]? with
    | none =>
      have hkl : (k : Int) + 1 = s.length := by have := List.getElem?_eq_none_iff.1 hd; omega
      have hn : nextF c none = (none, 1) := by simp only [nextF, h63', if_true]
      simp (disch := first | omega | (simp only [List.length_cons, List.length_nil, List.length_map, List.length_drop]; omega)) only [a47, hc, h63, hkl, wrap_i64, decide_true, hn, partV, ↓evPre, ↓evPreW, evPost, evPostW, ← List.map_take, ← List.map_drop, ↓reduceIte, reduceCtorEq, Nat.reduceEqDiff, forall_const, implies_true, Nat.reduceAdd, Nat.reduceSub, Nat.reduceMul, Nat.reduceLT, Nat.reduceLeDiff, Int.reduceToNat, Int.reduceAdd, Int.reduceSub, Int.reduceNeg, Int.reduceMul, Int.reduceLT, Int.reduceLE, Int.reduceEq]
    | some d =>
      have hlt2 := (List.getElem?_eq_some_iff.1 hd).1
      have hkl : ¬ (k : Int) + 1 = s.length := by omega
      have e1 : ((k : Int) + 1).toNat = k + 1 := by omega
      simp (disch := first | omega | (simp only [List.length_cons, List.length_nil, List.length_map, List.length_drop]; omega)) only [a47, hc, hd, e1, h63, hkl, wrap_i64, decide_true, decide_false, ↓evPre, ↓evPreW, evPost, evPostW, ← List.map_take, ← List.map_drop, ↓reduceIte, reduceCtorEq, Nat.reduceEqDiff, forall_const, implies_true, Nat.reduceAdd, Nat.reduceSub, Nat.reduceMul, Nat.reduceLT, Nat.reduceLeDiff, Int.reduceToNat, Int.reduceAdd, Int.reduceSub, Int.reduceNeg, Int.reduceMul, Int.reduceLT, Int.reduceLE, Int.reduceEq]
      refine (index_A d S).then ?_
      by_cases hsp : 0 ≤ Lib.indexByte sp d
      · have hs2 : specC d = true := (spec_pos d).1 hsp
        have hn : nextF c (some d) = (some (false, d), 2) := by simp only [nextF, h63', if_true, hs2]
        have hlt0 : ¬ Lib.indexByte sp d < 0 := by omega
        simp (disch := first | omega | (simp only [List.length_cons, List.length_nil, List.length_map, List.length_drop]; omega)) only [hc, hd, e1, h63, hkl, hlt0, wrap_i64, decide_true, decide_false, hn, partV, ↓evPre, ↓evPreW, evPost, evPostW, ← List.map_take, ← List.map_drop, ↓reduceIte, reduceCtorEq, Nat.reduceEqDiff, forall_const, implies_true, Nat.reduceAdd, Nat.reduceSub, Nat.reduceMul, Nat.reduceLT, Nat.reduceLeDiff, Int.reduceToNat, Int.reduceAdd, Int.reduceSub, Int.reduceNeg, Int.reduceMul, Int.reduceLT, Int.reduceLE, Int.reduceEq]
        rfl
      · have hs2 : specC d = false := by rw [← Bool.not_eq_true]; exact fun h => hsp ((spec_pos d).2 h)
        have hn : nextF c (some d) = (none, 1) := by simp only [nextF, h63', if_true, hs2]; rfl
        have hlt0 : Lib.indexByte sp d < 0 := by omega
        simp (disch := first | omega | (simp only [List.length_cons, List.length_nil, List.length_map, List.length_drop]; omega)) only [hc, hd, e1, h63, hkl, hlt0, wrap_i64, decide_true, decide_false, hn, partV, ↓evPre, ↓evPreW, evPost, evPostW, ← List.map_take, ← List.map_drop, ↓reduceIte, reduceCtorEq, Nat.reduceEqDiff, forall_const, implies_true, Nat.reduceAdd, Nat.reduceSub, Nat.reduceMul, Nat.reduceLT, Nat.reduceLeDiff, Int.reduceToNat, Int.reduceAdd, Int.reduceSub, Int.reduceNeg, Int.reduceMul, Int.reduceLT, Int.reduceLE, Int.reduceEq]
  · have h63' : ¬ c.toNat = 63 := by omega
    by_cases h1 : (c.toNat : Int) < 32
    · have ho : oddC c = true := by simp [oddC]; omega
      have hn : ∀ r, nextF c r = (none, 0) := fun r => by simp only [nextF, h63', if_false, ho, if_true]
      simp (disch := first | omega | (simp only [List.length_cons, List.length_nil, List.length_map, List.length_drop]; omega)) only [a47, hc, h63, h1, wrap_i64, decide_true, decide_false, hn, partV, ↓evPre, ↓evPreW, evPost, evPostW, ← List.map_take, ← List.map_drop, ↓reduceIte, reduceCtorEq, Nat.reduceEqDiff, forall_const, implies_true, Nat.reduceAdd, Nat.reduceSub, Nat.reduceMul, Nat.reduceLT, Nat.reduceLeDiff, Int.reduceToNat, Int.reduceAdd, Int.reduceSub, Int.reduceNeg, Int.reduceMul, Int.reduceLT, Int.reduceLE, Int.reduceEq]
    · by_cases h2 : 126 < (c.toNat : Int)
      · have ho : oddC c = true := by simp [oddC]; omega
        have hn : ∀ r, nextF c r = (none, 0) := fun r => by simp only [nextF, h63', if_false, ho, if_true]
        simp (disch := first | omega | (simp only [List.length_cons, List.length_nil, List.length_map, List.length_drop]; omega)) only [a47, hc, h63, h1, h2, wrap_i64, decide_true, decide_false, hn, partV, ↓evPre, ↓evPreW, evPost, evPostW, ← List.map_take, ← List.map_drop, ↓reduceIte, reduceCtorEq, Nat.reduceEqDiff, forall_const, implies_true, Nat.reduceAdd, Nat.reduceSub, Nat.reduceMul, Nat.reduceLT, Nat.reduceLeDiff, Int.reduceToNat, Int.reduceAdd, Int.reduceSub, Int.reduceNeg, Int.reduceMul, Int.reduceLT, Int.reduceLE, Int.reduceEq]
      · have ho : oddC c = false := by simp [oddC]; omega
        simp (disch := first | omega | (simp only [List.length_cons, List.length_nil, List.length_map, List.length_drop]; omega)) only [a47, hc, h63, h1, h2, wrap_i64, decide_true, decide_false, ↓evPre, ↓evPreW, evPost, evPostW, ← List.map_take, ← List.map_drop, ↓reduceIte, reduceCtorEq, Nat.reduceEqDiff, forall_const, implies_true, Nat.reduceAdd, Nat.reduceSub, Nat.reduceMul, Nat.reduceLT, Nat.reduceLeDiff, Int.reduceToNat, Int.reduceAdd, Int.reduceSub, Int.reduceNeg, Int.reduceMul, Int.reduceLT, Int.reduceLE, Int.reduceEq]
        refine (index_A c S).then ?_
        by_cases hsp : 0 ≤ Lib.indexByte sp c
        · have hs2 : specC c = true := (spec_pos c).1 hsp
          have hn : ∀ r, nextF c r = (some (true, c), 1) := fun r => by simp only [nextF, h63', if_false, ho, hs2, if_true]; rfl
          simp (disch := first | omega | (simp only [List.length_cons, List.length_nil, List.length_map, List.length_drop]; omega)) only [hc, hsp, wrap_i64, decide_true, decide_false, hn, partV, ↓evPre, ↓evPreW, evPost, evPostW, ← List.map_take, ← List.map_drop, ↓reduceIte, reduceCtorEq, Nat.reduceEqDiff, forall_const, implies_true, Nat.reduceAdd, Nat.reduceSub, Nat.reduceMul, Nat.reduceLT, Nat.reduceLeDiff, Int.reduceToNat, Int.reduceAdd, Int.reduceSub, Int.reduceNeg, Int.reduceMul, Int.reduceLT, Int.reduceLE, Int.reduceEq]
        · have hs2 : specC c = false := by rw [← Bool.not_eq_true]; exact fun h => hsp ((spec_pos c).2 h)
          have hn : ∀ r, nextF c r = (some (false, c), 1) := fun r => by simp only [nextF, h63', if_false, ho, hs2]; rfl
          simp (disch := first | omega | (simp only [List.length_cons, List.length_nil, List.length_map, List.length_drop]; omega)) only [hc, hsp, wrap_i64, decide_true, decide_false, hn, partV, ↓evPre, ↓evPreW, evPost, evPostW, ← List.map_take, ← List.map_drop, ↓reduceIte, reduceCtorEq, Nat.reduceEqDiff, forall_const, implies_true, Nat.reduceAdd, Nat.reduceSub, Nat.reduceMul, Nat.reduceLT, Nat.reduceLeDiff, Int.reduceToNat, Int.reduceAdd, Int.reduceSub, Int.reduceNeg, Int.reduceMul, Int.reduceLT, Int.reduceLE, Int.reduceEq]
/-! ### The rest of a line, byte by byte -/
/-- What a line's elements are, from a place on at which 'els' are finished and the one that is under way has 'comps' and the bytes 'text' (none: no element has begun); and how many bytes were read. -/
def mach : List (List Txt) → Option (List Txt × Txt) → Txt → Option (List (List Txt)) × Nat
  | _, _, [] => (none, 0)
  | els, cur, c :: r =>
    if c.toNat = 63 then
      match r with
      | [] => (none, if cur.isSome then 1 else 0)
      | d :: r' => match cur with
        | none => (none, 0)
        | some (comps, text) => if specC d then ((mach els (some (comps, text ++ [d])) r').1, (mach els (some (comps, text ++ [d])) r').2 + 2) else (none, 1)
    else if oddC c then (none, 0)
    else if specC c then
      match cur with
      | none => if c.toNat = 58 then (none, 0) else if c.toNat = 43 then ((mach els (some ([], [])) r).1, (mach els (some ([], [])) r).2 + 1) else (some els, 1)
      | some (comps, text) =>
        if c.toNat = 58 then ((mach els (some (comps ++ [text], [])) r).1, (mach els (some (comps ++ [text], [])) r).2 + 1)
        else if c.toNat = 43 then ((mach (els ++ [comps ++ [text]]) (some ([], [])) r).1, (mach (els ++ [comps ++ [text]]) (some ([], [])) r).2 + 1)
        else (some (els ++ [comps ++ [text]]), 1)
    else
      match cur with
      | none => (none, 0)
      | some (comps, text) => ((mach els (some (comps, text ++ [c])) r).1, (mach els (some (comps, text ++ [c])) r).2 + 1)
termination_by _ _ l => l.length

/-- How many of the first three bytes are capital letters. -/
def tagN : Nat → Txt → Nat
  | 0, _ => 0
  | _, [] => 0
  | n + 1, c :: r => if upC c then tagN n r + 1 else 0

/-- Lines, from a place on; none: at which place it cannot be read on. -/
def parseF : Nat → List Ln → Txt → Nat → Option (List Ln) × Nat
  | 0, ls, _, at' => (some ls, at')
  | _, ls, [], at' => (some ls, at')
  | n + 1, ls, l, at' =>
    if tagN 3 l < 3 then (none, at' + tagN 3 l) else
    match mach [] none (l.drop 3) with
    | (none, m) => (none, at' + 3 + m)
    | (some els, m) => parseF n (ls ++ [⟨l.take 3, els⟩]) (l.drop (3 + m)) (at' + 3 + m)
end Go.Proofs.Ytpblahljlbakdaa
