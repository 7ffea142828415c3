/- Lines as text: the reference. -/
import Derived.Test.YtpblahljlbakdaaEdi5
namespace Go.Proofs.Ytpblahljlbakdaa
open Go Go.AL
set_option linter.unusedSimpArgs false

def relC (c : UInt8) : Txt := if specC c then [63, c] else [c]
def rel (s : Txt) : Txt := s.flatMap relC
def sepC (k : Nat) : UInt8 := if k = 0 then 43 else 58
def outE : Nat → List Txt → Txt
  | _, [] => []
  | k, c :: r => sepC k :: rel c ++ outE (k + 1) r
def outX (x : Ln) : Txt := x.tag ++ x.els.flatMap (outE 0) ++ [39]
def outL (l : List Ln) : Txt := l.flatMap outX

theorem flat_take {α : Type} {f : α → Txt} {l : List α} {k : Nat} {x : α} (h : l[k]? = some x) : (l.take (k + 1)).flatMap f = (l.take k).flatMap f ++ f x := by
  rw [List.take_add_one, h]; simp
theorem outE_take : ∀ (e : List Txt) (j k : Nat) (c : Txt), e[k]? = some c → outE j (e.take (k + 1)) = outE j (e.take k) ++ sepC (j + k) :: rel c
  | [], j, k, c, h => by simp at h
  | d :: e, j, 0, c, h => by simp at h; subst h; simp [outE]
  | d :: e, j, k + 1, c, h => by
    have := outE_take e (j + 1) k c (by simpa using h)
    simp only [List.take_succ_cons, outE, this]
    rw [show j + 1 + k = j + (k + 1) by omega]
    simp
theorem relC_len (c : UInt8) : (relC c).length ≤ 2 := by unfold relC; split <;> simp
theorem rel_len : ∀ (s : Txt), (rel s).length ≤ 2 * s.length
  | [] => by simp [rel]
  | c :: s => by
    have h1 := rel_len s
    have h2 := relC_len c
    simp only [rel, List.flatMap_cons, List.length_append, List.length_cons] at *
    omega
theorem rel_take_le (s : Txt) (k : Nat) : (rel (s.take k)).length ≤ 2 * s.length := by
  have := rel_len (s.take k)
  have h2 : (s.take k).length ≤ s.length := by simp; omega
  omega
theorem byteRows_app (l m : List UInt8) : byteRows (l ++ m) = byteRows l ++ byteRows m := by simp [byteRows]
theorem byteRows_len (l : List UInt8) : (byteRows l).length = l.length := by simp [byteRows]
theorem byteRows_snoc (l : List UInt8) (c : UInt8) : byteRows l ++ [[V.int .u8 (c.toNat : Int)]] = byteRows (l ++ [c]) := by simp [byteRows]
theorem byteRows_snoc63 (l : List UInt8) : byteRows l ++ [[V.int .u8 63]] = byteRows (l ++ [63]) := by rw [byteRows_app]; rfl

theorem release_A (s : Txt) (S : Store) (hs : s.length ≤ 1048576) : CallA Try.prog 42 [.str s] S fun r S' => r = .str (rel s) ∧ S' = S := by
  refine CallA.back Try.func42 c42 (Nat.le_of_ble_eq_true rfl) fun σ hσ hn => ?_
  simp only [a42, evSt, ↓evPre, ↓evPreW, evPost, evPostW, ← List.map_take, ← List.map_drop, ↓reduceIte, reduceCtorEq, Nat.reduceEqDiff, forall_const, implies_true, Nat.reduceAdd, Nat.reduceSub, Nat.reduceMul, Nat.reduceLT, Nat.reduceLeDiff, Int.reduceToNat, Int.reduceAdd, Int.reduceSub, Int.reduceNeg, Int.reduceMul, Int.reduceLT, Int.reduceLE, Int.reduceEq]
  refine LoopA.ghost 3 0 5 1 (by simp only [↓evPre, ↓evPreW, evPost, evPostW, ← List.map_take, ← List.map_drop, ↓reduceIte, reduceCtorEq, Nat.reduceEqDiff, forall_const, implies_true, Nat.reduceAdd, Nat.reduceSub, Nat.reduceMul, Nat.reduceLT, Nat.reduceLeDiff, Int.reduceToNat, Int.reduceAdd, Int.reduceSub, Int.reduceNeg, Int.reduceMul, Int.reduceLT, Int.reduceLE, Int.reduceEq]) ?_
  refine loopA (ι := Nat × Txt) (fun k => [(0, .str s), (3, .msl S.length k.2.length 0 k.2.length), (4, .int .i64 k.1)]) (fun k => S ++ [⟨k.2.length, some (.arr 5 1 (byteRows k.2))⟩]) (fun k => k.1 ≤ s.length ∧ k.2 = rel (s.take k.1)) (fun k => s.length - k.1) (0, []) ⟨Nat.zero_le _, by simp [rel]⟩ ?_ (by simp [byteRows]) ?_
  · simp only [↓evPre, ↓evPreW, evPost, evPostW, ← List.map_take, ← List.map_drop, ↓reduceIte, reduceCtorEq, Nat.reduceEqDiff, forall_const, implies_true, Nat.reduceAdd, Nat.reduceSub, Nat.reduceMul, Nat.reduceLT, Nat.reduceLeDiff, Int.reduceToNat, Int.reduceAdd, Int.reduceSub, Int.reduceNeg, Int.reduceMul, Int.reduceLT, Int.reduceLE, Int.reduceEq]
  · rintro ⟨k, t⟩ ⟨hk, ht⟩
    simp only at hk ht ⊢
    have htl : t.length ≤ 2 * s.length := by rw [ht]; exact rel_take_le s k
    cases hc : s[k]? with
    | none =>
      have hkl : k = s.length := by have := List.getElem?_eq_none_iff.1 hc; omega
      have hlt : ¬ ((k : Int) < s.length) := by omega
      rw [hkl, List.take_length] at ht
      simp (disch := first | omega | (simp only [List.length_cons, List.length_nil, List.length_map, List.length_drop]; omega)) only [hlt, wrap_i64, ob_app, ob_app0, ob_cons, ob_head, b2s_msl, b2sO_some, evSt, ↓evPre, ↓evPreW, evPost, evPostW, ← List.map_take, ← List.map_drop, ↓reduceIte, reduceCtorEq, Nat.reduceEqDiff, forall_const, implies_true, Nat.reduceAdd, Nat.reduceSub, Nat.reduceMul, Nat.reduceLT, Nat.reduceLeDiff, Int.reduceToNat, Int.reduceAdd, Int.reduceSub, Int.reduceNeg, Int.reduceMul, Int.reduceLT, Int.reduceLE, Int.reduceEq]
      exact ⟨_, ⟨_, rfl⟩, .imm rfl, by rw [ht]⟩
    | some c =>
      have hlt : ((k : Int) < s.length) := by have := (List.getElem?_eq_some_iff.1 hc).1; omega
      have hnext : t ++ relC c = rel (s.take (k + 1)) := by rw [ht, rel, rel, flat_take hc]
      simp (disch := first | omega | (simp only [List.length_cons, List.length_nil, List.length_map, List.length_drop]; omega)) only [hlt, hc, wrap_i64, evSt, ↓evPre, ↓evPreW, evPost, evPostW, ← List.map_take, ← List.map_drop, ↓reduceIte, reduceCtorEq, Nat.reduceEqDiff, forall_const, implies_true, Nat.reduceAdd, Nat.reduceSub, Nat.reduceMul, Nat.reduceLT, Nat.reduceLeDiff, Int.reduceToNat, Int.reduceAdd, Int.reduceSub, Int.reduceNeg, Int.reduceMul, Int.reduceLT, Int.reduceLE, Int.reduceEq]
      refine (special_A c _).then ?_
      cases hsp : specC c
      · have hr : relC c = [c] := by simp [relC, hsp]
        rw [hr] at hnext
        simp (disch := first | omega | (simp only [List.length_cons, List.length_nil, List.length_map, List.length_drop]; omega)) only [hlt, hc, wrap_i64, byteRows_len, byteRows_snoc, evSt, ↓evPre, ↓evPreW, evPost, evPostW, ← List.map_take, ← List.map_drop, ↓reduceIte, reduceCtorEq, Nat.reduceEqDiff, forall_const, implies_true, Nat.reduceAdd, Nat.reduceSub, Nat.reduceMul, Nat.reduceLT, Nat.reduceLeDiff, Int.reduceToNat, Int.reduceAdd, Int.reduceSub, Int.reduceNeg, Int.reduceMul, Int.reduceLT, Int.reduceLE, Int.reduceEq]
        refine ⟨by unfold roomA; omega, (k + 1, t ++ [c]), ⟨by simp only; omega, hnext⟩, by simp only; omega, by simp, by simp⟩
      · have hr : relC c = [63, c] := by simp [relC, hsp]
        rw [hr] at hnext
        simp (disch := first | omega | (simp only [List.length_cons, List.length_nil, List.length_map, List.length_drop]; omega)) only [hlt, hc, wrap_i64, byteRows_len, byteRows_snoc, byteRows_snoc63, List.length_append, List.length_cons, List.length_nil, evSt, ↓evPre, ↓evPreW, evPost, evPostW, ← List.map_take, ← List.map_drop, ↓reduceIte, reduceCtorEq, Nat.reduceEqDiff, forall_const, implies_true, Nat.reduceAdd, Nat.reduceSub, Nat.reduceMul, Nat.reduceLT, Nat.reduceLeDiff, Int.reduceToNat, Int.reduceAdd, Int.reduceSub, Int.reduceNeg, Int.reduceMul, Int.reduceLT, Int.reduceLE, Int.reduceEq]
        refine ⟨by unfold roomA; omega, by unfold roomA; omega, (k + 1, t ++ [63, c]), ⟨by simp only; omega, hnext⟩, by simp only; omega, by simp, by simp⟩

theorem add_ok {a b : List UInt8} (h : a.length + b.length ≤ 8000000) : binV .add (.str a) (.str b) = some (.str (a ++ b)) := bs_add (by unfold maxLen; omega)

theorem flat_len {α : Type} (f : α → Txt) : ∀ (l : List α), (l.flatMap f).length = (l.map fun x => (f x).length).sum
  | [] => rfl
  | x :: l => by simp only [List.flatMap_cons, List.length_append, List.map_cons, List.sum_cons, flat_len f l]
theorem outE_len : ∀ (e : List Txt) (j : Nat), (outE j e).length ≤ 2 * szE e
  | [], j => by simp [outE]
  | c :: e, j => by
    have h1 := outE_len e (j + 1)
    have h2 := rel_len c
    simp only [outE, szE, List.length_append, List.length_cons, List.map_cons, List.sum_cons] at *
    omega
theorem sum_le {α : Type} {f g : α → Nat} (h : ∀ x, f x ≤ g x) : ∀ (l : List α), (l.map f).sum ≤ (l.map g).sum
  | [] => Nat.le_refl _
  | x :: l => by
    have := sum_le h l
    have := h x
    simp only [List.map_cons, List.sum_cons]
    omega
theorem sum_two {α : Type} (g : α → Nat) : ∀ (l : List α), (l.map fun x => 2 * g x).sum = 2 * (l.map g).sum
  | [] => rfl
  | x :: l => by
    have := sum_two g l
    simp only [List.map_cons, List.sum_cons]
    omega
theorem outEs_len (l : List (List Txt)) : (l.flatMap (outE 0)).length ≤ 2 * (l.map szE).sum := by
  rw [flat_len, ← sum_two]
  exact sum_le (fun e => outE_len e 0) l
theorem outX_len (x : Ln) : (outX x).length ≤ 2 * szX x + 1 := by
  have := outEs_len x.els
  simp only [outX, szX, List.length_append, List.length_cons, List.length_nil]
  omega
theorem sum_take_mono {α : Type} (f : α → Nat) (l : List α) (k : Nat) : ((l.take k).map f).sum ≤ (l.map f).sum := by
  have h2 : (l.map f).sum = ((l.take k).map f).sum + ((l.drop k).map f).sum := by rw [← List.sum_append_nat, ← List.map_append, List.take_append_drop]
  omega

theorem fitE_of {e : List Txt} (h : szE e ≤ 1048576) : FitE e := by
  unfold szE at h
  refine ⟨by omega, fun c hc => ?_⟩
  have := sum_mem_le List.length hc
  omega
theorem fitX_of {x : Ln} (h : szX x ≤ 1048576) : FitX x := by
  unfold szX at h
  refine ⟨by omega, by omega, fun e he => fitE_of ?_⟩
  have := sum_mem_le szE he
  omega
theorem fitL_of {l : List Ln} (h : szL l ≤ 1048576) : FitL l := by
  unfold szL at h
  refine ⟨by omega, fun x hx => fitX_of ?_⟩
  have := sum_mem_le szX hx
  omega

theorem refLine_A (x : Ln) (S : Store) (hsz : szX x ≤ 1048576) : CallA Try.prog 25 [.agg (lnR x)] S fun r S' => r = .str (outX x) ∧ S' = S := by
  refine CallA.keep Try.func25 c25 (Nat.le_of_ble_eq_true rfl) fun σ hσ => ?_
  obtain ⟨hx1, hx2, hx3⟩ := fitX_of hsz
  have hX : szX x = x.tag.length + x.els.length + (x.els.map szE).sum := rfl
  simp (disch := first | omega | (simp only [List.length_cons, List.length_nil, List.length_map, List.length_drop]; omega)) only [a25, lnR, elV, ↓evPre, ↓evPreW, evPost, evPostW, ← List.map_take, ← List.map_drop, ↓reduceIte, reduceCtorEq, Nat.reduceEqDiff, forall_const, implies_true, Nat.reduceAdd, Nat.reduceSub, Nat.reduceMul, Nat.reduceLT, Nat.reduceLeDiff, Int.reduceToNat, Int.reduceAdd, Int.reduceSub, Int.reduceNeg, Int.reduceMul, Int.reduceLT, Int.reduceLE, Int.reduceEq]
  refine loopA (ι := Nat × Txt) (fun k => [(1, .cptr [.str x.tag, .sl 1 (x.els.map elR)]), (3, .str k.2), (4, .int .i64 k.1)]) (fun _ => S) (fun k => k.1 ≤ x.els.length ∧ k.2 = x.tag ++ (x.els.take k.1).flatMap (outE 0)) (fun k => x.els.length - k.1) (0, x.tag) ⟨Nat.zero_le _, by simp⟩ ?_ rfl ?_
  · simp only [↓evPre, ↓evPreW, evPost, evPostW, ← List.map_take, ← List.map_drop, ↓reduceIte, reduceCtorEq, Nat.reduceEqDiff, forall_const, implies_true, Nat.reduceAdd, Nat.reduceSub, Nat.reduceMul, Nat.reduceLT, Nat.reduceLeDiff, Int.reduceToNat, Int.reduceAdd, Int.reduceSub, Int.reduceNeg, Int.reduceMul, Int.reduceLT, Int.reduceLE, Int.reduceEq]
  · rintro ⟨k, s⟩ ⟨hk, hs⟩
    simp only at hk hs ⊢
    have h1 := outEs_len (x.els.take k)
    have h2 := sum_take_mono szE x.els k
    have hsl : s.length ≤ 2 * szX x := by rw [hs, List.length_append]; omega
    cases he : x.els[k]? with
    | none =>
      have hkl : k = x.els.length := by have := List.getElem?_eq_none_iff.1 he; omega
      have hlt : ¬ ((k : Int) < x.els.length) := by omega
      rw [hkl, List.take_length] at hs
      have hadd : binV .add (.str s) (.str [39]) = some (.str (outX x)) := by rw [add_ok (by simp only [List.length_cons, List.length_nil]; omega), hs]; rfl
      simp (disch := first | omega | (simp only [List.length_cons, List.length_nil, List.length_map, List.length_drop]; omega)) only [hlt, wrap_i64, hadd, ↓evPre, ↓evPreW, evPost, evPostW, ← List.map_take, ← List.map_drop, ↓reduceIte, reduceCtorEq, Nat.reduceEqDiff, forall_const, implies_true, Nat.reduceAdd, Nat.reduceSub, Nat.reduceMul, Nat.reduceLT, Nat.reduceLeDiff, Int.reduceToNat, Int.reduceAdd, Int.reduceSub, Int.reduceNeg, Int.reduceMul, Int.reduceLT, Int.reduceLE, Int.reduceEq]
    | some e =>
      have hlt : ((k : Int) < x.els.length) := by have := (List.getElem?_eq_some_iff.1 he).1; omega
      obtain ⟨he1, he2⟩ := hx3 e (List.mem_of_getElem? he)
      have h3 := sum_take_le szE he
      have hE : szE e = e.length + (e.map List.length).sum := rfl
      have hs1 : s.length ≤ x.tag.length + 2 * ((x.els.take k).map szE).sum := by rw [hs, List.length_append]; omega
      simp (disch := first | omega | (simp only [List.length_cons, List.length_nil, List.length_map, List.length_drop]; omega)) only [hlt, wrap_i64, ↓evPre, ↓evPreW, evPost, evPostW, ← List.map_take, ← List.map_drop, ↓reduceIte, reduceCtorEq, Nat.reduceEqDiff, forall_const, implies_true, Nat.reduceAdd, Nat.reduceSub, Nat.reduceMul, Nat.reduceLT, Nat.reduceLeDiff, Int.reduceToNat, Int.reduceAdd, Int.reduceSub, Int.reduceNeg, Int.reduceMul, Int.reduceLT, Int.reduceLE, Int.reduceEq]
      refine loopA (ι := Nat × Txt) (fun i => [(1, .cptr [.str x.tag, .sl 1 (x.els.map elR)]), (3, .str i.2), (4, .int .i64 k), (5, .int .i64 i.1)]) (fun _ => S) (fun i => i.1 ≤ e.length ∧ i.2 = s ++ outE 0 (e.take i.1)) (fun i => e.length - i.1) (0, s) ⟨Nat.zero_le _, by simp [outE]⟩ ?_ rfl ?_
      · simp only [↓evPre, ↓evPreW, evPost, evPostW, ← List.map_take, ← List.map_drop, ↓reduceIte, reduceCtorEq, Nat.reduceEqDiff, forall_const, implies_true, Nat.reduceAdd, Nat.reduceSub, Nat.reduceMul, Nat.reduceLT, Nat.reduceLeDiff, Int.reduceToNat, Int.reduceAdd, Int.reduceSub, Int.reduceNeg, Int.reduceMul, Int.reduceLT, Int.reduceLE, Int.reduceEq]
      · rintro ⟨i, t⟩ ⟨hi, ht⟩
        simp only at hi ht ⊢
        have htl : t.length ≤ 2 * szX x := by
          have h4 := outE_len (e.take i) 0
          have h5 : szE (e.take i) ≤ szE e := by
            have := sum_take_mono List.length e i
            have h6 : (e.take i).length ≤ e.length := by simp; omega
            unfold szE
            omega
          rw [ht, List.length_append]
          omega
        cases hc : e[i]? with
        | none =>
          have hkl : i = e.length := by have := List.getElem?_eq_none_iff.1 hc; omega
          have hlt2 : ¬ ((i : Int) < e.length) := by omega
          rw [hkl, List.take_length] at ht
          simp (disch := first | omega | (simp only [List.length_cons, List.length_nil, List.length_map, List.length_drop]; omega)) only [hlt, hlt2, he, List.getElem?_map, Option.map_some, elR, cmV, wrap_i64, ↓evPre, ↓evPreW, evPost, evPostW, ← List.map_take, ← List.map_drop, ↓reduceIte, reduceCtorEq, Nat.reduceEqDiff, forall_const, implies_true, Nat.reduceAdd, Nat.reduceSub, Nat.reduceMul, Nat.reduceLT, Nat.reduceLeDiff, Int.reduceToNat, Int.reduceAdd, Int.reduceSub, Int.reduceNeg, Int.reduceMul, Int.reduceLT, Int.reduceLE, Int.reduceEq]
          exact ⟨(k + 1, t), ⟨by simp only; omega, by simp only; rw [flat_take he, ht, hs, List.append_assoc]⟩, by simp only; omega, rfl, by simp only; omega⟩
        | some c =>
          have hlt2 : ((i : Int) < e.length) := by have := (List.getElem?_eq_some_iff.1 hc).1; omega
          have hc1 := he2 c (List.mem_of_getElem? hc)
          have hr := rel_len c
          have hnext : t ++ [sepC i] ++ rel c = s ++ outE 0 (e.take (i + 1)) := by rw [outE_take e 0 i c hc, ht]; simp
          have a1 : binV .add (.str t) (.str [43]) = some (.str (t ++ [43])) := add_ok (by simp only [List.length_cons, List.length_nil]; omega)
          have a2 : binV .add (.str t) (.str [58]) = some (.str (t ++ [58])) := add_ok (by simp only [List.length_cons, List.length_nil]; omega)
          have a3 : ∀ b : UInt8, binV .add (.str (t ++ [b])) (.str (rel c)) = some (.str (t ++ [b] ++ rel c)) := fun b => add_ok (by simp only [List.length_append, List.length_cons, List.length_nil]; omega)
          by_cases h0 : (i : Int) = 0
          · have hsep : sepC i = 43 := by simp only [sepC]; rw [if_pos (by omega)]
            rw [hsep] at hnext
            obtain rfl : i = 0 := by omega
            simp only [cast_zero] at hlt2
            simp (disch := first | omega | (simp only [List.length_cons, List.length_nil, List.length_map, List.length_drop]; omega)) only [hlt, hlt2, he, hc, List.getElem?_map, Option.map_some, elR, cmV, cmR, a1, decide_true, wrap_i64, ↓evPre, ↓evPreW, evPost, evPostW, ← List.map_take, ← List.map_drop, ↓reduceIte, reduceCtorEq, Nat.reduceEqDiff, forall_const, implies_true, Nat.reduceAdd, Nat.reduceSub, Nat.reduceMul, Nat.reduceLT, Nat.reduceLeDiff, Int.reduceToNat, Int.reduceAdd, Int.reduceSub, Int.reduceNeg, Int.reduceMul, Int.reduceLT, Int.reduceLE, Int.reduceEq]
            refine (release_A c S hc1).then ?_
            simp (disch := first | omega | (simp only [List.length_cons, List.length_nil, List.length_map, List.length_drop]; omega)) only [hlt, hlt2, he, hc, a3, wrap_i64, ↓evPre, ↓evPreW, evPost, evPostW, ← List.map_take, ← List.map_drop, ↓reduceIte, reduceCtorEq, Nat.reduceEqDiff, forall_const, implies_true, Nat.reduceAdd, Nat.reduceSub, Nat.reduceMul, Nat.reduceLT, Nat.reduceLeDiff, Int.reduceToNat, Int.reduceAdd, Int.reduceSub, Int.reduceNeg, Int.reduceMul, Int.reduceLT, Int.reduceLE, Int.reduceEq]
            exact ⟨(1, _), ⟨by simp only; omega, hnext⟩, by simp only; omega, rfl, rfl⟩
          · have hsep : sepC i = 58 := by simp only [sepC]; rw [if_neg (by omega)]
            rw [hsep] at hnext
            simp (disch := first | omega | (simp only [List.length_cons, List.length_nil, List.length_map, List.length_drop]; omega)) only [hlt, hlt2, he, hc, h0, List.getElem?_map, Option.map_some, elR, cmV, cmR, a2, decide_false, wrap_i64, ↓evPre, ↓evPreW, evPost, evPostW, ← List.map_take, ← List.map_drop, ↓reduceIte, reduceCtorEq, Nat.reduceEqDiff, forall_const, implies_true, Nat.reduceAdd, Nat.reduceSub, Nat.reduceMul, Nat.reduceLT, Nat.reduceLeDiff, Int.reduceToNat, Int.reduceAdd, Int.reduceSub, Int.reduceNeg, Int.reduceMul, Int.reduceLT, Int.reduceLE, Int.reduceEq]
            refine (release_A c S hc1).then ?_
            simp (disch := first | omega | (simp only [List.length_cons, List.length_nil, List.length_map, List.length_drop]; omega)) only [hlt, hlt2, he, hc, h0, a3, wrap_i64, ↓evPre, ↓evPreW, evPost, evPostW, ← List.map_take, ← List.map_drop, ↓reduceIte, reduceCtorEq, Nat.reduceEqDiff, forall_const, implies_true, Nat.reduceAdd, Nat.reduceSub, Nat.reduceMul, Nat.reduceLT, Nat.reduceLeDiff, Int.reduceToNat, Int.reduceAdd, Int.reduceSub, Int.reduceNeg, Int.reduceMul, Int.reduceLT, Int.reduceLE, Int.reduceEq]
            exact ⟨(i + 1, _), ⟨by simp only; omega, hnext⟩, by simp only; omega, rfl, by simp only; omega⟩
end Go.Proofs.Ytpblahljlbakdaa
