/- The alphabet: which character has which value; the check. -/
import Derived.Test.YtnepgfplikifjaaAlX
import Derived.Test.YtnepgfplikifjaaLocC
import Derived.Test.YtnepgfplikifjaaLocS
namespace Go.Proofs.Ytnepgfplikifjaa
open Go Go.AL
set_option linter.unusedSimpArgs false

def ab : List UInt8 := [50, 51, 52, 53, 54, 55, 56, 57, 65, 66, 67, 68, 69, 70, 71, 72, 74, 75, 76, 77, 78, 80, 81, 82, 83, 84, 85, 86, 87, 88, 89, 90]
def ix (c : UInt8) : Int := Lib.indexByte ab c

theorem index_spec (c : UInt8) : ∀ (l : List UInt8), (Lib.indexByte l c = -1 ∧ ∀ (j : Nat) (b : UInt8), l[j]? = some b → b ≠ c) ∨ ∃ i : Nat, Lib.indexByte l c = i ∧ l[i]? = some c ∧ ∀ (j : Nat) (b : UInt8), j < i → l[j]? = some b → b ≠ c
  | [] => .inl ⟨rfl, fun j b h => by simp at h⟩
  | b :: l => by
    by_cases hb : b = c
    · subst hb
      exact .inr ⟨0, by simp [Lib.indexByte], rfl, fun j x hj => by omega⟩
    · have hb' : (b == c) = false := by simpa using hb
      rcases index_spec c l with ⟨h1, h2⟩ | ⟨i, h1, h2, h3⟩
      · refine .inl ⟨by simp [Lib.indexByte, hb', h1], fun j x hx => ?_⟩
        cases j with
        | zero => simp at hx; subst hx; exact hb
        | succ j => exact h2 j x (by simpa using hx)
      · have hne : ((i : Int) == -1) = false := by simp
        refine .inr ⟨i + 1, by simp [Lib.indexByte, hb', h1, hne], by simpa using h2, fun j x hj hx => ?_⟩
        cases j with
        | zero => simp at hx; subst hx; exact hb
        | succ j => exact h3 j x (by omega) (by simpa using hx)

theorem ix_of {c : UInt8} {i : Nat} (h : ab[i]? = some c) (hn : ∀ (j : Nat) (b : UInt8), j < i → ab[j]? = some b → b ≠ c) : ix c = i := by
  rcases index_spec c ab with ⟨_, h2⟩ | ⟨k, h1, h2, h3⟩
  · exact absurd rfl (h2 i c h)
  · rcases Nat.lt_trichotomy i k with hlt | rfl | hlt
    · exact absurd rfl (h3 i c hlt h)
    · exact h1
    · exact absurd rfl (hn k c hlt h2)

theorem ix_none {c : UInt8} (hn : ∀ (j : Nat) (b : UInt8), ab[j]? = some b → b ≠ c) : ix c = -1 := by
  rcases index_spec c ab with ⟨h1, _⟩ | ⟨k, _, h2, _⟩
  · exact h1
  · exact absurd rfl (hn k c h2)

theorem ix_cases (c : UInt8) : ix c = -1 ∨ ∃ i : Nat, ix c = i ∧ i < 32 ∧ ab[i]? = some c := by
  rcases index_spec c ab with ⟨h1, _⟩ | ⟨k, h1, h2, _⟩
  · exact .inl h1
  · exact .inr ⟨k, h1, (List.getElem?_eq_some_iff.1 h2).1, h2⟩

theorem ix_ab : ∀ k : Fin 32, ix (ab.getD k.val 0) = k.val := by decide +kernel

theorem u8_eq (b c : UInt8) : ((b.toNat : Int) = (c.toNat : Int)) ↔ b = c := by
  rw [Int.ofNat_inj, UInt8.toNat_inj]

theorem value_A (c : UInt8) (S : Store) : CallA Try.prog 17 [.int .u8 c.toNat] S fun r S' => r = .int .i64 (ix c) ∧ S' = S := by
  refine CallA.keep Try.func17 c17 (Nat.le_of_ble_eq_true rfl) fun σ hσ => ?_
  simp only [a17, ↓evPre, ↓evPreW, evPost, evPostW, ← List.map_take, ← List.map_drop, ↓reduceIte, reduceCtorEq, Nat.reduceEqDiff, forall_const, implies_true, Nat.reduceAdd, Nat.reduceSub, Nat.reduceMul, Nat.reduceLT, Nat.reduceLeDiff, Int.reduceToNat, Int.reduceAdd, Int.reduceSub, Int.reduceNeg, Int.reduceMul, Int.reduceLT, Int.reduceLE, Int.reduceEq]
  refine loopA (ι := Nat) (fun k => [(0, .int .u8 c.toNat), (3, .int .i64 k)]) (fun _ => S) (fun k => k ≤ 32 ∧ ∀ (j : Nat) (b : UInt8), j < k → ab[j]? = some b → b ≠ c) (fun k => 32 - k) 0 ⟨Nat.zero_le _, fun j b hj => by omega⟩ ?_ rfl ?_
  · simp only [↓evPre, ↓evPreW, evPost, evPostW, ← List.map_take, ← List.map_drop, ↓reduceIte, reduceCtorEq, Nat.reduceEqDiff, forall_const, implies_true, Nat.reduceAdd, Nat.reduceSub, Nat.reduceMul, Nat.reduceLT, Nat.reduceLeDiff, Int.reduceToNat, Int.reduceAdd, Int.reduceSub, Int.reduceNeg, Int.reduceMul, Int.reduceLT, Int.reduceLE, Int.reduceEq]
  · rintro k ⟨hk, hn⟩
    by_cases hlt : (k : Int) < 32
    · obtain ⟨b, hb⟩ : ∃ b, ab[k]? = some b := ⟨ab[k]'(by show k < 32; omega), List.getElem?_eq_getElem _⟩
      have hb' : ([50, 51, 52, 53, 54, 55, 56, 57, 65, 66, 67, 68, 69, 70, 71, 72, 74, 75, 76, 77, 78, 80, 81, 82, 83, 84, 85, 86, 87, 88, 89, 90] : List UInt8)[k]? = some b := hb
      by_cases hbc : b = c
      · subst hbc
        simp (disch := first | omega | (simp only [List.length_cons, List.length_nil, List.length_map, List.length_drop]; omega)) only [hlt, hb', wrap_i64, decide_true, ix_of hb hn, ↓evPre, ↓evPreW, evPost, evPostW, ← List.map_take, ← List.map_drop, ↓reduceIte, reduceCtorEq, Nat.reduceEqDiff, forall_const, implies_true, Nat.reduceAdd, Nat.reduceSub, Nat.reduceMul, Nat.reduceLT, Nat.reduceLeDiff, Int.reduceToNat, Int.reduceAdd, Int.reduceSub, Int.reduceNeg, Int.reduceMul, Int.reduceLT, Int.reduceLE, Int.reduceEq]
      · have hbc' : ¬ ((b.toNat : Int) = (c.toNat : Int)) := fun h => hbc ((u8_eq b c).1 h)
        simp (disch := first | omega | (simp only [List.length_cons, List.length_nil, List.length_map, List.length_drop]; omega)) only [hlt, hb', hbc', wrap_i64, ↓evPre, ↓evPreW, evPost, evPostW, ← List.map_take, ← List.map_drop, ↓reduceIte, reduceCtorEq, Nat.reduceEqDiff, forall_const, implies_true, Nat.reduceAdd, Nat.reduceSub, Nat.reduceMul, Nat.reduceLT, Nat.reduceLeDiff, Int.reduceToNat, Int.reduceAdd, Int.reduceSub, Int.reduceNeg, Int.reduceMul, Int.reduceLT, Int.reduceLE, Int.reduceEq]
        refine ⟨k + 1, ⟨by omega, fun j x hj hx => ?_⟩, by omega, by omega⟩
        by_cases hjk : j = k
        · subst hjk
          rw [hb] at hx
          cases hx
          exact hbc
        · exact hn j x (by omega) hx
    · have hk32 : k = 32 := by omega
      subst hk32
      have : ix c = -1 := ix_none fun j b hb => hn j b (List.getElem?_eq_some_iff.1 hb).1 hb
      simp (disch := first | omega | (simp only [List.length_cons, List.length_nil, List.length_map, List.length_drop]; omega)) only [hlt, wrap_i64, this, ↓evPre, ↓evPreW, evPost, evPostW, ← List.map_take, ← List.map_drop, ↓reduceIte, reduceCtorEq, Nat.reduceEqDiff, forall_const, implies_true, Nat.reduceAdd, Nat.reduceSub, Nat.reduceMul, Nat.reduceLT, Nat.reduceLeDiff, Int.reduceToNat, Int.reduceAdd, Int.reduceSub, Int.reduceNeg, Int.reduceMul, Int.reduceLT, Int.reduceLE, Int.reduceEq]

theorem index_A (c : UInt8) (S : Store) : CallA Try.prog 16 [.str [50, 51, 52, 53, 54, 55, 56, 57, 65, 66, 67, 68, 69, 70, 71, 72, 74, 75, 76, 77, 78, 80, 81, 82, 83, 84, 85, 86, 87, 88, 89, 90], .int .u8 c.toNat] S fun r S' => r = .int .i64 (ix c) ∧ S' = S := by
  refine CallA.of_same ⟨_, Try.func16, by kernel_rfl, by kernel_rfl⟩ fun ρ w us hv => ?_
  obtain ⟨u, x, rfl, h1, h2⟩ := hv.two
  obtain ⟨s, rfl, hs, _⟩ := h1.str_inv
  have := h2.int_inv
  subst this
  refine ⟨_, .int, ?_⟩
  have h := Try.strings_IndexByte s c.toNat w
  rw [hs] at h
  have e : ((c.toNat : Int).toNat.toUInt8) = c := by simp
  rw [e] at h
  exact h

theorem bitlen_A (n : Nat) (hn : n ≤ 64) (S : Store) : CallA Try.prog 24 [.int .u64 n] S fun r S' => r = .int .i64 (Lib.bitLen n) ∧ S' = S := by
  refine CallA.of_same ⟨_, Try.func24, by kernel_rfl, by kernel_rfl⟩ fun ρ w us hv => ?_
  obtain ⟨l⟩ := us
  have hu : ∃ x, l = [x] ∧ x = .int .u64 n := by
    obtain ⟨h1, h2⟩ := hv
    obtain ⟨u, hu, hr⟩ := h2 0 _ rfl
    simp at h1 hu
    match l, h1 with
    | [p], _ => simp at hu; subst hu; exact ⟨_, rfl, hr.int_inv⟩
  obtain ⟨x, rfl, rfl⟩ := hu
  refine ⟨_, .int, ?_⟩
  have h := Try.bits_Len n w (by omega) (by omega)
  simpa using h
end Go.Proofs.Ytnepgfplikifjaa
