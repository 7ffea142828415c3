/- Bytes and texts: which are special, odd, letters. -/
import Derived.Test.YtpblahljlbakdaaAlX
import Derived.Test.YtpblahljlbakdaaEdiC
import Derived.Test.YtpblahljlbakdaaEdiS
namespace Go.Proofs.Ytpblahljlbakdaa
open Go Go.AL
set_option linter.unusedSimpArgs false

def sp : List UInt8 := [43, 58, 39, 63]
def specC (c : UInt8) : Bool := decide (c.toNat = 43) || decide (c.toNat = 58) || decide (c.toNat = 39) || decide (c.toNat = 63)
def oddC (c : UInt8) : Bool := decide (c.toNat < 32) || decide (126 < c.toNat)
def upC (c : UInt8) : Bool := decide (65 ≤ c.toNat) && decide (c.toNat ≤ 90)

theorem spec_pos (c : UInt8) : (0 ≤ Lib.indexByte sp c) ↔ specC c = true := by
  have : ∀ n : Fin 256, (decide (0 ≤ Lib.indexByte sp (UInt8.ofNat n.val))) = specC (UInt8.ofNat n.val) := by decide +kernel
  have h := this ⟨c.toNat, c.toNat_lt⟩
  simp only [UInt8.ofNat_toNat] at h
  rw [← h]
  simp

theorem index_A (c : UInt8) (S : Store) : CallA Try.prog 22 [.str [43, 58, 39, 63], .int .u8 c.toNat] S fun r S' => r = .int .i64 (Lib.indexByte sp c) ∧ S' = S := by
  refine CallA.of_same ⟨_, Try.func22, by kernel_rfl, by kernel_rfl⟩ fun ρ w us hv => ?_
  obtain ⟨u, x, rfl, h1, h2⟩ := hv.two
  obtain ⟨s, rfl, hs, _⟩ := h1.str_inv
  have := h2.int_inv
  subst this
  refine ⟨_, .int, ?_⟩
  have h := Try.strings_IndexByte s c.toNat w
  rw [hs] at h
  have e : ((c.toNat : Int).toNat.toUInt8) = c := by simp
  rw [e] at h
  exact h

theorem special_A (c : UInt8) (S : Store) : CallA Try.prog 53 [.int .u8 c.toNat] S fun r S' => r = .bool (specC c) ∧ S' = S := by
  refine CallA.keep Try.func53 c53 (Nat.le_of_ble_eq_true rfl) fun σ hσ => ?_
  simp only [a53, ↓evPre, ↓evPreW, evPost, evPostW, ← List.map_take, ← List.map_drop, ↓reduceIte, reduceCtorEq, Nat.reduceEqDiff, forall_const, implies_true, Nat.reduceAdd, Nat.reduceSub, Nat.reduceMul, Nat.reduceLT, Nat.reduceLeDiff, Int.reduceToNat, Int.reduceAdd, Int.reduceSub, Int.reduceNeg, Int.reduceMul, Int.reduceLT, Int.reduceLE, Int.reduceEq]
  have eq : ∀ n : Nat, decide ((c.toNat : Int) = (n : Int)) = decide (c.toNat = n) := fun n => by rw [decide_eq_decide]; omega
  by_cases h1 : (c.toNat : Int) = 43
  · have hs : specC c = true := by have : c.toNat = 43 := by omega
                                   simp [specC, this]
    simp only [h1, hs, decide_true, ↓evPre, ↓evPreW, evPost, evPostW, ← List.map_take, ← List.map_drop, ↓reduceIte, reduceCtorEq, Nat.reduceEqDiff, forall_const, implies_true, Nat.reduceAdd, Nat.reduceSub, Nat.reduceMul, Nat.reduceLT, Nat.reduceLeDiff, Int.reduceToNat, Int.reduceAdd, Int.reduceSub, Int.reduceNeg, Int.reduceMul, Int.reduceLT, Int.reduceLE, Int.reduceEq]
  by_cases h2 : (c.toNat : Int) = 58
  · have hs : specC c = true := by have : c.toNat = 58 := by omega
                                   simp [specC, this]
    simp only [h1, h2, hs, decide_true, ↓evPre, ↓evPreW, evPost, evPostW, ← List.map_take, ← List.map_drop, ↓reduceIte, reduceCtorEq, Nat.reduceEqDiff, forall_const, implies_true, Nat.reduceAdd, Nat.reduceSub, Nat.reduceMul, Nat.reduceLT, Nat.reduceLeDiff, Int.reduceToNat, Int.reduceAdd, Int.reduceSub, Int.reduceNeg, Int.reduceMul, Int.reduceLT, Int.reduceLE, Int.reduceEq]
  by_cases h3 : (c.toNat : Int) = 39
  · have hs : specC c = true := by have : c.toNat = 39 := by omega
                                   simp [specC, this]
    simp only [h1, h2, h3, hs, decide_true, ↓evPre, ↓evPreW, evPost, evPostW, ← List.map_take, ← List.map_drop, ↓reduceIte, reduceCtorEq, Nat.reduceEqDiff, forall_const, implies_true, Nat.reduceAdd, Nat.reduceSub, Nat.reduceMul, Nat.reduceLT, Nat.reduceLeDiff, Int.reduceToNat, Int.reduceAdd, Int.reduceSub, Int.reduceNeg, Int.reduceMul, Int.reduceLT, Int.reduceLE, Int.reduceEq]
  have hs : specC c = decide ((c.toNat : Int) = 63) := by
    have h1' : ¬ c.toNat = 43 := by omega
    have h2' : ¬ c.toNat = 58 := by omega
    have h3' : ¬ c.toNat = 39 := by omega
    have := eq 63
    simp only [specC, h1', h2', h3']
    simpa using this.symm
  simp only [h1, h2, h3, hs, ↓evPre, ↓evPreW, evPost, evPostW, ← List.map_take, ← List.map_drop, ↓reduceIte, reduceCtorEq, Nat.reduceEqDiff, forall_const, implies_true, Nat.reduceAdd, Nat.reduceSub, Nat.reduceMul, Nat.reduceLT, Nat.reduceLeDiff, Int.reduceToNat, Int.reduceAdd, Int.reduceSub, Int.reduceNeg, Int.reduceMul, Int.reduceLT, Int.reduceLE, Int.reduceEq]

theorem upper_A (c : UInt8) (S : Store) : CallA Try.prog 55 [.int .u8 c.toNat] S fun r S' => r = .bool (upC c) ∧ S' = S := by
  refine CallA.keep Try.func55 c55 (Nat.le_of_ble_eq_true rfl) fun σ hσ => ?_
  simp only [a55, ↓evPre, ↓evPreW, evPost, evPostW, ← List.map_take, ← List.map_drop, ↓reduceIte, reduceCtorEq, Nat.reduceEqDiff, forall_const, implies_true, Nat.reduceAdd, Nat.reduceSub, Nat.reduceMul, Nat.reduceLT, Nat.reduceLeDiff, Int.reduceToNat, Int.reduceAdd, Int.reduceSub, Int.reduceNeg, Int.reduceMul, Int.reduceLT, Int.reduceLE, Int.reduceEq]
  by_cases h1 : 65 ≤ (c.toNat : Int)
  · have hs : upC c = decide ((c.toNat : Int) ≤ 90) := by
      have e : decide ((c.toNat : Int) ≤ 90) = decide (c.toNat ≤ 90) := by rw [decide_eq_decide]; omega
      have : 65 ≤ c.toNat := by omega
      rw [e]
      simp [upC, this]
    simp only [h1, hs, decide_true, ↓evPre, ↓evPreW, evPost, evPostW, ← List.map_take, ← List.map_drop, ↓reduceIte, reduceCtorEq, Nat.reduceEqDiff, forall_const, implies_true, Nat.reduceAdd, Nat.reduceSub, Nat.reduceMul, Nat.reduceLT, Nat.reduceLeDiff, Int.reduceToNat, Int.reduceAdd, Int.reduceSub, Int.reduceNeg, Int.reduceMul, Int.reduceLT, Int.reduceLE, Int.reduceEq]
    intro h
    omega
  · have hs : upC c = false := by
      have : ¬ 65 ≤ c.toNat := by omega
      simp [upC, this]
    simp only [h1, hs, decide_false, ↓evPre, ↓evPreW, evPost, evPostW, ← List.map_take, ← List.map_drop, ↓reduceIte, reduceCtorEq, Nat.reduceEqDiff, forall_const, implies_true, Nat.reduceAdd, Nat.reduceSub, Nat.reduceMul, Nat.reduceLT, Nat.reduceLeDiff, Int.reduceToNat, Int.reduceAdd, Int.reduceSub, Int.reduceNeg, Int.reduceMul, Int.reduceLT, Int.reduceLE, Int.reduceEq]

/-- Walks over the bytes of a text that stop at the first with a property. -/
theorem any_take_succ {α : Type} {p : α → Bool} {l : List α} {k : Nat} {c : α} (hc : l[k]? = some c) (h : (l.take k).any p = false) (hn : p c = false) : (l.take (k + 1)).any p = false := by
  rw [List.take_add_one, hc]; simp [h, hn]
theorem any_of_get {α : Type} {p : α → Bool} {l : List α} {k : Nat} {c : α} (hc : l[k]? = some c) (h : p c = true) : l.any p = true :=
  List.any_eq_true.2 ⟨c, List.mem_of_getElem? hc, h⟩

theorem odd_A (l : List UInt8) (S : Store) (hl : l.length ≤ 1048576) : CallA Try.prog 45 [.str l] S fun r S' => r = .bool (l.any oddC) ∧ S' = S := by
  refine CallA.keep Try.func45 c45 (Nat.le_of_ble_eq_true rfl) fun σ hσ => ?_
  simp only [a45, ↓evPre, ↓evPreW, evPost, evPostW, ← List.map_take, ← List.map_drop, ↓reduceIte, reduceCtorEq, Nat.reduceEqDiff, forall_const, implies_true, Nat.reduceAdd, Nat.reduceSub, Nat.reduceMul, Nat.reduceLT, Nat.reduceLeDiff, Int.reduceToNat, Int.reduceAdd, Int.reduceSub, Int.reduceNeg, Int.reduceMul, Int.reduceLT, Int.reduceLE, Int.reduceEq]
  refine loopA (ι := Nat) (fun k => [(0, .str l), (5, .int .i64 l.length), (6, .int .i64 k)]) (fun _ => S) (fun k => k ≤ l.length ∧ (l.take k).any oddC = false) (fun k => l.length - k) 0 ⟨Nat.zero_le _, by simp⟩ ?_ rfl ?_
  · simp only [↓evPre, ↓evPreW, evPost, evPostW, ← List.map_take, ← List.map_drop, ↓reduceIte, reduceCtorEq, Nat.reduceEqDiff, forall_const, implies_true, Nat.reduceAdd, Nat.reduceSub, Nat.reduceMul, Nat.reduceLT, Nat.reduceLeDiff, Int.reduceToNat, Int.reduceAdd, Int.reduceSub, Int.reduceNeg, Int.reduceMul, Int.reduceLT, Int.reduceLE, Int.reduceEq]
  · rintro k ⟨hk, hall⟩
    cases hc : l[k]? with
    | none =>
      have hkl : k = l.length := by have := List.getElem?_eq_none_iff.1 hc; omega
      have hlt : ¬ ((k : Int) < l.length) := by omega
      rw [hkl, List.take_length] at hall
      simp (disch := first | omega | (simp only [List.length_cons, List.length_nil, List.length_map, List.length_drop]; omega)) only [hlt, wrap_i64, hall, ↓evPre, ↓evPreW, evPost, evPostW, ← List.map_take, ← List.map_drop, ↓reduceIte, reduceCtorEq, Nat.reduceEqDiff, forall_const, implies_true, Nat.reduceAdd, Nat.reduceSub, Nat.reduceMul, Nat.reduceLT, Nat.reduceLeDiff, Int.reduceToNat, Int.reduceAdd, Int.reduceSub, Int.reduceNeg, Int.reduceMul, Int.reduceLT, Int.reduceLE, Int.reduceEq]
    | some c =>
      have hlt : ((k : Int) < l.length) := by have := (List.getElem?_eq_some_iff.1 hc).1; omega
      by_cases h1 : (c.toNat : Int) < 32
      · have ho : oddC c = true := by simp [oddC]; omega
        simp (disch := first | omega | (simp only [List.length_cons, List.length_nil, List.length_map, List.length_drop]; omega)) only [hlt, hc, h1, wrap_i64, any_of_get hc ho, ↓evPre, ↓evPreW, evPost, evPostW, ← List.map_take, ← List.map_drop, ↓reduceIte, reduceCtorEq, Nat.reduceEqDiff, forall_const, implies_true, Nat.reduceAdd, Nat.reduceSub, Nat.reduceMul, Nat.reduceLT, Nat.reduceLeDiff, Int.reduceToNat, Int.reduceAdd, Int.reduceSub, Int.reduceNeg, Int.reduceMul, Int.reduceLT, Int.reduceLE, Int.reduceEq]
      · by_cases h2 : 126 < (c.toNat : Int)
        · have ho : oddC c = true := by simp [oddC]; omega
          simp (disch := first | omega | (simp only [List.length_cons, List.length_nil, List.length_map, List.length_drop]; omega)) only [hlt, hc, h1, h2, wrap_i64, any_of_get hc ho, ↓evPre, ↓evPreW, evPost, evPostW, ← List.map_take, ← List.map_drop, ↓reduceIte, reduceCtorEq, Nat.reduceEqDiff, forall_const, implies_true, Nat.reduceAdd, Nat.reduceSub, Nat.reduceMul, Nat.reduceLT, Nat.reduceLeDiff, Int.reduceToNat, Int.reduceAdd, Int.reduceSub, Int.reduceNeg, Int.reduceMul, Int.reduceLT, Int.reduceLE, Int.reduceEq]
        · have ho : oddC c = false := by simp [oddC]; omega
          simp (disch := first | omega | (simp only [List.length_cons, List.length_nil, List.length_map, List.length_drop]; omega)) only [hlt, hc, h1, h2, wrap_i64, ↓evPre, ↓evPreW, evPost, evPostW, ← List.map_take, ← List.map_drop, ↓reduceIte, reduceCtorEq, Nat.reduceEqDiff, forall_const, implies_true, Nat.reduceAdd, Nat.reduceSub, Nat.reduceMul, Nat.reduceLT, Nat.reduceLeDiff, Int.reduceToNat, Int.reduceAdd, Int.reduceSub, Int.reduceNeg, Int.reduceMul, Int.reduceLT, Int.reduceLE, Int.reduceEq]
          exact ⟨k + 1, ⟨by omega, any_take_succ hc hall ho⟩, by omega, by omega⟩

theorem plain_A (l : List UInt8) (S : Store) (hl : l.length ≤ 1048576) : CallA Try.prog 30 [.str l] S fun r S' => r = .bool (!l.any oddC) ∧ S' = S := by
  refine CallA.keep Try.func30 c30 (Nat.le_of_ble_eq_true rfl) fun σ hσ => ?_
  simp only [a30, ↓evPre, ↓evPreW, evPost, evPostW, ← List.map_take, ← List.map_drop, ↓reduceIte, reduceCtorEq, Nat.reduceEqDiff, forall_const, implies_true, Nat.reduceAdd, Nat.reduceSub, Nat.reduceMul, Nat.reduceLT, Nat.reduceLeDiff, Int.reduceToNat, Int.reduceAdd, Int.reduceSub, Int.reduceNeg, Int.reduceMul, Int.reduceLT, Int.reduceLE, Int.reduceEq]
  refine loopA (ι := Nat) (fun k => [(0, .str l), (3, .int .i64 k)]) (fun _ => S) (fun k => k ≤ l.length ∧ (l.take k).any oddC = false) (fun k => l.length - k) 0 ⟨Nat.zero_le _, by simp⟩ ?_ rfl ?_
  · simp only [↓evPre, ↓evPreW, evPost, evPostW, ← List.map_take, ← List.map_drop, ↓reduceIte, reduceCtorEq, Nat.reduceEqDiff, forall_const, implies_true, Nat.reduceAdd, Nat.reduceSub, Nat.reduceMul, Nat.reduceLT, Nat.reduceLeDiff, Int.reduceToNat, Int.reduceAdd, Int.reduceSub, Int.reduceNeg, Int.reduceMul, Int.reduceLT, Int.reduceLE, Int.reduceEq]
  · rintro k ⟨hk, hall⟩
    cases hc : l[k]? with
    | none =>
      have hkl : k = l.length := by have := List.getElem?_eq_none_iff.1 hc; omega
      have hlt : ¬ ((k : Int) < l.length) := by omega
      rw [hkl, List.take_length] at hall
      simp (disch := first | omega | (simp only [List.length_cons, List.length_nil, List.length_map, List.length_drop]; omega)) only [hlt, wrap_i64, Bool.not_false, Bool.not_true, hall, ↓evPre, ↓evPreW, evPost, evPostW, ← List.map_take, ← List.map_drop, ↓reduceIte, reduceCtorEq, Nat.reduceEqDiff, forall_const, implies_true, Nat.reduceAdd, Nat.reduceSub, Nat.reduceMul, Nat.reduceLT, Nat.reduceLeDiff, Int.reduceToNat, Int.reduceAdd, Int.reduceSub, Int.reduceNeg, Int.reduceMul, Int.reduceLT, Int.reduceLE, Int.reduceEq]
    | some c =>
      have hlt : ((k : Int) < l.length) := by have := (List.getElem?_eq_some_iff.1 hc).1; omega
      by_cases h1 : (c.toNat : Int) < 32
      · have ho : oddC c = true := by simp [oddC]; omega
        simp (disch := first | omega | (simp only [List.length_cons, List.length_nil, List.length_map, List.length_drop]; omega)) only [hlt, hc, h1, wrap_i64, Bool.not_true, any_of_get hc ho, ↓evPre, ↓evPreW, evPost, evPostW, ← List.map_take, ← List.map_drop, ↓reduceIte, reduceCtorEq, Nat.reduceEqDiff, forall_const, implies_true, Nat.reduceAdd, Nat.reduceSub, Nat.reduceMul, Nat.reduceLT, Nat.reduceLeDiff, Int.reduceToNat, Int.reduceAdd, Int.reduceSub, Int.reduceNeg, Int.reduceMul, Int.reduceLT, Int.reduceLE, Int.reduceEq]
      · by_cases h2 : 126 < (c.toNat : Int)
        · have ho : oddC c = true := by simp [oddC]; omega
          simp (disch := first | omega | (simp only [List.length_cons, List.length_nil, List.length_map, List.length_drop]; omega)) only [hlt, hc, h1, h2, wrap_i64, Bool.not_true, any_of_get hc ho, ↓evPre, ↓evPreW, evPost, evPostW, ← List.map_take, ← List.map_drop, ↓reduceIte, reduceCtorEq, Nat.reduceEqDiff, forall_const, implies_true, Nat.reduceAdd, Nat.reduceSub, Nat.reduceMul, Nat.reduceLT, Nat.reduceLeDiff, Int.reduceToNat, Int.reduceAdd, Int.reduceSub, Int.reduceNeg, Int.reduceMul, Int.reduceLT, Int.reduceLE, Int.reduceEq]
        · have ho : oddC c = false := by simp [oddC]; omega
          simp (disch := first | omega | (simp only [List.length_cons, List.length_nil, List.length_map, List.length_drop]; omega)) only [hlt, hc, h1, h2, wrap_i64, ↓evPre, ↓evPreW, evPost, evPostW, ← List.map_take, ← List.map_drop, ↓reduceIte, reduceCtorEq, Nat.reduceEqDiff, forall_const, implies_true, Nat.reduceAdd, Nat.reduceSub, Nat.reduceMul, Nat.reduceLT, Nat.reduceLeDiff, Int.reduceToNat, Int.reduceAdd, Int.reduceSub, Int.reduceNeg, Int.reduceMul, Int.reduceLT, Int.reduceLE, Int.reduceEq]
          exact ⟨k + 1, ⟨by omega, any_take_succ hc hall ho⟩, by omega, by omega⟩

def tagOk (l : List UInt8) : Bool := !l.any (fun c => !upC c) && decide (l.length = 3)

theorem letters_A (l : List UInt8) (S : Store) (hl : l.length ≤ 1048576) : CallA Try.prog 46 [.str l, .int .i64 3] S fun r S' => r = .bool (tagOk l) ∧ S' = S := by
  refine CallA.keep Try.func46 c46 (Nat.le_of_ble_eq_true rfl) fun σ hσ => ?_
  simp only [a46, ↓evPre, ↓evPreW, evPost, evPostW, ← List.map_take, ← List.map_drop, ↓reduceIte, reduceCtorEq, Nat.reduceEqDiff, forall_const, implies_true, Nat.reduceAdd, Nat.reduceSub, Nat.reduceMul, Nat.reduceLT, Nat.reduceLeDiff, Int.reduceToNat, Int.reduceAdd, Int.reduceSub, Int.reduceNeg, Int.reduceMul, Int.reduceLT, Int.reduceLE, Int.reduceEq]
  refine loopA (ι := Nat) (fun k => [(0, .str l), (1, .int .i64 3), (5, .int .i64 k)]) (fun _ => S) (fun k => k ≤ l.length ∧ (l.take k).any (fun c => !upC c) = false) (fun k => l.length - k) 0 ⟨Nat.zero_le _, by simp⟩ ?_ rfl ?_
  · simp only [↓evPre, ↓evPreW, evPost, evPostW, ← List.map_take, ← List.map_drop, ↓reduceIte, reduceCtorEq, Nat.reduceEqDiff, forall_const, implies_true, Nat.reduceAdd, Nat.reduceSub, Nat.reduceMul, Nat.reduceLT, Nat.reduceLeDiff, Int.reduceToNat, Int.reduceAdd, Int.reduceSub, Int.reduceNeg, Int.reduceMul, Int.reduceLT, Int.reduceLE, Int.reduceEq]
  · rintro k ⟨hk, hall⟩
    cases hc : l[k]? with
    | none =>
      have hkl : k = l.length := by have := List.getElem?_eq_none_iff.1 hc; omega
      have hlt : ¬ ((k : Int) < l.length) := by omega
      rw [hkl, List.take_length] at hall
      simp (disch := first | omega | (simp only [List.length_cons, List.length_nil, List.length_map, List.length_drop]; omega)) only [hlt, wrap_i64, tagOk, hall, ↓evPre, ↓evPreW, evPost, evPostW, ← List.map_take, ← List.map_drop, ↓reduceIte, reduceCtorEq, Nat.reduceEqDiff, forall_const, implies_true, Nat.reduceAdd, Nat.reduceSub, Nat.reduceMul, Nat.reduceLT, Nat.reduceLeDiff, Int.reduceToNat, Int.reduceAdd, Int.reduceSub, Int.reduceNeg, Int.reduceMul, Int.reduceLT, Int.reduceLE, Int.reduceEq]
      have e : decide ((l.length : Int) = 3) = decide (l.length = 3) := by rw [decide_eq_decide]; omega
      simp [e]
    | some c =>
      have hlt : ((k : Int) < l.length) := by have := (List.getElem?_eq_some_iff.1 hc).1; omega
      simp (disch := first | omega | (simp only [List.length_cons, List.length_nil, List.length_map, List.length_drop]; omega)) only [hlt, hc, wrap_i64, ↓evPre, ↓evPreW, evPost, evPostW, ← List.map_take, ← List.map_drop, ↓reduceIte, reduceCtorEq, Nat.reduceEqDiff, forall_const, implies_true, Nat.reduceAdd, Nat.reduceSub, Nat.reduceMul, Nat.reduceLT, Nat.reduceLeDiff, Int.reduceToNat, Int.reduceAdd, Int.reduceSub, Int.reduceNeg, Int.reduceMul, Int.reduceLT, Int.reduceLE, Int.reduceEq]
      refine (upper_A c S).then ?_
      cases hu : upC c
      · have : l.any (fun c => !upC c) = true := any_of_get hc (by simp [hu])
        simp (disch := first | omega | (simp only [List.length_cons, List.length_nil, List.length_map, List.length_drop]; omega)) only [hlt, hc, hu, wrap_i64, tagOk, this, ↓evPre, ↓evPreW, evPost, evPostW, ← List.map_take, ← List.map_drop, ↓reduceIte, reduceCtorEq, Nat.reduceEqDiff, forall_const, implies_true, Nat.reduceAdd, Nat.reduceSub, Nat.reduceMul, Nat.reduceLT, Nat.reduceLeDiff, Int.reduceToNat, Int.reduceAdd, Int.reduceSub, Int.reduceNeg, Int.reduceMul, Int.reduceLT, Int.reduceLE, Int.reduceEq]
        rfl
      · simp (disch := first | omega | (simp only [List.length_cons, List.length_nil, List.length_map, List.length_drop]; omega)) only [hlt, hc, hu, wrap_i64, ↓evPre, ↓evPreW, evPost, evPostW, ← List.map_take, ← List.map_drop, ↓reduceIte, reduceCtorEq, Nat.reduceEqDiff, forall_const, implies_true, Nat.reduceAdd, Nat.reduceSub, Nat.reduceMul, Nat.reduceLT, Nat.reduceLeDiff, Int.reduceToNat, Int.reduceAdd, Int.reduceSub, Int.reduceNeg, Int.reduceMul, Int.reduceLT, Int.reduceLE, Int.reduceEq]
        exact ⟨k + 1, ⟨by omega, any_take_succ hc hall (by simp [hu])⟩, by omega, by omega⟩

theorem airport_A (l : List UInt8) (S : Store) (hl : l.length ≤ 1048576) : CallA Try.prog 29 [.str l] S fun r S' => r = .bool (tagOk l) ∧ S' = S := by
  refine CallA.keep Try.func29 c29 (Nat.le_of_ble_eq_true rfl) fun σ hσ => ?_
  simp only [a29, ↓evPre, ↓evPreW, evPost, evPostW, ← List.map_take, ← List.map_drop, ↓reduceIte, reduceCtorEq, Nat.reduceEqDiff, forall_const, implies_true, Nat.reduceAdd, Nat.reduceSub, Nat.reduceMul, Nat.reduceLT, Nat.reduceLeDiff, Int.reduceToNat, Int.reduceAdd, Int.reduceSub, Int.reduceNeg, Int.reduceMul, Int.reduceLT, Int.reduceLE, Int.reduceEq]
  refine (letters_A l S hl).then ?_
  simp only [↓evPre, ↓evPreW, evPost, evPostW, ← List.map_take, ← List.map_drop, ↓reduceIte, reduceCtorEq, Nat.reduceEqDiff, forall_const, implies_true, Nat.reduceAdd, Nat.reduceSub, Nat.reduceMul, Nat.reduceLT, Nat.reduceLeDiff, Int.reduceToNat, Int.reduceAdd, Int.reduceSub, Int.reduceNeg, Int.reduceMul, Int.reduceLT, Int.reduceLE, Int.reduceEq]
end Go.Proofs.Ytpblahljlbakdaa
