/- The library's sort over the store. -/
import Derived.Test.YtlnpfnoemhjheaaGreatDoorMRec1
import Derived.Test.YtlnpfnoemhjheaaGreatDoorMAlT
namespace Go.Proofs.YtlnpfnoemhjheaaGreatDoor
open Go Go.AL Go.Sort
set_option linter.unusedSectionVars false
variable [Go.AL.Mode] [Go.AL.LooseM]
set_option linter.unusedSimpArgs false
set_option linter.unusedVariables false
theorem swo : SWO (ltOf cfS) where
  irrefl x := by unfold ltOf; rw [cfS_lt]; simp [ltS]
  trans x y z h k := by unfold ltOf at *; rw [cfS_lt] at *; simp only [ltS, decide_eq_true_eq] at *; omega
  ntrans x y z h k := by unfold ltOf at *; rw [cfS_lt] at *; simp only [ltS, decide_eq_false_iff_not] at *; omega
def zSt : St := ⟨0, 0, 0, 0⟩
def zRow : List Value := [.int .i64 0, .int .i64 0, .int .i64 0, .int .i64 0]
theorem zCells (ρ : AL.Place) (S : Store) (w : World) : CellsR ρ S w (stR zSt) zRow := ⟨rfl, fun j v hj => by
  match j, hj with
  | 0, hj => simp [stR, zSt] at hj; subst hj; exact ⟨_, rfl, .int, rfl⟩
  | 1, hj => simp [stR, zSt] at hj; subst hj; exact ⟨_, rfl, .int, rfl⟩
  | 2, hj => simp [stR, zSt] at hj; subst hj; exact ⟨_, rfl, .int, rfl⟩
  | 3, hj => simp [stR, zSt] at hj; subst hj; exact ⟨_, rfl, .int, rfl⟩
  | j + 4, hj => simp [stR, zSt] at hj⟩
theorem sort_A (g : FuncId) (hc : ∀ x y S, @CallA (Go.AL.Mode.tight inferInstance) Tryz.prog g [stV x, stV y] S fun r S' => r = .int .i64 (cfS x y) ∧ S' = S)
    (hnil : ∀ S, CallA Tryz.prog 41 [.nilSl, .func g [] []] S fun r S' => r = .tup [] ∧ S' = S)
    (l : List St) (S : Store) (id ver : Nat) (hl : l.length ≤ 1000000) (hs : S.obj? id ver = some (41, 4, l.map stR)) :
    CallA Tryz.prog 41 [.msl id ver 0 l.length, .func g [] []] S fun r S' => r = .tup [] ∧ ∃ l' : List St, l'.Perm l ∧ (l'.Pairwise fun x y => ltS y x = false) ∧ S' = S.set id ⟨ver, some (.arr 41 4 (l'.map stR))⟩ := by
  refine (sortG sortL (sz := 4) (by decide) (fun w => Tryz.isAgg41 w) (fun w => Tryz.sizeOf41 w) stR (fun _ => rfl) (fun _ => rfl) zSt zRow zCells cfS swo g hc ⟨Tryz.f41, Tryz.func41, by kernel_rfl, by kernel_rfl⟩ hnil l S id ver hl hs).mono ?_
  rintro r S' ⟨h1, l', h2, h3, h4⟩
  refine ⟨h1, l', h2, h3.imp fun {x y} h => ?_, h4⟩
  unfold ltOf at h
  rwa [cfS_lt] at h
end Go.Proofs.YtlnpfnoemhjheaaGreatDoor
/- Sorting states. -/
namespace Go.Proofs.YtlnpfnoemhjheaaGreatDoor
open Go Go.AL
set_option linter.unusedSectionVars false
variable [Go.AL.Mode] [Go.AL.LooseM]
set_option linter.unusedSimpArgs false
set_option linter.unusedVariables false
def Srt (l : List St) : Prop := l.Pairwise fun x y => ltS y x = false
def Asc (l : List St) : Prop := l.Pairwise fun x y => ltS x y = true
def Apart (l : List St) : Prop := l.Pairwise fun x y => sameS x y = false
theorem lt_as {x y : St} (h : ltS x y = true) : ltS y x = false := by
  simp only [ltS, decide_eq_true_eq, decide_eq_false_iff_not] at *; omega
theorem lt_of {x y : St} (h : ltS y x = false) (k : sameS x y = false) : ltS x y = true := by
  simp only [ltS, sameS, decide_eq_true_eq, decide_eq_false_iff_not] at *; omega
theorem same_sym (x y : St) : sameS x y = sameS y x := by
  unfold sameS; apply decide_eq_decide.2; constructor <;> (rintro ⟨h, k⟩; exact ⟨h.symm, k.symm⟩)
theorem same_tr {x y z : St} (h : sameS x y = true) (k : sameS y z = true) : sameS x z = true := by
  simp only [sameS, decide_eq_true_eq] at *; omega
theorem same_self (x : St) : sameS x x = true := by simp [sameS]
theorem same_same {x y : St} (z : St) (h : sameS x y = true) : sameS x z = sameS y z := by
  simp only [sameS, decide_eq_true_eq] at h
  unfold sameS; rw [h.1, h.2]
theorem not_lt_same {x y : St} (h : ltS x y = true) : sameS x y = false := by
  simp only [ltS, sameS, decide_eq_true_eq, decide_eq_false_iff_not] at *; omega
theorem Apart.perm {l m : List St} (h : Apart l) (hp : l.Perm m) : Apart m :=
  (hp.pairwise_iff fun {x y} (h : sameS x y = false) => by rw [same_sym]; exact h).1 h
theorem Srt.asc {l : List St} (h : Srt l) (k : Apart l) : Asc l := by
  unfold Srt Apart Asc at *
  induction l with
  | nil => exact .nil
  | cons x l ih =>
    rw [List.pairwise_cons] at *
    exact ⟨fun y hy => lt_of (h.1 y hy) (k.1 y hy), ih h.2 k.2⟩
theorem Asc.apart {l : List St} (h : Asc l) : Apart l := h.imp not_lt_same
theorem Asc.uniq : ∀ {l m : List St}, Asc l → Asc m → l.Perm m → l = m
  | [], m, _, _, hp => by rw [List.nil_perm.1 hp]
  | x :: l, [], _, _, hp => by have := hp.length_eq; simp at this
  | x :: l, y :: m, h, k, hp => by
    unfold Asc at h k
    rw [List.pairwise_cons] at h k
    have hxy : x = y := by
      have hx : x ∈ y :: m := hp.subset (List.mem_cons_self ..)
      have hy : y ∈ x :: l := hp.symm.subset (List.mem_cons_self ..)
      rcases List.mem_cons.1 hx with hx | hx
      · exact hx
      rcases List.mem_cons.1 hy with hy | hy
      · exact hy.symm
      have a := k.1 x hx
      have b := h.1 y hy
      rw [lt_as b] at a
      cases a
    subst hxy
    rw [Asc.uniq h.2 k.2 (List.Perm.cons_inv hp)]
set_option maxRecDepth 100000 in
theorem len640_A (S : Store) : CallA Tryz.prog 106 [.int .u64 0] S fun r S' => r = .int .i64 0 ∧ S' = S := by
  refine CallA.keep Tryz.func106 c69 (Nat.le_of_ble_eq_true rfl) fun σ hσ => ?_
  simp (disch := omega) only [a69, wrap_u64, wrap_u8, wrap_i64, ↓evPre, ↓evPreW, evPost, evPostW, evR, evU, seval]
  try decide
theorem len0_A (S : Store) : CallA Tryz.prog 71 [.int .u64 0] S fun r S' => r = .int .i64 0 ∧ S' = S := by
  refine CallA.keep Tryz.func71 c52 (Nat.le_of_ble_eq_true rfl) fun σ hσ => ?_
  simp only [a52, ↓evPre, ↓evPreW, evPost, evPostW, evR, evU, seval]
  refine (len640_A S).then ?_
  simp only [↓evPre, ↓evPreW, evPost, evPostW, evR, evU, seval]
theorem ins0_A (g : FuncId) (S : Store) : CallA Tryz.prog 97 [.nilSl, .int .i64 0, .int .i64 0, .func g [] []] S fun r S' => r = .tup [] ∧ S' = S := by
  refine CallA.keep Tryz.func97 c60 (Nat.le_of_ble_eq_true rfl) fun σ hσ => ?_
  simp (disch := omega) only [a60, wrap_i64, ↓evPre, ↓evPreW, evPost, evPostW, evR, evU, seval]
  refine loopA (ι := Unit) (fun _ => [(2, .int .i64 0), (8, .int .i64 1)]) (fun _ => S) (fun _ => True) (fun _ => 0) () trivial ?_ rfl ?_
  · simp only [↓evPre, ↓evPreW, evPost, evPostW, evR, evU, seval]
    try rfl
  · rintro _ _
    simp (disch := omega) only [wrap_i64, ↓evPre, ↓evPreW, evPost, evPostW, evR, evU, seval]
theorem pdq0_A (g : FuncId) (S : Store) : CallA Tryz.prog 70 [.nilSl, .int .i64 0, .int .i64 0, .int .i64 0, .func g [] []] S fun r S' => r = .tup [] ∧ S' = S := by
  refine CallA.keep Tryz.func70 c51 (Nat.le_of_ble_eq_true rfl) fun σ hσ => ?_
  simp (disch := omega) only [a51, wrap_i64, ↓evPre, ↓evPreW, evPost, evPostW, evR, evU, seval]
  refine loopA (ι := Unit) (fun _ => [(0, .nilSl), (1, .int .i64 0), (2, .int .i64 0), (4, .func g [] [])]) (fun _ => S) (fun _ => True) (fun _ => 0) () trivial ?_ rfl ?_
  · simp only [↓evPre, ↓evPreW, evPost, evPostW, evR, evU, seval]
    try rfl
  · rintro _ _
    simp (disch := omega) only [wrap_i64, ↓evPre, ↓evPreW, evPost, evPostW, evR, evU, seval]
    refine (ins0_A g S).then ?_
    simp (disch := omega) only [wrap_i64, ↓evPre, ↓evPreW, evPost, evPostW, evR, evU, seval]
theorem sortNil_A (g : FuncId) (S : Store) : CallA Tryz.prog 41 [.nilSl, .func g [] []] S fun r S' => r = .tup [] ∧ S' = S := by
  refine CallA.keep Tryz.func41 c37 (Nat.le_of_ble_eq_true rfl) fun σ hσ => ?_
  simp (disch := omega) only [a37, wrap_u64, ↓evPre, ↓evPreW, evPost, evPostW, evR, evU, seval]
  refine (len0_A S).then ?_
  simp (disch := omega) only [↓evPre, ↓evPreW, evPost, evPostW, evR, evU, seval]
  refine (pdq0_A g S).then ?_
  simp (disch := omega) only [↓evPre, ↓evPreW, evPost, evPostW, evR, evU, seval]
theorem sorted_A (l : List St) (S : Store) (id ver : Nat) (hl : l.length ≤ 1000000) (hs : S.obj? id ver = some (41, 4, l.map stR)) :
    CallA Tryz.prog 46 [.msl id ver 0 l.length] S fun r S' => r = .msl id ver 0 l.length ∧ ∃ l', l'.Perm l ∧ Srt l' ∧ S' = S.set id ⟨ver, some (.arr 41 4 (l'.map stR))⟩ := by
  refine CallA.keep Tryz.func46 c44 (Nat.le_of_ble_eq_true rfl) fun σ hσ => ?_
  simp only [a44, ↓evPre, ↓evPreW, evPost, evPostW, evR, evU, seval]
  refine (sort_A _ (@cmpS_A (Go.AL.Mode.tight inferInstance)) (sortNil_A _) l S id ver hl hs).mono ?_
  rintro r S' ⟨rfl, l', h1, h2, rfl⟩
  simp only [↓evPre, ↓evPreW, evPost, evPostW, evR, evU, seval]
  exact ⟨l', h1, h2, rfl⟩
end Go.Proofs.YtlnpfnoemhjheaaGreatDoor
