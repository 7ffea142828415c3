/- Holds: the program's Expire. -/
import Derived.Test.YthdcajfjglgiiaaHold7
namespace Go.Proofs.Ythdcajfjglgiiaa
open Go Go.AL
set_option linter.unusedSectionVars false
variable [Go.AL.Mode] [Go.AL.LooseM]
set_option linter.unusedSimpArgs false
set_option linter.unusedVariables false

theorem gone_snoc {L : List Hd} {k : Nat} {x : Hd} (now : Int) (hc : L[k]? = some x) : goneF (L.take (k + 1)) now = if x.til ≤ now then goneF (L.take k) now ++ [x] else goneF (L.take k) now := by
  unfold goneF
  rw [take_at hc, List.filter_append, List.filter_cons]
  by_cases h : x.til ≤ now <;> simp [h]
theorem rest_snoc {L : List Hd} {k : Nat} {x : Hd} (now : Int) (hc : L[k]? = some x) : restF (L.take (k + 1)) now = if x.til ≤ now then restF (L.take k) now else restF (L.take k) now ++ [x] := by
  unfold restF
  rw [take_at hc, List.filter_append, List.filter_cons]
  by_cases h : x.til ≤ now <;> simp [h]
theorem mid_sub (L : List Hd) (k : Nat) (now : Int) : (restF (L.take k) now ++ L.drop k).Sublist L := by
  have h1 : (restF (L.take k) now).Sublist (L.take k) := List.filter_sublist
  have h2 := h1.append (List.Sublist.refl (L.drop k))
  rwa [List.take_append_drop] at h2
theorem del_mid {l m : List Hd} {x : Hd} (h : Uq (l ++ x :: m)) : delH (l ++ x :: m) x.id = l ++ m := by
  unfold Uq at h
  rw [List.pairwise_append, List.pairwise_cons] at h
  unfold delH
  rw [List.filter_append, List.filter_cons, dT rfl]
  simp only [Bool.not_true, Bool.false_eq_true, if_false]
  congr 1
  · rw [List.filter_eq_self]
    intro q hq
    rw [dF (fun e => h.2.2 q hq x (List.mem_cons_self ..) e.symm)]
    rfl
  · rw [List.filter_eq_self]
    intro q hq
    rw [dF (h.2.1.1 q hq)]
    rfl

section
variable (A B : Store) (P L : List Hd) (hP : P.Perm L) (h : OkL L) (hl : L.length ≤ 1000000)
include hP h hl

def exEnv (A B : Store) (L : List Hd) (now : Int) (k n v : Nat) : Env := [(0, .ptr (A.length + 1) 0 0 0), (1, .int .i64 now), (5, .msl (hN A B) v 0 n), (9, .sl 5 (L.map hdR)), (10, .int .i64 L.length), (11, .int .i64 (k : Nat))]
def exSt (A B : Store) (P : List Hd) (G : List Hd) (v : Nat) : Store := hst A B P ++ [⟨v, some (.arr 31 5 (G.map hdR))⟩]
omit hP h hl in
theorem ex_back (hn : Neat (hst A B P)) {now : Int} {k n v : Nat} {G : List Hd} {E : Env} {T : Store} {R : List (List V)} (hE : sub (exEnv A B L now k n v) E) (hR : R = G.map hdR) :
    Back (exEnv A B L now k n v) (exSt A B P G v) E (hst A B P ++ ⟨v, some (.arr 31 5 R)⟩ :: T) := by
  subst hR
  refine back_under (hn.fgtL (L := ⟨v, some (.arr 31 5 (G.map hdR))⟩ :: T) (L1 := [⟨v, some (.arr 31 5 (G.map hdR))⟩]) ⟨rfl, ⟨_, rfl, .imm (hdR_imm _)⟩, fgtL_nil⟩) hE ?_
  have e1 : A.length < hN A B := by unfold hN; omega
  simp [exEnv, hst_len, V.under, hN_lt, e1]

theorem Expire_A (now : Int) : CallA Try.prog 11 [.ptr (A.length + 1) 0 0 0, .int .i64 now] (hst A B P) fun r S' => r = .sl 5 ((goneF L now).map hdR) ∧ LvH A B (restF L now) S' := by
  refine CallA.withNeat Try.func11 c311 fun hn => ?_
  refine CallA.fin Try.func11 c311 (Nat.le_of_ble_eq_true rfl) fun σ hσ => ?_
  simp (disch := first | omega | (simp only [List.length_cons, List.length_nil, List.length_map, List.length_drop]; omega)) only [a311, evSt, ↓evPre, ↓evPreW, evPost, evPostW, ← List.map_take, ← List.map_drop, ↓reduceIte, reduceCtorEq, Nat.reduceEqDiff, forall_const, implies_true, Nat.reduceAdd, Nat.reduceSub, Nat.reduceMul, Nat.reduceLT, Nat.reduceLeDiff, Int.reduceToNat, Int.reduceAdd, Int.reduceSub, Int.reduceNeg, Int.reduceMul, Int.reduceLT, Int.reduceLE, Int.reduceEq]
  refine (AllL_A A B P L hP h hl).then ?_
  simp (disch := first | omega | (simp only [List.length_cons, List.length_nil, List.length_map, List.length_drop]; omega)) only [List.length_map, evSt, ↓evPre, ↓evPreW, evPost, evPostW, ← List.map_take, ← List.map_drop, ↓reduceIte, reduceCtorEq, Nat.reduceEqDiff, forall_const, implies_true, Nat.reduceAdd, Nat.reduceSub, Nat.reduceMul, Nat.reduceLT, Nat.reduceLeDiff, Int.reduceToNat, Int.reduceAdd, Int.reduceSub, Int.reduceNeg, Int.reduceMul, Int.reduceLT, Int.reduceLE, Int.reduceEq]
  refine LoopA.ghost 5 0 31 5 (by simp only [↓evPre, ↓evPreW, evPost, evPostW, ← List.map_take, ← List.map_drop, ↓reduceIte, reduceCtorEq, Nat.reduceEqDiff, forall_const, implies_true, Nat.reduceAdd, Nat.reduceSub, Nat.reduceMul, Nat.reduceLT, Nat.reduceLeDiff, Int.reduceToNat, Int.reduceAdd, Int.reduceSub, Int.reduceNeg, Int.reduceMul, Int.reduceLT, Int.reduceLE, Int.reduceEq]) ?_
  refine loopF (ι := Nat × List Hd × Nat) (fun p => exEnv A B L now p.1 (goneF (L.take p.1) now).length p.2.2) (fun p => exSt A B p.2.1 (goneF (L.take p.1) now) p.2.2) (fun p => p.1 ≤ L.length ∧ p.2.1.Perm (restF (L.take p.1) now ++ L.drop p.1)) (fun p => L.length - p.1)
    (fun p _ => by rw [hσ]; simp [exSt, hst_len]) (0, P, 0) ⟨Nat.zero_le _, by simpa [restF] using hP⟩ (.inl ⟨?_, ?_⟩) ?_
  · simp (disch := first | omega | (simp only [List.length_cons, List.length_nil, List.length_map, List.length_drop]; omega)) only [exEnv, hst_len, List.take_zero, goneF, List.filter_nil, List.length_nil, evSt, ↓evPre, ↓evPreW, evPost, evPostW, ← List.map_take, ← List.map_drop, ↓reduceIte, reduceCtorEq, Nat.reduceEqDiff, forall_const, implies_true, Nat.reduceAdd, Nat.reduceSub, Nat.reduceMul, Nat.reduceLT, Nat.reduceLeDiff, Int.reduceToNat, Int.reduceAdd, Int.reduceSub, Int.reduceNeg, Int.reduceMul, Int.reduceLT, Int.reduceLE, Int.reduceEq]
  · simp [exSt, goneF]
  rintro ⟨k, Pk, v⟩ ⟨hk, hp⟩
  simp only at hk hp ⊢
  have hnk : Neat (hst A B Pk) := hst_neat hn
  have huk : Uq Pk := Uq.perm (List.Pairwise.sublist (mid_sub L k now) h.uq) hp.symm
  have hgl : (goneF (L.take k) now).length ≤ L.length := by
    have h1 : (goneF (L.take k) now).length ≤ (L.take k).length := List.filter_sublist.length_le
    rw [List.length_take] at h1
    omega
  have e1 : exSt A B Pk (goneF (L.take k) now) v = hX A B (Pk.map entH) .free ++ [⟨v, some (.arr 31 5 ((goneF (L.take k) now).map hdR))⟩] := rfl
  have e2 : ((goneF (L.take k) now).map hdR).length = (goneF (L.take k) now).length := List.length_map ..
  rw [e1]
  cases hc : L[k]? with
  | none =>
    have hge : L.length ≤ k := List.getElem?_eq_none_iff.1 hc
    have hlt : ¬ ((k : Int) < L.length) := by omega
    rw [List.take_of_length_le hge, List.drop_eq_nil_iff.2 hge, List.append_nil] at hp
    rw [List.take_of_length_le hge]
    simp (disch := first | omega | (simp only [List.length_cons, List.length_nil, List.length_map, List.length_drop]; omega)) only [exEnv, dF hlt, evH, evSt, ↓evPre, ↓evPreW, evPost, evPostW, ← List.map_take, ← List.map_drop, ↓reduceIte, reduceCtorEq, Nat.reduceEqDiff, forall_const, implies_true, Nat.reduceAdd, Nat.reduceSub, Nat.reduceMul, Nat.reduceLT, Nat.reduceLeDiff, Int.reduceToNat, Int.reduceAdd, Int.reduceSub, Int.reduceNeg, Int.reduceMul, Int.reduceLT, Int.reduceLE, Int.reduceEq]
    have hob : Store.obj? (hst A B Pk ++ [⟨v, some (.arr 31 5 ((goneF L now).map hdR))⟩]) (hN A B) v = some (31, 5, (goneF L now).map hdR) := by unfold hst; simp (disch := first | omega | (simp only [List.length_cons, List.length_nil, List.length_map, List.length_drop]; omega)) only [evH, evSt, ↓evPre, ↓evPreW, evPost, evPostW, ← List.map_take, ← List.map_drop, ↓reduceIte, reduceCtorEq, Nat.reduceEqDiff, forall_const, implies_true, Nat.reduceAdd, Nat.reduceSub, Nat.reduceMul, Nat.reduceLT, Nat.reduceLeDiff, Int.reduceToNat, Int.reduceAdd, Int.reduceSub, Int.reduceNeg, Int.reduceMul, Int.reduceLT, Int.reduceLE, Int.reduceEq]
    refine ⟨.sl 5 ((goneF L now).map hdR), hst A B Pk, hnk.fgt _, ?_, by rw [hst_len, hst_len]; exact Nat.le_refl _, rfl, Pk, hp, rfl⟩
    exact .sl (t := 31) (by rw [hst_len]; exact Nat.le_refl _) hob (by simp) (hdR_imm _)
  | some x =>
    have hlt' := (List.getElem?_eq_some_iff.1 hc).1
    have hlt : (k : Int) < L.length := by omega
    have hk1 : (k : Int) + 1 = ((k + 1 : Nat) : Int) := by omega
    have hg := gone_snoc now hc
    have hr := rest_snoc now hc
    have hdx := drop_at hc
    by_cases h1 : x.til ≤ now
    · rw [if_pos h1] at hg hr
      have hd := del_ent x.id huk
      have hp2 : (delH Pk x.id).Perm (restF (L.take (k + 1)) now ++ L.drop (k + 1)) := by
        rw [hr]
        have h2 : (delH Pk x.id).Perm (delH (restF (L.take k) now ++ L.drop k) x.id) := hp.filter _
        rw [hdx] at h2
        have hu2 : Uq (restF (L.take k) now ++ x :: L.drop (k + 1)) := by
          have := List.Pairwise.sublist (mid_sub L k now) h.uq
          rw [hdx] at this
          exact this
        rwa [del_mid hu2] at h2
      have hgl2 : (goneF (L.take (k + 1)) now).length = (goneF (L.take k) now).length + 1 := by rw [hg]; simp
      have hgm : (goneF (L.take (k + 1)) now).map hdR = (goneF (L.take k) now).map hdR ++ [[.int .i64 x.id, .sl 4 (x.legs.map lgR), .str x.cls, .int .i64 x.cnt, .int .i64 x.til]] := by rw [hg]; simp [hdR]
      simp (disch := first | omega | (simp only [List.length_cons, List.length_nil, List.length_map, List.length_drop]; omega)) only [exEnv, dT hlt, dT h1, List.length_map, List.getElem?_map, Option.map_some, hc, hdR, wrap_i64, hk1, hd, e2, evH, evSt, ↓evPre, ↓evPreW, evPost, evPostW, ← List.map_take, ← List.map_drop, ↓reduceIte, reduceCtorEq, Nat.reduceEqDiff, forall_const, implies_true, Nat.reduceAdd, Nat.reduceSub, Nat.reduceMul, Nat.reduceLT, Nat.reduceLeDiff, Int.reduceToNat, Int.reduceAdd, Int.reduceSub, Int.reduceNeg, Int.reduceMul, Int.reduceLT, Int.reduceLE, Int.reduceEq]
      refine ⟨by unfold roomA; omega, (k + 1, delH Pk x.id, v + 1), ⟨hlt', hp2⟩, by simp only; omega, ?_⟩
      rw [hgl2]
      exact ex_back A B (delH Pk x.id) L (hst_neat hn) (by simp only [exEnv, ↓evPre, ↓evPreW, evPost, evPostW, ← List.map_take, ← List.map_drop, ↓reduceIte, reduceCtorEq, Nat.reduceEqDiff, forall_const, implies_true, Nat.reduceAdd, Nat.reduceSub, Nat.reduceMul, Nat.reduceLT, Nat.reduceLeDiff, Int.reduceToNat, Int.reduceAdd, Int.reduceSub, Int.reduceNeg, Int.reduceMul, Int.reduceLT, Int.reduceLE, Int.reduceEq]) hgm.symm
    · rw [if_neg h1] at hg hr
      simp (disch := first | omega | (simp only [List.length_cons, List.length_nil, List.length_map, List.length_drop]; omega)) only [exEnv, dT hlt, dF h1, List.length_map, List.getElem?_map, Option.map_some, hc, hdR, wrap_i64, hk1, evH, evSt, ↓evPre, ↓evPreW, evPost, evPostW, ← List.map_take, ← List.map_drop, ↓reduceIte, reduceCtorEq, Nat.reduceEqDiff, forall_const, implies_true, Nat.reduceAdd, Nat.reduceSub, Nat.reduceMul, Nat.reduceLT, Nat.reduceLeDiff, Int.reduceToNat, Int.reduceAdd, Int.reduceSub, Int.reduceNeg, Int.reduceMul, Int.reduceLT, Int.reduceLE, Int.reduceEq]
      refine ⟨(k + 1, Pk, v), ⟨hlt', ?_⟩, by simp only; omega, ?_⟩
      · rw [hr, List.append_assoc, List.singleton_append, ← hdx]
        exact hp
      · rw [hg]
        exact ex_back A B Pk L hnk (by simp only [exEnv, ↓evPre, ↓evPreW, evPost, evPostW, ← List.map_take, ← List.map_drop, ↓reduceIte, reduceCtorEq, Nat.reduceEqDiff, forall_const, implies_true, Nat.reduceAdd, Nat.reduceSub, Nat.reduceMul, Nat.reduceLT, Nat.reduceLeDiff, Int.reduceToNat, Int.reduceAdd, Int.reduceSub, Int.reduceNeg, Int.reduceMul, Int.reduceLT, Int.reduceLE, Int.reduceEq]) rfl
end
end Go.Proofs.Ythdcajfjglgiiaa
