/- A set of holds and the reference's one behind it; the examples. -/
import Derived.Test.YthdcajfjglgiiaaHoldA
namespace Go.Proofs.Ythdcajfjglgiiaa
open Go Go.AL
set_option linter.unusedSectionVars false
variable [Go.AL.Mode] [Go.AL.LooseM]
set_option linter.unusedSimpArgs false
set_option linter.unusedVariables false

def duo (S : Store) (P R : List Hd) : Store := rst (hst S [] P) [] R
def dN (S : Store) : Nat := S.length + 3
section
variable {S T : Store} {P R : List Hd} {k ver : Nat} {o : AL.Obj}
theorem duo_len : (duo S P R).length = dN S := by unfold duo dN; rw [rst_len, rN, hst_len, hN]; simp
theorem duo_h : duo S P R ++ T = hst S (⟨0, some (.arr 74 1 [[.sl 5 (R.map hdR)]])⟩ :: T) P := by simp [duo, rst, rX, hst, hX]
theorem duo_r : duo S P R ++ T = rst (hst S [] P) T R := rst_app
theorem dn_ob : Store.obj? (duo S P R ++ T) (dN S + k) ver = Store.obj? T k ver := by rw [← duo_len (P := P) (R := R), ob_app]
theorem dn_ob0 : Store.obj? (duo S P R ++ T) (dN S) ver = Store.obj? T 0 ver := by rw [← duo_len (P := P) (R := R), ob_app0]
theorem dn_se : (duo S P R ++ T : Store).set (dN S + k) o = duo S P R ++ T.set k o := by rw [← duo_len (P := P) (R := R), se_app]
theorem dn_se0 : (duo S P R ++ T : Store).set (dN S) o = duo S P R ++ T.set 0 o := by rw [← duo_len (P := P) (R := R), se_app0]
theorem duo_neat (h : Neat S) : Neat (duo S P R) := rst_neat1 (hst_neat0 h) fun o ho => by cases ho
theorem duo_fgt (h : Neat S) : Fgt (duo S P R ++ T) S := by rw [duo_h]; simp only [hst, hX, List.append_assoc]; exact h.fgt _
theorem duo_lt : S.length + 1 < dN S := by unfold dN; omega
theorem duo_lt2 : hN S [] < dN S := by unfold dN hN; simp
end
theorem evD : ((type_of% @duo_len) ∧ (type_of% @dn_ob) ∧ (type_of% @dn_ob0) ∧ (type_of% @dn_se) ∧ (type_of% @dn_se0)) := ⟨@duo_len, @dn_ob, @dn_ob0, @dn_se, @dn_se0⟩

section
variable (S T : Store) (P L R : List Hd)
theorem NewD_A (S : Store) : CallA Try.prog 16 [] (hst S [] []) fun r S' => r = .ptr (hN S []) 0 0 0 ∧ S' = duo S [] [] := by
  have := NewR_A (hst S [] [])
  rw [hst_len] at this
  exact this

section
variable (hP : P.Perm L) (h : OkL L) (hl : L.length ≤ 1000000)
include hP h hl
theorem PutD (x : Hd) (hx : x.legs.length ≤ 1000000) : CallA Try.prog 9 [.ptr (S.length + 1) 0 0 0, .agg (hdR x)] (duo S P R ++ T) fun r S' => r = .int .i64 (putF L x).1 ∧ ∃ P', P'.Perm (putF L x).2 ∧ S' = duo S P' R ++ T := by
  rw [duo_h]
  refine (Put_A S _ P L hP h hl x hx).mono ?_
  rintro r S' ⟨rfl, P', h1, rfl⟩
  exact ⟨rfl, P', h1, duo_h.symm⟩
theorem DropD (id : Int) : CallA Try.prog 12 [.ptr (S.length + 1) 0 0 0, .int .i64 id] (duo S P R ++ T) fun r S' => r = .tup [.agg (hdR (dropF L id).1.1), .int .i64 (dropF L id).1.2] ∧ ∃ P', P'.Perm (dropF L id).2 ∧ S' = duo S P' R ++ T := by
  rw [duo_h]
  refine (Drop_A S _ P L hP h hl id).mono ?_
  rintro r S' ⟨rfl, P', h1, rfl⟩
  exact ⟨rfl, P', h1, duo_h.symm⟩
theorem ExtendD (id t : Int) : CallA Try.prog 13 [.ptr (S.length + 1) 0 0 0, .int .i64 id, .int .i64 t] (duo S P R ++ T) fun r S' => r = .int .i64 (extF L id t).1 ∧ ∃ P', P'.Perm (extF L id t).2 ∧ S' = duo S P' R ++ T := by
  rw [duo_h]
  refine (Extend_A S _ P L hP h hl id t).mono ?_
  rintro r S' ⟨rfl, P', h1, rfl⟩
  exact ⟨rfl, P', h1, duo_h.symm⟩
theorem ExpireD (now : Int) : CallA Try.prog 11 [.ptr (S.length + 1) 0 0 0, .int .i64 now] (duo S P R ++ T) fun r S' => r = .sl 5 ((goneF L now).map hdR) ∧ ∃ P', P'.Perm (restF L now) ∧ S' = duo S P' R ++ T := by
  rw [duo_h]
  refine (Expire_A S _ P L hP h hl now).mono ?_
  rintro r S' ⟨rfl, P', h1, rfl⟩
  exact ⟨rfl, P', h1, duo_h.symm⟩
theorem HeldD (hl2 : L.length ≤ 1000) (leg : Lg) (cls : List UInt8) : CallA Try.prog 14 [.ptr (S.length + 1) 0 0 0, .agg (lgR leg), .str cls] (duo S P R ++ T) fun r S' => r = .int .i64 (heldF L leg cls) ∧ S' = duo S P R ++ T := by
  rw [duo_h]
  exact Held_A S _ P L hP h hl hl2 leg cls
theorem AllD : CallA Try.prog 10 [.ptr (S.length + 1) 0 0 0] (duo S P R ++ T) fun r S' => r = .sl 5 (L.map hdR) ∧ S' = duo S P R ++ T := by
  rw [duo_h]
  exact AllL_A S _ P L hP h hl
end
section
variable (h : OkL R) (hl : R.length ≤ 1000000)
include h hl
theorem PutRD (x : Hd) (hx : x.legs.length ≤ 1000000) : CallA Try.prog 17 [.ptr (hN S []) 0 0 0, .agg (hdR x)] (duo S P R ++ T) fun r S' => r = .int .i64 (putF R x).1 ∧ S' = duo S P (putF R x).2 ++ T := by
  rw [duo_r, duo_r, ← hst_len (A := S) (B := []) (P := P)]
  exact PutR_A _ T R h hl x hx
theorem DropRD (id : Int) : CallA Try.prog 18 [.ptr (hN S []) 0 0 0, .int .i64 id] (duo S P R ++ T) fun r S' => r = .tup [.agg (hdR (dropF R id).1.1), .int .i64 (dropF R id).1.2] ∧ S' = duo S P (dropF R id).2 ++ T := by
  rw [duo_r, duo_r, ← hst_len (A := S) (B := []) (P := P)]
  exact DropR_A _ T R h hl id
theorem ExtendRD (id t : Int) : CallA Try.prog 20 [.ptr (hN S []) 0 0 0, .int .i64 id, .int .i64 t] (duo S P R ++ T) fun r S' => r = .int .i64 (extF R id t).1 ∧ S' = duo S P (extF R id t).2 ++ T := by
  rw [duo_r, duo_r, ← hst_len (A := S) (B := []) (P := P)]
  exact ExtendR_A _ T R h hl id t
theorem ExpireRD (now : Int) : CallA Try.prog 22 [.ptr (hN S []) 0 0 0, .int .i64 now] (duo S P R ++ T) fun r S' => r = .sl 5 ((goneF R now).map hdR) ∧ S' = duo S P (restF R now) ++ T := by
  rw [duo_r, duo_r, ← hst_len (A := S) (B := []) (P := P)]
  exact ExpireR_A _ T R h hl now
theorem HeldRD (hl2 : R.length ≤ 1000) (leg : Lg) (cls : List UInt8) : CallA Try.prog 23 [.ptr (hN S []) 0 0 0, .agg (lgR leg), .str cls] (duo S P R ++ T) fun r S' => r = .int .i64 (heldF R leg cls) ∧ S' = duo S P R ++ T := by
  rw [duo_r, ← hst_len (A := S) (B := []) (P := P)]
  exact HeldR_A _ T R h hl2 leg cls
end
theorem AllRD : CallA Try.prog 24 [.ptr (hN S []) 0 0 0] (duo S P R ++ T) fun r S' => r = .sl 5 (R.map hdR) ∧ S' = duo S P R ++ T := by
  rw [duo_r, ← hst_len (A := S) (B := []) (P := P)]
  exact AllR_A _ T R
end

/-! ### The examples -/
def leg0 : Lg := ⟨[66, 65], 117, 9497, [76, 72, 82]⟩
def h0a : Hd := ⟨1, [leg0], [89], 2, 50⟩
def h0b : Hd := ⟨2, [leg0], [89], 2, 40⟩
theorem p1 : putF [] h0a = (0, [h0a]) := by decide +kernel
theorem p2 : putF [h0a] h0b = (0, [h0b, h0a]) := by decide +kernel
theorem p3 : putF [h0b, h0a] h0a = (6, [h0b, h0a]) := by decide +kernel
theorem p4 : heldF [h0b, h0a] leg0 [89] = 4 := by decide +kernel
theorem p5 : goneF [h0b, h0a] 40 = [h0b] ∧ restF [h0b, h0a] 40 = [h0a] := by decide +kernel
theorem p6 : heldF [h0a] leg0 [89] = 2 := by decide +kernel
theorem ok1 : OkL [h0a] := by have := OkL.nil.put h0a (by decide); rwa [p1] at this
theorem ok2 : OkL [h0b, h0a] := by have := ok1.put h0b (by decide); rwa [p2] at this

theorem awake_A (S : Store) : CallA Try.prog 7 [] S fun r S' => r = .bool true ∧ S' = S := by
  refine CallA.withNeat Try.func7 c307 fun hn => ?_
  refine CallA.fin Try.func7 c307 (Nat.le_of_ble_eq_true rfl) fun σ hσ => ?_
  simp (disch := first | omega | (simp only [List.length_cons, List.length_nil, List.length_map, List.length_drop]; omega)) only [a307, evSt, ↓evPre, ↓evPreW, evPost, evPostW, ← List.map_take, ← List.map_drop, ↓reduceIte, reduceCtorEq, Nat.reduceEqDiff, forall_const, implies_true, Nat.reduceAdd, Nat.reduceSub, Nat.reduceMul, Nat.reduceLT, Nat.reduceLeDiff, Int.reduceToNat, Int.reduceAdd, Int.reduceSub, Int.reduceNeg, Int.reduceMul, Int.reduceLT, Int.reduceLE, Int.reduceEq]
  refine (New_A _).then2 ?_
  obtain ⟨A, hA⟩ : ∃ A, A = S ++ [(⟨0, none⟩ : AL.Obj)] := ⟨_, rfl⟩
  have hAl : A.length = S.length + 1 := by rw [hA]; simp
  have hfg : ∀ P T, Fgt (hst A [] P ++ T) S := fun P T => by
    rw [hA, hst, hX, List.append_assoc, List.append_assoc]
    exact hn.fgt _
  rw [← hA]
  have q1 := Put_A A [] [] [] (.refl _) .nil (by decide) h0a (by decide)
  have q2 := fun P hP => Put_A A [] P [h0a] hP ok1 (by decide) h0b (by decide)
  have q3 := fun P hP => Put_A A [] P [h0b, h0a] hP ok2 (by decide) h0a (by decide)
  have q4 := fun P hP => Held_A A [] P [h0b, h0a] hP ok2 (by decide) (by decide) leg0 [89]
  have q5 := fun P hP => Expire_A A [] P [h0b, h0a] hP ok2 (by decide) 40
  have q6 := fun P hP => Held_A A [] P [h0a] hP ok1 (by decide) (by decide) leg0 [89]
  rw [p1] at q1
  simp only [p2] at q2
  simp only [p3] at q3
  simp only [p4] at q4
  simp only [p5.1, p5.2] at q5
  simp only [p6] at q6
  simp only [hdR, h0a, h0b, leg0, lgR, List.map_cons, List.map_nil] at q1 q2 q3 q4 q5 q6
  simp (disch := first | omega | (simp only [List.length_cons, List.length_nil, List.length_map, List.length_drop]; omega)) only [evSt, ↓evPre, ↓evPreW, evPost, evPostW, ← List.map_take, ← List.map_drop, ↓reduceIte, reduceCtorEq, Nat.reduceEqDiff, forall_const, implies_true, Nat.reduceAdd, Nat.reduceSub, Nat.reduceMul, Nat.reduceLT, Nat.reduceLeDiff, Int.reduceToNat, Int.reduceAdd, Int.reduceSub, Int.reduceNeg, Int.reduceMul, Int.reduceLT, Int.reduceLE, Int.reduceEq]
  refine q1.mono ?_
  rintro r S' ⟨rfl, P1, hP1, rfl⟩
  simp (disch := first | omega | (simp only [List.length_cons, List.length_nil, List.length_map, List.length_drop]; omega)) only [evSt, ↓evPre, ↓evPreW, evPost, evPostW, ← List.map_take, ← List.map_drop, ↓reduceIte, reduceCtorEq, Nat.reduceEqDiff, forall_const, implies_true, Nat.reduceAdd, Nat.reduceSub, Nat.reduceMul, Nat.reduceLT, Nat.reduceLeDiff, Int.reduceToNat, Int.reduceAdd, Int.reduceSub, Int.reduceNeg, Int.reduceMul, Int.reduceLT, Int.reduceLE, Int.reduceEq]
  refine (q2 P1 hP1).mono ?_
  rintro r S' ⟨rfl, P2, hP2, rfl⟩
  simp (disch := first | omega | (simp only [List.length_cons, List.length_nil, List.length_map, List.length_drop]; omega)) only [evSt, ↓evPre, ↓evPreW, evPost, evPostW, ← List.map_take, ← List.map_drop, ↓reduceIte, reduceCtorEq, Nat.reduceEqDiff, forall_const, implies_true, Nat.reduceAdd, Nat.reduceSub, Nat.reduceMul, Nat.reduceLT, Nat.reduceLeDiff, Int.reduceToNat, Int.reduceAdd, Int.reduceSub, Int.reduceNeg, Int.reduceMul, Int.reduceLT, Int.reduceLE, Int.reduceEq]
  refine (q3 P2 hP2).mono ?_
  rintro r S' ⟨rfl, P3, hP3, rfl⟩
  simp (disch := first | omega | (simp only [List.length_cons, List.length_nil, List.length_map, List.length_drop]; omega)) only [evSt, ↓evPre, ↓evPreW, evPost, evPostW, ← List.map_take, ← List.map_drop, ↓reduceIte, reduceCtorEq, Nat.reduceEqDiff, forall_const, implies_true, Nat.reduceAdd, Nat.reduceSub, Nat.reduceMul, Nat.reduceLT, Nat.reduceLeDiff, Int.reduceToNat, Int.reduceAdd, Int.reduceSub, Int.reduceNeg, Int.reduceMul, Int.reduceLT, Int.reduceLE, Int.reduceEq]
  refine (q4 P3 hP3).then ?_
  simp (disch := first | omega | (simp only [List.length_cons, List.length_nil, List.length_map, List.length_drop]; omega)) only [evSt, ↓evPre, ↓evPreW, evPost, evPostW, ← List.map_take, ← List.map_drop, ↓reduceIte, reduceCtorEq, Nat.reduceEqDiff, forall_const, implies_true, Nat.reduceAdd, Nat.reduceSub, Nat.reduceMul, Nat.reduceLT, Nat.reduceLeDiff, Int.reduceToNat, Int.reduceAdd, Int.reduceSub, Int.reduceNeg, Int.reduceMul, Int.reduceLT, Int.reduceLE, Int.reduceEq]
  refine (q5 P3 hP3).mono ?_
  rintro r S' ⟨rfl, P4, hP4, rfl⟩
  simp (disch := first | omega | (simp only [List.length_cons, List.length_nil, List.length_map, List.length_drop]; omega)) only [evSt, ↓evPre, ↓evPreW, evPost, evPostW, ← List.map_take, ← List.map_drop, ↓reduceIte, reduceCtorEq, Nat.reduceEqDiff, forall_const, implies_true, Nat.reduceAdd, Nat.reduceSub, Nat.reduceMul, Nat.reduceLT, Nat.reduceLeDiff, Int.reduceToNat, Int.reduceAdd, Int.reduceSub, Int.reduceNeg, Int.reduceMul, Int.reduceLT, Int.reduceLE, Int.reduceEq]
  refine (q6 P4 hP4).then ?_
  simp (disch := first | omega | (simp only [List.length_cons, List.length_nil, List.length_map, List.length_drop]; omega)) only [evSt, ↓evPre, ↓evPreW, evPost, evPostW, ← List.map_take, ← List.map_drop, ↓reduceIte, reduceCtorEq, Nat.reduceEqDiff, forall_const, implies_true, Nat.reduceAdd, Nat.reduceSub, Nat.reduceMul, Nat.reduceLT, Nat.reduceLeDiff, Int.reduceToNat, Int.reduceAdd, Int.reduceSub, Int.reduceNeg, Int.reduceMul, Int.reduceLT, Int.reduceLE, Int.reduceEq]
  have := hfg P4 []
  rw [List.append_nil] at this
  exact ⟨.bool true, S, this, .imm rfl, Nat.le_refl _, rfl, rfl⟩
end Go.Proofs.Ythdcajfjglgiiaa
