/- The reference's mirror in the store: New, find, record, Put, Get, All; a mirror and the reference's one behind it. -/
import Derived.Test.YtdkcicbpcagonabAlN
import Derived.Test.YtdkcicbpcagonabMirG
import Derived.Test.YtdkcicbpcagonabRec9
import Derived.Test.YtdkcicbpcagonabMirT
namespace Go.Proofs.Ytdkcicbpcagonab
open Go Go.AL
set_option linter.unusedSimpArgs false
set_option linter.unusedVariables false

/-! ## The reference's mirror in the store: the struct and its rows. -/
def rwR (r : Rw) : List V := [.int .i64 r.1.t, .int .i64 r.1.c, .int .i64 r.1.v, .int .i64 r.1.s, .int .i64 (r.2 : Nat)]
/-- Rows of version v; what the struct says of them (version, length); how many changes. -/
def rfX (A B : Store) (v : Nat) (rows : List (List V)) (sv sn : Nat) (n : Int) : Store :=
  A ++ (⟨0, some (.arr 68 3 [[.bool true, .msl (A.length + 1) sv 0 sn, .int .i64 n]])⟩ :: ⟨v, some (.arr 70 5 rows)⟩ :: B)
def rfN (A B : Store) : Nat := A.length + (B.length + 2)

section
variable {A B L : Store} {v v' sv sv' sn sn' : Nat} {rows rows' : List (List V)} {n n' : Int} {k ver : Nat} {o : AL.Obj}
theorem rf_len : (rfX A B v rows sv sn n).length = rfN A B := by simp [rfX, rfN]
theorem rf_app : rfX A B v rows sv sn n ++ L = rfX A (B ++ L) v rows sv sn n := by simp [rfX]
theorem rf_ob0 : Store.obj? (rfX A B v rows sv sn n) A.length 0 = some (68, 3, [[.bool true, .msl (A.length + 1) sv 0 sn, .int .i64 n]]) := by rw [rfX, ob_app0]; rfl
theorem rf_ob1 : Store.obj? (rfX A B v rows sv sn n) (A.length + 1) v = some (70, 5, rows) := by rw [rfX, ob_app]; simp [Store.obj?]
theorem rf_se0 : (rfX A B v rows sv sn n).set A.length ⟨0, some (.arr 68 3 [[.bool true, .msl (A.length + 1) sv' 0 sn', .int .i64 n']])⟩ = rfX A B v rows sv' sn' n' := by rw [rfX, se_app0]; rfl
theorem rf_se1 : (rfX A B v rows sv sn n).set (A.length + 1) ⟨v', some (.arr 70 5 rows')⟩ = rfX A B v' rows' sv sn n := by rw [rfX, se_app]; rfl
theorem rl_ob0 : Store.obj? (rfX A B v rows sv sn n ++ L) A.length 0 = some (68, 3, [[.bool true, .msl (A.length + 1) sv 0 sn, .int .i64 n]]) := by rw [rf_app, rf_ob0]
theorem rl_ob1 : Store.obj? (rfX A B v rows sv sn n ++ L) (A.length + 1) v = some (70, 5, rows) := by rw [rf_app, rf_ob1]
theorem rl_se0 : (rfX A B v rows sv sn n ++ L : Store).set A.length ⟨0, some (.arr 68 3 [[.bool true, .msl (A.length + 1) sv' 0 sn', .int .i64 n']])⟩ = rfX A B v rows sv' sn' n' ++ L := by rw [rf_app, rf_se0, rf_app]
theorem rl_se1 : (rfX A B v rows sv sn n ++ L : Store).set (A.length + 1) ⟨v', some (.arr 70 5 rows')⟩ = rfX A B v' rows' sv sn n ++ L := by rw [rf_app, rf_se1, rf_app]
theorem rn_ob : Store.obj? (rfX A B v rows sv sn n ++ L) (rfN A B + k) ver = Store.obj? L k ver := by rw [← rf_len (v := v) (rows := rows) (sv := sv) (sn := sn) (n := n), ob_app]
theorem rn_ob0 : Store.obj? (rfX A B v rows sv sn n ++ L) (rfN A B) ver = Store.obj? L 0 ver := by rw [← rf_len (v := v) (rows := rows) (sv := sv) (sn := sn) (n := n), ob_app0]
theorem rn_se : (rfX A B v rows sv sn n ++ L : Store).set (rfN A B + k) o = rfX A B v rows sv sn n ++ L.set k o := by rw [← rf_len (v := v) (rows := rows) (sv := sv) (sn := sn) (n := n), se_app]
theorem rn_se0 : (rfX A B v rows sv sn n ++ L : Store).set (rfN A B) o = rfX A B v rows sv sn n ++ L.set 0 o := by rw [← rf_len (v := v) (rows := rows) (sv := sv) (sn := sn) (n := n), se_app0]
end
theorem evR : ((type_of% @rf_len) ∧ (type_of% @rf_ob0) ∧ (type_of% @rf_ob1) ∧ (type_of% @rf_se0) ∧ (type_of% @rf_se1)) ∧ ((type_of% @rl_ob0) ∧ (type_of% @rl_ob1) ∧ (type_of% @rl_se0) ∧ (type_of% @rl_se1)) ∧ ((type_of% @rn_ob) ∧ (type_of% @rn_ob0) ∧ (type_of% @rn_se) ∧ (type_of% @rn_se0)) :=
  ⟨⟨@rf_len, @rf_ob0, @rf_ob1, @rf_se0, @rf_se1⟩, ⟨@rl_ob0, @rl_ob1, @rl_se0, @rl_se1⟩, @rn_ob, @rn_ob0, @rn_se, @rn_se0⟩

/-- The reference's mirror. -/
def rst (A B : Store) (v : Nat) (M : Mi) : Store := rfX A B v (M.R.map rwR) v M.R.length (M.N : Nat)
theorem rst_len {A B : Store} {v : Nat} {M : Mi} : (rst A B v M).length = rfN A B := rf_len
theorem rst_app {A B L : Store} {v : Nat} {M : Mi} : rst A B v M ++ L = rst A (B ++ L) v M := rf_app
theorem rwR_imm (l : List Rw) : ∀ r ∈ l.map rwR, r.length = 5 ∧ V.allImm r = true := fun r hr => by
  obtain ⟨x, _, rfl⟩ := List.mem_map.1 hr
  exact ⟨rfl, rfl⟩
theorem rst_neat1 {A B : Store} {v : Nat} {M : Mi} (hA : Neat A) (hB : ∀ o ∈ B, objN (rfN A B) o) : Neat (rst A B v M) := by
  rw [neat_iff, rst_len]
  have hA' := neat_iff.1 hA
  have hle : A.length ≤ rfN A B := by unfold rfN; omega
  intro o ho
  simp only [rst, rfX, List.mem_append, List.mem_cons] at ho
  rcases ho with ho | rfl | rfl | ho
  · exact (hA' o ho).mono hle
  · intro r hr
    simp only [List.mem_singleton] at hr
    subst hr
    refine ⟨rfl, ?_⟩
    have e1 : A.length + 1 < rfN A B := by unfold rfN; omega
    simp [V.allUnder, V.under, e1]
  · intro r hr
    obtain ⟨h1, h2⟩ := rwR_imm M.R r hr
    exact ⟨h1, allImm_under _ h2⟩
  · exact hB o ho
theorem rst_neat0 {A : Store} {v : Nat} {M : Mi} (hA : Neat A) : Neat (rst A [] v M) := rst_neat1 hA fun o ho => by cases ho
theorem rst_neat {A B : Store} {v v' : Nat} {M M' : Mi} (h : Neat (rst A B v M)) : Neat (rst A B v' M') := by
  rw [neat_iff, rst_len] at h ⊢
  intro o ho
  simp only [rst, rfX, List.mem_append, List.mem_cons] at h ho
  rcases ho with ho | rfl | rfl | ho
  · exact h o (.inl ho)
  · intro r hr
    simp only [List.mem_singleton] at hr
    subst hr
    refine ⟨rfl, ?_⟩
    have e1 : A.length + 1 < rfN A B := by unfold rfN; omega
    simp [V.allUnder, V.under, e1]
  · intro r hr
    obtain ⟨h1, h2⟩ := rwR_imm M'.R r hr
    exact ⟨h1, allImm_under _ h2⟩
  · exact h o (.inr (.inr (.inr ho)))
theorem rst_fgt {A B T : Store} {v : Nat} {M : Mi} (h : Neat A) : Fgt (rst A B v M ++ T) A := by
  rw [rst, rfX, List.append_assoc]
  exact h.fgt _

/-- The index of a coupon, or -1. -/
def fi (x : St) : List Rw → Nat → Int
  | [], _ => -1
  | r :: l, k => if sameS x r.1 then (k : Nat) else fi x l (k + 1)
theorem fi_none {x : St} : ∀ {l : List Rw} {k : Nat}, findR l x = none → fi x l k = -1
  | [], _, _ => rfl
  | r :: l, k, h => by
    unfold findR at h
    rw [List.find?_cons] at h
    rw [fi]
    cases hs : sameS x r.1 with
    | true => rw [hs] at h; cases h
    | false => rw [hs] at h; rw [if_neg (by simp)]; exact fi_none h
theorem fi_some {x : St} {r : Rw} : ∀ {l : List Rw} {k : Nat}, findR l x = some r → ∃ i, fi x l k = ((k + i : Nat) : Int) ∧ l[i]? = some r ∧ ∀ n, updR x n l = l.set i (x, n)
  | [], _, h => by cases h
  | q :: l, k, h => by
    unfold findR at h
    rw [List.find?_cons] at h
    rw [fi]
    cases hs : sameS x q.1 with
    | true =>
      rw [hs] at h; cases h
      exact ⟨0, rfl, rfl, fun n => by rw [updR, hs]; rfl⟩
    | false =>
      rw [hs] at h
      obtain ⟨i, h1, h2, h3⟩ := fi_some (k := k + 1) (show findR l x = some r from h)
      refine ⟨i + 1, ?_, h2, fun n => ?_⟩
      · rw [if_neg (by simp), h1]; congr 1; omega
      · rw [updR, hs, if_neg (by simp), h3]; rfl
theorem updR_new {x : St} {n : Nat} : ∀ {l : List Rw}, findR l x = none → updR x n l = l ++ [(x, n)]
  | [], _ => rfl
  | q :: l, h => by
    unfold findR at h
    rw [List.find?_cons] at h
    cases hs : sameS x q.1 with
    | true => rw [hs] at h; cases h
    | false => rw [hs] at h; rw [updR, hs, if_neg (by simp), updR_new (show findR l x = none from h)]; rfl

theorem NewR_A (S : Store) : CallA Try.prog 21 [] S fun r S' => r = .ptr S.length 0 0 0 ∧ S' = rst S [] 0 Mi0 := by
  have h0 : CallA Try.prog 21 [] S fun r S' => r = .ptr S.length 0 0 0 ∧ S' = S ++ [⟨0, some (.arr 68 3 [[.bool true, .nilSl, .int .i64 0]])⟩] := by
    refine CallA.keep Try.func21 c11 (Nat.le_of_ble_eq_true rfl) fun σ hσ => ?_
    simp (disch := first | omega | (simp only [List.length_cons, List.length_nil, List.length_map, List.length_drop]; omega)) only [a11, evSt, ↓evPre, ↓evPreW, evPost, evPostW, ← List.map_take, ← List.map_drop, ↓reduceIte, reduceCtorEq, Nat.reduceEqDiff, forall_const, implies_true, Nat.reduceAdd, Nat.reduceSub, Nat.reduceMul, Nat.reduceLT, Nat.reduceLeDiff, Int.reduceToNat, Int.reduceAdd, Int.reduceSub, Int.reduceNeg, Int.reduceMul, Int.reduceLT, Int.reduceLE, Int.reduceEq]
  refine h0.ghostCell ?_
  rintro r S' ⟨rfl, rfl⟩
  refine ⟨S.length, 0, 68, 3, [[.bool true, .nilSl, .int .i64 0]], 0, [.bool true, .nilSl, .int .i64 0], 1, 0, 70, 5, by simp, rfl, rfl, rfl, ?_⟩
  simp [rst, rfX, Mi0]

section
variable (A B : Store) (M : Mi) (v : Nat)
theorem findR_A (hl : M.R.length ≤ 1000000) (t c : Int) : CallA Try.prog 35 [.ptr A.length 0 0 0, .int .i64 t, .int .i64 c] (rst A B v M) fun r S' => r = .int .i64 (fi ⟨t, c, 0, 0⟩ M.R 0) ∧ S' = rst A B v M := by
  refine CallA.keep Try.func35 c35 (Nat.le_of_ble_eq_true rfl) fun σ hσ => ?_
  simp (disch := first | omega | (simp only [List.length_cons, List.length_nil, List.length_map, List.length_drop]; omega)) only [a35, evSt, ↓evPre, ↓evPreW, evPost, evPostW, ← List.map_take, ← List.map_drop, ↓reduceIte, reduceCtorEq, Nat.reduceEqDiff, forall_const, implies_true, Nat.reduceAdd, Nat.reduceSub, Nat.reduceMul, Nat.reduceLT, Nat.reduceLeDiff, Int.reduceToNat, Int.reduceAdd, Int.reduceSub, Int.reduceNeg, Int.reduceMul, Int.reduceLT, Int.reduceLE, Int.reduceEq]
  refine loopA (ι := Nat) (fun k => [(0, .ptr A.length 0 0 0), (1, .int .i64 t), (2, .int .i64 c), (7, .int .i64 (k : Nat))]) (fun _ => rst A B v M) (fun k => k ≤ M.R.length ∧ fi ⟨t, c, 0, 0⟩ M.R 0 = fi ⟨t, c, 0, 0⟩ (M.R.drop k) k) (fun k => M.R.length - k) 0 ⟨Nat.zero_le _, rfl⟩ ?_ rfl ?_
  · simp only [↓evPre, ↓evPreW, evPost, evPostW, ← List.map_take, ← List.map_drop, ↓reduceIte, reduceCtorEq, Nat.reduceEqDiff, forall_const, implies_true, Nat.reduceAdd, Nat.reduceSub, Nat.reduceMul, Nat.reduceLT, Nat.reduceLeDiff, Int.reduceToNat, Int.reduceAdd, Int.reduceSub, Int.reduceNeg, Int.reduceMul, Int.reduceLT, Int.reduceLE, Int.reduceEq]
  rintro k ⟨hk, hf⟩
  cases hc : M.R[k]? with
  | none =>
    have hge : M.R.length ≤ k := List.getElem?_eq_none_iff.1 hc
    have hlt : ¬ ((k : Int) < M.R.length) := by omega
    rw [List.drop_eq_nil_iff.2 hge] at hf
    simp (disch := first | omega | (simp only [List.length_cons, List.length_nil, List.length_map, List.length_drop]; omega)) only [rst, evR, dF hlt, hf, fi, evSt, ↓evPre, ↓evPreW, evPost, evPostW, ← List.map_take, ← List.map_drop, ↓reduceIte, reduceCtorEq, Nat.reduceEqDiff, forall_const, implies_true, Nat.reduceAdd, Nat.reduceSub, Nat.reduceMul, Nat.reduceLT, Nat.reduceLeDiff, Int.reduceToNat, Int.reduceAdd, Int.reduceSub, Int.reduceNeg, Int.reduceMul, Int.reduceLT, Int.reduceLE, Int.reduceEq]
  | some r =>
    have hlt' := (List.getElem?_eq_some_iff.1 hc).1
    have hlt : (k : Int) < M.R.length := by omega
    have hd : M.R.drop k = r :: M.R.drop (k + 1) := by
      obtain ⟨_, rfl⟩ := List.getElem?_eq_some_iff.1 hc
      exact List.drop_eq_getElem_cons hlt'
    rw [hd, fi] at hf
    by_cases h1 : r.1.t = t
    · by_cases h2 : r.1.c = c
      · have hs : sameS ⟨t, c, 0, 0⟩ r.1 = true := by simp [sameS, h1, h2]
        rw [hs, if_pos rfl] at hf
        simp (disch := first | omega | (simp only [List.length_cons, List.length_nil, List.length_map, List.length_drop]; omega)) only [rst, evR, rwR, List.length_map, List.getElem?_map, Option.map_some, hc, dT hlt, dT h1, dT h2, hf, evSt, ↓evPre, ↓evPreW, evPost, evPostW, ← List.map_take, ← List.map_drop, ↓reduceIte, reduceCtorEq, Nat.reduceEqDiff, forall_const, implies_true, Nat.reduceAdd, Nat.reduceSub, Nat.reduceMul, Nat.reduceLT, Nat.reduceLeDiff, Int.reduceToNat, Int.reduceAdd, Int.reduceSub, Int.reduceNeg, Int.reduceMul, Int.reduceLT, Int.reduceLE, Int.reduceEq]
      · have hs : sameS ⟨t, c, 0, 0⟩ r.1 = false := by simp [sameS]; intro _ e; exact h2 e.symm
        rw [hs, if_neg (by simp)] at hf
        simp (disch := first | omega | (simp only [List.length_cons, List.length_nil, List.length_map, List.length_drop]; omega)) only [rst, evR, rwR, List.length_map, List.getElem?_map, Option.map_some, hc, dT hlt, dT h1, dF h2, wrap_i64, evSt, ↓evPre, ↓evPreW, evPost, evPostW, ← List.map_take, ← List.map_drop, ↓reduceIte, reduceCtorEq, Nat.reduceEqDiff, forall_const, implies_true, Nat.reduceAdd, Nat.reduceSub, Nat.reduceMul, Nat.reduceLT, Nat.reduceLeDiff, Int.reduceToNat, Int.reduceAdd, Int.reduceSub, Int.reduceNeg, Int.reduceMul, Int.reduceLT, Int.reduceLE, Int.reduceEq]
        exact ⟨k + 1, ⟨by omega, hf⟩, by omega, rfl⟩
    · have hs : sameS ⟨t, c, 0, 0⟩ r.1 = false := by simp [sameS]; intro e; exact absurd e.symm h1
      rw [hs, if_neg (by simp)] at hf
      simp (disch := first | omega | (simp only [List.length_cons, List.length_nil, List.length_map, List.length_drop]; omega)) only [rst, evR, rwR, List.length_map, List.getElem?_map, Option.map_some, hc, dT hlt, dF h1, wrap_i64, evSt, ↓evPre, ↓evPreW, evPost, evPostW, ← List.map_take, ← List.map_drop, ↓reduceIte, reduceCtorEq, Nat.reduceEqDiff, forall_const, implies_true, Nat.reduceAdd, Nat.reduceSub, Nat.reduceMul, Nat.reduceLT, Nat.reduceLeDiff, Int.reduceToNat, Int.reduceAdd, Int.reduceSub, Int.reduceNeg, Int.reduceMul, Int.reduceLT, Int.reduceLE, Int.reduceEq]
      exact ⟨k + 1, ⟨by omega, hf⟩, by omega, rfl⟩
end

/-! ## The reference's mirror: record, Put, Get. -/
theorem rst_fin {A B T : Store} {M : Mi} {v : Nat} {r r1 : V} {R : V → Store → Prop} (h : Neat (rst A B v M)) (hr : Frz (rst A B v M ++ T) (rst A B v M) r r1) (k : R r1 (rst A B v M)) :
    ∃ r1 S1, Fgt (rst A B v M ++ T) S1 ∧ Frz (rst A B v M ++ T) S1 r r1 ∧ rfN A B ≤ S1.length ∧ R r1 S1 :=
  ⟨r1, rst A B v M, h.fgt T, hr, by unfold rst; rw [rf_len]; exact Nat.le_refl _, k⟩
theorem rst_fin0 {A B : Store} {M : Mi} {v : Nat} {r r1 : V} {R : V → Store → Prop} (h : Neat (rst A B v M)) (hr : Frz (rst A B v M) (rst A B v M) r r1) (k : R r1 (rst A B v M)) :
    ∃ r1 S1, Fgt (rst A B v M) S1 ∧ Frz (rst A B v M) S1 r r1 ∧ rfN A B ≤ S1.length ∧ R r1 S1 :=
  ⟨r1, rst A B v M, h.self, hr, by unfold rst; rw [rf_len]; exact Nat.le_refl _, k⟩

section
variable (A B : Store) (M : Mi) (v : Nat)
theorem fi_key (x : St) (l : List Rw) (k : Nat) : fi ⟨x.t, x.c, 0, 0⟩ l k = fi x l k := by
  induction l generalizing k with
  | nil => rfl
  | cons r l ih => rw [fi, fi, ih]; rfl

theorem record_A (hl : M.R.length ≤ 1000000) (hN : M.N ≤ 1000000) (x : St) : CallA Try.prog 36 [.ptr A.length 0 0 0, stV x] (rst A B v M) fun r S' => r = .tup [] ∧ ∃ v', S' = rst A B v' (recM M x) := by
  refine CallA.withNeat Try.func36 c49 fun hn => ?_
  refine CallA.fin Try.func36 c49 (Nat.le_of_ble_eq_true rfl) fun σ hσ => ?_
  have hN1 : (M.N : Int) + 1 = ((M.N + 1 : Nat) : Int) := by omega
  have hff := findR_A A B ⟨M.R, M.N + 1⟩ v hl x.t x.c
  rw [fi_key] at hff
  have hl0 : (M.R.map rwR).length = M.R.length := List.length_map ..
  simp (disch := first | omega | (simp only [List.length_cons, List.length_nil, List.length_map, List.length_drop]; omega)) only [a49, stV, stR, rst, evR, wrap_i64, hN1, evSt, ↓evPre, ↓evPreW, evPost, evPostW, ← List.map_take, ← List.map_drop, ↓reduceIte, reduceCtorEq, Nat.reduceEqDiff, forall_const, implies_true, Nat.reduceAdd, Nat.reduceSub, Nat.reduceMul, Nat.reduceLT, Nat.reduceLeDiff, Int.reduceToNat, Int.reduceAdd, Int.reduceSub, Int.reduceNeg, Int.reduceMul, Int.reduceLT, Int.reduceLE, Int.reduceEq]
  refine hff.then ?_
  cases hf : findR M.R x with
  | none =>
    have hu : (recM M x).R = M.R ++ [(x, M.N + 1)] := updR_new hf
    simp only [fi_none hf]
    simp (disch := first | omega | (simp only [List.length_cons, List.length_nil, List.length_map, List.length_drop]; omega)) only [stV, stR, rst, evR, hl0, evSt, ↓evPre, ↓evPreW, evPost, evPostW, ← List.map_take, ← List.map_drop, ↓reduceIte, reduceCtorEq, Nat.reduceEqDiff, forall_const, implies_true, Nat.reduceAdd, Nat.reduceSub, Nat.reduceMul, Nat.reduceLT, Nat.reduceLeDiff, Int.reduceToNat, Int.reduceAdd, Int.reduceSub, Int.reduceNeg, Int.reduceMul, Int.reduceLT, Int.reduceLE, Int.reduceEq]
    refine ⟨by unfold roomA; omega, ?_⟩
    have e : rst A B (v + 1) (recM M x) = rfX A B (v + 1) (M.R.map rwR ++ [[.int .i64 x.t, .int .i64 x.c, .int .i64 x.v, .int .i64 x.s, .int .i64 ((M.N + 1 : Nat) : Int)]]) (v + 1) (M.R.length + 1) ((M.N + 1 : Nat) : Int) := by
      unfold rst
      rw [hu]
      simp [rwR, recM]
    rw [← e]
    exact rst_fin0 (rst_neat hn) (.imm rfl) ⟨rfl, _, rfl⟩
  | some r =>
    obtain ⟨i, h1, h2, h3⟩ := fi_some (k := 0) hf
    have h1' : fi x M.R 0 = (i : Nat) := by rw [h1, Nat.zero_add]
    have hge : ¬ ((i : Nat) : Int) < 0 := by omega
    have hlt := (List.getElem?_eq_some_iff.1 h2).1
    simp only [h1']
    simp (disch := first | omega | (simp only [List.length_cons, List.length_nil, List.length_map, List.length_drop]; omega)) only [stV, stR, rst, evR, dF hge, List.length_map, List.getElem?_map, Option.map_some, h2, rwR, evSt, ↓evPre, ↓evPreW, evPost, evPostW, ← List.map_take, ← List.map_drop, ↓reduceIte, reduceCtorEq, Nat.reduceEqDiff, forall_const, implies_true, Nat.reduceAdd, Nat.reduceSub, Nat.reduceMul, Nat.reduceLT, Nat.reduceLeDiff, Int.reduceToNat, Int.reduceAdd, Int.reduceSub, Int.reduceNeg, Int.reduceMul, Int.reduceLT, Int.reduceLE, Int.reduceEq]
    have e : rst A B v (recM M x) = rfX A B v ((M.R.map rwR).set i [.int .i64 x.t, .int .i64 x.c, .int .i64 x.v, .int .i64 x.s, .int .i64 ((M.N + 1 : Nat) : Int)]) v M.R.length ((M.N + 1 : Nat) : Int) := by
      unfold rst
      rw [show (recM M x).R = M.R.set i (x, M.N + 1) from h3 (M.N + 1)]
      simp [rwR, recM]
    rw [← e]
    exact rst_fin0 (rst_neat hn) (.imm rfl) ⟨rfl, _, rfl⟩

/-- What a call leaves of the reference's mirror. -/
def LeavesR (A B : Store) (M : Mi) (S' : Store) : Prop := ∃ v, S' = rst A B v M

theorem PutR_A (hl : M.R.length ≤ 1000000) (hN : M.N ≤ 1000000) (x : St) : CallA Try.prog 23 [.ptr A.length 0 0 0, stV x] (rst A B v M) fun r S' => r = .int .i64 (putF M x).1 ∧ LeavesR A B (putF M x).2 S' := by
  refine CallA.withNeat Try.func23 c32 fun hn => ?_
  refine CallA.fin Try.func23 c32 (Nat.le_of_ble_eq_true rfl) fun σ hσ => ?_
  have hff := findR_A A B M v hl x.t x.c
  rw [fi_key] at hff
  have same : ∀ (n : Nat), putF M x = ((n : Int), M) → ∃ r1 S1, Fgt (rst A B v M) S1 ∧ Frz (rst A B v M) S1 (.int .i64 (n : Int)) r1 ∧ rfN A B ≤ S1.length ∧ r1 = .int .i64 (putF M x).1 ∧ LeavesR A B (putF M x).2 S1 := fun n hp =>
    rst_fin0 hn (.imm rfl) ⟨by rw [hp], by rw [hp]; exact ⟨v, rfl⟩⟩
  have fin : ∀ (v' : Nat), putF M x = (0, recM M x) → ∃ r1 S1, Fgt (rst A B v' (recM M x)) S1 ∧ Frz (rst A B v' (recM M x)) S1 (.int .i64 0) r1 ∧ rfN A B ≤ S1.length ∧ r1 = .int .i64 (putF M x).1 ∧ LeavesR A B (putF M x).2 S1 := fun v' hp =>
    rst_fin0 (rst_neat hn) (.imm rfl) ⟨by rw [hp], by rw [hp]; exact ⟨v', rfl⟩⟩
  by_cases h1 : x.v < 1
  · simp (disch := first | omega | (simp only [List.length_cons, List.length_nil, List.length_map, List.length_drop]; omega)) only [a32, stV, stR, rst, evR, dT h1, evSt, ↓evPre, ↓evPreW, evPost, evPostW, ← List.map_take, ← List.map_drop, ↓reduceIte, reduceCtorEq, Nat.reduceEqDiff, forall_const, implies_true, Nat.reduceAdd, Nat.reduceSub, Nat.reduceMul, Nat.reduceLT, Nat.reduceLeDiff, Int.reduceToNat, Int.reduceAdd, Int.reduceSub, Int.reduceNeg, Int.reduceMul, Int.reduceLT, Int.reduceLE, Int.reduceEq]
    exact same 2 (by rw [putF, if_pos (.inl h1)]; rfl)
  by_cases h2 : x.s < 1
  · simp (disch := first | omega | (simp only [List.length_cons, List.length_nil, List.length_map, List.length_drop]; omega)) only [a32, stV, stR, rst, evR, dF h1, dT h2, evSt, ↓evPre, ↓evPreW, evPost, evPostW, ← List.map_take, ← List.map_drop, ↓reduceIte, reduceCtorEq, Nat.reduceEqDiff, forall_const, implies_true, Nat.reduceAdd, Nat.reduceSub, Nat.reduceMul, Nat.reduceLT, Nat.reduceLeDiff, Int.reduceToNat, Int.reduceAdd, Int.reduceSub, Int.reduceNeg, Int.reduceMul, Int.reduceLT, Int.reduceLE, Int.reduceEq]
    exact same 2 (by rw [putF, if_pos (.inr (.inl h2))]; rfl)
  by_cases h3 : 8 < x.s
  · simp (disch := first | omega | (simp only [List.length_cons, List.length_nil, List.length_map, List.length_drop]; omega)) only [a32, stV, stR, rst, evR, dF h1, dF h2, dT h3, evSt, ↓evPre, ↓evPreW, evPost, evPostW, ← List.map_take, ← List.map_drop, ↓reduceIte, reduceCtorEq, Nat.reduceEqDiff, forall_const, implies_true, Nat.reduceAdd, Nat.reduceSub, Nat.reduceMul, Nat.reduceLT, Nat.reduceLeDiff, Int.reduceToNat, Int.reduceAdd, Int.reduceSub, Int.reduceNeg, Int.reduceMul, Int.reduceLT, Int.reduceLE, Int.reduceEq]
    exact same 2 (by rw [putF, if_pos (.inr (.inr h3))]; rfl)
  have h123 : ¬ (x.v < 1 ∨ x.s < 1 ∨ 8 < x.s) := by omega
  simp (disch := first | omega | (simp only [List.length_cons, List.length_nil, List.length_map, List.length_drop]; omega)) only [a32, stV, stR, rst, evR, dF h1, dF h2, dF h3, evSt, ↓evPre, ↓evPreW, evPost, evPostW, ← List.map_take, ← List.map_drop, ↓reduceIte, reduceCtorEq, Nat.reduceEqDiff, forall_const, implies_true, Nat.reduceAdd, Nat.reduceSub, Nat.reduceMul, Nat.reduceLT, Nat.reduceLeDiff, Int.reduceToNat, Int.reduceAdd, Int.reduceSub, Int.reduceNeg, Int.reduceMul, Int.reduceLT, Int.reduceLE, Int.reduceEq]
  refine hff.then ?_
  cases hf : findR M.R x with
  | none =>
    have hp : putF M x = (0, recM M x) := by rw [putF, if_neg h123, hf]
    simp only [fi_none hf]
    simp (disch := first | omega | (simp only [List.length_cons, List.length_nil, List.length_map, List.length_drop]; omega)) only [stV, stR, rst, evR, evSt, ↓evPre, ↓evPreW, evPost, evPostW, ← List.map_take, ← List.map_drop, ↓reduceIte, reduceCtorEq, Nat.reduceEqDiff, forall_const, implies_true, Nat.reduceAdd, Nat.reduceSub, Nat.reduceMul, Nat.reduceLT, Nat.reduceLeDiff, Int.reduceToNat, Int.reduceAdd, Int.reduceSub, Int.reduceNeg, Int.reduceMul, Int.reduceLT, Int.reduceLE, Int.reduceEq]
    refine (record_A A B M v hl hN x).mono ?_
    rintro r S' ⟨rfl, v', hS'⟩
    subst hS'
    simp (disch := first | omega | (simp only [List.length_cons, List.length_nil, List.length_map, List.length_drop]; omega)) only [evSt, ↓evPre, ↓evPreW, evPost, evPostW, ← List.map_take, ← List.map_drop, ↓reduceIte, reduceCtorEq, Nat.reduceEqDiff, forall_const, implies_true, Nat.reduceAdd, Nat.reduceSub, Nat.reduceMul, Nat.reduceLT, Nat.reduceLeDiff, Int.reduceToNat, Int.reduceAdd, Int.reduceSub, Int.reduceNeg, Int.reduceMul, Int.reduceLT, Int.reduceLE, Int.reduceEq]
    exact fin v' hp
  | some r =>
    obtain ⟨i, h4, h5, h6⟩ := fi_some (k := 0) hf
    have h4' : fi x M.R 0 = (i : Nat) := by rw [h4, Nat.zero_add]
    have hge : (0 : Int) ≤ ((i : Nat) : Int) := by omega
    have hlt := (List.getElem?_eq_some_iff.1 h5).1
    simp only [h4']
    by_cases h7 : x.v ≤ r.1.v
    · have hp : putF M x = (30, M) := by rw [putF, if_neg h123, hf]; simp only [h7, if_true]
      simp (disch := first | omega | (simp only [List.length_cons, List.length_nil, List.length_map, List.length_drop]; omega)) only [stV, stR, rst, evR, dT hge, dT h7, List.length_map, List.getElem?_map, Option.map_some, h5, rwR, evSt, ↓evPre, ↓evPreW, evPost, evPostW, ← List.map_take, ← List.map_drop, ↓reduceIte, reduceCtorEq, Nat.reduceEqDiff, forall_const, implies_true, Nat.reduceAdd, Nat.reduceSub, Nat.reduceMul, Nat.reduceLT, Nat.reduceLeDiff, Int.reduceToNat, Int.reduceAdd, Int.reduceSub, Int.reduceNeg, Int.reduceMul, Int.reduceLT, Int.reduceLE, Int.reduceEq]
      exact same 30 hp
    · have hp : putF M x = (0, recM M x) := by rw [putF, if_neg h123, hf]; simp only [h7, if_false]
      simp (disch := first | omega | (simp only [List.length_cons, List.length_nil, List.length_map, List.length_drop]; omega)) only [stV, stR, rst, evR, dT hge, dF h7, List.length_map, List.getElem?_map, Option.map_some, h5, rwR, evSt, ↓evPre, ↓evPreW, evPost, evPostW, ← List.map_take, ← List.map_drop, ↓reduceIte, reduceCtorEq, Nat.reduceEqDiff, forall_const, implies_true, Nat.reduceAdd, Nat.reduceSub, Nat.reduceMul, Nat.reduceLT, Nat.reduceLeDiff, Int.reduceToNat, Int.reduceAdd, Int.reduceSub, Int.reduceNeg, Int.reduceMul, Int.reduceLT, Int.reduceLE, Int.reduceEq]
      refine (record_A A B M v hl hN x).mono ?_
      rintro r S' ⟨rfl, v', hS'⟩
      subst hS'
      simp (disch := first | omega | (simp only [List.length_cons, List.length_nil, List.length_map, List.length_drop]; omega)) only [evSt, ↓evPre, ↓evPreW, evPost, evPostW, ← List.map_take, ← List.map_drop, ↓reduceIte, reduceCtorEq, Nat.reduceEqDiff, forall_const, implies_true, Nat.reduceAdd, Nat.reduceSub, Nat.reduceMul, Nat.reduceLT, Nat.reduceLeDiff, Int.reduceToNat, Int.reduceAdd, Int.reduceSub, Int.reduceNeg, Int.reduceMul, Int.reduceLT, Int.reduceLE, Int.reduceEq]
      exact fin v' hp

theorem GetR_A (hl : M.R.length ≤ 1000000) (t c : Int) : CallA Try.prog 43 [.ptr A.length 0 0 0, .int .i64 t, .int .i64 c] (rst A B v M) fun r S' => r = .tup [stV (getF M t c).1, .bool (getF M t c).2] ∧ S' = rst A B v M := by
  refine CallA.withNeat Try.func43 c15 fun hn => ?_
  refine CallA.fin Try.func43 c15 (Nat.le_of_ble_eq_true rfl) fun σ hσ => ?_
  have hff := findR_A A (B ++ [⟨0, some (.arr 27 4 [[.int .i64 0, .int .i64 0, .int .i64 0, .int .i64 0]])⟩]) M v hl t c
  rw [← rst_app] at hff
  simp (disch := first | omega | (simp only [List.length_cons, List.length_nil, List.length_map, List.length_drop]; omega)) only [a15, rst, evR, evSt, ↓evPre, ↓evPreW, evPost, evPostW, ← List.map_take, ← List.map_drop, ↓reduceIte, reduceCtorEq, Nat.reduceEqDiff, forall_const, implies_true, Nat.reduceAdd, Nat.reduceSub, Nat.reduceMul, Nat.reduceLT, Nat.reduceLeDiff, Int.reduceToNat, Int.reduceAdd, Int.reduceSub, Int.reduceNeg, Int.reduceMul, Int.reduceLT, Int.reduceLE, Int.reduceEq]
  refine hff.then ?_
  cases hf : findR M.R ⟨t, c, 0, 0⟩ with
  | none =>
    have hp : getF M t c = (⟨0, 0, 0, 0⟩, false) := by rw [getF, hf]
    simp only [fi_none hf]
    simp (disch := first | omega | (simp only [List.length_cons, List.length_nil, List.length_map, List.length_drop]; omega)) only [stV, stR, rst, evR, evSt, ↓evPre, ↓evPreW, evPost, evPostW, ← List.map_take, ← List.map_drop, ↓reduceIte, reduceCtorEq, Nat.reduceEqDiff, forall_const, implies_true, Nat.reduceAdd, Nat.reduceSub, Nat.reduceMul, Nat.reduceLT, Nat.reduceLeDiff, Int.reduceToNat, Int.reduceAdd, Int.reduceSub, Int.reduceNeg, Int.reduceMul, Int.reduceLT, Int.reduceLE, Int.reduceEq]
    exact rst_fin hn (.imm rfl) ⟨by rw [hp], rfl⟩
  | some r =>
    have hp : getF M t c = (r.1, true) := by rw [getF, hf]
    obtain ⟨i, h4, h5, h6⟩ := fi_some (k := 0) hf
    have h4' : fi ⟨t, c, 0, 0⟩ M.R 0 = (i : Nat) := by rw [h4, Nat.zero_add]
    have hge : ¬ ((i : Nat) : Int) < 0 := by omega
    have hlt := (List.getElem?_eq_some_iff.1 h5).1
    simp only [h4']
    simp (disch := first | omega | (simp only [List.length_cons, List.length_nil, List.length_map, List.length_drop]; omega)) only [stV, stR, rst, evR, dF hge, List.length_map, List.getElem?_map, Option.map_some, h5, rwR, evSt, ↓evPre, ↓evPreW, evPost, evPostW, ← List.map_take, ← List.map_drop, ↓reduceIte, reduceCtorEq, Nat.reduceEqDiff, forall_const, implies_true, Nat.reduceAdd, Nat.reduceSub, Nat.reduceMul, Nat.reduceLT, Nat.reduceLeDiff, Int.reduceToNat, Int.reduceAdd, Int.reduceSub, Int.reduceNeg, Int.reduceMul, Int.reduceLT, Int.reduceLE, Int.reduceEq]
    exact rst_fin hn (.imm rfl) ⟨by rw [hp], rfl⟩
end

/-! ## The reference's mirror: All. -/
def allF (l : List St) : List St := l.foldl (fun out x => insR x out) []
theorem allF_snoc (l : List St) (x : St) : allF (l ++ [x]) = insR x (allF l) := by unfold allF; rw [List.foldl_append]; rfl
theorem insR_perm (x : St) (l : List St) : (insR x l).Perm (l ++ [x]) := by
  rw [insR_eq]
  have h1 : (l.take (atR x l) ++ x :: l.drop (atR x l)).Perm (x :: (l.take (atR x l) ++ l.drop (atR x l))) := List.perm_middle
  rw [List.take_append_drop] at h1
  exact h1.trans (List.perm_append_comm (l₁ := [x]) (l₂ := l))
theorem allF_perm (l : List St) : (allF l).Perm l := by
  generalize hn : l.length = n
  induction n generalizing l with
  | zero => rw [List.length_eq_zero_iff.1 hn]; exact .refl _
  | succ n ih =>
    have hne : l ≠ [] := fun h => by rw [h] at hn; cases hn
    obtain ⟨l', x, rfl⟩ : ∃ l' x, l = l' ++ [x] := ⟨l.dropLast, l.getLast hne, (List.dropLast_concat_getLast hne).symm⟩
    rw [allF_snoc]
    exact (insR_perm x _).trans ((ih l' (by simpa using hn)).append_right [x])
theorem allF_len (l : List St) : (allF l).length = l.length := (allF_perm l).length_eq
theorem allF_asc (l : List St) (h : Apart l) : Asc (allF l) := by
  generalize hn : l.length = n
  induction n generalizing l with
  | zero => rw [List.length_eq_zero_iff.1 hn]; exact List.Pairwise.nil
  | succ n ih =>
    have hne : l ≠ [] := fun h => by rw [h] at hn; cases hn
    obtain ⟨l', x, rfl⟩ : ∃ l' x, l = l' ++ [x] := ⟨l.dropLast, l.getLast hne, (List.dropLast_concat_getLast hne).symm⟩
    have ha' : Apart l' ∧ ∀ y ∈ l', sameS y x = false := by
      unfold Apart at h
      rw [List.pairwise_append] at h
      exact ⟨h.1, fun y hy => h.2.2 y hy x (by simp)⟩
    rw [allF_snoc]
    refine insR_asc (ih l' ha'.1 (by simpa using hn)) ?_
    rw [List.find?_eq_none]
    intro y hy hs
    have := ha'.2 y ((allF_perm l').subset hy)
    rw [same_sym] at this
    rw [this] at hs; cases hs
theorem allF_isAll {M : Mi} (h : WF M) : isAll M (allF (M.R.map (·.1))) := ⟨allF_asc _ h.apartL, allF_perm _⟩

section
variable (A B : Store) (M : Mi) (v : Nat)
set_option maxRecDepth 100000 in
theorem AllR_A (hl : M.R.length ≤ 1000) : CallA Try.prog 15 [.ptr A.length 0 0 0] (rst A B v M) fun r S' => r = stSl (allF (M.R.map (·.1))) ∧ S' = rst A B v M := by
  refine CallA.withNeat Try.func15 c22 fun hn => ?_
  refine CallA.fin Try.func15 c22 (Nat.le_of_ble_eq_true rfl) fun σ hσ => ?_
  simp (disch := first | omega | (simp only [List.length_cons, List.length_nil, List.length_map, List.length_drop]; omega)) only [a22, evSt, ↓evPre, ↓evPreW, evPost, evPostW, ← List.map_take, ← List.map_drop, ↓reduceIte, reduceCtorEq, Nat.reduceEqDiff, forall_const, implies_true, Nat.reduceAdd, Nat.reduceSub, Nat.reduceMul, Nat.reduceLT, Nat.reduceLeDiff, Int.reduceToNat, Int.reduceAdd, Int.reduceSub, Int.reduceNeg, Int.reduceMul, Int.reduceLT, Int.reduceLE, Int.reduceEq]
  refine LoopA.ghost 3 0 27 4 (by simp only [↓evPre, ↓evPreW, evPost, evPostW, ← List.map_take, ← List.map_drop, ↓reduceIte, reduceCtorEq, Nat.reduceEqDiff, forall_const, implies_true, Nat.reduceAdd, Nat.reduceSub, Nat.reduceMul, Nat.reduceLT, Nat.reduceLeDiff, Int.reduceToNat, Int.reduceAdd, Int.reduceSub, Int.reduceNeg, Int.reduceMul, Int.reduceLT, Int.reduceLE, Int.reduceEq]) ?_
  refine loopF (ι := Nat) (fun i => [(0, .ptr A.length 0 0 0), (3, .msl (rfN A B) (2 * i) 0 i), (4, .int .i64 (i : Nat))]) (fun i => rst A B v M ++ [⟨2 * i, some (.arr 27 4 ((allF ((M.R.take i).map (·.1))).map stR))⟩]) (fun i => i ≤ M.R.length) (fun i => M.R.length - i) (fun i hi => by rw [hσ]; simp) 0 (Nat.zero_le _) (.inl ⟨?_, ?_⟩) ?_
  · simp only [rst_len, ↓evPre, ↓evPreW, evPost, evPostW, ← List.map_take, ← List.map_drop, ↓reduceIte, reduceCtorEq, Nat.reduceEqDiff, forall_const, implies_true, Nat.reduceAdd, Nat.reduceSub, Nat.reduceMul, Nat.reduceLT, Nat.reduceLeDiff, Int.reduceToNat, Int.reduceAdd, Int.reduceSub, Int.reduceNeg, Int.reduceMul, Int.reduceLT, Int.reduceLE, Int.reduceEq]
  · simp [allF]
  intro i hi
  cases hc : M.R[i]? with
  | none =>
    have hge : M.R.length ≤ i := List.getElem?_eq_none_iff.1 hc
    have hlt : ¬ ((i : Int) < M.R.length) := by omega
    have hii : i = M.R.length := by omega
    rw [List.take_of_length_le hge]
    have hal := allF_len (M.R.map (·.1))
    rw [List.length_map] at hal
    simp (disch := first | omega | (simp only [List.length_cons, List.length_nil, List.length_map, List.length_drop]; omega)) only [rst, evR, dF hlt, evSt, ↓evPre, ↓evPreW, evPost, evPostW, ← List.map_take, ← List.map_drop, ↓reduceIte, reduceCtorEq, Nat.reduceEqDiff, forall_const, implies_true, Nat.reduceAdd, Nat.reduceSub, Nat.reduceMul, Nat.reduceLT, Nat.reduceLeDiff, Int.reduceToNat, Int.reduceAdd, Int.reduceSub, Int.reduceNeg, Int.reduceMul, Int.reduceLT, Int.reduceLE, Int.reduceEq]
    refine ⟨stSl (allF (M.R.map (·.1))), rst A B v M, hn.fgt _, ?_, by rw [rst_len]; exact Nat.le_refl _, rfl, rfl⟩
    rw [hii, ← hal]
    exact .sl (t := 27) (by rw [rst_len]; exact Nat.le_refl _) (by simp (disch := first | omega | (simp only [List.length_cons, List.length_nil, List.length_map, List.length_drop]; omega)) only [evR, evSt, ↓evPre, ↓evPreW, evPost, evPostW, ← List.map_take, ← List.map_drop, ↓reduceIte, reduceCtorEq, Nat.reduceEqDiff, forall_const, implies_true, Nat.reduceAdd, Nat.reduceSub, Nat.reduceMul, Nat.reduceLT, Nat.reduceLeDiff, Int.reduceToNat, Int.reduceAdd, Int.reduceSub, Int.reduceNeg, Int.reduceMul, Int.reduceLT, Int.reduceLE, Int.reduceEq]) (by simp) (stR_imm _)
  | some r =>
    have hlt' := (List.getElem?_eq_some_iff.1 hc).1
    have hlt : (i : Int) < M.R.length := by omega
    have hal := allF_len ((M.R.take i).map (·.1))
    rw [List.length_map, List.length_take, Nat.min_eq_left hi] at hal
    have hnx : allF ((M.R.take (i + 1)).map (·.1)) = insR r.1 (allF ((M.R.take i).map (·.1))) := by rw [List.take_add_one, hc, Option.toList_some, List.map_append]; exact allF_snoc _ _
    rw [insR_eq] at hnx
    have hat := atR_le r.1 (allF ((M.R.take i).map (·.1)))
    have hatlt := fun k => atR_lt r.1 (l := allF ((M.R.take i).map (·.1))) (k := k)
    have hatat := fun z => atR_at r.1 (l := allF ((M.R.take i).map (·.1))) (z := z)
    generalize atR r.1 (allF ((M.R.take i).map (·.1))) = p at hnx hat hatlt hatat
    generalize allF ((M.R.take i).map (·.1)) = out at hal hnx hat hatlt hatat ⊢
    simp (disch := first | omega | (simp only [List.length_cons, List.length_nil, List.length_map, List.length_drop]; omega)) only [rst, evR, dT hlt, rwR, List.length_map, List.getElem?_map, Option.map_some, hc, evSt, ↓evPre, ↓evPreW, evPost, evPostW, ← List.map_take, ← List.map_drop, ↓reduceIte, reduceCtorEq, Nat.reduceEqDiff, forall_const, implies_true, Nat.reduceAdd, Nat.reduceSub, Nat.reduceMul, Nat.reduceLT, Nat.reduceLeDiff, Int.reduceToNat, Int.reduceAdd, Int.reduceSub, Int.reduceNeg, Int.reduceMul, Int.reduceLT, Int.reduceLE, Int.reduceEq]
    refine loopA (ι := Nat) (fun k => [(0, .ptr A.length 0 0 0), (3, .msl (rfN A B) (2 * i) 0 i), (4, .int .i64 (i : Nat)), (5, .ptr (rfN A B + 1) 0 0 0), (6, .int .i64 (k : Nat))]) (fun _ => rst A B v M ++ [⟨2 * i, some (.arr 27 4 (out.map stR))⟩, ⟨0, some (.arr 27 4 [stR r.1])⟩]) (fun k => k ≤ p) (fun k => p - k) 0 (Nat.zero_le _) ?_ ?_ ?_
    · simp only [rst, evR, ↓evPre, ↓evPreW, evPost, evPostW, ← List.map_take, ← List.map_drop, ↓reduceIte, reduceCtorEq, Nat.reduceEqDiff, forall_const, implies_true, Nat.reduceAdd, Nat.reduceSub, Nat.reduceMul, Nat.reduceLT, Nat.reduceLeDiff, Int.reduceToNat, Int.reduceAdd, Int.reduceSub, Int.reduceNeg, Int.reduceMul, Int.reduceLT, Int.reduceLE, Int.reduceEq]
    · simp (disch := first | omega | (simp only [List.length_cons, List.length_nil, List.length_map, List.length_drop]; omega)) only [rst, evR, stR, evSt, ↓evPre, ↓evPreW, evPost, evPostW, ← List.map_take, ← List.map_drop, ↓reduceIte, reduceCtorEq, Nat.reduceEqDiff, forall_const, implies_true, Nat.reduceAdd, Nat.reduceSub, Nat.reduceMul, Nat.reduceLT, Nat.reduceLeDiff, Int.reduceToNat, Int.reduceAdd, Int.reduceSub, Int.reduceNeg, Int.reduceMul, Int.reduceLT, Int.reduceLE, Int.reduceEq]
    intro k hk
    have hki : k ≤ i := by omega
    by_cases hkp : k < p
    · obtain ⟨z, hz, hlz⟩ := hatlt k hkp
      simp only [ltS, decide_eq_true_eq] at hlz
      have hlt2 : (k : Int) < (i : Nat) := by omega
      have hki' : k < i := by omega
      by_cases h1 : z.t < r.1.t
      · simp (disch := first | omega | (simp only [List.length_cons, List.length_nil, List.length_map, List.length_drop]; omega)) only [rst, evR, stR, List.length_map, List.getElem?_map, Option.map_some, hz, dT hlt2, dT h1, wrap_i64, evSt, ↓evPre, ↓evPreW, evPost, evPostW, ← List.map_take, ← List.map_drop, ↓reduceIte, reduceCtorEq, Nat.reduceEqDiff, forall_const, implies_true, Nat.reduceAdd, Nat.reduceSub, Nat.reduceMul, Nat.reduceLT, Nat.reduceLeDiff, Int.reduceToNat, Int.reduceAdd, Int.reduceSub, Int.reduceNeg, Int.reduceMul, Int.reduceLT, Int.reduceLE, Int.reduceEq]
        exact ⟨k + 1, by omega, by omega, rfl⟩
      · have h2 : z.t = r.1.t := by omega
        have h3 : z.c < r.1.c := by omega
        simp (disch := first | omega | (simp only [List.length_cons, List.length_nil, List.length_map, List.length_drop]; omega)) only [rst, evR, stR, List.length_map, List.getElem?_map, Option.map_some, hz, dT hlt2, dF h1, dT h2, dT h3, wrap_i64, evSt, ↓evPre, ↓evPreW, evPost, evPostW, ← List.map_take, ← List.map_drop, ↓reduceIte, reduceCtorEq, Nat.reduceEqDiff, forall_const, implies_true, Nat.reduceAdd, Nat.reduceSub, Nat.reduceMul, Nat.reduceLT, Nat.reduceLeDiff, Int.reduceToNat, Int.reduceAdd, Int.reduceSub, Int.reduceNeg, Int.reduceMul, Int.reduceLT, Int.reduceLE, Int.reduceEq]
        exact ⟨k + 1, by omega, by omega, rfl⟩
    have hkp' : p = k := by omega
    subst hkp'
    have hpi : (p : Int) ≤ (i : Nat) ∧ ((i : Nat) : Int) ≤ (i : Nat) := by omega
    have hback : ∀ (E : Env) (T : Store), sub [(0, .ptr A.length 0 0 0), (3, .msl (rfN A B) (2 * (i + 1)) 0 (i + 1)), (4, .int .i64 ((i + 1 : Nat) : Int))] E → Back [(0, .ptr A.length 0 0 0), (3, .msl (rfN A B) (2 * (i + 1)) 0 (i + 1)), (4, .int .i64 ((i + 1 : Nat) : Int))]
        (rst A B v M ++ [⟨2 * (i + 1), some (.arr 27 4 ((allF ((M.R.take (i + 1)).map (·.1))).map stR))⟩]) E (rst A B v M ++ ⟨2 * (i + 1), some (.arr 27 4 ((allF ((M.R.take (i + 1)).map (·.1))).map stR))⟩ :: T) := fun E T hE => by
      refine back_under (hn.fgtL (L1 := [⟨2 * (i + 1), some (.arr 27 4 ((allF ((M.R.take (i + 1)).map (·.1))).map stR))⟩]) (L := ⟨2 * (i + 1), some (.arr 27 4 ((allF ((M.R.take (i + 1)).map (·.1))).map stR))⟩ :: T) ⟨rfl, ⟨_, rfl, .imm (stR_imm _)⟩, fgtL_nil⟩) hE ?_
      have : A.length < rfN A B + 1 := by unfold rfN; omega
      simp [rst_len, V.under, this]
    cases hz : out[p]? with
    | none =>
      have hge := List.getElem?_eq_none_iff.1 hz
      have hlt2 : ¬ (p : Int) < (i : Nat) := by omega
      simp (disch := first | omega | (simp only [List.length_cons, List.length_nil, List.length_map, List.length_drop]; omega)) only [rst, evR, stR, List.length_map, List.getElem?_map, Option.map_some, dF hlt2, if_pos hpi, if_true, wrap_i64, Int.toNat_natCast, Nat.zero_add, List.append_assoc, List.cons_append, List.nil_append, evSt, ↓evPre, ↓evPreW, evPost, evPostW, ← List.map_take, ← List.map_drop, ↓reduceIte, reduceCtorEq, Nat.reduceEqDiff, forall_const, implies_true, Nat.reduceAdd, Nat.reduceSub, Nat.reduceMul, Nat.reduceLT, Nat.reduceLeDiff, Int.reduceToNat, Int.reduceAdd, Int.reduceSub, Int.reduceNeg, Int.reduceMul, Int.reduceLT, Int.reduceLE, Int.reduceEq]
      have e1 : (out.drop p).take (i - p) = out.drop p := List.take_of_length_le (by simp; omega)
      have e2 : (out.drop p).length = i - p := by simp; omega
      have e3 : (out.take p).length = p := by simp; omega
      have e4 : List.take (1 + (i - p)) ([.int .i64 r.1.t, .int .i64 r.1.c, .int .i64 r.1.v, .int .i64 r.1.s] :: List.map stR (out.drop p)) = [.int .i64 r.1.t, .int .i64 r.1.c, .int .i64 r.1.v, .int .i64 r.1.s] :: List.map stR (out.drop p) := List.take_of_length_le (by rw [List.length_cons, List.length_map, e2]; omega)
      have e5 : ([V.int .i64 r.1.t, .int .i64 r.1.c, .int .i64 r.1.v, .int .i64 r.1.s] :: List.map stR (out.drop p)).length = 1 + (i - p) := by rw [List.length_cons, List.length_map, e2]; omega
      have e6 : p + (1 + (i - p)) = i + 1 := by omega
      have e7 : List.map stR (out.take p) ++ [.int .i64 r.1.t, .int .i64 r.1.c, .int .i64 r.1.v, .int .i64 r.1.s] :: List.map stR (out.drop p) = (allF ((M.R.take (i + 1)).map (·.1))).map stR := by rw [hnx, List.map_append, List.map_cons]; rfl
      have e8 : (i : Int) + 1 = ((i + 1 : Nat) : Int) := by omega
      simp only [e1, e2, e3, e4, e5, e6, e7, e8, true_and]
      exact ⟨by unfold roomA; omega, by omega, by omega, by unfold roomA; omega, i + 1, by omega, by omega, hback _ _ ⟨rfl, rfl, rfl, trivial⟩⟩
    | some z =>
      have hzl := hatat z hz
      simp only [ltS, decide_eq_false_iff_not] at hzl
      have hlt' := (List.getElem?_eq_some_iff.1 hz).1
      have hlt2 : (p : Int) < (i : Nat) := by omega
      have hpi' : p < i := by omega
      have h1 : ¬ z.t < r.1.t := by omega
      by_cases h2 : z.t = r.1.t
      · have h3 : ¬ z.c < r.1.c := by omega
        simp (disch := first | omega | (simp only [List.length_cons, List.length_nil, List.length_map, List.length_drop]; omega)) only [rst, evR, stR, List.length_map, List.getElem?_map, Option.map_some, hz, dT hlt2, dF h1, dT h2, dF h3, if_pos hpi, if_true, wrap_i64, Int.toNat_natCast, Nat.zero_add, List.append_assoc, List.cons_append, List.nil_append, evSt, ↓evPre, ↓evPreW, evPost, evPostW, ← List.map_take, ← List.map_drop, ↓reduceIte, reduceCtorEq, Nat.reduceEqDiff, forall_const, implies_true, Nat.reduceAdd, Nat.reduceSub, Nat.reduceMul, Nat.reduceLT, Nat.reduceLeDiff, Int.reduceToNat, Int.reduceAdd, Int.reduceSub, Int.reduceNeg, Int.reduceMul, Int.reduceLT, Int.reduceLE, Int.reduceEq]
        have e1 : (out.drop p).take (i - p) = out.drop p := List.take_of_length_le (by simp; omega)
        have e2 : (out.drop p).length = i - p := by simp; omega
        have e3 : (out.take p).length = p := by simp; omega
        have e4 : List.take (1 + (i - p)) ([.int .i64 r.1.t, .int .i64 r.1.c, .int .i64 r.1.v, .int .i64 r.1.s] :: List.map stR (out.drop p)) = [.int .i64 r.1.t, .int .i64 r.1.c, .int .i64 r.1.v, .int .i64 r.1.s] :: List.map stR (out.drop p) := List.take_of_length_le (by rw [List.length_cons, List.length_map, e2]; omega)
        have e5 : ([V.int .i64 r.1.t, .int .i64 r.1.c, .int .i64 r.1.v, .int .i64 r.1.s] :: List.map stR (out.drop p)).length = 1 + (i - p) := by rw [List.length_cons, List.length_map, e2]; omega
        have e6 : p + (1 + (i - p)) = i + 1 := by omega
        have e7 : List.map stR (out.take p) ++ [.int .i64 r.1.t, .int .i64 r.1.c, .int .i64 r.1.v, .int .i64 r.1.s] :: List.map stR (out.drop p) = (allF ((M.R.take (i + 1)).map (·.1))).map stR := by rw [hnx, List.map_append, List.map_cons]; rfl
        have e8 : (i : Int) + 1 = ((i + 1 : Nat) : Int) := by omega
        simp only [e1, e2, e3, e4, e5, e6, e7, e8, true_and]
        exact ⟨by unfold roomA; omega, by omega, by omega, by unfold roomA; omega, i + 1, by omega, by omega, hback _ _ ⟨rfl, rfl, rfl, trivial⟩⟩
      · simp (disch := first | omega | (simp only [List.length_cons, List.length_nil, List.length_map, List.length_drop]; omega)) only [rst, evR, stR, List.length_map, List.getElem?_map, Option.map_some, hz, dT hlt2, dF h1, dF h2, if_pos hpi, if_true, wrap_i64, Int.toNat_natCast, Nat.zero_add, List.append_assoc, List.cons_append, List.nil_append, evSt, ↓evPre, ↓evPreW, evPost, evPostW, ← List.map_take, ← List.map_drop, ↓reduceIte, reduceCtorEq, Nat.reduceEqDiff, forall_const, implies_true, Nat.reduceAdd, Nat.reduceSub, Nat.reduceMul, Nat.reduceLT, Nat.reduceLeDiff, Int.reduceToNat, Int.reduceAdd, Int.reduceSub, Int.reduceNeg, Int.reduceMul, Int.reduceLT, Int.reduceLE, Int.reduceEq]
        have e1 : (out.drop p).take (i - p) = out.drop p := List.take_of_length_le (by simp; omega)
        have e2 : (out.drop p).length = i - p := by simp; omega
        have e3 : (out.take p).length = p := by simp; omega
        have e4 : List.take (1 + (i - p)) ([.int .i64 r.1.t, .int .i64 r.1.c, .int .i64 r.1.v, .int .i64 r.1.s] :: List.map stR (out.drop p)) = [.int .i64 r.1.t, .int .i64 r.1.c, .int .i64 r.1.v, .int .i64 r.1.s] :: List.map stR (out.drop p) := List.take_of_length_le (by rw [List.length_cons, List.length_map, e2]; omega)
        have e5 : ([V.int .i64 r.1.t, .int .i64 r.1.c, .int .i64 r.1.v, .int .i64 r.1.s] :: List.map stR (out.drop p)).length = 1 + (i - p) := by rw [List.length_cons, List.length_map, e2]; omega
        have e6 : p + (1 + (i - p)) = i + 1 := by omega
        have e7 : List.map stR (out.take p) ++ [.int .i64 r.1.t, .int .i64 r.1.c, .int .i64 r.1.v, .int .i64 r.1.s] :: List.map stR (out.drop p) = (allF ((M.R.take (i + 1)).map (·.1))).map stR := by rw [hnx, List.map_append, List.map_cons]; rfl
        have e8 : (i : Int) + 1 = ((i + 1 : Nat) : Int) := by omega
        simp only [e1, e2, e3, e4, e5, e6, e7, e8, true_and]
        exact ⟨by unfold roomA; omega, by omega, by omega, by unfold roomA; omega, i + 1, by omega, by omega, hback _ _ ⟨rfl, rfl, rfl, trivial⟩⟩
end

/-! ## A mirror and the reference's one behind it. -/
def robs (n v : Nat) (K : Mi) : Store := [⟨0, some (.arr 68 3 [[.bool true, .msl (n + 1) v 0 K.R.length, .int .i64 (K.N : Nat)]])⟩, ⟨v, some (.arr 70 5 (K.R.map rwR))⟩]
theorem rst_robs {A B : Store} {v : Nat} {K : Mi} : rst A B v K = A ++ (robs A.length v K ++ B) := rfl
def duo (S : Store) (M : Mi) (Q : Qs) (C : Cs) (v : Nat) (K : Mi) : Store := mst S (robs (S.length + 4) v K) M Q C
def duN (S : Store) : Nat := S.length + 6

section
variable {S L : Store} {M : Mi} {Q : Qs} {C : Cs} {v : Nat} {K : Mi} {k ver : Nat} {o : AL.Obj}
theorem duo_r : duo S M Q C v K = rst (mst S [] M Q C) [] v K := by
  rw [duo, rst_robs, mst0_len, List.append_nil, mst_app, List.nil_append]
theorem du_len : (duo S M Q C v K).length = duN S := by rw [duo, mst_len]; rfl
theorem du_ob1 : Store.obj? (duo S M Q C v K) (S.length + 3) 0 = some (39, 4, [[.mapv S.length 0, .mapv (S.length + 1) 0, .mapv (S.length + 2) 0, .int .i64 (M.N : Nat)]]) := by rw [duo, mst, mx_ob3]
theorem dn_ob : Store.obj? (duo S M Q C v K ++ L) (duN S + k) ver = Store.obj? L k ver := by rw [← du_len (M := M) (Q := Q) (C := C) (v := v) (K := K), ob_app]
theorem dn_ob0 : Store.obj? (duo S M Q C v K ++ L) (duN S) ver = Store.obj? L 0 ver := by rw [← du_len (M := M) (Q := Q) (C := C) (v := v) (K := K), ob_app0]
theorem dn_se : (duo S M Q C v K ++ L : Store).set (duN S + k) o = duo S M Q C v K ++ L.set k o := by rw [← du_len (M := M) (Q := Q) (C := C) (v := v) (K := K), se_app]
theorem dn_se0 : (duo S M Q C v K ++ L : Store).set (duN S) o = duo S M Q C v K ++ L.set 0 o := by rw [← du_len (M := M) (Q := Q) (C := C) (v := v) (K := K), se_app0]
theorem duo_neat (h : Neat S) : Neat (duo S M Q C v K) := by rw [duo_r]; exact rst_neat0 (mst_neat0 h)
theorem duo_fgt (h : Neat S) : Fgt (duo S M Q C v K ++ L) S := mst_fgt h
theorem NewRD_A (S : Store) (M : Mi) (Q : Qs) (C : Cs) : CallA Try.prog 21 [] (mst S [] M Q C) fun r S' => r = .ptr (S.length + 4) 0 0 0 ∧ S' = duo S M Q C 0 Mi0 :=
  (NewR_A (mst S [] M Q C)).mono fun r S' h => ⟨by rw [h.1, mst0_len], by rw [h.2, duo_r]⟩
end
theorem evD : ((type_of% @du_len) ∧ (type_of% @du_ob1)) ∧ (type_of% @dn_ob) ∧ (type_of% @dn_ob0) ∧ (type_of% @dn_se) ∧ (type_of% @dn_se0) := ⟨⟨@du_len, @du_ob1⟩, @dn_ob, @dn_ob0, @dn_se, @dn_se0⟩
end Go.Proofs.Ytdkcicbpcagonab
