/- The reference's holds in the store: one struct with a list of pure data. -/
import Derived.Test.YthdcajfjglgiiaaHold8
namespace Go.Proofs.Ythdcajfjglgiiaa
open Go Go.AL
set_option linter.unusedSectionVars false
variable [Go.AL.Mode] [Go.AL.LooseM]
set_option linter.unusedSimpArgs false
set_option linter.unusedVariables false

def rX (A B : Store) (c : V) : Store := A ++ (⟨0, some (.arr 74 1 [[c]])⟩ :: B)
def rN (A B : Store) : Nat := A.length + (B.length + 1)
section
variable {A B L : Store} {c c' : V} {k ver : Nat} {o : AL.Obj}
theorem rx_len : (rX A B c).length = rN A B := by simp [rX, rN]
theorem rx_app : rX A B c ++ L = rX A (B ++ L) c := by simp [rX]
theorem rx_ob0 : Store.obj? (rX A B c) A.length 0 = some (74, 1, [[c]]) := by rw [rX, ob_app0]; rfl
theorem rx_se0 : (rX A B c).set A.length ⟨0, some (.arr 74 1 [[c']])⟩ = rX A B c' := by rw [rX, se_app0]; rfl
theorem rl_ob0 : Store.obj? (rX A B c ++ L) A.length 0 = some (74, 1, [[c]]) := by rw [rx_app, rx_ob0]
theorem rl_se0 : (rX A B c ++ L : Store).set A.length ⟨0, some (.arr 74 1 [[c']])⟩ = rX A B c' ++ L := by rw [rx_app, rx_se0, rx_app]
theorem rn_ob : Store.obj? (rX A B c ++ L) (rN A B + k) ver = Store.obj? L k ver := by rw [← rx_len (c := c), ob_app]
theorem rn_ob0 : Store.obj? (rX A B c ++ L) (rN A B) ver = Store.obj? L 0 ver := by rw [← rx_len (c := c), ob_app0]
theorem rn_se : (rX A B c ++ L : Store).set (rN A B + k) o = rX A B c ++ L.set k o := by rw [← rx_len (c := c), se_app]
theorem rn_se0 : (rX A B c ++ L : Store).set (rN A B) o = rX A B c ++ L.set 0 o := by rw [← rx_len (c := c), se_app0]
end
theorem evR : ((type_of% @rx_len) ∧ (type_of% @rx_ob0) ∧ (type_of% @rx_se0)) ∧ ((type_of% @rl_ob0) ∧ (type_of% @rl_se0)) ∧ ((type_of% @rn_ob) ∧ (type_of% @rn_ob0) ∧ (type_of% @rn_se) ∧ (type_of% @rn_se0)) :=
  ⟨⟨@rx_len, @rx_ob0, @rx_se0⟩, ⟨@rl_ob0, @rl_se0⟩, @rn_ob, @rn_ob0, @rn_se, @rn_se0⟩

def rst (A B : Store) (L : List Hd) : Store := rX A B (.sl 5 (L.map hdR))
section
variable {A B T : Store} {L L' : List Hd} {c : V}
theorem rst_len : (rst A B L).length = rN A B := rx_len
theorem rst_app : rst A B L ++ T = rst A (B ++ T) L := rx_app
theorem under_sl (n : Nat) (L : List Hd) : V.under n (.sl 5 (L.map hdR)) = true := rfl
theorem rst_neat (h : Neat (rX A B c)) : Neat (rst A B L) := by
  rw [neat_iff, rst_len]
  rw [neat_iff, rx_len] at h
  intro o ho
  simp only [rst, rX, List.mem_append, List.mem_cons] at h ho
  rcases ho with ho | rfl | ho
  · exact h o (.inl ho)
  · intro r hr
    simp only [List.mem_singleton] at hr
    subst hr
    exact ⟨rfl, rfl⟩
  · exact h o (.inr (.inr ho))
theorem rst_neat1 (hA : Neat A) (hB : ∀ o ∈ B, objN (rN A B) o) : Neat (rst A B L) := by
  rw [neat_iff, rst_len]
  have hA' := neat_iff.1 hA
  have hle : A.length ≤ rN A B := by unfold rN; omega
  intro o ho
  simp only [rst, rX, List.mem_append, List.mem_cons] at ho
  rcases ho with ho | rfl | ho
  · exact (hA' o ho).mono hle
  · intro r hr
    simp only [List.mem_singleton] at hr
    subst hr
    exact ⟨rfl, rfl⟩
  · exact hB o ho
/-- The list is frozen, what is behind is forgotten. -/
theorem rst_fgt (h : Neat (rst A B L)) (hc : Frz (rX A B c ++ T) (rst A B L) c (.sl 5 (L.map hdR))) : Fgt (rX A B c ++ T) (rst A B L) := by
  have hn := neat_iff.1 h
  refine fgt_point (by rw [List.length_append, rx_len, rst_len]; omega) fun id o1 ho => ?_
  have hm := hn o1 (List.mem_of_getElem? ho)
  have hlt : id < rN A B := by rw [← rst_len (L := L)]; exact (List.getElem?_eq_some_iff.1 ho).1
  rw [List.getElem?_append_left (by rw [rx_len]; exact hlt)]
  by_cases hid : id < A.length
  · refine ⟨o1, ?_, rfl, hm.self⟩
    simp only [rst, rX] at ho ⊢
    rw [List.getElem?_append_left hid] at ho ⊢
    exact ho
  · obtain ⟨k, rfl⟩ : ∃ k, id = A.length + k := ⟨id - A.length, by omega⟩
    simp only [rst, rX] at ho ⊢
    rw [List.getElem?_append_right (by omega), Nat.add_sub_cancel_left] at ho ⊢
    match k with
    | 0 =>
      simp only [List.getElem?_cons_zero, Option.some.injEq] at ho ⊢
      subst ho
      refine ⟨_, rfl, rfl, [[c]], rfl, rfl, fun r hr => by simp at hr; subst hr; rfl, fun i r hi j v hj r' x hr' hx => ?_⟩
      match i with
      | 0 =>
        simp only [List.getElem?_cons_zero, Option.some.injEq] at hi hr'
        subst hi hr'
        match j with
        | 0 =>
          simp only [List.getElem?_cons_zero, Option.some.injEq] at hj hx
          subst hj hx
          exact hc
        | j + 1 => simp at hj
      | i + 1 => simp at hi
    | k + 1 =>
      simp only [List.getElem?_cons_succ] at ho ⊢
      exact ⟨o1, ho, rfl, hm.self⟩
theorem rst_fin {r r1 : V} {R : V → Store → Prop} (h : Neat (rst A B L)) (hc : Frz (rX A B c ++ T) (rst A B L) c (.sl 5 (L.map hdR))) (hr : Frz (rX A B c ++ T) (rst A B L) r r1) (k : R r1 (rst A B L)) :
    ∃ r1 S1, Fgt (rX A B c ++ T) S1 ∧ Frz (rX A B c ++ T) S1 r r1 ∧ rN A B ≤ S1.length ∧ R r1 S1 :=
  ⟨r1, rst A B L, rst_fgt h hc, hr, by rw [rst_len]; exact Nat.le_refl _, k⟩
end

theorem NewR_A (S : Store) : CallA Try.prog 16 [] S fun r S' => r = .ptr S.length 0 0 0 ∧ S' = rst S [] [] := by
  refine CallA.withNeat Try.func16 c316 fun hn => ?_
  refine CallA.fin Try.func16 c316 (Nat.le_of_ble_eq_true rfl) fun σ hσ => ?_
  simp (disch := first | omega | (simp only [List.length_cons, List.length_nil, List.length_map, List.length_drop]; omega)) only [a316, evSt, ↓evPre, ↓evPreW, evPost, evPostW, ← List.map_take, ← List.map_drop, ↓reduceIte, reduceCtorEq, Nat.reduceEqDiff, forall_const, implies_true, Nat.reduceAdd, Nat.reduceSub, Nat.reduceMul, Nat.reduceLT, Nat.reduceLeDiff, Int.reduceToNat, Int.reduceAdd, Int.reduceSub, Int.reduceNeg, Int.reduceMul, Int.reduceLT, Int.reduceLE, Int.reduceEq]
  have e : Neat (rst S [] []) := rst_neat1 hn fun o ho => by cases ho
  refine ⟨.ptr S.length 0 0 0, rst S [] [], ?_, .same (.inl (by simp [V.under, rst_len, rN])), by rw [rst_len]; unfold rN; omega, rfl, rfl⟩
  have := rst_fgt (T := []) (c := .nilSl) e .nil
  rwa [List.append_nil] at this

section
variable (A B : Store) (L : List Hd)
/-- The index of a hold, or -1. -/
def atF (id : Int) : List Hd → Nat → Int
  | [], _ => -1
  | h :: l, k => if h.id = id then (k : Nat) else atF id l (k + 1)
theorem at_none {id : Int} : ∀ {l : List Hd} {k : Nat}, findH l id = none → atF id l k = -1
  | [], _, _ => rfl
  | h :: l, k, hf => by
    have hne := find_none hf h (List.mem_cons_self ..)
    have h' : findH l id = none := by
      unfold findH at hf ⊢
      rw [List.find?_cons, dF fun e => hne e.symm] at hf
      exact hf
    rw [atF, if_neg hne, at_none h']
theorem at_some {id : Int} {x : Hd} : ∀ {l : List Hd} {k : Nat}, Uq l → findH l id = some x → ∃ i, atF id l k = ((k + i : Nat) : Int) ∧ l[i]? = some x ∧ delH l id = l.take i ++ l.drop (i + 1)
  | [], _, _, hf => by cases hf
  | h :: l, k, hu, hf => by
    have hu' := hu
    unfold Uq at hu'
    rw [List.pairwise_cons] at hu'
    by_cases he : h.id = id
    · unfold findH at hf
      rw [List.find?_cons, dT he.symm] at hf
      cases hf
      refine ⟨0, by rw [atF, if_pos he]; rfl, rfl, ?_⟩
      have := del_mid (l := []) (m := l) (x := x) hu
      rw [he] at this
      simpa using this
    · have h' : findH l id = some x := by
        unfold findH at hf ⊢
        rw [List.find?_cons, dF fun e => he e.symm] at hf
        exact hf
      obtain ⟨i, a, b, c⟩ := at_some (k := k + 1) hu'.2 h'
      refine ⟨i + 1, by rw [atF, if_neg he, a]; congr 1; omega, b, ?_⟩
      unfold delH at c ⊢
      rw [List.filter_cons, dF fun e => he e.symm]
      simp only [Bool.not_false, if_true, List.take_succ_cons, List.drop_succ_cons, List.cons_append, c]

theorem at_A (hl : L.length ≤ 1000000) (id : Int) : CallA Try.prog 37 [.ptr A.length 0 0 0, .int .i64 id] (rst A B L) fun r S' => r = .int .i64 (atF id L 0) ∧ S' = rst A B L := by
  refine CallA.keep Try.func37 c337 (Nat.le_of_ble_eq_true rfl) fun σ hσ => ?_
  simp (disch := first | omega | (simp only [List.length_cons, List.length_nil, List.length_map, List.length_drop]; omega)) only [a337, evSt, ↓evPre, ↓evPreW, evPost, evPostW, ← List.map_take, ← List.map_drop, ↓reduceIte, reduceCtorEq, Nat.reduceEqDiff, forall_const, implies_true, Nat.reduceAdd, Nat.reduceSub, Nat.reduceMul, Nat.reduceLT, Nat.reduceLeDiff, Int.reduceToNat, Int.reduceAdd, Int.reduceSub, Int.reduceNeg, Int.reduceMul, Int.reduceLT, Int.reduceLE, Int.reduceEq]
  refine loopA (ι := Nat) (fun k => [(0, .ptr A.length 0 0 0), (1, .int .i64 id), (5, .int .i64 (k : Nat))]) (fun _ => rst A B L) (fun k => k ≤ L.length ∧ atF id L 0 = atF id (L.drop k) k) (fun k => L.length - k) 0 ⟨Nat.zero_le _, rfl⟩ ?_ rfl ?_
  · simp only [↓evPre, ↓evPreW, evPost, evPostW, ← List.map_take, ← List.map_drop, ↓reduceIte, reduceCtorEq, Nat.reduceEqDiff, forall_const, implies_true, Nat.reduceAdd, Nat.reduceSub, Nat.reduceMul, Nat.reduceLT, Nat.reduceLeDiff, Int.reduceToNat, Int.reduceAdd, Int.reduceSub, Int.reduceNeg, Int.reduceMul, Int.reduceLT, Int.reduceLE, Int.reduceEq]
  rintro k ⟨hk, hf⟩
  unfold rst
  cases hc : L[k]? with
  | none =>
    have hge : L.length ≤ k := List.getElem?_eq_none_iff.1 hc
    have hlt : ¬ ((k : Int) < L.length) := by omega
    rw [List.drop_eq_nil_iff.2 hge] at hf
    simp (disch := first | omega | (simp only [List.length_cons, List.length_nil, List.length_map, List.length_drop]; omega)) only [evR, List.length_map, dF hlt, hf, atF, evSt, ↓evPre, ↓evPreW, evPost, evPostW, ← List.map_take, ← List.map_drop, ↓reduceIte, reduceCtorEq, Nat.reduceEqDiff, forall_const, implies_true, Nat.reduceAdd, Nat.reduceSub, Nat.reduceMul, Nat.reduceLT, Nat.reduceLeDiff, Int.reduceToNat, Int.reduceAdd, Int.reduceSub, Int.reduceNeg, Int.reduceMul, Int.reduceLT, Int.reduceLE, Int.reduceEq]
  | some x =>
    have hlt' := (List.getElem?_eq_some_iff.1 hc).1
    have hlt : (k : Int) < L.length := by omega
    have hk1 : (k : Int) + 1 = ((k + 1 : Nat) : Int) := by omega
    rw [drop_at hc, atF] at hf
    by_cases h1 : x.id = id
    · rw [if_pos h1] at hf
      simp (disch := first | omega | (simp only [List.length_cons, List.length_nil, List.length_map, List.length_drop]; omega)) only [evR, hdR, List.length_map, List.getElem?_map, Option.map_some, hc, dT hlt, dT h1, hf, evSt, ↓evPre, ↓evPreW, evPost, evPostW, ← List.map_take, ← List.map_drop, ↓reduceIte, reduceCtorEq, Nat.reduceEqDiff, forall_const, implies_true, Nat.reduceAdd, Nat.reduceSub, Nat.reduceMul, Nat.reduceLT, Nat.reduceLeDiff, Int.reduceToNat, Int.reduceAdd, Int.reduceSub, Int.reduceNeg, Int.reduceMul, Int.reduceLT, Int.reduceLE, Int.reduceEq]
    · rw [if_neg h1] at hf
      simp (disch := first | omega | (simp only [List.length_cons, List.length_nil, List.length_map, List.length_drop]; omega)) only [evR, hdR, List.length_map, List.getElem?_map, Option.map_some, hc, dT hlt, dF h1, wrap_i64, hk1, evSt, ↓evPre, ↓evPreW, evPost, evPostW, ← List.map_take, ← List.map_drop, ↓reduceIte, reduceCtorEq, Nat.reduceEqDiff, forall_const, implies_true, Nat.reduceAdd, Nat.reduceSub, Nat.reduceMul, Nat.reduceLT, Nat.reduceLeDiff, Int.reduceToNat, Int.reduceAdd, Int.reduceSub, Int.reduceNeg, Int.reduceMul, Int.reduceLT, Int.reduceLE, Int.reduceEq]
      exact ⟨k + 1, ⟨by omega, hf⟩, by omega, rfl⟩

theorem AllR_A : CallA Try.prog 24 [.ptr A.length 0 0 0] (rst A B L) fun r S' => r = .sl 5 (L.map hdR) ∧ S' = rst A B L := by
  refine CallA.keep Try.func24 c324 (Nat.le_of_ble_eq_true rfl) fun σ hσ => ?_
  unfold rst
  simp (disch := first | omega | (simp only [List.length_cons, List.length_nil, List.length_map, List.length_drop]; omega)) only [a324, evR, evSt, ↓evPre, ↓evPreW, evPost, evPostW, ← List.map_take, ← List.map_drop, ↓reduceIte, reduceCtorEq, Nat.reduceEqDiff, forall_const, implies_true, Nat.reduceAdd, Nat.reduceSub, Nat.reduceMul, Nat.reduceLT, Nat.reduceLeDiff, Int.reduceToNat, Int.reduceAdd, Int.reduceSub, Int.reduceNeg, Int.reduceMul, Int.reduceLT, Int.reduceLE, Int.reduceEq]

theorem DropR_A (h : OkL L) (hl : L.length ≤ 1000000) (id : Int) : CallA Try.prog 18 [.ptr A.length 0 0 0, .int .i64 id] (rst A B L) fun r S' => r = .tup [.agg (hdR (dropF L id).1.1), .int .i64 (dropF L id).1.2] ∧ S' = rst A B (dropF L id).2 := by
  refine CallA.withNeat Try.func18 c318 fun hn => ?_
  refine CallA.fin Try.func18 c318 (Nat.le_of_ble_eq_true rfl) fun σ hσ => ?_
  unfold rst
  simp (disch := first | omega | (simp only [List.length_cons, List.length_nil, List.length_map, List.length_drop]; omega)) only [a318, evR, evSt, ↓evPre, ↓evPreW, evPost, evPostW, ← List.map_take, ← List.map_drop, ↓reduceIte, reduceCtorEq, Nat.reduceEqDiff, forall_const, implies_true, Nat.reduceAdd, Nat.reduceSub, Nat.reduceMul, Nat.reduceLT, Nat.reduceLeDiff, Int.reduceToNat, Int.reduceAdd, Int.reduceSub, Int.reduceNeg, Int.reduceMul, Int.reduceLT, Int.reduceLE, Int.reduceEq]
  have hat : ∀ T, CallA Try.prog 37 [.ptr A.length 0 0 0, .int .i64 id] (rX A B (.sl 5 (L.map hdR)) ++ T) fun r S' => r = .int .i64 (atF id L 0) ∧ S' = rX A B (.sl 5 (L.map hdR)) ++ T := fun T => by
    rw [rx_app]
    exact at_A A (B ++ T) L hl id
  refine (hat _).then ?_
  cases hf : findH L id with
  | none =>
    have hp : dropF L id = ((zHd, 7), L) := by rw [dropF, hf]
    simp only [at_none hf]
    simp (disch := first | omega | (simp only [List.length_cons, List.length_nil, List.length_map, List.length_drop]; omega)) only [evR, evSt, ↓evPre, ↓evPreW, evPost, evPostW, ← List.map_take, ← List.map_drop, ↓reduceIte, reduceCtorEq, Nat.reduceEqDiff, forall_const, implies_true, Nat.reduceAdd, Nat.reduceSub, Nat.reduceMul, Nat.reduceLT, Nat.reduceLeDiff, Int.reduceToNat, Int.reduceAdd, Int.reduceSub, Int.reduceNeg, Int.reduceMul, Int.reduceLT, Int.reduceLE, Int.reduceEq]
    exact rst_fin (L := L) hn (.imm rfl) (.tup2 frzZ (.imm rfl)) ⟨by rw [hp], by rw [hp]; rfl⟩
  | some x =>
    have hp : dropF L id = ((x, 0), delH L id) := by rw [dropF, hf]
    obtain ⟨i, h1, h2, h3⟩ := at_some (k := 0) h.uq hf
    have hlt' := (List.getElem?_eq_some_iff.1 h2).1
    rw [Nat.zero_add] at h1
    have hge : ¬ ((i : Nat) : Int) < 0 := by omega
    have hi1 : (i : Int) + 1 = ((i + 1 : Nat) : Int) := by omega
    have hle : (i : Int) ≤ L.length := by omega
    have hle1 : ((i + 1 : Nat) : Int) ≤ L.length := by omega
    simp only [h1]
    simp (disch := first | omega | (simp only [List.length_cons, List.length_nil, List.length_map, List.length_drop]; omega)) only [evR, hdR, List.length_map, List.getElem?_map, Option.map_some, h2, dF hge, wrap_i64, hi1, hle, if_true, evSt, ↓evPre, ↓evPreW, evPost, evPostW, ← List.map_take, ← List.map_drop, ↓reduceIte, reduceCtorEq, Nat.reduceEqDiff, forall_const, implies_true, Nat.reduceAdd, Nat.reduceSub, Nat.reduceMul, Nat.reduceLT, Nat.reduceLeDiff, Int.reduceToNat, Int.reduceAdd, Int.reduceSub, Int.reduceNeg, Int.reduceMul, Int.reduceLT, Int.reduceLE, Int.reduceEq]
    have htd : (L.drop (i + 1)).take (L.length - (i + 1)) = L.drop (i + 1) := List.take_of_length_le (by simp)
    refine ⟨by rw [List.length_take]; unfold roomA; omega, ?_⟩
    rw [if_pos ⟨hle1, Int.le_refl _⟩, htd]
    simp (disch := first | omega | (simp only [List.length_cons, List.length_nil, List.length_map, List.length_drop]; omega)) only [evR, evSt, ↓evPre, ↓evPreW, evPost, evPostW, ← List.map_take, ← List.map_drop, ↓reduceIte, reduceCtorEq, Nat.reduceEqDiff, forall_const, implies_true, Nat.reduceAdd, Nat.reduceSub, Nat.reduceMul, Nat.reduceLT, Nat.reduceLeDiff, Int.reduceToNat, Int.reduceAdd, Int.reduceSub, Int.reduceNeg, Int.reduceMul, Int.reduceLT, Int.reduceLE, Int.reduceEq]
    refine ⟨by rw [List.length_take, List.length_drop]; unfold roomA; omega, ?_⟩
    rw [hp]
    have hrow : (delH L id).map hdR = (L.take i).map hdR ++ (L.drop (i + 1)).map hdR := by rw [h3, List.map_append]
    have e : Neat (rst A B (delH L id)) := rst_neat hn
    refine rst_fin e ?_ (.imm rfl) ⟨rfl, rfl⟩
    rw [hrow]
    refine .sl (t := 28) (by rw [rst_len]; omega) (by simp (disch := first | omega | (simp only [List.length_cons, List.length_nil, List.length_map, List.length_drop]; omega)) only [evR, evSt, ↓evPre, ↓evPreW, evPost, evPostW, ← List.map_take, ← List.map_drop, ↓reduceIte, reduceCtorEq, Nat.reduceEqDiff, forall_const, implies_true, Nat.reduceAdd, Nat.reduceSub, Nat.reduceMul, Nat.reduceLT, Nat.reduceLeDiff, Int.reduceToNat, Int.reduceAdd, Int.reduceSub, Int.reduceNeg, Int.reduceMul, Int.reduceLT, Int.reduceLE, Int.reduceEq]) (by simp only [List.length_append, List.length_map]) (fun r hr => ?_)
    rw [← hrow] at hr
    exact hdR_imm _ r hr

omit A B L in
theorem tw_at {p : Hd → Bool} : ∀ {L : List Hd} {k : Nat}, (∀ y ∈ L.take k, p y = true) → (∀ z, L[k]? = some z → p z = false) → L.takeWhile p = L.take k ∧ L.dropWhile p = L.drop k
  | [], k, _, _ => by simp
  | y :: L, 0, _, h => by
    have := h y rfl
    simp [List.takeWhile_cons, List.dropWhile_cons, this]
  | y :: L, k + 1, h1, h2 => by
    have hy := h1 y (by simp)
    obtain ⟨a, b⟩ := tw_at (p := p) (L := L) (k := k) (fun z hz => h1 z (by simp [hz])) (fun z hz => h2 z (by simpa using hz))
    simp [List.takeWhile_cons, List.dropWhile_cons, hy, a, b]

set_option maxRecDepth 100000 in
theorem PutR_A (h : OkL L) (hl : L.length ≤ 1000000) (x : Hd) (hx : x.legs.length ≤ 1000000) : CallA Try.prog 17 [.ptr A.length 0 0 0, .agg (hdR x)] (rst A B L) fun r S' => r = .int .i64 (putF L x).1 ∧ S' = rst A B (putF L x).2 := by
  refine CallA.withNeat Try.func17 c317 fun hn => ?_
  refine CallA.fin Try.func17 c317 (Nat.le_of_ble_eq_true rfl) fun σ hσ => ?_
  have hat := at_A A B L hl x.id
  have same : ∀ (n : Nat), putF L x = ((n : Int), L) → ∃ r1 S1, Fgt (rst A B L) S1 ∧ Frz (rst A B L) S1 (.int .i64 (n : Int)) r1 ∧ rN A B ≤ S1.length ∧ r1 = .int .i64 (putF L x).1 ∧ S1 = rst A B (putF L x).2 := fun n hp =>
    ⟨.int .i64 n, rst A B L, hn.self, .imm rfl, by rw [rst_len]; exact Nat.le_refl _, by rw [hp], by rw [hp]⟩
  have bad : badH x → ∃ r1 S1, Fgt (rst A B L) S1 ∧ Frz (rst A B L) S1 (.int .i64 2) r1 ∧ rN A B ≤ S1.length ∧ r1 = .int .i64 (putF L x).1 ∧ S1 = rst A B (putF L x).2 := fun hb =>
    same 2 (by rw [putF, if_pos hb]; rfl)
  obtain ⟨id, legs, cls, cnt, til⟩ := x
  simp only [hdR] at hx hat
  unfold rst at hat ⊢
  by_cases h1 : id < 1
  · simp (disch := first | omega | (simp only [List.length_cons, List.length_nil, List.length_map, List.length_drop]; omega)) only [a317, hdR, dT h1, evR, evSt, ↓evPre, ↓evPreW, evPost, evPostW, ← List.map_take, ← List.map_drop, ↓reduceIte, reduceCtorEq, Nat.reduceEqDiff, forall_const, implies_true, Nat.reduceAdd, Nat.reduceSub, Nat.reduceMul, Nat.reduceLT, Nat.reduceLeDiff, Int.reduceToNat, Int.reduceAdd, Int.reduceSub, Int.reduceNeg, Int.reduceMul, Int.reduceLT, Int.reduceLE, Int.reduceEq]
    exact bad (.inl h1)
  by_cases h2 : legs = []
  · have h2' : ((legs.length : Nat) : Int) = 0 := by rw [h2]; rfl
    simp (disch := first | omega | (simp only [List.length_cons, List.length_nil, List.length_map, List.length_drop]; omega)) only [a317, hdR, dF h1, dT h2', List.length_map, evR, evSt, ↓evPre, ↓evPreW, evPost, evPostW, ← List.map_take, ← List.map_drop, ↓reduceIte, reduceCtorEq, Nat.reduceEqDiff, forall_const, implies_true, Nat.reduceAdd, Nat.reduceSub, Nat.reduceMul, Nat.reduceLT, Nat.reduceLeDiff, Int.reduceToNat, Int.reduceAdd, Int.reduceSub, Int.reduceNeg, Int.reduceMul, Int.reduceLT, Int.reduceLE, Int.reduceEq]
    exact bad (.inr (.inl h2))
  have h2' : ¬ ((legs.length : Nat) : Int) = 0 := fun e => h2 (List.eq_nil_of_length_eq_zero (by omega))
  simp (disch := first | omega | (simp only [List.length_cons, List.length_nil, List.length_map, List.length_drop]; omega)) only [a317, hdR, dF h1, dF h2', List.length_map, evR, evSt, ↓evPre, ↓evPreW, evPost, evPostW, ← List.map_take, ← List.map_drop, ↓reduceIte, reduceCtorEq, Nat.reduceEqDiff, forall_const, implies_true, Nat.reduceAdd, Nat.reduceSub, Nat.reduceMul, Nat.reduceLT, Nat.reduceLeDiff, Int.reduceToNat, Int.reduceAdd, Int.reduceSub, Int.reduceNeg, Int.reduceMul, Int.reduceLT, Int.reduceLE, Int.reduceEq]
  refine (twice_A legs hx _).then ?_
  by_cases h3 : ¬ legs.Nodup
  · simp (disch := first | omega | (simp only [List.length_cons, List.length_nil, List.length_map, List.length_drop]; omega)) only [dF h3, Bool.not_false, evR, evSt, ↓evPre, ↓evPreW, evPost, evPostW, ← List.map_take, ← List.map_drop, ↓reduceIte, reduceCtorEq, Nat.reduceEqDiff, forall_const, implies_true, Nat.reduceAdd, Nat.reduceSub, Nat.reduceMul, Nat.reduceLT, Nat.reduceLeDiff, Int.reduceToNat, Int.reduceAdd, Int.reduceSub, Int.reduceNeg, Int.reduceMul, Int.reduceLT, Int.reduceLE, Int.reduceEq]
    exact bad (.inr (.inr (.inl h3)))
  have h3 := Decidable.not_not.1 h3
  by_cases h4 : cnt < 1
  · simp (disch := first | omega | (simp only [List.length_cons, List.length_nil, List.length_map, List.length_drop]; omega)) only [dT h3, Bool.not_true, dT h4, evR, evSt, ↓evPre, ↓evPreW, evPost, evPostW, ← List.map_take, ← List.map_drop, ↓reduceIte, reduceCtorEq, Nat.reduceEqDiff, forall_const, implies_true, Nat.reduceAdd, Nat.reduceSub, Nat.reduceMul, Nat.reduceLT, Nat.reduceLeDiff, Int.reduceToNat, Int.reduceAdd, Int.reduceSub, Int.reduceNeg, Int.reduceMul, Int.reduceLT, Int.reduceLE, Int.reduceEq]
    exact bad (.inr (.inr (.inr (.inl h4))))
  by_cases h5 : 99 < cnt
  · simp (disch := first | omega | (simp only [List.length_cons, List.length_nil, List.length_map, List.length_drop]; omega)) only [dT h3, Bool.not_true, dF h4, dT h5, evR, evSt, ↓evPre, ↓evPreW, evPost, evPostW, ← List.map_take, ← List.map_drop, ↓reduceIte, reduceCtorEq, Nat.reduceEqDiff, forall_const, implies_true, Nat.reduceAdd, Nat.reduceSub, Nat.reduceMul, Nat.reduceLT, Nat.reduceLeDiff, Int.reduceToNat, Int.reduceAdd, Int.reduceSub, Int.reduceNeg, Int.reduceMul, Int.reduceLT, Int.reduceLE, Int.reduceEq]
    exact bad (.inr (.inr (.inr (.inr (.inl h5)))))
  simp (disch := first | omega | (simp only [List.length_cons, List.length_nil, List.length_map, List.length_drop]; omega)) only [dT h3, Bool.not_true, dF h4, dF h5, evR, evSt, ↓evPre, ↓evPreW, evPost, evPostW, ← List.map_take, ← List.map_drop, ↓reduceIte, reduceCtorEq, Nat.reduceEqDiff, forall_const, implies_true, Nat.reduceAdd, Nat.reduceSub, Nat.reduceMul, Nat.reduceLT, Nat.reduceLeDiff, Int.reduceToNat, Int.reduceAdd, Int.reduceSub, Int.reduceNeg, Int.reduceMul, Int.reduceLT, Int.reduceLE, Int.reduceEq]
  refine (time_A til _).then ?_
  cases h6 : minF til with
  | false =>
    simp (disch := first | omega | (simp only [List.length_cons, List.length_nil, List.length_map, List.length_drop]; omega)) only [h6, evR, evSt, ↓evPre, ↓evPreW, evPost, evPostW, ← List.map_take, ← List.map_drop, ↓reduceIte, reduceCtorEq, Nat.reduceEqDiff, forall_const, implies_true, Nat.reduceAdd, Nat.reduceSub, Nat.reduceMul, Nat.reduceLT, Nat.reduceLeDiff, Int.reduceToNat, Int.reduceAdd, Int.reduceSub, Int.reduceNeg, Int.reduceMul, Int.reduceLT, Int.reduceLE, Int.reduceEq]
    exact bad (.inr (.inr (.inr (.inr (.inr h6)))))
  | true =>
    have hbad : ¬ badH ⟨id, legs, cls, cnt, til⟩ := by
      unfold badH
      simp [h1, h2, h3, h4, h5, h6]
    simp (disch := first | omega | (simp only [List.length_cons, List.length_nil, List.length_map, List.length_drop]; omega)) only [h6, evR, evSt, ↓evPre, ↓evPreW, evPost, evPostW, ← List.map_take, ← List.map_drop, ↓reduceIte, reduceCtorEq, Nat.reduceEqDiff, forall_const, implies_true, Nat.reduceAdd, Nat.reduceSub, Nat.reduceMul, Nat.reduceLT, Nat.reduceLeDiff, Int.reduceToNat, Int.reduceAdd, Int.reduceSub, Int.reduceNeg, Int.reduceMul, Int.reduceLT, Int.reduceLE, Int.reduceEq]
    refine hat.then ?_
    cases hg : findH L id with
    | some y =>
      have hp : putF L ⟨id, legs, cls, cnt, til⟩ = (6, L) := by rw [putF, if_neg hbad]; simp only [hg]
      obtain ⟨i, k1, _, _⟩ := at_some (k := 0) h.uq hg
      rw [Nat.zero_add] at k1
      have hge : (0 : Int) ≤ ((i : Nat) : Int) := by omega
      simp only [k1]
      simp (disch := first | omega | (simp only [List.length_cons, List.length_nil, List.length_map, List.length_drop]; omega)) only [dT hge, evR, evSt, ↓evPre, ↓evPreW, evPost, evPostW, ← List.map_take, ← List.map_drop, ↓reduceIte, reduceCtorEq, Nat.reduceEqDiff, forall_const, implies_true, Nat.reduceAdd, Nat.reduceSub, Nat.reduceMul, Nat.reduceLT, Nat.reduceLeDiff, Int.reduceToNat, Int.reduceAdd, Int.reduceSub, Int.reduceNeg, Int.reduceMul, Int.reduceLT, Int.reduceLE, Int.reduceEq]
      exact same 6 hp
    | none =>
      have hp : putF L ⟨id, legs, cls, cnt, til⟩ = (0, insH ⟨id, legs, cls, cnt, til⟩ L) := by rw [putF, if_neg hbad]; simp only [hg]
      simp only [at_none hg]
      simp (disch := first | omega | (simp only [List.length_cons, List.length_nil, List.length_map, List.length_drop]; omega)) only [evR, evSt, ↓evPre, ↓evPreW, evPost, evPostW, ← List.map_take, ← List.map_drop, ↓reduceIte, reduceCtorEq, Nat.reduceEqDiff, forall_const, implies_true, Nat.reduceAdd, Nat.reduceSub, Nat.reduceMul, Nat.reduceLT, Nat.reduceLeDiff, Int.reduceToNat, Int.reduceAdd, Int.reduceSub, Int.reduceNeg, Int.reduceMul, Int.reduceLT, Int.reduceLE, Int.reduceEq]
      refine loopA (ι := Nat) (fun k => [(0, .ptr A.length 0 0 0), (3, .cptr [.int .i64 id, .sl 4 (legs.map lgR), .str cls, .int .i64 cnt, .int .i64 til]), (5, .int .i64 (k : Nat))]) (fun _ => rX A B (.sl 5 (L.map hdR))) (fun k => k ≤ L.length ∧ ∀ y ∈ L.take k, ltH y ⟨id, legs, cls, cnt, til⟩ = true) (fun k => L.length - k) 0 ⟨Nat.zero_le _, fun y hy => by simp at hy⟩ ?_ rfl ?_
      · simp only [↓evPre, ↓evPreW, evPost, evPostW, ← List.map_take, ← List.map_drop, ↓reduceIte, reduceCtorEq, Nat.reduceEqDiff, forall_const, implies_true, Nat.reduceAdd, Nat.reduceSub, Nat.reduceMul, Nat.reduceLT, Nat.reduceLeDiff, Int.reduceToNat, Int.reduceAdd, Int.reduceSub, Int.reduceNeg, Int.reduceMul, Int.reduceLT, Int.reduceLE, Int.reduceEq]
      rintro k ⟨hk, hlo⟩
      have hle : (k : Int) ≤ L.length := by omega
      have hk1 : (k : Int) + 1 = ((k + 1 : Nat) : Int) := by omega
      have htd : (L.drop k).take (L.length - k) = L.drop k := List.take_of_length_le (by simp)
      have hexit : (∀ z, L[k]? = some z → ltH z ⟨id, legs, cls, cnt, til⟩ = false) → _ := fun hh => tw_at hlo hh
      cases hc : L[k]? with
      | none =>
        have hge : L.length ≤ k := List.getElem?_eq_none_iff.1 hc
        have hlt : ¬ ((k : Int) < L.length) := by omega
        have hke := hexit (fun z hz => by rw [hc] at hz; cases hz)
        simp (disch := first | omega | (simp only [List.length_cons, List.length_nil, List.length_map, List.length_drop]; omega)) only [dF hlt, evR, hdR, List.length_map, List.getElem?_map, Option.map_some, hc, hle, if_true, evSt, ↓evPre, ↓evPreW, evPost, evPostW, ← List.map_take, ← List.map_drop, ↓reduceIte, reduceCtorEq, Nat.reduceEqDiff, forall_const, implies_true, Nat.reduceAdd, Nat.reduceSub, Nat.reduceMul, Nat.reduceLT, Nat.reduceLeDiff, Int.reduceToNat, Int.reduceAdd, Int.reduceSub, Int.reduceNeg, Int.reduceMul, Int.reduceLT, Int.reduceLE, Int.reduceEq]
        refine ⟨by rw [List.length_take]; unfold roomA; omega, ?_⟩
        refine ⟨by rw [List.length_take]; unfold roomA; omega, ?_⟩
        rw [if_pos (Int.le_refl _), htd]
        have hrl : ((L.take k).map hdR ++ [[V.int .i64 id, V.sl 4 (legs.map lgR), V.str cls, V.int .i64 cnt, V.int .i64 til]]).length = (L.take k).length + 1 := by simp
        simp (disch := first | omega | (simp only [List.length_cons, List.length_nil, List.length_map, List.length_drop]; omega)) only [hrl, evR, evSt, ↓evPre, ↓evPreW, evPost, evPostW, ← List.map_take, ← List.map_drop, ↓reduceIte, reduceCtorEq, Nat.reduceEqDiff, forall_const, implies_true, Nat.reduceAdd, Nat.reduceSub, Nat.reduceMul, Nat.reduceLT, Nat.reduceLeDiff, Int.reduceToNat, Int.reduceAdd, Int.reduceSub, Int.reduceNeg, Int.reduceMul, Int.reduceLT, Int.reduceLE, Int.reduceEq]
        refine ⟨by rw [List.length_take, List.length_drop]; unfold roomA; omega, ?_⟩
        rw [hp]
        have hrow : (insH ⟨id, legs, cls, cnt, til⟩ L).map hdR = ((L.take k).map hdR ++ [[.int .i64 id, .sl 4 (legs.map lgR), .str cls, .int .i64 cnt, .int .i64 til]]) ++ (L.drop k).map hdR := by
          unfold insH
          rw [hke.1, hke.2]
          simp [hdR]
        have e : Neat (rst A B (insH ⟨id, legs, cls, cnt, til⟩ L)) := rst_neat hn
        refine rst_fin e ?_ (.imm rfl) ⟨rfl, rfl⟩
        rw [hrow]
        refine .sl (t := 28) (by rw [rst_len]; omega) (by simp (disch := first | omega | (simp only [List.length_cons, List.length_nil, List.length_map, List.length_drop]; omega)) only [evR, evSt, ↓evPre, ↓evPreW, evPost, evPostW, ← List.map_take, ← List.map_drop, ↓reduceIte, reduceCtorEq, Nat.reduceEqDiff, forall_const, implies_true, Nat.reduceAdd, Nat.reduceSub, Nat.reduceMul, Nat.reduceLT, Nat.reduceLeDiff, Int.reduceToNat, Int.reduceAdd, Int.reduceSub, Int.reduceNeg, Int.reduceMul, Int.reduceLT, Int.reduceLE, Int.reduceEq]) (by simp only [List.length_append, List.length_map, List.length_cons, List.length_nil]) (fun r hr => ?_)
        rw [← hrow] at hr
        exact hdR_imm _ r hr
      | some y =>
        have hlt' := (List.getElem?_eq_some_iff.1 hc).1
        have hlt : (k : Int) < L.length := by omega
        by_cases q1 : y.til < til
        · skip
          simp (disch := first | omega | (simp only [List.length_cons, List.length_nil, List.length_map, List.length_drop]; omega)) only [dT hlt, dT q1, evR, hdR, List.length_map, List.getElem?_map, Option.map_some, hc, wrap_i64, hk1, evSt, ↓evPre, ↓evPreW, evPost, evPostW, ← List.map_take, ← List.map_drop, ↓reduceIte, reduceCtorEq, Nat.reduceEqDiff, forall_const, implies_true, Nat.reduceAdd, Nat.reduceSub, Nat.reduceMul, Nat.reduceLT, Nat.reduceLeDiff, Int.reduceToNat, Int.reduceAdd, Int.reduceSub, Int.reduceNeg, Int.reduceMul, Int.reduceLT, Int.reduceLE, Int.reduceEq]
          refine ⟨k + 1, ⟨by omega, fun z hz => ?_⟩, by omega, rfl⟩
          rw [take_at hc] at hz
          rcases List.mem_append.1 hz with hz | hz
          · exact hlo z hz
          · simp only [List.mem_singleton] at hz
            subst hz
            unfold ltH; exact dT (.inl q1)
        by_cases q2 : y.til = til
        · by_cases q3 : y.id < id
          · skip
            simp (disch := first | omega | (simp only [List.length_cons, List.length_nil, List.length_map, List.length_drop]; omega)) only [dT hlt, dF q1, dT q2, dT q3, evR, hdR, List.length_map, List.getElem?_map, Option.map_some, hc, wrap_i64, hk1, evSt, ↓evPre, ↓evPreW, evPost, evPostW, ← List.map_take, ← List.map_drop, ↓reduceIte, reduceCtorEq, Nat.reduceEqDiff, forall_const, implies_true, Nat.reduceAdd, Nat.reduceSub, Nat.reduceMul, Nat.reduceLT, Nat.reduceLeDiff, Int.reduceToNat, Int.reduceAdd, Int.reduceSub, Int.reduceNeg, Int.reduceMul, Int.reduceLT, Int.reduceLE, Int.reduceEq]
            refine ⟨k + 1, ⟨by omega, fun z hz => ?_⟩, by omega, rfl⟩
            rw [take_at hc] at hz
            rcases List.mem_append.1 hz with hz | hz
            · exact hlo z hz
            · simp only [List.mem_singleton] at hz
              subst hz
              unfold ltH; exact dT (.inr ⟨q2, q3⟩)
          · skip
            have hke := hexit (fun z hz => by rw [hc] at hz; cases hz; unfold ltH; exact dF (by simp only; omega))
            simp (disch := first | omega | (simp only [List.length_cons, List.length_nil, List.length_map, List.length_drop]; omega)) only [dT hlt, dF q1, dT q2, dF q3, evR, hdR, List.length_map, List.getElem?_map, Option.map_some, hc, hle, if_true, evSt, ↓evPre, ↓evPreW, evPost, evPostW, ← List.map_take, ← List.map_drop, ↓reduceIte, reduceCtorEq, Nat.reduceEqDiff, forall_const, implies_true, Nat.reduceAdd, Nat.reduceSub, Nat.reduceMul, Nat.reduceLT, Nat.reduceLeDiff, Int.reduceToNat, Int.reduceAdd, Int.reduceSub, Int.reduceNeg, Int.reduceMul, Int.reduceLT, Int.reduceLE, Int.reduceEq]
            refine ⟨by rw [List.length_take]; unfold roomA; omega, ?_⟩
            refine ⟨by rw [List.length_take]; unfold roomA; omega, ?_⟩
            rw [if_pos (Int.le_refl _), htd]
            have hrl : ((L.take k).map hdR ++ [[V.int .i64 id, V.sl 4 (legs.map lgR), V.str cls, V.int .i64 cnt, V.int .i64 til]]).length = (L.take k).length + 1 := by simp
            simp (disch := first | omega | (simp only [List.length_cons, List.length_nil, List.length_map, List.length_drop]; omega)) only [hrl, evR, evSt, ↓evPre, ↓evPreW, evPost, evPostW, ← List.map_take, ← List.map_drop, ↓reduceIte, reduceCtorEq, Nat.reduceEqDiff, forall_const, implies_true, Nat.reduceAdd, Nat.reduceSub, Nat.reduceMul, Nat.reduceLT, Nat.reduceLeDiff, Int.reduceToNat, Int.reduceAdd, Int.reduceSub, Int.reduceNeg, Int.reduceMul, Int.reduceLT, Int.reduceLE, Int.reduceEq]
            refine ⟨by rw [List.length_take, List.length_drop]; unfold roomA; omega, ?_⟩
            rw [hp]
            have hrow : (insH ⟨id, legs, cls, cnt, til⟩ L).map hdR = ((L.take k).map hdR ++ [[.int .i64 id, .sl 4 (legs.map lgR), .str cls, .int .i64 cnt, .int .i64 til]]) ++ (L.drop k).map hdR := by
              unfold insH
              rw [hke.1, hke.2]
              simp [hdR]
            have e : Neat (rst A B (insH ⟨id, legs, cls, cnt, til⟩ L)) := rst_neat hn
            refine rst_fin e ?_ (.imm rfl) ⟨rfl, rfl⟩
            rw [hrow]
            refine .sl (t := 28) (by rw [rst_len]; omega) (by simp (disch := first | omega | (simp only [List.length_cons, List.length_nil, List.length_map, List.length_drop]; omega)) only [evR, evSt, ↓evPre, ↓evPreW, evPost, evPostW, ← List.map_take, ← List.map_drop, ↓reduceIte, reduceCtorEq, Nat.reduceEqDiff, forall_const, implies_true, Nat.reduceAdd, Nat.reduceSub, Nat.reduceMul, Nat.reduceLT, Nat.reduceLeDiff, Int.reduceToNat, Int.reduceAdd, Int.reduceSub, Int.reduceNeg, Int.reduceMul, Int.reduceLT, Int.reduceLE, Int.reduceEq]) (by simp only [List.length_append, List.length_map, List.length_cons, List.length_nil]) (fun r hr => ?_)
            rw [← hrow] at hr
            exact hdR_imm _ r hr
        · skip
          have hke := hexit (fun z hz => by rw [hc] at hz; cases hz; unfold ltH; exact dF (by simp only; omega))
          simp (disch := first | omega | (simp only [List.length_cons, List.length_nil, List.length_map, List.length_drop]; omega)) only [dT hlt, dF q1, dF q2, evR, hdR, List.length_map, List.getElem?_map, Option.map_some, hc, hle, if_true, evSt, ↓evPre, ↓evPreW, evPost, evPostW, ← List.map_take, ← List.map_drop, ↓reduceIte, reduceCtorEq, Nat.reduceEqDiff, forall_const, implies_true, Nat.reduceAdd, Nat.reduceSub, Nat.reduceMul, Nat.reduceLT, Nat.reduceLeDiff, Int.reduceToNat, Int.reduceAdd, Int.reduceSub, Int.reduceNeg, Int.reduceMul, Int.reduceLT, Int.reduceLE, Int.reduceEq]
          refine ⟨by rw [List.length_take]; unfold roomA; omega, ?_⟩
          refine ⟨by rw [List.length_take]; unfold roomA; omega, ?_⟩
          rw [if_pos (Int.le_refl _), htd]
          have hrl : ((L.take k).map hdR ++ [[V.int .i64 id, V.sl 4 (legs.map lgR), V.str cls, V.int .i64 cnt, V.int .i64 til]]).length = (L.take k).length + 1 := by simp
          simp (disch := first | omega | (simp only [List.length_cons, List.length_nil, List.length_map, List.length_drop]; omega)) only [hrl, evR, evSt, ↓evPre, ↓evPreW, evPost, evPostW, ← List.map_take, ← List.map_drop, ↓reduceIte, reduceCtorEq, Nat.reduceEqDiff, forall_const, implies_true, Nat.reduceAdd, Nat.reduceSub, Nat.reduceMul, Nat.reduceLT, Nat.reduceLeDiff, Int.reduceToNat, Int.reduceAdd, Int.reduceSub, Int.reduceNeg, Int.reduceMul, Int.reduceLT, Int.reduceLE, Int.reduceEq]
          refine ⟨by rw [List.length_take, List.length_drop]; unfold roomA; omega, ?_⟩
          rw [hp]
          have hrow : (insH ⟨id, legs, cls, cnt, til⟩ L).map hdR = ((L.take k).map hdR ++ [[.int .i64 id, .sl 4 (legs.map lgR), .str cls, .int .i64 cnt, .int .i64 til]]) ++ (L.drop k).map hdR := by
            unfold insH
            rw [hke.1, hke.2]
            simp [hdR]
          have e : Neat (rst A B (insH ⟨id, legs, cls, cnt, til⟩ L)) := rst_neat hn
          refine rst_fin e ?_ (.imm rfl) ⟨rfl, rfl⟩
          rw [hrow]
          refine .sl (t := 28) (by rw [rst_len]; omega) (by simp (disch := first | omega | (simp only [List.length_cons, List.length_nil, List.length_map, List.length_drop]; omega)) only [evR, evSt, ↓evPre, ↓evPreW, evPost, evPostW, ← List.map_take, ← List.map_drop, ↓reduceIte, reduceCtorEq, Nat.reduceEqDiff, forall_const, implies_true, Nat.reduceAdd, Nat.reduceSub, Nat.reduceMul, Nat.reduceLT, Nat.reduceLeDiff, Int.reduceToNat, Int.reduceAdd, Int.reduceSub, Int.reduceNeg, Int.reduceMul, Int.reduceLT, Int.reduceLE, Int.reduceEq]) (by simp only [List.length_append, List.length_map, List.length_cons, List.length_nil]) (fun r hr => ?_)
          rw [← hrow] at hr
          exact hdR_imm _ r hr
end
end Go.Proofs.Ythdcajfjglgiiaa
