/- The reference's holds: Extend, Expire, Held. -/
import Derived.Test.YthdcajfjglgiiaaHold9
namespace Go.Proofs.Ythdcajfjglgiiaa
open Go Go.AL
set_option linter.unusedSectionVars false
variable [Go.AL.Mode] [Go.AL.LooseM]
set_option linter.unusedSimpArgs false
set_option linter.unusedVariables false

section
variable {A B T : Store} {L : List Hd} {k ver : Nat} {o : AL.Obj}
theorem sn_ob : Store.obj? (rst A B L ++ T) (rN A B + k) ver = Store.obj? T k ver := rn_ob
theorem sn_ob0 : Store.obj? (rst A B L ++ T) (rN A B) ver = Store.obj? T 0 ver := rn_ob0
theorem sn_se : (rst A B L ++ T : Store).set (rN A B + k) o = rst A B L ++ T.set k o := rn_se
theorem sn_se0 : (rst A B L ++ T : Store).set (rN A B) o = rst A B L ++ T.set 0 o := rn_se0
theorem rl_obL : Store.obj? (rst A B L) A.length 0 = some (74, 1, [[.sl 5 (L.map hdR)]]) := rx_ob0
theorem rl_obLT : Store.obj? (rst A B L ++ T) A.length 0 = some (74, 1, [[.sl 5 (L.map hdR)]]) := rl_ob0
end
theorem evS : ((type_of% @rst_len) ∧ (type_of% @sn_ob) ∧ (type_of% @sn_ob0) ∧ (type_of% @sn_se) ∧ (type_of% @sn_se0)) ∧ (type_of% @rl_obL) ∧ (type_of% @rl_obLT) := ⟨⟨@rst_len, @sn_ob, @sn_ob0, @sn_se, @sn_se0⟩, @rl_obL, @rl_obLT⟩

section
variable (A B : Store) (L : List Hd)

theorem AtL_A (T : Store) (hl : L.length ≤ 1000000) (id : Int) : CallA Try.prog 37 [.ptr A.length 0 0 0, .int .i64 id] (rst A B L ++ T) fun r S' => r = .int .i64 (atF id L 0) ∧ S' = rst A B L ++ T := by
  rw [rst_app]; exact at_A A (B ++ T) L hl id
theorem DropL_A (T : Store) (h : OkL L) (hl : L.length ≤ 1000000) (id : Int) : CallA Try.prog 18 [.ptr A.length 0 0 0, .int .i64 id] (rst A B L ++ T) fun r S' => r = .tup [.agg (hdR (dropF L id).1.1), .int .i64 (dropF L id).1.2] ∧ S' = rst A B (dropF L id).2 ++ T := by
  rw [rst_app, rst_app]; exact DropR_A A (B ++ T) L h hl id
theorem PutL_A (T : Store) (h : OkL L) (hl : L.length ≤ 1000000) (x : Hd) (hx : x.legs.length ≤ 1000000) : CallA Try.prog 17 [.ptr A.length 0 0 0, .agg (hdR x)] (rst A B L ++ T) fun r S' => r = .int .i64 (putF L x).1 ∧ S' = rst A B (putF L x).2 ++ T := by
  rw [rst_app, rst_app]; exact PutR_A A (B ++ T) L h hl x hx

theorem ExtendR_A (h : OkL L) (hl : L.length ≤ 1000000) (id t : Int) : CallA Try.prog 20 [.ptr A.length 0 0 0, .int .i64 id, .int .i64 t] (rst A B L) fun r S' => r = .int .i64 (extF L id t).1 ∧ S' = rst A B (extF L id t).2 := by
  refine CallA.withNeat Try.func20 c320 fun hn => ?_
  refine CallA.fin Try.func20 c320 (Nat.le_of_ble_eq_true rfl) fun σ hσ => ?_
  have same : ∀ (n : Nat), extF L id t = ((n : Int), L) → ∃ r1 S1, Fgt (rst A B L) S1 ∧ Frz (rst A B L) S1 (.int .i64 (n : Int)) r1 ∧ (rst A B L).length ≤ S1.length ∧ r1 = .int .i64 (extF L id t).1 ∧ S1 = rst A B (extF L id t).2 := fun n hp =>
    ⟨.int .i64 n, rst A B L, hn.self, .imm rfl, Nat.le_refl _, by rw [hp], by rw [hp]⟩
  simp (disch := first | omega | (simp only [List.length_cons, List.length_nil, List.length_map, List.length_drop]; omega)) only [a320, evSt, ↓evPre, ↓evPreW, evPost, evPostW, ← List.map_take, ← List.map_drop, ↓reduceIte, reduceCtorEq, Nat.reduceEqDiff, forall_const, implies_true, Nat.reduceAdd, Nat.reduceSub, Nat.reduceMul, Nat.reduceLT, Nat.reduceLeDiff, Int.reduceToNat, Int.reduceAdd, Int.reduceSub, Int.reduceNeg, Int.reduceMul, Int.reduceLT, Int.reduceLE, Int.reduceEq]
  refine (at_A A B L hl id).then ?_
  cases hf : findH L id with
  | none =>
    have hp : extF L id t = (7, L) := by rw [extF, hf]
    simp only [at_none hf]
    simp (disch := first | omega | (simp only [List.length_cons, List.length_nil, List.length_map, List.length_drop]; omega)) only [evSt, ↓evPre, ↓evPreW, evPost, evPostW, ← List.map_take, ← List.map_drop, ↓reduceIte, reduceCtorEq, Nat.reduceEqDiff, forall_const, implies_true, Nat.reduceAdd, Nat.reduceSub, Nat.reduceMul, Nat.reduceLT, Nat.reduceLeDiff, Int.reduceToNat, Int.reduceAdd, Int.reduceSub, Int.reduceNeg, Int.reduceMul, Int.reduceLT, Int.reduceLE, Int.reduceEq]
    exact same 7 hp
  | some x =>
    obtain ⟨i, h1, h2, h3⟩ := at_some (k := 0) h.uq hf
    rw [Nat.zero_add] at h1
    have hge : ¬ ((i : Nat) : Int) < 0 := by omega
    simp only [h1]
    simp (disch := first | omega | (simp only [List.length_cons, List.length_nil, List.length_map, List.length_drop]; omega)) only [dF hge, evSt, ↓evPre, ↓evPreW, evPost, evPostW, ← List.map_take, ← List.map_drop, ↓reduceIte, reduceCtorEq, Nat.reduceEqDiff, forall_const, implies_true, Nat.reduceAdd, Nat.reduceSub, Nat.reduceMul, Nat.reduceLT, Nat.reduceLeDiff, Int.reduceToNat, Int.reduceAdd, Int.reduceSub, Int.reduceNeg, Int.reduceMul, Int.reduceLT, Int.reduceLE, Int.reduceEq]
    refine (time_A t _).then ?_
    cases h6 : minF t with
    | false =>
      have hp : extF L id t = (2, L) := by rw [extF, hf]; simp [h6]
      simp (disch := first | omega | (simp only [List.length_cons, List.length_nil, List.length_map, List.length_drop]; omega)) only [h6, evSt, ↓evPre, ↓evPreW, evPost, evPostW, ← List.map_take, ← List.map_drop, ↓reduceIte, reduceCtorEq, Nat.reduceEqDiff, forall_const, implies_true, Nat.reduceAdd, Nat.reduceSub, Nat.reduceMul, Nat.reduceLT, Nat.reduceLeDiff, Int.reduceToNat, Int.reduceAdd, Int.reduceSub, Int.reduceNeg, Int.reduceMul, Int.reduceLT, Int.reduceLE, Int.reduceEq]
      exact same 2 hp
    | true =>
      obtain ⟨y1, y2⟩ := find_some hf
      have hd : dropF L id = ((x, 0), delH L id) := by rw [dropF, hf]
      have hput : putF (delH L id) (setT x t) = (0, insH (setT x t) (delH L id)) := by
        rw [putF, if_neg (setT_bad (h.good x y1) h6)]
        cases hg : findH (delH L id) (setT x t).id with
        | none => rfl
        | some z =>
          obtain ⟨z1, z2⟩ := find_some hg
          exact absurd (z2.trans y2) (del_ne z z1).2
      have hp : extF L id t = (0, insH (setT x t) (delH L id)) := by rw [extF, hf]; simp [h6]
      simp (disch := first | omega | (simp only [List.length_cons, List.length_nil, List.length_map, List.length_drop]; omega)) only [h6, evSt, ↓evPre, ↓evPreW, evPost, evPostW, ← List.map_take, ← List.map_drop, ↓reduceIte, reduceCtorEq, Nat.reduceEqDiff, forall_const, implies_true, Nat.reduceAdd, Nat.reduceSub, Nat.reduceMul, Nat.reduceLT, Nat.reduceLeDiff, Int.reduceToNat, Int.reduceAdd, Int.reduceSub, Int.reduceNeg, Int.reduceMul, Int.reduceLT, Int.reduceLE, Int.reduceEq]
      refine (DropR_A A B L h hl id).then2 ?_
      rw [hd]
      simp (disch := first | omega | (simp only [List.length_cons, List.length_nil, List.length_map, List.length_drop]; omega)) only [hdR, evS, evSt, ↓evPre, ↓evPreW, evPost, evPostW, ← List.map_take, ← List.map_drop, ↓reduceIte, reduceCtorEq, Nat.reduceEqDiff, forall_const, implies_true, Nat.reduceAdd, Nat.reduceSub, Nat.reduceMul, Nat.reduceLT, Nat.reduceLeDiff, Int.reduceToNat, Int.reduceAdd, Int.reduceSub, Int.reduceNeg, Int.reduceMul, Int.reduceLT, Int.reduceLE, Int.reduceEq]
      have hcall := PutL_A A B (delH L id) [⟨0, some (.arr 28 5 [hdR (setT x t)])⟩] (h.del id) (by have := del_len L id; omega) (setT x t) (h.legs x y1)
      rw [hput] at hcall
      simp only [hdR, setT] at hcall
      refine hcall.then2 ?_
      simp (disch := first | omega | (simp only [List.length_cons, List.length_nil, List.length_map, List.length_drop]; omega)) only [hdR, evS, evSt, ↓evPre, ↓evPreW, evPost, evPostW, ← List.map_take, ← List.map_drop, ↓reduceIte, reduceCtorEq, Nat.reduceEqDiff, forall_const, implies_true, Nat.reduceAdd, Nat.reduceSub, Nat.reduceMul, Nat.reduceLT, Nat.reduceLeDiff, Int.reduceToNat, Int.reduceAdd, Int.reduceSub, Int.reduceNeg, Int.reduceMul, Int.reduceLT, Int.reduceLE, Int.reduceEq]
      have e : Neat (rst A B (insH (setT x t) (delH L id))) := rst_neat hn
      rw [hp]
      exact ⟨.int .i64 0, _, e.fgt _, .imm rfl, by rw [rst_len]; exact Nat.le_refl _, rfl, rfl⟩

/-! ### Expire -/
def rxEnv (A B : Store) (now : Int) (n v : Nat) : Env := [(0, .ptr A.length 0 0 0), (1, .int .i64 now), (5, .msl (rN A B) v 0 n)]
def rxSt (A B : Store) (L : List Hd) (G : List Hd) (v : Nat) : Store := rst A B L ++ [⟨v, some (.arr 28 5 (G.map hdR))⟩]
theorem rx_back {A B T : Store} {L G : List Hd} (hn : Neat (rst A B L)) {now : Int} {n v : Nat} {E : Env} {R : List (List V)} (hE : sub (rxEnv A B now n v) E) (hR : R = G.map hdR) :
    Back (rxEnv A B now n v) (rxSt A B L G v) E (rst A B L ++ ⟨v, some (.arr 28 5 R)⟩ :: T) := by
  subst hR
  refine back_under (hn.fgtL (L := ⟨v, some (.arr 28 5 (G.map hdR))⟩ :: T) (L1 := [⟨v, some (.arr 28 5 (G.map hdR))⟩]) ⟨rfl, ⟨_, rfl, .imm (hdR_imm _)⟩, fgtL_nil⟩) hE ?_
  have e1 : A.length < rN A B + 1 := by unfold rN; omega
  simp [rxEnv, rst_len, V.under, e1]
theorem gone_at {L : List Hd} (h : Asc L) {now : Int} {j : Nat} (h1 : ∀ y ∈ L.take j, y.til ≤ now) (h2 : ∀ z, L[j]? = some z → ¬ z.til ≤ now) : goneF L now = L.take j ∧ restF L now = L.drop j := by
  have h3 : ∀ y ∈ L.drop j, ¬ y.til ≤ now := by
    cases hc : L[j]? with
    | none => rw [List.drop_eq_nil_iff.2 (List.getElem?_eq_none_iff.1 hc)]; intro y hy; cases hy
    | some z =>
      have hz := h2 z hc
      unfold Asc at h
      rw [← List.take_append_drop j L, drop_at hc, List.pairwise_append, List.pairwise_cons] at h
      rw [drop_at hc]
      intro y hy
      rcases List.mem_cons.1 hy with rfl | hy
      · exact hz
      · have := h.2.1.1 y hy
        simp only [ltH, decide_eq_true_eq] at this
        omega
  have e1 : ∀ y ∈ L.take j, decide (y.til ≤ now) = true := fun y hy => dT (h1 y hy)
  have e2 : ∀ y ∈ L.drop j, decide (y.til ≤ now) = false := fun y hy => dF (h3 y hy)
  unfold goneF restF
  constructor
  · conv => lhs; rw [← List.take_append_drop j L]
    rw [List.filter_append, List.filter_eq_self.2 e1, List.filter_eq_nil_iff.2 (fun y hy => by simp [e2 y hy]), List.append_nil]
  · conv => lhs; rw [← List.take_append_drop j L]
    rw [List.filter_append, List.filter_eq_nil_iff.2 (fun y hy => by simp [e1 y hy]), List.filter_eq_self.2 (fun y hy => by simp [e2 y hy]), List.nil_append]
theorem drop_head {x : Hd} {M : List Hd} (h : Uq (x :: M)) : dropF (x :: M) x.id = ((x, 0), M) := by
  have hf : findH (x :: M) x.id = some x := find_mem h (List.mem_cons_self ..)
  have hd : delH (x :: M) x.id = M := del_mid (l := []) (m := M) (x := x) h
  rw [dropF, hf, hd]

theorem ExpireR_A (h : OkL L) (hl : L.length ≤ 1000000) (now : Int) : CallA Try.prog 22 [.ptr A.length 0 0 0, .int .i64 now] (rst A B L) fun r S' => r = .sl 5 ((goneF L now).map hdR) ∧ S' = rst A B (restF L now) := by
  refine CallA.withNeat Try.func22 c322 fun hn => ?_
  refine CallA.fin Try.func22 c322 (Nat.le_of_ble_eq_true rfl) fun σ hσ => ?_
  simp (disch := first | omega | (simp only [List.length_cons, List.length_nil, List.length_map, List.length_drop]; omega)) only [a322, evSt, ↓evPre, ↓evPreW, evPost, evPostW, ← List.map_take, ← List.map_drop, ↓reduceIte, reduceCtorEq, Nat.reduceEqDiff, forall_const, implies_true, Nat.reduceAdd, Nat.reduceSub, Nat.reduceMul, Nat.reduceLT, Nat.reduceLeDiff, Int.reduceToNat, Int.reduceAdd, Int.reduceSub, Int.reduceNeg, Int.reduceMul, Int.reduceLT, Int.reduceLE, Int.reduceEq]
  refine LoopA.ghost 5 0 28 5 (by simp only [↓evPre, ↓evPreW, evPost, evPostW, ← List.map_take, ← List.map_drop, ↓reduceIte, reduceCtorEq, Nat.reduceEqDiff, forall_const, implies_true, Nat.reduceAdd, Nat.reduceSub, Nat.reduceMul, Nat.reduceLT, Nat.reduceLeDiff, Int.reduceToNat, Int.reduceAdd, Int.reduceSub, Int.reduceNeg, Int.reduceMul, Int.reduceLT, Int.reduceLE, Int.reduceEq]) ?_
  refine loopF (ι := Nat × Nat) (fun p => rxEnv A B now (L.take p.1).length p.2) (fun p => rxSt A B (L.drop p.1) (L.take p.1) p.2) (fun p => p.1 ≤ L.length ∧ ∀ y ∈ L.take p.1, y.til ≤ now) (fun p => L.length - p.1)
    (fun p _ => by rw [hσ]; simp [rxSt, rst_len]) (0, 0) ⟨Nat.zero_le _, fun y hy => by simp at hy⟩ (.inl ⟨?_, ?_⟩) ?_
  · simp (disch := first | omega | (simp only [List.length_cons, List.length_nil, List.length_map, List.length_drop]; omega)) only [rxEnv, rst_len, List.take_zero, List.length_nil, evSt, ↓evPre, ↓evPreW, evPost, evPostW, ← List.map_take, ← List.map_drop, ↓reduceIte, reduceCtorEq, Nat.reduceEqDiff, forall_const, implies_true, Nat.reduceAdd, Nat.reduceSub, Nat.reduceMul, Nat.reduceLT, Nat.reduceLeDiff, Int.reduceToNat, Int.reduceAdd, Int.reduceSub, Int.reduceNeg, Int.reduceMul, Int.reduceLT, Int.reduceLE, Int.reduceEq]
  · simp [rxSt]
  rintro ⟨k, v⟩ ⟨hk, hlo⟩
  simp only at hk hlo ⊢
  have hnk : Neat (rst A B (L.drop k)) := rst_neat hn
  have e1 : rxSt A B (L.drop k) (L.take k) v = rst A B (L.drop k) ++ [⟨v, some (.arr 28 5 ((L.take k).map hdR))⟩] := rfl
  have htl : (L.take k).length = k := by rw [List.length_take]; omega
  rw [e1]
  have fin : (∀ z, L[k]? = some z → ¬ z.til ≤ now) → ∃ r1 S1, Fgt (rst A B (L.drop k) ++ [⟨v, some (.arr 28 5 ((L.take k).map hdR))⟩]) S1 ∧ Frz (rst A B (L.drop k) ++ [⟨v, some (.arr 28 5 ((L.take k).map hdR))⟩]) S1 (.msl (rN A B) v 0 (L.take k).length) r1 ∧ rN A B ≤ S1.length ∧ r1 = .sl 5 ((goneF L now).map hdR) ∧ S1 = rst A B (restF L now) := fun hz => by
    obtain ⟨g1, g2⟩ := gone_at h.asc hlo hz
    rw [g1, g2]
    refine ⟨.sl 5 ((L.take k).map hdR), rst A B (L.drop k), hnk.fgt _, ?_, by rw [rst_len]; exact Nat.le_refl _, rfl, rfl⟩
    exact .sl (t := 28) (by rw [rst_len]; exact Nat.le_refl _) (by simp (disch := first | omega | (simp only [List.length_cons, List.length_nil, List.length_map, List.length_drop]; omega)) only [evS, evSt, ↓evPre, ↓evPreW, evPost, evPostW, ← List.map_take, ← List.map_drop, ↓reduceIte, reduceCtorEq, Nat.reduceEqDiff, forall_const, implies_true, Nat.reduceAdd, Nat.reduceSub, Nat.reduceMul, Nat.reduceLT, Nat.reduceLeDiff, Int.reduceToNat, Int.reduceAdd, Int.reduceSub, Int.reduceNeg, Int.reduceMul, Int.reduceLT, Int.reduceLE, Int.reduceEq]) (by simp) (hdR_imm _)
  cases hc : L[k]? with
  | none =>
    have hge : L.length ≤ k := List.getElem?_eq_none_iff.1 hc
    have hd : L.drop k = [] := List.drop_eq_nil_iff.2 hge
    rw [hd] at fin ⊢
    simp (disch := first | omega | (simp only [List.length_cons, List.length_nil, List.length_map, List.length_drop]; omega)) only [rxEnv, List.map_nil, evS, evSt, ↓evPre, ↓evPreW, evPost, evPostW, ← List.map_take, ← List.map_drop, ↓reduceIte, reduceCtorEq, Nat.reduceEqDiff, forall_const, implies_true, Nat.reduceAdd, Nat.reduceSub, Nat.reduceMul, Nat.reduceLT, Nat.reduceLeDiff, Int.reduceToNat, Int.reduceAdd, Int.reduceSub, Int.reduceNeg, Int.reduceMul, Int.reduceLT, Int.reduceLE, Int.reduceEq]
    exact fin fun z hz => by rw [hc] at hz; cases hz
  | some x =>
    have hlt' := (List.getElem?_eq_some_iff.1 hc).1
    have hd := drop_at hc
    have hlen0 : (0 : Int) < (((L.drop (k + 1)).length + 1 : Nat) : Int) := by omega
    by_cases h1 : x.til ≤ now
    · have hok : OkL (L.drop k) := h.sub (List.drop_sublist _ _)
      rw [hd] at hok
      have hcall := fun T => DropL_A A B (x :: L.drop (k + 1)) T hok (by have h9 := congrArg List.length hd; rw [List.length_drop] at h9; omega) x.id
      rw [drop_head hok.uq] at hcall
      rw [hd]
      simp (disch := first | omega | (simp only [List.length_cons, List.length_nil, List.length_map, List.length_drop]; omega)) only [rxEnv, List.map_cons, List.length_cons, List.length_map, hlen0, hdR, dT hlen0, dT h1, evS, evSt, ↓evPre, ↓evPreW, evPost, evPostW, ← List.map_take, ← List.map_drop, ↓reduceIte, reduceCtorEq, Nat.reduceEqDiff, forall_const, implies_true, Nat.reduceAdd, Nat.reduceSub, Nat.reduceMul, Nat.reduceLT, Nat.reduceLeDiff, Int.reduceToNat, Int.reduceAdd, Int.reduceSub, Int.reduceNeg, Int.reduceMul, Int.reduceLT, Int.reduceLE, Int.reduceEq]
      refine (hcall _).then2 ?_
      have htk : (L.take (k + 1)).map hdR = (L.take k).map hdR ++ [[.int .i64 x.id, .sl 4 (x.legs.map lgR), .str x.cls, .int .i64 x.cnt, .int .i64 x.til]] := by rw [take_at hc]; simp [hdR]
      have hrl : ((L.take k).map hdR).length = (L.take k).length := List.length_map ..
      simp (disch := first | omega | (simp only [List.length_cons, List.length_nil, List.length_map, List.length_drop]; omega)) only [hdR, hrl, evS, evSt, ↓evPre, ↓evPreW, evPost, evPostW, ← List.map_take, ← List.map_drop, ↓reduceIte, reduceCtorEq, Nat.reduceEqDiff, forall_const, implies_true, Nat.reduceAdd, Nat.reduceSub, Nat.reduceMul, Nat.reduceLT, Nat.reduceLeDiff, Int.reduceToNat, Int.reduceAdd, Int.reduceSub, Int.reduceNeg, Int.reduceMul, Int.reduceLT, Int.reduceLE, Int.reduceEq]
      refine ⟨by unfold roomA; omega, (k + 1, v + 1), ⟨hlt', fun y hy => ?_⟩, by simp only; omega, ?_⟩
      · simp only at hy
        rw [take_at hc] at hy
        rcases List.mem_append.1 hy with hy | hy
        · exact hlo y hy
        · simp only [List.mem_singleton] at hy
          subst hy
          exact h1
      · have htl1 : (L.take (k + 1)).length = (L.take k).length + 1 := by rw [take_at hc]; simp
        simp only [htl1]
        exact rx_back (rst_neat hn) (by simp only [rxEnv, ↓evPre, ↓evPreW, evPost, evPostW, ← List.map_take, ← List.map_drop, ↓reduceIte, reduceCtorEq, Nat.reduceEqDiff, forall_const, implies_true, Nat.reduceAdd, Nat.reduceSub, Nat.reduceMul, Nat.reduceLT, Nat.reduceLeDiff, Int.reduceToNat, Int.reduceAdd, Int.reduceSub, Int.reduceNeg, Int.reduceMul, Int.reduceLT, Int.reduceLE, Int.reduceEq]) htk.symm
    · rw [hd] at fin ⊢
      simp (disch := first | omega | (simp only [List.length_cons, List.length_nil, List.length_map, List.length_drop]; omega)) only [rxEnv, List.map_cons, List.length_cons, List.length_map, hlen0, hdR, dT hlen0, dF h1, evS, evSt, ↓evPre, ↓evPreW, evPost, evPostW, ← List.map_take, ← List.map_drop, ↓reduceIte, reduceCtorEq, Nat.reduceEqDiff, forall_const, implies_true, Nat.reduceAdd, Nat.reduceSub, Nat.reduceMul, Nat.reduceLT, Nat.reduceLeDiff, Int.reduceToNat, Int.reduceAdd, Int.reduceSub, Int.reduceNeg, Int.reduceMul, Int.reduceLT, Int.reduceLE, Int.reduceEq]
      exact fin fun z hz => by rw [hc] at hz; cases hz; exact h1

/-! ### Held -/
def cntL (leg : Lg) (l : List Lg) : Int := (l.count leg : Nat)
theorem cnt_has {x : Hd} (h : ¬ badH x) (leg : Lg) : cntL leg x.legs = if leg ∈ x.legs then 1 else 0 := by
  unfold badH at h
  have hn : x.legs.Nodup := Decidable.not_not.1 fun hh => h (.inr (.inr (.inl hh)))
  unfold cntL
  by_cases hm : leg ∈ x.legs
  · rw [if_pos hm, hn.count, if_pos hm]; rfl
  · rw [if_neg hm, List.count_eq_zero.2 hm]; rfl

theorem HeldR_A (h : OkL L) (hl : L.length ≤ 1000) (leg : Lg) (cls : List UInt8) : CallA Try.prog 23 [.ptr A.length 0 0 0, .agg (lgR leg), .str cls] (rst A B L) fun r S' => r = .int .i64 (heldF L leg cls) ∧ S' = rst A B L := by
  refine CallA.keep Try.func23 c323 (Nat.le_of_ble_eq_true rfl) fun σ hσ => ?_
  have hcnt := heldB h leg cls
  simp (disch := first | omega | (simp only [List.length_cons, List.length_nil, List.length_map, List.length_drop]; omega)) only [a323, lgR, evSt, ↓evPre, ↓evPreW, evPost, evPostW, ← List.map_take, ← List.map_drop, ↓reduceIte, reduceCtorEq, Nat.reduceEqDiff, forall_const, implies_true, Nat.reduceAdd, Nat.reduceSub, Nat.reduceMul, Nat.reduceLT, Nat.reduceLeDiff, Int.reduceToNat, Int.reduceAdd, Int.reduceSub, Int.reduceNeg, Int.reduceMul, Int.reduceLT, Int.reduceLE, Int.reduceEq]
  refine loopA (ι := Nat) (fun k => [(0, .ptr A.length 0 0 0), (2, .str cls), (4, .cptr (lgR leg)), (7, .int .i64 (heldF (L.take k) leg cls)), (8, .int .i64 (k : Nat))]) (fun _ => rst A B L) (fun k => k ≤ L.length) (fun k => L.length - k) 0 (Nat.zero_le _) ?_ rfl ?_
  · simp only [lgR, List.take_zero, heldF, List.filter_nil, List.map_nil, List.sum_nil, ↓evPre, ↓evPreW, evPost, evPostW, ← List.map_take, ← List.map_drop, ↓reduceIte, reduceCtorEq, Nat.reduceEqDiff, forall_const, implies_true, Nat.reduceAdd, Nat.reduceSub, Nat.reduceMul, Nat.reduceLT, Nat.reduceLeDiff, Int.reduceToNat, Int.reduceAdd, Int.reduceSub, Int.reduceNeg, Int.reduceMul, Int.reduceLT, Int.reduceLE, Int.reduceEq]
  rintro k hk
  cases hc : L[k]? with
  | none =>
    have hge : L.length ≤ k := List.getElem?_eq_none_iff.1 hc
    have hlt : ¬ ((k : Int) < L.length) := by omega
    rw [List.take_of_length_le hge]
    simp (disch := first | omega | (simp only [List.length_cons, List.length_nil, List.length_map, List.length_drop]; omega)) only [List.length_map, dF hlt, evS, evSt, ↓evPre, ↓evPreW, evPost, evPostW, ← List.map_take, ← List.map_drop, ↓reduceIte, reduceCtorEq, Nat.reduceEqDiff, forall_const, implies_true, Nat.reduceAdd, Nat.reduceSub, Nat.reduceMul, Nat.reduceLT, Nat.reduceLeDiff, Int.reduceToNat, Int.reduceAdd, Int.reduceSub, Int.reduceNeg, Int.reduceMul, Int.reduceLT, Int.reduceLE, Int.reduceEq]
  | some x =>
    have hlt' := (List.getElem?_eq_some_iff.1 hc).1
    have hlt : (k : Int) < L.length := by omega
    have hk1 : (k : Int) + 1 = ((k + 1 : Nat) : Int) := by omega
    obtain ⟨b0, b1⟩ := hcnt k
    have hb2 := hcnt (k + 1)
    have hgood := h.good x (List.mem_of_getElem? hc)
    have hch := cnt_has hgood leg
    have hstep := held_snoc (x := x) leg cls hc
    have hx6 := h.legs x (List.mem_of_getElem? hc)
    have hgd := hgood
    unfold badH at hgd
    simp (disch := first | omega | (simp only [List.length_cons, List.length_nil, List.length_map, List.length_drop]; omega)) only [dT hlt, List.length_map, evS, evSt, ↓evPre, ↓evPreW, evPost, evPostW, ← List.map_take, ← List.map_drop, ↓reduceIte, reduceCtorEq, Nat.reduceEqDiff, forall_const, implies_true, Nat.reduceAdd, Nat.reduceSub, Nat.reduceMul, Nat.reduceLT, Nat.reduceLeDiff, Int.reduceToNat, Int.reduceAdd, Int.reduceSub, Int.reduceNeg, Int.reduceMul, Int.reduceLT, Int.reduceLE, Int.reduceEq]
    refine loopA (ι := Nat) (fun j => [(0, .ptr A.length 0 0 0), (2, .str cls), (4, .cptr (lgR leg)), (7, .int .i64 (heldF (L.take k) leg cls + (if x.cls = cls then cntL leg (x.legs.take j) * x.cnt else 0))), (8, .int .i64 (k : Nat)), (9, .int .i64 (j : Nat))]) (fun _ => rst A B L) (fun j => j ≤ x.legs.length) (fun j => x.legs.length - j) 0 (Nat.zero_le _) ?_ rfl ?_
    · simp only [lgR, List.take_zero, cntL, List.count_nil, Int.natCast_zero, Int.zero_mul, ite_self, Int.add_zero, ↓evPre, ↓evPreW, evPost, evPostW, ← List.map_take, ← List.map_drop, ↓reduceIte, reduceCtorEq, Nat.reduceEqDiff, forall_const, implies_true, Nat.reduceAdd, Nat.reduceSub, Nat.reduceMul, Nat.reduceLT, Nat.reduceLeDiff, Int.reduceToNat, Int.reduceAdd, Int.reduceSub, Int.reduceNeg, Int.reduceMul, Int.reduceLT, Int.reduceLE, Int.reduceEq]
    rintro j hj
    have hend : heldF (L.take (k + 1)) leg cls = heldF (L.take k) leg cls + (if x.cls = cls then cntL leg x.legs * x.cnt else 0) := by
      rw [hstep, hch]
      by_cases q1 : x.cls = cls <;> by_cases q2 : leg ∈ x.legs <;> simp [hasF, q1, q2]
    by_cases q1 : x.cls = cls
    · rw [if_pos q1] at hend ⊢
      cases hcj : x.legs[j]? with
      | none =>
        have hge : x.legs.length ≤ j := List.getElem?_eq_none_iff.1 hcj
        have hltj : ¬ ((j : Int) < x.legs.length) := by omega
        rw [List.take_of_length_le hge, ← hend]
        simp (disch := first | omega | (simp only [List.length_cons, List.length_nil, List.length_map, List.length_drop]; omega)) only [hdR, List.length_map, List.getElem?_map, Option.map_some, hc, dF hltj, wrap_i64, hk1, evS, evSt, ↓evPre, ↓evPreW, evPost, evPostW, ← List.map_take, ← List.map_drop, ↓reduceIte, reduceCtorEq, Nat.reduceEqDiff, forall_const, implies_true, Nat.reduceAdd, Nat.reduceSub, Nat.reduceMul, Nat.reduceLT, Nat.reduceLeDiff, Int.reduceToNat, Int.reduceAdd, Int.reduceSub, Int.reduceNeg, Int.reduceMul, Int.reduceLT, Int.reduceLE, Int.reduceEq]
        exact ⟨k + 1, by omega, by omega, rfl, rfl⟩
      | some y =>
        have hlt2 := (List.getElem?_eq_some_iff.1 hcj).1
        have hltj : (j : Int) < x.legs.length := by omega
        have hj1 : (j : Int) + 1 = ((j + 1 : Nat) : Int) := by omega
        have hcs : cntL leg (x.legs.take (j + 1)) = cntL leg (x.legs.take j) + (if y = leg then 1 else 0) := by
          unfold cntL
          rw [take_at hcj, List.count_append, List.count_singleton]
          by_cases e : y = leg <;> simp [e]
        have hle1 : cntL leg (x.legs.take (j + 1)) ≤ 1 := by
          have h8 : cntL leg (x.legs.take (j + 1)) ≤ cntL leg x.legs := by
            unfold cntL
            have := (List.take_sublist (j + 1) x.legs).count_le leg
            omega
          rw [hch] at h8
          split at h8 <;> omega
        have hge0 : 0 ≤ cntL leg (x.legs.take j) := by unfold cntL; omega
        by_cases q2 : y = leg
        · rw [if_pos q2] at hcs
          have h0 : cntL leg (x.legs.take j) = 0 := by omega
          have hnx : heldF (L.take k) leg cls + x.cnt = heldF (L.take k) leg cls + (if x.cls = cls then cntL leg (x.legs.take (j + 1)) * x.cnt else 0) := by rw [if_pos q1, hcs, h0]; omega
          rw [h0, Int.zero_mul, Int.add_zero]
          simp (disch := first | omega | (simp only [List.length_cons, List.length_nil, List.length_map, List.length_drop]; omega)) only [hdR, lgR, eqd_lg, List.length_map, List.getElem?_map, Option.map_some, hc, hcj, dT hltj, dT q1, dT q2, wrap_i64, hj1, evS, evSt, ↓evPre, ↓evPreW, evPost, evPostW, ← List.map_take, ← List.map_drop, ↓reduceIte, reduceCtorEq, Nat.reduceEqDiff, forall_const, implies_true, Nat.reduceAdd, Nat.reduceSub, Nat.reduceMul, Nat.reduceLT, Nat.reduceLeDiff, Int.reduceToNat, Int.reduceAdd, Int.reduceSub, Int.reduceNeg, Int.reduceMul, Int.reduceLT, Int.reduceLE, Int.reduceEq]
          rw [hnx]
          exact ⟨j + 1, by omega, by omega, rfl, rfl⟩
        · rw [if_neg q2] at hcs
          have hnx : heldF (L.take k) leg cls + cntL leg (x.legs.take j) * x.cnt = heldF (L.take k) leg cls + (if x.cls = cls then cntL leg (x.legs.take (j + 1)) * x.cnt else 0) := by rw [if_pos q1, hcs, Int.add_zero]
          simp (disch := first | omega | (simp only [List.length_cons, List.length_nil, List.length_map, List.length_drop]; omega)) only [hdR, lgR, eqd_lg, List.length_map, List.getElem?_map, Option.map_some, hc, hcj, dT hltj, dT q1, dF q2, wrap_i64, hj1, evS, evSt, ↓evPre, ↓evPreW, evPost, evPostW, ← List.map_take, ← List.map_drop, ↓reduceIte, reduceCtorEq, Nat.reduceEqDiff, forall_const, implies_true, Nat.reduceAdd, Nat.reduceSub, Nat.reduceMul, Nat.reduceLT, Nat.reduceLeDiff, Int.reduceToNat, Int.reduceAdd, Int.reduceSub, Int.reduceNeg, Int.reduceMul, Int.reduceLT, Int.reduceLE, Int.reduceEq]
          rw [hnx]
          exact ⟨j + 1, by omega, by omega, rfl, rfl⟩
    · rw [if_neg q1] at hend ⊢
      rw [← hend]
      by_cases hltj : (j : Int) < x.legs.length
      · simp (disch := first | omega | (simp only [List.length_cons, List.length_nil, List.length_map, List.length_drop]; omega)) only [hdR, List.length_map, List.getElem?_map, Option.map_some, hc, dT hltj, dF q1, wrap_i64, hk1, evS, evSt, ↓evPre, ↓evPreW, evPost, evPostW, ← List.map_take, ← List.map_drop, ↓reduceIte, reduceCtorEq, Nat.reduceEqDiff, forall_const, implies_true, Nat.reduceAdd, Nat.reduceSub, Nat.reduceMul, Nat.reduceLT, Nat.reduceLeDiff, Int.reduceToNat, Int.reduceAdd, Int.reduceSub, Int.reduceNeg, Int.reduceMul, Int.reduceLT, Int.reduceLE, Int.reduceEq]
        exact ⟨k + 1, by omega, by omega, rfl, rfl⟩
      · simp (disch := first | omega | (simp only [List.length_cons, List.length_nil, List.length_map, List.length_drop]; omega)) only [hdR, List.length_map, List.getElem?_map, Option.map_some, hc, dF hltj, wrap_i64, hk1, evS, evSt, ↓evPre, ↓evPreW, evPost, evPostW, ← List.map_take, ← List.map_drop, ↓reduceIte, reduceCtorEq, Nat.reduceEqDiff, forall_const, implies_true, Nat.reduceAdd, Nat.reduceSub, Nat.reduceMul, Nat.reduceLT, Nat.reduceLeDiff, Int.reduceToNat, Int.reduceAdd, Int.reduceSub, Int.reduceNeg, Int.reduceMul, Int.reduceLT, Int.reduceLE, Int.reduceEq]
        exact ⟨k + 1, by omega, by omega, rfl, rfl⟩
end
end Go.Proofs.Ythdcajfjglgiiaa
