/- Mirrors among other objects: what a call leaves as it was; two that know the same. -/
import Derived.Test.YtlnpfnoemhjheaaGreatDoorMLk1
import Derived.Test.YtlnpfnoemhjheaaGreatDoorMRep1
import Derived.Test.YtlnpfnoemhjheaaGreatDoorMRec6
namespace Go.Proofs.YtlnpfnoemhjheaaGreatDoor
open Go Go.AL
set_option linter.unusedSectionVars false
variable [Go.AL.Mode] [Go.AL.LooseM]
set_option linter.unusedSimpArgs false
set_option linter.unusedVariables false
namespace Lk
theorem window {D : Nat → Prop} {A W B S S' : Store} (hS : S = A ++ (W ++ B)) (hf : Frm D S S') (hd : ∀ i, A.length ≤ i → i < A.length + W.length → ¬ D i) : ∃ A' B', A'.length = A.length ∧ S' = A' ++ (W ++ B') := by
  have hl := hf.1
  rw [hS, List.length_append, List.length_append] at hl
  refine ⟨S'.take A.length, S'.drop (A.length + W.length), by rw [List.length_take]; omega, ?_⟩
  apply List.ext_getElem?
  intro i
  have ht : (S'.take A.length).length = A.length := by rw [List.length_take]; omega
  by_cases h1 : i < A.length
  · rw [List.getElem?_append_left (by omega), List.getElem?_take, if_pos h1]
  · rw [List.getElem?_append_right (by omega), ht]
    by_cases h2 : i < A.length + W.length
    · rw [List.getElem?_append_left (by omega), hf.2 i (by rw [hS, List.length_append, List.length_append]; omega) (hd i (by omega) h2), hS, List.getElem?_append_right (by omega), List.getElem?_append_left (by omega)]
    · rw [List.getElem?_append_right (by omega), List.getElem?_drop]
      congr 1
      omega
theorem frm_window {A W W' B : Store} (h : W'.length = W.length) : Frm (fun i => A.length ≤ i ∧ i < A.length + W.length) (A ++ (W ++ B)) (A ++ (W' ++ B)) := by
  refine ⟨by simp only [List.length_append, h]; omega, fun i hi hd => ?_⟩
  by_cases h1 : i < A.length
  · rw [List.getElem?_append_left h1, List.getElem?_append_left h1]
  · have h2 : A.length + W.length ≤ i := by
      have := hd
      simp only [not_and, Nat.not_lt] at this
      exact this (by omega)
    rw [List.getElem?_append_right (by omega), List.getElem?_append_right (by omega), List.getElem?_append_right (by omega), List.getElem?_append_right (by omega), h]
abbrev Qs := List (Nat × Int × Int)
abbrev Cs := List (Nat × List St)
def mO (b : Nat) (M : Mi) (Q : Qs) (C : Cs) : Store := mst (List.replicate b ⟨0, none⟩) [] M Q C |>.drop b
theorem mO_eq (A B : Store) (M : Mi) (Q : Qs) (C : Cs) : mst A B M Q C = A ++ (mO A.length M Q C ++ B) ∧ (mO A.length M Q C).length = 4 := by
  unfold mO mst mirX
  rw [List.drop_append_of_le_length (by simp), List.drop_of_length_le (by simp)]
  simp
def MAt (b : Nat) (M : Mi) (S : Store) : Prop := ∃ A B Q C, A.length = b ∧ MOk M Q C ∧ S = mst A B M Q C
theorem MAt.frm {b : Nat} {M : Mi} {S S' : Store} {D : Nat → Prop} (h : MAt b M S) (hf : Frm D S S') (hd : ∀ i, b ≤ i → i < b + 4 → ¬ D i) : MAt b M S' := by
  obtain ⟨A, B, Q, C, h1, h2, h3⟩ := h
  obtain ⟨e1, e2⟩ := mO_eq A B M Q C
  rw [e1] at h3
  obtain ⟨A', B', g1, g2⟩ := window h3 hf fun i k1 k2 => hd i (by omega) (by omega)
  refine ⟨A', B', Q, C, by omega, h2, ?_⟩
  rw [g2, (mO_eq A' B' M Q C).1, g1]
theorem leaves_at {A B : Store} {M M' : Mi} {Q : Qs} {C : Cs} {S' : Store} (h : Leaves A B M' S') : MAt A.length M' S' ∧ Frm (fun i => A.length ≤ i ∧ i < A.length + 4) (mst A B M Q C) S' := by
  obtain ⟨Q', C', h1, rfl⟩ := h
  refine ⟨⟨A, B, Q', C', rfl, h1, rfl⟩, ?_⟩
  rw [(mO_eq A B M Q C).1, (mO_eq A B M' Q' C').1]
  have e1 := (mO_eq A B M Q C).2
  have e2 := (mO_eq A B M' Q' C').2
  have := frm_window (A := A) (W := mO A.length M Q C) (W' := mO A.length M' Q' C') (B := B) (by omega)
  rw [e1] at this
  exact this
theorem MAt.obj {b : Nat} {M : Mi} {S : Store} (h : MAt b M S) : S.obj? (b + 3) 0 = some (86, 4, [[.mapv b 0, .mapv (b + 1) 0, .mapv (b + 2) 0, .int .i64 (M.N : Nat)]]) := by
  obtain ⟨A, B, Q, C, h1, h2, rfl⟩ := h
  subst h1
  exact mx_ob3
theorem MAt.wf {b : Nat} {M : Mi} {S : Store} (h : MAt b M S) : WF M := by
  obtain ⟨A, B, Q, C, h1, h2, rfl⟩ := h
  exact h2.wf
section
variable {b : Nat} {M : Mi} {S : Store}
theorem putM_A (h : MAt b M S) (hN : M.N ≤ 1000000) (x : St) : CallA Tryz.prog 15 [.ptr (b + 3) 0 0 0, stV x] S fun r S' => r = .int .i64 (putF M x).1 ∧ MAt b (putF M x).2 S' ∧ Frm (fun i => b ≤ i ∧ i < b + 4) S S' := by
  obtain ⟨A, B, Q, C, rfl, h2, rfl⟩ := h
  exact (Put_A A B M Q C h2 hN x).mono fun r S' k => ⟨k.1, leaves_at k.2⟩
theorem allM_A (h : MAt b M S) (hN : M.N ≤ 1000000) : CallA Tryz.prog 19 [.ptr (b + 3) 0 0 0] S fun r S' => (∃ d, isAll M d ∧ r = stSl d) ∧ S' = S := by
  obtain ⟨A, B, Q, C, rfl, h2, rfl⟩ := h
  exact All_A A B M Q C h2 hN
theorem noneM_A (h : MAt b M S) (hN : M.N ≤ 1000000) : CallA Tryz.prog 47 [.ptr (b + 3) 0 0 0] S fun r S' => r = .bool false ∧ MAt b M S' ∧ Frm (fun i => b ≤ i ∧ i < b + 4) S S' := by
  obtain ⟨A, B, Q, C, rfl, h2, rfl⟩ := h
  exact (none_A A B M Q C h2 hN).mono fun r S' k => ⟨k.1, leaves_at k.2⟩
theorem recvM_A (h : MAt b M S) (l : List St) (hN : M.N + l.length ≤ 100000) : CallA Tryz.prog 48 [.ptr (b + 3) 0 0 0, stSl l] S fun r S' => r = .int .i64 ((rcv M l).2 : Nat) ∧ MAt b (rcv M l).1 S' ∧ Frm (fun i => b ≤ i ∧ i < b + 4) S S' := by
  obtain ⟨A, B, Q, C, rfl, h2, rfl⟩ := h
  exact (Go.Proofs.YtlnpfnoemhjheaaGreatDoor.receive_A A B M Q C h2 l hN).mono fun r S' k => ⟨k.1, leaves_at k.2⟩
end
theorem newM_A (S : Store) : CallA Tryz.prog 14 [] S fun r S' => r = .ptr (S.length + 3) 0 0 0 ∧ MAt S.length Mi0 S' ∧ ∃ T, T.length = 4 ∧ S' = S ++ T := by
  refine (New_A S).mono ?_
  rintro r S' ⟨rfl, rfl⟩
  refine ⟨rfl, ⟨S, [], [], [], rfl, MOk0, rfl⟩, ?_⟩
  obtain ⟨e1, e2⟩ := mO_eq S [] Mi0 [] []
  exact ⟨_, e2, by rw [e1, List.append_nil]⟩
end Lk
end Go.Proofs.YtlnpfnoemhjheaaGreatDoor
/- Two mirrors that know the same states: what they differ in, what they merge to, what a repair does. -/
namespace Go.Proofs.YtlnpfnoemhjheaaGreatDoor
open Go Go.AL
set_option linter.unusedSectionVars false
variable [Go.AL.Mode] [Go.AL.LooseM]
set_option linter.unusedSimpArgs false
set_option linter.unusedVariables false
namespace Lk
theorem merged_self_A (a : St) (S : Store) : CallA Tryz.prog 49 [stV a, stV a] S fun r S' => r = stV (mrgS a a) ∧ S' = S := by
  refine CallA.withNeat Tryz.func49 c47 fun hn => ?_
  refine CallA.fin Tryz.func49 c47 (Nat.le_of_ble_eq_true rfl) fun σ hσ => ?_
  have e : mrgS a a = a := by simp [mrgS]
  rw [e]
  simp (disch := first | omega | (simp only [lenT]; omega)) only [a47, stV, stR, eqd_st, Int.lt_irrefl, gt_iff_lt, decide_true, decide_false, or_true, if_true, evSt, ↓evPre, ↓evPreW, evPost, evPostW, evR, evU, seval]
  exact ⟨_, S, hn.fgt _, .imm rfl, Nat.le_refl _, rfl, rfl⟩
theorem merge_self_A (a : List St) (S : Store) (ha : a.length ≤ 1000) :
    CallA Tryz.prog 23 [stSl a, stSl a] S fun r S' => (∃ d, Asc d ∧ (∀ w, d.find? (sameS w) = mF a a w) ∧ r = stSl d) ∧ S' = S := by
  refine CallA.withNeat Tryz.func23 c30 fun hn => ?_
  refine CallA.fin Tryz.func23 c30 (Nat.le_of_ble_eq_true rfl) fun σ hσ => ?_
  simp (disch := first | omega | (simp only [lenT]; omega)) only [a30, evSt, ↓evPre, ↓evPreW, evPost, evPostW, evR, evU, seval]
  refine (of_A a S (by omega)).then2 ?_
  simp (disch := first | omega | (simp only [lenT]; omega)) only [evSt, ↓evPre, ↓evPreW, evPost, evPostW, evR, evU, seval]
  refine (of_A a _ (by omega)).then2 ?_
  simp (disch := first | omega | (simp only [lenT]; omega)) only [mpS, evSt, ↓evPre, ↓evPreW, evPost, evPostW, evR, evU, seval]
  have fa := firsts_len a
  refine loopF (ι := List St × List St) (fun p => mg1Env S) (fun p => mg1Store S (p.2.foldl stp (firsts a)) a p.1) (fun p => (p.2 ++ p.1).Perm (firsts a) ∧ (p.2.foldl stp (firsts a)).length ≤ 1000 + p.2.length) (fun p => p.1.length) (fun p _ => by rw [hσ]; simp [mg1Store])
    (firsts a, []) ⟨.refl _, by simp only [List.foldl_nil, List.length_nil]; omega⟩ (.inl ⟨?_, ?_⟩) ?_
  · simp (disch := first | omega | (simp only [lenT]; omega)) only [mg1Env, evSt, ↓evPre, ↓evPreW, evPost, evPostW, evR, evU, seval]
  · simp (disch := first | omega | (simp only [lenT]; omega)) only [mg1Store, mpS, List.foldl_nil, evSt, ↓evPre, ↓evPreW, evPost, evPostW, evR, evU, seval]
  rintro ⟨rest, done⟩ ⟨hp, hml⟩
  simp only at hp hml ⊢
  have hdl : done.length + rest.length ≤ 1000 := by have := hp.length_eq; simp only [List.length_append] at this; omega
  generalize hm : done.foldl stp (firsts a) = m at hml ⊢
  simp (disch := first | omega | (simp only [lenT]; omega)) only [mg1Env, mg1Store, mpS, evSt, ↓evPre, ↓evPreW, evPost, evPostW, evR, evU, seval]
  refine next_ents (fun h0 => ?_) (fun y rest' hx => ?_)
  · subst h0
    simp (disch := first | omega | (simp only [lenT]; omega)) only [List.map_nil, evSt, ↓evPre, ↓evPreW, evPost, evPostW, evR, evU, seval]
    refine LoopA.ghost 11 0 41 4 (by simp only [↓evPre, ↓evPreW, evPost, evPostW, evR, evU, seval]) ?_
    refine loopF (ι := List St × List St × Nat) (fun p => mg2Env S p.2.1 p.2.2) (fun p => mg2Store S m p.1 p.2.1 p.2.2) (fun p => (p.2.1 ++ p.1).Perm m) (fun p => p.1.length) (fun p _ => by rw [hσ]; simp [mg2Store])
      (m, [], 0) (.refl _) ?_ ?_
    · simp (disch := first | omega | (simp only [lenT]; omega)) only [evSt, ↓evPre, ↓evPreW, evPost, evPostW, evR, evU, seval]
      exact mg2_back hn ⟨rfl, by simp (disch := first | omega | (simp only [lenT]; omega)) only [evSt, ↓evPre, ↓evPreW, evPost, evPostW, evR, evU, seval], trivial⟩ rfl
    rintro ⟨rest2, out, v⟩ hp2
    simp only at hp2 ⊢
    have hol : out.length + rest2.length ≤ 2000 := by have := hp2.length_eq; simp only [List.length_append] at this; omega
    simp (disch := first | omega | (simp only [lenT]; omega)) only [mg2Env, mg2Store, mpS, evSt, ↓evPre, ↓evPreW, evPost, evPostW, evR, evU, seval]
    refine next_ents (fun h1 => ?_) (fun z rest2' hz => ?_)
    · subst h1
      simp (disch := first | omega | (simp only [lenT]; omega)) only [evSt, ↓evPre, ↓evPreW, evPost, evPostW, evR, evU, seval]
      refine (sorted_A out _ _ _ (by omega) (by simp (disch := first | omega | (simp only [lenT]; omega)) only [evSt, ↓evPre, ↓evPreW, evPost, evPostW, evR, evU, seval])).mono ?_
      rintro r S' ⟨rfl, l', h1, h2, rfl⟩
      simp (disch := first | omega | (simp only [lenT]; omega)) only [evSt, ↓evPre, ↓evPreW, evPost, evPostW, evR, evU, seval]
      have hl' := h1.length_eq
      rw [List.append_nil] at hp2 hp
      have hperm : l'.Perm m := h1.trans hp2
      have hma : Apart m := by rw [← hm]; exact stps_apart (firsts_apart a)
      have hda : Apart done := (firsts_apart a).perm hp.symm
      refine ⟨stSl l', S, hn.fgt _, ?_, Nat.le_refl _, ⟨l', Srt.asc h2 (hma.perm hperm.symm), fun w => ?_, rfl⟩, rfl⟩
      · rw [← hl']
        exact .sl (t := 41) (by omega) (by simp (disch := first | omega | (simp only [lenT]; omega)) only [evSt, ↓evPre, ↓evPreW, evPost, evPostW, evR, evU, seval]) (by simp) (stR_imm _)
      · rw [← hma.find_perm hperm.symm w, ← hm, stps_find hda w, hda.find_perm hp w, firsts_find]
        rfl
    · have hz2 : ((out ++ [z]) ++ rest2').Perm m := by
        rw [List.append_assoc]
        exact (List.Perm.append_left out hz.symm).trans hp2
      have hlt : rest2'.length < rest2.length := by have := hz.length_eq; simp at this; omega
      simp (disch := first | omega | (simp only [lenT]; omega)) only [ent, keyV, stV, stR, evSt, ↓evPre, ↓evPreW, evPost, evPostW, evR, evU, seval]
      refine ⟨by unfold roomA; omega, (rest2', out ++ [z], v + 1), hz2, hlt, ?_⟩
      exact mg2_back hn ⟨rfl, by simp (disch := first | omega | (simp only [lenT]; omega)) only [List.length_append, ↓evPre, ↓evPreW, evPost, evPostW, evR, evU, seval], trivial⟩ (by simp [stR])
  · have hf := find_ents y m
    unfold keyV at hf
    have hx2 : ((done ++ [y]) ++ rest').Perm (firsts a) := by
      rw [List.append_assoc]
      exact (List.Perm.append_left done hx.symm).trans hp
    have hlt : rest'.length < rest.length := by have := hx.length_eq; simp at this; omega
    have hfo : (done ++ [y]).foldl stp (firsts a) = stp m y := by rw [List.foldl_append, hm]; rfl
    have hyb : y ∈ firsts a := hx2.subset (by simp)
    have hl2 := stp_len m y
    have hinv : ((done ++ [y]).foldl stp (firsts a)).length ≤ 1000 + (done ++ [y]).length := by
      rw [hfo]
      simp only [List.length_append, List.length_cons, List.length_nil]
      omega
    have hyx : ∀ x, m.find? (sameS y) = some x → x = y := fun x hx => by
      have hda : Apart done := ((firsts_apart a).perm hp.symm).sublist (List.sublist_append_left _ _)
      rw [← hm, stps_find hda, (firsts_apart a).mem_find hyb] at hx
      cases hdy : done.find? (sameS y) with
      | none => rw [hdy] at hx; cases hx; rfl
      | some z =>
        have hz := hp.subset (List.mem_append_left _ (List.mem_of_find?_eq_some hdy))
        have hzf := (firsts_apart a).mem_find hz
        have hsz := find_same hdy
        have : (firsts a).find? (sameS y) = some z := by
          rw [← hzf]
          congr 1
          funext w
          exact same_same w hsz
        rw [(firsts_apart a).mem_find hyb] at this
        cases this
        rw [hdy] at hx
        simp only [joinF, Option.some.injEq] at hx
        rw [← hx]
        simp [mrgS]
    cases hg : m.find? (sameS y) with
    | none =>
      rw [hg] at hf
      have hst : stp m y = putS y m := by unfold stp; rw [hg]
      have hpt := put_ents y m
      unfold keyV stV stR at hpt
      simp (disch := first | omega | (simp only [lenT]; omega)) only [ent, keyV, stV, stR, hf, hpt, Option.map_none, Option.getD_none, Option.isSome_none, evSt, ↓evPre, ↓evPreW, evPost, evPostW, evR, evU, seval]
      refine ⟨(rest', done ++ [y]), ⟨hx2, hinv⟩, hlt, ?_⟩
      simp only [hfo, hst]
      exact mg1_back hn ⟨rfl, rfl, trivial⟩ rfl
    | some x =>
      rw [hg] at hf
      have hs := find_same hg
      have hst : stp m y = putS (mrgS x y) m := by unfold stp; rw [hg]
      have hpt := put_ents (mrgS x y) m
      rw [mrg_key hs] at hpt
      unfold keyV stV stR at hpt
      obtain rfl : y = x := (hyx x hg).symm
      simp (disch := first | omega | (simp only [lenT]; omega)) only [ent, keyV, stV, stR, hf, Option.getD_some, Option.isSome_some, evSt, ↓evPre, ↓evPreW, evPost, evPostW, evR, evU, seval]
      refine (merged_self_A y _).then ?_
      simp (disch := first | omega | (simp only [lenT]; omega)) only [stV, stR, hpt, evSt, ↓evPre, ↓evPreW, evPost, evPostW, evR, evU, seval]
      refine ⟨(rest', done ++ [y]), ⟨hx2, hinv⟩, hlt, ?_⟩
      simp only [hfo, hst]
      exact mg1_back hn ⟨rfl, rfl, trivial⟩ rfl
theorem diffs_self (a : List St) : (firsts a).filter (diffs a) = [] := by
  rw [List.filter_eq_nil_iff]
  intro x hx
  unfold diffs
  rw [(firsts_apart a).mem_find hx]
  simp
theorem differ_self_A (a : List St) (S : Store) (ha : a.length ≤ 1000) : CallA Tryz.prog 21 [stSl a, stSl a] S fun r S' => r = .sl 4 [] ∧ S' = S := by
  refine (differ_A a a S ha ha).mono ?_
  rintro r S' ⟨⟨d, h1, h2, rfl⟩, rfl⟩
  rw [diffs_self] at h2
  rw [h2.eq_nil]
  exact ⟨rfl, rfl⟩
theorem rcv_known {M : Mi} {l : List St} (h : ∀ x ∈ l, gR M x = some x) : rcv M l = (M, 0) := by
  generalize hn : l.length = n
  induction n generalizing l with
  | zero => rw [List.length_eq_zero_iff.1 hn]; rfl
  | succ n ih =>
    have hne : l ≠ [] := fun h => by rw [h] at hn; cases hn
    obtain ⟨l', x, rfl⟩ : ∃ l' x, l = l' ++ [x] := ⟨l.dropLast, l.getLast hne, (List.dropLast_concat_getLast hne).symm⟩
    rw [rcv_snoc, ih (fun y hy => h y (List.mem_append_left _ hy)) (by simpa using hn)]
    exact rc1_same (h x (by simp))
theorem joinF_self (o : Option St) : joinF o o = o := by
  cases o with
  | none => rfl
  | some p => simp [joinF, mrgS]
theorem merged_known {M : Mi} {d e : List St} (hd : isAll M d) (he : Asc e) (hf : ∀ w, e.find? (sameS w) = mF d d w) : rcv M e = (M, 0) ∧ e.length = d.length := by
  have hfd : ∀ w, e.find? (sameS w) = d.find? (sameS w) := fun w => by rw [hf, mF, joinF_self]
  have hed : e = d := he.uniqF hd.1 hfd
  refine ⟨rcv_known fun x hx => ?_, by rw [hed]⟩
  rw [← isAll_find hd, ← hfd]
  exact he.apart.mem_find hx
set_option maxHeartbeats 1000000 in
theorem repair_same_A {b1 b2 : Nat} {M : Mi} {S : Store} (h1 : MAt b1 M S) (h2 : MAt b2 M S) (hb : b1 + 4 ≤ b2 ∨ b2 + 4 ≤ b1) (hN : M.N ≤ 1000) :
    CallA Tryz.prog 22 [.ptr (b1 + 3) 0 0 0, .ptr (b2 + 3) 0 0 0] S fun r S' => r = .tup [.int .i64 0, .int .i64 0, .int .i64 0] ∧ Frm (fun i => b1 ≤ i ∧ i < b1 + 4 ∨ b2 ≤ i ∧ i < b2 + 4) S S' := by
  refine CallA.keep Tryz.func22 c212 (Nat.le_of_ble_eq_true rfl) fun σ hσ => ?_
  have wf := h1.wf
  have r1 := wf.len
  have f1 : ∀ {S S' : Store}, Frm (fun i => b1 ≤ i ∧ i < b1 + 4) S S' → Frm (fun i => b1 ≤ i ∧ i < b1 + 4 ∨ b2 ≤ i ∧ i < b2 + 4) S S' := fun h => h.mono fun i _ => .inl
  have f2 : ∀ {S S' : Store}, Frm (fun i => b2 ≤ i ∧ i < b2 + 4) S S' → Frm (fun i => b1 ≤ i ∧ i < b1 + 4 ∨ b2 ≤ i ∧ i < b2 + 4) S S' := fun h => h.mono fun i _ => .inr
  simp (disch := first | omega | (simp only [lenT]; omega)) only [a212, evSt, ↓evPre, ↓evPreW, evPost, evPostW, evR, evU, seval]
  refine (noneM_A h1 (by omega)).mono ?_
  rintro r S1 ⟨rfl, g1, k1⟩
  have g2 := h2.frm k1 fun i _ _ => by omega
  simp (disch := first | omega | (simp only [lenT]; omega)) only [evSt, ↓evPre, ↓evPreW, evPost, evPostW, evR, evU, seval]
  refine (noneM_A g2 (by omega)).mono ?_
  rintro r S2 ⟨rfl, m2, k2⟩
  have m1 := g1.frm k2 fun i _ _ => by omega
  have o1 := m1.obj
  have o2 := m2.obj
  have hne : b1 + 3 ≠ b2 + 3 := by omega
  simp (disch := first | omega | (simp only [lenT]; omega)) only [eqP_diff hne, o1, o2, evSt, ↓evPre, ↓evPreW, evPost, evPostW, evR, evU, seval]
  refine (allM_A m1 (by omega)).mono ?_
  rintro r S' ⟨⟨d, hd, rfl⟩, rfl⟩
  simp (disch := first | omega | (simp only [lenT]; omega)) only [evSt, ↓evPre, ↓evPreW, evPost, evPostW, evR, evU, seval]
  refine (allM_A m2 (by omega)).mono ?_
  rintro r S'' ⟨⟨d2, hd2, rfl⟩, rfl⟩
  have : d2 = d := isAll_eq hd2 hd fun w => rfl
  subst this
  have e1 := hd.2.length_eq
  rw [List.length_map] at e1
  simp (disch := first | omega | (simp only [lenT]; omega)) only [evSt, ↓evPre, ↓evPreW, evPost, evPostW, evR, evU, seval]
  refine (merge_self_A d2 _ (by omega)).mono ?_
  rintro r S3 ⟨⟨e, he1, he2, rfl⟩, rfl⟩
  obtain ⟨hk, hkl⟩ := merged_known hd he1 he2
  simp (disch := first | omega | (simp only [lenT]; omega)) only [evSt, ↓evPre, ↓evPreW, evPost, evPostW, evR, evU, seval]
  refine (recvM_A m1 e (by omega)).mono ?_
  rw [hk]
  rintro r S4 ⟨rfl, n1, j1⟩
  have n2 := m2.frm j1 fun i _ _ => by omega
  simp (disch := first | omega | (simp only [lenT]; omega)) only [evSt, ↓evPre, ↓evPreW, evPost, evPostW, evR, evU, seval]
  refine (recvM_A n2 e (by omega)).mono ?_
  rw [hk]
  rintro r S5 ⟨rfl, q2, j2⟩
  simp (disch := first | omega | (simp only [lenT]; omega)) only [evSt, ↓evPre, ↓evPreW, evPost, evPostW, evR, evU, seval]
  exact ((f1 k1).trans (f2 k2)).trans ((f1 j1).trans (f2 j2))
end Lk
end Go.Proofs.YtlnpfnoemhjheaaGreatDoor
