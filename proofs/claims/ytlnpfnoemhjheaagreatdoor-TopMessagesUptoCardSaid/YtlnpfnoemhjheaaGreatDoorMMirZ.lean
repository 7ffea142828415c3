/- A mirror's comparison. -/
import Derived.Test.YtlnpfnoemhjheaaGreatDoorMRec1
import Derived.Test.YtlnpfnoemhjheaaGreatDoorMRecC
import Derived.Test.YtlnpfnoemhjheaaGreatDoorMMir3
namespace Go.Proofs.YtlnpfnoemhjheaaGreatDoor
open Go Go.AL
set_option linter.unusedSectionVars false
variable [Go.AL.Mode]
set_option linter.unusedSimpArgs false
set_option linter.unusedVariables false
theorem cmpM_A (x y : St) (S : Store) : CallA Tryz.prog 42 [stV x, stV y] S fun r S' => r = .int .i64 (cfS x y) ∧ S' = S := by
  refine CallA.keep Tryz.func42 c38 (Nat.le_of_ble_eq_true rfl) fun σ hσ => ?_
  simp only [a38, stV, stR, ↓evPre, ↓evPreW, evPost, evPostW, evR, evU, seval]
  refine exD.intro (compare_A _ _ S) ?_
  simp only [↓evPre, ↓evPreW, evPost, evPostW, evR, evU, seval]
  refine (compare_A _ _ S).then ?_
  simp only [↓evPre, ↓evPreW, evPost, evPostW, evR, evU, seval]
  refine (or_A _ _ S).then ?_
  simp only [↓evPre, ↓evPreW, evPost, evPostW, evR, evU, seval]
  try rfl
end Go.Proofs.YtlnpfnoemhjheaaGreatDoor
/- A mirror's methods: All. -/
namespace Go.Proofs.YtlnpfnoemhjheaaGreatDoor
open Go Go.AL
set_option linter.unusedSectionVars false
variable [Go.AL.Mode] [Go.AL.LooseM]
set_option linter.unusedSimpArgs false
set_option linter.unusedVariables false
theorem keysM (R : List Rw) : KeysK (fun p : Int × Int => V.agg [.int .i64 p.1, .int .i64 p.2]) (R.map entM) := fun p hp => by
  obtain ⟨x, _, rfl⟩ := List.mem_map.1 hp
  exact ⟨⟨(x.1.t, x.1.c), rfl⟩, rfl, rfl⟩
section
variable (A B : Store) (M : Mi) (Q : List (Nat × Int × Int)) (C : List (Nat × List St))
def allStore (rest : List Rw) (out : List St) (v : Nat) : Store :=
  mirX A B (M.R.map entM) (.held (mxN A B)) (Q.map entQ) (C.map entC) (M.N : Nat) ++ [⟨0, some (.mp ⟨.st [.int .i64, .int .i64], rest.map entM, .iter (some (A.length, 0)) none⟩)⟩, ⟨v, some (.arr 41 4 (out.map stR))⟩]
def allEnv (n : Nat) (v : Nat) : Env := [(13, .mapv (mxN A B) 0), (3, .msl (mxN A B + 1) v 0 n)]
theorem all_back (hn : Neat (mst A B M Q C)) {rest : List Rw} {out : List St} {v : Nat} {c : Option (V × V)} {E : Env} {T : Store} {n : Nat} {R : List (List V)} (hE : sub (allEnv A B n v) E) (hR : R = out.map stR) :
    Back (allEnv A B n v) (allStore A B M Q C rest out v) E (mirX A B (M.R.map entM) (.held (mxN A B)) (Q.map entQ) (C.map entC) (M.N : Nat) ++ ⟨0, some (.mp ⟨.st [.int .i64, .int .i64], rest.map entM, .iter (some (A.length, 0)) c⟩)⟩ :: ⟨v, some (.arr 41 4 R)⟩ :: T) := by
  subst hR
  have hn' : Neat (mirX A B (M.R.map entM) (.held (mxN A B)) (Q.map entQ) (C.map entC) (M.N : Nat)) := mirX_neat hn (okM _) (okQ _) (okC _) rfl
  refine back_under (hn'.fgtL (L1 := [⟨0, some (.mp ⟨.st [.int .i64, .int .i64], rest.map entM, .iter (some (A.length, 0)) none⟩)⟩, ⟨v, some (.arr 41 4 (out.map stR))⟩])
    (L := ⟨0, some (.mp ⟨.st [.int .i64, .int .i64], rest.map entM, .iter (some (A.length, 0)) c⟩)⟩ :: ⟨v, some (.arr 41 4 (out.map stR))⟩ :: T)
    ⟨rfl, objF_it rfl (keysM _) (fun a => rfl), rfl, ⟨_, rfl, .imm (stR_imm _)⟩, fgtL_nil⟩) hE ?_
  simp [allEnv, mx_len, V.under]
def isAll (M : Mi) (d : List St) : Prop := Asc d ∧ d.Perm (M.R.map (·.1))
theorem All_A (h : MOk M Q C) (hN : M.N ≤ 1000000) : CallA Tryz.prog 19 [.ptr (A.length + 3) 0 0 0] (mst A B M Q C) fun r S' => (∃ d, isAll M d ∧ r = stSl d) ∧ S' = mst A B M Q C := by
  refine CallA.withNeat Tryz.func19 c21 fun hn => ?_
  refine CallA.fin Tryz.func19 c21 (Nat.le_of_ble_eq_true rfl) fun σ hσ => ?_
  have hlen := h.wf.len
  simp (disch := first | omega | (simp only [lenT]; omega)) only [a21, evSt, ↓evPre, ↓evPreW, evPost, evPostW, evR, evU, seval]
  refine (made_A A B M Q C).then ?_
  simp (disch := first | omega | (simp only [lenT]; omega)) only [mst, evM, evSt, ↓evPre, ↓evPreW, evPost, evPostW, evR, evU, seval]
  refine LoopA.ghost 3 0 41 4 (by simp only [↓evPre, ↓evPreW, evPost, evPostW, evR, evU, seval]) ?_
  refine loopF (ι := List Rw × List Rw × Nat) (fun p => allEnv A B p.2.1.length p.2.2) (fun p => allStore A B M Q C p.1 (p.2.1.map (·.1)) p.2.2) (fun p => (p.2.1 ++ p.1).Perm M.R) (fun p => p.1.length) (fun p _ => by rw [hσ]; simp [allStore, mst, mx_len])
    (M.R, [], 0) (.refl _) (.inl ⟨?_, ?_⟩) ?_
  · simp (disch := first | omega | (simp only [lenT]; omega)) only [allEnv, evM, evSt, ↓evPre, ↓evPreW, evPost, evPostW, evR, evU, seval]
  · simp (disch := first | omega | (simp only [lenT]; omega)) only [allStore, evSt, ↓evPre, ↓evPreW, evPost, evPostW, evR, evU, seval]
  rintro ⟨rest, done, v⟩ hp
  simp only at hp ⊢
  have hol : (done.map (·.1)).length ≤ 1000000 := by
    have h2 := hp.length_eq
    simp only [List.length_append, List.length_map] at h2 ⊢
    omega
  have hdl : done.length = (done.map (·.1)).length := by simp
  rw [hdl]
  generalize ho : done.map (·.1) = out at hol hdl ⊢
  simp (disch := first | omega | (simp only [lenT]; omega)) only [allEnv, allStore, evM, evSt, ↓evPre, ↓evPreW, evPost, evPostW, evR, evU, seval]
  refine next_ents (fun h0 => ?_) (fun x rest' hx => ?_)
  · subst h0
    simp (disch := first | omega | (simp only [lenT]; omega)) only [evM, evSt, ↓evPre, ↓evPreW, evPost, evPostW, evR, evU, seval]
    refine (sort_A _ (@cmpM_A (Go.AL.Mode.tight inferInstance)) (sortNil_A _) out _ _ _ (by omega) (by simp (disch := first | omega | (simp only [lenT]; omega)) only [evM, evSt, ↓evPre, ↓evPreW, evPost, evPostW, evR, evU, seval])).mono ?_
    rintro r S' ⟨rfl, l', h1, h2, rfl⟩
    simp (disch := first | omega | (simp only [lenT]; omega)) only [evM, evSt, ↓evPre, ↓evPreW, evPost, evPostW, evR, evU, seval]
    have hl' := h1.length_eq
    rw [List.append_nil] at hp
    have hpm : l'.Perm (M.R.map (·.1)) := by rw [← ho] at h1; exact h1.trans (hp.map _)
    have hap : Apart (M.R.map (·.1)) := List.pairwise_map.2 h.wf.apart
    refine ⟨stSl l', mst A B M Q C, hn.fgt _, ?_, by rw [mst_len]; exact Nat.le_refl _, ⟨l', ⟨Srt.asc h2 (hap.perm hpm.symm), hpm⟩, rfl⟩, rfl⟩
    rw [← hl']
    exact .sl (t := 41) (by rw [mst_len]; omega) (by simp (disch := first | omega | (simp only [lenT]; omega)) only [evM, evSt, ↓evPre, ↓evPreW, evPost, evPostW, evR, evU, seval]) (by simp) (stR_imm _)
  · have hx2 : ((done ++ [x]) ++ rest').Perm M.R := by
      rw [List.append_assoc]
      exact (List.Perm.append_left done hx.symm).trans hp
    have hlt : rest'.length < rest.length := by have := hx.length_eq; simp at this; omega
    have hm : (done ++ [x]).map (·.1) = out ++ [x.1] := by rw [List.map_append, ho]; rfl
    simp (disch := first | omega | (simp only [lenT]; omega)) only [entM, keyV, evM, evSt, ↓evPre, ↓evPreW, evPost, evPostW, evR, evU, seval]
    refine ⟨by unfold roomA; omega, (rest', done ++ [x], v + 1), hx2, hlt, ?_⟩
    simp only [hm]
    exact all_back A B M Q C hn ⟨rfl, by simp (disch := first | omega | (simp only [lenT]; omega)) only [List.length_append, hdl, ↓evPre, ↓evPreW, evPost, evPostW, evR, evU, seval], trivial⟩ (by simp [stR])
end
def LeavesL (A B : Store) (M : Mi) (L S' : Store) : Prop := ∃ Q C, MOk M Q C ∧ S' = mst A B M Q C ++ L
theorem Leaves.toL {A B L S' : Store} {M : Mi} (h : Leaves A (B ++ L) M S') : LeavesL A B M L S' := by
  obtain ⟨Q, C, h1, h2⟩ := h
  exact ⟨Q, C, h1, by rw [h2, mst_app]⟩
theorem LeavesL.nil {A B S' : Store} {M : Mi} (h : LeavesL A B M [] S') : Leaves A B M S' := by
  obtain ⟨Q, C, h1, h2⟩ := h
  exact ⟨Q, C, h1, by rw [h2, List.append_nil]⟩
section
variable (A B L : Store) (M : Mi) (Q : List (Nat × Int × Int)) (C : List (Nat × List St))
theorem Put_AL (h : MOk M Q C) (hN : M.N ≤ 1000000) (x : St) : CallA Tryz.prog 15 [.ptr (A.length + 3) 0 0 0, stV x] (mst A B M Q C ++ L) fun r S' => r = .int .i64 (putF M x).1 ∧ LeavesL A B (putF M x).2 L S' := by
  rw [mst_app]
  exact (Put_A A (B ++ L) M Q C h hN x).mono fun r S' k => ⟨k.1, k.2.toL⟩
theorem Get_AL (t c : Int) : CallA Tryz.prog 74 [.ptr (A.length + 3) 0 0 0, .int .i64 t, .int .i64 c] (mst A B M Q C ++ L) fun r S' => r = .tup [stV (getF M t c).1, .bool (getF M t c).2] ∧ S' = mst A B M Q C ++ L := by
  rw [mst_app]
  exact Get_A A (B ++ L) M Q C t c
end
end Go.Proofs.YtlnpfnoemhjheaaGreatDoor
