/- Merging two lists: the walk. -/
import Derived.Test.YtlnpfnoemhjheaaGreatDoorRRec3
namespace Go.Proofs.YtlnpfnoemhjheaaGreatDoor
open Go Go.AL
set_option linter.unusedSectionVars false
variable [Go.AL.Mode] [Go.AL.LooseM]
set_option linter.unusedSimpArgs false
set_option linter.unusedVariables false
def mg1Store (S : Store) (m b rest : List St) : Store :=
  S ++ [mpS m, ⟨0, some (.mp ⟨.st [.int .i64, .int .i64], (firsts b).map ent, .held (S.length + 2)⟩)⟩, ⟨0, some (.mp ⟨.st [.int .i64, .int .i64], rest.map ent, .iter (some (S.length + 1, 0)) none⟩)⟩]
def mg1Env (S : Store) : Env := [(5, .mapv S.length 0), (19, .mapv (S.length + 2) 0)]
def mg2Store (S : Store) (m rest out : List St) (v : Nat) : Store :=
  S ++ [⟨0, some (.mp ⟨.st [.int .i64, .int .i64], m.map ent, .held (S.length + 3)⟩)⟩, ⟨0, none⟩, ⟨0, none⟩, ⟨0, some (.mp ⟨.st [.int .i64, .int .i64], rest.map ent, .iter (some (S.length, 0)) none⟩)⟩, ⟨v, some (.arr 41 4 (out.map stR))⟩]
def mg2Env (S : Store) (out : List St) (v : Nat) : Env := [(39, .mapv (S.length + 3) 0), (11, .msl (S.length + 4) v 0 out.length)]
theorem mg1_back {S : Store} (hn : Neat S) {m b rest : List St} {c : Option (V × V)} {E : Env} {T : Store} {R : List (V × V)} (hE : sub (mg1Env S) E) (hR : R = m.map ent) :
    Back (mg1Env S) (mg1Store S m b rest) E (S ++ ⟨0, some (.mp ⟨.st [.int .i64, .int .i64], R, .free⟩)⟩ :: ⟨0, some (.mp ⟨.st [.int .i64, .int .i64], (firsts b).map ent, .held (S.length + 2)⟩)⟩ :: ⟨0, some (.mp ⟨.st [.int .i64, .int .i64], rest.map ent, .iter (some (S.length + 1, 0)) c⟩)⟩ :: T) := by
  subst hR
  exact back_under (hn.fgtL (L1 := [mpS m, ⟨0, some (.mp ⟨.st [.int .i64, .int .i64], (firsts b).map ent, .held (S.length + 2)⟩)⟩, ⟨0, some (.mp ⟨.st [.int .i64, .int .i64], rest.map ent, .iter (some (S.length + 1, 0)) none⟩)⟩])
    (L := mpS m :: ⟨0, some (.mp ⟨.st [.int .i64, .int .i64], (firsts b).map ent, .held (S.length + 2)⟩)⟩ :: ⟨0, some (.mp ⟨.st [.int .i64, .int .i64], rest.map ent, .iter (some (S.length + 1, 0)) c⟩)⟩ :: T)
    ⟨rfl, objF_mpS rfl, rfl, objF_mpS rfl, rfl, objF_it rfl (mpS_keys _) (fun a => rfl), fgtL_nil⟩) hE (by simp [mg1Env, mg1Store, V.under])
theorem mg2_back {S : Store} (hn : Neat S) {m rest out : List St} {v : Nat} {c : Option (V × V)} {E : Env} {T : Store} {st1 st2 : Option Cont} {R : List (List V)} (hE : sub (mg2Env S out v) E) (hR : R = out.map stR) :
    Back (mg2Env S out v) (mg2Store S m rest out v) E (S ++ ⟨0, some (.mp ⟨.st [.int .i64, .int .i64], m.map ent, .held (S.length + 3)⟩)⟩ :: ⟨0, st1⟩ :: ⟨0, st2⟩ :: ⟨0, some (.mp ⟨.st [.int .i64, .int .i64], rest.map ent, .iter (some (S.length, 0)) c⟩)⟩ :: ⟨v, some (.arr 41 4 R)⟩ :: T) := by
  subst hR
  exact back_under (hn.fgtL (L1 := [⟨0, some (.mp ⟨.st [.int .i64, .int .i64], m.map ent, .held (S.length + 3)⟩)⟩, ⟨0, none⟩, ⟨0, none⟩, ⟨0, some (.mp ⟨.st [.int .i64, .int .i64], rest.map ent, .iter (some (S.length, 0)) none⟩)⟩, ⟨v, some (.arr 41 4 (out.map stR))⟩])
    (L := ⟨0, some (.mp ⟨.st [.int .i64, .int .i64], m.map ent, .held (S.length + 3)⟩)⟩ :: ⟨0, st1⟩ :: ⟨0, st2⟩ :: ⟨0, some (.mp ⟨.st [.int .i64, .int .i64], rest.map ent, .iter (some (S.length, 0)) c⟩)⟩ :: ⟨v, some (.arr 41 4 (out.map stR))⟩ :: T)
    ⟨rfl, objF_mpS rfl, rfl, trivial, rfl, trivial, rfl, objF_it rfl (mpS_keys _) (fun a => rfl), rfl, ⟨_, rfl, .imm (stR_imm _)⟩, fgtL_nil⟩) hE (by simp [mg2Env, mg2Store, V.under])
theorem merge_A (a b : List St) (S : Store) (ha : a.length ≤ 1000) (hb : b.length ≤ 1000) (va : vOk 4611686018427387904 a) (vb : vOk 4611686018427387904 b) :
    CallA Tryz.prog 23 [stSl a, stSl b] S fun r S' => (∃ d, Asc d ∧ (∀ w, d.find? (sameS w) = mF a b w) ∧ r = stSl d) ∧ S' = S := by
  refine CallA.withNeat Tryz.func23 c30 fun hn => ?_
  refine CallA.fin Tryz.func23 c30 (Nat.le_of_ble_eq_true rfl) fun σ hσ => ?_
  simp (disch := first | omega | (simp only [lenT]; omega)) only [a30, evSt, ↓evPre, ↓evPreW, evPost, evPostW, evR, evU, seval]
  refine (of_A a S (by omega)).then2 ?_
  simp (disch := first | omega | (simp only [lenT]; omega)) only [evSt, ↓evPre, ↓evPreW, evPost, evPostW, evR, evU, seval]
  refine (of_A b _ (by omega)).then2 ?_
  simp (disch := first | omega | (simp only [lenT]; omega)) only [mpS, evSt, ↓evPre, ↓evPreW, evPost, evPostW, evR, evU, seval]
  have fa := firsts_len a
  have fb := firsts_len b
  refine loopF (ι := List St × List St) (fun p => mg1Env S) (fun p => mg1Store S (p.2.foldl stp (firsts a)) b p.1) (fun p => (p.2 ++ p.1).Perm (firsts b) ∧ (p.2.foldl stp (firsts a)).length ≤ 1000 + p.2.length ∧ vOk (4611686018427387904 + p.2.length) (p.2.foldl stp (firsts a))) (fun p => p.1.length) (fun p _ => by rw [hσ]; simp [mg1Store])
    (firsts b, []) ⟨.refl _, by simp only [List.foldl_nil, List.length_nil]; omega, by simpa using va.firsts⟩ (.inl ⟨?_, ?_⟩) ?_
  · simp (disch := first | omega | (simp only [lenT]; omega)) only [mg1Env, evSt, ↓evPre, ↓evPreW, evPost, evPostW, evR, evU, seval]
  · simp (disch := first | omega | (simp only [lenT]; omega)) only [mg1Store, mpS, List.foldl_nil, evSt, ↓evPre, ↓evPreW, evPost, evPostW, evR, evU, seval]
  rintro ⟨rest, done⟩ ⟨hp, hml, hmv⟩
  simp only at hp hml hmv ⊢
  have hdl : done.length + rest.length ≤ 1000 := by have := hp.length_eq; simp only [List.length_append] at this; omega
  generalize hm : done.foldl stp (firsts a) = m at hml hmv ⊢
  simp (disch := first | omega | (simp only [lenT]; omega)) only [mg1Env, mg1Store, mpS, evSt, ↓evPre, ↓evPreW, evPost, evPostW, evR, evU, seval]
  refine next_ents (fun h0 => ?_) (fun y rest' hx => ?_)
  · subst h0
    simp (disch := first | omega | (simp only [lenT]; omega)) only [List.map_nil, evSt, ↓evPre, ↓evPreW, evPost, evPostW, evR, evU, seval]
    refine LoopA.ghost 11 0 41 4 (by simp only [↓evPre, ↓evPreW, evPost, evPostW, evR, evU, seval]) ?_
    refine loopF (ι := List St × List St × Nat) (fun p => mg2Env S p.2.1 p.2.2) (fun p => mg2Store S m p.1 p.2.1 p.2.2) (fun p => (p.2.1 ++ p.1).Perm m) (fun p => p.1.length) (fun p _ => by rw [hσ]; simp [mg2Store])
      (m, [], 0) (.refl _) ?_ ?_
    · simp (disch := first | omega | (simp only [lenT]; omega)) only [evSt, ↓evPre, ↓evPreW, evPost, evPostW, evR, evU, seval]
      exact mg2_back hn ⟨rfl, by simp (disch := first | omega | (simp only [lenT]; omega)) only [evSt, ↓evPre, ↓evPreW, evPost, evPostW, evR, evU, seval], trivial⟩ rfl
    rintro ⟨rest2, out, v⟩ hp2
    simp only at hp2 ⊢
    have hol : out.length + rest2.length ≤ 2000 := by have := hp2.length_eq; simp only [List.length_append] at this; omega
    simp (disch := first | omega | (simp only [lenT]; omega)) only [mg2Env, mg2Store, mpS, evSt, ↓evPre, ↓evPreW, evPost, evPostW, evR, evU, seval]
    refine next_ents (fun h1 => ?_) (fun z rest2' hz => ?_)
    · subst h1
      simp (disch := first | omega | (simp only [lenT]; omega)) only [evSt, ↓evPre, ↓evPreW, evPost, evPostW, evR, evU, seval]
      refine (sorted_A out _ _ _ (by omega) (by simp (disch := first | omega | (simp only [lenT]; omega)) only [evSt, ↓evPre, ↓evPreW, evPost, evPostW, evR, evU, seval])).mono ?_
      rintro r S' ⟨rfl, l', h1, h2, rfl⟩
      simp (disch := first | omega | (simp only [lenT]; omega)) only [evSt, ↓evPre, ↓evPreW, evPost, evPostW, evR, evU, seval]
      have hl' := h1.length_eq
      rw [List.append_nil] at hp2 hp
      have hperm : l'.Perm m := h1.trans hp2
      have hma : Apart m := by rw [← hm]; exact stps_apart (firsts_apart a)
      have hda : Apart done := (firsts_apart b).perm hp.symm
      refine ⟨stSl l', S, hn.fgt _, ?_, Nat.le_refl _, ⟨l', Srt.asc h2 (hma.perm hperm.symm), fun w => ?_, rfl⟩, rfl⟩
      · rw [← hl']
        exact .sl (t := 41) (by omega) (by simp (disch := first | omega | (simp only [lenT]; omega)) only [evSt, ↓evPre, ↓evPreW, evPost, evPostW, evR, evU, seval]) (by simp) (stR_imm _)
      · rw [← hma.find_perm hperm.symm w, ← hm, stps_find hda w, hda.find_perm hp w, firsts_find, firsts_find]
        rfl
    · have hz2 : ((out ++ [z]) ++ rest2').Perm m := by
        rw [List.append_assoc]
        exact (List.Perm.append_left out hz.symm).trans hp2
      have hlt : rest2'.length < rest2.length := by have := hz.length_eq; simp at this; omega
      simp (disch := first | omega | (simp only [lenT]; omega)) only [ent, keyV, stV, stR, evSt, ↓evPre, ↓evPreW, evPost, evPostW, evR, evU, seval]
      refine ⟨by unfold roomA; omega, (rest2', out ++ [z], v + 1), hz2, hlt, ?_⟩
      exact mg2_back hn ⟨rfl, by simp (disch := first | omega | (simp only [lenT]; omega)) only [List.length_append, ↓evPre, ↓evPreW, evPost, evPostW, evR, evU, seval], trivial⟩ (by simp [stR])
  · have hf := find_ents y m
    unfold keyV at hf
    have hx2 : ((done ++ [y]) ++ rest').Perm (firsts b) := by
      rw [List.append_assoc]
      exact (List.Perm.append_left done hx.symm).trans hp
    have hlt : rest'.length < rest.length := by have := hx.length_eq; simp at this; omega
    have hfo : (done ++ [y]).foldl stp (firsts a) = stp m y := by rw [List.foldl_append, hm]; rfl
    have hyb : y ∈ firsts b := hx2.subset (by simp)
    have hyv := vb.firsts y hyb
    have hl2 := stp_len m y
    have hinv : ((done ++ [y]).foldl stp (firsts a)).length ≤ 1000 + (done ++ [y]).length ∧ vOk (4611686018427387904 + ((done ++ [y]).length : Nat)) ((done ++ [y]).foldl stp (firsts a)) := by
      rw [hfo]
      refine ⟨by simp only [List.length_append, List.length_cons, List.length_nil]; omega, ?_⟩
      have := stp_vOk hmv (y := y) ⟨hyv.1, by omega⟩
      simpa [Int.add_assoc] using this
    cases hg : m.find? (sameS y) with
    | none =>
      rw [hg] at hf
      have hst : stp m y = putS y m := by unfold stp; rw [hg]
      have hpt := put_ents y m
      unfold keyV stV stR at hpt
      simp (disch := first | omega | (simp only [lenT]; omega)) only [ent, keyV, stV, stR, hf, hpt, Option.map_none, Option.getD_none, Option.isSome_none, evSt, ↓evPre, ↓evPreW, evPost, evPostW, evR, evU, seval]
      refine ⟨(rest', done ++ [y]), ⟨hx2, hinv⟩, hlt, ?_⟩
      simp only [hfo, hst]
      exact mg1_back hn ⟨rfl, rfl, trivial⟩ rfl
    | some x =>
      rw [hg] at hf
      have hs := find_same hg
      have hst : stp m y = putS (mrgS x y) m := by unfold stp; rw [hg]
      have hpt := put_ents (mrgS x y) m
      rw [mrg_key hs] at hpt
      unfold keyV stV stR at hpt
      have hxv := hmv x (List.mem_of_find?_eq_some hg)
      simp (disch := first | omega | (simp only [lenT]; omega)) only [ent, keyV, stV, stR, hf, Option.getD_some, Option.isSome_some, evSt, ↓evPre, ↓evPreW, evPost, evPostW, evR, evU, seval]
      refine (merged_A x y _ ⟨by omega, hxv.1⟩).then ?_
      simp (disch := first | omega | (simp only [lenT]; omega)) only [stV, stR, hpt, evSt, ↓evPre, ↓evPreW, evPost, evPostW, evR, evU, seval]
      refine ⟨(rest', done ++ [y]), ⟨hx2, hinv⟩, hlt, ?_⟩
      simp only [hfo, hst]
      exact mg1_back hn ⟨rfl, rfl, trivial⟩ rfl
end Go.Proofs.YtlnpfnoemhjheaaGreatDoor
