/- Merging two lists: the walk. -/
import Derived.Test.YtlnpfnoemhjheaaGreatDoorMRec3
namespace Go.Proofs.YtlnpfnoemhjheaaGreatDoor
open Go Go.AL
set_option linter.unusedSectionVars false
variable [Go.AL.Mode] [Go.AL.LooseM]
set_option linter.unusedSimpArgs false
set_option linter.unusedVariables false
def mg1Store (S : Store) (m b rest : List St) : Store :=
  S ++ [mpS m, ⟨0, some (.mp ⟨.st [.int .i64, .int .i64], (firsts b).map ent, .held (S.length + 2)⟩)⟩, ⟨0, some (.mp ⟨.st [.int .i64, .int .i64], rest.map ent, .iter (some (S.length + 1, 0)) none⟩)⟩]
def mg1Env (S : Store) : Env := [(5, .mapv S.length 0), (19, .mapv (S.length + 2) 0)]
def mg2Store (S : Store) (m rest out : List St) (v : Nat) : Store :=
  S ++ [⟨0, some (.mp ⟨.st [.int .i64, .int .i64], m.map ent, .held (S.length + 3)⟩)⟩, ⟨0, none⟩, ⟨0, none⟩, ⟨0, some (.mp ⟨.st [.int .i64, .int .i64], rest.map ent, .iter (some (S.length, 0)) none⟩)⟩, ⟨v, some (.arr 41 4 (out.map stR))⟩]
def mg2Env (S : Store) (out : List St) (v : Nat) : Env := [(39, .mapv (S.length + 3) 0), (11, .msl (S.length + 4) v 0 out.length)]
theorem mg1_back {S : Store} (hn : Neat S) {m b rest : List St} {c : Option (V × V)} {E : Env} {T : Store} {R : List (V × V)} (hE : sub (mg1Env S) E) (hR : R = m.map ent) :
    Back (mg1Env S) (mg1Store S m b rest) E (S ++ ⟨0, some (.mp ⟨.st [.int .i64, .int .i64], R, .free⟩)⟩ :: ⟨0, some (.mp ⟨.st [.int .i64, .int .i64], (firsts b).map ent, .held (S.length + 2)⟩)⟩ :: ⟨0, some (.mp ⟨.st [.int .i64, .int .i64], rest.map ent, .iter (some (S.length + 1, 0)) c⟩)⟩ :: T) := by
  subst hR
  exact back_under (hn.fgtL (L1 := [mpS m, ⟨0, some (.mp ⟨.st [.int .i64, .int .i64], (firsts b).map ent, .held (S.length + 2)⟩)⟩, ⟨0, some (.mp ⟨.st [.int .i64, .int .i64], rest.map ent, .iter (some (S.length + 1, 0)) none⟩)⟩])
    (L := mpS m :: ⟨0, some (.mp ⟨.st [.int .i64, .int .i64], (firsts b).map ent, .held (S.length + 2)⟩)⟩ :: ⟨0, some (.mp ⟨.st [.int .i64, .int .i64], rest.map ent, .iter (some (S.length + 1, 0)) c⟩)⟩ :: T)
    ⟨rfl, objF_mpS rfl, rfl, objF_mpS rfl, rfl, objF_it rfl (mpS_keys _) (fun a => rfl), fgtL_nil⟩) hE (by simp [mg1Env, mg1Store, V.under])
theorem mg2_back {S : Store} (hn : Neat S) {m rest out : List St} {v : Nat} {c : Option (V × V)} {E : Env} {T : Store} {st1 st2 : Option Cont} {R : List (List V)} (hE : sub (mg2Env S out v) E) (hR : R = out.map stR) :
    Back (mg2Env S out v) (mg2Store S m rest out v) E (S ++ ⟨0, some (.mp ⟨.st [.int .i64, .int .i64], m.map ent, .held (S.length + 3)⟩)⟩ :: ⟨0, st1⟩ :: ⟨0, st2⟩ :: ⟨0, some (.mp ⟨.st [.int .i64, .int .i64], rest.map ent, .iter (some (S.length, 0)) c⟩)⟩ :: ⟨v, some (.arr 41 4 R)⟩ :: T) := by
  subst hR
  exact back_under (hn.fgtL (L1 := [⟨0, some (.mp ⟨.st [.int .i64, .int .i64], m.map ent, .held (S.length + 3)⟩)⟩, ⟨0, none⟩, ⟨0, none⟩, ⟨0, some (.mp ⟨.st [.int .i64, .int .i64], rest.map ent, .iter (some (S.length, 0)) none⟩)⟩, ⟨v, some (.arr 41 4 (out.map stR))⟩])
    (L := ⟨0, some (.mp ⟨.st [.int .i64, .int .i64], m.map ent, .held (S.length + 3)⟩)⟩ :: ⟨0, st1⟩ :: ⟨0, st2⟩ :: ⟨0, some (.mp ⟨.st [.int .i64, .int .i64], rest.map ent, .iter (some (S.length, 0)) c⟩)⟩ :: ⟨v, some (.arr 41 4 (out.map stR))⟩ :: T)
    ⟨rfl, objF_mpS rfl, rfl, trivial, rfl, trivial, rfl, objF_it rfl (mpS_keys _) (fun a => rfl), rfl, ⟨_, rfl, .imm (stR_imm _)⟩, fgtL_nil⟩) hE (by simp [mg2Env, mg2Store, V.under])
end Go.Proofs.YtlnpfnoemhjheaaGreatDoor
