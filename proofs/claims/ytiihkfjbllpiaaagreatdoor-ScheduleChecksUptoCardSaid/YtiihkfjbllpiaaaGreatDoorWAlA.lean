/- A list that grows row by row behind a store: nil, or the one object behind it. -/
import Derived.Test.YtiihkfjbllpiaaaGreatDoorWAlM
namespace Go.AL
open Go.RowKit
set_option linter.unusedSectionVars false
variable [Mode]
set_option linter.unusedSimpArgs false
set_option linter.unusedVariables false
def accV (n : Nat) : List (List V) → V
  | []=>.nilSl
  | _ :: rs=>.msl n rs.length 0 (rs.length + 1)
def accT (q : TypeId) (sz : Nat) : List (List V) → Store
  | []=>[]
  | r :: rs=>[⟨rs.length,some (.arr q sz (r :: rs))⟩]
theorem app_acc {S : Store} {n : Nat} {q : TypeId} {sz : Nat} {rows : List (List V)} {r : List V} {K : V → Store → Prop} (hn : n = S.length) (h : rows.length < 1000000) :
    appK q sz (accV n rows) (some (sz,[r])) (S ++ accT q sz rows) K = K (accV n (rows ++ [r])) (S ++ accT q sz (rows ++ [r])):=by
  subst hn
  cases rows with
  | nil =>
    simp only[accV,accT,List.append_nil,List.nil_append]
    rw[app_nil]
    simp [roomA]
  | cons x rows =>
    simp only[accV,accT,List.cons_append]
    rw[app_msl,ob_app0,ob_head,appO_some,se_app0]
    simp only[List.length_cons,List.length_append,List.length_nil,List.set_cons_zero,List.cons_append]
    simp only[List.length_cons] at h
    simp [roomA]
    intro _
    omega
theorem frz_acc {S : Store} {q : TypeId} {sz : Nat} {rows : List (List V)} (hr : ∀ r ∈ rows,r.length = sz ∧ V.allImm r = true) : Frz (S ++ accT q sz rows) S (accV S.length rows) (.sl sz rows):=by
  cases rows with
  | nil=>exact .nil
  | cons x rows=>exact .sl (t:=q) (Nat.le_refl _) (by rw[accT,ob_app0,ob_head]) (by simp) hr
theorem LoopA.sub {P : Program} {N : Nat} {σ : Base} {b : ACode} {Q : Exit → Env → Store → Prop} {E0 E : Env} {S : Store} (h : LoopA P N σ b Q E0 S) (hs : sub E0 E) : LoopA P N σ b Q E S:=fun c own hc ρ a w hx hr=>h c own hc ρ a w hx (hr.sub hs)
theorem accV_nil {n : Nat} : accV n [] = .nilSl:=rfl
end Go.AL
