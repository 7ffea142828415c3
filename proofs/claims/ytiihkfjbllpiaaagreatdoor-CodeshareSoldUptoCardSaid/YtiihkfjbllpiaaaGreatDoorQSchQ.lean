/- flight.Check: what is wrong with a flight. -/
import Derived.Test.YtiihkfjbllpiaaaGreatDoorQSchP
namespace Go.Proofs.YtiihkfjbllpiaaaGreatDoor
open Go Go.AL
set_option linter.unusedSectionVars false
variable [Go.AL.Mode] [Go.AL.LooseM]
set_option linter.unusedSimpArgs false
set_option linter.unusedVariables false

theorem share_if {P : Program} {N : Nat} {σ : Base} {G : Prop} (H : Prop) (E0 : Env) (S0 : Store) (b : ACode) (Q : Exit → Env → Store → Prop) (k2 : (H → LoopA P N σ b Q E0 S0) → G) (k1 : H → LoopA P N σ b Q E0 S0) : G := k2 k1
def txC : Txt := [99, 97, 114, 114, 105, 101, 114]
def txN : Txt := [110, 117, 109, 98, 101, 114]
def txP : Txt := [112, 101, 114, 105, 111, 100]
def txL : Txt := [108, 101, 103, 115]
def txLeg : Txt := [108, 101, 103, 32]
def txDay : Txt := [100, 97, 121, 32]
def hd1 (x : Fl) : List Ft := if carF x.c then [] else [⟨5, txC⟩]
def hd2 (x : Fl) : List Ft := hd1 x ++ if x.n < 1 ∨ 9999 < x.n then [⟨2, txN⟩] else []
def hdErr (x : Fl) : List Ft := hd2 x ++ if pdF x.p ≠ 0 then [⟨pdF x.p, txP⟩] else []
def legsErr (p : Pls) (L : List Lg) : Nat → List Ft
  | 0 => []
  | k + 1 => legsErr p L k ++ match L[k]? with
    | some l => (legErr p L k l).map fun e => ⟨e, txLeg ++ decB k⟩
    | none => []
theorem legErr_len (p : Pls) (L : List Lg) (i : Nat) (l : Lg) : (legErr p L i l).length ≤ 4 := by
  unfold legErr
  simp only [List.length_append]
  split <;> split <;> split <;> split <;> simp
theorem legsErr_len (p : Pls) (L : List Lg) : ∀ k, (legsErr p L k).length ≤ 4 * k
  | 0 => by simp [legsErr]
  | k + 1 => by
    have h := legsErr_len p L k
    rw [legsErr, List.length_append]
    cases hc : L[k]? with
    | none => simp only [List.length_nil]; omega
    | some l => have := legErr_len p L k l; simp only [List.length_map]; omega
theorem hd1_len (x : Fl) : (hd1 x).length ≤ 1 := by unfold hd1; split <;> simp
theorem hd2_len (x : Fl) : (hd2 x).length ≤ 2 := by have := hd1_len x; unfold hd2; rw [List.length_append]; split <;> simp <;> omega
theorem hdErr_len (x : Fl) : (hdErr x).length ≤ 3 := by have := hd2_len x; unfold hdErr; rw [List.length_append]; split <;> simp <;> omega
def badDay (p : Pls) (x : Fl) (d : Int) : Bool := !ordL none (legsF p x d)
def dayErr (p : Pls) (x : Fl) (T : Int → Txt) : List Ft := match (daysF x.p).find? (badDay p x) with
  | some d => [⟨13, txDay ++ T d⟩]
  | none => []
def flErr (p : Pls) (x : Fl) (T : Int → Txt) : List Ft :=
  if x.legs.length = 0 ∨ 6 < x.legs.length then hdErr x ++ [⟨4, txL⟩] else if hdErr x ++ legsErr p x.legs x.legs.length = [] then dayErr p x T else hdErr x ++ legsErr p x.legs x.legs.length

theorem ftR_imm (l : List Ft) : ∀ r ∈ l.map ftR, r.length = 2 ∧ V.allImm r = true := fun r hr => by
  obtain ⟨x, _, rfl⟩ := List.mem_map.1 hr
  exact ⟨rfl, rfl⟩
end Go.Proofs.YtiihkfjbllpiaaaGreatDoor
