/- The reference's look at places, whole. -/
import Derived.Test.YtiihkfjbllpiaaaDoorSchE
import Derived.Test.YtiihkfjbllpiaaaDoorSchQ
namespace Go.Proofs.YtiihkfjbllpiaaaDoor
open Go Go.AL
set_option linter.unusedSectionVars false
variable [Go.AL.Mode] [Go.AL.LooseM]
set_option linter.unusedSimpArgs false
set_option linter.unusedVariables false

end Go.Proofs.YtiihkfjbllpiaaaDoor
/- Two periods: whether they have a day in common (the reference's way). -/
namespace Go.Proofs.YtiihkfjbllpiaaaDoor
open Go Go.AL
set_option linter.unusedSectionVars false
variable [Go.AL.Mode] [Go.AL.LooseM]
set_option linter.unusedSimpArgs false
set_option linter.unusedVariables false

theorem daysF_len (p : Pd) : (daysF p).length ≤ 800 := by
  by_cases hok : pdF p = 0
  · rw [daysF_eq hok]
    have := daysTo_len p (p.t - p.f + 1).toNat
    have := pd_ok hok
    omega
  · unfold daysF; rw [if_neg hok]; simp
/-- Two flights with one number and a day in common. -/
def meetsF (x y : Fl) : Bool := decide (x.c = y.c) && (decide (x.n = y.n) && meetF x.p y.p)
/-! ### The timetable -/
def txFl : Txt := [102, 108, 105, 103, 104, 116, 32]
def ttErrs (p : Pls) (l : List Fl) (T : Int → Txt) : Nat → List Ft
  | 0 => []
  | k + 1 => ttErrs p l T k ++ match l[k]? with
    | some x => (flErr p x T).map (fun f => ⟨f.err, txFl ++ decB k ++ [32] ++ f.at_⟩) ++ if (l.take k).any (fun y => meetsF y x) then [⟨6, txFl ++ decB k⟩] else []
    | none => []
theorem dayErr_len (p : Pls) (x : Fl) (T : Int → Txt) : (dayErr p x T).length ≤ 1 := by
  unfold dayErr
  split <;> simp
theorem flErr_len (p : Pls) (x : Fl) (T : Int → Txt) : (flErr p x T).length ≤ 30 := by
  unfold flErr
  have h1 := hdErr_len x
  have h2 := legsErr_len p x.legs x.legs.length
  have h3 := dayErr_len p x T
  split
  · simp only [List.length_append, List.length_cons, List.length_nil]; omega
  · split
    · omega
    · simp only [List.length_append]; omega
theorem flErr_at (p : Pls) (x : Fl) {T : Int → Txt} (hT : ∀ d, (T d).length ≤ 100) : ∀ f ∈ flErr p x T, f.at_.length ≤ 200 := by
  have g1 : ∀ f ∈ hdErr x, f.at_.length ≤ 200 := fun f hf => by
    unfold hdErr hd2 hd1 at hf
    simp only [List.mem_append] at hf
    rcases hf with (hf | hf) | hf
    · split at hf
      · cases hf
      · rw [List.mem_singleton] at hf; subst hf; decide
    · split at hf
      · rw [List.mem_singleton] at hf; subst hf; decide
      · cases hf
    · split at hf
      · rw [List.mem_singleton] at hf; subst hf; exact Nat.le_of_ble_eq_true rfl
      · cases hf
  have g2 : ∀ k, ∀ f ∈ legsErr p x.legs k, f.at_.length ≤ 200 := by
    intro k
    induction k with
    | zero => intro f hf; cases hf
    | succ k ih =>
      intro f hf
      rw [legsErr, List.mem_append] at hf
      rcases hf with hf | hf
      · exact ih f hf
      · split at hf
        · obtain ⟨e, _, rfl⟩ := List.mem_map.1 hf
          have := decB_len k
          have h5 : txLeg.length = 4 := rfl
          simp only [List.length_append]
          omega
        · cases hf
  intro f hf
  unfold flErr at hf
  split at hf
  · rw [List.mem_append] at hf
    rcases hf with hf | hf
    · exact g1 f hf
    · rw [List.mem_singleton] at hf; subst hf; decide
  · split at hf
    · unfold dayErr at hf
      split at hf
      · rename_i d _
        rw [List.mem_singleton] at hf
        subst hf
        have := hT d
        have h5 : txDay.length = 4 := rfl
        simp only [List.length_append]
        omega
      · cases hf
    · rw [List.mem_append] at hf
      rcases hf with hf | hf
      · exact g1 f hf
      · exact g2 _ f hf
theorem ttErrs_len (p : Pls) (l : List Fl) (T : Int → Txt) : ∀ k, (ttErrs p l T k).length ≤ 31 * k
  | 0 => by simp [ttErrs]
  | k + 1 => by
    have h := ttErrs_len p l T k
    rw [ttErrs, List.length_append]
    cases hc : l[k]? with
    | none => simp only [List.length_nil]; omega
    | some x =>
      have := flErr_len p x T
      simp only [List.length_append, List.length_map]
      split <;> simp <;> omega
end Go.Proofs.YtiihkfjbllpiaaaDoor
/- The reference's look at a flight, whole. -/
namespace Go.Proofs.YtiihkfjbllpiaaaDoor
open Go Go.AL
set_option linter.unusedSectionVars false
variable [Go.AL.Mode] [Go.AL.LooseM]
set_option linter.unusedSimpArgs false
set_option linter.unusedVariables false

theorem ft_frz {S : Store} {L : Store} {v n : Nat} {l : List Ft} (hn : n = l.length) : Frz (S ++ ⟨v, some (.arr 55 2 (l.map ftR))⟩ :: L) S (.msl S.length v 0 n) (.sl 2 (l.map ftR)) :=
  .sl (t := 55) (Nat.le_refl _) (by rw [ob_app0, ob_head]) (by simp [hn]) (ftR_imm l)
end Go.Proofs.YtiihkfjbllpiaaaDoor
/- The reference's look at places, and at a timetable. -/
namespace Go.Proofs.YtiihkfjbllpiaaaDoor
open Go Go.AL
set_option linter.unusedSectionVars false
variable [Go.AL.Mode] [Go.AL.LooseM]
set_option linter.unusedSimpArgs false
set_option linter.unusedVariables false

/-- Places of a bulk that a machine holds. -/
structure PSm (p : Pls) : Prop where
  h1 : p.1.length ≤ 1100000
  h2 : p.2.length ≤ 1100000
  h3 : ∀ a ∈ p.1, a.sh.length ≤ 1100000
def ttF (p : Pls) (l : List Fl) (T : Int → Txt) : List Ft := ttErrs p l T l.length
/-- The reference's texts of days. -/
def rT (d : Int) : Txt := prtF d.toNat
end Go.Proofs.YtiihkfjbllpiaaaDoor
