/- How long what is read can be; how it is read. -/
import Derived.Test.YtpblahljlbakdaaEdi23
import Derived.Test.YtpblahljlbakdaaAlC
namespace Go.Proofs.Ytpblahljlbakdaa
open Go Go.AL
set_option linter.unusedSimpArgs false

theorem rowsBulk_sum {α : Type} (f : α → List V) (g : α → Nat) (h : ∀ x, 1 + g x ≤ cellsBulk (f x)) : ∀ (l : List α), l.length + (l.map g).sum ≤ rowsBulk (l.map f)
  | [] => by simp [rowsBulk]
  | x :: l => by
    have := rowsBulk_sum f g h l
    have := h x
    simp only [List.map_cons, List.sum_cons, rowsBulk, List.length_cons]
    omega
theorem bulkE (e : List Txt) : 1 + szE e ≤ cellsBulk (elR e) := by
  have := rowsBulk_sum cmR List.length (fun c => by simp [cmR, cellsBulk, V.bulk]; omega) e
  simp only [elR, cellsBulk, cmV, V.bulk, szE]
  omega
theorem bulkX (x : Ln) : 1 + szX x ≤ cellsBulk (lnR x) := by
  have := rowsBulk_sum elR szE bulkE x.els
  simp only [lnR, cellsBulk, elV, V.bulk, szX]
  omega
theorem bulkL (l : List Ln) : szL l ≤ (lnV l).bulk := by
  have := rowsBulk_sum lnR szX bulkX l
  simp only [lnV, V.bulk, szL]
  omega
theorem fit_bulk {l : List Ln} (h : (lnV l).bulk ≤ 1048576) : FitL l := fitL_of (by have := bulkL l; omega)

theorem opensTxts : Opens Try.prog 40 elR (fun _ => True) :=
  (Opens.slice (q := 9) (sz := 1) (by kernel_rfl) (by kernel_rfl) (by omega) (fun _ => rfl) (Opens.str (by kernel_rfl))).as elR (fun _ => True) id (fun _ => rfl) (fun _ _ => trivial)
theorem opensLn : Opens Try.prog 35 lnR (fun _ => True) :=
  (Opens.struct Try.underlying35 (by kernel_rfl) (OpensL.cons (Opens.str (by kernel_rfl)) (OpensL.one (Opens.slice (q := 40) (sz := 1) (by kernel_rfl) (by kernel_rfl) (by omega) (fun _ => rfl) opensTxts)))).as lnR (fun _ => True) (fun p => ⟨p.1, p.2⟩) (fun _ => rfl) (fun _ _ => trivial)
theorem opensLns : Opens Try.prog 22 (fun l => [lnV l]) (fun _ => True) :=
  (Opens.slice (q := 35) (sz := 2) (by kernel_rfl) (by kernel_rfl) (by omega) (fun _ => rfl) opensLn).as (fun l => [lnV l]) (fun _ => True) id (fun _ => rfl) (fun _ _ => trivial)
end Go.Proofs.Ytpblahljlbakdaa
