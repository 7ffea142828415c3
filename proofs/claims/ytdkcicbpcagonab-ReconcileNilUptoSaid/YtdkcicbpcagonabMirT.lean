/- Two mirrors in the store. -/
import Derived.Test.YtdkcicbpcagonabMirG
namespace Go.Proofs.Ytdkcicbpcagonab
open Go Go.AL
set_option linter.unusedSimpArgs false
set_option linter.unusedVariables false

/-- A mirror's objects, if the first one is object n. -/
def mobs (n : Nat) (M : Mi) (Q : Qs) (C : Cs) : Store :=
  [mapO (.st [.int .i64, .int .i64]) (M.R.map entM) .free, mapO (.one (.int .i64)) (Q.map entQ) .free, mapO (.one (.int .i64)) (C.map entC) .free, ⟨0, some (.arr 39 4 [[.mapv n 0, .mapv (n + 1) 0, .mapv (n + 2) 0, .int .i64 (M.N : Nat)]])⟩]
theorem mst_mobs {A B : Store} {M : Mi} {Q : Qs} {C : Cs} : mst A B M Q C = A ++ (mobs A.length M Q C ++ B) := rfl
/-- Two mirrors behind S. -/
def two (S : Store) (M : Mi) (Q : Qs) (C : Cs) (M' : Mi) (Q' : Qs) (C' : Cs) : Store := mst S (mobs (S.length + 4) M' Q' C') M Q C
theorem two_t {S : Store} {M : Mi} {Q : Qs} {C : Cs} {M' : Mi} {Q' : Qs} {C' : Cs} : two S M Q C M' Q' C' = mst (mst S [] M Q C) [] M' Q' C' := by
  rw [two, mst_mobs (A := mst S [] M Q C), mst_len, List.append_nil, mst_app, List.nil_append]
  rfl
section
variable {S : Store} {M : Mi} {Q : Qs} {C : Cs} {M' : Mi} {Q' : Qs} {C' : Cs}
theorem two_len : (two S M Q C M' Q' C').length = S.length + 8 := by rw [two, mst_len]; rfl
theorem mst0_len : (mst S [] M Q C).length = S.length + 4 := by rw [mst_len]; rfl
theorem two_neat (h : Neat S) : Neat (two S M Q C M' Q' C') := by rw [two_t]; exact mst_neat0 (mst_neat0 h)
theorem two_fgt {T : Store} (h : Neat S) : Fgt (two S M Q C M' Q' C' ++ T) S := mst_fgt h
theorem two_ob1 : Store.obj? (two S M Q C M' Q' C') (S.length + 3) 0 = some (39, 4, [[.mapv S.length 0, .mapv (S.length + 1) 0, .mapv (S.length + 2) 0, .int .i64 (M.N : Nat)]]) := by rw [two, mst, mx_ob3]
theorem two_ob2 : Store.obj? (two S M Q C M' Q' C') (S.length + 7) 0 = some (39, 4, [[.mapv (S.length + 4) 0, .mapv (S.length + 5) 0, .mapv (S.length + 6) 0, .int .i64 (M'.N : Nat)]]) := by
  have := mx_ob3 (A := mst S [] M Q C) (B := []) (s := M'.R.map entM) (x := .free) (q := Q'.map entQ) (c := C'.map entC) (n := (M'.N : Nat))
  rw [mst0_len] at this
  rw [two_t]
  exact this
theorem fst_ob : Store.obj? (mst S [] M Q C) (S.length + 3) 0 = some (39, 4, [[.mapv S.length 0, .mapv (S.length + 1) 0, .mapv (S.length + 2) 0, .int .i64 (M.N : Nat)]]) := by rw [mst, mx_ob3]

theorem New2_A (S : Store) (M : Mi) (Q : Qs) (C : Cs) : CallA Try.prog 20 [] (mst S [] M Q C) fun r S' => r = .ptr (S.length + 7) 0 0 0 ∧ S' = two S M Q C Mi0 [] [] :=
  (New_A (mst S [] M Q C)).mono fun r S' h => ⟨by rw [h.1, mst0_len], by rw [h.2, two_t]⟩

variable (S : Store) (M : Mi) (Q : Qs) (C : Cs) (M' : Mi) (Q' : Qs) (C' : Cs)
theorem put2_A (h : MOk M' Q' C') (hN : M'.N ≤ 1000000) (x : St) : CallA Try.prog 22 [.ptr (S.length + 7) 0 0 0, stV x] (two S M Q C M' Q' C') fun r S' => r = .int .i64 (putF M' x).1 ∧ ∃ Q1 C1, MOk (putF M' x).2 Q1 C1 ∧ S' = two S M Q C (putF M' x).2 Q1 C1 := by
  have := Put_A (mst S [] M Q C) [] M' Q' C' h hN x
  rw [mst0_len] at this
  rw [two_t]
  exact this.mono fun r S' k => ⟨k.1, by obtain ⟨Q1, C1, h1, h2⟩ := k.2; exact ⟨Q1, C1, h1, by rw [h2, two_t]⟩⟩
theorem put1_A (h : MOk M Q C) (hN : M.N ≤ 1000000) (x : St) : CallA Try.prog 22 [.ptr (S.length + 3) 0 0 0, stV x] (two S M Q C M' Q' C') fun r S' => r = .int .i64 (putF M x).1 ∧ ∃ Q1 C1, MOk (putF M x).2 Q1 C1 ∧ S' = two S (putF M x).2 Q1 C1 M' Q' C' :=
  Put_A S _ M Q C h hN x
theorem all1_A (h : MOk M Q C) (hN : M.N ≤ 1000000) : CallA Try.prog 13 [.ptr (S.length + 3) 0 0 0] (two S M Q C M' Q' C') fun r S' => (∃ d, isAll M d ∧ r = stSl d) ∧ S' = two S M Q C M' Q' C' := All_A S _ M Q C h hN
theorem all2_A (h : MOk M' Q' C') (hN : M'.N ≤ 1000000) : CallA Try.prog 13 [.ptr (S.length + 7) 0 0 0] (two S M Q C M' Q' C') fun r S' => (∃ d, isAll M' d ∧ r = stSl d) ∧ S' = two S M Q C M' Q' C' := by
  have := All_A (mst S [] M Q C) [] M' Q' C' h hN
  rw [mst0_len] at this
  rw [two_t]
  exact this
end
end Go.Proofs.Ytdkcicbpcagonab
