/- Lines: which can be written. -/
import Derived.Test.YtlnpfnoemhjheaaGreatDoorMEdS
namespace Go.Proofs.YtlnpfnoemhjheaaGreatDoor.Ed
open Go Go.AL
set_option linter.unusedSectionVars false
variable [Go.AL.Mode] [Go.AL.LooseM]
set_option linter.unusedSimpArgs false
set_option linter.unusedVariables false
abbrev Txt := List UInt8
structure Ln where
  tag : Txt
  els : List (List Txt)
  deriving DecidableEq
def cmR (c : Txt) : List V := [.str c]
def cmV (e : List Txt) : V := .sl 1 (e.map cmR)
def elR (e : List Txt) : List V := [cmV e]
def elV (l : List (List Txt)) : V := .sl 1 (l.map elR)
def lnR (x : Ln) : List V := [.str x.tag, elV x.els]
def lnV (l : List Ln) : V := .sl 2 (l.map lnR)
def FitE (e : List Txt) : Prop := e.length ≤ 1048576 ∧ ∀ c ∈ e, c.length ≤ 1048576
def FitX (x : Ln) : Prop := x.tag.length ≤ 1048576 ∧ x.els.length ≤ 1048576 ∧ ∀ e ∈ x.els, FitE e
def FitL (l : List Ln) : Prop := l.length ≤ 1048576 ∧ ∀ x ∈ l, FitX x
def elBad (e : List Txt) : Bool := e.isEmpty || e.any fun c => c.any oddC
def writable (x : Ln) : Bool := tagOk x.tag && !x.els.any elBad
def rightL (l : List Ln) : Bool := !l.any fun x => !writable x
def ixF {α : Type} (p : α → Bool) (l : List α) : Int := match l.findIdx? p with
  | some i => i
  | none => -1
theorem ixF_pos {α : Type} (p : α → Bool) (l : List α) : decide (0 ≤ ixF p l) = l.any p := by
  unfold ixF
  cases h : l.findIdx? p with
  | none =>
    have h0 := List.findIdx?_eq_none_iff.1 h
    have : l.any p = false := by rw [List.any_eq_false]; intro x hx; simp [h0 x hx]
    simp [this]
  | some i =>
    obtain ⟨hi, hp, _⟩ := List.findIdx?_eq_some_iff_getElem.1 h
    have : l.any p = true := List.any_eq_true.2 ⟨_, List.getElem_mem hi, hp⟩
    simp [this]
theorem ixF_at {α : Type} {p : α → Bool} {l : List α} {k : Nat} {c : α} (hc : l[k]? = some c) (h : (l.take k).any p = false) (hp : p c = true) : ixF p l = k := by
  obtain ⟨hk1, hk2⟩ := (List.getElem?_eq_some_iff.1 hc)
  have : l.findIdx? p = some k := by
    rw [List.findIdx?_eq_some_iff_getElem]
    refine ⟨hk1, by rw [hk2]; exact hp, fun j hj => ?_⟩
    have h1 := List.any_eq_false.1 h (l[j]'(by omega)) (by rw [List.mem_take_iff_getElem]; exact ⟨j, by omega, rfl⟩)
    simpa using h1
  simp [ixF, this]
theorem ixF_none {α : Type} {p : α → Bool} {l : List α} (h : l.any p = false) : ixF p l = -1 := by
  have : l.findIdx? p = none := by rw [List.findIdx?_eq_none_iff]; intro x hx; simpa using List.any_eq_false.1 h x hx
  simp [ixF, this]
theorem index54_A (e : List Txt) (g : FuncId) (p : Txt → Bool) (S : Store) (he : e.length ≤ 1048576) (hp : ∀ c ∈ e, CallA Tryz.prog g [.str c] S fun r S' => r = .bool (p c) ∧ S' = S) :
    CallA Tryz.prog 128 [cmV e, .func g [] []] S fun r S' => r = .int .i64 (ixF p e) ∧ S' = S := by
  refine CallA.keep Tryz.func128 c8054 (Nat.le_of_ble_eq_true rfl) fun σ hσ => ?_
  simp (disch := first | omega | (simp only [lenT]; omega)) only [a8054, cmV, ↓evPre, ↓evPreW, evPost, evPostW, evR, evU, seval]
  refine loopA (ι := Nat) (fun k => [(0, .sl 1 (e.map cmR)), (1, .func g [] []), (7, .int .i64 e.length), (8, .int .i64 k)]) (fun _ => S) (fun k => k ≤ e.length ∧ (e.take k).any p = false) (fun k => e.length - k) 0 ⟨Nat.zero_le _, by simp⟩ ?_ rfl ?_
  · simp only [↓evPre, ↓evPreW, evPost, evPostW, evR, evU, seval]
  · rintro k ⟨hk, hall⟩
    cases hc : e[k]? with
    | none =>
      have hkl : k = e.length := by have := List.getElem?_eq_none_iff.1 hc; omega
      have hlt : ¬ ((k : Int) < e.length) := by omega
      rw [hkl, List.take_length] at hall
      simp (disch := first | omega | (simp only [lenT]; omega)) only [hlt, wrap_i64, ixF_none hall, ↓evPre, ↓evPreW, evPost, evPostW, evR, evU, seval]
    | some c =>
      have hlt : ((k : Int) < e.length) := by have := (List.getElem?_eq_some_iff.1 hc).1; omega
      simp (disch := first | omega | (simp only [lenT]; omega)) only [hlt, hc, cmR, wrap_i64, ↓evPre, ↓evPreW, evPost, evPostW, evR, evU, seval]
      refine (hp c (List.mem_of_getElem? hc)).then ?_
      cases hpc : p c
      · simp (disch := first | omega | (simp only [lenT]; omega)) only [hlt, hc, hpc, wrap_i64, ↓evPre, ↓evPreW, evPost, evPostW, evR, evU, seval]
        exact ⟨k + 1, ⟨by omega, any_take_succ hc hall hpc⟩, by omega, by omega⟩
      · simp (disch := first | omega | (simp only [lenT]; omega)) only [hlt, hc, hpc, wrap_i64, ixF_at hc hall hpc, ↓evPre, ↓evPreW, evPost, evPostW, evR, evU, seval]
theorem contains44_A (e : List Txt) (S : Store) (he : FitE e) : CallA Tryz.prog 109 [cmV e, .func 110 [] []] S fun r S' => r = .bool (e.any fun c => c.any oddC) ∧ S' = S := by
  refine CallA.keep Tryz.func109 c8044 (Nat.le_of_ble_eq_true rfl) fun σ hσ => ?_
  simp (disch := first | omega | (simp only [lenT]; omega)) only [a8044, ↓evPre, ↓evPreW, evPost, evPostW, evR, evU, seval]
  refine (index54_A e 110 (fun c => c.any oddC) S he.1 fun c hc => odd_A c S (he.2 c hc)).then ?_
  simp (disch := first | omega | (simp only [lenT]; omega)) only [ixF_pos, ↓evPre, ↓evPreW, evPost, evPostW, evR, evU, seval]
theorem writable_A (x : Ln) (S : Store) (hx : FitX x) : CallA Tryz.prog 78 [.agg (lnR x)] S fun r S' => r = .bool (writable x) ∧ S' = S := by
  refine CallA.keep Tryz.func78 c8028 (Nat.le_of_ble_eq_true rfl) fun σ hσ => ?_
  obtain ⟨hx1, hx2, hx3⟩ := hx
  by_cases h3 : x.tag.length = 3
  · have h3i : (x.tag.length : Int) = 3 := by omega
    simp (disch := first | omega | (simp only [lenT]; omega)) only [a8028, lnR, elV, h3i, decide_true, Bool.not_true, ↓evPre, ↓evPreW, evPost, evPostW, evR, evU, seval]
    refine loopA (ι := Nat) (fun k => [(10, .int .i64 k), (1, .cptr [.str x.tag, .sl 1 (x.els.map elR)])]) (fun _ => S) (fun k => k ≤ 3 ∧ (x.tag.take k).any (fun c => !upC c) = false) (fun k => 3 - k) 0 ⟨Nat.zero_le _, by simp⟩ ?_ rfl ?_
    · simp only [↓evPre, ↓evPreW, evPost, evPostW, evR, evU, seval]
    · rintro k ⟨hk, hall⟩
      by_cases hlt : (k : Int) < 3
      · obtain ⟨c, hc⟩ : ∃ c, x.tag[k]? = some c := ⟨x.tag[k]'(by omega), List.getElem?_eq_getElem _⟩
        by_cases h1 : (c.toNat : Int) < 65
        · have hu : upC c = false := by simp [upC]; omega
          have hw : writable x = false := by
            have : x.tag.any (fun c => !upC c) = true := any_of_get hc (by simp [hu])
            simp [writable, tagOk, this]
          simp (disch := first | omega | (simp only [lenT]; omega)) only [hlt, hc, h1, wrap_i64, hw, ↓evPre, ↓evPreW, evPost, evPostW, evR, evU, seval]
        · by_cases h2 : 90 < (c.toNat : Int)
          · have hu : upC c = false := by simp [upC]; omega
            have hw : writable x = false := by
              have : x.tag.any (fun c => !upC c) = true := any_of_get hc (by simp [hu])
              simp [writable, tagOk, this]
            simp (disch := first | omega | (simp only [lenT]; omega)) only [hlt, hc, h1, h2, wrap_i64, hw, ↓evPre, ↓evPreW, evPost, evPostW, evR, evU, seval]
          · have hu : upC c = true := by simp [upC]; omega
            simp (disch := first | omega | (simp only [lenT]; omega)) only [hlt, hc, h1, h2, wrap_i64, ↓evPre, ↓evPreW, evPost, evPostW, evR, evU, seval]
            exact ⟨k + 1, ⟨by omega, any_take_succ hc hall (by simp [hu])⟩, by omega, by omega⟩
      · have hk3 : k = x.tag.length := by omega
        rw [hk3, List.take_length] at hall
        have htag : tagOk x.tag = true := by simp only [tagOk, hall, h3]; rfl
        have hw : writable x = !x.els.any elBad := by simp [writable, htag]
        simp (disch := first | omega | (simp only [lenT]; omega)) only [hlt, wrap_i64, ↓evPre, ↓evPreW, evPost, evPostW, evR, evU, seval]
        refine loopA (ι := Nat) (fun k => [(27, .sl 1 (x.els.map elR)), (28, .int .i64 x.els.length), (29, .int .i64 k)]) (fun _ => S) (fun k => k ≤ x.els.length ∧ (x.els.take k).any elBad = false) (fun k => x.els.length - k) 0 ⟨Nat.zero_le _, by simp⟩ ?_ rfl ?_
        · simp only [↓evPre, ↓evPreW, evPost, evPostW, evR, evU, seval]
        · rintro k ⟨hk, hall⟩
          cases hc : x.els[k]? with
          | none =>
            have hkl : k = x.els.length := by have := List.getElem?_eq_none_iff.1 hc; omega
            have hlt : ¬ ((k : Int) < x.els.length) := by omega
            rw [hkl, List.take_length] at hall
            simp (disch := first | omega | (simp only [lenT]; omega)) only [hlt, wrap_i64, hw, hall, Bool.not_false, ↓evPre, ↓evPreW, evPost, evPostW, evR, evU, seval]
          | some e =>
            have hlt : ((k : Int) < x.els.length) := by have := (List.getElem?_eq_some_iff.1 hc).1; omega
            have he := hx3 e (List.mem_of_getElem? hc)
            by_cases h0 : (e.length : Int) = 0
            · have hb : elBad e = true := by
                have : e = [] := List.eq_nil_of_length_eq_zero (by omega)
                subst this
                rfl
              simp (disch := first | omega | (simp only [lenT]; omega)) only [hlt, hc, elR, cmV, h0, decide_true, wrap_i64, hw, any_of_get hc hb, Bool.not_true, ↓evPre, ↓evPreW, evPost, evPostW, evR, evU, seval]
            · have hne : e.isEmpty = false := by cases e <;> simp at h0 ⊢
              simp (disch := first | omega | (simp only [lenT]; omega)) only [hlt, hc, elR, cmV, h0, decide_false, wrap_i64, ↓evPre, ↓evPreW, evPost, evPostW, evR, evU, seval]
              refine (contains44_A e S he).then ?_
              cases hb : e.any fun c => c.any oddC
              · have hb' : elBad e = false := by simp only [elBad, hne, hb]; rfl
                simp (disch := first | omega | (simp only [lenT]; omega)) only [hlt, hc, hb, wrap_i64, ↓evPre, ↓evPreW, evPost, evPostW, evR, evU, seval]
                exact ⟨k + 1, ⟨by omega, any_take_succ hc hall hb'⟩, by omega, by omega⟩
              · have hb' : elBad e = true := by simp only [elBad, hne, hb]; rfl
                simp (disch := first | omega | (simp only [lenT]; omega)) only [hlt, hc, hb, wrap_i64, hw, any_of_get hc hb', Bool.not_true, ↓evPre, ↓evPreW, evPost, evPostW, evR, evU, seval]
  · have h3i : ¬ (x.tag.length : Int) = 3 := by omega
    have hw : writable x = false := by simp [writable, tagOk, h3]
    simp (disch := first | omega | (simp only [lenT]; omega)) only [a8028, lnR, elV, h3i, decide_false, Bool.not_false, hw, ↓evPre, ↓evPreW, evPost, evPostW, evR, evU, seval]
theorem right1_A (x : Ln) (S : Store) (hx : FitX x) : CallA Tryz.prog 77 [.agg (lnR x)] S fun r S' => r = .bool (!writable x) ∧ S' = S := by
  refine CallA.keep Tryz.func77 c8027 (Nat.le_of_ble_eq_true rfl) fun σ hσ => ?_
  simp (disch := first | omega | (simp only [lenT]; omega)) only [a8027, lnR, elV, ↓evPre, ↓evPreW, evPost, evPostW, evR, evU, seval]
  refine (writable_A x S hx).then ?_
  simp (disch := first | omega | (simp only [lenT]; omega)) only [↓evPre, ↓evPreW, evPost, evPostW, evR, evU, seval]
theorem index43_A (l : List Ln) (S : Store) (hl : FitL l) : CallA Tryz.prog 108 [lnV l, .func 77 [] []] S fun r S' => r = .int .i64 (ixF (fun x => !writable x) l) ∧ S' = S := by
  refine CallA.keep Tryz.func108 c8043 (Nat.le_of_ble_eq_true rfl) fun σ hσ => ?_
  obtain ⟨he, hp⟩ := hl
  simp (disch := first | omega | (simp only [lenT]; omega)) only [a8043, lnV, ↓evPre, ↓evPreW, evPost, evPostW, evR, evU, seval]
  refine loopA (ι := Nat) (fun k => [(0, .sl 2 (l.map lnR)), (1, .func 77 [] []), (7, .int .i64 l.length), (8, .int .i64 k)]) (fun _ => S) (fun k => k ≤ l.length ∧ (l.take k).any (fun x => !writable x) = false) (fun k => l.length - k) 0 ⟨Nat.zero_le _, by simp⟩ ?_ rfl ?_
  · simp only [↓evPre, ↓evPreW, evPost, evPostW, evR, evU, seval]
  · rintro k ⟨hk, hall⟩
    cases hc : l[k]? with
    | none =>
      have hkl : k = l.length := by have := List.getElem?_eq_none_iff.1 hc; omega
      have hlt : ¬ ((k : Int) < l.length) := by omega
      rw [hkl, List.take_length] at hall
      simp (disch := first | omega | (simp only [lenT]; omega)) only [hlt, wrap_i64, ixF_none hall, ↓evPre, ↓evPreW, evPost, evPostW, evR, evU, seval]
    | some x =>
      have hlt : ((k : Int) < l.length) := by have := (List.getElem?_eq_some_iff.1 hc).1; omega
      simp (disch := first | omega | (simp only [lenT]; omega)) only [hlt, hc, lnR, wrap_i64, ↓evPre, ↓evPreW, evPost, evPostW, evR, evU, seval]
      refine (right1_A x S (hp x (List.mem_of_getElem? hc))).then ?_
      cases hpc : writable x
      · simp (disch := first | omega | (simp only [lenT]; omega)) only [hlt, hc, hpc, wrap_i64, Bool.not_false, ixF_at hc hall (by simp [hpc] : (!writable x) = true), ↓evPre, ↓evPreW, evPost, evPostW, evR, evU, seval]
      · simp (disch := first | omega | (simp only [lenT]; omega)) only [hlt, hc, hpc, wrap_i64, Bool.not_true, ↓evPre, ↓evPreW, evPost, evPostW, evR, evU, seval]
        exact ⟨k + 1, ⟨by omega, any_take_succ hc hall (by simp [hpc])⟩, by omega, by omega⟩
theorem contains26_A (l : List Ln) (S : Store) (hl : FitL l) : CallA Tryz.prog 76 [lnV l, .func 77 [] []] S fun r S' => r = .bool (l.any fun x => !writable x) ∧ S' = S := by
  refine CallA.keep Tryz.func76 c8026 (Nat.le_of_ble_eq_true rfl) fun σ hσ => ?_
  simp (disch := first | omega | (simp only [lenT]; omega)) only [a8026, ↓evPre, ↓evPreW, evPost, evPostW, evR, evU, seval]
  refine (index43_A l S hl).then ?_
  simp (disch := first | omega | (simp only [lenT]; omega)) only [ixF_pos, ↓evPre, ↓evPreW, evPost, evPostW, evR, evU, seval]
theorem right_A (l : List Ln) (S : Store) (hl : FitL l) : CallA Tryz.prog 51 [lnV l] S fun r S' => r = .bool (rightL l) ∧ S' = S := by
  refine CallA.keep Tryz.func51 c8012 (Nat.le_of_ble_eq_true rfl) fun σ hσ => ?_
  simp (disch := first | omega | (simp only [lenT]; omega)) only [a8012, ↓evPre, ↓evPreW, evPost, evPostW, evR, evU, seval]
  refine (contains26_A l S hl).then ?_
  simp (disch := first | omega | (simp only [lenT]; omega)) only [rightL, ↓evPre, ↓evPreW, evPost, evPostW, evR, evU, seval]
end Go.Proofs.YtlnpfnoemhjheaaGreatDoor.Ed
/- Lines: which are the same; components. -/
namespace Go.Proofs.YtlnpfnoemhjheaaGreatDoor.Ed
open Go Go.AL
set_option linter.unusedSectionVars false
variable [Go.AL.Mode] [Go.AL.LooseM]
set_option linter.unusedSimpArgs false
set_option linter.unusedVariables false
section
variable {α : Type} {a b : List α} {k : Nat} {x y : α}
theorem get_lt (h : k < a.length) : ∃ x, a[k]? = some x := ⟨a[k], List.getElem?_eq_getElem h⟩
end
end Go.Proofs.YtlnpfnoemhjheaaGreatDoor.Ed
/- The reference's Right; the size of lines. -/
namespace Go.Proofs.YtlnpfnoemhjheaaGreatDoor.Ed
open Go Go.AL
set_option linter.unusedSectionVars false
variable [Go.AL.Mode] [Go.AL.LooseM]
set_option linter.unusedSimpArgs false
set_option linter.unusedVariables false
def szE (e : List Txt) : Nat := e.length + (e.map List.length).sum
def szX (x : Ln) : Nat := x.tag.length + x.els.length + (x.els.map szE).sum
def szL (l : List Ln) : Nat := l.length + (l.map szX).sum
section
variable {α : Type} {l : List α} {k : Nat} {x : α} (f : α → Nat)
theorem sum_take_succ (h : l[k]? = some x) : ((l.take (k + 1)).map f).sum = ((l.take k).map f).sum + f x := by
  rw [List.take_add_one, h]; simp
theorem sum_take_le (h : l[k]? = some x) : ((l.take k).map f).sum + f x ≤ (l.map f).sum := by
  have h1 : l = l.take (k + 1) ++ l.drop (k + 1) := (List.take_append_drop _ _).symm
  have h2 : (l.map f).sum = ((l.take (k + 1)).map f).sum + ((l.drop (k + 1)).map f).sum := by
    rw [← List.sum_append_nat, ← List.map_append, ← h1]
  rw [h2, sum_take_succ f h]
  omega
theorem sum_mem_le (h : x ∈ l) : f x ≤ (l.map f).sum := by
  obtain ⟨k, hk⟩ := List.getElem?_of_mem h
  have := sum_take_le f hk
  omega
end
end Go.Proofs.YtlnpfnoemhjheaaGreatDoor.Ed
