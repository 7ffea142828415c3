/- The reference's reader: a line (states). -/
import Derived.Test.YtpblahljlbakdaaEdi15
namespace Go.Proofs.Ytpblahljlbakdaa
open Go Go.AL
set_option linter.unusedSimpArgs false

/-! As in Edi10, for the reference's store: the objects stand right behind the reader. -/
def FinR (S T : Store) (m B : Nat) (v : V) (e : List Txt) : Prop := ∃ j w, (m ≤ j ∧ j < B) ∧ v = .msl (S.length + (j + 1)) w 0 e.length ∧ T.obj? j w = some (9, 1, e.map cmR)
def ElmR (S T : Store) (m B : Nat) (cs : List V) (els : List (List Txt)) : Prop := cs.length = els.length ∧ ∀ (i : Nat) (v : V) (x : List Txt), cs[i]? = some v → els[i]? = some x → FinR S T m B v x
theorem FinR.pres {S T T' : Store} {m B : Nat} {v : V} {e : List Txt} (h : FinR S T m B v e) (hp : PresB B 9 T T') : FinR S T' m B v e := by
  obtain ⟨j, w, h1, h2, h3⟩ := h
  exact ⟨j, w, h1, h2, hp _ _ _ _ h1.2 h3⟩
theorem FinR.mono {S T : Store} {m B B' : Nat} {v : V} {e : List Txt} (h : FinR S T m B v e) (hb : B ≤ B') : FinR S T m B' v e := by
  obtain ⟨j, w, h1, h2, h3⟩ := h
  exact ⟨j, w, by omega, h2, h3⟩
theorem ElmR.pres {S T T' : Store} {m B : Nat} {cs : List V} {els : List (List Txt)} (h : ElmR S T m B cs els) (hp : PresB B 9 T T') : ElmR S T' m B cs els := ⟨h.1, fun i v x hv hx => (h.2 i v x hv hx).pres hp⟩
theorem ElmR.mono {S T : Store} {m B B' : Nat} {cs : List V} {els : List (List Txt)} (h : ElmR S T m B cs els) (hb : B ≤ B') : ElmR S T m B' cs els := ⟨h.1, fun i v x hv hx => (h.2 i v x hv hx).mono hb⟩
theorem ElmR.snoc {S T : Store} {m B : Nat} {cs : List V} {els : List (List Txt)} {c : V} {e : List Txt} (h : ElmR S T m B cs els) (hc : FinR S T m B c e) : ElmR S T m B (cs ++ [c]) (els ++ [e]) := by
  refine ⟨by simp [h.1], fun i v x hv hx => ?_⟩
  by_cases hi : i < cs.length
  · rw [List.getElem?_append_left hi] at hv
    rw [List.getElem?_append_left (by rw [← h.1]; exact hi)] at hx
    exact h.2 i v x hv hx
  · rw [List.getElem?_append_right (by omega)] at hv
    rw [List.getElem?_append_right (by rw [← h.1]; omega)] at hx
    have hlt := (List.getElem?_eq_some_iff.1 hv).1
    simp only [List.length_cons, List.length_nil] at hlt
    have : i = cs.length := by omega
    subst this
    rw [Nat.sub_self] at hv
    rw [h.1, Nat.sub_self] at hx
    simp at hv hx
    subst hv hx
    exact hc
/-- The elements' cell. -/
def FroR (S T : Store) (m : Nat) (e : V) (els : List (List Txt)) : Prop := (els = [] ∧ e = .nilSl) ∨ ∃ j w cs B, m ≤ j ∧ e = .msl (S.length + (j + 1)) w 0 els.length ∧ T.obj? j w = some (40, 1, cs.map oneR) ∧ ElmR S T m B cs els ∧ B ≤ T.length
theorem froR_frz {S T0 L : Store} {b : AL.Obj} {e : V} {els : List (List Txt)} (h : FroR S (T0 ++ L) T0.length e els) : Frz (S ++ b :: (T0 ++ L)) (S ++ b :: T0) e (elV els) := by
  have hdead : ∀ j, T0.length ≤ j → dead (S ++ b :: T0) (S.length + (j + 1)) := fun j hj x hx => by
    rw [List.getElem?_eq_none (by simp; omega)] at hx
    cases hx
  have hob : ∀ j w, Store.obj? (S ++ b :: (T0 ++ L)) (S.length + (j + 1)) w = Store.obj? (T0 ++ L) j w := fun j w => by rw [ob_app, ob_cons]
  rcases h with ⟨rfl, rfl⟩ | ⟨j, w, cs, B, hj, rfl, ho, ⟨hl, hel⟩, _⟩
  · exact .nil
  · refine .msl (hdead j hj) (by rw [hob]; exact ho) (.inl rfl) (by simp) (fun i r hi => ?_) (fun i r hi q x hq r' y hr' hy => ?_) (fun i r hi q x hq => ?_)
    · simp only [List.getElem?_map, Option.map_eq_some_iff] at hi
      obtain ⟨e', _, rfl⟩ := hi
      rfl
    · simp only [List.getElem?_map, Option.map_eq_some_iff] at hi
      obtain ⟨e', he', rfl⟩ := hi
      rw [Nat.zero_add] at hr'
      simp only [List.getElem?_map, Option.map_eq_some_iff] at hr'
      obtain ⟨c, hc, rfl⟩ := hr'
      match q, hq, hy with
      | 0, hq, hy =>
        simp [elR] at hq
        simp [oneR] at hy
        subst hq hy
        obtain ⟨j', w', hj', rfl, ho'⟩ := hel i c e' hc he'
        refine .msl (hdead j' hj'.1) (by rw [hob]; exact ho') (.inl rfl) (by simp) (fun i r hi => ?_) (fun i r hi q x hq r' y hr' hy => ?_) (fun i r hi q x hq => ?_)
        · simp only [List.getElem?_map, Option.map_eq_some_iff] at hi
          obtain ⟨t, _, rfl⟩ := hi
          rfl
        · rw [Nat.zero_add] at hr'
          rw [hi] at hr'
          cases hr'
          rw [hq] at hy
          cases hy
          simp only [List.getElem?_map, Option.map_eq_some_iff] at hi
          obtain ⟨t, _, rfl⟩ := hi
          exact .imm (imm_row (r := cmR t) rfl q x hq)
        · simp only [List.getElem?_map, Option.map_eq_some_iff] at hi
          obtain ⟨t, _, rfl⟩ := hi
          exact imm_row (r := cmR t) rfl q x hq
      | q + 1, hq, hy => simp [elR] at hq
    · simp only [List.getElem?_map, Option.map_eq_some_iff] at hi
      obtain ⟨e', _, rfl⟩ := hi
      exact imm_row (r := elR e') rfl q x hq
end Go.Proofs.Ytpblahljlbakdaa
