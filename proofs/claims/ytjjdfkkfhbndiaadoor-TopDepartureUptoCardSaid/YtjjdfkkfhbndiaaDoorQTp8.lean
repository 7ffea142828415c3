/- Departure: two lists that grow side by side; seats that lie in the cabin; a number among others. -/
import Derived.Test.YtjjdfkkfhbndiaaDoorQStSeat13
import Derived.Test.YtjjdfkkfhbndiaaDoorQTp2
namespace Go.Proofs.YtjjdfkkfhbndiaaDoor
open Go Go.AL
set_option linter.unusedSectionVars false
variable [Go.AL.Mode] [Go.AL.LooseM]
set_option linter.unusedSimpArgs false
set_option linter.unusedVariables false
structure LG2 (S : Store) (q1 : TypeId) (s1 : Nat) (r1 : List (List V)) (v1 : V) (q2 : TypeId) (s2 : Nat) (r2 : List (List V)) (v2 : V) (S' : Store) : Prop where
  a : LG S q1 s1 r1 v1 S'
  b : LG S q2 s2 r2 v2 S'
  ne : ∀ id ver o l id2 ver2 o2 l2, v1 = .msl id ver o l → v2 = .msl id2 ver2 o2 l2 → id ≠ id2
theorem LG2.symm {S : Store} {q1 q2 : TypeId} {s1 s2 : Nat} {r1 r2 : List (List V)} {v1 v2 : V} {S' : Store} (h : LG2 S q1 s1 r1 v1 q2 s2 r2 v2 S') : LG2 S q2 s2 r2 v2 q1 s1 r1 v1 S' :=
  ⟨h.b, h.a, fun id ver o l id2 ver2 o2 l2 e1 e2 e => h.ne _ _ _ _ _ _ _ _ e2 e1 e.symm⟩
theorem LG2.app {S : Store} {q1 q2 : TypeId} {s1 s2 : Nat} {r1 r2 : List (List V)} {v1 v2 : V} {S' : Store} (h : LG2 S q1 s1 r1 v1 q2 s2 r2 v2 S') {r : List V} {K : V → Store → Prop} (hl : r1.length + 1 ≤ 1000000000)
    (k : ∀ v' S'', LG2 S q1 s1 (r1 ++ [r]) v' q2 s2 r2 v2 S'' → K v' S'') : appK q1 s1 v1 (some (s1, [r])) S' K := by
  have hb := h.b
  have hne := h.ne
  obtain ⟨⟨T, rfl⟩, h2⟩ := h.a
  rcases h2 with ⟨rfl, rfl⟩ | ⟨id, ver, h3, rfl, h5⟩
  · rw [app_nil]
    refine ⟨by unfold roomA; simp, k _ _ ⟨⟨⟨T ++ [⟨0, some (.arr q1 s1 [r])⟩], by simp⟩, .inr ⟨(S ++ T).length, 0, by simp, by simp, ?_⟩⟩, hb.add _, fun id ver o l id2 ver2 o2 l2 e1 e2 => ?_⟩⟩
    · rw [List.nil_append]
      exact (ob_app0 (S := S ++ T)).trans ob_head
    · cases e1
      rcases hb.here with ⟨e3, _⟩ | ⟨id', ver', _, e3, h6⟩
      · rw [e3] at e2; cases e2
      · rw [e3] at e2
        cases e2
        have := obj_lt h6
        omega
  · rw [app_msl, h5, appO_some]
    refine ⟨rfl, by unfold roomA; simp; omega, k _ _ ⟨⟨⟨T.set (id - S.length) ⟨ver + 1, some (.arr q1 s1 (r1 ++ [r]))⟩, ?_⟩, .inr ⟨id, ver + 1, h3, by simp, obj_set h5⟩⟩, ⟨ext_set ⟨T, rfl⟩ h3, ?_⟩, fun id' ver' o l id2 ver2 o2 l2 e1 e2 => ?_⟩⟩
    · rw [List.set_append_right _ _ h3]
    · rcases hb.here with hh | ⟨id', ver', g3, e3, h6⟩
      · exact .inl hh
      · exact .inr ⟨id', ver', g3, e3, by rw [obj_set_ne (hne _ _ _ _ _ _ _ _ rfl e3).symm]; exact h6⟩
    · cases e1
      exact hne _ _ _ _ _ _ _ _ rfl e2
theorem clm_all (l : List St.Clm) : ∀ r ∈ l.map St.clmR, r.length = 4 ∧ V.allImm r = true := fun r hr => by
  obtain ⟨x, _, rfl⟩ := List.mem_map.1 hr
  exact ⟨rfl, rfl⟩
theorem among_A (l : List Int) (hl : l.length ≤ 1000000) (x : Int) (S : Store) : CallA Tryd.prog 17 [.sl 1 (l.map nI), .int .i64 x] S fun r S' => r = .bool (l.contains x) ∧ S' = S := by
  refine CallA.keep Tryd.func17 c7017 (Nat.le_of_ble_eq_true rfl) fun σ hσ => ?_
  simp (disch := first | omega | (simp only [lenT]; omega)) only [a7017, evSt, ↓evPre, ↓evPreW, evPost, evPostW, evR, evU, seval]
  refine loopA (ι := Nat) (fun k => [(0, .sl 1 (l.map nI)), (1, .int .i64 x), (5, .int .i64 (k : Nat))]) (fun _ => S) (fun k => k ≤ l.length ∧ (l.take k).contains x = false) (fun k => l.length - k) 0 ⟨Nat.zero_le _, rfl⟩ ?_ rfl ?_
  · simp only [↓evPre, ↓evPreW, evPost, evPostW, evR, evU, seval]
    try rfl
  rintro k ⟨hk, hn⟩
  cases hc : l[k]? with
  | none =>
    have hge := List.getElem?_eq_none_iff.1 hc
    have hlt : ¬ ((k : Int) < l.length) := by omega
    rw [List.take_of_length_le hge] at hn
    simp (disch := first | omega | (simp only [lenT]; omega)) only [dF hlt, hn, evSt, ↓evPre, ↓evPreW, evPost, evPostW, evR, evU, seval]
  | some y =>
    have hlt' := (List.getElem?_eq_some_iff.1 hc).1
    have hlt : (k : Int) < l.length := by omega
    have hk1 : (k : Int) + 1 = ((k + 1 : Nat) : Int) := by omega
    by_cases h : y = x
    · have : l.contains x = true := List.contains_iff_mem.2 (h ▸ List.mem_of_getElem? hc)
      simp (disch := first | omega | (simp only [lenT]; omega)) only [dT hlt, hc, nI, dT h, this, evSt, ↓evPre, ↓evPreW, evPost, evPostW, evR, evU, seval]
    · simp (disch := first | omega | (simp only [lenT]; omega)) only [dT hlt, hc, nI, dF h, wrap_i64, hk1, evSt, ↓evPre, ↓evPreW, evPost, evPostW, evR, evU, seval]
      refine ⟨k + 1, ⟨by omega, ?_⟩, by omega, by first | rfl | exact ⟨rfl, rfl⟩ | exact ⟨rfl, rfl, rfl⟩⟩
      rw [List.take_add_one, hc, Option.toList_some]
      have hn' : x ∉ l.take k := fun hm => by
        rw [List.contains_iff_mem.2 hm] at hn
        cases hn
      rw [← Bool.not_eq_true]
      intro hm
      rcases List.mem_append.1 (List.contains_iff_mem.1 hm) with hm | hm
      · exact hn' hm
      · exact h (List.mem_singleton.1 hm).symm
theorem assign_bound (se : List St.Sea) (cl : List St.Clm) {i : Nat} {x : Int} (hx : (St.assignF se cl)[i]? = some x) : x < se.length := by
  have h := (St.assign_run se cl).mat
  have hi : i < cl.length := by rw [← h.slen]; exact (List.getElem?_eq_some_iff.1 hx).1
  rcases h.seat i hi with h1 | ⟨k, k1, k2, k3, k4⟩
  · rw [St.sm_some hx] at h1
    omega
  · rw [St.sm_some hx] at k2
    omega
end Go.Proofs.YtjjdfkkfhbndiaaDoor
