/- Parse. -/
import Derived.Test.YtlnpfnoemhjheaaGreatDoorMEdEdi11
namespace Go.Proofs.YtlnpfnoemhjheaaGreatDoor.Ed
open Go Go.AL
set_option linter.unusedSectionVars false
variable [Go.AL.Mode] [Go.AL.LooseM]
set_option linter.unusedSimpArgs false
set_option linter.unusedVariables false
def parseV (s : Txt) : V :=
  if 65536 < s.length then .tup [lnV [], .int .i64 0, .int .i64 4] else
  match parseF (s.length + 1) [] s 0 with
  | (some ls, _) => .tup [lnV ls, .int .i64 0, .int .i64 0]
  | (none, n) => .tup [lnV [], .int .i64 n, .int .i64 3]
theorem parseF_nil (n : Nat) (ls : List Ln) (k : Nat) : parseF n ls [] k = (some ls, k) := by cases n <;> simp [parseF]
theorem frz_tup3 {S S1 : Store} {a b c a' b' c' : V} (h : Frz S S1 a a') (k : Frz S S1 b b') (l : Frz S S1 c c') : Frz S S1 (.tup [a, b, c]) (.tup [a', b', c']) := by
  refine .tup rfl fun j v hj x hx => ?_
  match j, hj, hx with
  | 0, hj, hx => simp at hj hx; subst hj hx; exact h
  | 1, hj, hx => simp at hj hx; subst hj hx; exact k
  | 2, hj, hx => simp at hj hx; subst hj hx; exact l
  | j + 3, hj, hx => simp at hj
theorem outs_frz {S T : Store} {b : AL.Obj} {o : V} {ls : List Ln} (h : Outs S T o (ls.map lnR)) : Frz (S ++ b :: T) S o (lnV ls) := by
  rcases h with ⟨rfl, rfl, hr⟩ | ⟨v, rfl, rfl⟩
  · have : ls = [] := by simpa using hr
    subst this
    exact .nil
  · refine .sl (t := 58) (Nat.le_succ _) ?_ rfl fun r hr => ?_
    · rw [ob_app, ob_cons, ob_head]
    · obtain ⟨x, _, rfl⟩ := List.mem_map.1 hr
      exact ⟨rfl, rfl⟩
theorem tagN_len : ∀ (n : Nat) (l : Txt), tagN n l ≤ l.length
  | 0, l => by cases l <;> simp [tagN]
  | n + 1, [] => by simp [tagN]
  | n + 1, c :: r => by
    have := tagN_len n r
    simp only [tagN, List.length_cons]
    split <;> omega
theorem mach_len : ∀ (n : Nat) (l : Txt), l.length ≤ n → ∀ (els : List (List Txt)) (cur : Option (List Txt × Txt)), (mach els cur l).2 ≤ l.length
  | 0, l, h, els, cur => by
    have : l = [] := List.eq_nil_of_length_eq_zero (by omega)
    subst this
    simp [mach]
  | n + 1, [], h, els, cur => by simp [mach]
  | n + 1, c :: r, h, els, cur => by
    simp only [List.length_cons] at h
    have ih1 := fun els cur => mach_len n r (by omega) els cur
    rw [mach.eq_def]
    simp only [List.length_cons]
    split
    · cases r with
      | nil => simp only; split <;> simp
      | cons d r' =>
        simp only [List.length_cons] at h ⊢
        have ih2 := fun els cur => mach_len n r' (by omega) els cur
        cases cur with
        | none => simp
        | some ct =>
          obtain ⟨comps, text⟩ := ct
          simp only
          split
          · have := ih2 els (some (comps, text ++ [d])); simp only; omega
          · simp
    · split
      · simp
      · split
        · cases cur with
          | none =>
            simp only
            split
            · simp
            · split
              · have := ih1 els (some ([], [])); simp only; omega
              · simp
          | some ct =>
            obtain ⟨comps, text⟩ := ct
            simp only
            split
            · have := ih1 els (some (comps ++ [text], [])); simp only; omega
            · split
              · have := ih1 (els ++ [comps ++ [text]]) (some ([], [])); simp only; omega
              · simp
        · cases cur with
          | none => simp
          | some ct =>
            obtain ⟨comps, text⟩ := ct
            have := ih1 els (some (comps, text ++ [c]))
            simp only
            omega
set_option maxRecDepth 20000 in
theorem parse_A (s : Txt) (S : Store) : CallA Tryz.prog 28 [.str s] S fun r S' => r = parseV s ∧ S' = S := by
  refine CallA.back Tryz.func28 c8016 (Nat.le_of_ble_eq_true rfl) fun σ hσ hn => ?_
  by_cases hbig : (65536 : Int) < (s.length : Int)
  · have hb : 65536 < s.length := by omega
    simp (disch := first | omega | (simp only [lenT]; omega)) only [a8016, hbig, decide_true, ↓evPre, ↓evPreW, evPost, evPostW, evR, evU, seval]
    refine ⟨parseV s, ⟨[], (List.append_nil S).symm⟩, ?_, rfl⟩
    simp only [parseV, if_pos hb]
    exact frz_tup3 .nil (.imm rfl) (.imm rfl)
  · have hb : ¬ 65536 < s.length := by omega
    simp (disch := first | omega | (simp only [lenT]; omega)) only [a8016, hbig, decide_false, ↓evPre, ↓evPreW, evPost, evPostW, evR, evU, seval]
    refine loopA (ι := Nat × V × Store × List Ln × Nat) (fun i => [(0, .str s), (5, .ptr S.length 0 0 0)]) (fun i => S ++ ⟨0, some (.arr 126 3 [[.str s, .int .i64 i.1, i.2.1]])⟩ :: i.2.2.1)
      (fun i => i.1 ≤ s.length ∧ i.2.2.2.1.length ≤ i.1 ∧ Outs S i.2.2.1 i.2.1 (i.2.2.2.1.map lnR) ∧ s.length - i.1 < i.2.2.2.2 ∧ parseF i.2.2.2.2 i.2.2.2.1 (s.drop i.1) i.1 = parseF (s.length + 1) [] s 0)
      (fun i => s.length - i.1) (0, .nilSl, [], [], s.length + 1) ⟨Nat.zero_le _, Nat.le_refl _, .inl ⟨rfl, rfl, rfl⟩, by simp only; omega, by simp⟩ ?_ rfl ?_
    · simp only [↓evPre, ↓evPreW, evPost, evPostW, evR, evU, seval]
    · rintro ⟨k, o, T, ls, n⟩ ⟨hk, hls, ho, hn, hp⟩
      simp only at hk hls ho hn hp ⊢
      by_cases hlt : (k : Int) < (s.length : Int)
      · simp (disch := first | omega | (simp only [lenT]; omega)) only [hlt, wrap_i64, ob_app, ob_app0, ob_cons, ob_head, ↓evPre, ↓evPreW, evPost, evPostW, evR, evU, seval]
        refine (tag_A s k S T o (ls.map lnR) (by omega) hk (by simp; omega) ho).mono ?_
        intro r S' hr
        obtain ⟨n, rfl⟩ : ∃ m, n = m + 1 := ⟨n - 1, by omega⟩
        obtain ⟨c, hc⟩ := get_lt (a := s) (k := k) (by omega)
        rw [drop_cons hc, parseF, ← drop_cons hc] at hp
        · by_cases h3 : tagN 3 (s.drop k) = 3
          · rw [if_pos h3] at hr
            obtain ⟨rfl, v, rfl⟩ := hr
            rw [if_neg (by omega), List.drop_drop] at hp
            have hlen := tagN_len 3 (s.drop k)
            rw [List.length_drop] at hlen
            simp (disch := first | omega | (simp only [lenT]; omega)) only [wrap_i64, ob_app, ob_app0, ob_cons, ob_head, Bool.not_true, ↓evPre, ↓evPreW, evPost, evPostW, evR, evU, seval]
            refine (line_A s (k + 3) S v ls ((s.drop k).take 3) (by omega) (by omega) (by omega)).mono ?_
            intro r S' hr
            unfold LinePost at hr
            generalize hm : mach [] none (s.drop (k + 3)) = mm at hr hp
            obtain ⟨me, mn⟩ := mm
            cases me with
            | none =>
              obtain ⟨rfl, rfl⟩ := hr
              simp only at hp
              have hres : parseV s = .tup [lnV [], .int .i64 (k + 3 + mn : Nat), .int .i64 3] := by simp only [parseV, if_neg hb, ← hp]
              simp (disch := first | omega | (simp only [lenT]; omega)) only [wrap_i64, ob_app, ob_app0, ob_cons, ob_head, Bool.not_false, hres, ↓evPre, ↓evPreW, evPost, evPostW, evR, evU, seval]
              exact ⟨_, ⟨_, rfl⟩, frz_tup3 .nil (.imm rfl) (.imm rfl), rfl⟩
            | some els =>
              obtain ⟨rfl, rfl⟩ := hr
              simp only at hp
              simp (disch := first | omega | (simp only [lenT]; omega)) only [wrap_i64, ob_app, ob_app0, ob_cons, ob_head, Bool.not_true, ↓evPre, ↓evPreW, evPost, evPostW, evR, evU, seval]
              refine ⟨(k + 3 + mn, .msl (S.length + 1) v 0 (ls.length + 1), [⟨v, some (.arr 58 2 ((ls ++ [(⟨(s.drop k).take 3, els⟩ : Ln)]).map lnR))⟩], ls ++ [⟨(s.drop k).take 3, els⟩], n), ⟨?_, ?_, ?_, ?_, ?_⟩, ?_, ?_⟩
              · have hl2 := mach_len _ (s.drop (k + 3)) (Nat.le_refl _) [] none
                rw [hm, List.length_drop] at hl2
                simp only at hl2 ⊢
                omega
              · simp; omega
              · exact .inr ⟨v, by simp, rfl⟩
              · simp only; omega
              · rw [← hp, List.drop_drop]
                simp only [Nat.add_assoc]
              · simp only; omega
              · simp
          · rw [if_neg h3] at hr
            obtain ⟨rfl, rfl⟩ := hr
            have hlt3 := tagN_le 3 (s.drop k)
            rw [if_pos (by omega)] at hp
            have hres : parseV s = .tup [lnV [], .int .i64 (k + tagN 3 (s.drop k) : Nat), .int .i64 3] := by simp only [parseV, if_neg hb, ← hp]
            simp (disch := first | omega | (simp only [lenT]; omega)) only [wrap_i64, ob_app, ob_app0, ob_cons, ob_head, Bool.not_false, hres, ↓evPre, ↓evPreW, evPost, evPostW, evR, evU, seval]
            exact ⟨_, ⟨_, rfl⟩, frz_tup3 .nil (.imm rfl) (.imm rfl), rfl⟩
        · simp
      · have hkl : k = s.length := by omega
        rw [show s.drop k = [] from List.drop_eq_nil_of_le (by omega), parseF_nil] at hp
        have hres : parseV s = .tup [lnV ls, .int .i64 0, .int .i64 0] := by simp only [parseV, if_neg hb, ← hp]
        simp (disch := first | omega | (simp only [lenT]; omega)) only [hlt, wrap_i64, ob_app, ob_app0, ob_cons, ob_head, hres, ↓evPre, ↓evPreW, evPost, evPostW, evR, evU, seval]
        exact ⟨_, ⟨_, rfl⟩, frz_tup3 (outs_frz ho) (.imm rfl) (.imm rfl), rfl⟩
end Go.Proofs.YtlnpfnoemhjheaaGreatDoor.Ed
/- The reference's reader: is, tag. -/
namespace Go.Proofs.YtlnpfnoemhjheaaGreatDoor.Ed
open Go Go.AL
set_option linter.unusedSectionVars false
variable [Go.AL.Mode] [Go.AL.LooseM]
set_option linter.unusedSimpArgs false
set_option linter.unusedVariables false
end Go.Proofs.YtlnpfnoemhjheaaGreatDoor.Ed
