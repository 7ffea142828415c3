/- Parse. -/
import Derived.Test.YtlnpfnoemhjheaaGreatDoorREdEdi11
namespace Go.Proofs.YtlnpfnoemhjheaaGreatDoor.Ed
open Go Go.AL
set_option linter.unusedSectionVars false
variable [Go.AL.Mode] [Go.AL.LooseM]
set_option linter.unusedSimpArgs false
set_option linter.unusedVariables false
def parseV (s : Txt) : V :=
  if 65536 < s.length then .tup [lnV [], .int .i64 0, .int .i64 4] else
  match parseF (s.length + 1) [] s 0 with
  | (some ls, _) => .tup [lnV ls, .int .i64 0, .int .i64 0]
  | (none, n) => .tup [lnV [], .int .i64 n, .int .i64 3]
theorem parseF_nil (n : Nat) (ls : List Ln) (k : Nat) : parseF n ls [] k = (some ls, k) := by cases n <;> simp [parseF]
theorem frz_tup3 {S S1 : Store} {a b c a' b' c' : V} (h : Frz S S1 a a') (k : Frz S S1 b b') (l : Frz S S1 c c') : Frz S S1 (.tup [a, b, c]) (.tup [a', b', c']) := by
  refine .tup rfl fun j v hj x hx => ?_
  match j, hj, hx with
  | 0, hj, hx => simp at hj hx; subst hj hx; exact h
  | 1, hj, hx => simp at hj hx; subst hj hx; exact k
  | 2, hj, hx => simp at hj hx; subst hj hx; exact l
  | j + 3, hj, hx => simp at hj
theorem outs_frz {S T : Store} {b : AL.Obj} {o : V} {ls : List Ln} (h : Outs S T o (ls.map lnR)) : Frz (S ++ b :: T) S o (lnV ls) := by
  rcases h with ⟨rfl, rfl, hr⟩ | ⟨v, rfl, rfl⟩
  · have : ls = [] := by simpa using hr
    subst this
    exact .nil
  · refine .sl (t := 58) (Nat.le_succ _) ?_ rfl fun r hr => ?_
    · rw [ob_app, ob_cons, ob_head]
    · obtain ⟨x, _, rfl⟩ := List.mem_map.1 hr
      exact ⟨rfl, rfl⟩
theorem tagN_len : ∀ (n : Nat) (l : Txt), tagN n l ≤ l.length
  | 0, l => by cases l <;> simp [tagN]
  | n + 1, [] => by simp [tagN]
  | n + 1, c :: r => by
    have := tagN_len n r
    simp only [tagN, List.length_cons]
    split <;> omega
theorem mach_len : ∀ (n : Nat) (l : Txt), l.length ≤ n → ∀ (els : List (List Txt)) (cur : Option (List Txt × Txt)), (mach els cur l).2 ≤ l.length
  | 0, l, h, els, cur => by
    have : l = [] := List.eq_nil_of_length_eq_zero (by omega)
    subst this
    simp [mach]
  | n + 1, [], h, els, cur => by simp [mach]
  | n + 1, c :: r, h, els, cur => by
    simp only [List.length_cons] at h
    have ih1 := fun els cur => mach_len n r (by omega) els cur
    rw [mach.eq_def]
    simp only [List.length_cons]
    split
    · cases r with
      | nil => simp only; split <;> simp
      | cons d r' =>
        simp only [List.length_cons] at h ⊢
        have ih2 := fun els cur => mach_len n r' (by omega) els cur
        cases cur with
        | none => simp
        | some ct =>
          obtain ⟨comps, text⟩ := ct
          simp only
          split
          · have := ih2 els (some (comps, text ++ [d])); simp only; omega
          · simp
    · split
      · simp
      · split
        · cases cur with
          | none =>
            simp only
            split
            · simp
            · split
              · have := ih1 els (some ([], [])); simp only; omega
              · simp
          | some ct =>
            obtain ⟨comps, text⟩ := ct
            simp only
            split
            · have := ih1 els (some (comps ++ [text], [])); simp only; omega
            · split
              · have := ih1 (els ++ [comps ++ [text]]) (some ([], [])); simp only; omega
              · simp
        · cases cur with
          | none => simp
          | some ct =>
            obtain ⟨comps, text⟩ := ct
            have := ih1 els (some (comps, text ++ [c]))
            simp only
            omega
set_option maxRecDepth 20000 in
theorem parse_A (s : Txt) (S : Store) : CallA Tryz.prog 28 [.str s] S fun r S' => r = parseV s ∧ S' = S := by
  refine CallA.back Tryz.func28 c8016 (Nat.le_of_ble_eq_true rfl) fun σ hσ hn => ?_
  by_cases hbig : (65536 : Int) < (s.length : Int)
  · have hb : 65536 < s.length := by omega
    simp (disch := first | omega | (simp only [lenT]; omega)) only [a8016, hbig, decide_true, ↓evPre, ↓evPreW, evPost, evPostW, evR, evU, seval]
    refine ⟨parseV s, ⟨[], (List.append_nil S).symm⟩, ?_, rfl⟩
    simp only [parseV, if_pos hb]
    exact frz_tup3 .nil (.imm rfl) (.imm rfl)
  · have hb : ¬ 65536 < s.length := by omega
    simp (disch := first | omega | (simp only [lenT]; omega)) only [a8016, hbig, decide_false, ↓evPre, ↓evPreW, evPost, evPostW, evR, evU, seval]
    refine loopA (ι := Nat × V × Store × List Ln × Nat) (fun i => [(0, .str s), (5, .ptr S.length 0 0 0)]) (fun i => S ++ ⟨0, some (.arr 126 3 [[.str s, .int .i64 i.1, i.2.1]])⟩ :: i.2.2.1)
      (fun i => i.1 ≤ s.length ∧ i.2.2.2.1.length ≤ i.1 ∧ Outs S i.2.2.1 i.2.1 (i.2.2.2.1.map lnR) ∧ s.length - i.1 < i.2.2.2.2 ∧ parseF i.2.2.2.2 i.2.2.2.1 (s.drop i.1) i.1 = parseF (s.length + 1) [] s 0)
      (fun i => s.length - i.1) (0, .nilSl, [], [], s.length + 1) ⟨Nat.zero_le _, Nat.le_refl _, .inl ⟨rfl, rfl, rfl⟩, by simp only; omega, by simp⟩ ?_ rfl ?_
    · simp only [↓evPre, ↓evPreW, evPost, evPostW, evR, evU, seval]
    · rintro ⟨k, o, T, ls, n⟩ ⟨hk, hls, ho, hn, hp⟩
      simp only at hk hls ho hn hp ⊢
      by_cases hlt : (k : Int) < (s.length : Int)
      · simp (disch := first | omega | (simp only [lenT]; omega)) only [hlt, wrap_i64, ob_app, ob_app0, ob_cons, ob_head, ↓evPre, ↓evPreW, evPost, evPostW, evR, evU, seval]
        refine (tag_A s k S T o (ls.map lnR) (by omega) hk (by simp; omega) ho).mono ?_
        intro r S' hr
        obtain ⟨n, rfl⟩ : ∃ m, n = m + 1 := ⟨n - 1, by omega⟩
        obtain ⟨c, hc⟩ := get_lt (a := s) (k := k) (by omega)
        rw [drop_cons hc, parseF, ← drop_cons hc] at hp
        · by_cases h3 : tagN 3 (s.drop k) = 3
          · rw [if_pos h3] at hr
            obtain ⟨rfl, v, rfl⟩ := hr
            rw [if_neg (by omega), List.drop_drop] at hp
            have hlen := tagN_len 3 (s.drop k)
            rw [List.length_drop] at hlen
            simp (disch := first | omega | (simp only [lenT]; omega)) only [wrap_i64, ob_app, ob_app0, ob_cons, ob_head, Bool.not_true, ↓evPre, ↓evPreW, evPost, evPostW, evR, evU, seval]
            refine (line_A s (k + 3) S v ls ((s.drop k).take 3) (by omega) (by omega) (by omega)).mono ?_
            intro r S' hr
            unfold LinePost at hr
            generalize hm : mach [] none (s.drop (k + 3)) = mm at hr hp
            obtain ⟨me, mn⟩ := mm
            cases me with
            | none =>
              obtain ⟨rfl, rfl⟩ := hr
              simp only at hp
              have hres : parseV s = .tup [lnV [], .int .i64 (k + 3 + mn : Nat), .int .i64 3] := by simp only [parseV, if_neg hb, ← hp]
              simp (disch := first | omega | (simp only [lenT]; omega)) only [wrap_i64, ob_app, ob_app0, ob_cons, ob_head, Bool.not_false, hres, ↓evPre, ↓evPreW, evPost, evPostW, evR, evU, seval]
              exact ⟨_, ⟨_, rfl⟩, frz_tup3 .nil (.imm rfl) (.imm rfl), rfl⟩
            | some els =>
              obtain ⟨rfl, rfl⟩ := hr
              simp only at hp
              simp (disch := first | omega | (simp only [lenT]; omega)) only [wrap_i64, ob_app, ob_app0, ob_cons, ob_head, Bool.not_true, ↓evPre, ↓evPreW, evPost, evPostW, evR, evU, seval]
              refine ⟨(k + 3 + mn, .msl (S.length + 1) v 0 (ls.length + 1), [⟨v, some (.arr 58 2 ((ls ++ [(⟨(s.drop k).take 3, els⟩ : Ln)]).map lnR))⟩], ls ++ [⟨(s.drop k).take 3, els⟩], n), ⟨?_, ?_, ?_, ?_, ?_⟩, ?_, ?_⟩
              · have hl2 := mach_len _ (s.drop (k + 3)) (Nat.le_refl _) [] none
                rw [hm, List.length_drop] at hl2
                simp only at hl2 ⊢
                omega
              · simp; omega
              · exact .inr ⟨v, by simp, rfl⟩
              · simp only; omega
              · rw [← hp, List.drop_drop]
                simp only [Nat.add_assoc]
              · simp only; omega
              · simp
          · rw [if_neg h3] at hr
            obtain ⟨rfl, rfl⟩ := hr
            have hlt3 := tagN_le 3 (s.drop k)
            rw [if_pos (by omega)] at hp
            have hres : parseV s = .tup [lnV [], .int .i64 (k + tagN 3 (s.drop k) : Nat), .int .i64 3] := by simp only [parseV, if_neg hb, ← hp]
            simp (disch := first | omega | (simp only [lenT]; omega)) only [wrap_i64, ob_app, ob_app0, ob_cons, ob_head, Bool.not_false, hres, ↓evPre, ↓evPreW, evPost, evPostW, evR, evU, seval]
            exact ⟨_, ⟨_, rfl⟩, frz_tup3 .nil (.imm rfl) (.imm rfl), rfl⟩
        · simp
      · have hkl : k = s.length := by omega
        rw [show s.drop k = [] from List.drop_eq_nil_of_le (by omega), parseF_nil] at hp
        have hres : parseV s = .tup [lnV ls, .int .i64 0, .int .i64 0] := by simp only [parseV, if_neg hb, ← hp]
        simp (disch := first | omega | (simp only [lenT]; omega)) only [hlt, wrap_i64, ob_app, ob_app0, ob_cons, ob_head, hres, ↓evPre, ↓evPreW, evPost, evPostW, evR, evU, seval]
        exact ⟨_, ⟨_, rfl⟩, frz_tup3 (outs_frz ho) (.imm rfl) (.imm rfl), rfl⟩
end Go.Proofs.YtlnpfnoemhjheaaGreatDoor.Ed
/- The reference's reader: is, tag. -/
namespace Go.Proofs.YtlnpfnoemhjheaaGreatDoor.Ed
open Go Go.AL
set_option linter.unusedSectionVars false
variable [Go.AL.Mode] [Go.AL.LooseM]
set_option linter.unusedSimpArgs false
set_option linter.unusedVariables false
set_option maxRecDepth 20000 in
theorem is_A (s : Txt) (k : Nat) (bad : Bool) (c : UInt8) (S T : Store) (hs : s.length ≤ 65536) :
    CallA Tryz.prog 90 [.ptr S.length 0 0 0, .int .u8 c.toNat] (S ++ ⟨0, some (.arr 129 3 [[.str s, .int .i64 k, .bool bad]])⟩ :: T) fun r S' => r = .bool (!bad && decide (s[k]? = some c)) ∧ S' = S ++ ⟨0, some (.arr 129 3 [[.str s, .int .i64 k, .bool bad]])⟩ :: T := by
  refine CallA.keep Tryz.func90 c8049 (Nat.le_of_ble_eq_true rfl) fun σ hσ => ?_
  cases bad
  · cases hd : s[k]? with
    | none =>
      have hlt : ¬ (k : Int) < (s.length : Int) := by have := List.getElem?_eq_none_iff.1 hd; omega
      simp (disch := first | omega | (simp only [lenT]; omega)) only [a8049, hlt, ob_app, ob_app0, ob_cons, ob_head, Bool.not_false, decide_false, reduceCtorEq, Bool.and_false, ↓evPre, ↓evPreW, evPost, evPostW, evR, evU, seval]
    | some d =>
      have hlt : (k : Int) < (s.length : Int) := by have := (List.getElem?_eq_some_iff.1 hd).1; omega
      have he : decide ((d.toNat : Int) = (c.toNat : Int)) = decide (d = c) := by
        rw [decide_eq_decide, Int.ofNat_inj, UInt8.toNat_inj]
      simp (disch := first | omega | (simp only [lenT]; omega)) only [a8049, hlt, hd, he, ob_app, ob_app0, ob_cons, ob_head, Bool.not_false, decide_true, Option.some.injEq, Bool.true_and, ↓evPre, ↓evPreW, evPost, evPostW, evR, evU, seval]
  · simp (disch := first | omega | (simp only [lenT]; omega)) only [a8049, ob_app, ob_app0, ob_cons, ob_head, Bool.not_true, Bool.false_and, ↓evPre, ↓evPreW, evPost, evPostW, evR, evU, seval]
set_option maxRecDepth 20000 in
theorem refTag_A (s : Txt) (k : Nat) (S T : Store) (hs : s.length ≤ 65536) (hk : k ≤ s.length) :
    CallA Tryz.prog 89 [.ptr S.length 0 0 0] (S ++ ⟨0, some (.arr 129 3 [[.str s, .int .i64 k, .bool false]])⟩ :: T) fun r S' =>
      r = .str ((s.drop k).take (tagN 3 (s.drop k))) ∧ S' = S ++ ⟨0, some (.arr 129 3 [[.str s, .int .i64 (k + tagN 3 (s.drop k) : Nat), .bool (decide (tagN 3 (s.drop k) < 3))]])⟩ :: T := by
  refine CallA.keep Tryz.func89 c8048 (Nat.le_of_ble_eq_true rfl) fun σ hσ => ?_
  simp (disch := first | omega | (simp only [lenT]; omega)) only [a8048, ob_app, ob_app0, ob_cons, ob_head, se_app, se_app0, se_cons, se_head, ↓evPre, ↓evPreW, evPost, evPostW, evR, evU, seval]
  refine loopA (ι := Nat) (fun i => [(0, .ptr S.length 0 0 0), (3, .int .i64 k)]) (fun i => S ++ ⟨0, some (.arr 129 3 [[.str s, .int .i64 (k + i : Nat), .bool false]])⟩ :: T) (fun i => i ≤ 3 ∧ k + i ≤ s.length ∧ tagN 3 (s.drop k) = i + tagN (3 - i) (s.drop (k + i))) (fun i => 3 - i) 0 ⟨by omega, by omega, by simp⟩ ?_ rfl ?_
  · simp only [↓evPre, ↓evPreW, evPost, evPostW, evR, evU, seval]
  · rintro i ⟨hi, hki, ht⟩
    have stop : tagN 3 (s.drop k) = i → (k : Int) ≤ ((k + i : Nat) : Int) ∧ ((k + i : Nat) : Int) ≤ (s.length : Int) ∧ k + i - k = i ∧ decide (((k + i : Nat) : Int) < (k : Int) + 3) = decide (i < 3) := fun _ => ⟨by omega, by omega, by omega, by rw [decide_eq_decide]; omega⟩
    cases hc : s[k + i]? with
    | none =>
      have hlt : ¬ ((k + i : Nat) : Int) < (s.length : Int) := by have := List.getElem?_eq_none_iff.1 hc; omega
      rw [show s.drop (k + i) = [] from List.drop_eq_nil_of_le (by omega), tagN_nil] at ht
      obtain ⟨s1, s2, s3, s4⟩ := stop (by omega)
      rw [Nat.add_zero] at ht
      simp (disch := first | omega | (simp only [lenT]; omega)) only [hlt, ht, s1, s2, s3, s4, wrap_i64, ob_app, ob_app0, ob_cons, ob_head, se_app, se_app0, se_cons, se_head, and_self, if_true, ↓evPre, ↓evPreW, evPost, evPostW, evR, evU, seval]
    | some c =>
      have hlt : ((k + i : Nat) : Int) < (s.length : Int) := by have := (List.getElem?_eq_some_iff.1 hc).1; omega
      have e1 : (((k + i : Nat) : Int)).toNat = k + i := by omega
      have h0 : 0 ≤ ((k + i : Nat) : Int) := by omega
      by_cases hi3 : i = 3
      · subst hi3
        have hz : tagN 3 (s.drop k) = 3 := by rw [ht]; simp [tagN]
        obtain ⟨s1, s2, s3, s4⟩ := stop hz
        have hno : ¬ ((k + 3 : Nat) : Int) < (k : Int) + 3 := by omega
        simp (disch := first | omega | (simp only [lenT]; omega)) only [hlt, hz, hno, s1, s2, s3, decide_false, wrap_i64, ob_app, ob_app0, ob_cons, ob_head, se_app, se_app0, se_cons, se_head, and_self, if_true, ↓evPre, ↓evPreW, evPost, evPostW, evR, evU, seval]
      · have hlt3 : ((k + i : Nat) : Int) < (k : Int) + 3 := by omega
        rw [drop_cons hc, show 3 - i = (3 - (i + 1)) + 1 by omega] at ht
        by_cases h1 : 65 ≤ (c.toNat : Int)
        · by_cases h2 : (c.toNat : Int) ≤ 90
          · have hu : upC c = true := by simp [upC]; omega
            simp only [tagN, hu, if_true] at ht
            simp (disch := first | omega | (simp only [lenT]; omega)) only [hlt, hlt3, e1, h0, hc, h1, h2, decide_true, wrap_i64, ob_app, ob_app0, ob_cons, ob_head, se_app, se_app0, se_cons, se_head, ↓evPre, ↓evPreW, evPost, evPostW, evR, evU, seval]
            refine ⟨i + 1, ⟨by omega, by omega, ?_⟩, by omega, rfl⟩
            rw [ht, Nat.add_assoc k i 1]
            omega
          · have hu : upC c = false := by simp [upC]; omega
            have hz : tagN 3 (s.drop k) = i := by simpa [tagN, hu] using ht
            obtain ⟨s1, s2, s3, s4⟩ := stop hz
            simp (disch := first | omega | (simp only [lenT]; omega)) only [hlt, hlt3, e1, h0, hc, h1, h2, hz, s1, s2, s3, s4, decide_true, decide_false, wrap_i64, ob_app, ob_app0, ob_cons, ob_head, se_app, se_app0, se_cons, se_head, and_self, if_true, ↓evPre, ↓evPreW, evPost, evPostW, evR, evU, seval]
            rw [decide_eq_true (show i < 3 by omega)]
        · have hu : upC c = false := by simp [upC]; omega
          have hz : tagN 3 (s.drop k) = i := by simpa [tagN, hu] using ht
          obtain ⟨s1, s2, s3, s4⟩ := stop hz
          simp (disch := first | omega | (simp only [lenT]; omega)) only [hlt, hlt3, e1, h0, hc, h1, hz, s1, s2, s3, s4, decide_true, decide_false, wrap_i64, ob_app, ob_app0, ob_cons, ob_head, se_app, se_app0, se_cons, se_head, and_self, if_true, ↓evPre, ↓evPreW, evPost, evPostW, evR, evU, seval]
          rw [decide_eq_true (show i < 3 by omega)]
end Go.Proofs.YtlnpfnoemhjheaaGreatDoor.Ed
