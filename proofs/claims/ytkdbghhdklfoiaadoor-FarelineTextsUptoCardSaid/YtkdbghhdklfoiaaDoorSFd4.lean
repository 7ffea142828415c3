/- The reference's quoted texts: Quote. -/
import Derived.Test.YtkdbghhdklfoiaaDoorSFe1
namespace Go.Proofs.YtkdbghhdklfoiaaDoor
open Go Go.AL Go.RowKit
set_option linter.unusedSectionVars false
variable [Go.AL.Mode] [Go.AL.LooseM]
set_option linter.unusedSimpArgs false
set_option linter.unusedVariables false
theorem flat_at {s : Txt} {k : Nat} {c : UInt8} (h : s[k]? = some c) : (s.take (k + 1)).flatMap qC = (s.take k).flatMap qC ++ qC c := by
  rw [take_at h, List.flatMap_append]
  simp
theorem hexT_at (k : Nat) (h : k < 16) : hexT[k]? = some (hexT[k]?.getD 0) := by
  rw [List.getElem?_eq_getElem (by show k < 16; omega)]
  rfl
theorem dv16 (c : UInt8) : IntKind.u8.wrap ((c.toNat : Int).tdiv 16) = ((c.toNat / 16 : Nat) : Int) ∧ (c.toNat : Int).tmod 16 = ((c.toNat % 16 : Nat) : Int) :=
  b256 (P := fun c => IntKind.u8.wrap ((c.toNat : Int).tdiv 16) = ((c.toNat / 16 : Nat) : Int) ∧ (c.toNat : Int).tmod 16 = ((c.toNat % 16 : Nat) : Int)) (by decide +kernel) c
set_option maxHeartbeats 2000000 in
theorem quote_A (s : Txt) (hs : s.length ≤ 1000000) (S : Store) : CallA Tryd.prog 66 [.str s] S fun r S' => r = .str (quoF s) ∧ S' = S := by
  refine CallA.withNeat Tryd.func66 c10066 fun hn => ?_
  refine CallA.fin Tryd.func66 c10066 (Nat.le_of_ble_eq_true rfl) fun σ hσ => ?_
  have hxi := hexT_at
  unfold hexT at hxi
  simp (disch := first | omega | (simp only [lenT]; omega)) only [a10066, evSt, ↓evPre, ↓evPreW, evPost, evPostW, evR, evU, seval]
  try refine ⟨by unfold roomA; omega, ?_⟩
  refine loopF (ι := Nat × V × Store) (fun i => [(0, .str s), (3, i.2.1), (4, .int .i64 i.1)]) (fun i => i.2.2)
    (fun i => i.1 ≤ s.length ∧ LG S 5 1 (byteRows (34 :: (s.take i.1).flatMap qC)) i.2.1 i.2.2) (fun i => s.length - i.1)
    (fun i hi => by rw [hσ]; obtain ⟨T, hT⟩ := hi.2.ext; rw [hT]; simp) (0, .msl S.length 0 0 1, S ++ [⟨0, some (.arr 5 1 [[.int .u8 34]])⟩]) ⟨Nat.zero_le _, ⟨⟨_, rfl⟩, .inr ⟨S.length, 0, Nat.le_refl _, rfl, ob_app0.trans ob_head⟩⟩⟩ (.inl ⟨?_, rfl⟩) ?_
  · simp only [↓evPre, ↓evPreW, evPost, evPostW, evR, evU, seval]
    try rfl
  rintro ⟨k, v, S1⟩ ⟨hk, hg⟩
  simp only at hk hg ⊢
  have hfl := flat_len (s.take k)
  rw [List.length_take] at hfl
  have hrl : (byteRows (34 :: (s.take k).flatMap qC)).length ≤ 4 * k + 1 := by rw [byteRows_len, List.length_cons]; omega
  cases hc : s[k]? with
  | none =>
    have hge : s.length ≤ k := List.getElem?_eq_none_iff.1 hc
    have hlt : ¬ ((k : Int) < s.length) := by omega
    rw [List.take_of_length_le hge] at hg hrl
    simp (disch := first | omega | (simp only [lenT]; omega)) only [dF hlt, evSt, ↓evPre, ↓evPreW, evPost, evPostW, evR, evU, seval]
    refine hg.app (by rw [List.length_singleton]; omega) fun v' S2 h2 => ?_
    rw [show byteRows (34 :: s.flatMap qC) ++ [[V.int .u8 34]] = byteRows (34 :: (s.flatMap qC ++ [34])) by rw [← List.cons_append, byteRows_app]; rfl] at h2
    have hb := LG_b2s h2
    simp (disch := first | omega | (simp only [lenT]; omega)) only [hb, evSt, ↓evPre, ↓evPreW, evPost, evPostW, evR, evU, seval]
    exact ⟨_, S, h2.fgt hn, .imm rfl, Nat.le_refl _, rfl, rfl⟩
  | some c =>
    have hlt' := (List.getElem?_eq_some_iff.1 hc).1
    have hlt : ((k : Int) < s.length) := by omega
    have hk1 : (k : Int) + 1 = ((k + 1 : Nat) : Int) := by omega
    have hfa := flat_at hc
    obtain ⟨xh, hx, hxe⟩ : ∃ x, [48, 49, 50, 51, 52, 53, 54, 55, 56, 57, 97, 98, 99, 100, 101, 102][c.toNat / 16]? = some x ∧ x = hxH c := ⟨_, hxi (c.toNat / 16) (by have := c.toNat_lt; omega), rfl⟩
    obtain ⟨xl, hy, hye⟩ : ∃ x, [48, 49, 50, 51, 52, 53, 54, 55, 56, 57, 97, 98, 99, 100, 101, 102][c.toNat % 16]? = some x ∧ x = hxL c := ⟨_, hxi (c.toNat % 16) (by omega), rfl⟩
    have next : ∀ v' S2, LG S 5 1 (byteRows (34 :: (s.take k).flatMap qC) ++ byteRows (qC c)) v' S2 → LG S 5 1 (byteRows (34 :: (s.take (k + 1)).flatMap qC)) v' S2 := fun v' S2 h => by
      rw [hfa, ← List.cons_append, byteRows_app]
      exact h
    by_cases q1 : c.toNat < 32 ∨ 126 < c.toNat
    · have hq := qC_hex q1
      have q1' : decide ((c.toNat : Int) < 32) = true ∨ (decide ((c.toNat : Int) < 32) = false ∧ decide (126 < (c.toNat : Int)) = true) := by
        rcases q1 with h | h
        · exact .inl (dT (by omega))
        · by_cases h2 : c.toNat < 32
          · exact .inl (dT (by omega))
          · exact .inr ⟨dF (by omega), dT (by omega)⟩
      rcases q1' with q | ⟨q, q'⟩
      · simp (disch := first | omega | (simp only [lenT]; omega)) only [dT hlt, hc, q, (dv16 c).1, (dv16 c).2, hx, hy, evSt, ↓evPre, ↓evPreW, evPost, evPostW, evR, evU, seval]
        refine hg.app (by simp only [List.length_cons, List.length_nil]; omega) fun v' S2 h2 => ?_
        have h3 := next v' S2 (by rw [hq, ← hxe, ← hye]; exact h2)
        simp (disch := first | omega | (simp only [lenT]; omega)) only [wrap_i64, hk1, evSt, ↓evPre, ↓evPreW, evPost, evPostW, evR, evU, seval]
        exact ⟨(k + 1, v', S2), ⟨by simp only; omega, h3⟩, by simp only; omega, .inl ⟨by simp only [↓evPre, ↓evPreW, evPost, evPostW, evR, evU, seval]; try rfl, rfl⟩⟩
      · simp (disch := first | omega | (simp only [lenT]; omega)) only [dT hlt, hc, q, q', (dv16 c).1, (dv16 c).2, hx, hy, evSt, ↓evPre, ↓evPreW, evPost, evPostW, evR, evU, seval]
        refine hg.app (by simp only [List.length_cons, List.length_nil]; omega) fun v' S2 h2 => ?_
        have h3 := next v' S2 (by rw [hq, ← hxe, ← hye]; exact h2)
        simp (disch := first | omega | (simp only [lenT]; omega)) only [wrap_i64, hk1, evSt, ↓evPre, ↓evPreW, evPost, evPostW, evR, evU, seval]
        exact ⟨(k + 1, v', S2), ⟨by simp only; omega, h3⟩, by simp only; omega, .inl ⟨by simp only [↓evPre, ↓evPreW, evPost, evPostW, evR, evU, seval]; try rfl, rfl⟩⟩
    have p1 : ¬ (c.toNat : Int) < 32 := by omega
    have p2 : ¬ 126 < (c.toNat : Int) := by omega
    by_cases q2 : c.toNat = 34 ∨ c.toNat = 92
    · have hq := qC_esc q2
      have two : ∀ v' S2, LG S 5 1 (byteRows (34 :: (s.take k).flatMap qC) ++ [[V.int .u8 92]]) v' S2 → ∀ v2 S3, LG S 5 1 ((byteRows (34 :: (s.take k).flatMap qC) ++ [[V.int .u8 92]]) ++ [[V.int .u8 c.toNat]]) v2 S3 → LG S 5 1 (byteRows (34 :: (s.take (k + 1)).flatMap qC)) v2 S3 := fun v' S2 _ v2 S3 h => next v2 S3 (by rw [hq]; rw [List.append_assoc] at h; exact h)
      by_cases r1 : (c.toNat : Int) = 34
      · simp (disch := first | omega | (simp only [lenT]; omega)) only [dT hlt, hc, dF p1, dF p2, r1, evSt, ↓evPre, ↓evPreW, evPost, evPostW, evR, evU, seval]
        refine hg.app (by simp only [List.length_cons, List.length_nil]; omega) fun v' S2 h2 => ?_
        simp (disch := first | omega | (simp only [lenT]; omega)) only [r1, evSt, ↓evPre, ↓evPreW, evPost, evPostW, evR, evU, seval]
        refine h2.app (by simp only [List.length_append, List.length_cons, List.length_nil]; omega) fun v2 S3 h4 => ?_
        rw [← r1] at h4
        have h3 := two v' S2 h2 v2 S3 h4
        simp (disch := first | omega | (simp only [lenT]; omega)) only [wrap_i64, hk1, evSt, ↓evPre, ↓evPreW, evPost, evPostW, evR, evU, seval]
        exact ⟨(k + 1, v2, S3), ⟨by simp only; omega, h3⟩, by simp only; omega, .inl ⟨by simp only [↓evPre, ↓evPreW, evPost, evPostW, evR, evU, seval]; try rfl, rfl⟩⟩
      · have r2 : (c.toNat : Int) = 92 := by omega
        simp (disch := first | omega | (simp only [lenT]; omega)) only [dT hlt, hc, dF p1, dF p2, dF r1, r2, evSt, ↓evPre, ↓evPreW, evPost, evPostW, evR, evU, seval]
        refine hg.app (by simp only [List.length_cons, List.length_nil]; omega) fun v' S2 h2 => ?_
        simp (disch := first | omega | (simp only [lenT]; omega)) only [r2, evSt, ↓evPre, ↓evPreW, evPost, evPostW, evR, evU, seval]
        refine h2.app (by simp only [List.length_append, List.length_cons, List.length_nil]; omega) fun v2 S3 h4 => ?_
        rw [← r2] at h4
        have h3 := two v' S2 (by rw [← r2] at h2 ⊢; exact h2) v2 S3 (by rw [r2] at h4 ⊢; exact h4)
        simp (disch := first | omega | (simp only [lenT]; omega)) only [wrap_i64, hk1, evSt, ↓evPre, ↓evPreW, evPost, evPostW, evR, evU, seval]
        exact ⟨(k + 1, v2, S3), ⟨by simp only; omega, h3⟩, by simp only; omega, .inl ⟨by simp only [↓evPre, ↓evPreW, evPost, evPostW, evR, evU, seval]; try rfl, rfl⟩⟩
    · have hq := qC_own q1 q2
      have r1 : ¬ (c.toNat : Int) = 34 := by omega
      have r2 : ¬ (c.toNat : Int) = 92 := by omega
      simp (disch := first | omega | (simp only [lenT]; omega)) only [dT hlt, hc, dF p1, dF p2, dF r1, dF r2, evSt, ↓evPre, ↓evPreW, evPost, evPostW, evR, evU, seval]
      refine hg.app (by simp only [List.length_cons, List.length_nil]; omega) fun v' S2 h2 => ?_
      have h3 := next v' S2 (by rw [hq]; exact h2)
      simp (disch := first | omega | (simp only [lenT]; omega)) only [wrap_i64, hk1, evSt, ↓evPre, ↓evPreW, evPost, evPostW, evR, evU, seval]
      exact ⟨(k + 1, v', S2), ⟨by simp only; omega, h3⟩, by simp only; omega, .inl ⟨by simp only [↓evPre, ↓evPreW, evPost, evPostW, evR, evU, seval]; try rfl, rfl⟩⟩
end Go.Proofs.YtkdbghhdklfoiaaDoor
/- The reference's quoted texts: where a word ends, Unquote. -/
namespace Go.Proofs.YtkdbghhdklfoiaaDoor
open Go Go.AL Go.RowKit
set_option linter.unusedSectionVars false
variable [Go.AL.Mode] [Go.AL.LooseM]
set_option linter.unusedSimpArgs false
set_option linter.unusedVariables false
theorem end_A (s : Txt) (i : Nat) (hs : s.length ≤ 1000000) (hi : i ≤ s.length) (S : Store) : CallA Tryd.prog 67 [.str s, .int .i64 (i : Nat)] S fun r S' => r = .int .i64 (((i + eN (s.drop i) : Nat)) : Int) ∧ S' = S := by
  refine CallA.keep Tryd.func67 c10067 (Nat.le_of_ble_eq_true rfl) fun σ hσ => ?_
  have two : ∀ S : Store, (∀ c, s[i]? = some c → c.toNat ≠ 34) → i + eN (s.drop i) = i + bN (s.drop i) := fun S h => by
    cases hc : s[i]? with
    | none => rw [List.drop_of_length_le (List.getElem?_eq_none_iff.1 hc)]; rfl
    | some c => rw [drop_at hc, eN, if_neg (h c hc)]
  have plainP : (∀ c, s[i]? = some c → c.toNat ≠ 34) → True := fun _ => trivial
  cases hc : s[i]? with
  | none =>
    have hge : s.length ≤ i := List.getElem?_eq_none_iff.1 hc
    have hlt : ¬ ((i : Int) < s.length) := by omega
    rw [List.drop_of_length_le hge]
    simp (disch := first | omega | (simp only [lenT]; omega)) only [a10067, dF hlt, evSt, ↓evPre, ↓evPreW, evPost, evPostW, evR, evU, seval]
    refine loopA (ι := Nat) (fun k => [(0, .str s), (5, .int .i64 (k : Nat))]) (fun _ => S) (fun k => k = i) (fun k => 0) i rfl ?_ rfl ?_
    · simp only [↓evPre, ↓evPreW, evPost, evPostW, evR, evU, seval]
      try rfl
    rintro k rfl
    simp (disch := first | omega | (simp only [lenT]; omega)) only [dF hlt, evSt, ↓evPre, ↓evPreW, evPost, evPostW, evR, evU, seval]
    rfl
  | some c =>
    have hlt' := (List.getElem?_eq_some_iff.1 hc).1
    have hlt : ((i : Int) < s.length) := by omega
    have hi1 : (i : Int) + 1 = ((i + 1 : Nat) : Int) := by omega
    by_cases q : (c.toNat : Int) = 34
    · have he : i + eN (s.drop i) = min s.length (i + 1 + qLen (s.drop (i + 1))) := by
        rw [drop_at hc, eN, if_pos (by omega)]
        have := qLen_le (s.drop (i + 1))
        rw [List.length_drop] at this
        omega
      simp (disch := first | omega | (simp only [lenT]; omega)) only [a10067, dT hlt, hc, q, wrap_i64, hi1, evSt, ↓evPre, ↓evPreW, evPost, evPostW, evR, evU, seval]
      refine loopA (ι := Nat) (fun k => [(0, .str s), (5, .int .i64 (k : Nat))]) (fun _ => S) (fun k => k ≤ s.length + 1 ∧ i + eN (s.drop i) = min s.length (k + qLen (s.drop k))) (fun k => s.length + 2 - k) (i + 1) ⟨by omega, he⟩ ?_ rfl ?_
      · simp only [↓evPre, ↓evPreW, evPost, evPostW, evR, evU, seval]
        try rfl
      rintro k ⟨hk, hq⟩
      cases hd : s[k]? with
      | none =>
        have hge : s.length ≤ k := List.getElem?_eq_none_iff.1 hd
        have hlk : ¬ ((k : Int) < s.length) := by omega
        have hgk : ((s.length : Nat) : Int) ≤ k := by omega
        rw [List.drop_of_length_le hge] at hq
        have hq' : i + eN (s.drop i) = s.length := by rw [hq]; show min s.length (k + 0) = _; omega
        rw [hq']
        simp (disch := first | omega | (simp only [lenT]; omega)) only [dF hlk, dT hgk, evSt, ↓evPre, ↓evPreW, evPost, evPostW, evR, evU, seval]
      | some d =>
        have hlk' := (List.getElem?_eq_some_iff.1 hd).1
        have hlk : ((k : Int) < s.length) := by omega
        have hgk : ¬ ((s.length : Nat) : Int) ≤ k := by omega
        have hk1 : (k : Int) + 1 = ((k + 1 : Nat) : Int) := by omega
        have hk2 : ((k + 1 : Nat) : Int) + 1 = ((k + 2 : Nat) : Int) := by omega
        rw [drop_at hd] at hq
        by_cases d1 : (d.toNat : Int) = 34
        · have hde : d = 34 := UInt8.toNat_inj.1 (by show d.toNat = 34; omega)
          rw [hde, qLen_q] at hq
          have hq' : i + eN (s.drop i) = k + 1 := by omega
          rw [hq']
          simp (disch := first | omega | (simp only [lenT]; omega)) only [dT hlk, dF hgk, hd, d1, wrap_i64, hk1, evSt, ↓evPre, ↓evPreW, evPost, evPostW, evR, evU, seval]
        by_cases d2 : (d.toNat : Int) = 92
        · have hde : d = 92 := UInt8.toNat_inj.1 (by show d.toNat = 92; omega)
          simp (disch := first | omega | (simp only [lenT]; omega)) only [dT hlk, hd, dF d1, d2, wrap_i64, hk1, hk2, evSt, ↓evPre, ↓evPreW, evPost, evPostW, evR, evU, seval]
          refine ⟨k + 2, ⟨by omega, ?_⟩, by omega, by first | rfl | exact ⟨rfl, rfl⟩ | exact ⟨rfl, rfl, rfl⟩⟩
          rw [hq, hde]
          cases hd2 : s[k + 1]? with
          | none =>
            have hge := List.getElem?_eq_none_iff.1 hd2
            rw [List.drop_of_length_le hge, List.drop_of_length_le (show s.length ≤ k + 2 by omega)]
            show min s.length (k + 1) = min s.length (k + 2 + 0)
            omega
          | some d' =>
            rw [drop_at hd2, qLen_b, show k + 1 + 1 = k + 2 from rfl]
            omega
        · simp (disch := first | omega | (simp only [lenT]; omega)) only [dT hlk, hd, dF d1, dF d2, wrap_i64, hk1, evSt, ↓evPre, ↓evPreW, evPost, evPostW, evR, evU, seval]
          refine ⟨k + 1, ⟨by omega, ?_⟩, by omega, by first | rfl | exact ⟨rfl, rfl⟩ | exact ⟨rfl, rfl, rfl⟩⟩
          rw [hq, qLen_c (by omega) (by omega)]
          omega
    · have he : i + eN (s.drop i) = i + bN (s.drop i) := by rw [drop_at hc, eN, if_neg (by omega)]
      simp (disch := first | omega | (simp only [lenT]; omega)) only [a10067, dT hlt, hc, dF q, evSt, ↓evPre, ↓evPreW, evPost, evPostW, evR, evU, seval]
      refine loopA (ι := Nat) (fun k => [(0, .str s), (5, .int .i64 (k : Nat))]) (fun _ => S) (fun k => k ≤ s.length ∧ i + eN (s.drop i) = k + bN (s.drop k)) (fun k => s.length - k) i ⟨by omega, he⟩ ?_ rfl ?_
      · simp only [↓evPre, ↓evPreW, evPost, evPostW, evR, evU, seval]
        try rfl
      rintro k ⟨hk, hq⟩
      cases hd : s[k]? with
      | none =>
        have hge : s.length ≤ k := List.getElem?_eq_none_iff.1 hd
        have hlk : ¬ ((k : Int) < s.length) := by omega
        rw [List.drop_of_length_le hge] at hq
        rw [hq]
        simp (disch := first | omega | (simp only [lenT]; omega)) only [dF hlk, evSt, ↓evPre, ↓evPreW, evPost, evPostW, evR, evU, seval]
        rfl
      | some d =>
        have hlk' := (List.getElem?_eq_some_iff.1 hd).1
        have hlk : ((k : Int) < s.length) := by omega
        have hk1 : (k : Int) + 1 = ((k + 1 : Nat) : Int) := by omega
        rw [drop_at hd, bN] at hq
        by_cases d1 : (d.toNat : Int) = 32
        · rw [if_pos (by omega)] at hq
          rw [hq]
          simp (disch := first | omega | (simp only [lenT]; omega)) only [dT hlk, hd, d1, evSt, ↓evPre, ↓evPreW, evPost, evPostW, evR, evU, seval]
          try rfl
        · rw [if_neg (by omega)] at hq
          simp (disch := first | omega | (simp only [lenT]; omega)) only [dT hlk, hd, dF d1, wrap_i64, hk1, evSt, ↓evPre, ↓evPreW, evPost, evPostW, evR, evU, seval]
          exact ⟨k + 1, ⟨by omega, by omega⟩, by omega, by first | rfl | exact ⟨rfl, rfl⟩ | exact ⟨rfl, rfl, rfl⟩⟩
theorem hx_add : ∀ h l : Fin 16, IntKind.u8.wrap (IntKind.i64.wrap (IntKind.i64.wrap (16 * (h.val : Int)) + (l.val : Int))) = ((hxB h.val l.val).toNat : Int) := by decide +kernel
set_option maxHeartbeats 2000000 in
theorem runq_A (s : Txt) (hs : s.length ≤ 1000000) (hne : 1 ≤ s.length) (S : Store) : CallA Tryd.prog 68 [.str s] S fun r S' => r = unqV (rU s) ∧ S' = S := by
  refine CallA.withNeat Tryd.func68 c10068 fun hn => ?_
  refine CallA.fin Tryd.func68 c10068 (Nat.le_of_ble_eq_true rfl) fun σ hσ => ?_
  simp (disch := first | omega | (simp only [lenT]; omega)) only [a10068, evSt, ↓evPre, ↓evPreW, evPost, evPostW, evR, evU, seval]
  refine loopF (ι := Nat × Nat × Txt × V × Store) (fun i => [(0, .str s), (4, i.2.2.2.1), (5, .int .i64 i.1)]) (fun i => i.2.2.2.2)
    (fun i => i.1 ≤ s.length ∧ s.length < i.1 + i.2.1 ∧ i.2.2.1.length ≤ i.1 ∧ rui (s.length + 1) (s.drop 1) = (rui i.2.1 (s.drop i.1)).map (fun x => i.2.2.1 ++ x) ∧ LG S 5 1 (byteRows i.2.2.1) i.2.2.2.1 i.2.2.2.2) (fun i => s.length - i.1)
    (fun i hi => by rw [hσ]; obtain ⟨T, hT⟩ := hi.2.2.2.2.ext; rw [hT]; simp) (1, s.length + 1, [], .nilSl, S) ⟨hne, by simp only; omega, Nat.zero_le _, by simp, LG.nil0⟩ (.inl ⟨?_, rfl⟩) ?_
  · simp only [↓evPre, ↓evPreW, evPost, evPostW, evR, evU, seval]
    try rfl
  rintro ⟨i, n, acc, v, S1⟩ ⟨hi, hf, hacl, hu, hg⟩
  simp only at hi hf hacl hu hg ⊢
  obtain ⟨m, rfl⟩ : ∃ m, n = m + 1 := ⟨n - 1, by omega⟩
  have badL : rui (s.length + 1) (s.drop 1) = none → ∃ r1 S2, Fgt S1 S2 ∧ Frz S1 S2 (.tup [.str [], .int .i64 3]) r1 ∧ S.length ≤ S2.length ∧ r1 = unqV (rU s) ∧ S2 = S := fun h => ⟨_, S, hg.fgt hn, .imm rfl, Nat.le_refl _, by unfold rU; rw [h]; rfl, rfl⟩
  by_cases hlt : (i : Int) < (s.length : Int) - 1
  case neg =>
    have hr : rui (m + 1) (s.drop i) = some [] := by
      match hd : s.drop i with
      | [] => rfl
      | [_] => rfl
      | a :: b :: r =>
        have := congrArg List.length hd
        rw [List.length_drop] at this
        simp at this
        omega
    rw [hr] at hu
    simp only [Option.map_some, List.append_nil] at hu
    have hb := LG_b2s hg
    have qa := quote_A acc (by omega)
    simp (disch := first | omega | (simp only [lenT]; omega)) only [dF hlt, hb, wrap_i64, evSt, ↓evPre, ↓evPreW, evPost, evPostW, evR, evU, seval]
    refine (qa _).then ?_
    by_cases he : quoF acc = s
    · simp (disch := first | omega | (simp only [lenT]; omega)) only [dT he, hb, evSt, ↓evPre, ↓evPreW, evPost, evPostW, evR, evU, seval]
      exact ⟨_, S, hg.fgt hn, .imm rfl, Nat.le_refl _, by unfold rU; rw [hu]; simp only; rw [if_pos he]; rfl, rfl⟩
    · simp (disch := first | omega | (simp only [lenT]; omega)) only [dF he, evSt, ↓evPre, ↓evPreW, evPost, evPostW, evR, evU, seval]
      exact ⟨_, S, hg.fgt hn, .imm rfl, Nat.le_refl _, by unfold rU; rw [hu]; simp only; rw [if_neg he]; rfl, rfl⟩
  have hi1 : (i : Int) + 1 = ((i + 1 : Nat) : Int) := by omega
  have hi2 : ((i + 1 : Nat) : Int) + 1 = ((i + 2 : Nat) : Int) := by omega
  obtain ⟨c, hc⟩ : ∃ c, s[i]? = some c := ⟨_, List.getElem?_eq_getElem (by omega)⟩
  obtain ⟨d, hd⟩ : ∃ d, s[i + 1]? = some d := ⟨_, List.getElem?_eq_getElem (by omega)⟩
  rw [drop_at hc, drop_at hd, rui] at hu
  by_cases q1 : (c.toNat : Int) = 92
  case neg =>
    rw [if_pos (by omega), ← drop_at hd] at hu
    simp (disch := first | omega | (simp only [lenT]; omega)) only [dT hlt, hc, dF q1, wrap_i64, evSt, ↓evPre, ↓evPreW, evPost, evPostW, evR, evU, seval]
    refine hg.app (by rw [byteRows_len]; simp; omega) fun v' S2 h2 => ?_
    rw [show byteRows acc ++ [[V.int .u8 c.toNat]] = byteRows (acc ++ [c]) by rw [byteRows_app]; rfl] at h2
    simp (disch := first | omega | (simp only [lenT]; omega)) only [wrap_i64, hi1, evSt, ↓evPre, ↓evPreW, evPost, evPostW, evR, evU, seval]
    refine ⟨(i + 1, m, acc ++ [c], v', S2), ⟨by simp only; omega, by simp only; omega, by simp; omega, ?_, h2⟩, by simp only; omega, .inl ⟨by simp only [↓evPre, ↓evPreW, evPost, evPostW, evR, evU, seval]; try rfl, rfl⟩⟩
    rw [hu, Option.map_map]
    congr 1
    funext x
    simp
  rw [if_neg (by omega)] at hu
  by_cases q2 : (d.toNat : Int) = 120
  case neg =>
    rw [if_pos (by omega)] at hu
    simp (disch := first | omega | (simp only [lenT]; omega)) only [dT hlt, hc, hd, q1, dF q2, wrap_i64, hi1, evSt, ↓evPre, ↓evPreW, evPost, evPostW, evR, evU, seval]
    refine hg.app (by rw [byteRows_len]; simp; omega) fun v' S2 h2 => ?_
    rw [show byteRows acc ++ [[V.int .u8 d.toNat]] = byteRows (acc ++ [d]) by rw [byteRows_app]; rfl] at h2
    simp (disch := first | omega | (simp only [lenT]; omega)) only [wrap_i64, hi2, evSt, ↓evPre, ↓evPreW, evPost, evPostW, evR, evU, seval]
    refine ⟨(i + 2, m, acc ++ [d], v', S2), ⟨by simp only; omega, by simp only; omega, by simp; omega, ?_, h2⟩, by simp only; omega, .inl ⟨by simp only [↓evPre, ↓evPreW, evPost, evPostW, evR, evU, seval]; try rfl, rfl⟩⟩
    rw [hu, Option.map_map]
    congr 1
    funext x
    simp
  rw [if_neg (by omega)] at hu
  have hi3 : ((i + 1 : Nat) : Int) + 2 = ((i + 3 : Nat) : Int) := by omega
  have hi4 : ((i + 3 : Nat) : Int) + 1 = ((i + 4 : Nat) : Int) := by omega
  cases hb3 : s[i + 3]? with
  | none =>
    have hge := List.getElem?_eq_none_iff.1 hb3
    have hgi : ((s.length : Nat) : Int) ≤ ((i + 3 : Nat) : Int) := by omega
    have hu' : rui (s.length + 1) (s.drop 1) = none := by
      rw [hu]
      match hd2 : s.drop (i + 1 + 1) with
      | [] => rfl
      | [_] => rfl
      | a :: b :: r =>
        exfalso
        have := congrArg List.length hd2
        rw [List.length_drop] at this
        simp at this
        omega
    simp (disch := first | omega | (simp only [lenT]; omega)) only [dT hlt, hc, hd, q1, q2, wrap_i64, hi1, hi3, dT hgi, evSt, ↓evPre, ↓evPreW, evPost, evPostW, evR, evU, seval]
    exact badL hu'
  | some b =>
    have hlb := (List.getElem?_eq_some_iff.1 hb3).1
    have hgi : ¬ ((s.length : Nat) : Int) ≤ ((i + 3 : Nat) : Int) := by omega
    obtain ⟨a, ha⟩ : ∃ a, s[i + 2]? = some a := ⟨_, List.getElem?_eq_getElem (by omega)⟩
    rw [show i + 1 + 1 = i + 2 from rfl, drop_at ha, drop_at hb3, hx2] at hu
    simp (disch := first | omega | (simp only [lenT]; omega)) only [dT hlt, hc, hd, q1, q2, wrap_i64, hi1, hi2, hi3, ha, hb3, dF hgi, evSt, ↓evPre, ↓evPreW, evPost, evPostW, evR, evU, seval]
    refine (rhex_A a _).then ?_
    by_cases n1 : hexF a < 0
    · rw [if_pos (.inl n1)] at hu
      simp (disch := first | omega | (simp only [lenT]; omega)) only [dT n1, evSt, ↓evPre, ↓evPreW, evPost, evPostW, evR, evU, seval]
      exact badL hu
    simp (disch := first | omega | (simp only [lenT]; omega)) only [dF n1, wrap_i64, hi2, hi3, ha, hb3, evSt, ↓evPre, ↓evPreW, evPost, evPostW, evR, evU, seval]
    refine (rhex_A b _).then ?_
    by_cases n2 : hexF b < 0
    · rw [if_pos (.inr n2)] at hu
      simp (disch := first | omega | (simp only [lenT]; omega)) only [dT n2, evSt, ↓evPre, ↓evPreW, evPost, evPostW, evR, evU, seval]
      exact badL hu
    rw [if_neg (by omega)] at hu
    simp only at hu
    simp (disch := first | omega | (simp only [lenT]; omega)) only [dF n2, wrap_i64, hi2, hi3, ha, hb3, evSt, ↓evPre, ↓evPreW, evPost, evPostW, evR, evU, seval]
    refine (rhex_A a _).then ?_
    simp (disch := first | omega | (simp only [lenT]; omega)) only [evSt, ↓evPre, ↓evPreW, evPost, evPostW, evR, evU, seval]
    refine (rhex_A b _).then ?_
    obtain ⟨h, hh⟩ : ∃ h : Fin 16, (h.val : Int) = hexF a := by
      have := hexF_rng a
      exact ⟨⟨(hexF a).toNat, by omega⟩, by simp only; omega⟩
    obtain ⟨l, hl⟩ : ∃ l : Fin 16, (l.val : Int) = hexF b := by
      have := hexF_rng b
      exact ⟨⟨(hexF b).toNat, by omega⟩, by simp only; omega⟩
    have ho := hx_add h l
    rw [hh, hl] at ho
    simp (disch := first | omega | (simp only [lenT]; omega)) only [ho, evSt, ↓evPre, ↓evPreW, evPost, evPostW, evR, evU, seval]
    refine hg.app (by rw [byteRows_len]; simp; omega) fun v' S2 h2 => ?_
    rw [show byteRows acc ++ [[V.int .u8 (hxB (hexF a) (hexF b)).toNat]] = byteRows (acc ++ [hxB (hexF a) (hexF b)]) by rw [byteRows_app]; rfl] at h2
    simp (disch := first | omega | (simp only [lenT]; omega)) only [wrap_i64, hi1, hi3, hi4, evSt, ↓evPre, ↓evPreW, evPost, evPostW, evR, evU, seval]
    refine ⟨(i + 4, m, acc ++ [hxB (hexF a) (hexF b)], v', S2), ⟨by simp only; omega, by simp only; omega, by simp; omega, ?_, h2⟩, by simp only; omega, .inl ⟨by simp only [↓evPre, ↓evPreW, evPost, evPostW, evR, evU, seval]; try rfl, rfl⟩⟩
    rw [hu, Option.map_map]
    congr 1
    funext x
    simp
end Go.Proofs.YtkdbghhdklfoiaaDoor
